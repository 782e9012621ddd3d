/-
  Appends to, and a copy into, bytes of one's own within a drawn region. No condition.
-/
import Derived.Test.YtpididcghilbjaaAppX
import Derived.Test.YtpididcghilbjaaPadM
import Derived.Test.YtpididcghilbjaaOwnMore
namespace Go.Proofs.Ytpididcghilbjaa
open Go.RowKit

/-- New bytes, within a region. -/
def rdM (out : List UInt8) : Sm := .such (fun g w x => Rd w x out ∧ ∀ b, x.ownBlock = some b → b < w.heap.size ∧ ¬ g.priv b)
  (fun g w g' w' x k h => ⟨h.1.keep k.keep (fun b hb => (h.2 b hb).2), fun b hb => ⟨Nat.lt_of_lt_of_le (h.2 b hb).1 k.keep.size, fun hp => by
    rcases k.priv b hp with h1 | h1
    · exact (h.2 b hb).2 h1
    · have := (h.2 b hb).1; omega⟩⟩)
theorem rdM_new {w1 w2 : World} {g : Gh} {S0 : Nat → Prop} {w0 : World} {v : Value} {out : List UInt8} (hb : Base S0 w0 g w1) (r : Rd w2 v out) (hl : Under w2.heap.size v) (hs : Since w1.heap.size v) : (rdM out).ok g w2 v :=
  ⟨r, fun b hb' => ⟨hl b hb', fun hp => by have := (hb b hp).1; have := hs b hb'; omega⟩⟩
/-- What an append of bytes comes to. -/
def apB (e : TypeId) (N : Nat) (u : Value) (l : List UInt8) : Sm := .such (fun g w x => Own e w x l ∧ Later N u x ∧ ∀ b, x.ownBlock = some b → ¬ g.priv b)
  (fun g w g' w' x k h => ⟨h.1.keep k.keep h.2.2, h.2.1, fun b hb hp => by
    rcases k.priv b hp with h1 | h1
    · exact h.2.2 b hb h1
    · have := h.1.lt b hb; omega⟩)
abbrev ubS (u : Value) : Nat → Prop := fun k => u.ownBlock = some k
/-- Two appends, one behind the other. -/
def ApD (e : TypeId) (u : Value) (l0 l1 : List UInt8) (w0 : World) : Nat → Gh → World → Prop
  | 0, g, w => ¬ g.live ∧ g.priv = ubS u ∧ Own e w u l0
  | 1, g, w => g.live ∧ g.priv = ubS g.val ∧ Own e w g.val l1 ∧ Later w0.heap.size u g.val
  | _, _, _ => True
theorem ApD.keep {e : TypeId} {u : Value} {l0 l1 : List UInt8} {w0 : World} : ∀ (k : Nat) (g : Gh) (w w' : World), Keep No w w' → ApD e u l0 l1 w0 k g w → ApD e u l0 l1 w0 k g w'
  | 0, _, _, _, k, h => ⟨h.1, h.2.1, h.2.2.keep k (fun _ _ f => f)⟩
  | 1, _, _, _, k, h => ⟨h.1, h.2.1, h.2.2.1.keep k (fun _ _ f => f), h.2.2.2⟩
  | _ + 2, _, _, _, _, _ => trivial
section
variable {P : Program} {t e : TypeId} {u : Value} {l0 l1 ys : List UInt8} {w0 : World}
theorem app_exec (T : BT P t e) {x y : Tmp} {a : Act} {o : Oper} {w : World} {v s : Value} {l ys : List UInt8} (ho : o.op = .call { callee := .builtin .append, args := #[.tmp x, .tmp y], argTypes := #[t, t] }) (ex : a.tmps.getD x undef = v) (ey : a.tmps.getD y undef = s) (h : Own e w v l) (r : Rd w s ys) (hl : l.length + ys.length ≤ 140737488351232) :
    ∃ v' w', (execOp a.eval o).run P w = .ok (.value v') w' ∧ Own e w' v' (l ++ ys) ∧ Keep (ubS v) w w' ∧ (v'.ownBlock = v.ownBlock ∨ v'.ownBlock = some w.heap.size) := by
  obtain ⟨v', w', hrun, ho', k', hbl, _⟩ := run_append_b (P := P) T 0 h r hl
  have hrun : ∀ ty, (Builtin.append_ #[t, t] ty #[v, s]).run P w = .ok v' w' := fun ty => hrun
  refine ⟨v', w', ?_, ho', k', hbl⟩
  unfold execOp
  simp only [ho, resolve, invoke, builtin, Sem.run_bind, Sem.run_pure, Result.andThen_ok, List.map_toArray, List.map_cons, List.map_nil]
  rw [show a.eval (.tmp x) = v from ex, show a.eval (.tmp y) = s from ey, hrun]
  rfl
theorem app_first (T : BT P t e) {x y : Tmp} (hl : l0.length + ys.length ≤ 140737488351232) (ty : TypeId) :
    ActM P (ubS u) w0 (ApD e u l0 (l0 ++ ys) w0) 0 (.call { callee := .builtin .append, args := #[.tmp x, .tmp y], argTypes := #[t, t] }) ty [(x, .is u), (y, rdM ys)] padS := by
  intro a o g w ho hty hk hb hd hr
  obtain ⟨h1, h2, h3⟩ := hd
  have ex : a.tmps.getD x undef = u := hr (x, .is u) (by simp)
  obtain ⟨rt, _⟩ := hr (y, rdM ys) (by simp)
  obtain ⟨v', w', he, ho', k', hbl⟩ := app_exec T ho ex rfl h3 rt hl
  rw [he]
  have hks := hk.size
  refine ⟨⟨True, v', ubS v'⟩, ⟨by rw [h2]; exact k', ?_, fun h => absurd h h1⟩, ?_, ⟨trivial, rfl, ho', ?_⟩, trivial, rfl⟩
  · intro q hq
    rcases hbl with h | h
    · rw [h2]; exact .inl (by show u.ownBlock = some q; rw [← h]; exact hq)
    · have hq' : v'.ownBlock = some q := hq
      rw [h] at hq'
      exact .inr (by have := Option.some.inj hq'; omega)
  · intro q hq
    refine ⟨ho'.lt q hq, fun hlt => ?_⟩
    rcases hbl with h | h
    · show u.ownBlock = some q
      rw [← h]; exact hq
    · have hq' : v'.ownBlock = some q := hq
      rw [h] at hq'
      have := Option.some.inj hq'
      omega
  · rcases hbl with h | h
    · exact .inl h
    · exact .inr fun b hb' => by rw [h] at hb'; have := Option.some.inj hb'; omega
theorem app_second (T : BT P t e) {x y : Tmp} (hl : l1.length + ys.length ≤ 140737488351232) (ty : TypeId) :
    ActM P (ubS u) w0 (ApD e u l0 l1 w0) 1 (.call { callee := .builtin .append, args := #[.tmp x, .tmp y], argTypes := #[t, t] }) ty [(x, padS), (y, rdM ys)] (apB e w0.heap.size u (l1 ++ ys)) := by
  intro a o g w ho hty hk hb hd hr
  obtain ⟨h1, h2, h3, h4⟩ := hd
  have ex : a.tmps.getD x undef = g.val := (hr (x, padS) (by simp)).2
  obtain ⟨rt, _⟩ := hr (y, rdM ys) (by simp)
  obtain ⟨v', w', he, ho', k', hbl⟩ := app_exec T ho ex rfl h3 rt hl
  rw [he]
  have hks := hk.size
  refine ⟨⟨True, g.val, fun k => ubS g.val k ∧ v'.ownBlock ≠ some k⟩, ⟨by rw [h2]; exact k', fun q hq => by rw [h2]; exact .inl hq.1, fun _ => ⟨trivial, rfl⟩⟩, ?_, trivial, ho', ?_, fun b hb' hp => hp.2 hb'⟩
  · rintro q ⟨hq, _⟩
    have hbq := hb q (by rw [h2]; exact hq)
    exact ⟨Nat.lt_of_lt_of_le hbq.1 k'.size, hbq.2⟩
  · rcases hbl with h | h
    · rcases h4 with h5 | h5
      · exact .inl (h.trans h5)
      · exact .inr fun b hb' => h5 b (by rw [← h]; exact hb')
    · exact .inr fun b hb' => by rw [h] at hb'; have := Option.some.inj hb'; omega
end
theorem row_set {w : World} {g : Nat} {cur cs : Array Value} {t : TypeId} (hg : w.heap[g]? = some (.cells cur t (0, 0))) : (w.setRow g cs).heap[g]? = some (.cells cs t (0, 0)) := by
  simp [World.setRow, Array.getElem?_modify, hg]
/-- A copy into one's own bytes. -/
theorem copy_list {bs ys : List UInt8} {a : Nat} (h : a + ys.length ≤ bs.length) : (bs.take a ++ ys ++ bs.drop (a + ys.length)).length = bs.length := by simp; omega
theorem run_copy_own {P : Program} {t e : TypeId} (T : BT P t e) {w : World} {u s : Value} {bs ys : List UInt8} {a : Nat} (h : Own e w u bs) (r : Rd w s ys) (hfit : a + ys.length ≤ bs.length) (ha : a < bs.length) :
    ∃ w', (∀ ty, (Builtin.copy_ #[t, t] ty #[cutv u a bs.length, s]).run P w = .ok (.int .i64 (ys.length : Int)) w') ∧ Own e w' u (bs.take a ++ ys ++ bs.drop (a + ys.length)) ∧ Keep (ubS u) w w' := by
  obtain ⟨hl, h⟩ := h
  rcases h with ⟨_, h0⟩ | ⟨g, cap, cur, rfl, hb, hg, hc, hm, hs, ht⟩
  · omega
  have hcut : cutv (.slice (some ⟨g, 0, none⟩) bs.length cap) a bs.length = .slice (some ⟨g, a, none⟩) (bs.length - a) (cap - a) := by
    have hne : ¬ cap = a := by omega
    simp only [cutv, if_neg hne, Option.map_some, Addr_add_mk, Nat.zero_add]
  have hcs : bs.length ≤ cur.size := by omega
  rw [hcut]
  have hrun := fun ty => run_copy_b (P := P) T ty (w := w) (g := g) (o := a) (dl := bs.length - a) (dc := cap - a) (cur := cur) (tt := e) hg r (by omega) (by omega)
  refine ⟨_, hrun, ?_, ?_⟩
  · refine ⟨by simp [bvs_length], .inr ⟨g, cap, (cur.toList.take a ++ bvs ys ++ cur.toList.drop (a + ys.length)).toArray, by rw [copy_list hfit], hb, row_set hg, by rw [copy_list hfit]; exact hc, hm, ?_, ?_⟩⟩
    · simp [bvs_length]; omega
    · rw [copy_list hfit]
      have h1 : cur.toList = bvs bs ++ cur.toList.drop bs.length := by
        have h2 : cur.toList.take bs.length = bvs bs := by simpa using ht
        rw [← h2, List.take_append_drop]
      rw [h1]
      simp only [bvs_append, Nat.mul_one]
      have e1 : (bvs bs ++ cur.toList.drop bs.length).take a = bvs (bs.take a) := by
        rw [List.take_append_of_le_length (by rw [bvs_length]; omega)]; simp [bvs, List.map_take]
      have e2 : (bvs bs ++ cur.toList.drop bs.length).drop (a + ys.length) = bvs (bs.drop (a + ys.length)) ++ cur.toList.drop bs.length := by
        rw [List.drop_append_of_le_length (by rw [bvs_length]; omega)]; simp [bvs, List.map_drop]
      rw [e1, e2, ← List.append_assoc]
      rw [List.take_left' (by simp [bvs_length]; omega)]
  · exact (Keep.setRow g _).mono fun k _ e => by rw [show k = g from e]; rfl
def CpD (e : TypeId) (u : Value) (l0 l1 : List UInt8) : Nat → Gh → World → Prop
  | 0, g, w => g.priv = ubS u ∧ Own e w u l0
  | _, g, w => g.priv = ubS u ∧ Own e w u l1
theorem CpD.keep {e : TypeId} {u : Value} {l0 l1 : List UInt8} : ∀ (k : Nat) (g : Gh) (w w' : World), Keep No w w' → CpD e u l0 l1 k g w → CpD e u l0 l1 k g w'
  | 0, _, _, _, k, h => ⟨h.1, h.2.keep k (fun _ _ f => f)⟩
  | _ + 1, _, _, _, k, h => ⟨h.1, h.2.keep k (fun _ _ f => f)⟩
theorem copy_act {P : Program} {t e : TypeId} (T : BT P t e) {u : Value} {bs ys : List UInt8} {a : Nat} {w0 : World} (hfit : a + ys.length ≤ bs.length) (ha : a < bs.length) {x y : Tmp} (ty : TypeId) :
    ActM P (ubS u) w0 (CpD e u bs (bs.take a ++ ys ++ bs.drop (a + ys.length))) 0 (.call { callee := .builtin .copy, args := #[.tmp x, .tmp y], argTypes := #[t, t] }) ty [(x, .is (cutv u a bs.length)), (y, rdM ys)] (.is (.int .i64 (ys.length : Int))) := by
  intro a' o g w ho hty hk hb hd hr
  obtain ⟨h2, h3⟩ := hd
  have ex : a'.tmps.getD x undef = cutv u a bs.length := hr (x, .is (cutv u a bs.length)) (by simp)
  obtain ⟨rt, _⟩ := hr (y, rdM ys) (by simp)
  obtain ⟨w', hrun, ho', k'⟩ := run_copy_own T h3 rt hfit ha
  have he : (execOp a'.eval o).run P w = .ok (.value (.int .i64 (ys.length : Int))) w' := by
    unfold execOp
    simp only [ho, resolve, invoke, builtin, Sem.run_bind, Sem.run_pure, Result.andThen_ok, List.map_toArray, List.map_cons, List.map_nil]
    rw [show a'.eval (.tmp x) = cutv u a bs.length from ex, show a'.eval (.tmp y) = a'.tmps.getD y undef from rfl, hrun]
    rfl
  rw [he]
  exact ⟨g, ⟨by rw [h2]; exact k', fun q hq => .inl hq, fun h => ⟨h, rfl⟩⟩, fun q hq => ⟨Nat.lt_of_lt_of_le (hb q hq).1 k'.size, (hb q hq).2⟩, ⟨h2, ho'⟩, rfl⟩
end Go.Proofs.Ytpididcghilbjaa
