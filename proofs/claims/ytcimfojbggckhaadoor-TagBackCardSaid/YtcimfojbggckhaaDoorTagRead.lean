/-
  tag's Read. Condition: the kinds are as they were laid; at most 2^40 bytes.
-/
import Derived.Test.YtcimfojbggckhaaDoorTagBegins
import Derived.Test.YtcimfojbggckhaaDoorPadM
namespace Go.Proofs.YtcimfojbggckhaaDoor
open Go.RowKit

/-- A stack that is read behind others. -/
def readT : Nat → List Tg → List UInt8 → List Tg × List UInt8 × Nat
  | 0, l, b => (l, b, 0)
  | f + 1, l, b => if begB b l.length then if b.length < 4 then ([], [], 4) else readT f (l ++ [tgN (be (b.take 2)) (be ((b.drop 2).take 2))]) (b.drop 4) else (l, b, 0)

/-- What an append of tags leaves. -/
def appS (e : TypeId) (N : Nat) (l : List Tg) : Sm := .such (fun g w x => Ot e w x l ∧ Since N x ∧ ∀ b, x.ownBlock = some b → ¬ g.priv b)
  (fun g w g' w' x k h => ⟨h.1.keep k.keep h.2.2, h.2.1, fun b hb hp => by
    rcases k.priv b hp with h1 | h1
    · exact h.2.2 b hb h1
    · have := h.1.lt b hb; omega⟩)
/-- In the region: the cutter, the tags so far. -/
def RdD (e : TypeId) (vl : Value) (l : List Tg) (c2 : List UInt8) (w0 : World) : Nat → Gh → World → Prop
  | 0, g, w => ¬ g.live ∧ g.priv = (fun k => vl.ownBlock = some k) ∧ Ot e w vl l
  | 1, g, w => g.live ∧ ∃ p sv, g.val = .pointer (some ⟨p, 0, none⟩) ∧ Cu w p sv c2 0 0 ∧ g.priv = (fun k => vl.ownBlock = some k ∨ k = p) ∧ w0.heap.size ≤ p ∧ Ot e w vl l
  | 2, g, w => ∃ p, w0.heap.size ≤ p ∧ p < w.heap.size ∧ g.priv = (fun k => vl.ownBlock = some k ∨ k = p) ∧ Ot e w vl l
  | 3, g, w => ∃ p, w0.heap.size ≤ p ∧ p < w.heap.size ∧ g.priv = (fun k => vl.ownBlock = some k ∨ k = p) ∧ Ot e w vl l
  | _, _, _ => True
theorem RdD.keep {e : TypeId} {vl : Value} {l : List Tg} {c2 : List UInt8} {w0 : World} : ∀ (k : Nat) (g : Gh) (w w' : World), Keep No w w' → RdD e vl l c2 w0 k g w → RdD e vl l c2 w0 k g w'
  | 0, _, _, _, k, ⟨h1, h2, h3⟩ => ⟨h1, h2, h3.keep0 k⟩
  | 1, _, _, _, k, ⟨h1, p, sv, h2, h3, h4, h5, h6⟩ => ⟨h1, p, sv, h2, h3.keep0 k, h4, h5, h6.keep0 k⟩
  | 2, _, _, _, k, ⟨p, h1, h2, h3, h4⟩ => ⟨p, h1, Nat.lt_of_lt_of_le h2 k.size, h3, h4.keep0 k⟩
  | 3, _, _, _, k, ⟨p, h1, h2, h3, h4⟩ => ⟨p, h1, Nat.lt_of_lt_of_le h2 k.size, h3, h4.keep0 k⟩
  | _ + 4, _, _, _, _, _ => trivial
section
variable {w0 : World} {vl : Value} {l : List Tg} {c2 : List UInt8}
theorem rd_new {e : TypeId} {u : Value} (hn : c2.length ≤ 1099511627776) (hr : ∀ w, Keep (fun k => vl.ownBlock = some k) w0 w → Rd w u c2) :
    LoudM Tryd.prog (fun k => vl.ownBlock = some k) w0 (RdD e vl l c2 w0) 0 60 [.is u] padS := by
  intro g w vals hk hb hd ha
  match vals, ha with
  | [x], ha =>
    obtain rfl : x = u := ha.1
    obtain ⟨hl, hp, ho⟩ := hd
    refine (new_any (hr w hk) (by omega)).mono ?_
    rintro y w' ⟨p, sv, rfl, hcu, k, hpw, hsv⟩
    have h0 := hk.size
    refine ⟨_, ⟨True, .pointer (some ⟨p, 0, none⟩), fun k => vl.ownBlock = some k ∨ k = p⟩, rfl, ⟨k.no, ?_, fun h => absurd h hl⟩, ?_, ⟨trivial, p, sv, rfl, hcu, rfl, by omega, ho.keep0 k⟩, trivial, rfl⟩
    · rintro q (h | rfl)
      · exact .inl (by rw [hp]; exact h)
      · exact .inr hpw
    · rintro q (h | rfl)
      · exact ⟨Nat.lt_of_lt_of_le (ho.lt q h) k.size, fun _ => h⟩
      · exact ⟨hcu.lt, fun h => absurd h (by omega)⟩
theorem rd_two {e : TypeId} (h2 : c2.length = 2) (hvl : Under w0.heap.size vl) :
    LoudM Tryd.prog (fun k => vl.ownBlock = some k) w0 (RdD e vl l c2 w0) 1 61 [padS] (.is (.int .u16 (be c2 : Nat))) := by
  intro g w vals hk hb hd ha
  match vals, ha with
  | [x], ha =>
    obtain ⟨hlive, p, sv, hv, hcu, hp, hpw, ho⟩ := hd
    obtain ⟨⟨_, hx⟩, _⟩ := ha
    rw [hx, hv]
    refine (two_any hcu).mono ?_
    rintro y w' ⟨rfl, hcu', k⟩
    have e3 : takeB c2 0 0 2 = c2 := by
      rw [takeB, if_pos ⟨rfl, by omega, by rw [h2]; decide⟩]
      simp [← h2]
    rw [e3]
    have hne : ∀ b, vl.ownBlock = some b → ¬ One p b := fun b hb h => by have := hvl b hb; rw [show b = p from h] at this; omega
    refine ⟨_, g, rfl, ⟨k.mono fun q _ h => by rw [hp]; exact .inr h, fun q h => .inl h, fun h => ⟨h, rfl⟩⟩, fun q h => ⟨Nat.lt_of_lt_of_le (hb q h).1 k.size, (hb q h).2⟩, ⟨p, hpw, hcu'.lt, hp, ho.keep k hne⟩, rfl⟩
theorem rd_of {e : TypeId} {kd n : Nat} (hn : n < 65536) :
    LoudM Tryd.prog (fun k => vl.ownBlock = some k) w0 (RdD e vl l c2 w0) 2 54 [.is (.int .u16 kd), .is (.int .u16 n)] (.is (.agg (tgN kd n).a)) := by
  intro g w vals hk hb hd ha
  match vals, ha with
  | [x, y], ha =>
    obtain rfl : x = _ := ha.1
    obtain rfl : y = _ := ha.2.1
    refine (tagof_any w kd n).mono ?_
    rintro z w' ⟨rfl, k⟩
    obtain ⟨p, h1, h2, h3, h4⟩ := hd
    exact ⟨_, g, rfl, Tr.quiet k, hb.mono k, ⟨p, h1, Nat.lt_of_lt_of_le h2 k.size, h3, h4.keep0 k⟩, by rw [ofR_nat hn]; rfl⟩
theorem rd_app {P : Program} {t e : TypeId} {N : Nat} (T : ET P t e) {x y : Tmp} {tg : Tg} (hvl : Under w0.heap.size vl) (hN : N ≤ w0.heap.size) (hs : Since N vl) (hl : l.length ≤ 1000000) (ty : TypeId) :
    ActM P (fun k => vl.ownBlock = some k) w0 (RdD e vl l c2 w0) 3 (.call { callee := .builtin .append, args := #[.tmp x, .tmp y], argTypes := #[t, t] }) ty [(x, .is vl), (y, rowS 4 1 fun j => (csT [tg]).getD j undef)] (appS e N (l ++ [tg])) := by
  intro a o g w ho hty hk hb hd hr
  obtain ⟨p, h1, h2, h3, h4⟩ := hd
  have ex : a.tmps.getD x undef = vl := hr (x, .is vl) (by simp)
  have ey := hr (y, rowS 4 1 fun j => (csT [tg]).getD j undef) (by simp)
  obtain ⟨rt, _⟩ := ey
  have rt' : Rt w (a.tmps.getD y undef) [tg] := rt
  obtain ⟨v', w', hrun, ho', k', hbl⟩ := run_append_t T h4 rt' (by simp; omega)
  have he : (execOp a.eval o).run P w = .ok (.value v') w' := by
    unfold execOp
    simp only [ho, resolve, invoke, builtin, Sem.run_bind, Sem.run_pure, Result.andThen_ok, List.map_toArray, List.map_cons, List.map_nil]
    rw [show a.eval (.tmp x) = vl from ex, show a.eval (.tmp y) = a.tmps.getD y undef from rfl, hrun]
    rfl
  rw [he]
  refine ⟨⟨g.live, g.val, fun k => k = p⟩, ⟨k'.mono fun q _ h => by rw [h3]; exact .inl h, ?_, fun h => ⟨h, rfl⟩⟩, ?_, trivial, ho', ?_, ?_⟩
  · rintro q rfl
    rw [h3]
    exact .inl (.inr rfl)
  · rintro q rfl
    exact ⟨Nat.lt_of_lt_of_le h2 k'.size, fun h => absurd h (by omega)⟩
  · intro b hb'
    rcases hbl with h | h <;> rw [h] at hb'
    · exact hs b hb'
    · have := hk.size
      obtain rfl := Option.some.inj hb'
      omega
  · intro b hb' hp
    have hp' : b = p := hp
    subst hp'
    rcases hbl with h | h <;> rw [h] at hb'
    · have := hvl b hb'
      omega
    · obtain h' := Option.some.inj hb'
      omega
end

noncomputable abbrev rdC : Code := bodyOf Tryd.f32
noncomputable abbrev rdN : Nat := Tryd.f32.ntmps
/-- What Read tells. -/
structure ReadR (w : World) (bs : List UInt8) (v u : Value) (w' : World) : Prop where
  rt : Rt w' v (readT 3 [] bs).1
  rd : Rd w' u (readT 3 [] bs).2.1
  keep : Keep No w w'
  sv : Since w.heap.size v
  su : Since w.heap.size u
  lv : Under w'.heap.size v
  lu : Under w'.heap.size u
abbrev rdQ (w : World) (bs : List UInt8) : Ending → World → Prop := fun x w' => ∃ v u, x = .returned (.tuple #[v, u, .int .i64 ((readT 3 [] bs).2.2 : Nat)]) ∧ ReadR w bs v u w'
structure RdI where
  vb : Value
  cs : List UInt8
  vl : Value
  l : List Tg
noncomputable def rdLp (i : RdI) (w' : World) : Cfg := ⟨frOf [0, 2] [i.vb, i.vl], tagL [], ⟨[], w'.heap.size⟩, atL rdC 1⟩
structure RdJ (w : World) (bs : List UInt8) (i : RdI) (w' : World) : Prop where
  W : Wst w ⟨[], w'.heap.size⟩ w'
  l2 : i.l.length ≤ 2
  ot : Ot 57 w' i.vl i.l
  si : Since w.heap.size i.vl
  rd : Rd w i.vb i.cs
  len : i.cs.length ≤ 1099511627776
  eq : readT 3 [] bs = readT (3 - i.l.length) i.l i.cs
noncomputable def rdR (w : World) (bs : List UInt8) (i : RdI) : Act → World → Prop := fun a' w' => ∃ j : RdI, 2 - j.l.length < 2 - i.l.length ∧ RdJ w bs j w' ∧ agrees rdN (rdLp j w') a'
theorem since_loose {W0 : World} {m : Mem} {v : Value} (h : Since W0.heap.size v) (hm : m.rows = []) : Loose W0 m (fun k => v.ownBlock = some k) := fun k hk => ⟨h k hk, fun r hr => by rw [hm] at hr; cases hr⟩
set_option maxRecDepth 4000 in
theorem read_round {w : World} {bs : List UInt8} (hk : Kh w) (i : RdI) (w' : World) (hJ : RdJ w bs i w') :
    Goal Tryd.prog (bodyPost Tryd.prog Tryd.f32 (rdQ w bs)) rdN { rdLp i w' with todo := .code (loopOf (atL rdC 1)) :: .inv (rdR w bs i) :: (atL rdC 1).tail } w' := by
  obtain ⟨hW, hl2, hot, hsi, hrd, hlen, heq⟩ := hJ
  unfold rdLp
  obtain ⟨f, hf⟩ : ∃ f, 3 - i.l.length = f + 1 := ⟨2 - i.l.length, by omega⟩
  have hst : readT (f + 1) i.l i.cs = (if begB i.cs i.l.length then if i.cs.length < 4 then ([], [], 4) else readT f (i.l ++ [tgN (be (i.cs.take 2)) (be ((i.cs.drop 2).take 2))]) (i.cs.drop 4) else (i.l, i.cs, 0)) := rfl
  rw [hf, hst] at heq
  refine go_call_is (gt := fun _ => Option.none) (unroll := false) 60 [(1, 2, .sem (.int .i64 (i.l.length : Int)))] 59 [i.vb, .int .i64 (i.l.length : Int)] [0, 2] [i.vb, i.vl] 11 [] [] (inR rdC 1 3 (.inv (rdR w bs i))) []
    [(Builtin.len_ #[24] 3 #[i.vl], .int .i64 (i.l.length : Int))] hW (by kernel_rfl) trivial ⟨fun wx _ => hot.rt.sem_len ett (ty := 3) wx, trivial⟩ ?_
  intro w1 hW1 hS1
  have ot1 := hot.walk (rows := []) (since_loose hsi rfl) hS1
  refine (begins_any (hrd.keep0 hW1.keep) hl2 hlen (hk.keep0 hW1.keep)).mono ?_
  rintro x w2 ⟨rfl, k2⟩
  refine ⟨_, rfl, ?_⟩
  have hW2 := hW1.later k2
  have ot2 := ot1.keep0 k2
  cases hb : begB i.cs i.l.length with
  | false =>
    rw [hb] at heq
    simp only [Bool.false_eq_true, if_false] at heq
    refine go_call_is (gt := fun _ => Option.none) (unroll := false) 60 [] 48 [i.vb] [16] [i.vl] 18 [] [] (inR rdC 3 2 (.inv (rdR w bs i))) [] [] hW2 (by kernel_rfl) trivial trivial ?_
    intro w3 hW3 hS3
    have ot3 := ot2.walk (rows := []) (since_loose hsi rfl) hS3
    refine (sclone_any _ _ _ (hrd.keep0 hW3.keep) (by omega)).mono ?_
    rintro x w4 ⟨u, rfl, fr, _⟩
    refine ⟨_, rfl, ?_⟩
    have ot4 := ot3.keep0 fr.keep
    refine go_ret (gt := fun _ => Option.none) (unroll := false) 60 [] [.tmp 2, .tmp 3, .tmp 4] (.tuple #[i.vl, u, .int .i64 0]) [] [] (hW3.later fr.keep) Tryd.results32 (by kernel_rfl) trivial trivial ?_
    intro w9 hW9 hS9
    have hsu : Since w.heap.size u := fr.since.mono hW3.keep.size
    refine ⟨i.vl, u, by rw [heq]; rfl, by rw [heq]; exact (ot4.walk (rows := []) (since_loose hsi rfl) hS9).rt, ?_, hW9.keep, hsi, hsu, (ot4.walk (rows := []) (since_loose hsi rfl) hS9).lt, ?_⟩
    · rw [heq]
      exact (fr.own.same fun b hb => hS9.same b ⟨fr.own.lt b hb, fun _ h => nomatch h⟩).rd
    · exact (fr.own.same fun b hb => hS9.same b ⟨fr.own.lt b hb, fun _ h => nomatch h⟩).lt
  | true =>
    have h2 : 2 ≤ i.cs.length ∧ i.l.length < 2 := by
      simp only [begB, Bool.and_eq_true, decide_eq_true_eq] at hb
      exact ⟨hb.1, hb.2.1⟩
    rw [show begK i.cs i.l.length = be (i.cs.take 2) from if_pos h2]
    rw [hb, if_pos rfl] at heq
    by_cases h4 : i.cs.length < 4
    · rw [if_pos h4] at heq
      refine go_ret (gt := fun _ => Option.none) (unroll := false) 60 [(4, 1, .sem (.int .i64 (i.cs.length : Int))), (4, 2, .is (.bool true))] [.tmp 2, .tmp 3, .tmp 4] (.tuple #[.slice none 0 0, .slice none 0 0, .int .i64 4]) [(.bool (decide ((i.cs.length : Int) < 4)), .bool true)] [(Builtin.len_ #[26] 3 #[i.vb], .int .i64 (i.cs.length : Int))] hW2 Tryd.results32 (by kernel_rfl)
        ⟨congrArg Value.bool (by simp; omega), trivial⟩ ⟨fun wx _ => hrd.run_len (ty := 3) bt.sl, trivial⟩ ?_
      intro w9 hW9 _
      exact ⟨_, _, by rw [heq]; rfl, by rw [heq]; exact Rt.nil _, by rw [heq]; exact Rd.nil _, hW9.keep, fun b h => by simp [Value.ownBlock] at h, fun b h => by simp [Value.ownBlock] at h, fun b h => by simp [Value.ownBlock] at h, fun b h => by simp [Value.ownBlock] at h⟩
    · rw [if_neg h4] at heq
      refine go_stop (gt := fun _ => Option.none) (unroll := false) 60 [(4, 1, .sem (.int .i64 (i.cs.length : Int))), (4, 2, .is (.bool false))] [0, 2, 5] [i.vb, i.vl, .int .u16 (be (i.cs.take 2) : Nat)] [] [] (atR rdC 6 (.inv (rdR w bs i))) [(.bool (decide ((i.cs.length : Int) < 4)), .bool false)] [(Builtin.len_ #[26] 3 #[i.vb], .int .i64 (i.cs.length : Int))] hW2 (by kernel_rfl)
        ⟨congrArg Value.bool (by simp; omega), trivial⟩ ⟨fun wx _ => hrd.run_len (ty := 3) bt.sl, trivial⟩ ?_
      intro w3 hW3 hS3
      have ot3 := ot2.walk (rows := []) (since_loose hsi rfl) hS3
      have c2l : ((i.cs.drop 2).take 2).length = 2 := by simp; omega
      have hn2 : be ((i.cs.drop 2).take 2) < 65536 := be_small (n := 2) (by omega)
      have hu : ∀ wx, Keep (fun k => i.vl.ownBlock = some k) w3 wx → Rd wx i.vb i.cs := fun wx k => (hrd.keep0 hW3.keep).keep k fun b hb hb' => by
        have q1 := hrd.blk_lt hb (by omega)
        have q2 := hsi b hb'
        omega
      have hc2 : ∀ wx, Keep (fun k => i.vl.ownBlock = some k) w3 wx → Rd wx (cutv i.vb 2 4) ((i.cs.drop 2).take 2) := fun wx k => (hu wx k).cut (l := 2) (h := 4) (by omega) (by omega)
      generalize hK : be (i.cs.take 2) = kd at *
      generalize hC : (i.cs.drop 2).take 2 = c2 at *
      generalize hN : be c2 = nn at *
      refine drawnM_ok (S0 := fun k => i.vl.ownBlock = some k) (gt := fun _ => Option.none) (D := RdD 57 i.vl i.l c2 w3) (g0 := ⟨False, undef, fun k => i.vl.ownBlock = some k⟩)
        [(3, .sem (cutv i.vb 2 4)), (4, .loud padS), (5, .loud (.is (.int .u16 nn))), (6, .loud (.is (.agg (tgN kd nn).a))), (7, .new (rowS 4 1 fun j => (csT [tgN kd nn]).getD j undef)), (8, .act (appS 57 w.heap.size (i.l ++ [tgN kd nn]))), (10, .sem (cutv i.vb 4 i.cs.length)), (11, .by (appS 57 w.heap.size (i.l ++ [tgN kd nn])))]
        [0, 2] [.is (cutv i.vb 4 i.cs.length), appS 57 w.heap.size (i.l ++ [tgN kd nn])]
        (True ∧ True ∧ True ∧ SemM Tryd.prog (fun k => i.vl.ownBlock = some k) w3 (Instr.sliceAt 26 i.vb (some (.int .i64 2)) (some (.int .i64 4)) Option.none) (cutv i.vb 2 4) ∧
          LoudM Tryd.prog (fun k => i.vl.ownBlock = some k) w3 (RdD 57 i.vl i.l c2 w3) 0 60 [.is (cutv i.vb 2 4)] padS ∧
          LoudM Tryd.prog (fun k => i.vl.ownBlock = some k) w3 (RdD 57 i.vl i.l c2 w3) 1 61 [padS] (.is (.int .u16 nn)) ∧
          LoudM Tryd.prog (fun k => i.vl.ownBlock = some k) w3 (RdD 57 i.vl i.l c2 w3) 2 54 [.is (.int .u16 kd), .is (.int .u16 nn)] (.is (.agg (tgN kd nn).a)) ∧
          NewM Tryd.prog (fun k => i.vl.ownBlock = some k) w3 (Instr.buildSlice 24 1 #[(0, .agg (tgN kd nn).a)]) (rowS 4 1 fun j => (csT [tgN kd nn]).getD j undef) ∧
          ActM Tryd.prog (fun k => i.vl.ownBlock = some k) w3 (RdD 57 i.vl i.l c2 w3) 3 (.call { callee := .builtin .append, args := #[.tmp 22, .tmp 29], argTypes := #[24, 24] }) 24 [(22, .is i.vl), (29, rowS 4 1 fun j => (csT [tgN kd nn]).getD j undef)] (appS 57 w.heap.size (i.l ++ [tgN kd nn])) ∧
          True ∧ SemM Tryd.prog (fun k => i.vl.ownBlock = some k) w3 (Instr.sliceAt 26 i.vb (some (.int .i64 4)) Option.none Option.none) (cutv i.vb 4 i.cs.length) ∧
          ByM Tryd.prog (fun k => i.vl.ownBlock = some k) w3 (.assign (.tmp 30)) 24 [(30, appS 57 w.heap.size (i.l ++ [tgN kd nn]))] (appS 57 w.heap.size (i.l ++ [tgN kd nn])) ∧ True ∧ True)
        4 (afterR rdC 6 (.inv (rdR w bs i))) hW3 (since_loose hsi rfl) (by kernel_rfl) (by kernel_rfl) (by kernel_rfl) RdD.keep (fun k h => ⟨ot3.lt k h, fun _ => h⟩) ⟨fun h => h, rfl, ot3⟩
        ⟨trivial, trivial, trivial, fun wx k => ?_, rd_new (by omega) hc2, hN ▸ rd_two c2l ot3.lt, rd_of hn2, new_row (cs := (tgN kd nn).a.toList) (by simp [maxLen]) (fun _ => by kernel_rfl) (fun j hj => ?_), rd_app ett ot3.lt hW3.keep.size hsi (by omega) _, trivial, fun wx k => (hu wx k).sem_cutL (k := 4) (by omega) wx, by_assign, trivial, trivial⟩ ?_
      · exact (hu wx k).sem_cut (k := 2) (h := 4) (by omega) (by omega) wx
      · have : j = 0 ∨ j = 1 ∨ j = 2 ∨ j = 3 := by omega
        rcases this with rfl | rfl | rfl | rfl <;> rfl
      intro g w4 vs k4 _ _ hok
      match vs, hok with
      | [x, y], hx =>
      obtain ⟨rfl, ⟨h5, h6, _⟩, _⟩ := hx
      refine go_inv (gt := fun _ => Option.none) (unroll := false) 60 [] [0, 2] [cutv i.vb 4 i.cs.length, y] [] (rdR w bs i) [] [] (hW3.laterS k4 (since_loose hsi rfl)) (by kernel_rfl) trivial trivial ?_
      intro w5 a hW5 hS5 hs
      refine ⟨⟨cutv i.vb 4 i.cs.length, i.cs.drop 4, y, i.l ++ [tgN kd nn]⟩, by simp; omega, ⟨hW5, by simp; omega, h5.walk (rows := []) (since_loose h6 rfl) hS5, h6, ?_, by simp; omega, ?_⟩, hs⟩
      · have := hrd.cut (l := 4) (h := i.cs.length) (by omega) (Nat.le_refl _)
        rwa [List.take_of_length_le (by simp)] at this
      · rw [heq]
        simp only [List.length_append, List.length_singleton]
        congr 1
        omega
theorem read_any {w : World} {v : Value} {bs : List UInt8} (r : Rd w v bs) (hl : bs.length ≤ 1099511627776) (hk : Kh w) : Calls Tryd.prog 32 #[v] w (rdQ w bs) := by
  refine enter (args := [v]) Tryd.func32 (by kernel_rfl) ?_
  refine go_stop (gt := fun _ => Option.none) (unroll := false) 60 [] [0, 2] [v, .slice none 0 0] [] [] (atL rdC 1) [] [] (Wst.start0 w) (by kernel_rfl) trivial trivial ?_
  intro w1 hW1 _
  exact loop_okT (P := Tryd.prog) (Q := bodyPost Tryd.prog Tryd.f32 (rdQ w bs)) (n := rdN) (x := loopOf (atL rdC 1)) (k := (atL rdC 1).tail) (fun i : RdI => 2 - i.l.length) rdLp (RdJ w bs) (fun _ _ => by kernel_rfl) (fun i w' hJ => read_round hk i w' hJ) ⟨v, bs, .slice none 0 0, []⟩ w1
    ⟨hW1, by simp, Ot.nil _ _, fun b hb => by simp [Value.ownBlock] at hb, r, hl, rfl⟩
end Go.Proofs.YtcimfojbggckhaaDoor
