/-
  The engine of drawn regions once more: the ghost keeps all values so far; an operation may turn it at any rank. No condition.
-/
import Derived.Test.YtpnocepepihflaaDhcpKnownAllA
import Derived.Lib.Hide
import Derived.IntWalk
import Derived.Laws.BytesArg
import Derived.Deep.MidRow
import Derived.StillTailTactics
import Derived.Deep.RegionWith
namespace Go.Proofs.Ytpnocepepihflaa
open Go.RowKit
namespace H
/-- The object that the loud calls work on: its value, the blocks that it may write into. -/
structure Gh where
  val : List (Nat × Value)
  priv : Nat → Prop
/-- A step that may have written into the object. -/
structure Tr (g : Gh) (w : World) (g' : Gh) (w' : World) : Prop where
  keep : Keep g.priv w w'
  priv : ∀ k, g'.priv k → g.priv k ∨ w.heap.size ≤ k
  hist : ∀ p, p ∈ g.val → p ∈ g'.val
theorem Tr.quiet {g : Gh} {w w' : World} (k : Keep No w w') : Tr g w g w' := ⟨k.no, fun _ h => .inl h, fun _ h => h⟩
inductive Sm where
  | is (v : Value)
  | such (p : Gh → World → Value → Prop) (m : ∀ g w g' w' x, Tr g w g' w' → p g w x → p g' w' x)
def Sm.ok : Sm → Gh → World → Value → Prop
  | .is v, _, _, x => x = v
  | .such p _, g, w, x => p g w x
theorem Sm.ok_tr {s : Sm} {g g' : Gh} {w w' : World} {x : Value} (h : s.ok g w x) (k : Tr g w g' w') : s.ok g' w' x := by
  cases s with
  | is v => exact h
  | such p m => exact m g w g' w' x k h
/-- The blocks that may have turned since w0; they are there. -/
def Base (S0 : Nat → Prop) (w0 : World) (g : Gh) (w : World) : Prop := ∀ k, g.priv k → k < w.heap.size ∧ (k < w0.heap.size → S0 k)
theorem Base.mono {S0 : Nat → Prop} {w0 : World} {g : Gh} {w w' : World} (h : Base S0 w0 g w) (k : Keep No w w') : Base S0 w0 g w' := fun i hi => ⟨Nat.lt_of_lt_of_le (h i hi).1 k.size, (h i hi).2⟩

/-- What a quiet operation comes to. -/
def OutQ (P : Program) (s : Sm) (g : Gh) (w : World) : Result Next → Prop
  | .ok (.value v) w' => Keep No w w' ∧ s.ok g w' v
  | .ok .skip w' => Keep No w w' ∧ s.ok g w' undef
  | .ok (.enter f args) w' => Keep No w w' ∧ Calls P f args w' (fun e w'' => ∃ v, e = .returned v ∧ Keep No w' w'' ∧ s.ok g w'' v)
  | _ => False
/-- What a loud call comes to. -/
def OutL (P : Program) (S0 : Nat → Prop) (w0 : World) (D : Gh → World → Prop) (s : Sm) (g : Gh) (w : World) : Result Next → Prop
  | .ok (.enter f args) w' => w' = w ∧ Calls P f args w (fun e w'' => ∃ v g', e = .returned v ∧ Tr g w g' w'' ∧ Base S0 w0 g' w'' ∧ D g' w'' ∧ s.ok g' w'' v)
  | .ok (.value v) w' => ∃ g', Tr g w g' w' ∧ Base S0 w0 g' w' ∧ D g' w' ∧ s.ok g' w' v
  | .ok .skip w' => ∃ g', Tr g w g' w' ∧ Base S0 w0 g' w' ∧ D g' w' ∧ s.ok g' w' undef
  | _ => False

section
variable {P : Program} {S0 : Nat → Prop} {w0 : World}
theorem wp_of_outQ {o : Oper} {a : Act} {g : Gh} {w : World} {K : Act → World → Prop} {Q : Exit → Act → World → Prop} {s : Sm} (h : OutQ P s g w ((execOp a.eval o).run P w))
    (hk : ∀ v w', Keep No w w' → s.ok g w' v → K (a.put o.dst v) w') : o.wp P a w K Q := by
  unfold Oper.wp
  generalize (execOp a.eval o).run P w = r at *
  cases r with
  | ok n w' =>
    cases n <;> simp only [OutQ] at h <;> simp only [Oper.upon]
    case value v => exact hk _ _ h.1 h.2
    case skip => exact hk _ _ h.1 h.2
    case enter f args =>
      refine h.2.mono ?_
      rintro e w'' ⟨v, rfl, h2, h3⟩
      exact hk _ _ (h.1.trans h2) h3
  | halt x w' => simp only [OutQ] at h
theorem wp_of_outL {o : Oper} {a : Act} {g : Gh} {w : World} {D : Gh → World → Prop} {K : Act → World → Prop} {Q : Exit → Act → World → Prop} {s : Sm} (h : OutL P S0 w0 D s g w ((execOp a.eval o).run P w))
    (hk : ∀ v g' w', Tr g w g' w' → Base S0 w0 g' w' → D g' w' → s.ok g' w' v → K (a.put o.dst v) w') : o.wp P a w K Q := by
  unfold Oper.wp
  generalize (execOp a.eval o).run P w = r at *
  cases r with
  | ok n w' =>
    cases n <;> simp only [OutL] at h
    case value v =>
      obtain ⟨g', h1, h2, h3, h4⟩ := h
      simp only [Oper.upon]
      exact hk _ _ _ h1 h2 h3 h4
    case skip =>
      obtain ⟨g', h1, h2, h3, h4⟩ := h
      simp only [Oper.upon]
      exact hk _ _ _ h1 h2 h3 h4
    case enter f args =>
      obtain ⟨rfl, h⟩ := h
      simp only [Oper.upon]
      refine h.mono ?_
      rintro e w'' ⟨v, g', rfl, h1, h2, h3, h4⟩
      exact hk _ _ _ h1 h2 h3 h4
  | halt x w' => simp only [OutL] at h

def putM (f : Tmp → Sm) (d : Option Tmp) (s : Sm) : Tmp → Sm := match d with | some d => fun t => if Nat.beq t d = true then s else f t | none => f
theorem putM_same (f : Tmp → Sm) (t : Tmp) (s : Sm) : putM f (some t) s t = s := by simp [putM]
theorem putM_other (f : Tmp → Sm) {d : Option Tmp} {t : Tmp} (h : d ≠ some t) (s : Sm) : putM f d s t = f t := by
  cases d with
  | none => rfl
  | some d =>
    have : ¬ t = d := fun e => h (by rw [e])
    simp [putM, Nat.beq_eq, this]
def frM (ops : Array Oper) (sp : Nat → Sm) (f0 : Tmp → Sm) : Nat → Tmp → Sm
  | 0 => f0
  | i + 1 => putM (frM ops sp f0 i) ((ops[i]?).bind (·.dst)) (sp i)
theorem frM_old {ops : Array Oper} {sp : Nat → Sm} {f0 : Tmp → Sm} {t : Tmp} : ∀ (i : Nat), (∀ (j : Nat) (o : Oper), j < i → ops[j]? = some o → o.dst ≠ some t) → frM ops sp f0 i t = f0 t
  | 0, _ => rfl
  | i + 1, h => by
    have ih := frM_old (sp := sp) (f0 := f0) i (fun j o hj => h j o (by omega))
    rw [← ih]
    simp only [frM]
    cases ho : ops[i]? with
    | none => rfl
    | some o => exact putM_other _ (h i o (by omega) ho) _
theorem frM_new {ops : Array Oper} {sp : Nat → Sm} {f0 : Tmp → Sm} {t : Tmp} {j : Nat} {o : Oper} (hj : ops[j]? = some o) (hd : o.dst = some t) :
    ∀ (i : Nat), j < i → (∀ (k : Nat) (o' : Oper), k ≠ j → ops[k]? = some o' → o'.dst ≠ some t) → frM ops sp f0 i t = sp j
  | 0, h, _ => by omega
  | i + 1, h, hk => by
    by_cases hji : j = i
    · subst hji
      simp only [frM, hj, Option.bind_some, hd]
      exact putM_same _ _ _
    · have ih := frM_new (sp := sp) (f0 := f0) hj hd i (by omega) hk
      rw [← ih]
      simp only [frM]
      cases ho : ops[i]? with
      | none => rfl
      | some o' => exact putM_other _ (hk i o' (fun e => hji e.symm) ho) _

def wantM (ops : Array Oper) (fr : Tmp → Sm) (o : Oper) : Option Bool :=
  match o.guard with
  | none => some true
  | some (j, b) => match (ops[j]?).bind (·.dst) with
    | some d => match fr d with
      | .is (.bool g) => some (g == b)
      | .is _ => some false
      | _ => none
    | none => none

/-- What is asked of operation i; r: how many loud ones stand ahead of it. -/
def ObM (P : Program) (S0 : Nat → Prop) (w0 : World) (D : Nat → Nat → Gh → World → Prop) (ops : Array Oper) (fr : Tmp → Sm) (s : Sm) (loud stir : Bool) (tot : Nat) (lim : Nat → Bool) (r : Nat) (o : Oper) : Prop :=
  match wantM ops fr o with
  | some true => ∀ (a : Act) (g : Gh) (w : World), Keep S0 w0 w → Base S0 w0 g w → (∀ t ∈ tmpsOf o, (fr t).ok g w (a.tmps.getD t undef)) →
      if loud then ∀ n, D r n g w → OutL P S0 w0 (D (r + 1) n) s g w ((execOp a.eval o).run P w) else ∀ c n, (∀ K, lim K = true → c ≤ K) → D c n g w → if stir then n < tot → OutL P S0 w0 (D c (n + 1)) s g w ((execOp a.eval o).run P w) else OutQ P s g w ((execOp a.eval o).run P w)
  | some false => s = .is undef ∧ loud = false ∧ stir = false
  | none => False

def rank (n : Nat) (loud : Nat → Bool) (i : Nat) : Nat := ((List.range n).filter fun j => loud j && decide (j < i)).length
def cnt (n : Nat) (loud : Nat → Bool) (listed : Array Bool) : Nat := ((List.range n).filter fun j => loud j && listed.getD j false).length
/-- Each loud one waits for all loud ones ahead of it. -/
def chain (ops : Array Oper) (loud : Nat → Bool) : Bool :=
  (List.range ops.size).all fun j => !loud j || (List.range j).all fun i => !loud i || (direct ops j i || (List.range j).any fun k => Nat.blt i k && loud k)

/-- Does the loud operation of rank K wait for operation i? -/
def limB (ops : Array Oper) (loud : Nat → Bool) (K i : Nat) : Bool :=
  (List.range ops.size).any fun f => loud f && (Nat.beq (rank ops.size loud f) K && (direct ops f i || (List.range ops.size).any fun k => direct ops f k && (direct ops k i || (List.range ops.size).any fun m => direct ops k m && direct ops m i)))
structure InvM (S0 : Nat → Prop) (w0 : World) (D : Nat → Nat → Gh → World → Prop) (ops : Array Oper) (sp : Nat → Sm) (loud stir : Nat → Bool) (a0 : Act) (listed : Array Bool) (a : Act) (g : Gh) (w : World) : Prop where
  keep : Keep S0 w0 w
  base : Base S0 w0 g w
  d : D (cnt ops.size loud listed) (cnt ops.size stir listed) g w
  defers : a.defers = a0.defers
  size : a.tmps.size = a0.tmps.size
  ls : listed.size = ops.size
  down : ∀ (i : Nat) o, ops[i]? = some o → listed.getD i false = true → ∀ e ∈ o.after, Region.binds .any e = true → listed.getD e.on false = true
  done : ∀ (i : Nat) (o : Oper) d, ops[i]? = some o → o.dst = some d → listed.getD i false = true → (sp i).ok g w (a.tmps.getD d undef)
  old : ∀ t, (∀ (i : Nat) (o : Oper), ops[i]? = some o → o.dst = some t → listed.getD i false = false) → a.tmps.getD t undef = a0.tmps.getD t undef

theorem chain_spec {ops : Array Oper} {loud : Nat → Bool} (h : chain ops loud = true) {listed : Array Bool} (down : ∀ (i : Nat) o, ops[i]? = some o → listed.getD i false = true → ∀ e ∈ o.after, Region.binds .any e = true → listed.getD e.on false = true) :
    ∀ (j : Nat) (o : Oper), ops[j]? = some o → loud j = true → (∀ e ∈ o.after, Region.binds .any e = true → listed.getD e.on false = true) → ∀ i, i < j → loud i = true → listed.getD i false = true := by
  intro j o hj hlj hall i hij hli
  -- by induction on j - i: the nearest loud one ahead of j is direct
  have key : ∀ d i, j - i = d → i < j → loud i = true → listed.getD i false = true := by
    intro d
    induction d using Nat.strongRecOn with
    | _ d ih =>
      intro i hd hij hli
      have hjl : j < ops.size := by
        rcases Nat.lt_or_ge j ops.size with h | h
        · exact h
        · rw [Array.getElem?_eq_none h] at hj; cases hj
      have h1 := List.all_eq_true.1 h j (List.mem_range.2 hjl)
      simp only [hlj, Bool.not_true, Bool.false_or] at h1
      have h2 := List.all_eq_true.1 h1 i (List.mem_range.2 hij)
      simp only [hli, Bool.not_true, Bool.false_or, Bool.or_eq_true, List.any_eq_true, List.mem_range, Bool.and_eq_true, Nat.blt_eq] at h2
      rcases h2 with h2 | ⟨k, hk, hik, hlk⟩
      · exact direct_listed hj h2 hall
      · -- k is loud between i and j: listed; and i is ahead of k
        have hkl := ih (j - k) (by omega) k rfl hk hlk
        have hks : k < ops.size := by omega
        have hko : ops[k]? = some ops[k] := by simp [hks]
        -- the same for k in place of j
        have key2 : ∀ d2 k, k - i = d2 → i < k → k < j → loud k = true → listed.getD k false = true → listed.getD i false = true := by
          intro d2
          induction d2 using Nat.strongRecOn with
          | _ d2 ih2 =>
            intro k hd2 hik hkj hlk hkl
            have hks : k < ops.size := by omega
            have hko : ops[k]? = some ops[k] := by simp [hks]
            have g1 := List.all_eq_true.1 h k (List.mem_range.2 hks)
            simp only [hlk, Bool.not_true, Bool.false_or] at g1
            have g2 := List.all_eq_true.1 g1 i (List.mem_range.2 hik)
            simp only [hli, Bool.not_true, Bool.false_or, Bool.or_eq_true, List.any_eq_true, List.mem_range, Bool.and_eq_true, Nat.blt_eq] at g2
            rcases g2 with g2 | ⟨k2, hk2, hik2, hlk2⟩
            · exact direct_listed hko g2 (down k _ hko hkl)
            · exact ih2 (k2 - i) (by omega) k2 rfl hik2 (by omega) hlk2 (ih (j - k2) (by omega) k2 rfl (by omega) hlk2)
        exact key2 (k - i) k rfl hik hk hlk hkl
  exact key _ i rfl hij hli

theorem cnt_rank {ops : Array Oper} {loud : Nat → Bool} {listed : Array Bool} (hc : chain ops loud = true) (down : ∀ (i : Nat) o, ops[i]? = some o → listed.getD i false = true → ∀ e ∈ o.after, Region.binds .any e = true → listed.getD e.on false = true)
    {i : Nat} {o : Oper} (hi : ops[i]? = some o) (hl : loud i = true) (hun : listed.getD i false = false) (hall : ∀ e ∈ o.after, Region.binds .any e = true → listed.getD e.on false = true) : cnt ops.size loud listed = rank ops.size loud i := by
  unfold cnt rank
  congr 1
  apply List.filter_congr
  intro j hj
  have hjs := List.mem_range.1 hj
  cases hlj : loud j with
  | false => rfl
  | true =>
    simp only [Bool.true_and]
    by_cases hji : j < i
    · rw [chain_spec hc down i o hi hl hall j hji hlj, decide_eq_true hji]
    · rw [decide_eq_false hji]
      by_cases e : j = i
      · subst e; exact hun
      · cases hx : listed.getD j false with
        | false => rfl
        | true =>
          have hjo : ops[j]? = some ops[j] := by simp [hjs]
          have := chain_spec hc down j _ hjo hlj (down j _ hjo hx) i (by omega) hl
          rw [hun] at this; cases this
theorem cnt_quiet {n : Nat} {loud : Nat → Bool} {listed : Array Bool} {i : Nat} (hl : loud i = false) : cnt n loud (listed.setIfInBounds i true) = cnt n loud listed := by
  unfold cnt
  congr 1
  apply List.filter_congr
  intro j _
  by_cases e : j = i
  · subst e; simp [hl]
  · have : ¬ i = j := fun h => e h.symm
    simp [Array.getElem?_setIfInBounds_ne this]
theorem cnt_loud {n : Nat} {loud : Nat → Bool} {listed : Array Bool} {i : Nat} (hs : listed.size = n) (hi : i < n) (hl : loud i = true) (hun : listed.getD i false = false) : cnt n loud (listed.setIfInBounds i true) = cnt n loud listed + 1 := by
  unfold cnt
  have : ∀ l : List Nat, l.Nodup → i ∈ l → (l.filter fun j => loud j && (listed.setIfInBounds i true).getD j false).length = (l.filter fun j => loud j && listed.getD j false).length + 1 := by
    intro l
    induction l with
    | nil => intro _ h; cases h
    | cons x l ih =>
      intro hnd hmem
      rw [List.nodup_cons] at hnd
      have heq : ∀ l : List Nat, i ∉ l → (l.filter fun j => loud j && (listed.setIfInBounds i true).getD j false) = (l.filter fun j => loud j && listed.getD j false) := by
        intro l hni
        apply List.filter_congr
        intro j hj
        have : ¬ i = j := fun e => hni (e ▸ hj)
        simp [Array.getElem?_setIfInBounds_ne this]
      rw [List.filter_cons, List.filter_cons]
      rcases List.mem_cons.1 hmem with rfl | hm
      · rw [heq l hnd.1, hl, hun, getD_set_self (by omega)]
        simp
      · have hne : ¬ i = x := fun e => hnd.1 (e ▸ hm)
        have hx : (listed.setIfInBounds i true).getD x false = listed.getD x false := by simp [Array.getElem?_setIfInBounds_ne hne]
        rw [hx]
        have := ih hnd.2 hm
        split
        · rw [List.length_cons, List.length_cons, this]
        · exact this
  exact this _ List.nodup_range (List.mem_range.2 hi)

theorem lim_spec {ops : Array Oper} {loud : Nat → Bool} (hch : chain ops loud = true) {listed : Array Bool} (hls : listed.size = ops.size) (down : ∀ (i : Nat) o, ops[i]? = some o → listed.getD i false = true → ∀ e ∈ o.after, Region.binds .any e = true → listed.getD e.on false = true)
    {i K : Nat} (he : limB ops loud K i = true) (hun : listed.getD i false = false) : cnt ops.size loud listed ≤ K := by
  have hops : ∀ j, listed.getD j false = true → ∃ o, ops[j]? = some o := fun j hj => by
    rcases Nat.lt_or_ge j ops.size with h | h
    · exact ⟨ops[j], by simp [h]⟩
    · rw [Array.getD_eq_getD_getElem?, Array.getElem?_eq_none (by omega)] at hj; cases hj
  obtain ⟨f, hf, h1⟩ := List.any_eq_true.1 he
  simp only [Bool.and_eq_true, Nat.beq_eq, Bool.or_eq_true, List.any_eq_true, List.mem_range] at h1
  obtain ⟨hlf, hr, hdep⟩ := h1
  have hnf : ¬ listed.getD f false = true := fun hl => by
    obtain ⟨of, hof⟩ := hops f hl
    have : listed.getD i false = true := by
      rcases hdep with h2 | ⟨k, _, h2, h3 | ⟨m, _, h3, h4⟩⟩
      · exact direct_listed hof h2 (down f of hof hl)
      · have hk := direct_listed hof h2 (down f of hof hl)
        obtain ⟨ok, hok⟩ := hops k hk
        exact direct_listed hok h3 (down k ok hok hk)
      · have hk := direct_listed hof h2 (down f of hof hl)
        obtain ⟨ok, hok⟩ := hops k hk
        have hm := direct_listed hok h3 (down k ok hok hk)
        obtain ⟨om, hom⟩ := hops m hm
        exact direct_listed hom h4 (down m om hom hm)
    rw [hun] at this; cases this
  rw [← hr]
  unfold cnt rank
  refine List.Sublist.length_le ?_
  have hsub : ∀ l : List Nat, ((l.filter fun j => loud j && listed.getD j false)).Sublist (l.filter fun j => loud j && decide (j < f)) := fun l => by
    induction l with
    | nil => exact List.Sublist.slnil
    | cons x l ih =>
      rw [List.filter_cons, List.filter_cons]
      by_cases hx : (loud x && listed.getD x false) = true
      · have hlx : loud x = true := by simp only [Bool.and_eq_true] at hx; exact hx.1
        have hdx : listed.getD x false = true := by simp only [Bool.and_eq_true] at hx; exact hx.2
        have hxf : x < f := by
          rcases Nat.lt_trichotomy x f with h | h | h
          · exact h
          · exact absurd (h ▸ hdx) hnf
          · obtain ⟨ox, hox⟩ := hops x hdx
            exact absurd (chain_spec hch down x ox hox hlx (down x ox hox hdx) f h hlf) hnf
        rw [if_pos hx, if_pos (by rw [hlx, decide_eq_true hxf]; rfl)]
        exact ih.cons_cons x
      · rw [if_neg hx]
        split
        · exact ih.cons x
        · exact ih
  exact hsub _

/-- What op i reads, when it may come up. -/
theorem InvM.reads {D : Nat → Nat → Gh → World → Prop} {loud stir : Nat → Bool} {f0 : Tmp → Sm} {ops : Array Oper} {sp : Nat → Sm} {a0 a : Act} {listed : Array Bool} {g : Gh} {w : World} (I : InvM S0 w0 D ops sp loud stir a0 listed a g w) (C : Chk ops a0.tmps.size) (hf : ∀ t g w, (f0 t).ok g w (a0.tmps.getD t undef)) {i : Nat} {o : Oper} (hi : ops[i]? = some o)
    (hun : listed.getD i false = false) (hall : ∀ e ∈ o.after, Region.binds .any e = true → listed.getD e.on false = true) {t : Tmp} (ht : t ∈ tmpsOf o ++ guardTmp ops o) :
    ((frM ops sp f0 i) t).ok g w (a.tmps.getD t undef) := by
  by_cases hw : ∃ (j : Nat) (o' : Oper), ops[j]? = some o' ∧ o'.dst = some t ∧ j < i
  · obtain ⟨j, o', hj, hd, hlt⟩ := hw
    rw [frM_new hj hd i hlt (fun k o'' hk ho'' hd'' => hk (C.one k j o'' o' t ho'' hj hd hd''))]
    refine I.done j o' t hj hd ?_
    rcases C.read i j o o' t hi hj hd ht (by omega) with h1 | h1
    · exact direct_listed hi h1.2 hall
    · omega
  · rw [frM_old i (fun j o' hlt hj hd => hw ⟨j, o', hj, hd, hlt⟩)]
    rw [show a.tmps.getD t undef = a0.tmps.getD t undef from ?_]
    · exact hf t g w
    refine I.old t fun j o' hj hd => ?_
    by_cases hji : j = i
    · rw [hji]; exact hun
    · rcases C.read i j o o' t hi hj hd ht (fun e => hji e.symm) with h1 | h1
      · exact absurd ⟨j, o', hj, hd, h1.1⟩ hw
      · cases hl : listed.getD j false with
        | false => rfl
        | true =>
          have := direct_listed hj h1.2 (I.down j o' hj hl)
          rw [hun] at this; cases this

/-- Behind op i. -/
theorem InvM.step {D : Nat → Nat → Gh → World → Prop} {loud stir : Nat → Bool} {ops : Array Oper} {sp : Nat → Sm} {a0 a : Act} {listed : Array Bool} {g g' : Gh} {w w' : World} (I : InvM S0 w0 D ops sp loud stir a0 listed a g w) (C : Chk ops a0.tmps.size) {i : Nat} {o : Oper} (hi : ops[i]? = some o)
    (hall : ∀ e ∈ o.after, Region.binds .any e = true → listed.getD e.on false = true) (k : Tr g w g' w') (hb : Base S0 w0 g' w') (hd : D (cnt ops.size loud (listed.setIfInBounds i true)) (cnt ops.size stir (listed.setIfInBounds i true)) g' w') {v : Value} (hv : (sp i).ok g' w' v) :
    InvM S0 w0 D ops sp loud stir a0 (listed.setIfInBounds i true) (a.put o.dst v) g' w' := by
  have hil : i < listed.size := by
    rw [I.ls]
    rcases Nat.lt_or_ge i ops.size with h | h
    · exact h
    · rw [Array.getElem?_eq_none h] at hi; cases hi
  have hput : ∀ t, o.dst ≠ some t → (a.put o.dst v).tmps.getD t undef = a.tmps.getD t undef := fun t ht => by
    unfold Act.put
    split
    · rename_i d hd
      have : d ≠ t := fun e => ht (by rw [hd, e])
      simp [Array.getElem?_setIfInBounds_ne this]
    · rfl
  refine ⟨I.keep.trans' k.keep (fun i hi hp => (I.base i hp).2 hi), hb, hd, ?_, ?_, by simp [I.ls], ?_, ?_, ?_⟩
  · unfold Act.put; split <;> exact I.defers
  · unfold Act.put; split <;> simp [I.size]
  · intro j oj hj hl e he hb
    by_cases hji : j = i
    · subst hji
      rw [hi] at hj; cases hj
      exact getD_set_of (hall e he hb)
    · refine getD_set_of (I.down j oj hj ?_ e he hb)
      have hij : ¬ i = j := fun e => hji e.symm
      simpa [Array.getElem?_setIfInBounds_ne hij] using hl
  · intro j oj d hj hd hl
    by_cases hji : j = i
    · subst hji
      rw [hi] at hj; cases hj
      have hdl : d < a.tmps.size := by rw [I.size]; exact C.inb j o d hi hd
      have : (a.put o.dst v).tmps.getD d undef = v := by simp [Act.put, hd, hdl]
      rw [this]; exact hv
    · have hne : o.dst ≠ some d := fun e => hji (C.one j i oj o d hj hi e hd)
      rw [hput d hne]
      have hij : ¬ i = j := fun e => hji e.symm
      exact Sm.ok_tr (I.done j oj d hj hd (by simpa [Array.getElem?_setIfInBounds_ne hij] using hl)) k
  · intro t ht
    have hne : o.dst ≠ some t := fun e => by
      have := ht i o hi e
      rw [getD_set_self hil] at this; cases this
    rw [hput t hne]
    refine I.old t fun j oj hj hd => ?_
    cases hl : listed.getD j false with
    | false => rfl
    | true =>
      have := ht j oj hj hd
      rw [getD_set_of hl] at this; cases this

theorem wantedM_of {ops : Array Oper} {fr : Tmp → Sm} {a : Act} {g0 : Gh} {w : World} {o : Oper} {n : Nat} {b : Bool} (hw : wantM ops fr o = some b) (hn : a.tmps.size = n) (hin : ∀ (i : Nat) (o : Oper) d, ops[i]? = some o → o.dst = some d → d < n)
    (hr : ∀ t ∈ guardTmp ops o, (fr t).ok g0 w (a.tmps.getD t undef)) : Region.wanted o (yielded ops a.tmps) = b := by
  unfold wantM at hw
  unfold Region.wanted
  split at hw
  · rename_i hg
    simp only [hg]
    exact Option.some.inj hw
  · rename_i j g hg
    simp only [hg]
    split at hw
    · rename_i d hd
      have hmem : d ∈ guardTmp ops o := by simp [guardTmp, hg, hd]
      have hok := hr d hmem
      rw [Option.bind_eq_some_iff] at hd
      obtain ⟨oj, hoj, hdj⟩ := hd
      have hdl : d < a.tmps.size := by rw [hn]; exact hin j oj d hoj hdj
      have hget : a.tmps[d]? = some (a.tmps.getD d undef) := by simp [hdl]
      have hy : yielded ops a.tmps j = match a.tmps.getD d undef with | .bool b => some b | _ => none := by
        unfold yielded
        simp only [hoj, Option.bind_some, hdj, hget]
        cases a.tmps.getD d undef <;> rfl
      rw [hy]
      split at hw
      · rename_i x hx
        rw [hx] at hok
        simp only [Sm.ok] at hok
        rw [hok]
        have := Option.some.inj hw
        subst this
        cases x <;> cases g <;> rfl
      · rename_i v hx hnb
        rw [hnb] at hok
        simp only [Sm.ok] at hok
        rw [hok]
        have := Option.some.inj hw
        subst this
        cases v <;> first | rfl | (rename_i bb; exact absurd rfl (hx bb))
      · cases hw
    · cases hw

theorem wpAny_relM {D : Nat → Nat → Gh → World → Prop} {loud stir : Nat → Bool} {f0 : Tmp → Sm} {ops : Array Oper} {Q : Exit → Act → World → Prop} {a0 : Act} {sp : Nat → Sm} (hch : chain ops loud = true) (hD : ∀ k s g w w', Keep No w w' → D k s g w → D k s g w') (C : Chk ops a0.tmps.size) (hf0 : ∀ t g w, (f0 t).ok g w (a0.tmps.getD t undef))
    (hls : ∀ i, (loud i && stir i) = false) (hob : ∀ (i : Nat) o, ops[i]? = some o → ObM P S0 w0 D ops (frM ops sp f0 i) (sp i) (loud i) (stir i) (rank ops.size stir ops.size) (fun K => limB ops loud K i) (rank ops.size loud i) o)
    (hQ : ∀ a g w, Keep S0 w0 w → Base S0 w0 g w → D (rank ops.size loud ops.size) (rank ops.size stir ops.size) g w → a.defers = a0.defers → a.tmps.size = a0.tmps.size → (∀ t, (frM ops sp f0 ops.size t).ok g w (a.tmps.getD t undef)) → Q .normal a w) :
    ∀ (fuel : Nat) (listed : Array Bool) (a : Act) (g : Gh) (w : World), InvM S0 w0 D ops sp loud stir a0 listed a g w → (openOf ops.size listed).length ≤ fuel → wpAny P .any ops Q fuel listed a w := by
  have fin : ∀ (listed : Array Bool) (a : Act) (g : Gh) (w : World), InvM S0 w0 D ops sp loud stir a0 listed a g w → Region.ready .any ops listed = [] → Q .normal a w := by
    intro listed a g w I hr
    have hall := ready_of_open C I.ls hr
    have hcnt : ∀ loud : Nat → Bool, cnt ops.size loud listed = rank ops.size loud ops.size := fun loud => by
      unfold cnt rank
      congr 1
      apply List.filter_congr
      intro j hj
      have hjs := List.mem_range.1 hj
      rw [hall j hjs, decide_eq_true hjs]
    refine hQ a g w I.keep I.base (by rw [← hcnt loud, ← hcnt stir]; exact I.d) I.defers I.size fun t => ?_
    by_cases hw : ∃ (j : Nat) (o' : Oper), ops[j]? = some o' ∧ o'.dst = some t
    · obtain ⟨j, o', hj, hd⟩ := hw
      have hjl : j < ops.size := by
        rcases Nat.lt_or_ge j ops.size with h | h
        · exact h
        · rw [Array.getElem?_eq_none h] at hj; cases hj
      rw [frM_new hj hd ops.size hjl (fun k o'' hk ho'' hd'' => hk (C.one k j o'' o' t ho'' hj hd hd''))]
      exact I.done j o' t hj hd (hall j hjl)
    · rw [frM_old ops.size (fun j o' _ hj hd => hw ⟨j, o', hj, hd⟩)]
      rw [I.old t fun j o' hj hd => absurd ⟨j, o', hj, hd⟩ hw]
      exact hf0 t g w
  intro fuel
  induction fuel with
  | zero =>
    intro listed a g w I hf
    have hnil : openOf ops.size listed = [] := List.length_eq_zero_iff.1 (by omega)
    have hr : Region.ready .any ops listed = [] := by
      apply List.eq_nil_iff_forall_not_mem.2
      intro i hi
      have h1 := (mem_ready.1 hi).1
      obtain ⟨_, o, ho, _⟩ := mem_ready.1 hi
      have : i ∈ openOf ops.size listed := by
        have : i < ops.size := by
          rcases Nat.lt_or_ge i ops.size with h | h
          · exact h
          · rw [Array.getElem?_eq_none h] at ho; cases ho
        simp only [openOf, List.mem_filter, List.mem_range, Bool.not_eq_true']
        exact ⟨this, h1⟩
      rw [hnil] at this; cases this
    exact ⟨hr, fin listed a g w I hr⟩
  | succ fuel ih =>
    intro listed a g w I hf
    refine ⟨fin listed a g w I, fun i hi => ?_⟩
    obtain ⟨hun, o, ho, hall⟩ := mem_ready.1 hi
    have hil : i < ops.size := by
      rcases Nat.lt_or_ge i ops.size with h | h
      · exact h
      · rw [Array.getElem?_eq_none h] at ho; cases ho
    have hun' : listed.getD i false = false := by rw [← getD_tf (by rw [I.ls]; exact hil)]; exact hun
    have hmore := openOf_set I.ls hil hun
    have hreads := fun t ht => I.reads C hf0 ho hun' hall (t := t) ht
    have hO := hob i o ho
    unfold ObM at hO
    unfold wpOp
    simp only [ho]
    cases hw : wantM ops (frM ops sp f0 i) o with
    | none => rw [hw] at hO; exact hO.elim
    | some b =>
      have hwant := wantedM_of (g0 := g) (w := w) hw I.size C.inb (fun t ht => hreads t (List.mem_append.2 (.inr ht)))
      rw [hwant]
      cases b with
      | true =>
        rw [hw] at hO
        simp only [if_true]
        have hO' := hO a g w I.keep I.base (fun t ht => hreads t (List.mem_append.2 (.inl ht)))
        cases hl : loud i with
        | true =>
          rw [hl] at hO'
          simp only [if_true] at hO'
          have hst : stir i = false := by have := hls i; rw [hl] at this; simpa using this
          have hcr := cnt_rank hch I.down ho hl hun' hall
          refine .inl (wp_of_outL (hO' _ (hcr ▸ I.d)) fun v g' w' htr hb hd hv => ?_)
          exact ih _ _ g' _ (I.step C ho hall htr hb (by rw [cnt_loud I.ls hil hl hun', cnt_quiet hst, hcr]; exact hd) hv) (by omega)
        | false =>
          rw [hl] at hO'
          simp only [Bool.false_eq_true, if_false] at hO'
          have hE : ∀ K, limB ops loud K i = true → cnt ops.size loud listed ≤ K := fun K he => lim_spec hch I.ls I.down he hun'
          have hO2 := hO' _ _ hE I.d
          cases hst : stir i with
          | true =>
            rw [hst] at hO2
            simp only [if_true] at hO2
            have hc1 := cnt_loud I.ls hil hst hun'
            have htot : cnt ops.size stir (listed.setIfInBounds i true) ≤ rank ops.size stir ops.size := by
              unfold cnt rank
              generalize listed.setIfInBounds i true = L
              have : ∀ l : List Nat, (∀ j ∈ l, j < ops.size) → (l.filter fun j => stir j && L.getD j false).length ≤ (l.filter fun j => stir j && decide (j < ops.size)).length := fun l => by
                induction l with
                | nil => intro _; exact Nat.le_refl _
                | cons x l ihl =>
                  intro hx
                  have h1 := ihl (fun j hj => hx j (by simp [hj]))
                  have h2 := hx x (by simp)
                  rw [List.filter_cons, List.filter_cons, decide_eq_true h2]
                  cases stir x <;> cases L.getD x false <;> simp only [Bool.and_true, Bool.and_false, if_true, Bool.false_eq_true, if_false, List.length_cons] <;> omega
              exact this _ (fun j hj => List.mem_range.1 hj)
            refine .inl (wp_of_outL (hO2 (by omega)) fun v g' w' htr hb hd hv => ?_)
            exact ih _ _ g' _ (I.step C ho hall htr hb (by rw [cnt_quiet hl, hc1]; exact hd) hv) (by omega)
          | false =>
            rw [hst] at hO2
            simp only [Bool.false_eq_true, if_false] at hO2
            refine .inl (wp_of_outQ hO2 fun v w' k hv => ?_)
            exact ih _ _ g _ (I.step C ho hall (Tr.quiet k) (I.base.mono k) (by rw [cnt_quiet hl, cnt_quiet hst]; exact hD _ _ _ _ _ k I.d) hv) (by omega)
      | false =>
        rw [hw] at hO
        simp only [Bool.false_eq_true, if_false]
        exact ih _ _ g _ (I.step C ho hall (Tr.quiet (Keep.refl _ _)) I.base (by rw [cnt_quiet hO.2.1, cnt_quiet hO.2.2]; exact I.d) (v := undef) (by rw [hO.1]; rfl)) (by omega)

/-- A region that draws its order, with loud calls. -/
theorem region_relM {D : Nat → Nat → Gh → World → Prop} {loud stir : Nat → Bool} {f0 : Tmp → Sm} {id : Nat} {ops : Array Oper} {Q : Exit → Act → World → Prop} {a0 : Act} {sp : Nat → Sm} {g0 : Gh} (hm : P.follows .mixedOrders = true) (hc : chk ops a0.tmps.size = true) (hch : chain ops loud = true)
    (hD : ∀ k s g w w', Keep No w w' → D k s g w → D k s g w') (hf : ∀ t g w, (f0 t).ok g w (a0.tmps.getD t undef)) (hb0 : Base S0 w0 g0 w0) (hd0 : D 0 0 g0 w0)
    (hls : ∀ i, (loud i && stir i) = false) (hob : ∀ (i : Nat) o, ops[i]? = some o → ObM P S0 w0 D ops (frM ops sp f0 i) (sp i) (loud i) (stir i) (rank ops.size stir ops.size) (fun K => limB ops loud K i) (rank ops.size loud i) o)
    (hQ : ∀ a g w, Keep S0 w0 w → Base S0 w0 g w → D (rank ops.size loud ops.size) (rank ops.size stir ops.size) g w → a.defers = a0.defers → a.tmps.size = a0.tmps.size → (∀ t, (frM ops sp f0 ops.size t).ok g w (a.tmps.getD t undef)) → Q .normal a w) :
    (Code.region id ops true).wp P Q a0 w0 := by
  have hz : ∀ loud : Nat → Bool, cnt ops.size loud (Array.replicate ops.size false) = 0 := fun loud => by
    unfold cnt
    rw [List.length_eq_zero_iff, List.filter_eq_nil_iff]
    intro j hj h
    simp [Array.getElem?_replicate] at h
    obtain ⟨_, h⟩ := h
    split at h <;> simp at h
  refine wp_region_any hm (wpAny_relM hch hD (chk_spec hc) hf hls hob hQ _ _ _ g0 _ ?_ ?_)
  · refine ⟨(Keep.refl _ _).drew, hb0.mono (Keep.refl _ _).drew, by rw [hz, hz]; exact hD _ _ _ _ _ (Keep.refl _ _).drew hd0, rfl, rfl, by simp, ?_, ?_, fun _ _ => rfl⟩
    · intro i o _ h
      simp [Array.getElem?_replicate] at h
      split at h <;> simp at h
    · intro i o d _ _ h
      simp [Array.getElem?_replicate] at h
      split at h <;> simp at h
  · unfold openOf
    exact Nat.le_trans (List.length_filter_le _ _) (by simp)
end
section
variable {P : Program} {S0 : Nat → Prop} {w0 : World}
def toSv : Sm → Sv | .is v => .is v | .such _ _ => .such (fun _ _ => True) (fun _ _ _ _ _ => trivial)
theorem toSv_ok {s : Sm} {g : Gh} {w : World} {x : Value} (h : s.ok g w x) : (toSv s).ok w x := by
  cases s with
  | is v => exact h
  | such p m => trivial
def opSm (fr : Tmp → Sm) : Operand → Sm
  | .tmp t => fr t
  | .const v => .is v
  | .global g => .is (.pointer (some ⟨g, 0, none⟩))
  | .func f => .is (.func (.func f) #[] #[])
theorem opSm_eval {fr : Tmp → Sm} {a : Act} {g : Gh} {w : World} {o : Oper} (h : ∀ t ∈ tmpsOf o, (fr t).ok g w (a.tmps.getD t undef)) {x : Operand} (hx : x ∈ o.op.operands) : (opSm fr x).ok g w (a.eval x) := by
  cases x with
  | tmp t => exact h t (List.mem_filterMap.2 ⟨.tmp t, by simpa using hx, rfl⟩)
  | const v => rfl
  | global g => rfl
  | func f => rfl
def allOkM : List Sm → Gh → World → List Value → Prop
  | [], _, _, [] => True
  | s :: l, g, w, v :: vs => s.ok g w v ∧ allOkM l g w vs
  | _, _, _, _ => False
theorem allOkM_map {fr : Tmp → Sm} {a : Act} {g : Gh} {w : World} : ∀ (l : List Operand), (∀ x ∈ l, (opSm fr x).ok g w (a.eval x)) → allOkM (l.map (opSm fr)) g w (l.map a.eval)
  | [], _ => trivial
  | x :: l, h => ⟨h x (by simp), allOkM_map l fun y hy => h y (by simp [hy])⟩

inductive HintM where
  | is (v : Value)
  | bin (v : Value)
  | sem (v : Value)
  | call (s : Sm)
  | loud (s : Sm)
  | act (s : Sm)
  | by (s : Sm)
  | new (s : Sm)
  | early (s : Sm)
  | mid (K : Nat) (s : Sm)
  | stir (K : Nat) (s : Sm)
def isLoud : Option HintM → Bool | some (.loud _) | some (.act _) => true | _ => false
def isStir : Option HintM → Bool | some (.stir _ _) => true | _ => false
theorem loud_stir (h : Option HintM) : (isLoud h && isStir h) = false := by
  cases h with
  | none => rfl
  | some h => cases h <;> rfl
/-- Owed for a comparison, an inner run, a call, a loud call, any operation. -/
def SemM (P : Program) (S0 : Nat → Prop) (w0 : World) (s : Sem Value) (v : Value) : Prop := ∀ w, Keep S0 w0 w → s.run P w = .ok v w
def CallM (P : Program) (S0 : Nat → Prop) (w0 : World) (f : FuncId) (args : List Sm) (s : Sm) : Prop :=
  ∀ g w vals, Keep S0 w0 w → Base S0 w0 g w → allOkM args g w vals → Calls P f vals.toArray w (fun e w' => ∃ v, e = .returned v ∧ Keep No w w' ∧ s.ok g w' v)
def LoudM (P : Program) (S0 : Nat → Prop) (w0 : World) (D : Nat → Nat → Gh → World → Prop) (r : Nat) (f : FuncId) (args : List Sm) (s : Sm) : Prop :=
  ∀ g w n vals, Keep S0 w0 w → Base S0 w0 g w → D r n g w → allOkM args g w vals → Calls P f vals.toArray w (fun e w' => ∃ v g', e = .returned v ∧ Tr g w g' w' ∧ Base S0 w0 g' w' ∧ D (r + 1) n g' w' ∧ s.ok g' w' v)
/-- Owed for a loud operation that is no call. -/
def ActM (P : Program) (S0 : Nat → Prop) (w0 : World) (D : Nat → Nat → Gh → World → Prop) (r : Nat) (op : Op) (ty : TypeId) (reads : List (Tmp × Sm)) (s : Sm) : Prop :=
  ∀ (a : Act) (o : Oper) (g : Gh) w (n : Nat), o.op = op → o.type = ty → Keep S0 w0 w → Base S0 w0 g w → D r n g w → (∀ q ∈ reads, q.2.ok g w (a.tmps.getD q.1 undef)) → OutL P S0 w0 (D (r + 1) n) s g w ((execOp a.eval o).run P w)
def ByM (P : Program) (S0 : Nat → Prop) (w0 : World) (op : Op) (ty : TypeId) (reads : List (Tmp × Sm)) (s : Sm) : Prop :=
  ∀ (a : Act) (o : Oper) (g : Gh) w, o.op = op → o.type = ty → Keep S0 w0 w → Base S0 w0 g w → (∀ q ∈ reads, q.2.ok g w (a.tmps.getD q.1 undef)) → OutQ P s g w ((execOp a.eval o).run P w)

/-- Owed for an operation that stands ahead of the first loud one. -/
def EarlyM (P : Program) (S0 : Nat → Prop) (w0 : World) (D : Nat → Nat → Gh → World → Prop) (op : Op) (ty : TypeId) (reads : List (Tmp × Sm)) (s : Sm) : Prop :=
  ∀ (a : Act) (o : Oper) (g : Gh) w, o.op = op → o.type = ty → Keep S0 w0 w → Base S0 w0 g w → (∃ n, D 0 n g w) → (∀ q ∈ reads, q.2.ok g w (a.tmps.getD q.1 undef)) → OutQ P s g w ((execOp a.eval o).run P w)

/-- Owed for an operation that the loud one of rank K waits for. -/
def MidM (P : Program) (S0 : Nat → Prop) (w0 : World) (D : Nat → Nat → Gh → World → Prop) (K : Nat) (op : Op) (ty : TypeId) (reads : List (Tmp × Sm)) (s : Sm) : Prop :=
  ∀ (a : Act) (o : Oper) (g : Gh) w (k : Nat), o.op = op → o.type = ty → Keep S0 w0 w → Base S0 w0 g w → k ≤ K → (∃ n, D k n g w) → (∀ q ∈ reads, q.2.ok g w (a.tmps.getD q.1 undef)) → OutQ P s g w ((execOp a.eval o).run P w)

/-- Owed for an operation that may turn the ghost, at any rank up to K. -/
def StirM (P : Program) (S0 : Nat → Prop) (w0 : World) (D : Nat → Nat → Gh → World → Prop) (tot K : Nat) (op : Op) (ty : TypeId) (reads : List (Tmp × Sm)) (s : Sm) : Prop :=
  ∀ (a : Act) (o : Oper) (g : Gh) w (k n : Nat), o.op = op → o.type = ty → Keep S0 w0 w → Base S0 w0 g w → k ≤ K → n < tot → D k n g w → (∀ q ∈ reads, q.2.ok g w (a.tmps.getD q.1 undef)) → OutL P S0 w0 (D k (n + 1)) s g w ((execOp a.eval o).run P w)

/-- The inner run of an operation that makes memory. -/
def semNew (ρ : Operand → Value) (o : Oper) : Option (Sem Value) :=
  match o.op with
  | .buildSlice t len parts => some (Instr.buildSlice t len (parts.map fun (i, x) => (i, ρ x)))
  | .box e x => some (Instr.box e (ρ x))
  | .alloc e => some (Instr.alloc e true (.tuple #[]))
  | _ => none
theorem semNew_run {ρ : Operand → Value} {o : Oper} {s : Sem Value} {v : Value} {w w' : World} (h : semNew ρ o = some s) (hr : s.run P w = .ok v w') : (execOp ρ o).run P w = .ok (.value v) w' := by
  unfold semNew at h
  unfold execOp
  split at h <;> first | (cases h; done) | skip
  all_goals
    rename_i hop
    cases h
    simp only [hop, Sem.run_bind, Sem.run_pure]
    rw [hr]
    rfl
def NewM (P : Program) (S0 : Nat → Prop) (w0 : World) (q : Sem Value) (s : Sm) : Prop := ∀ g w, Keep S0 w0 w → Base S0 w0 g w → ∃ v w', q.run P w = .ok v w' ∧ Keep No w w' ∧ s.ok g w' v

def evM1 (P : Program) (S0 : Nat → Prop) (w0 : World) (D : Nat → Nat → Gh → World → Prop) (ops : Array Oper) (rows : List Row) (gt : Nat → Option Nat) (fr : Tmp → Sm) (tags : Tmp → Option Nat) (h : Option HintM) (r tot : Nat) (ear : Nat → Bool) (o : Oper) : Option (Sm × Prop × List (Nat × Nat)) :=
  match wantM ops fr o with
  | none => none
  | some false => if isLoud h || isStir h then none else some (.is undef, True, [])
  | some true => match h with
    | none => match plain P rows tags gt (fun t => toSv (fr t)) o with
      | some (v, d) => some (.is v, True, d.blks)
      | none => none
    | some (.is v') => match plain P rows tags gt (fun t => toSv (fr t)) o with
      | some (v, d) => some (.is v', v = v', d.blks)
      | none => none
    | some (.sem v') => if (tmpsOf o).all (fun t => isIs (toSv (fr t))) then match semOf (fun x => toV (opSv (fun t => toSv (fr t)) x)) o with
        | some s => some (.is v', SemM P S0 w0 s v', [])
        | none => none
      else none
    | some (.bin v') => match o.op with
      | .binOp op t x y _ => if (tmpsOf o).all (fun t => isIs (toSv (fr t))) then
          match aRun P none (eqGuard op t x y (toV (opSv (fun t => toSv (fr t)) x)) (toV (opSv (fun t => toSv (fr t)) y))) with
          | some _ => some (.is v', SemM P S0 w0 (binOp op t (toV (opSv (fun t => toSv (fr t)) x)) (toV (opSv (fun t => toSv (fr t)) y))) v', [])
          | none => none
        else none
      | _ => none
    | some (.call s) => match o.op with
      | .call { callee := .value (.func f), args := args, argTypes := _ } => if callOk P f then some (s, CallM P S0 w0 f (args.toList.map (opSm fr)) s, []) else none
      | _ => none
    | some (.loud s) => match o.op with
      | .call { callee := .value (.func f), args := args, argTypes := _ } => if callOk P f then some (s, LoudM P S0 w0 D r f (args.toList.map (opSm fr)) s, []) else none
      | _ => none
    | some (.act s) => some (s, ActM P S0 w0 D r o.op o.type ((tmpsOf o).map (fun t => (t, fr t))) s, [])
    | some (.by s) => some (s, ByM P S0 w0 o.op o.type ((tmpsOf o).map (fun t => (t, fr t))) s, [])
    | some (.new s) => if (tmpsOf o).all (fun t => isIs (toSv (fr t))) then match semNew (fun x => toV (opSv (fun t => toSv (fr t)) x)) o with
        | some q => some (s, NewM P S0 w0 q s, [])
        | none => none
      else none
    | some (.early s) => if ear 0 then some (s, EarlyM P S0 w0 D o.op o.type ((tmpsOf o).map (fun t => (t, fr t))) s, []) else none
    | some (.stir K s) => if ear K then some (s, StirM P S0 w0 D tot K o.op o.type ((tmpsOf o).map (fun t => (t, fr t))) s, []) else none
    | some (.mid K s) => if ear K then some (s, MidM P S0 w0 D K o.op o.type ((tmpsOf o).map (fun t => (t, fr t))) s, []) else none

theorem evM1_ob {D : Nat → Nat → Gh → World → Prop} {ops : Array Oper} {rows : List Row} {gt : Nat → Option Nat} {fr : Tmp → Sm} {tags : Tmp → Option Nat} {h : Option HintM} {r tot : Nat} {ear : Nat → Bool} {o : Oper} {s : Sm} {p : Prop} {bl : List (Nat × Nat)}
    (he : evM1 P S0 w0 D ops rows gt fr tags h r tot ear o = some (s, p, bl)) (hp : p) (hb : ∀ q ∈ bl, q.1 = q.2) (hr : ∀ w, Keep S0 w0 w → Rows w rows) (hs : ∀ cs b, o.op ≠ .select cs b) : ObM P S0 w0 D ops fr s (isLoud h) (isStir h) tot ear r o := by
  unfold evM1 at he
  unfold ObM
  have paid : ∀ {d : Owed}, bl = d.blks → Paid P w0 { blks := d.blks } := fun e => ⟨(by intro _ h; cases h), fun q hq => hb q (by rw [e]; exact hq), (by intro _ h; cases h), (by intro _ h; cases h), (by intro _ h; cases h), (by intro _ h; cases h)⟩
  have prun : ∀ {v : Value} {d : Owed}, plain P rows tags gt (fun t => toSv (fr t)) o = some (v, d) → bl = d.blks → ∀ {a : Act} {g : Gh} {w : World}, Keep S0 w0 w → (∀ t ∈ tmpsOf o, (fr t).ok g w (a.tmps.getD t undef)) → (execOp a.eval o).run P w = .ok (.value v) w := by
    intro v d hpl hbl a g w k ha
    have hd : d = { blks := d.blks } := by
      unfold plain at hpl
      split at hpl
      · split at hpl
        · split at hpl <;> cases hpl; rfl
        · split at hpl <;> cases hpl; rfl
      · cases hpl
    rw [hd] at hpl
    exact plain_run hpl (paid hbl) (hr w k) hs (fun t ht => toSv_ok (ha t ht))
  split at he
  · cases he
  · split at he
    · cases he
    · rename_i hw hl
      cases he
      rw [hw]
      simp only [Bool.not_eq_true, Bool.or_eq_false_iff] at hl
      exact ⟨rfl, hl⟩
  · rename_i hw
    rw [hw]
    intro a g w k hbase ha
    have hav : ∀ t ∈ tmpsOf o, (toSv (fr t)).ok w (a.tmps.getD t undef) := fun t ht => toSv_ok (ha t ht)
    split at he
    · split at he
      · rename_i v d hpl
        cases he
        simp only [isLoud, isStir, Bool.false_eq_true, if_false]
        intro _ _ _ _
        rw [prun hpl rfl k ha]
        exact ⟨Keep.refl _ _, rfl⟩
      · cases he
    · split at he
      · rename_i v d hpl
        cases he
        simp only [isLoud, isStir, Bool.false_eq_true, if_false]
        intro _ _ _ _
        rw [prun hpl rfl k ha]
        exact ⟨Keep.refl _ _, hp⟩
      · cases he
    · split at he
      · rename_i hall
        split at he
        · rename_i q hq
          cases he
          simp only [isLoud, isStir, Bool.false_eq_true, if_false]
          intro _ _ _ _
          rw [execOp_congr o hs (fun x hx => toV_eval hav hall hx), semOf_run hq (hp w k)]
          exact ⟨Keep.refl _ _, rfl⟩
        · cases he
      · cases he
    · split at he
      · rename_i op t x y yt hop
        split at he
        · rename_i hall
          split at he
          · rename_i gg hg
            cases he
            simp only [isLoud, isStir, Bool.false_eq_true, if_false]
            intro _ _ _ _
            have h1 : a.eval x = toV (opSv (fun t => toSv (fr t)) x) := toV_eval hav hall (by rw [hop]; simp [Op.operands])
            have h2 : a.eval y = toV (opSv (fun t => toSv (fr t)) y) := toV_eval hav hall (by rw [hop]; simp [Op.operands])
            have h3 := hp w k
            have h4 : (eqGuard op t x y (toV (opSv (fun t => toSv (fr t)) x)) (toV (opSv (fun t => toSv (fr t)) y))).run P w = .ok gg.1 w := aRun_none (l := gg.2) hg
            unfold execOp
            simp only [hop, h1, h2, Sem.run_bind, h4, Result.andThen_ok, h3, Sem.run_pure]
            exact ⟨Keep.refl _ _, rfl⟩
          · cases he
        · cases he
      · cases he
    · split at he
      · rename_i f args ts hop
        split at he
        · rename_i hk
          cases he
          simp only [isLoud, isStir, Bool.false_eq_true, if_false]
          intro _ _ _ _
          rw [run_call hop rfl hk]
          refine ⟨Keep.refl _ _, ?_⟩
          have hc := hp g w (args.toList.map a.eval) k hbase (allOkM_map _ fun x hx => opSm_eval ha (by rw [hop]; simp [Op.operands, Call.operands]; exact .inr (by simpa using hx)))
          have e : (args.toList.map a.eval).toArray = args.map a.eval := by apply Array.ext'; simp
          rw [e] at hc
          exact hc
        · cases he
      · cases he
    · split at he
      · rename_i f args ts hop
        split at he
        · rename_i hk
          cases he
          simp only [isLoud, if_true]
          intro n hd
          rw [run_call hop rfl hk]
          refine ⟨rfl, ?_⟩
          have hc := hp g w n (args.toList.map a.eval) k hbase hd (allOkM_map _ fun x hx => opSm_eval ha (by rw [hop]; simp [Op.operands, Call.operands]; exact .inr (by simpa using hx)))
          have e : (args.toList.map a.eval).toArray = args.map a.eval := by apply Array.ext'; simp
          rw [e] at hc
          exact hc
        · cases he
      · cases he
    · cases he
      simp only [isLoud, if_true]
      intro n hd
      exact hp a o g w n rfl rfl k hbase hd (fun q hq => by
        obtain ⟨t, ht, rfl⟩ := List.mem_map.1 hq
        exact ha t ht)
    · cases he
      simp only [isLoud, isStir, Bool.false_eq_true, if_false]
      intro _ _ _ _
      exact hp a o g w rfl rfl k hbase (fun q hq => by
        obtain ⟨t, ht, rfl⟩ := List.mem_map.1 hq
        exact ha t ht)
    · split at he
      · rename_i hall
        split at he
        · rename_i q hq
          cases he
          simp only [isLoud, isStir, Bool.false_eq_true, if_false]
          intro _ _ _ _
          obtain ⟨v, w', h1, h2, h3⟩ := hp g w k hbase
          rw [execOp_congr o hs (fun x hx => toV_eval hav hall hx), semNew_run hq h1]
          exact ⟨h2, h3⟩
        · cases he
      · cases he
    · split at he
      · rename_i hear
        cases he
        simp only [isLoud, isStir, Bool.false_eq_true, if_false]
        intro k0 n hE hd0
        obtain rfl : k0 = 0 := by have := hE 0 hear; omega
        exact hp a o g w rfl rfl k hbase ⟨n, hd0⟩ (fun q hq => by
          obtain ⟨t, ht, rfl⟩ := List.mem_map.1 hq
          exact ha t ht)
      · cases he
    · split at he
      · rename_i hear
        cases he
        simp only [isLoud, isStir, Bool.false_eq_true, if_false, if_true]
        intro k0 n hE hd0 hn
        exact hp a o g w k0 n rfl rfl k hbase (hE _ hear) hn hd0 (fun q hq => by
          obtain ⟨t, ht, rfl⟩ := List.mem_map.1 hq
          exact ha t ht)
      · cases he
    · split at he
      · rename_i hear
        cases he
        simp only [isLoud, isStir, Bool.false_eq_true, if_false]
        intro k0 n hE hd0
        exact hp a o g w k0 rfl rfl k hbase (hE _ hear) ⟨n, hd0⟩ (fun q hq => by
          obtain ⟨t, ht, rfl⟩ := List.mem_map.1 hq
          exact ha t ht)
      · cases he

def hintM (hs : List (Nat × HintM)) (i : Nat) : Option HintM := match hs with | [] => none | (j, h) :: l => if Nat.beq i j then some h else hintM l i
def evM (P : Program) (S0 : Nat → Prop) (w0 : World) (D : Nat → Nat → Gh → World → Prop) (ops : Array Oper) (rows : List Row) (gt : Nat → Option Nat) (hs : List (Nat × HintM)) (tot : Nat) : List Oper → Nat → Nat → (Tmp → Sm) → (Tmp → Option Nat) → Option ((Tmp → Sm) × Prop × List (Nat × Nat))
  | [], _, _, fr, _ => some (fr, True, [])
  | o :: l, i, r, fr, tags => match evM1 P S0 w0 D ops rows gt fr tags (hintM hs i) r tot (fun K => limB ops (fun i => isLoud (hintM hs i)) K i) o with
    | none => none
    | some (s, p, bl) => match evM P S0 w0 D ops rows gt hs tot l (i + 1) (if isLoud (hintM hs i) then r + 1 else r) (putM fr o.dst s) (putT tags o.dst (tagOf tags gt o.op)) with
      | none => none
      | some (fr', p', bl') => some (fr', p ∧ p', bl ++ bl')

/-- How many loud ones stand ahead of i. -/
def rankH (hs : List (Nat × HintM)) : Nat → Nat | 0 => 0 | i + 1 => if isLoud (hintM hs i) then rankH hs i + 1 else rankH hs i
def rankS (hs : List (Nat × HintM)) : Nat → Nat | 0 => 0 | i + 1 => if isStir (hintM hs i) then rankS hs i + 1 else rankS hs i
theorem rank_eq {hs : List (Nat × HintM)} {n : Nat} : ∀ {i : Nat}, i ≤ n → rank n (fun j => isLoud (hintM hs j)) i = rankH hs i := by
  intro i hi
  have e : ∀ n, i ≤ n → ((List.range n).filter fun j => isLoud (hintM hs j) && decide (j < i)) = (List.range i).filter fun j => isLoud (hintM hs j) := by
    intro n
    induction n with
    | zero => intro h; obtain rfl : i = 0 := by omega
              rfl
    | succ n ih =>
      intro h
      rw [List.range_succ, List.filter_append]
      by_cases hin : i = n + 1
      · subst hin
        rw [List.range_succ, List.filter_append]
        congr 1
        · apply List.filter_congr
          intro j hj
          have := List.mem_range.1 hj
          simp [show j < n + 1 by omega]
        · simp [List.filter_cons]
      · rw [ih (by omega)]
        simp [show ¬ n < i by omega]
  have c : ∀ i, ((List.range i).filter fun j => isLoud (hintM hs j)).length = rankH hs i := by
    intro i
    induction i with
    | zero => rfl
    | succ i ih =>
      rw [List.range_succ, List.filter_append, List.length_append, ih]
      simp only [rankH, List.filter_cons, List.filter_nil]
      split <;> simp
  unfold rank
  rw [e n hi, c]

theorem rankS_eq {hs : List (Nat × HintM)} {n : Nat} : ∀ {i : Nat}, i ≤ n → rank n (fun j => isStir (hintM hs j)) i = rankS hs i := by
  intro i hi
  have e : ∀ n, i ≤ n → ((List.range n).filter fun j => isStir (hintM hs j) && decide (j < i)) = (List.range i).filter fun j => isStir (hintM hs j) := by
    intro n
    induction n with
    | zero => intro h; obtain rfl : i = 0 := by omega
              rfl
    | succ n ih =>
      intro h
      rw [List.range_succ, List.filter_append]
      by_cases hin : i = n + 1
      · subst hin
        rw [List.range_succ, List.filter_append]
        congr 1
        · apply List.filter_congr
          intro j hj
          have := List.mem_range.1 hj
          simp [show j < n + 1 by omega]
        · simp [List.filter_cons]
      · rw [ih (by omega)]
        simp [show ¬ n < i by omega]
  have c : ∀ i, ((List.range i).filter fun j => isStir (hintM hs j)).length = rankS hs i := by
    intro i
    induction i with
    | zero => rfl
    | succ i ih =>
      rw [List.range_succ, List.filter_append, List.length_append, ih]
      simp only [rankS, List.filter_cons, List.filter_nil]
      split <;> simp
  unfold rank
  rw [e n hi, c]

theorem evM_obs {D : Nat → Nat → Gh → World → Prop} {ops : Array Oper} {rows : List Row} {gt : Nat → Option Nat} {hs : List (Nat × HintM)} {tot : Nat} {f0 : Tmp → Sm} (hr : ∀ w, Keep S0 w0 w → Rows w rows) (hsel : ∀ (i : Nat) (o : Oper), ops[i]? = some o → ∀ cs b, o.op ≠ .select cs b) :
    ∀ (l : List Oper) (i : Nat) (tags : Tmp → Option Nat) (sp : Nat → Sm) (fr' : Tmp → Sm) (p : Prop) (bl : List (Nat × Nat)), (∀ j, l[j]? = ops[i + j]?) → evM P S0 w0 D ops rows gt hs tot l i (rankH hs i) (frM ops sp f0 i) tags = some (fr', p, bl) → p → (∀ q ∈ bl, q.1 = q.2) →
      ∃ sp' : Nat → Sm, (∀ j, j < i → sp' j = sp j) ∧ fr' = frM ops sp' f0 (i + l.length) ∧ ∀ (j : Nat) o, i ≤ j → j < i + l.length → ops[j]? = some o → ObM P S0 w0 D ops (frM ops sp' f0 j) (sp' j) (isLoud (hintM hs j)) (isStir (hintM hs j)) tot (fun K => limB ops (fun i => isLoud (hintM hs i)) K j) (rankH hs j) o
  | [], i, tags, sp, fr', p, bl, _, h, _, _ => by
    simp only [evM] at h
    cases h
    exact ⟨sp, fun _ _ => rfl, rfl, fun j o h1 h2 => by simp at h2; omega⟩
  | o :: l, i, tags, sp, fr', p, bl, hl, h, hp, hb => by
    simp only [evM] at h
    have h0 : ops[i]? = some o := by simpa using (hl 0).symm
    split at h
    · cases h
    · rename_i s p1 bl1 he
      split at h
      · cases h
      · rename_i fr2 p2 bl2 he2
        cases h
        have hob := evM1_ob he hp.1 (fun q hq => hb q (List.mem_append.2 (.inl hq))) hr (hsel i o h0)
        have hcong : ∀ (sp2 : Nat → Sm) (k : Nat), (∀ j, j < k → sp2 j = sp j) → frM ops sp2 f0 k = frM ops sp f0 k := by
          intro sp2 k
          induction k with
          | zero => intro _; rfl
          | succ k ih => intro hk; simp only [frM]; rw [ih (fun j hj => hk j (by omega)), hk k (by omega)]
        let sp1 : Nat → Sm := fun j => if j = i then s else sp j
        have hsp1 : ∀ j, j < i → sp1 j = sp j := fun j hj => by simp only [sp1]; rw [if_neg (by omega)]
        have hfr1 : frM ops sp1 f0 (i + 1) = putM (frM ops sp f0 i) o.dst s := by
          simp only [frM, h0, Option.bind_some]
          rw [hcong sp1 i hsp1]
          simp only [sp1, if_true]
        rw [← hfr1] at he2
        obtain ⟨sp', h1, h2, h3⟩ := evM_obs hr hsel l (i + 1) _ sp1 fr' p2 bl2 (fun j => by have := hl (j + 1); simpa [Nat.add_assoc, Nat.add_comm 1 j] using this) he2 hp.2 (fun q hq => hb q (List.mem_append.2 (.inr hq)))
        refine ⟨sp', fun j hj => (h1 j (by omega)).trans (hsp1 j hj), by rw [h2]; congr 1; simp; omega, fun j oj hj1 hj2 hoj => ?_⟩
        by_cases hji : j = i
        · subst hji
          rw [h0] at hoj; cases hoj
          rw [h1 j (by omega)]
          simp only [sp1, if_true]
          rw [show frM ops sp' f0 j = frM ops sp f0 j from by
            have : ∀ k, k ≤ j → frM ops sp' f0 k = frM ops sp f0 k := by
              intro k
              induction k with
              | zero => intro _; rfl
              | succ k ih => intro hk; simp only [frM]; rw [ih (by omega), h1 k (by omega), hsp1 k (by omega)]
            exact this j (Nat.le_refl _)]
          exact hob
        · exact h3 j oj (by omega) (by simp at hj2; omega) hoj

/-- The region, reckoned. -/
theorem region_evM {D : Nat → Nat → Gh → World → Prop} {f0 : Tmp → Sm} {id : Nat} {l : List Oper} {Q : Exit → Act → World → Prop} {a0 : Act} {g0 : Gh} (rows : List Row) (tags : Tmp → Option Nat) (gt : Nat → Option Nat) (hs : List (Nat × HintM)) (ts : List Tmp) (ss : List Sm) (p : Prop)
    (hm : P.follows .mixedOrders = true) (hc : chk l.toArray a0.tmps.size = true) (hch : chain l.toArray (fun i => isLoud (hintM hs i)) = true) (hD : ∀ k s g w w', Keep No w w' → D k s g w → D k s g w')
    (hf : ∀ t g w, (f0 t).ok g w (a0.tmps.getD t undef)) (hb0 : Base S0 w0 g0 w0) (hd0 : D 0 0 g0 w0) (hr : ∀ w, Keep S0 w0 w → Rows w rows)
    (he : (evM P S0 w0 D l.toArray rows gt hs (rankS hs l.length) l 0 0 f0 tags).map (fun r => (ts.map r.1, r.2.1)) = some (ss, p))
    (hb : (evM P S0 w0 D l.toArray rows gt hs (rankS hs l.length) l 0 0 f0 tags).map (fun r => r.2.2.map (·.1)) = (evM P S0 w0 D l.toArray rows gt hs (rankS hs l.length) l 0 0 f0 tags).map (fun r => r.2.2.map (·.2)))
    (hp : p)
    (hQ : ∀ a g w, Keep S0 w0 w → Base S0 w0 g w → D (rankH hs l.length) (rankS hs l.length) g w → a.defers = a0.defers → a.tmps.size = a0.tmps.size → allOkM ss g w (ts.map fun t => a.tmps.getD t undef) → Q .normal a w) :
    (Code.region id l.toArray true).wp P Q a0 w0 := by
  rw [Option.map_eq_some_iff] at he
  obtain ⟨⟨fr', p', bl⟩, he, e2⟩ := he
  cases e2
  rw [he] at hb
  obtain ⟨sp, _, h2, h3⟩ := evM_obs (f0 := f0) hr (chk_spec hc).sel l 0 tags (fun _ => .is undef) fr' _ bl (by simp) he hp (all_of_maps (Option.some.inj hb))
  refine region_relM (sp := sp) (loud := fun i => isLoud (hintM hs i)) (stir := fun i => isStir (hintM hs i)) hm hc hch hD hf hb0 hd0 (fun i => loud_stir _) (fun i o hi => ?_) fun a g w k hbase hd hdf hsz hall => ?_
  · have hil : i < l.length := by
      rcases Nat.lt_or_ge i l.length with h | h
      · exact h
      · rw [Array.getElem?_eq_none (by simpa using h)] at hi; cases hi
    rw [rank_eq (by simpa using Nat.le_of_lt hil), rankS_eq (by simp)]
    exact h3 i o (Nat.zero_le _) (by omega) hi
  · refine hQ a g w k hbase ?_ hdf hsz ?_
    · rw [rank_eq (Nat.le_refl _), rankS_eq (Nat.le_refl _)] at hd; simpa using hd
    · subst h2
      have hall' : ∀ t, (frM l.toArray sp f0 (0 + l.length) t).ok g w (a.tmps.getD t undef) := by simpa using hall
      clear he h3 hQ hb hp
      generalize frM l.toArray sp f0 (0 + l.length) = fr at *
      induction ts with
      | nil => trivial
      | cons t ts ih => exact ⟨hall' t, ih⟩

/-! ### in the walk -/
variable {W0 : World} {Q : Exit → Act → World → Prop} {n : Nat} {gt : Nat → Option Nat} {unroll : Bool}
def smOf (fr : Tmp → Option Value) (t : Tmp) : Sm := match fr t with | some v => .is v | none => .such (fun _ _ _ => True) (fun _ _ _ _ _ _ _ => trivial)
def evMAt (P : Program) (S0 : Nat → Prop) (w0 : World) (D : Nat → Nat → Gh → World → Prop) (n : Nat) (gt : Nat → Option Nat) (hs : List (Nat × HintM)) (ts : List Tmp) (c : Cfg) : Option (List Sm × Prop × Nat × Nat) :=
  match atDrawn c with
  | some (l, _) => if chk l.toArray n && P.follows .mixedOrders && chain l.toArray (fun i => isLoud (hintM hs i)) then (evM P S0 w0 D l.toArray (rowsOf c.m) gt hs (rankS hs l.length) l 0 0 (smOf c.fr) c.tags).map (fun r => (ts.map r.1, r.2.1, rankH hs l.length, rankS hs l.length)) else none
  | none => none
def evMBlks (P : Program) (S0 : Nat → Prop) (w0 : World) (D : Nat → Nat → Gh → World → Prop) (gt : Nat → Option Nat) (hs : List (Nat × HintM)) (c : Cfg) : Option (List (Nat × Nat)) :=
  match atDrawn c with
  | some (l, _) => (evM P S0 w0 D l.toArray (rowsOf c.m) gt hs (rankS hs l.length) l 0 0 (smOf c.fr) c.tags).map (fun r => r.2.2)
  | none => none

theorem drawnM_ok {c : Cfg} {w : World} {D : Nat → Nat → Gh → World → Prop} {g0 : Gh} (hs : List (Nat × HintM)) (ts : List Tmp) (ss : List Sm) (p : Prop) (kn sn : Nat) (T : List K)
    (hW : Wst W0 c.m w) (hL : Loose W0 c.m S0) (hT : (atDrawn c).map (·.2) = some T) (he : evMAt P S0 w D n gt hs ts c = some (ss, p, kn, sn)) (hb : (evMBlks P S0 w D gt hs c).map (·.map (·.1)) = (evMBlks P S0 w D gt hs c).map (·.map (·.2)))
    (hD : ∀ k s g w w', Keep No w w' → D k s g w → D k s g w') (hb0 : Base S0 w g0 w) (hd0 : D 0 0 g0 w) (hp : p)
    (hk : ∀ g w' vs, Keep S0 w w' → Base S0 w g w' → D kn sn g w' → allOkM ss g w' vs → Goal P Q n ⟨frOf ts vs, c.tags, ⟨c.m.rows, w'.heap.size⟩, T⟩ w') : Goal P Q n c w := by
  obtain ⟨fr, tags, m, todo⟩ := c
  intro a hd hn ha
  unfold evMAt at he
  unfold evMBlks at hb
  unfold atDrawn at he hb hT
  match todo, he, hb, hT, hk with
  | .code (.region id ops true) :: k, he, hb, hT, hk =>
    simp only at he hb hT hk
    obtain rfl : k = T := Option.some.inj hT
    split at he
    case isFalse => cases he
    rename_i hc
    simp only [Bool.and_eq_true] at hc
    show (Code.region id ops true).wp P (KX P Q k) a w
    have hops : (Code.region id ops true) = (Code.region id ops.toList.toArray true) := by simp
    rw [hops]
    rw [Option.map_eq_some_iff] at he
    obtain ⟨r, he, e2⟩ := he
    simp only [Prod.mk.injEq] at e2
    obtain ⟨e3, e4, e5, e6⟩ := e2
    refine region_evM (D := D) (f0 := smOf fr) (g0 := g0) (rowsOf m) tags gt hs ts ss p hc.1.2 (by rw [hn]; exact hc.1.1) hc.2 hD ?_ hb0 hd0 ?_ (by rw [he, Option.map_some, e3, e4]) ?_ hp ?_
    · intro t g w'
      unfold smOf
      cases hf : fr t with
      | none => trivial
      | some v => exact ha t v hf
    · intro w' k' q hq
      obtain ⟨x, hx, rfl⟩ := List.mem_map.1 hq
      exact (hW.laterS k' hL).rows x hx
    · rw [Option.map_map, Option.map_map] at hb
      exact hb
    · intro a' g w' k' hbase hd' hdf hsz hok
      rw [e5, e6] at hd'
      exact hk g w' _ k' hbase hd' hok a' (by rw [hdf, hd]) (by rw [hsz, hn]) (frOf_spec rfl)
end
end H
end Go.Proofs.Ytpnocepepihflaa
namespace Go.Proofs.Ytpnocepepihflaa
open Go.RowKit

/-- At block p lies a pad to which the bytes bs were laid (the slice sv). -/
structure Pd (w : World) (p : Nat) (sv : Value) (bs : List UInt8) : Prop where
  c0 : w.cell? ⟨p, 0, none⟩ = some sv
  c1 : w.cell? ⟨p, 1, none⟩ = some (.bool true)
  fz : ∀ o, w.frozen? ⟨p, o, none⟩ = false
  own : Own 5 w sv bs
  apart : sv.ownBlock ≠ some p
/-- What a call that lays writes. -/
def Foot (p : Nat) (sv : Value) : Nat → Prop := fun k => k = p ∨ sv.ownBlock = some k
/-- sv' lies where sv lay, or is new. -/
def Later (n : Nat) (sv sv' : Value) : Prop := sv'.ownBlock = sv.ownBlock ∨ Since n sv'

theorem Later.refl (n : Nat) (sv : Value) : Later n sv sv := .inl rfl
theorem Later.trans {n m : Nat} {a b c : Value} (h : Later n a b) (k : Later m b c) (hm : n ≤ m) : Later n a c := by
  rcases k with k | k
  · rcases h with h | h
    · exact .inl (k.trans h)
    · exact .inr (fun x hx => h x (by rw [← k]; exact hx))
  · exact .inr (k.mono hm)
theorem Later.mono {n m : Nat} {a b : Value} (h : Later m a b) (hm : n ≤ m) : Later n a b := by
  rcases h with h | h
  · exact .inl h
  · exact .inr (h.mono hm)
theorem Keep.foot {a b c : World} {p : Nat} {sv sv1 : Value} (h : Keep (Foot p sv) a b) (l : Later a.heap.size sv sv1) (k : Keep (Foot p sv1) b c) : Keep (Foot p sv) a c :=
  h.trans' k fun i hi hf => by
    rcases hf with hf | hf
    · exact .inl hf
    · rcases l with l | l
      · exact .inr (by rw [← l]; exact hf)
      · have := l i hf; omega

theorem Pd.lt {w : World} {p : Nat} {sv : Value} {bs : List UInt8} (h : Pd w p sv bs) : p < w.heap.size := World.block_lt_of_cell? w _ h.c0
theorem Pd.keep {S : Nat → Prop} {w w' : World} {p : Nat} {sv : Value} {bs : List UInt8} (h : Pd w p sv bs) (k : Keep S w w') (hp : ¬ S p) (hs : ∀ b, sv.ownBlock = some b → ¬ S b) : Pd w' p sv bs where
  c0 := k.cell h.c0 hp
  c1 := k.cell h.c1 hp
  fz := fun o => (k.frozen (a := ⟨p, o, none⟩) h.lt hp).trans (h.fz o)
  own := h.own.keep k hs
  apart := h.apart
theorem Pd.keep0 {w w' : World} {p : Nat} {sv : Value} {bs : List UInt8} (h : Pd w p sv bs) (k : Keep No w w') : Pd w' p sv bs := h.keep k (fun f => f) (fun _ _ f => f)

theorem bv_of {a : Int} {x : UInt8} (h : a = (x.toNat : Int)) : (Value.int .u8 a) = bv x := by rw [h]

/-- The two bytes of a number. -/
def bytes2 (n : Nat) : List UInt8 := [UInt8.ofNat (n / 256), UInt8.ofNat n]
theorem byte_hi {n : Nat} (h : n < 65536) : ((UInt8.ofNat (n / 256)).toNat : Int) = (n : Int) / 256 := by
  rw [UInt8.toNat_ofNat']; simp; omega
theorem byte_lo (n : Nat) : ((UInt8.ofNat n).toNat : Int) = (n : Int) % 256 := by
  rw [UInt8.toNat_ofNat']; simp

section
variable {w : World} {p : Nat} {sv : Value} {bs : List UInt8}

set_option maxHeartbeats 400000 in
theorem pnone_any (h : w.cell? ⟨p, 1, Option.none⟩ = some (.bool true)) :
    Calls Try.prog 48 #[.pointer (some ⟨p, 0, Option.none⟩)] w fun e w' => e = .returned (.bool false) ∧ w = w' := by
  go_enter Try.func48, Try.ntmps48
  go_wp2
  go_ret
  exact ⟨rfl, rfl⟩

set_option maxHeartbeats 400000 in
theorem lay_any (w : World) :
    Calls Try.prog 30 #[] w fun x w' => ∃ p, x = .returned (.pointer (some ⟨p, 0, Option.none⟩)) ∧ Pd w' p (.slice Option.none 0 0) [] ∧ Keep No w w' ∧ w.heap.size ≤ p := by
  go_enter Try.func30, Try.ntmps30
  go_wp2
  go_ret
  exact ⟨_, rfl, ⟨cell_new _ _ _ _, cell_new _ _ _ _, fun o => frozen_new _ _ _ _, Own.nil _ _, by simp [Value.ownBlock]⟩, (Keep.refl _ _).alloc _, Nat.le_refl _⟩

set_option maxHeartbeats 1000000 in
theorem pbyte_any (h : Pd w p sv bs) {v : Value} {ys : List UInt8} (r : Rd w v ys) (hn : bs.length + ys.length ≤ 1099511627776) :
    Calls Try.prog 31 #[.pointer (some ⟨p, 0, Option.none⟩), v] w fun x w' => ∃ sv', x = .returned (.pointer (some ⟨p, 0, Option.none⟩)) ∧ Pd w' p sv' (bs ++ ys) ∧ Keep (Foot p sv) w w' ∧ Later w.heap.size sv sv' := by
  have h0 := h.c0
  have hf := h.fz 0
  go_enter Try.func31, Try.ntmps31
  go_wp2_with fail
  refine (pnone_any h.c1).mono ?_
  rintro x w1 ⟨rfl, rfl⟩
  go_wp2_with (at_builtin; refine wpList_append_b (v := sv) (sv := v) rfl _ _ bt rfl rfl h.own rfl r (by omega) ?_; intro v' w1 hown hkeep hblk hnn; have hf1 := (hkeep.frozen (a := ⟨p, 0, Option.none⟩) h.lt h.apart).trans hf; have hc1 := hkeep.cell h0 h.apart; obtain ⟨ao, N, cap, rfl⟩ := hown.rd.form)
  go_ret
  have hpn : (Value.slice ao N cap).ownBlock ≠ some p := by
    intro hb
    rcases hblk with e | e
    · exact h.apart (by rw [← e]; exact hb)
    · rw [e] at hb
      have := h.lt
      simp at hb; omega
  have ks : Keep (One p) w1 (w1.setCell ⟨p, 0, Option.none⟩ (.slice ao N cap)) := Keep.set1 _ _ _ _
  refine ⟨_, rfl, ⟨World.cell?_setCell_same _ _ _ hc1, ?_, ?_, hown.keep ks (fun b hb (e : b = p) => hpn (by rw [hb, e])), hpn⟩, ?_, ?_⟩
  · rw [World.cell?_setCell_other _ _ _ _ (by simp)]; exact hkeep.cell h.c1 h.apart
  · intro o
    rw [World.frozen?_setCell]; exact (hkeep.frozen (a := ⟨p, o, Option.none⟩) h.lt h.apart).trans (h.fz o)
  · exact (hkeep.mono (fun k _ hk => .inr hk)).trans' ks (fun i _ e => .inl e)
  · rcases hblk with e | e
    · exact .inl e
    · exact .inr (fun b hb => by rw [e] at hb; simp at hb; omega)

set_option maxHeartbeats 1000000 in
theorem done_any (h : Pd w p sv bs) (hn : bs.length ≤ 140737488351232) :
    Calls Try.prog 36 #[.pointer (some ⟨p, 0, Option.none⟩)] w fun x w' => ∃ v, x = .returned v ∧ Fresh w bs v w' := by
  have h0 := h.c0
  go_enter Try.func36, Try.ntmps36
  go_wp2_with fail
  refine (pnone_any h.c1).mono ?_
  rintro x w1 ⟨rfl, rfl⟩
  go_wp2_with fail
  refine (sclone_any _ _ _ h.own.rd hn).mono ?_
  rintro x w1 ⟨v, rfl, hf, _⟩
  go_wp2_with fail
  go_ret
  exact ⟨_, rfl, hf⟩
end
end Go.Proofs.Ytpnocepepihflaa
namespace Go.Proofs.Ytpnocepepihflaa
open Go.RowKit

theorem flat_snoc {α : Type} {f : Nat → List α} {xs : List Nat} {k : Nat} (h : k < xs.length) : (xs.take (k + 1)).flatMap f = (xs.take k).flatMap f ++ f (xs.getD k 0) := by
  rw [List.take_succ_eq_append_getElem h, List.flatMap_append]; simp [h]
theorem len2 (xs : List Nat) : (xs.flatMap bytes2).length = 2 * xs.length := by
  induction xs with
  | nil => rfl
  | cons x xs ih => simp [List.flatMap_cons, bytes2, ih]; omega
/-- Two new bytes. -/
theorem made2 (w : World) {a b : Int} {x y : UInt8} (ha : (x.toNat : Int) = a) (hb : (y.toNat : Int) = b) :
    Rd (w.alloc (.cells #[.int .u8 a, .int .u8 b] 5)) (.slice (some ⟨w.heap.size, 0, none⟩) 2 2) [x, y] := by
  subst ha hb
  exact (Own.made (e := 5) w [x, y] (by simp [maxLen])).rd

/-- One new number, handed on as a list. -/
theorem Sl.one {w : World} (v : Value) (t : TypeId) (c : Nat → Value) (hc : c 0 = v) : Sl 1 (w.alloc (.cells #[v] t)) (.slice (some ⟨w.heap.size, 0, none⟩) 1 1) 1 c := by
  refine ⟨⟨some ⟨w.heap.size, 0, none⟩, 1, rfl, by simp, by simp [maxLen], by simp, fun _ => ⟨_, _, rfl⟩⟩, ?_⟩
  intro j hj
  have : j = 0 := by omega
  subst this
  rw [hc]
  exact cell_new w #[v] t 0
theorem Sl.two {w : World} (v u : Value) (t : TypeId) (c : Nat → Value) (hc : c 0 = v) (hd : c 1 = u) : Sl 1 (w.alloc (.cells #[v, u] t)) (.slice (some ⟨w.heap.size, 0, none⟩) 2 2) 2 c := by
  refine ⟨⟨some ⟨w.heap.size, 0, none⟩, 2, rfl, by simp, by simp [maxLen], by simp, fun _ => ⟨_, _, rfl⟩⟩, ?_⟩
  intro j hj
  have : j = 0 ∨ j = 1 := by omega
  rcases this with rfl | rfl
  · rw [hc]; exact cell_new w #[v, u] t 0
  · rw [hd]; exact cell_new w #[v, u] t 1
theorem new_not_foot {w : World} {p : Nat} {sv : Value} {bs : List UInt8} (h : Pd w p sv bs) (n c : Nat) : ∀ b, (Value.slice (some ⟨w.heap.size, 0, none⟩) n c).ownBlock = some b → ¬ Foot p sv b := by
  intro b hb
  simp [Value.ownBlock] at hb
  subst hb
  rintro (h1 | h1)
  · have := h.lt; omega
  · have := h.own.lt _ h1; omega

section
variable {w : World} {p : Nat} {sv : Value} {bs : List UInt8}

set_option maxHeartbeats 1000000 in
theorem ptwo_any (h : Pd w p sv bs) {v : Value} {xs : List Nat} (sl : Sl 1 w v xs.length (fun i => .int .u16 (xs.getD i 0 : Nat))) (hx : ∀ i, i < xs.length → xs.getD i 0 < 65536)
    (hv : ∀ b, v.ownBlock = some b → ¬ Foot p sv b) (hn : bs.length + 2 * xs.length ≤ 1099511627776) :
    Calls Try.prog 32 #[.pointer (some ⟨p, 0, Option.none⟩), v] w fun x w' => ∃ sv', x = .returned (.pointer (some ⟨p, 0, Option.none⟩)) ∧ Pd w' p sv' (bs ++ xs.flatMap bytes2) ∧ Keep (Foot p sv) w w' ∧ Later w.heap.size sv sv' := by
  have hlen : ∀ wx, (Builtin.len_ #[96] 3 #[v]).run Try.prog wx = .ok (.int .i64 (xs.length : Int)) wx := fun wx => sl.run_len Try.underlying96
  have hz : (Try.prog.info? 27).map (·.size) = some 1 := by kernel_rfl
  go_enter Try.func32, Try.ntmps32
  go_wp2
  go_loopw [9] (fun i wr => ∃ (k : Nat) (svk : Value), k ≤ xs.length ∧ i = .int .i64 k ∧ Pd wr p svk (bs ++ (xs.take k).flatMap bytes2) ∧ Keep (Foot p sv) w wr ∧ Later w.heap.size sv svk) (fun i _ => xs.length - (intOf i).toNat)
  case atStart => exact ⟨0, sv, Nat.zero_le _, rfl, by simpa using h, Keep.refl _ _, Later.refl _ _⟩
  case round =>
    obtain ⟨k, svk, hk, rfl, hpd, hkeep, hlater⟩ := hrel
    by_cases hlt : k < xs.length
    · have hat : ∀ wx, (Instr.indexAt 96 v (.int .i64 (k : Int))).run Try.prog wx = .ok (.pointer (some ⟨blk v, offs v + k, Option.none⟩)) wx := fun wx => by
        have := sl.run_at (P := Try.prog) (w' := wx) Try.underlying96 hz (k := .i64) (i := (k : Int)) (by omega) (by omega)
        simpa using this
      have hcell := (sl.keep hkeep hv).cell k (by omega)
      have hfl := flat_snoc (f := bytes2) hlt
      have hxk := hx k hlt
      have hl2 : (bs ++ (xs.take k).flatMap bytes2).length ≤ 1099511627774 := by rw [List.length_append, len2, List.length_take]; omega
      have HFL := Lib.hid hfl
      clear hfl
      generalize xs.getD k 0 = n at *
      have r2 := made2 wr (byte_hi hxk) (byte_lo n)
      generalize hL : bs ++ (xs.take k).flatMap bytes2 = L at *
      have HL := Lib.hid hL
      clear hL
      go_wp2_with fail
      refine (pbyte_any (hpd.keep0 ((Keep.refl _ _).alloc _)) r2 (by simp; omega)).mono ?_
      rintro x w2 ⟨svn, rfl, hpd2, hk2, hl3⟩
      go_wp2_with fail
      go_roundw
      case rel =>
        refine ⟨k + 1, svn, by omega, by go_num, ?_, ?_, hlater.trans hl3 (by have := hkeep.size; simp; omega)⟩
        · rw [HFL.out, ← List.append_assoc, HL.out]; exact hpd2
        · exact (hkeep.alloc _).foot hlater hk2
      case measure => simp [intOf]; omega
    · have hke : k = xs.length := by omega
      subst hke
      rw [List.take_length] at hpd
      go_wp2
      go_ret
      exact ⟨svk, rfl, hpd, hkeep, hlater⟩
end
end Go.Proofs.Ytpnocepepihflaa
namespace Go.Proofs.Ytpnocepepihflaa
open Go.RowKit

section
variable {P : Program} {S0 : Nat → Prop} {w0 : World}
/-- The pad's pointer. -/
def padS : Sm := .such (fun g _ x => g.live ∧ x = g.val) (fun _ _ _ _ _ k h => ⟨(k.live h.1).1, h.2.trans (k.live h.1).2.symm⟩)
/-- A new row of n elements of s cells. -/
def rowS (s n : Nat) (c : Nat → Value) : Sm := .such (fun g w x => Sl s w x n c ∧ ∀ b, x.ownBlock = some b → b < w.heap.size ∧ ¬ g.priv b)
  (fun g w g' w' x k h => ⟨h.1.keep k.keep (fun b hb => (h.2 b hb).2), fun b hb => ⟨Nat.lt_of_lt_of_le (h.2 b hb).1 k.keep.size, fun hp => by
    rcases k.priv b hp with h1 | h1
    · exact (h.2 b hb).2 h1
    · have := (h.2 b hb).1; omega⟩⟩)
/-- Behind k calls the pad holds B k; ahead of the first there is none; behind the last (m) nothing is said. -/
def PadD (B : Nat → List UInt8) (w0 : World) : Nat → Gh → World → Prop
  | 0, g, _ => ¬ g.live ∧ ∀ b, ¬ g.priv b
  | k + 1, g, w => g.live ∧ ∃ p sv, g.val = .pointer (some ⟨p, 0, none⟩) ∧ Pd w p sv (B k) ∧ g.priv = Foot p sv ∧ w0.heap.size ≤ p ∧ Since w0.heap.size sv
theorem PadD.keep {B : Nat → List UInt8} : ∀ (k : Nat) (g : Gh) (w w' : World), Keep No w w' → PadD B w0 k g w → PadD B w0 k g w'
  | 0, _, _, _, _, h => h
  | _ + 1, _, _, _, kp, ⟨h1, p, sv, h2, h3, h4, h5, h6⟩ => ⟨h1, p, sv, h2, h3.keep0 kp, h4, h5, h6⟩
def noGh : Gh := ⟨False, undef, fun _ => False⟩
theorem noGh_base (w : World) : Base S0 w0 noGh w := fun _ h => h.elim
theorem noGh_D {B : Nat → List UInt8} (w : World) : PadD B w0 0 noGh w := ⟨fun h => h, fun _ h => h⟩

/-- From a pad's contract to a loud step. -/
theorem pad_step {g : Gh} {w w' : World} {p : Nat} {sv sv' : Value} {bs : List UInt8} (hg : g.priv = Foot p sv) (hv : g.val = .pointer (some ⟨p, 0, none⟩)) (_hl : g.live) (hp : w0.heap.size ≤ p) (hs : Since w0.heap.size sv) (h0 : w0.heap.size ≤ w.heap.size)
    (hpd : Pd w' p sv' bs) (hk : Keep (Foot p sv) w w') (hlat : Later w.heap.size sv sv') :
    Tr g w ⟨True, .pointer (some ⟨p, 0, none⟩), Foot p sv'⟩ w' ∧ Base S0 w0 ⟨True, .pointer (some ⟨p, 0, none⟩), Foot p sv'⟩ w' ∧ Since w0.heap.size sv' := by
  have hs' : Since w0.heap.size sv' := by
    rcases hlat with h | h
    · intro b hb; rw [h] at hb; exact hs b hb
    · exact h.mono h0
  refine ⟨⟨by rw [hg]; exact hk, ?_, fun _ => ⟨trivial, hv.symm⟩⟩, ?_, hs'⟩
  · rintro k (rfl | hk')
    · rw [hg]; exact .inl (.inl rfl)
    · rcases hlat with h | h
      · rw [hg]; exact .inl (.inr (by rw [← h]; exact hk'))
      · exact .inr (h k hk')
  · rintro k (rfl | hk')
    · exact ⟨hpd.lt, fun h => absurd h (Nat.not_lt.2 hp)⟩
    · exact ⟨hpd.own.lt k hk', fun h => absurd h (Nat.not_lt.2 (hs' k hk'))⟩
end

section
variable {S0 : Nat → Prop} {w0 : World} {B : Nat → List UInt8}
theorem loud_lay (hB : B 0 = []) : LoudM Try.prog S0 w0 (PadD B w0) 0 30 [] padS := by
  intro g w vals hk hb hd ha
  match vals, ha with
  | [], _ =>
    refine (lay_any w).mono ?_
    rintro e w' ⟨p, rfl, hpd, k, hp⟩
    have h0 := hk.size
    have hbp : w0.heap.size ≤ p := Nat.le_trans h0 hp
    refine ⟨_, ⟨True, .pointer (some ⟨p, 0, Option.none⟩), Foot p (.slice Option.none 0 0)⟩, rfl, ⟨k.no, ?_, fun h => absurd h hd.1⟩, ?_, ⟨trivial, p, _, rfl, by rw [hB]; exact hpd, rfl, hbp, fun b h => by simp [Value.ownBlock] at h⟩, trivial, rfl⟩
    · rintro q (rfl | hq)
      · exact .inr hp
      · simp [Value.ownBlock] at hq
    · rintro q (rfl | hq)
      · exact ⟨hpd.lt, fun h => absurd h (Nat.not_lt.2 hbp)⟩
      · simp [Value.ownBlock] at hq

theorem loud_byte {r : Nat} {v : Value} {ys : List UInt8} (hB : B (r + 1) = B r ++ ys) (hn : (B r).length + ys.length ≤ 1099511627776) (hr : ∀ w, Keep S0 w0 w → Rd w v ys) :
    LoudM Try.prog S0 w0 (PadD B w0) (r + 1) 31 [padS, .is v] padS := by
  intro g w vals hk hb hd ha
  match vals, ha with
  | [x, y], ha =>
    obtain ⟨⟨hl, hx⟩, hy, _⟩ := ha
    have hy' : y = v := hy
    obtain ⟨_, p, sv, hv, hpd, hg, hp, hs⟩ := hd
    rw [hx, hv, hy']
    refine (pbyte_any hpd (hr w hk) hn).mono ?_
    rintro e w' ⟨sv', rfl, hpd', k, hlat⟩
    obtain ⟨h1, h2, h3⟩ := pad_step (S0 := S0) hg hv hl hp hs hk.size hpd' k hlat
    exact ⟨_, _, rfl, h1, h2, ⟨trivial, p, sv', rfl, by rw [hB]; exact hpd', rfl, hp, h3⟩, trivial, rfl⟩

theorem loud_two {r : Nat} {xs : List Nat} (hB : B (r + 1) = B r ++ xs.flatMap bytes2) (hn : (B r).length + 2 * xs.length ≤ 1099511627776) (hx : ∀ i, i < xs.length → xs.getD i 0 < 65536) :
    LoudM Try.prog S0 w0 (PadD B w0) (r + 1) 32 [padS, rowS 1 xs.length (fun i => .int .u16 (xs.getD i 0 : Nat))] padS := by
  intro g w vals hk hb hd ha
  match vals, ha with
  | [x, y], ha =>
    obtain ⟨⟨hl, hx'⟩, ⟨hy, hyb⟩, _⟩ := ha
    obtain ⟨_, p, sv, hv, hpd, hg, hp, hs⟩ := hd
    rw [hx', hv]
    refine (ptwo_any hpd hy hx (fun b h => by have := (hyb b h).2; rwa [hg] at this) hn).mono ?_
    rintro e w' ⟨sv', rfl, hpd', k, hlat⟩
    obtain ⟨h1, h2, h3⟩ := pad_step (S0 := S0) hg hv hl hp hs hk.size hpd' k hlat
    exact ⟨_, _, rfl, h1, h2, ⟨trivial, p, sv', rfl, by rw [hB]; exact hpd', rfl, hp, h3⟩, trivial, rfl⟩

/-- What Done hands over. -/
def doneS (w0 : World) (bs : List UInt8) : Sm := .such (fun g w x => Own 5 w x bs ∧ Since w0.heap.size x ∧ ∀ b, x.ownBlock = some b → ¬ g.priv b)
  (fun g w g' w' x k h => ⟨h.1.keep k.keep h.2.2, h.2.1, fun b hb hp => by
    rcases k.priv b hp with h1 | h1
    · exact h.2.2 b hb h1
    · have := h.1.lt b hb; omega⟩)
theorem loud_done {r : Nat} {bs : List UInt8} (hB : B r = bs) (hB' : B (r + 1) = bs) (hn : bs.length ≤ 140737488351232) :
    LoudM Try.prog S0 w0 (PadD B w0) (r + 1) 36 [padS] (doneS w0 bs) := by
  intro g w vals hk hb hd ha
  match vals, ha with
  | [x], ha =>
    obtain ⟨⟨hl, hx'⟩, _⟩ := ha
    obtain ⟨hl', p, sv, hv, hpd, hg, hp, hs⟩ := hd
    rw [hx', hv]
    rw [hB] at hpd
    refine (done_any hpd hn).mono ?_
    rintro e w' ⟨v, rfl, fr⟩
    refine ⟨v, g, rfl, Tr.quiet fr.keep, hb.mono fr.keep, ⟨hl', p, sv, hv, by rw [hB']; exact hpd.keep0 fr.keep, hg, hp, hs⟩, fr.own, fr.since.mono hk.size, fun b hb' hp' => ?_⟩
    have h1 := (hb b hp').1
    have h2 := fr.since b hb'
    omega
end

/-- A new slice, by reckoning. -/
theorem new_row {P : Program} {S0 : Nat → Prop} {w0 : World} {q : Sem Value} {s n : Nat} {cs : List Value} {c : Nat → Value} (hn : n ≤ maxLen)
    (hq : ∀ nx, gRun P none q ⟨[], nx⟩ = some (.slice (some ⟨nx, 0, none⟩) n n, ⟨[⟨nx, cs, true⟩], nx + 1⟩, [])) (hc : ∀ j, j < n * s → cs[j]? = some (c j)) : NewM P S0 w0 q (rowS s n c) := by
  intro g w hk hb
  obtain ⟨w', h1, h2, h3⟩ := gRun_ok (Wst.start0 w) (hq w.heap.size) (fun _ h => nomatch h)
  obtain ⟨t, ht⟩ := h2.rows ⟨w.heap.size, cs, true⟩ (by simp)
  refine ⟨_, w', h1, h2.keep, ⟨⟨_, n, rfl, Nat.le_refl _, hn, by simp, fun _ => ⟨_, _, rfl⟩⟩, fun j hj => ?_⟩, fun b hb' => ?_⟩
  · simp only [blk, offs, Nat.zero_add, World.cell?, ht]
    simpa using hc j hj
  · have : w.heap.size = b := Option.some.inj hb'
    subst this
    refine ⟨by rw [h2.size]; simp, fun hp => ?_⟩
    have := (hb _ hp).1
    omega
end Go.Proofs.Ytpnocepepihflaa
namespace Go.Proofs.Ytpnocepepihflaa
open Go.RowKit

/-- Made: the row with its first cells; filled: with its last. -/
def RowD (cs0 cs1 : List Value) (w0 : World) : Nat → Gh → World → Prop
  | 0, g, _ => ¬ g.live ∧ ∀ b, ¬ g.priv b
  | k + 1, g, w => g.live ∧ ∃ b t, g.val = .pointer (some ⟨b, 0, none⟩) ∧ g.priv = (fun j => j = b) ∧ w0.heap.size ≤ b ∧ w.heap[b]? = some (.cells (if k = 0 then cs0 else cs1).toArray t (0, 0))
theorem RowD.keep {cs0 cs1 : List Value} {w0 : World} : ∀ (k : Nat) (g : Gh) (w w' : World), Keep No w w' → RowD cs0 cs1 w0 k g w → RowD cs0 cs1 w0 k g w'
  | 0, _, _, _, _, h => h
  | _ + 1, _, _, _, kp, ⟨h1, b, t, h2, h3, h4, h5⟩ => ⟨h1, b, t, h2, h3, h4, (kp.block b (block_of_row h5) (fun f => f)).trans h5⟩
theorem noGh_R {cs0 cs1 : List Value} {w0 w : World} : RowD cs0 cs1 w0 0 noGh w := ⟨fun h => h, fun _ h => h⟩

section
variable {P : Program} {w0 : World} {cs0 cs1 : List Value}
theorem act_alloc {e ty : TypeId} (hq : ∀ nx, gRun P none (Instr.alloc e true (.tuple #[])) ⟨[], nx⟩ = some (.pointer (some ⟨nx, 0, none⟩), ⟨[⟨nx, cs0, true⟩], nx + 1⟩, [])) :
    ActM P No w0 (RowD cs0 cs1 w0) 0 (.alloc e) ty [] padS := by
  intro a o g w ho _ hk _ hd _
  obtain ⟨w', h1, h2, _⟩ := gRun_ok (Wst.start0 w) (hq w.heap.size) (fun _ h => nomatch h)
  have he : (execOp a.eval o).run P w = .ok (.value (.pointer (some ⟨w.heap.size, 0, none⟩))) w' := by
    unfold execOp
    simp only [ho, Sem.run_bind, Sem.run_pure]
    rw [h1]; rfl
  rw [he]
  obtain ⟨t, ht⟩ := h2.rows _ (List.mem_singleton.2 rfl)
  have hs : w0.heap.size ≤ w.heap.size := hk.size
  refine ⟨⟨True, .pointer (some ⟨w.heap.size, 0, none⟩), fun j => j = w.heap.size⟩, ⟨h2.keep.no, fun k h => .inr (Nat.le_of_eq (Eq.symm h)), fun h => absurd h hd.1⟩, ?_, ⟨trivial, _, t, rfl, rfl, hs, ht⟩, ⟨trivial, rfl⟩⟩
  rintro k rfl
  exact ⟨block_of_row ht, fun h => absurd h (Nat.not_lt.2 hs)⟩
theorem act_store {e ty : TypeId} {p v : Tmp} {V : Value} (l : Nat → List (Nat × Nat)) (hl : ∀ b, ∀ q ∈ l b, q.1 = q.2)
    (hq : ∀ b nx, gRun P (some 0) (Instr.storeAt e (.pointer (some ⟨b, 0, none⟩)) V) ⟨[⟨b, cs0, true⟩], nx⟩ = some ((), ⟨[⟨b, cs1, true⟩], nx⟩, l b)) :
    ActM P No w0 (RowD cs0 cs1 w0) 1 (.store e (.tmp p) (.tmp v)) ty [(p, padS), (v, .is V)] (.is undef) := by
  intro a o g w ho _ hk hb hd hr
  obtain ⟨hlive, b, t, hv, hp, hb0, hrow⟩ := hd
  simp only [if_true] at hrow
  have e1 : a.tmps.getD p undef = .pointer (some ⟨b, 0, none⟩) := (hr (p, padS) (by simp)).2.trans hv
  have e2 : a.tmps.getD v undef = V := hr (v, .is V) (by simp)
  have hW : Wst w0 ⟨[⟨b, cs0, true⟩], w.heap.size⟩ w := ⟨rfl, fun r hr => by obtain rfl := List.mem_singleton.1 hr; exact ⟨t, hrow⟩, by simp, fun r hr _ => by obtain rfl := List.mem_singleton.1 hr; exact hb0, hk⟩
  obtain ⟨w', h1, h2, h3⟩ := gRun_ok hW (hq b w.heap.size) (hl b)
  have he : (execOp a.eval o).run P w = .ok .skip w' := by
    unfold execOp
    simp only [ho, Sem.run_bind, Sem.run_pure]
    rw [show a.eval (.tmp p) = .pointer (some ⟨b, 0, none⟩) from e1, show a.eval (.tmp v) = V from e2, h1]; rfl
  rw [he]
  obtain ⟨t', ht⟩ := h2.rows _ (List.mem_singleton.2 rfl)
  refine ⟨g, ⟨⟨h2.keep.os.trans hk.os.symm, h2.keep.tape.trans hk.tape.symm, h2.keep.output.trans hk.output.symm, by rw [h2.size]; exact Nat.le_refl _, fun k hkl hn => h3.same k ⟨hkl, fun r hr _ => ?_⟩⟩, fun k h => .inl h, fun h => ⟨h, rfl⟩⟩, ?_, ⟨hlive, b, t', hv, hp, hb0, ht⟩, rfl⟩
  · obtain rfl := List.mem_singleton.1 hr
    intro e
    exact hn (by rw [hp]; exact e.symm)
  · intro k h
    exact ⟨by have := (hb k h).1; rw [h2.size]; exact this, (hb k h).2⟩
end
/-- A row more that is known. -/
theorem Wst.addRow {W0 w : World} {rows : List RowS} {b : Nat} {cs : List Value} {t : TypeId} (h : Wst W0 ⟨rows, w.heap.size⟩ w) (hr : w.heap[b]? = some (.cells cs.toArray t (0, 0))) (hb : W0.heap.size ≤ b) (hn : ∀ r ∈ rows, r.b ≠ b) :
    Wst W0 ⟨rows ++ [⟨b, cs, true⟩], w.heap.size⟩ w := by
  refine ⟨rfl, fun r hm => ?_, ?_, fun r hm ho => ?_, h.keep⟩
  · rcases List.mem_append.1 hm with hm | hm
    · exact h.rows r hm
    · obtain rfl := List.mem_singleton.1 hm; exact ⟨t, hr⟩
  · simp only [List.map_append, List.map_cons, List.map_nil]
    rw [List.nodup_append]
    refine ⟨h.one, by simp, ?_⟩
    intro a ha c hc
    obtain ⟨r, hr', rfl⟩ := List.mem_map.1 ha
    obtain rfl := List.mem_singleton.1 hc
    exact hn r hr'
  · rcases List.mem_append.1 hm with hm | hm
    · exact h.own r hm ho
    · obtain rfl := List.mem_singleton.1 hm; exact hb
theorem Goal.re {P : Program} {Q : Exit → Act → World → Prop} {n : Nat} {fr : Tmp → Option Value} {tags tags' : Tmp → Option Nat} {m m' : Mem} {T : List K} {w : World} (h : Goal P Q n ⟨fr, tags, m, T⟩ w) : Goal P Q n ⟨fr, tags', m', T⟩ w := h
/-- Bytes that can be read, as a thing known of a value. -/
def rdS (bs : List UInt8) : Sv := .such (fun w x => Rd w x bs) (fun _ _ _ k h => h.keep0 k)
end Go.Proofs.Ytpnocepepihflaa
namespace Go.Proofs.Ytpnocepepihflaa
open Go.RowKit

/-- A list of bytes as a string, kept shut for the walk. -/
def str (l : List UInt8) : ByteArray := ⟨l.toArray⟩
theorem str_nums (l : List UInt8) : strOfNums (l.map fun x => (x.toNat : Int)) = str l := by
  unfold strOfNums str
  congr 2
  rw [List.map_map]
  conv => rhs; rw [← List.map_id l]
  apply List.map_congr_left
  intro x _
  simp
@[simp, go_sem] theorem str_list (l : List UInt8) : (str l).toList = l := by simp [str, ByteArray.toList_eq]
@[simp, go_sem] theorem str_size (l : List UInt8) : (str l).size = l.length := by simp [str, ByteArray.size]
section
variable {P : Program} {w : World} {v : Value} {bs : List UInt8}
theorem Rd.run_str (r : Rd w v bs) {t e dst : TypeId} (T : BT P t e) (hd : P.underlying dst = some .string) : (convert t dst v).run P w = .ok (.string (str bs)) w := by
  obtain ⟨ao, cap, rfl, hc, hm, hn, hb⟩ := r.shape
  rcases Nat.eq_zero_or_pos bs.length with h0 | h0
  · have hbs : bs = [] := List.length_eq_zero_iff.1 h0
    subst hbs
    cases ao with
    | none => rw [run_convert_bytes_nil w t e T.sl T.el _ _ dst hd]; rfl
    | some a =>
      rw [run_convert_bytes_string w t dst e _ _ cap T.sl T.el hd, run_bytesToString w _ _ cap [] (by rfl)]
      rfl
  · obtain ⟨b, o, rfl⟩ := hb h0
    rw [run_convert_bytes_arg w t e T.sl T.el b o _ cap (bs.map fun x => (x.toNat : Int)) (by simp) (fun i hi => by
      have := r.cell i hi
      simp only [blk, offs] at this
      rw [this]
      simp [byteAt, hi]) dst hd, str_nums]
end

set_option maxHeartbeats 400000 in
theorem bclone_any (v : Value) (bs : List UInt8) (w : World) (r : Rd w v bs) (hn : bs.length ≤ 140737488351232) :
    Calls Try.prog 17 #[v] w fun e w' => ∃ v', e = .returned v' ∧ Fresh w bs v' w' ∧ isNil v' = isNil v := by
  cases hnil : isNil v with
  | true =>
    obtain ⟨rfl, rfl⟩ := r.of_nil hnil
    have hrun : ∀ wx, (binOp .eql 22 (.slice none 0 0) (.slice none 0 0)).run Try.prog wx = .ok (.bool true) wx := fun wx => r.run_isnil bt.sl
    go_enter Try.func17, Try.ntmps17
    go_wp2
    go_ret
    exact ⟨_, rfl, ⟨Own.nil _ _, Keep.refl _ _, by intro b h; simp [Value.ownBlock] at h⟩, rfl⟩
  | false =>
    have hrun : ∀ wx, (binOp .eql 22 v (.slice none 0 0)).run Try.prog wx = .ok (.bool false) wx := fun wx => by rw [← hnil]; exact r.run_isnil bt.sl
    go_enter Try.func17, Try.ntmps17
    go_wp2_with (at_builtin; refine wpList_append_b (v := .slice (some ⟨w.heap.size, 0, none⟩) 0 0) (sv := v) rfl _ _ bt rfl rfl (Own.made w [] (by simp [maxLen])) rfl (r.keep0 ((Keep.refl _ _).alloc _)) (by simpa using hn) ?_; intro v' w' hown hkeep hblk hnn)
    go_ret
    simp only [List.nil_append] at hown
    refine ⟨v', rfl, ⟨hown, ((Keep.refl No w).alloc (.cells #[] 5)).trans' hkeep (by intro i hi h; simp [Value.ownBlock] at h; omega), ?_⟩, ?_⟩
    · intro b hb
      rcases hblk with h | h <;> rw [h] at hb <;> simp [Value.ownBlock] at hb <;> omega
    · cases h : isNil v' with
      | false => rfl
      | true => have := (hnn h).1; simp [isNil] at this

set_option maxHeartbeats 400000 in
theorem bequal_any {u v : Value} {xs bs : List UInt8} {w : World} (r : Rd w u xs) (s : Rd w v bs) :
    Calls Try.prog 9 #[u, v] w fun e w' => e = .returned (.bool (xs == bs)) ∧ w = w' := by
  have hd : Try.prog.underlying 9 = some .string := Try.underlying9
  have h1 := r.run_str (dst := 9) bt hd
  have h2 := s.run_str (dst := 9) bt hd
  go_enter Try.func9, Try.ntmps9
  go_wp2
  go_ret
  exact ⟨rfl, rfl⟩
end Go.Proofs.Ytpnocepepihflaa
namespace Go.Proofs.Ytpnocepepihflaa
open Go.RowKit
section
variable {w : World} {v : Value} {bs : List UInt8}
theorem Rd.sem_at (r : Rd w v bs) {i : Nat} (hi : i < bs.length) (wx : World) : (Instr.indexAt 22 v (.int .i64 (i : Int))).run Try.prog wx = .ok (.pointer (some (adr v i))) wx := by
  have := r.run_at (P := Try.prog) (w' := wx) bt.sl bsize (k := .i64) (i := (i : Int)) (by omega) (by omega)
  simpa using this
theorem Rd.sem_ld (r : Rd w v bs) {i : Nat} (hi : i < bs.length) : (Instr.loadAt 5 (.pointer (some (adr v i)))).run Try.prog w = .ok (bv (byteAt bs i)) w := by
  have hc := r.cell i hi
  have hu := run_underlying (P := Try.prog) (w := w) Try.underlying5
  simp [Instr.loadAt, Instr.sureAddr, loadVar, isAgg, hu, load, Sem.run, hc]

theorem Rd.sem_cutH (r : Rd w v bs) {k : Nat} (h : k ≤ bs.length) (wx : World) : (Instr.sliceAt 22 v Option.none (some (.int .i64 (k : Int))) Option.none).run Try.prog wx = .ok (cutv v 0 k) wx := by
  have := r.run_cutH (P := Try.prog) (w' := wx) bt.sl bsize (k' := .i64) (h := (k : Int)) (by omega) (by omega)
  unfold Instr.sliceAt
  simp only [Sem.run_bind, run_underlying (P := Try.prog) Try.underlying22, Result.andThen_ok]
  simpa using this

theorem Rd.sem_cutL (r : Rd w v bs) {k : Nat} (h : k ≤ bs.length) (wx : World) : (Instr.sliceAt 22 v (some (.int .i64 (k : Int))) Option.none Option.none).run Try.prog wx = .ok (cutv v k bs.length) wx := by
  have := r.run_cutL (P := Try.prog) (w' := wx) bt.sl bsize (k := .i64) (l := (k : Int)) (by omega) (by omega)
  unfold Instr.sliceAt
  simp only [Sem.run_bind, run_underlying (P := Try.prog) Try.underlying22, Result.andThen_ok]
  simpa using this

end
theorem Rd.sem_cut {w : World} {v : Value} {bs : List UInt8} (r : Rd w v bs) {k h : Nat} (h1 : k ≤ h) (h2 : h ≤ bs.length) (wx : World) : (Instr.sliceAt 22 v (some (.int .i64 (k : Int))) (some (.int .i64 (h : Int))) Option.none).run Try.prog wx = .ok (cutv v k h) wx := by
  obtain ⟨ao, cap, rfl, hc, _⟩ := r.shape
  simp [Instr.sliceAt, Instr.slice, run_underlying bt.sl, Instr.sliceBounds, run_bound k h h1, run_bound h cap (by omega), size_of bsize, cutv]
theorem Own.same {e : TypeId} {w w' : World} {v : Value} {bs : List UInt8} (h : Own e w v bs) (hs : ∀ b, v.ownBlock = some b → w'.heap[b]? = w.heap[b]?) : Own e w' v bs := by
  obtain ⟨hl, h⟩ := h
  refine ⟨hl, ?_⟩
  rcases h with h | ⟨g, cap, cur, rfl, hb, hg, r⟩
  · exact .inl h
  · exact .inr ⟨g, cap, cur, rfl, hb, (hs g rfl).trans hg, r⟩
theorem by_assign {P : Program} {S0 : Nat → Prop} {w0 : World} {t : Tmp} {ty : TypeId} {s : Sm} : ByM P S0 w0 (.assign (.tmp t)) ty [(t, s)] s := by
  intro a o g w ho hty k hb hr
  have h := hr (t, s) (by simp)
  unfold execOp
  rw [ho]
  exact ⟨Keep.refl _ _, h⟩
theorem Rd.of_row {W0 w : World} {m : Mem} (hW : Wst W0 m w) {b off : Nat} {cs : List Value} {ow : Bool} (hr : ⟨b, cs, ow⟩ ∈ m.rows) {bs : List UInt8} (n : Nat) (hl : bs.length = n) (hn : n ≤ maxLen) (hc : ∀ i, i < bs.length → cs[off + i]? = some (bv (byteAt bs i))) : Rd w (.slice (some ⟨b, off, none⟩) n n) bs := by
  subst hl
  obtain ⟨t, ht⟩ := hW.rows _ hr
  refine ⟨⟨_, bs.length, rfl, Nat.le_refl _, hn, by simp, fun _ => ⟨_, _, rfl⟩⟩, fun i hi => ?_⟩
  simp only [blk, offs, World.cell?, ht]
  simpa using hc i hi
theorem Own.walk {e : TypeId} {W0 w w' : World} {rows : List RowS} {m' : Mem} {v : Value} {bs : List UInt8} (h : Own e w v bs) (hl : Loose W0 ⟨rows, w.heap.size⟩ (fun k => v.ownBlock = some k)) (hS : Seg ⟨rows, w.heap.size⟩ w m' w') (ho : ∀ r ∈ m'.rows, r.own = true) :
    Own e w' v bs ∧ Loose W0 m' (fun k => v.ownBlock = some k) := by
  have hs : ∀ b, v.ownBlock = some b → Safe ⟨rows, w.heap.size⟩ b := fun b hb => ⟨h.lt b hb, fun r hr _ => (hl b hb).2 r hr⟩
  exact ⟨h.same fun b hb => hS.same b (hs b hb), fun k hk => ⟨(hl k hk).1, fun r hr => (hS.safe k (hs k hk)).2 r hr (ho r hr)⟩⟩
theorem loose_nil {W0 : World} {m : Mem} : Loose W0 m (fun k => (Value.slice Option.none 0 0).ownBlock = some k) := fun k hk => by cases hk

theorem quo_nat (a b : Nat) : Int.tdiv (a : Int) (b : Int) = ((a / b : Nat) : Int) := by
  rw [Int.tdiv_eq_ediv_of_nonneg (by omega)]; rfl
theorem rem_nat (a b : Nat) : Int.tmod (a : Int) (b : Int) = ((a % b : Nat) : Int) := by
  rw [Int.tmod_eq_emod_of_nonneg (by omega)]; rfl

theorem Rd.of_rowc {W0 w : World} {m : Mem} (hW : Wst W0 m w) {b cap : Nat} {rest : List Value} {ow : Bool} {bs : List UInt8} (hr : ⟨b, bvs bs ++ rest, ow⟩ ∈ m.rows) (n : Nat) (hl : bs.length = n) (hc : n ≤ cap) (hn : cap ≤ maxLen) : Rd w (.slice (some ⟨b, 0, none⟩) n cap) bs := by
  subst hl
  obtain ⟨t, ht⟩ := hW.rows _ hr
  refine ⟨⟨_, cap, rfl, hc, hn, by simp, fun _ => ⟨_, _, rfl⟩⟩, fun i hi => ?_⟩
  simp only [blk, offs, Nat.zero_add, World.cell?, ht]
  have hi' : i < (bvs bs).length := by rw [bvs_length]; exact hi
  have := bvs_get hi
  simpa [List.getElem?_append_left hi'] using this
theorem Own.row {e : TypeId} {w : World} {v : Value} {bs : List UInt8} (h : Own e w v bs) (hb : bs.length ≠ 0) :
    ∃ g cap rest, v = .slice (some ⟨g, 0, none⟩) bs.length cap ∧ w.heap[g]? = some (.cells (bvs bs ++ rest).toArray e (0, 0)) ∧ bs.length ≤ cap ∧ cap ≤ maxLen := by
  obtain ⟨_, h⟩ := h
  rcases h with ⟨_, h0⟩ | ⟨g, cap, cur, rfl, _, hg, hc, hm, _, ht⟩
  · exact absurd h0 hb
  · refine ⟨g, cap, cur.toList.drop (bs.length * 1), rfl, ?_, hc, hm⟩
    rw [← ht, List.take_append_drop]
    simpa using hg
theorem Wst.fewer {W0 w : World} {rows more : List RowS} {nx : Nat} (h : Wst W0 ⟨rows ++ more, nx⟩ w) : Wst W0 ⟨rows, nx⟩ w := by
  refine ⟨h.size, fun r hr => h.rows r (List.mem_append.2 (.inl hr)), ?_, fun r hr => h.own r (List.mem_append.2 (.inl hr)), h.keep⟩
  have := h.one
  simp only [List.map_append] at this
  exact (List.nodup_append.1 this).1

theorem Keep.same {S : Nat → Prop} {w w' : World} (h : w = w') : Keep S w w' := h ▸ Keep.refl _ _
theorem CallOb.rd1 {P : Program} {w0 : World} {f : FuncId} {a : Value} {bs : List UInt8} (h : ∀ w, Keep No w0 w → Calls P f #[a] w fun e w' => ∃ v, e = .returned v ∧ Keep No w w' ∧ Rd w' v bs) : CallOb P w0 f [.is a] (rdS bs) := by
  rintro w vals k ha
  match vals, ha with
  | [x], hx => obtain rfl : x = a := hx.1; exact h w k
theorem bequal_ob {w0 : World} {xs : List UInt8} : CallOb Try.prog w0 9 [rdS xs, rdS xs] (.is (.bool true)) := by
  rintro w vals k ha
  match vals, ha with
  | [x, y], hx => exact (bequal_any hx.1 hx.2.1).mono fun e w' ⟨h1, h2⟩ => ⟨_, h1, h2 ▸ Keep.refl _ _, by simp [Sv.ok]⟩
abbrev bn (bs : List UInt8) (i : Nat) : Int := ((byteAt bs i).toNat : Int)
theorem bn_lt (bs : List UInt8) (i : Nat) : 0 ≤ bn bs i ∧ bn bs i < 256 := by have := byteAt_lt bs i; show (0 : Int) ≤ ((byteAt bs i).toNat : Int) ∧ ((byteAt bs i).toNat : Int) < 256; omega
theorem i64_small {x : Int} (h0 : 0 ≤ x) (h1 : x < 4294967296) : IntKind.i64.wrap x = x := IntWalk.i64_in _ (by omega)
/-- A loop whose heads are not numbered: they get smaller by a measure. -/
theorem loop_okT {P : Program} {Q : Exit → Act → World → Prop} {n : Nat} {ι : Type} {x : Code} {k : List K} (μ : ι → Nat) (L : ι → World → Cfg) (J : ι → World → Prop) (hL : ∀ i w, (L i w).todo = .code (.loop x) :: k)
    (round : ∀ i w, J i w → Goal P Q n { L i w with todo := .code x :: .inv (fun a' w' => ∃ j, μ j < μ i ∧ J j w' ∧ agrees n (L j w') a') :: k } w) (i0 : ι) (w : World) (h0 : J i0 w) : Goal P Q n (L i0 w) w := by
  intro a hd hn ha
  rw [hL i0]
  show (Code.loop x).wp P (KX P Q k) a w
  have hex : ∀ (S : Nat → Prop), (∃ i, S i) → ∃ i, S i ∧ ∀ j, S j → i ≤ j := by
    intro S ⟨i, hi⟩
    induction i using Nat.strongRecOn with
    | _ i ih =>
      by_cases hm : ∃ j, j < i ∧ S j
      · obtain ⟨j, hj, hs⟩ := hm; exact ih j hj hs
      · exact ⟨i, hi, fun j hj => Nat.le_of_not_lt fun hlt => hm ⟨j, hlt, hj⟩⟩
  let S (a : Act) (w : World) (m : Nat) : Prop := ∃ i, μ i = m ∧ J i w ∧ agrees n (L i w) a
  let ν (a : Act) (w : World) : Nat := open Classical in if h : ∃ m, S a w m then Classical.choose (hex _ h) else 0
  have hν : ∀ a w, (∃ m, S a w m) → S a w (ν a w) ∧ ∀ j, S a w j → ν a w ≤ j := fun a w h => by
    have := Classical.choose_spec (hex _ h)
    have e : ν a w = Classical.choose (hex _ h) := dif_pos h
    rw [e]; exact this
  refine wp_loop (fun a w => ∃ m, S a w m) ν ⟨μ i0, i0, rfl, h0, hd, hn, ha⟩ fun a w hI => ?_
  obtain ⟨⟨i, hi, hJ, hag⟩, _⟩ := hν a w hI
  have := round i w hJ a hag.1 hag.2.1 hag.2.2
  refine Code.wp_mono ?_ this
  intro e a' w' hq
  cases e with
  | normal =>
    obtain ⟨j, hj, hJj, hagj⟩ := hq
    have hS : S a' w' (μ j) := ⟨j, rfl, hJj, hagj⟩
    exact ⟨⟨μ j, hS⟩, Nat.lt_of_le_of_lt ((hν a' w' ⟨μ j, hS⟩).2 _ hS) (hi ▸ hj)⟩
  | _ => exact hq

def Apart (rows : List RowS) (v : Value) : Prop := ∀ b, v.ownBlock = some b → ∀ r ∈ rows, r.b ≠ b
theorem apart_safe {rows : List RowS} {w' : World} {v : Value} {bs : List UInt8} (hap : Apart rows v) (ho : Own 5 w' v bs) : ∀ b, v.ownBlock = some b → Safe ⟨rows, w'.heap.size⟩ b := fun b hb => ⟨ho.lt b hb, fun r hr _ => hap b hb r hr⟩
end Go.Proofs.Ytpnocepepihflaa
namespace Go.Proofs.Ytpnocepepihflaa
open Go.RowKit
section
variable {P : Program} {W0 : World} {Q : Exit → Act → World → Prop} {n : Nat} {gt : Nat → Option Nat} {unroll : Bool}
/-- Run to an append of bytes. -/
theorem go_appB (fuel : Nat) (hs : List (Nat × Nat × HintS)) (u s : Value) (t e : TypeId) (ts : List Tmp) (vs : List Value) (r : Tmp) (rows : List RowS) (tg : List (Nat × Nat)) (T : List K) (eqs : List (Value × Value)) (sems : List (Sem Value × Value)) {c : Cfg} {w : World} (B : BT P t e)
    (hW : Wst W0 c.m w)
    (he : ((atApp n (run P n gt unroll hs fuel c).1, ts.map (run P n gt unroll hs fuel c).1.fr, (run P n gt unroll hs fuel c).1.m.rows, callDst (run P n gt unroll hs fuel c).1, (run P n gt unroll hs fuel c).2.eqs, (run P n gt unroll hs fuel c).2.sems), (run P n gt unroll hs fuel c).2.blks.map (·.1)) =
      ((some (u, s, t, t), vs.map some, rows, some (r, T), eqs, sems), (run P n gt unroll hs fuel c).2.blks.map (·.2)))
    (h1 : Eqs eqs) (h2 : SemObs P c.m w sems)
    (hk : ∀ w', Wst W0 ⟨rows, w'.heap.size⟩ w' → Seg c.m w ⟨rows, w'.heap.size⟩ w' → ∃ bs ys, Own e w' u bs ∧ Rd w' s ys ∧ bs.length + ys.length ≤ 140737488351232 ∧
      ∀ v w2, Own e w2 v (bs ++ ys) → Keep (fun k => u.ownBlock = some k) w' w2 → (v.ownBlock = u.ownBlock ∨ v.ownBlock = some w'.heap.size) → Goal P Q n ⟨frOf (r :: ts) (v :: vs), tagL tg, ⟨rows, w2.heap.size⟩, T⟩ w2) : Goal P Q n c w := by
  simp only [Prod.mk.injEq] at he
  obtain ⟨⟨e1, e0, er, ed, e2, e3⟩, e4⟩ := he
  refine run_ok fuel hW (Seg.refl _ _) ⟨?_, all_of_maps e4, ?_⟩ fun w' hW' hS' => ?_
  · rw [e2]; exact h1.mem
  · rw [e3]; exact h2.mem
  · have em : (run P n gt unroll hs fuel c).1.m = ⟨rows, w'.heap.size⟩ := by rw [← er, hW'.size]
    rw [em] at hW' hS'
    obtain ⟨bs, ys, own, rd, hn, hg⟩ := hk w' hW' hS'
    obtain ⟨v, w2, hr, ho, hkp, hblk, _⟩ := run_append_b (P := P) (w := w') B 0 own rd hn
    have hr' : ∀ ty, (Builtin.append_ #[t, t] ty #[u, s]).run P w' = .ok v w2 := fun ty => hr
    exact app_ok e1 hr' (goal_at ed e0 (hg v w2 ho hkp hblk))
end
theorem Own.of_row {e : TypeId} {w : World} {b : Nat} {bs : List UInt8} (hg : w.heap[b]? = some (.cells (bvs bs).toArray e (0, 0))) (hm : bs.length ≤ maxLen) : Own e w (.slice (some ⟨b, 0, none⟩) bs.length bs.length) bs :=
  ⟨by simp [bvs_length], .inr ⟨b, bs.length, (bvs bs).toArray, rfl, Nat.zero_le _, hg, Nat.le_refl _, hm, by simp [bvs_length], by simp [← bvs_length bs]⟩⟩
end Go.Proofs.Ytpnocepepihflaa
namespace Go.Proofs.Ytpnocepepihflaa
open Go.RowKit

theorem Under.mono {n m : Nat} {v : Value} (h : Under n v) (hm : n ≤ m) : Under m v := fun b hb => Nat.lt_of_lt_of_le (h b hb) hm
abbrev pT (b : Nat) : Value := .pointer (some ⟨b, 0, none⟩)
/-- v lies in none of the rows' blocks. -/
def Ap (rows : List RowS) (v : Value) : Prop := ∀ b, v.ownBlock = some b → ∀ r ∈ rows, r.b ≠ b
theorem Ap.nil (v : Value) : Ap [] v := fun _ _ _ h => nomatch h
theorem Ap.add {rows more : List RowS} {v : Value} {n : Nat} (h : Ap rows v) (hl : Under n v) (hm : ∀ r ∈ more, n ≤ r.b) : Ap (rows ++ more) v := fun b hb r hr => by
  rcases List.mem_append.1 hr with hr | hr
  · exact h b hb r hr
  · have := hm r hr
    have := hl b hb
    omega
theorem Ap.fresh {W0 w : World} {rows : List RowS} {v : Value} (hW : Wst W0 ⟨rows, w.heap.size⟩ w) (hs : Since w.heap.size v) : Ap rows v := fun b hb r hr => by
  obtain ⟨t, ht⟩ := hW.rows r hr
  have := block_of_row ht
  have := hs b hb
  omega
theorem Ap.fewer {rows more : List RowS} {v : Value} (h : Ap (rows ++ more) v) : Ap rows v := fun b hb r hr => h b hb r (List.mem_append.2 (.inl hr))
structure HdB (rows : List RowS) (w : World) (v : Value) (bs : List UInt8) : Prop where
  rd : Rd w v bs
  lt : Under w.heap.size v
  ap : Ap rows v
section
variable {W0 w w' : World} {rows : List RowS} {v : Value} {bs : List UInt8}
theorem HdB.pass (more : List RowS) (h : HdB rows w v bs) (hS : Seg ⟨rows, w.heap.size⟩ w ⟨rows ++ more, w'.heap.size⟩ w') (hm : ∀ r ∈ more, w.heap.size ≤ r.b) : HdB (rows ++ more) w' v bs :=
  ⟨h.rd.safe (fun b hb => ⟨h.lt b hb, fun r hr _ => h.ap b hb r hr⟩) hS.same, h.lt.mono hS.le, h.ap.add h.lt hm⟩
theorem HdB.pass0 (h : HdB rows w v bs) (hS : Seg ⟨rows, w.heap.size⟩ w ⟨rows, w'.heap.size⟩ w') : HdB rows w' v bs :=
  ⟨h.rd.safe (fun b hb => ⟨h.lt b hb, fun r hr _ => h.ap b hb r hr⟩) hS.same, h.lt.mono hS.le, h.ap⟩
theorem HdB.call (h : HdB rows w v bs) (k : Keep No w w') : HdB rows w' v bs := ⟨h.rd.keep0 k, h.lt.mono k.size, h.ap⟩
theorem HdB.fewer {more : List RowS} (h : HdB (rows ++ more) w v bs) : HdB rows w v bs := ⟨h.rd, h.lt, h.ap.fewer⟩
theorem HdB.none (h : HdB rows w v bs) : HdB [] w v bs := ⟨h.rd, h.lt, Ap.nil _⟩
theorem Fresh.hd (f : Fresh w bs v w') (hW : Wst W0 ⟨rows, w.heap.size⟩ w) : HdB rows w' v bs := ⟨f.own.rd, f.own.lt, Ap.fresh hW f.since⟩
end
end Go.Proofs.Ytpnocepepihflaa
namespace Go.Proofs.Ytpnocepepihflaa
open Go.RowKit

/-- An option's code and value. -/
abbrev Opt := UInt8 × List UInt8
/-- What a message's cells tell, but for its slices. -/
structure Mh where
  op : UInt8
  hops : UInt8
  xid : Nat
  secs : Nat
  flags : Nat
  client : Nat
  yours : Nat
  next : Nat
  relay : Nat
  station : List UInt8
  pad : List UInt8
  server : List UInt8
  file : List UInt8
structure Mi extends Mh where
  opts : List Opt
  behind : List UInt8
/-- The cells. -/
def Mh.a (m : Mh) (o b : Value) : Array Value := #[
  bv m.op, bv m.hops, .int .u32 m.xid, .int .u16 m.secs, .int .u16 m.flags, .int .u32 m.client, .int .u32 m.yours, .int .u32 m.next, .int .u32 m.relay,
  bv (byteAt m.station 0), bv (byteAt m.station 1), bv (byteAt m.station 2), bv (byteAt m.station 3), bv (byteAt m.station 4), bv (byteAt m.station 5), bv (byteAt m.pad 0), bv (byteAt m.pad 1), bv (byteAt m.pad 2),
  bv (byteAt m.pad 3), bv (byteAt m.pad 4), bv (byteAt m.pad 5), bv (byteAt m.pad 6), bv (byteAt m.pad 7), bv (byteAt m.pad 8), bv (byteAt m.pad 9), bv (byteAt m.server 0), bv (byteAt m.server 1),
  bv (byteAt m.server 2), bv (byteAt m.server 3), bv (byteAt m.server 4), bv (byteAt m.server 5), bv (byteAt m.server 6), bv (byteAt m.server 7), bv (byteAt m.server 8), bv (byteAt m.server 9), bv (byteAt m.server 10),
  bv (byteAt m.server 11), bv (byteAt m.server 12), bv (byteAt m.server 13), bv (byteAt m.server 14), bv (byteAt m.server 15), bv (byteAt m.server 16), bv (byteAt m.server 17), bv (byteAt m.server 18), bv (byteAt m.server 19),
  bv (byteAt m.server 20), bv (byteAt m.server 21), bv (byteAt m.server 22), bv (byteAt m.server 23), bv (byteAt m.server 24), bv (byteAt m.server 25), bv (byteAt m.server 26), bv (byteAt m.server 27), bv (byteAt m.server 28),
  bv (byteAt m.server 29), bv (byteAt m.server 30), bv (byteAt m.server 31), bv (byteAt m.server 32), bv (byteAt m.server 33), bv (byteAt m.server 34), bv (byteAt m.server 35), bv (byteAt m.server 36), bv (byteAt m.server 37),
  bv (byteAt m.server 38), bv (byteAt m.server 39), bv (byteAt m.server 40), bv (byteAt m.server 41), bv (byteAt m.server 42), bv (byteAt m.server 43), bv (byteAt m.server 44), bv (byteAt m.server 45), bv (byteAt m.server 46),
  bv (byteAt m.server 47), bv (byteAt m.server 48), bv (byteAt m.server 49), bv (byteAt m.server 50), bv (byteAt m.server 51), bv (byteAt m.server 52), bv (byteAt m.server 53), bv (byteAt m.server 54), bv (byteAt m.server 55),
  bv (byteAt m.server 56), bv (byteAt m.server 57), bv (byteAt m.server 58), bv (byteAt m.server 59), bv (byteAt m.server 60), bv (byteAt m.server 61), bv (byteAt m.server 62), bv (byteAt m.server 63), bv (byteAt m.file 0),
  bv (byteAt m.file 1), bv (byteAt m.file 2), bv (byteAt m.file 3), bv (byteAt m.file 4), bv (byteAt m.file 5), bv (byteAt m.file 6), bv (byteAt m.file 7), bv (byteAt m.file 8), bv (byteAt m.file 9),
  bv (byteAt m.file 10), bv (byteAt m.file 11), bv (byteAt m.file 12), bv (byteAt m.file 13), bv (byteAt m.file 14), bv (byteAt m.file 15), bv (byteAt m.file 16), bv (byteAt m.file 17), bv (byteAt m.file 18),
  bv (byteAt m.file 19), bv (byteAt m.file 20), bv (byteAt m.file 21), bv (byteAt m.file 22), bv (byteAt m.file 23), bv (byteAt m.file 24), bv (byteAt m.file 25), bv (byteAt m.file 26), bv (byteAt m.file 27),
  bv (byteAt m.file 28), bv (byteAt m.file 29), bv (byteAt m.file 30), bv (byteAt m.file 31), bv (byteAt m.file 32), bv (byteAt m.file 33), bv (byteAt m.file 34), bv (byteAt m.file 35), bv (byteAt m.file 36),
  bv (byteAt m.file 37), bv (byteAt m.file 38), bv (byteAt m.file 39), bv (byteAt m.file 40), bv (byteAt m.file 41), bv (byteAt m.file 42), bv (byteAt m.file 43), bv (byteAt m.file 44), bv (byteAt m.file 45),
  bv (byteAt m.file 46), bv (byteAt m.file 47), bv (byteAt m.file 48), bv (byteAt m.file 49), bv (byteAt m.file 50), bv (byteAt m.file 51), bv (byteAt m.file 52), bv (byteAt m.file 53), bv (byteAt m.file 54),
  bv (byteAt m.file 55), bv (byteAt m.file 56), bv (byteAt m.file 57), bv (byteAt m.file 58), bv (byteAt m.file 59), bv (byteAt m.file 60), bv (byteAt m.file 61), bv (byteAt m.file 62), bv (byteAt m.file 63),
  bv (byteAt m.file 64), bv (byteAt m.file 65), bv (byteAt m.file 66), bv (byteAt m.file 67), bv (byteAt m.file 68), bv (byteAt m.file 69), bv (byteAt m.file 70), bv (byteAt m.file 71), bv (byteAt m.file 72),
  bv (byteAt m.file 73), bv (byteAt m.file 74), bv (byteAt m.file 75), bv (byteAt m.file 76), bv (byteAt m.file 77), bv (byteAt m.file 78), bv (byteAt m.file 79), bv (byteAt m.file 80), bv (byteAt m.file 81),
  bv (byteAt m.file 82), bv (byteAt m.file 83), bv (byteAt m.file 84), bv (byteAt m.file 85), bv (byteAt m.file 86), bv (byteAt m.file 87), bv (byteAt m.file 88), bv (byteAt m.file 89), bv (byteAt m.file 90),
  bv (byteAt m.file 91), bv (byteAt m.file 92), bv (byteAt m.file 93), bv (byteAt m.file 94), bv (byteAt m.file 95), bv (byteAt m.file 96), bv (byteAt m.file 97), bv (byteAt m.file 98), bv (byteAt m.file 99),
  bv (byteAt m.file 100), bv (byteAt m.file 101), bv (byteAt m.file 102), bv (byteAt m.file 103), bv (byteAt m.file 104), bv (byteAt m.file 105), bv (byteAt m.file 106), bv (byteAt m.file 107), bv (byteAt m.file 108),
  bv (byteAt m.file 109), bv (byteAt m.file 110), bv (byteAt m.file 111), bv (byteAt m.file 112), bv (byteAt m.file 113), bv (byteAt m.file 114), bv (byteAt m.file 115), bv (byteAt m.file 116), bv (byteAt m.file 117),
  bv (byteAt m.file 118), bv (byteAt m.file 119), bv (byteAt m.file 120), bv (byteAt m.file 121), bv (byteAt m.file 122), bv (byteAt m.file 123), bv (byteAt m.file 124), bv (byteAt m.file 125), bv (byteAt m.file 126),
  bv (byteAt m.file 127), o, b]
abbrev nilV : Value := .slice none 0 0
theorem nilV_since (n : Nat) : Since n nilV := fun b hb => by simp [Value.ownBlock] at hb
theorem nilV_under (n : Nat) : Under n nilV := fun b hb => by simp [Value.ownBlock] at hb
/-- A slice of bytes, shown. -/
structure Sb where
  o : Option Addr
  n : Nat
  c : Nat
abbrev Sb.v (s : Sb) : Value := .slice s.o s.n s.c
end Go.Proofs.Ytpnocepepihflaa
namespace Go.Proofs.Ytpnocepepihflaa
open Go.RowKit

/-- An option that lies somewhere: its code, its value's slice, what that reads as. -/
structure Oe where
  code : UInt8
  s : Sb
  val : List UInt8
/-- A code's cell, in the program (false) and in the document's own (true). -/
def oc (r : Bool) (x : UInt8) : Value := match r with | true => .int .i64 (x.toNat : Int) | false => bv x
abbrev Oe.a (r : Bool) (e : Oe) : Array Value := #[oc r e.code, .slice e.s.o e.s.n e.s.c]
def csO (r : Bool) (l : List Oe) : List Value := l.flatMap fun t => (t.a r).toList
theorem csO_length (r : Bool) (l : List Oe) : (csO r l).length = l.length * 2 := by
  induction l with
  | nil => rfl
  | cons t l ih =>
    have h4 : (Oe.a r t).toList.length = 2 := rfl
    have h : csO r (t :: l) = (t.a r).toList ++ csO r l := rfl
    have h2 : (csO r (t :: l)).length = (t.a r).toList.length + (csO r l).length := by rw [h]; exact List.length_append
    rw [h2, ih, h4, List.length_cons]
    omega
theorem csO_append (r : Bool) (l m : List Oe) : csO r (l ++ m) = csO r l ++ csO r m := by simp [csO]
theorem csO_get {r : Bool} : ∀ {l : List Oe} {i j : Nat} (hi : i < l.length), j < 2 → (csO r l)[i * 2 + j]? = ((l[i]).a r).toList[j]?
  | t :: l, 0, j, _, hj => by
    simp only [csO, List.flatMap_cons, Nat.zero_mul, Nat.zero_add, List.getElem_cons_zero]
    rw [List.getElem?_append_left (by simpa using hj)]
  | t :: l, i + 1, j, hi, hj => by
    have h4 : (Oe.a r t).toList.length = 2 := rfl
    have ih := csO_get (r := r) (l := l) (i := i) (j := j) (by simpa using hi) hj
    simp only [csO, List.flatMap_cons, List.getElem_cons_succ] at *
    rw [List.getElem?_append_right (by omega), ← ih]
    congr 1
    omega
theorem csO_one (r : Bool) : ∀ (l : List Oe), ∀ u ∈ csO r l, u.oneCell' = true := by
  intro l u hu
  simp only [csO, List.mem_flatMap] at hu
  obtain ⟨t, _, hu⟩ := hu
  simp at hu
  rcases hu with rfl | rfl
  · cases r <;> rfl
  · rfl

/-- v reads in w as the options l. -/
def Ro (r : Bool) (w : World) (v : Value) (l : List Oe) : Prop := Sl 2 w v l.length fun j => (csO r l).getD j undef
/-- v owns the options l: it may be appended to. -/
def Oo (r : Bool) (e : TypeId) (w : World) (v : Value) (l : List Oe) : Prop := w.ownsRow 0 e 2 v l.length (csO r l)
/-- t is the type of slices of e; e is a struct of two cells. -/
structure E2 (P : Program) (t e : TypeId) : Prop where
  sl : P.underlying t = some (.slice e)
  st : ∃ d, P.underlying e = some d ∧ d.isRow = true
  info : ∃ i z, P.info? e = some i ∧ i.size = 2 ∧ i.bytes = 32 ∧ i.zero = some z ∧ z.cells.size = 2

section
variable {q : Bool} {P : Program} {w w' : World} {v s : Value} {l ys : List Oe} {t e : TypeId}
theorem E2.size (T : E2 P t e) : (P.info? e).map (·.size) = some 2 := by
  obtain ⟨i, z, h1, h2, _⟩ := T.info
  rw [h1, Option.map_some, h2]
theorem Ro.cellAt (r : Ro q w v l) {i j : Nat} (hi : i < l.length) (hj : j < 2) : ∃ u, ((l[i]).a q).toList[j]? = some u ∧ w.cell? ⟨blk v, offs v + i * 2 + j, none⟩ = some u := by
  have h := r.cell (i * 2 + j) (by omega)
  have h5 : j < (Oe.a q l[i]).toList.length := hj
  have h1 := csO_get (r := q) (l := l) hi hj
  refine ⟨_, List.getElem?_eq_getElem h5, ?_⟩
  rw [Nat.add_assoc, h, List.getD_eq_getElem?_getD, h1, List.getElem?_eq_getElem h5]
  rfl
theorem Ro.nil (w : World) : Ro q w (.slice none 0 0) [] := ⟨⟨none, 0, rfl, by simp, by simp [maxLen], by simp, by simp⟩, by simp⟩
theorem Ro.keep0 (r : Ro q w v l) (k : Keep No w w') : Ro q w' v l := Sl.keep0 r k
theorem Ro.keep {S : Nat → Prop} (r : Ro q w v l) (k : Keep S w w') (hs : ∀ b, v.ownBlock = some b → ¬ S b) : Ro q w' v l := Sl.keep r k hs
theorem Ro.blk_lt (r : Ro q w v l) {b : Nat} (hb : v.ownBlock = some b) (hn : 0 < l.length) : b < w.heap.size := by
  have h1 := r.block_eq hn
  rw [hb] at h1
  obtain ⟨u, _, h2⟩ := r.cellAt (i := 0) (j := 0) hn (by omega)
  have := World.block_lt_of_cell? w _ h2
  rw [Option.some.inj h1]; exact this
/-- Options that were there when the function began read on. -/
theorem Ro.same (r : Ro q w v l) (hs : ∀ b, v.ownBlock = some b → 0 < l.length → w'.heap[b]? = w.heap[b]?) : Ro q w' v l := by
  refine ⟨r.shape, fun j hj => ?_⟩
  have hn : 0 < l.length := by omega
  rw [← r.cell j hj]
  exact World.cell?_of_block (hs _ (r.block_eq hn) hn)
theorem Ro.safe {m : Mem} (r : Ro q w v l) (hv : ∀ b, v.ownBlock = some b → Safe m b) (hs : ∀ k, Safe m k → w'.heap[k]? = w.heap[k]?) : Ro q w' v l := r.same fun b hb _ => hs b (hv b hb)
theorem Ro.walk {w0 w1 w2 : World} {m : Mem} (r : Ro q w0 v l) (hW : Wst w0 m w1) (hs : ∀ k, Safe m k → w2.heap[k]? = w1.heap[k]?) : Ro q w2 v l := by
  have r1 := r.keep0 hW.keep
  refine r1.same fun b hb hn => hs b ?_
  have hl := r.blk_lt hb hn
  exact ⟨by have := hW.keep.size; rw [← hW.size]; omega, fun y hy ho => by have := hW.own y hy ho; omega⟩
theorem Ro.sem_len (r : Ro q w v l) (T : E2 P t e) {ty : TypeId} (wx : World) : (Builtin.len_ #[t] ty #[v]).run P wx = .ok (.int .i64 (l.length : Int)) wx := r.run_len T.sl
/-- Where option i lies. -/
abbrev ad2 (v : Value) (i : Nat) : Addr := ⟨blk v, offs v + i * 2, none⟩
theorem Ro.sem_at (r : Ro q w v l) (T : E2 P t e) {i : Nat} (hi : i < l.length) (wx : World) : (Instr.indexAt t v (.int .i64 (i : Int))).run P wx = .ok (.pointer (some (ad2 v i))) wx := by
  have := r.run_at (P := P) (w' := wx) T.sl T.size (k := .i64) (i := (i : Int)) (by omega) (by omega)
  simpa using this
theorem Ro.sem_ld (r : Ro q w v l) (T : E2 P t e) {i : Nat} (hi : i < l.length) : (Instr.loadAt e (.pointer (some (ad2 v i)))).run P w = .ok (.agg ((l[i]).a q)) w := by
  obtain ⟨d, h1, h2⟩ := T.st
  have := run_loadAt_mid (P := P) w (blk v) (offs v + i * 2) e ((l[i]).a q).toList d (fun j u hj => by
    have h4 : (Oe.a q l[i]).toList.length = 2 := rfl
    have hj4 : j < 2 := by
      rcases Nat.lt_or_ge j 2 with h | h
      · exact h
      · rw [List.getElem?_eq_none (by omega)] at hj; cases hj
    obtain ⟨u', e1, e2⟩ := r.cellAt hi hj4
    rw [hj] at e1
    rw [e2, ← e1]) h1 h2 (by rw [T.size]; rfl)
  simpa using this
theorem Ro.not_agg (r : Ro q w v l) : ∀ cs, v = .agg cs → False := by
  obtain ⟨ao, cap, e, _⟩ := r.shape
  intro cs h2
  rw [e] at h2
  cases h2
theorem Oo.nil (e : TypeId) (w : World) : Oo q e w (.slice none 0 0) [] := World.ownsRow_nil _ _ _ _
theorem Oo.rt (h : Oo q e w v l) : Ro q w v l := by
  obtain ⟨hl, h⟩ := h
  rcases h with ⟨rfl, h0⟩ | ⟨g, cap, cur, rfl, _, hg, hc, hm, hs, ht⟩
  · have : l = [] := List.length_eq_zero_iff.1 h0
    subst this
    exact Ro.nil w
  · refine ⟨⟨some ⟨g, 0, none⟩, cap, rfl, hc, hm, by simp, fun _ => ⟨g, 0, rfl⟩⟩, fun i hi => ?_⟩
    simp only [blk, offs, Nat.zero_add]
    have h2 : cur.toList[i]? = some ((csO q l).getD i undef) := by
      have h3 : (cur.toList.take (l.length * 2))[i]? = some ((csO q l).getD i undef) := by rw [ht, List.getElem?_eq_getElem (by rw [csO_length q]; exact hi), List.getD_eq_getElem?_getD, List.getElem?_eq_getElem (by rw [csO_length q]; exact hi)]; rfl
      rw [List.getElem?_take] at h3
      simpa [hi] using h3
    simp only [World.cell?, hg]
    simpa using h2
theorem Oo.lt (h : Oo q e w v l) : Under w.heap.size v := by
  obtain ⟨hl, h⟩ := h
  intro b hb
  rcases h with ⟨rfl, _⟩ | ⟨g, cap, cur, rfl, _, hg, _⟩
  · simp [Value.ownBlock] at hb
  · simp [Value.ownBlock] at hb
    subst hb
    exact block_of_row hg
theorem Oo.same (h : Oo q e w v l) (hs : ∀ b, v.ownBlock = some b → w'.heap[b]? = w.heap[b]?) : Oo q e w' v l := by
  obtain ⟨hl, h⟩ := h
  refine ⟨hl, ?_⟩
  rcases h with h | ⟨g, cap, cur, rfl, hb, hg, r⟩
  · exact .inl h
  · exact .inr ⟨g, cap, cur, rfl, hb, by rw [hs g rfl]; exact hg, r⟩
theorem Oo.keep {S : Nat → Prop} (h : Oo q e w v l) (k : Keep S w w') (hs : ∀ b, v.ownBlock = some b → ¬ S b) : Oo q e w' v l := h.same fun b hb => k.block b (h.lt b hb) (hs b hb)
theorem Oo.keep0 (h : Oo q e w v l) (k : Keep No w w') : Oo q e w' v l := h.keep k fun _ _ f => f
/-- A row whose cells are options is owned. -/
theorem Oo.of_row {b : Nat} {cs : List Value} (hg : w.heap[b]? = some (.cells cs.toArray e (0, 0))) (hcs : cs = csO q l) (hm : l.length ≤ maxLen) : Oo q e w (.slice (some ⟨b, 0, none⟩) l.length l.length) l := by
  subst hcs
  refine ⟨csO_length q l, .inr ⟨b, l.length, (csO q l).toArray, rfl, Nat.zero_le _, hg, Nat.le_refl _, hm, by simpa using csO_length q l, ?_⟩⟩
  simp only [List.take_of_length_le, csO_length q, Nat.le_refl]
theorem Ro.of_row {b : Nat} {cs : List Value} {ty : TypeId} (hg : w.heap[b]? = some (.cells cs.toArray ty (0, 0))) (hcs : cs = csO q l) (hm : l.length ≤ maxLen) : Ro q w (.slice (some ⟨b, 0, none⟩) l.length l.length) l := by
  subst hcs
  refine ⟨⟨_, l.length, rfl, Nat.le_refl _, hm, by simp, fun _ => ⟨b, 0, rfl⟩⟩, fun i hi => ?_⟩
  simp only [blk, offs, Nat.zero_add, World.cell?, hg]
  rw [List.getD_eq_getElem?_getD]
  have : i < (csO q l).length := by rw [csO_length q]; exact hi
  simp [this]

/-- 'append(v, s...)'. -/
theorem run_append_t (T : E2 P t e) (o : Oo q e w v l) (r : Ro q w s ys) (hn : l.length + ys.length ≤ 1099511627776) :
    ∃ v' w', (∀ ty, (Builtin.append_ #[t, t] ty #[v, s]).run P w = .ok v' w') ∧ Oo q e w' v' (l ++ ys) ∧ Keep (fun k => v.ownBlock = some k) w w' ∧ (v'.ownBlock = v.ownBlock ∨ v'.ownBlock = some w.heap.size) := by
  obtain ⟨i, z, hi, hz1, hz2, hz3, hz4⟩ := T.info
  obtain ⟨ao, cap, rfl, _, _, hnl, hso⟩ := r.shape
  cases ao with
  | none =>
    have hc0 := hnl rfl
    have hy : ys.length = 0 := by
      rcases Nat.eq_zero_or_pos ys.length with h | h
      · exact h
      · obtain ⟨b, o, h⟩ := hso h; cases h
    have hy' : ys = [] := List.length_eq_zero_iff.1 hy
    subst hy' hc0
    exact ⟨v, w, fun ty => run_append_owned_none (P := P) (w := w) 0 t ty e i 2 T.sl hi v _ _ o, by simpa using o, Keep.refl _ _, .inl rfl⟩
  | some a =>
    have key := fun ty => run_append_own_at (P := P) w 0 t ty e i z 2 32 T.sl hi hz3 hz1 hz2 hz4 (by decide) v l.length (csO q l) o a ys.length cap (csO q ys)
      (csO_length q ys)
      (fun j u hj => by
        by_cases hjl : j < ys.length * 2
        · obtain ⟨b, o, hbo⟩ := hso (by omega)
          cases hbo
          have := r.cell j hjl
          rw [List.getD_eq_getElem?_getD, hj] at this
          simpa [blk, offs, Addr_add_mk] using this
        · rw [List.getElem?_eq_none (by rw [csO_length q]; omega)] at hj; cases hj)
      (csO_one q ys) (by simp only [maxLen]; omega) (by omega) (Nat.zero_le _)
    obtain ⟨v', w', hr, h2, h3, _, h5⟩ := key 0
    refine ⟨v', w', fun ty => hr, by simpa [Oo, csO_append] using h2, ⟨h3.os, h3.tape, h3.output, h3.size, fun k hk hn => h3.block k hk (fun e => hn e.symm)⟩, h5⟩
end

end Go.Proofs.Ytpnocepepihflaa
namespace Go.Proofs.Ytpnocepepihflaa
open Go.RowKit

/-- v, of n elements, lies where the rows are not. -/
def Sf (rows : List RowS) (w : World) (v : Value) (n : Nat) : Prop := ∀ b, v.ownBlock = some b → 0 < n → Safe ⟨rows, w.heap.size⟩ b
section
variable {rows more : List RowS} {w w' : World} {v : Value} {n : Nat}
theorem Sf.pass (h : Sf rows w v n) (hS : Seg ⟨rows, w.heap.size⟩ w ⟨rows ++ more, w'.heap.size⟩ w') (hm : ∀ r ∈ more, w.heap.size ≤ r.b) : Sf (rows ++ more) w' v n := fun b hb hn =>
  ⟨Nat.lt_of_lt_of_le (h b hb hn).1 hS.le, fun r hr ho => by
    rcases List.mem_append.1 hr with hr | hr
    · exact (h b hb hn).2 r hr ho
    · have h1 := hm r hr
      have h2 : b < w.heap.size := (h b hb hn).1
      omega⟩
theorem Sf.pass0 (h : Sf rows w v n) (hS : Seg ⟨rows, w.heap.size⟩ w ⟨rows, w'.heap.size⟩ w') : Sf rows w' v n := fun b hb hn => ⟨Nat.lt_of_lt_of_le (h b hb hn).1 hS.le, (h b hb hn).2⟩
theorem Sf.call (h : Sf rows w v n) (k : Keep No w w') : Sf rows w' v n := fun b hb hn => ⟨Nat.lt_of_lt_of_le (h b hb hn).1 k.size, (h b hb hn).2⟩
theorem Sf.fewer (h : Sf (rows ++ more) w v n) : Sf rows w v n := fun b hb hn => ⟨(h b hb hn).1, fun r hr => (h b hb hn).2 r (List.mem_append.2 (.inl hr))⟩
theorem Sf.none (h : Sf rows w v n) : Sf [] w v n := fun b hb hn => ⟨(h b hb hn).1, fun _ hr => nomatch hr⟩
end
structure Hx (rows : List RowS) (w : World) (v : Value) (bs : List UInt8) : Prop where
  rd : Rd w v bs
  sf : Sf rows w v bs.length
section
variable {rows more : List RowS} {W0 w w' : World} {v : Value} {bs : List UInt8}
theorem Rd.same (r : Rd w v bs) (hs : ∀ b, v.ownBlock = some b → 0 < bs.length → w'.heap[b]? = w.heap[b]?) : Rd w' v bs := by
  refine ⟨r.shape, fun j hj => ?_⟩
  rw [← r.cell j hj]
  obtain ⟨ao, cap, rfl, _, _, _, hb⟩ := r.shape
  obtain ⟨b, o, rfl⟩ := hb (by omega)
  exact World.cell?_of_block (hs b rfl (by omega))
theorem Rd.blkLt (r : Rd w v bs) {b : Nat} (hb : v.ownBlock = some b) (hn : 0 < bs.length) : b < w.heap.size := by
  have h2 := r.cell 0 hn
  obtain ⟨ao, cap, rfl, _, _, _, hb'⟩ := r.shape
  obtain ⟨b', o, rfl⟩ := hb' (by omega)
  obtain rfl : b' = b := Option.some.inj hb
  exact World.block_lt_of_cell? w _ h2
theorem Hx.pass (h : Hx rows w v bs) (hS : Seg ⟨rows, w.heap.size⟩ w ⟨rows ++ more, w'.heap.size⟩ w') (hm : ∀ r ∈ more, w.heap.size ≤ r.b) : Hx (rows ++ more) w' v bs := ⟨h.rd.same fun b hb hn => hS.same b (h.sf b hb hn), h.sf.pass hS hm⟩
theorem Hx.pass0 (h : Hx rows w v bs) (hS : Seg ⟨rows, w.heap.size⟩ w ⟨rows, w'.heap.size⟩ w') : Hx rows w' v bs := ⟨h.rd.same fun b hb hn => hS.same b (h.sf b hb hn), h.sf.pass0 hS⟩
theorem Hx.call (h : Hx rows w v bs) (k : Keep No w w') : Hx rows w' v bs := ⟨h.rd.keep0 k, h.sf.call k⟩
theorem Hx.fewer (h : Hx (rows ++ more) w v bs) : Hx rows w v bs := ⟨h.rd, h.sf.fewer⟩
theorem Hx.none (h : Hx rows w v bs) : Hx [] w v bs := ⟨h.rd, h.sf.none⟩
theorem HdB.hx (h : HdB rows w v bs) : Hx rows w v bs := ⟨h.rd, fun b hb _ => ⟨h.lt b hb, fun r hr _ => h.ap b hb r hr⟩⟩
/-- What is older than the walk. -/
theorem Rd.hx (r : Rd W0 v bs) (hW : Wst W0 ⟨rows, w.heap.size⟩ w) : Hx rows w v bs := ⟨r.keep0 hW.keep, fun b hb hn => by
  have hl := r.blkLt hb hn
  exact ⟨Nat.lt_of_lt_of_le hl hW.keep.size, fun y hy ho => by have := hW.own y hy ho; omega⟩⟩
theorem Hx.later (h : Hx rows w v bs) (hx : ∀ k, Safe ⟨rows, w.heap.size⟩ k → w'.heap[k]? = w.heap[k]?) : Rd w' v bs := h.rd.same fun b hb hn => hx b (h.sf b hb hn)
end
/-- Options, their values too. -/
structure HxO (q : Bool) (rows : List RowS) (w : World) (v : Value) (l : List Oe) : Prop where
  ro : Ro q w v l
  sf : Sf rows w v l.length
  each : ∀ e ∈ l, Hx rows w e.s.v e.val
section
variable {q : Bool} {rows more : List RowS} {W0 w w' : World} {v : Value} {l : List Oe}
theorem HxO.pass (h : HxO q rows w v l) (hS : Seg ⟨rows, w.heap.size⟩ w ⟨rows ++ more, w'.heap.size⟩ w') (hm : ∀ r ∈ more, w.heap.size ≤ r.b) : HxO q (rows ++ more) w' v l := ⟨h.ro.same fun b hb hn => hS.same b (h.sf b hb hn), h.sf.pass hS hm, fun e he => (h.each e he).pass hS hm⟩
theorem HxO.pass0 (h : HxO q rows w v l) (hS : Seg ⟨rows, w.heap.size⟩ w ⟨rows, w'.heap.size⟩ w') : HxO q rows w' v l := ⟨h.ro.same fun b hb hn => hS.same b (h.sf b hb hn), h.sf.pass0 hS, fun e he => (h.each e he).pass0 hS⟩
theorem HxO.call (h : HxO q rows w v l) (k : Keep No w w') : HxO q rows w' v l := ⟨h.ro.keep0 k, h.sf.call k, fun e he => (h.each e he).call k⟩
theorem HxO.fewer (h : HxO q (rows ++ more) w v l) : HxO q rows w v l := ⟨h.ro, h.sf.fewer, fun e he => (h.each e he).fewer⟩
theorem HxO.none (h : HxO q rows w v l) : HxO q [] w v l := ⟨h.ro, h.sf.none, fun e he => (h.each e he).none⟩
end
/-- Options that read, their values too. -/
structure RoV (q : Bool) (w : World) (v : Value) (l : List Oe) : Prop where
  ro : Ro q w v l
  each : ∀ e ∈ l, Rd w e.s.v e.val
section
variable {q : Bool} {rows : List RowS} {W0 w w' : World} {v : Value} {l : List Oe}
theorem RoV.keep0 (h : RoV q w v l) (k : Keep No w w') : RoV q w' v l := ⟨h.ro.keep0 k, fun e he => (h.each e he).keep0 k⟩
theorem RoV.hx (r : RoV q W0 v l) (hW : Wst W0 ⟨rows, w.heap.size⟩ w) : HxO q rows w v l := ⟨r.ro.keep0 hW.keep, fun b hb hn => by
  have hl := r.ro.blk_lt hb hn
  exact ⟨Nat.lt_of_lt_of_le hl hW.keep.size, fun y hy ho => by have := hW.own y hy ho; omega⟩, fun e he => (r.each e he).hx hW⟩
theorem HxO.rv (h : HxO q rows w v l) : RoV q w v l := ⟨h.ro, fun e he => (h.each e he).rd⟩
theorem RoV.nil (w : World) : RoV q w (.slice none 0 0) [] := ⟨Ro.nil w, fun _ h => nomatch h⟩
theorem E2o : E2 Try.prog 25 24 where
  sl := Try.underlying25
  st := ⟨_, Try.underlying24, rfl⟩
  info := by
    have h : (Try.prog.info? 24).map (fun i => (i.size, i.bytes, i.zero)) = some (2, 32, some (.agg #[.int .u8 0, .slice none 0 0])) := by kernel_rfl
    cases hi : Try.prog.info? 24 with
    | none => rw [hi] at h; cases h
    | some i =>
      rw [hi, Option.map_some] at h
      simp only [Option.some.injEq, Prod.mk.injEq] at h
      exact ⟨i, _, rfl, h.1, h.2.1, h.2.2, rfl⟩
theorem E2r : E2 Try.prog 52 87 where
  sl := Try.underlying52
  st := ⟨_, Try.underlying87, rfl⟩
  info := by
    have h : (Try.prog.info? 87).map (fun i => (i.size, i.bytes, i.zero)) = some (2, 32, some (.agg #[.int .i64 0, .slice none 0 0])) := by kernel_rfl
    cases hi : Try.prog.info? 87 with
    | none => rw [hi] at h; cases h
    | some i =>
      rw [hi, Option.map_some] at h
      simp only [Option.some.injEq, Prod.mk.injEq] at h
      exact ⟨i, _, rfl, h.1, h.2.1, h.2.2, rfl⟩
end
end Go.Proofs.Ytpnocepepihflaa
namespace Go.Proofs.Ytpnocepepihflaa
open Go.RowKit

/-- At block p lies a cutter of the bytes bs (the slice sv), of which at_ were taken, with the error e. -/
structure Cu (w : World) (p : Nat) (sv : Value) (bs : List UInt8) (at_ : Nat) (e : Int) : Prop where
  c0 : w.cell? ⟨p, 0, none⟩ = some sv
  c1 : w.cell? ⟨p, 1, none⟩ = some (.int .i64 (at_ : Int))
  c2 : w.cell? ⟨p, 2, none⟩ = some (.int .i64 e)
  c3 : w.cell? ⟨p, 3, none⟩ = some (.bool true)
  fz : ∀ o, w.frozen? ⟨p, o, none⟩ = false
  rd : Rd w sv bs
  apart : sv.ownBlock ≠ some p
  under : Under w.heap.size sv
  le : at_ ≤ bs.length
  big : bs.length ≤ 140737488351232

theorem Cu.lt {w : World} {p : Nat} {sv : Value} {bs : List UInt8} {at_ : Nat} {e : Int} (h : Cu w p sv bs at_ e) : p < w.heap.size := World.block_lt_of_cell? w _ h.c0

theorem Cu.keep {S : Nat → Prop} {w w' : World} {p : Nat} {sv : Value} {bs : List UInt8} {at_ : Nat} {e : Int} (h : Cu w p sv bs at_ e) (k : Keep S w w') (hp : ¬ S p) (hs : ∀ b, sv.ownBlock = some b → ¬ S b) : Cu w' p sv bs at_ e where
  c0 := k.cell h.c0 hp
  c1 := k.cell h.c1 hp
  c2 := k.cell h.c2 hp
  c3 := k.cell h.c3 hp
  fz := fun o => (k.frozen (a := ⟨p, o, none⟩) h.lt hp).trans (h.fz o)
  rd := h.rd.keep k hs
  apart := h.apart
  under := fun b hb => Nat.lt_of_lt_of_le (h.under b hb) k.size
  le := h.le
  big := h.big
theorem Cu.keep0 {w w' : World} {p : Nat} {sv : Value} {bs : List UInt8} {at_ : Nat} {e : Int} (h : Cu w p sv bs at_ e) (k : Keep No w w') : Cu w' p sv bs at_ e := h.keep k (fun f => f) (fun _ _ f => f)

theorem Cu.setAt {w : World} {p : Nat} {sv : Value} {bs : List UInt8} {at_ : Nat} {e : Int} (h : Cu w p sv bs at_ e) (n : Nat) (hn : n ≤ bs.length) : Cu (w.setCell ⟨p, 1, none⟩ (.int .i64 (n : Int))) p sv bs n e where
  c0 := by rw [World.cell?_setCell_other _ _ _ _ (by simp)]; exact h.c0
  c1 := by rw [World.cell?_setCell_same _ _ _ h.c1]
  c2 := by rw [World.cell?_setCell_other _ _ _ _ (by simp)]; exact h.c2
  c3 := by rw [World.cell?_setCell_other _ _ _ _ (by simp)]; exact h.c3
  fz := fun o => by rw [World.frozen?_setCell]; exact h.fz o
  rd := h.rd.keep (Keep.set1 _ _ _ _) (fun b hb hS => h.apart (by rw [hb, show b = p from hS]))
  apart := h.apart
  under := fun b hb => by rw [World.size_setCell]; exact h.under b hb
  le := hn
  big := h.big
theorem Cu.setErr {w : World} {p : Nat} {sv : Value} {bs : List UInt8} {at_ : Nat} {e : Int} (h : Cu w p sv bs at_ e) (n : Int) : Cu (w.setCell ⟨p, 2, none⟩ (.int .i64 n)) p sv bs at_ n where
  c0 := by rw [World.cell?_setCell_other _ _ _ _ (by simp)]; exact h.c0
  c1 := by rw [World.cell?_setCell_other _ _ _ _ (by simp)]; exact h.c1
  c2 := by rw [World.cell?_setCell_same _ _ _ h.c2]
  c3 := by rw [World.cell?_setCell_other _ _ _ _ (by simp)]; exact h.c3
  fz := fun o => by rw [World.frozen?_setCell]; exact h.fz o
  rd := h.rd.keep (Keep.set1 _ _ _ _) (fun b hb hS => h.apart (by rw [hb, show b = p from hS]))
  apart := h.apart
  under := fun b hb => by rw [World.size_setCell]; exact h.under b hb
  le := h.le
  big := h.big

section
variable {w : World} {p : Nat} {sv : Value} {bs : List UInt8} {at_ : Nat} {e : Int}

set_option maxHeartbeats 400000 in
theorem cnone_any (h : w.cell? ⟨p, 3, Option.none⟩ = some (.bool true)) :
    Calls Try.prog 54 #[.pointer (some ⟨p, 0, Option.none⟩)] w fun e w' => e = .returned (.bool false) ∧ w = w' := by
  go_enter Try.func54, Try.ntmps54
  go_wp2
  go_ret
  exact ⟨rfl, rfl⟩

set_option maxHeartbeats 400000 in
theorem err_any (h : Cu w p sv bs at_ e) :
    Calls Try.prog 43 #[.pointer (some ⟨p, 0, Option.none⟩)] w fun x w' => x = .returned (.int .i64 e) ∧ w = w' := by
  have h2 := h.c2
  go_enter Try.func43, Try.ntmps43
  go_wp2_with (go_at_call 54; refine (cnone_any h.c3).mono ?_; rintro e w' ⟨rfl, rfl⟩)
  go_ret
  exact ⟨rfl, rfl⟩

def leftR (bs : List UInt8) (at_ : Nat) (e : Int) : Nat := if e = 0 then bs.length - at_ else 0

set_option maxHeartbeats 400000 in
theorem left_any (h : Cu w p sv bs at_ e) :
    Calls Try.prog 52 #[.pointer (some ⟨p, 0, Option.none⟩)] w fun x w' => x = .returned (.int .i64 (leftR bs at_ e : Nat)) ∧ ∃ n, w' = w.drewN n := by
  have hle := h.le
  have hbig := h.big
  by_cases he : e = 0
  · have hb : (e != 0) = false := by simp [he]
    have h0 := h.c0
    have h1 := h.c1
    have hlen : ∀ wx, (Builtin.len_ #[22] 3 #[sv]).run Try.prog wx = .ok (.int .i64 (bs.length : Int)) wx := fun wx => h.rd.run_len bt.sl
    have HE := Lib.hid he
    clear he
    go_enter Try.func52, Try.ntmps52
    go_wp2_with (go_at_call 43; refine (err_any h).mono ?_; rintro x w' ⟨rfl, rfl⟩)
    go_quiet (fail)
    go_wp2
    go_ret
    refine ⟨?_, _, rfl⟩
    rw [leftR, if_pos HE.out, Int.ofNat_sub hle]; rfl
  · have hb : (e != 0) = true := by simp [he]
    go_enter Try.func52, Try.ntmps52
    go_wp2_with (go_at_call 43; refine (err_any h).mono ?_; rintro x w' ⟨rfl, rfl⟩)
    go_ret
    exact ⟨by rw [leftR, if_neg he]; rfl, 0, rfl⟩

def failR (e n : Int) : Int := if e = 0 then n else e

set_option maxHeartbeats 400000 in
theorem fail_any (h : Cu w p sv bs at_ e) (n : Int) :
    Calls Try.prog 51 #[.pointer (some ⟨p, 0, Option.none⟩), .int .i64 n] w fun x w' => x = .returned (.tuple #[]) ∧ Cu w' p sv bs at_ (failR e n) ∧ Keep (One p) w w' := by
  have h2 := h.c2
  have hf := h.fz 2
  by_cases he : e = 0
  · subst he
    go_enter Try.func51, Try.ntmps51
    go_wp2_with (go_at_call 54; refine (cnone_any h.c3).mono ?_; rintro e w' ⟨rfl, rfl⟩)
    go_end0
    exact ⟨rfl, h.setErr n, Keep.set1 _ _ _ _⟩
  · have hb : (e == 0) = false := by simp [he]
    go_enter Try.func51, Try.ntmps51
    go_wp2_with (go_at_call 54; refine (cnone_any h.c3).mono ?_; rintro e w' ⟨rfl, rfl⟩)
    go_end0
    refine ⟨rfl, ?_, Keep.refl _ _⟩
    rw [failR, if_neg he]; exact h

/-- What Take(n) leaves: the bytes, how many were taken, the error. -/
def takeB (bs : List UInt8) (at_ : Nat) (e n : Int) : List UInt8 := if e = 0 ∧ 0 ≤ n ∧ n ≤ (bs.length - at_ : Nat) then (bs.drop at_).take n.toNat else []
def takeA (bs : List UInt8) (at_ : Nat) (e n : Int) : Nat := if e = 0 ∧ 0 ≤ n ∧ n ≤ (bs.length - at_ : Nat) then at_ + n.toNat else at_
def takeE (bs : List UInt8) (at_ : Nat) (e n : Int) : Int := if e = 0 then (if n < 0 then 1 else if (bs.length - at_ : Nat) < n then 4 else 0) else e

/-- What a call that makes new bytes and works on the cutter at p leaves. -/
structure Took (w : World) (p : Nat) (sv : Value) (bs : List UInt8) (at' : Nat) (e' : Int) (out : List UInt8) (v : Value) (w' : World) : Prop where
  own : Own 5 w' v out
  since : Since w.heap.size v
  cu : Cu w' p sv bs at' e'
  keep : Keep (One p) w w'

theorem Took.none {w' : World} {at' : Nat} {e' : Int} (hc : Cu w' p sv bs at' e') (k : Keep (One p) w w') : Took w p sv bs at' e' [] (.slice Option.none 0 0) w' :=
  ⟨Own.nil _ _, by intro b hb; simp [Value.ownBlock] at hb, hc, k⟩
theorem Took.rd {w' : World} {at' : Nat} {e' : Int} {out : List UInt8} {v : Value} (h : Took w p sv bs at' e' out v w') : Rd w' v out := h.own.rd

set_option maxRecDepth 4000 in
set_option maxHeartbeats 1000000 in
theorem take_any (h : Cu w p sv bs at_ e) (n : Int) :
    Calls Try.prog 41 #[.pointer (some ⟨p, 0, Option.none⟩), .int .i64 n] w fun x w' => ∃ v, x = .returned v ∧ Took w p sv bs (takeA bs at_ e n) (takeE bs at_ e n) (takeB bs at_ e n) v w' := by
  have hle := h.le
  have hbig := h.big
  by_cases he : e = 0
  · have hb : (e != 0) = false := by simp [he]
    by_cases hneg : n < 0
    · have e1 : takeA bs at_ e n = at_ := if_neg (by omega)
      have e2 : takeE bs at_ e n = 1 := by rw [takeE, if_pos he, if_pos hneg]
      have e3 : takeB bs at_ e n = [] := if_neg (by omega)
      rw [e1, e2, e3]
      have e4 : failR e 1 = 1 := if_pos he
      have E4 := Lib.hid e4
      clear he e1 e2 e3 e4
      go_enter Try.func41, Try.ntmps41
      go_wp2_with (first | (go_at_call 43; refine (err_any h).mono ?_; rintro x w' ⟨rfl, rfl⟩) | (go_at_call 51; refine (fail_any h 1).mono ?_; rintro x w1 ⟨rfl, hc, hk⟩))
      go_ret
      rw [E4.out] at hc
      exact ⟨_, rfl, Took.none hc hk⟩
    · by_cases hbig : (bs.length - at_ : Nat) < n
      · have e1 : takeA bs at_ e n = at_ := if_neg (by omega)
        have e2 : takeE bs at_ e n = 4 := by rw [takeE, if_pos he, if_neg hneg, if_pos hbig]
        have e3 : takeB bs at_ e n = [] := if_neg (by omega)
        rw [e1, e2, e3]
        have e4 : failR e 4 = 4 := if_pos he
        have E4 := Lib.hid e4
        have e5 : leftR bs at_ e = bs.length - at_ := if_pos he
        have hlt : (leftR bs at_ e : Int) < n := by rw [e5]; exact hbig
        clear he e1 e2 e3 e4 e5 hbig
        go_enter Try.func41, Try.ntmps41
        go_wp2_with (first | (go_at_call 43; refine (err_any h).mono ?_; rintro x w' ⟨rfl, rfl⟩) | (go_at_call 52; refine (left_any h).mono ?_; rintro x w1 ⟨rfl, nd, rfl⟩) | (go_at_call 51; refine (fail_any (h.keep0 ((Keep.refl _ _).drewN _)) 4).mono ?_; rintro x w1 ⟨rfl, hc, hk⟩))
        go_ret
        rw [E4.out] at hc
        exact ⟨_, rfl, Took.none hc (((Keep.refl _ _).drewN _).trans hk)⟩
      · obtain ⟨m, rfl⟩ := Int.eq_ofNat_of_zero_le (show 0 ≤ n by omega)
        have hm : at_ + m ≤ bs.length := by simp at hbig; omega
        have e1 : takeA bs at_ e (m : Int) = at_ + m := by rw [takeA, if_pos (by omega)]; simp
        have e2 : takeE bs at_ e (m : Int) = e := by rw [takeE, if_pos he, if_neg (by omega), if_neg (by omega)]; exact he.symm
        have e3 : takeB bs at_ e (m : Int) = (bs.drop at_).take m := by rw [takeB, if_pos (by omega)]; simp
        rw [e1, e2, e3]
        have e5 : leftR bs at_ e = bs.length - at_ := if_pos he
        have hlt : ¬ (leftR bs at_ e : Int) < (m : Int) := by rw [e5]; simp at hbig; omega
        have h1 := h.c1
        have hf := h.fz 1
        clear he e1 e2 e3 e5 hbig hneg
        go_enter Try.func41, Try.ntmps41
        go_wp2_with (first | (go_at_call 43; refine (err_any h).mono ?_; rintro x w' ⟨rfl, rfl⟩) | (go_at_call 52; refine (left_any h).mono ?_; rintro x w1 ⟨rfl, nd, rfl⟩))
        have hcu : Cu ((w.drewN nd).setCell ⟨p, 1, Option.none⟩ (.int .i64 ((at_ : Int) + (m : Int)))) p sv bs (at_ + m) e := by
          have := (h.keep0 ((Keep.refl _ _).drewN nd)).setAt (at_ + m) hm
          simpa using this
        have hk : Keep (One p) w ((w.drewN nd).setCell ⟨p, 1, Option.none⟩ (.int .i64 ((at_ : Int) + (m : Int)))) := (Keep.refl (One p) w).drewN nd |>.trans (Keep.set1 _ _ _ _)
        generalize (w.drewN nd).setCell ⟨p, 1, Option.none⟩ (.int .i64 ((at_ : Int) + (m : Int))) = W at *
        have g0 := hcu.c0
        have g1 : W.cell? ⟨p, 1, Option.none⟩ = some (.int .i64 ((at_ : Int) + (m : Int))) := by have := hcu.c1; simpa using this
        have hsub : IntKind.i64.wrap (at_ : Int) = (at_ : Int) := IntWalk.i64_in _ (by omega)
        have hcut : ∀ wx, (Instr.slice 22 sv (some (.int .i64 (at_ : Int))) (some (.int .i64 ((at_ : Int) + (m : Int)))) Option.none).run Try.prog wx = .ok (cutv sv at_ (at_ + m)) wx := fun wx => by
          have := hcu.rd.run_cut (P := Try.prog) (w' := wx) bt.sl bsize (k := .i64) (k' := .i64) (l := (at_ : Int)) (h := (at_ : Int) + (m : Int)) (by omega) (by omega) (by omega)
          rw [this]
          rfl
        go_still_tail 15, (by kernel_rfl)
        change wpList _ _ _ _ _ W.drew
        have hr : Rd W.drew (cutv sv at_ (at_ + m)) ((bs.drop at_).take m) := by
          have := (hcu.rd.drewN 1).cut (l := at_) (h := at_ + m) (by omega) (by omega)
          rw [Nat.add_sub_cancel_left] at this
          exact this
        go_wp2_with (go_at_call 46; refine (sclone_any _ _ _ hr (by simp; omega)).mono ?_; rintro x w2 ⟨v, rfl, hfr, _⟩)
        go_ret
        have hs : W.heap.size = W.drew.heap.size := rfl
        exact ⟨v, rfl, hfr.own, hfr.since.mono hk.size, (hcu.keep0 ((Keep.refl _ _).drewN 1)).keep0 hfr.keep, (hk.trans ((Keep.refl _ _).drewN 1)).trans hfr.keep.no⟩
  · have hb : (e != 0) = true := by simp [he]
    have e1 : takeA bs at_ e n = at_ := if_neg (by simp [he])
    have e2 : takeE bs at_ e n = e := if_neg he
    have e3 : takeB bs at_ e n = [] := if_neg (by simp [he])
    rw [e1, e2, e3]
    clear e1 e2 e3 he
    go_enter Try.func41, Try.ntmps41
    go_wp2_with (first | (go_at_call 43; refine (err_any h).mono ?_; rintro x w' ⟨rfl, rfl⟩))
    go_ret
    exact ⟨_, rfl, Took.none h (Keep.refl _ _)⟩

set_option maxHeartbeats 1000000 in
theorem new_any {v : Value} (r : Rd w v bs) (hn : bs.length ≤ 140737488351232) :
    Calls Try.prog 27 #[v] w fun x w' => ∃ p sv, x = .returned (.pointer (some ⟨p, 0, Option.none⟩)) ∧ Cu w' p sv bs 0 0 ∧ Keep No w w' ∧ w.heap.size ≤ p ∧ Since w.heap.size sv := by
  go_enter Try.func27, Try.ntmps27
  go_wp2_with (go_at_call 46; refine (sclone_any _ _ _ r hn).mono ?_; rintro x w1 ⟨v', rfl, hfr, _⟩; obtain ⟨ao, cap, rfl, hx⟩ := hfr.rd.shape; clear hx)
  go_ret
  have hap : (Value.slice ao bs.length cap).ownBlock ≠ some w1.heap.size := by
    intro hb
    obtain ⟨hl, h0⟩ := hfr.own
    rcases h0 with ⟨h0, _⟩ | ⟨g, c, cur, h0, _, hg, _⟩
    · rw [h0] at hb; simp [Value.ownBlock] at hb
    · rw [h0] at hb; simp [Value.ownBlock] at hb; subst hb; simp at hg
  refine ⟨w1.heap.size, .slice ao bs.length cap, rfl, ⟨?_, ?_, ?_, ?_, ?_, hfr.rd.keep0 ((Keep.refl _ _).alloc _), hap, fun b hb => by have := hfr.own.lt b hb; simp; omega, Nat.zero_le _, hn⟩, hfr.keep.alloc _, hfr.keep.size, hfr.since⟩
  · exact cell_new _ _ _ _
  · exact cell_new _ _ _ _
  · exact cell_new _ _ _ _
  · exact cell_new _ _ _ _
  · exact fun o => frozen_new _ _ _ _

end
end Go.Proofs.Ytpnocepepihflaa
namespace Go.Proofs.Ytpnocepepihflaa
open Go.RowKit
section
variable {W0 w w' : World} {p : Nat} {sv : Value} {bs : List UInt8} {at_ : Nat} {e : Int} {rows : List RowS} {m' : Mem}
theorem Cu.same (h : Cu w p sv bs at_ e) (hle : w.heap.size ≤ w'.heap.size) (hp : w'.heap[p]? = w.heap[p]?) (hs : ∀ b, sv.ownBlock = some b → w'.heap[b]? = w.heap[b]?) : Cu w' p sv bs at_ e where
  c0 := (World.cell?_of_block hp).trans h.c0
  c1 := (World.cell?_of_block hp).trans h.c1
  c2 := (World.cell?_of_block hp).trans h.c2
  c3 := (World.cell?_of_block hp).trans h.c3
  fz := fun o => (World.frozen?_of_block (a := ⟨p, o, none⟩) hp).trans (h.fz o)
  rd := ⟨h.rd.shape, fun i hi => by rw [← h.rd.cell i hi]; exact World.cell?_of_block (hs _ (h.rd.block_eq hi))⟩
  apart := h.apart
  under := fun b hb => Nat.lt_of_lt_of_le (h.under b hb) hle
  le := h.le
  big := h.big
theorem Pd.same (h : Pd w p sv bs) (hp : w'.heap[p]? = w.heap[p]?) (hs : ∀ b, sv.ownBlock = some b → w'.heap[b]? = w.heap[b]?) : Pd w' p sv bs where
  c0 := (World.cell?_of_block hp).trans h.c0
  c1 := (World.cell?_of_block hp).trans h.c1
  fz := fun o => (World.frozen?_of_block (a := ⟨p, o, none⟩) hp).trans (h.fz o)
  own := h.own.same hs
  apart := h.apart
/-- Through a stretch of the walk: the cutter's blocks are none of the rows. -/
theorem Cu.walk (h : Cu w p sv bs at_ e) (hr : ∀ r ∈ rows, r.own = true → r.b ≠ p ∧ sv.ownBlock ≠ some r.b) (hS : Seg ⟨rows, w.heap.size⟩ w m' w') (hW : Wst W0 m' w') : Cu w' p sv bs at_ e :=
  h.same (by have := hS.le; rw [hW.size]; exact this) (hS.same p ⟨h.lt, fun r hm ho => (hr r hm ho).1⟩) (fun b hb => hS.same b ⟨h.under b hb, fun r hm ho e => (hr r hm ho).2 (by rw [e]; exact hb)⟩)
theorem Pd.walk (h : Pd w p sv bs) (hr : ∀ r ∈ rows, r.own = true → r.b ≠ p ∧ sv.ownBlock ≠ some r.b) (hS : Seg ⟨rows, w.heap.size⟩ w m' w') : Pd w' p sv bs :=
  h.same (hS.same p ⟨h.lt, fun r hm ho => (hr r hm ho).1⟩) (fun b hb => hS.same b ⟨h.own.lt b hb, fun r hm ho e => (hr r hm ho).2 (by rw [e]; exact hb)⟩)
end
end Go.Proofs.Ytpnocepepihflaa
namespace Go.Proofs.Ytpnocepepihflaa
open Go.RowKit

/-- The number of bytes, the highest first. -/
def be (l : List UInt8) : Nat := l.foldl (fun n x => n * 256 + x.toNat) 0
theorem be_snoc (l : List UInt8) (x : UInt8) : be (l ++ [x]) = be l * 256 + x.toNat := by simp [be]
theorem be_lt_aux : ∀ (l : List UInt8) (a m : Nat), a < m → l.foldl (fun n x => n * 256 + x.toNat) a < m * 256 ^ l.length
  | [], a, m, h => by simpa using h
  | x :: l, a, m, h => by
    have hx := x.toNat_lt
    have := be_lt_aux l (a * 256 + x.toNat) (m * 256) (by omega)
    simp only [List.foldl_cons, List.length_cons, Nat.pow_succ']
    rw [← Nat.mul_assoc]; exact this
theorem be_lt (l : List UInt8) : be l < 256 ^ l.length := by simpa [be] using be_lt_aux l 0 1 (by omega)
theorem be_small {l : List UInt8} {n : Nat} (h : l.length ≤ n) : be l < 256 ^ n := Nat.lt_of_lt_of_le (be_lt l) (Nat.pow_le_pow_right (by omega) h)
theorem take_snoc {l : List UInt8} {k : Nat} (h : k < l.length) : l.take (k + 1) = l.take k ++ [byteAt l k] := by
  rw [List.take_succ_eq_append_getElem h, byteAt_eq h]

theorem or32 (A x : Nat) (hA : A < 16777216) (hx : x < 256) : bits BinOp.or IntKind.u32 ((A : Int) * 256) (x : Int) = ((A * 256 + x : Nat) : Int) := by
  have e : A * 256 + x = A * 256 ||| x := by
    have := Nat.shiftLeft_add_eq_or_of_lt (i := 8) (b := x) (by omega) A
    simpa [Nat.shiftLeft_eq] using this
  have h1 : (BitVec.ofInt 32 ((A : Int) * 256)).toNat = A * 256 := by
    rw [show (A : Int) * 256 = ((A * 256 : Nat) : Int) from rfl, BitVec.ofInt_natCast, BitVec.toNat_ofNat]; exact Nat.mod_eq_of_lt (by omega)
  have h2 : (BitVec.ofInt 32 (x : Int)).toNat = x := by
    rw [BitVec.ofInt_natCast, BitVec.toNat_ofNat]; exact Nat.mod_eq_of_lt (by omega)
  show IntKind.u32.wrap ((BitVec.ofInt 32 ((A : Int) * 256) ||| BitVec.ofInt 32 (x : Int)).toNat : Int) = _
  rw [BitVec.toNat_or, h1, h2, ← e, IntKind.wrap_u32]
  omega

end Go.Proofs.Ytpnocepepihflaa
namespace Go.Proofs.Ytpnocepepihflaa
open Go.RowKit
section
variable {w : World} {p : Nat} {sv : Value} {bs : List UInt8} {at_ : Nat} {e : Int}
set_option maxHeartbeats 1000000 in
theorem number8_any (h : Cu w p sv bs at_ e) (n : Int) (hn : n ≤ 1) :
    Calls Try.prog 49 #[.pointer (some ⟨p, 0, Option.none⟩), .int .i64 n] w fun x w' => x = .returned (.int .u8 (be (takeB bs at_ e n) : Nat)) ∧ Cu w' p sv bs (takeA bs at_ e n) (takeE bs at_ e n) ∧ Keep (One p) w w' := by
  go_enter Try.func49, Try.ntmps49
  have hlen : (takeB bs at_ e n).length ≤ 1 := by
    unfold takeB; split
    · simp; omega
    · simp
  generalize hout : takeB bs at_ e n = out at *
  have HOUT := Lib.hid hout
  clear hout
  go_wp2_with (go_at_call 41; refine (take_any h n).mono ?_; rintro x w1 ⟨v', rfl, hc, hk, hcu, hkp⟩; rw [HOUT.out] at hc; have r := hc.rd; have hl : ∀ wx, (Builtin.len_ #[22] 3 #[v']).run Try.prog wx = .ok (.int .i64 (out.length : Int)) wx := fun wx => r.run_len bt.sl)
  go_loop [5, 12] (fun s i => ∃ k : Nat, k ≤ out.length ∧ i = .int .i64 k ∧ s = .int .u32 (be (out.take k) : Nat)) (fun _ i => out.length - (intOf i).toNat)
  case atStart => exact ⟨0, Nat.zero_le _, rfl, rfl⟩
  case round =>
    obtain ⟨k, hk', rfl, rfl⟩ := hrel
    by_cases hlt : k < out.length
    · have hat : ∀ wx, (Instr.indexAt 22 v' (.int .i64 (k : Int))).run Try.prog wx = .ok (.pointer (some (adr v' k))) wx := fun wx => by
        have := r.run_at (P := Try.prog) (w' := wx) bt.sl bsize (k := .i64) (i := (k : Int)) (by omega) (by omega)
        simpa using this
      have hcell := r.cell k hlt
      have hx := byteAt_lt out k
      have hs := be_snoc (out.take k) (byteAt out k)
      rw [← take_snoc hlt] at hs
      have HS := Lib.hid hs
      have hb : be (out.take k) < 16777216 := be_small (n := 3) (by simp; omega)
      clear hs
      generalize be (out.take k) = A at *
      generalize (byteAt out k).toNat = x at *
      go_wp2
      go_round
      case rel =>
        refine ⟨k + 1, by omega, by go_num, ?_⟩
        rw [HS.out, or32 A x hb hx]
      case measure => simp [intOf]; omega
    · have hke : k = out.length := by omega
      subst hke
      rw [List.take_length]
      have hlt : be out < 256 := be_small (n := 1) hlen
      go_wp2
      go_ret
      exact ⟨rfl, hcu, hkp⟩

set_option maxHeartbeats 1000000 in
theorem byte_any (h : Cu w p sv bs at_ e) :
    Calls Try.prog 37 #[.pointer (some ⟨p, 0, Option.none⟩)] w fun x w' => x = .returned (.int .u8 (be (takeB bs at_ e 1) : Nat)) ∧ Cu w' p sv bs (takeA bs at_ e 1) (takeE bs at_ e 1) ∧ Keep (One p) w w' := by
  go_enter Try.func37, Try.ntmps37
  go_wp2_with (go_at_call 49; refine (number8_any h 1 (by omega)).mono ?_; rintro x w1 ⟨rfl, hcu, hkp⟩)
  go_ret
  exact ⟨rfl, hcu, hkp⟩
end
end Go.Proofs.Ytpnocepepihflaa
namespace Go.Proofs.Ytpnocepepihflaa
open Go.RowKit
section
variable {w : World} {p : Nat} {sv : Value} {bs : List UInt8} {at_ : Nat} {e : Int}
set_option maxHeartbeats 1000000 in
theorem rest_any (h : Cu w p sv bs at_ e) :
    Calls Try.prog 53 #[.pointer (some ⟨p, 0, Option.none⟩)] w fun x w' => ∃ v, x = .returned v ∧ Took w p sv bs (takeA bs at_ e (leftR bs at_ e)) (takeE bs at_ e (leftR bs at_ e)) (takeB bs at_ e (leftR bs at_ e)) v w' := by
  go_enter Try.func53, Try.ntmps53
  go_wp2_with (first | (go_at_call 52; refine (left_any h).mono ?_; rintro x w1 ⟨rfl, nd, rfl⟩) | (go_at_call 41; refine (take_any (h.keep0 ((Keep.refl _ _).drewN _)) _).mono ?_; rintro x w1 ⟨v', rfl, hc, hk, hcu, hkp⟩))
  go_ret
  exact ⟨v', rfl, hc, hk, hcu, ((Keep.refl _ _).drewN _).trans hkp⟩
end
end Go.Proofs.Ytpnocepepihflaa
namespace Go.Proofs.Ytpnocepepihflaa
open Go.RowKit

/-! ### rows that a region turns -/
def RowsK (S : Nat → Prop) (bs : Nat → List (Nat × List Value)) : Nat → Gh → World → Prop := fun k g w => g.priv = S ∧ ∀ q ∈ bs k, ∃ t, w.heap[q.1]? = some (.cells q.2.toArray t (0, 0))
theorem RowsK.keep {S : Nat → Prop} {bs : Nat → List (Nat × List Value)} : ∀ (k : Nat) (g : Gh) (w w' : World), Keep No w w' → RowsK S bs k g w → RowsK S bs k g w' :=
  fun _ _ _ _ kp ⟨h1, h2⟩ => ⟨h1, fun q hq => by obtain ⟨t, ht⟩ := h2 q hq; exact ⟨t, (kp.block _ (block_of_row ht) (fun f => f)).trans ht⟩⟩
section
variable {P : Program} {S : Nat → Prop} {W w0 : World} {bs : Nat → List (Nat × List Value)}
theorem early_loadR {b : Nat} {cs : List Value} {e ty : TypeId} {p : Tmp} {V : Value} (hm : (b, cs) ∈ bs 0) (l : List (Nat × Nat)) (hl : ∀ q ∈ l, q.1 = q.2)
    (hq : ∀ nx, gRun P (some 0) (Instr.loadAt e (.pointer (some ⟨b, 0, none⟩))) ⟨[⟨b, cs, false⟩], nx⟩ = some (V, ⟨[⟨b, cs, false⟩], nx⟩, l)) :
    EarlyM P S w0 (RowsK S bs) (.load e (.tmp p)) ty [(p, .is (.pointer (some ⟨b, 0, none⟩)))] (.is V) := by
  intro a o g w ho _ hk hb hd hr
  obtain ⟨hp, hrows⟩ := hd
  obtain ⟨t, hrow⟩ := hrows _ hm
  have e1 : a.tmps.getD p undef = .pointer (some ⟨b, 0, none⟩) := hr (p, .is (.pointer (some ⟨b, 0, none⟩))) (by simp)
  have hW : Wst w ⟨[⟨b, cs, false⟩], w.heap.size⟩ w := Wst.start w _ (fun r hr => by obtain rfl := List.mem_singleton.1 hr; exact ⟨rfl, t, hrow⟩) (by simp)
  obtain ⟨w', h1, h2, h3⟩ := gRun_ok hW (hq w.heap.size) hl
  have he : (execOp a.eval o).run P w = .ok (.value V) w' := by
    unfold execOp
    simp only [ho, Sem.run_bind, Sem.run_pure]
    rw [show a.eval (.tmp p) = .pointer (some ⟨b, 0, none⟩) from e1, h1]; rfl
  rw [he]
  exact ⟨h2.keep, rfl⟩
theorem act_storeR {b r : Nat} {cs0 cs1 : List Value} {e ty : TypeId} {p v : Tmp} {V : Value} (hK : ∀ w, Keep S w0 w → Keep No W w) (hb0 : W.heap.size ≤ b) (hS : S b) (hm : (b, cs0) ∈ bs r) (hn : ∀ q ∈ bs (r + 1), q = (b, cs1) ∨ (q ∈ bs r ∧ q.1 ≠ b)) (l : List (Nat × Nat)) (hl : ∀ q ∈ l, q.1 = q.2)
    (hq : ∀ nx, gRun P (some 0) (Instr.storeAt e (.pointer (some ⟨b, 0, none⟩)) V) ⟨[⟨b, cs0, true⟩], nx⟩ = some ((), ⟨[⟨b, cs1, true⟩], nx⟩, l)) :
    ActM P S w0 (RowsK S bs) r (.store e (.tmp p) (.tmp v)) ty [(p, .is (.pointer (some ⟨b, 0, none⟩))), (v, .is V)] (.is undef) := by
  intro a o g w ho _ hk hb hd hr
  obtain ⟨hp, hrows⟩ := hd
  obtain ⟨t, hrow⟩ := hrows _ hm
  have e1 : a.tmps.getD p undef = .pointer (some ⟨b, 0, none⟩) := hr (p, .is (.pointer (some ⟨b, 0, none⟩))) (by simp)
  have e2 : a.tmps.getD v undef = V := hr (v, .is V) (by simp)
  have hW : Wst W ⟨[⟨b, cs0, true⟩], w.heap.size⟩ w := ⟨rfl, fun r hr => by obtain rfl := List.mem_singleton.1 hr; exact ⟨t, hrow⟩, by simp, fun r hr _ => by obtain rfl := List.mem_singleton.1 hr; exact hb0, hK w hk⟩
  obtain ⟨w', h1, h2, h3⟩ := gRun_ok hW (hq w.heap.size) hl
  have he : (execOp a.eval o).run P w = .ok .skip w' := by
    unfold execOp
    simp only [ho, Sem.run_bind, Sem.run_pure]
    rw [show a.eval (.tmp p) = .pointer (some ⟨b, 0, none⟩) from e1, show a.eval (.tmp v) = V from e2, h1]; rfl
  rw [he]
  obtain ⟨t', ht⟩ := h2.rows _ (List.mem_singleton.2 rfl)
  have hk0 := hK w hk
  have hsame : ∀ k, k < w.heap.size → k ≠ b → w'.heap[k]? = w.heap[k]? := fun k hkl hn => h3.same k ⟨hkl, fun r hr _ => by obtain rfl := List.mem_singleton.1 hr; exact fun e => hn e.symm⟩
  refine ⟨g, ⟨⟨h2.keep.os.trans hk0.os.symm, h2.keep.tape.trans hk0.tape.symm, h2.keep.output.trans hk0.output.symm, by rw [h2.size]; exact Nat.le_refl _, fun k hkl hn => hsame k hkl fun e => hn (by rw [hp, e]; exact hS)⟩, fun k h => .inl h, fun h => ⟨h, rfl⟩⟩, ?_, ⟨hp, fun q hq => ?_⟩, rfl⟩
  · intro k h
    exact ⟨by have := (hb k h).1; rw [h2.size]; exact this, (hb k h).2⟩
  · rcases hn q hq with rfl | ⟨h, hne⟩
    · exact ⟨t', ht⟩
    · obtain ⟨t2, ht2⟩ := hrows q h
      exact ⟨t2, (hsame q.1 (block_of_row ht2) hne).trans ht2⟩
end
end Go.Proofs.Ytpnocepepihflaa
namespace Go.Proofs.Ytpnocepepihflaa
open Go.RowKit
section
variable {P : Program} {W0 : World} {n : Nat} {gt : Nat → Option Nat} {unroll : Bool}
/-- Run to the return; the rows behind it are written. -/
theorem go_retM {fn : Func} {R : Ending → World → Prop} (fuel : Nat) (hs : List (Nat × Nat × HintS)) (rs : List ResultVar) (v : Value) (rows : List RowS) (eqs : List (Value × Value)) (sems : List (Sem Value × Value)) {c : Cfg} {w : World} (hW : Wst W0 c.m w) (hr : fn.results = rs.toArray)
    (he : (((atRet P rs (run P n gt unroll hs fuel c).1).map (·.1), (run P n gt unroll hs fuel c).2.eqs, (run P n gt unroll hs fuel c).2.sems), (run P n gt unroll hs fuel c).2.blks.map (·.1), (atRet P rs (run P n gt unroll hs fuel c).1).map (·.2.map (·.1))) =
      ((some v, eqs, sems), (run P n gt unroll hs fuel c).2.blks.map (·.2), (atRet P rs (run P n gt unroll hs fuel c).1).map (·.2.map (·.2))))
    (hm : (run P n gt unroll hs fuel c).1.m.rows = rows)
    (h1 : Eqs eqs) (h2 : SemObs P c.m w sems)
    (hk : ∀ w', Wst W0 ⟨rows, w'.heap.size⟩ w' → Seg c.m w ⟨rows, w'.heap.size⟩ w' → R (.returned v) w') : Goal P (bodyPost P fn R) n c w := by
  refine go_ret fuel hs rs v eqs sems hW hr he h1 h2 fun w' hW' hS' => ?_
  have em : (run P n gt unroll hs fuel c).1.m = ⟨rows, w'.heap.size⟩ := by rw [← hm, hW'.size]
  rw [em] at hW' hS'
  exact hk w' hW' hS'
end
end Go.Proofs.Ytpnocepepihflaa
namespace Go.Proofs.Ytpnocepepihflaa
open Go.RowKit
section
variable {P : Program} {W w : World} {b off : Nat} {cs0 cs1 : List Value} {e : TypeId} {p : Tmp} {V : Value}
theorem store_step {y : Operand} {a : Act} {o : Oper} {t : TypeId} (ho : o.op = .store e (.tmp p) y) (e1 : a.tmps.getD p undef = .pointer (some ⟨b, off, none⟩)) (e2 : a.eval y = V) (hrow : w.heap[b]? = some (.cells cs0.toArray t (0, 0))) (hk0 : Keep No W w) (hb0 : W.heap.size ≤ b)
    (l : List (Nat × Nat)) (hl : ∀ q ∈ l, q.1 = q.2) (hq : ∀ nx, gRun P (some 0) (Instr.storeAt e (.pointer (some ⟨b, off, none⟩)) V) ⟨[⟨b, cs0, true⟩], nx⟩ = some ((), ⟨[⟨b, cs1, true⟩], nx⟩, l)) :
    ∃ w' t', (execOp a.eval o).run P w = .ok .skip w' ∧ Keep (One b) w w' ∧ w'.heap.size = w.heap.size ∧ w'.heap[b]? = some (.cells cs1.toArray t' (0, 0)) := by
  have hW : Wst W ⟨[⟨b, cs0, true⟩], w.heap.size⟩ w := ⟨rfl, fun r hr => by obtain rfl := List.mem_singleton.1 hr; exact ⟨t, hrow⟩, by simp, fun r hr _ => by obtain rfl := List.mem_singleton.1 hr; exact hb0, hk0⟩
  obtain ⟨w', h1, h2, h3⟩ := gRun_ok hW (hq w.heap.size) hl
  obtain ⟨t', ht⟩ := h2.rows _ (List.mem_singleton.2 rfl)
  refine ⟨w', t', ?_, ⟨h2.keep.os.trans hk0.os.symm, h2.keep.tape.trans hk0.tape.symm, h2.keep.output.trans hk0.output.symm, by rw [h2.size]; exact Nat.le_refl _, fun k hkl hn => h3.same k ⟨hkl, fun r hr _ => by obtain rfl := List.mem_singleton.1 hr; exact fun e => hn e.symm⟩⟩, h2.size, ht⟩
  unfold execOp
  simp only [ho, Sem.run_bind, Sem.run_pure]
  rw [show a.eval (.tmp p) = .pointer (some ⟨b, off, none⟩) from e1, e2, h1]; rfl
theorem load_step {a : Act} {o : Oper} {t : TypeId} (ho : o.op = .load e (.tmp p)) (e1 : a.tmps.getD p undef = .pointer (some ⟨b, off, none⟩)) (hrow : w.heap[b]? = some (.cells cs0.toArray t (0, 0)))
    (l : List (Nat × Nat)) (hl : ∀ q ∈ l, q.1 = q.2) (hq : ∀ nx, gRun P (some 0) (Instr.loadAt e (.pointer (some ⟨b, off, none⟩))) ⟨[⟨b, cs0, false⟩], nx⟩ = some (V, ⟨[⟨b, cs0, false⟩], nx⟩, l)) :
    ∃ w', (execOp a.eval o).run P w = .ok (.value V) w' ∧ Keep No w w' := by
  have hW : Wst w ⟨[⟨b, cs0, false⟩], w.heap.size⟩ w := Wst.start w _ (fun r hr => by obtain rfl := List.mem_singleton.1 hr; exact ⟨rfl, t, hrow⟩) (by simp)
  obtain ⟨w', h1, h2, h3⟩ := gRun_ok hW (hq w.heap.size) hl
  refine ⟨w', ?_, h2.keep⟩
  unfold execOp
  simp only [ho, Sem.run_bind, Sem.run_pure]
  rw [show a.eval (.tmp p) = .pointer (some ⟨b, off, none⟩) from e1, h1]; rfl
end
/-- A load ahead of the stores. -/
theorem early_loadO {P : Program} {S0 : Nat → Prop} {w0 : World} {D : Nat → Gh → World → Prop} {b off : Nat} {cs : List Value} {e ty : TypeId} {p : Tmp} {V : Value} (hD : ∀ g w, D 0 g w → ∃ t, w.heap[b]? = some (.cells cs.toArray t (0, 0))) (l : List (Nat × Nat)) (hl : ∀ q ∈ l, q.1 = q.2)
    (hq : ∀ nx, gRun P (some 0) (Instr.loadAt e (.pointer (some ⟨b, off, none⟩))) ⟨[⟨b, cs, false⟩], nx⟩ = some (V, ⟨[⟨b, cs, false⟩], nx⟩, l)) :
    EarlyM P S0 w0 D (.load e (.tmp p)) ty [(p, .is (.pointer (some ⟨b, off, none⟩)))] (.is V) := by
  intro a o g w ho _ hk hb hd hr
  obtain ⟨t, hrow⟩ := hD g w hd
  obtain ⟨w', h1, h2⟩ := load_step ho (hr (p, .is (.pointer (some ⟨b, off, none⟩))) (by simp)) hrow l hl hq
  rw [h1]
  exact ⟨h2, rfl⟩
end Go.Proofs.Ytpnocepepihflaa
namespace Go.Proofs.Ytpnocepepihflaa
open Go.RowKit

/-- The options of bytes, what stands behind them; none where they are short. -/
def optR : Nat → List UInt8 → Option (List Opt × List UInt8)
  | 0, _ => none
  | _ + 1, [] => none
  | f + 1, c :: r => if c = 0 then optR f r else if c = 255 then some ([], r) else
    match r with
    | [] => none
    | n :: r2 => if r2.length < n.toNat then none else (optR f (r2.drop n.toNat)).map fun x => ((c, r2.take n.toNat) :: x.1, x.2)
theorem allOkM_is {g : Gh} {w : World} : ∀ {vs us : List Value}, allOkM (vs.map .is) g w us → us = vs
  | [], [], _ => rfl
  | [], _ :: _, h => h.elim
  | _ :: _, [], h => h.elim
  | v :: vs, u :: us, h => by
    have h1 : u = v := h.1
    rw [h1, allOkM_is h.2]
theorem allOk1 {s : Sv} {w : World} {l : List Value} (h : allOk [s] w l) : ∃ x, l = [x] ∧ s.ok w x := by
  match l, h with
  | [x], hx => exact ⟨x, rfl, hx.1⟩
theorem allOk2 {s t : Sv} {w : World} {l : List Value} (h : allOk [s, t] w l) : ∃ x y, l = [x, y] ∧ s.ok w x ∧ t.ok w y := by
  match l, h with
  | [x, y], hx => exact ⟨x, y, rfl, hx.1, hx.2.1⟩
/-- New bytes, within a region. -/
def frB (N : Nat) (l : List UInt8) : Sm := .such (fun g w x => Rd w x l ∧ Since N x ∧ ∀ b, x.ownBlock = some b → b < w.heap.size ∧ ¬ g.priv b)
  (fun g w g' w' x k h => ⟨h.1.keep k.keep (fun b hb => (h.2.2 b hb).2), h.2.1, fun b hb => ⟨Nat.lt_of_lt_of_le (h.2.2 b hb).1 k.keep.size, fun hp => by
    rcases k.priv b hp with h1 | h1
    · exact (h.2.2 b hb).2 h1
    · have := (h.2.2 b hb).1; omega⟩⟩)
theorem frB_ok {N : Nat} {l : List UInt8} {g : Gh} {w : World} {x : Value} (h : (frB N l).ok g w x) : Rd w x l ∧ Since N x ∧ ∀ b, x.ownBlock = some b → b < w.heap.size ∧ ¬ g.priv b := h
/-- An option with new bytes. -/
def optS (N : Nat) (c : UInt8) (l : List UInt8) : Sm := .such (fun g w x => ∃ s : Sb, x = .agg ((⟨c, s, l⟩ : Oe).a false) ∧ (frB N l).ok g w s.v) (fun _ _ _ _ _ k h => by obtain ⟨s, h1, h2⟩ := h; exact ⟨s, h1, Sm.ok_tr h2 k⟩)
/-- A slice of such an option. -/
def lstS (N : Nat) (c : UInt8) (l : List UInt8) : Sm := .such (fun g w x => ∃ s : Sb, Ro false w x [⟨c, s, l⟩] ∧ (∀ b, x.ownBlock = some b → b < w.heap.size ∧ ¬ g.priv b) ∧ (frB N l).ok g w s.v)
  (fun g w g' w' x k h => by
    obtain ⟨s, h1, h2, h3⟩ := h
    exact ⟨s, h1.keep k.keep (fun b hb => (h2 b hb).2), fun b hb => ⟨Nat.lt_of_lt_of_le (h2 b hb).1 k.keep.size, fun hp => by
      rcases k.priv b hp with h1 | h1
      · exact (h2 b hb).2 h1
      · have := (h2 b hb).1; omega⟩, Sm.ok_tr h3 k⟩)
theorem by_buildO {P : Program} {S0 : Nat → Prop} {w0 : World} {N : Nat} {x y : Tmp} {t ty : TypeId} {c : UInt8} {l : List UInt8} (hq : ∀ o n k, aRun P none (Instr.build t #[(0, bv c), (1, .slice o n k)]) = some (.agg #[bv c, .slice o n k], [])) :
    ByM P S0 w0 (.build t #[(0, .tmp x), (1, .tmp y)]) ty [(x, .is (bv c)), (y, frB N l)] (optS N c l) := by
  intro a o g w ho _ _ _ hr
  have e1 : a.tmps.getD x undef = bv c := hr (x, .is (bv c)) (by simp)
  have h2 := frB_ok (hr (y, frB N l) (by simp))
  obtain ⟨ao, n, k, e2⟩ := h2.1.form
  unfold execOp
  simp only [ho, Sem.run_bind, Sem.run_pure]
  simp only [List.map_toArray, List.map_cons, List.map_nil, Act.eval, e1, e2]
  rw [aRun_none (hq ao n k)]
  rw [e2] at h2
  exact ⟨Keep.refl _ _, ⟨ao, n, k⟩, rfl, h2⟩
theorem by_listO {P : Program} {S0 : Nat → Prop} {w0 : World} {N : Nat} {x : Tmp} {t ty : TypeId} {c : UInt8} {l : List UInt8} (hq : ∀ o n k nx, gRun P none (Instr.buildSlice t 1 #[(0, .agg #[bv c, .slice o n k])]) ⟨[], nx⟩ = some (.slice (some ⟨nx, 0, none⟩) 1 1, ⟨[⟨nx, [bv c, .slice o n k], true⟩], nx + 1⟩, [])) :
    ByM P S0 w0 (.buildSlice t 1 #[(0, .tmp x)]) ty [(x, optS N c l)] (lstS N c l) := by
  intro a o g w ho _ _ hb hr
  obtain ⟨s, e1, h2⟩ : ∃ s : Sb, a.tmps.getD x undef = .agg ((⟨c, s, l⟩ : Oe).a false) ∧ (frB N l).ok g w s.v := hr (x, optS N c l) (by simp)
  obtain ⟨w', g1, g2, _⟩ := gRun_ok (Wst.start0 w) (hq s.o s.n s.c w.heap.size) (fun _ h => nomatch h)
  have hs : semNew a.eval o = some (Instr.buildSlice t 1 #[(0, .agg ((⟨c, s, l⟩ : Oe).a false))]) := by
    unfold semNew
    rw [ho]
    simp only [List.map_toArray, List.map_cons, List.map_nil, Act.eval, e1]
  rw [semNew_run hs g1]
  obtain ⟨t', ht⟩ := g2.rows ⟨w.heap.size, [bv c, .slice s.o s.n s.c], true⟩ (by simp)
  refine ⟨g2.keep, s, ?_, ?_, Sm.ok_tr h2 (Tr.quiet g2.keep)⟩
  · exact Ro.of_row (l := [⟨c, s, l⟩]) ht (by simp [csO, oc]) (by simp [maxLen])
  · intro b hb'
    obtain rfl : w.heap.size = b := Option.some.inj hb'
    exact ⟨block_of_row ht, fun hp => by have := (hb _ hp).1; omega⟩
abbrev rowM (q : Nat) (cs : Array Value) (w : World) : Prop := ∃ t, w.heap[q]? = some (.cells cs.toList.toArray t (0, 0))
theorem rowM.keep {S : Nat → Prop} {q : Nat} {cs : Array Value} {w w' : World} (h : rowM q cs w) (k : Keep S w w') (hq : ¬ S q) : rowM q cs w' := by
  obtain ⟨t, ht⟩ := h
  exact ⟨t, (k.block _ (block_of_row ht) hq).trans ht⟩
theorem rowM.keep0 {q : Nat} {cs : Array Value} {w w' : World} (h : rowM q cs w) (k : Keep No w w') : rowM q cs w' := h.keep k (fun f => f)
/-- The blocks that the region may turn. -/
def opS (p q : Nat) (u : Value) : Nat → Prop := fun k => k = q ∨ k = p ∨ u.ownBlock = some k
structure OpP where
  p : Nat
  q : Nat
  sv : Value
  bs : List UInt8
  m : Mh
  u : Value
  es : List Oe
  code : UInt8
  out : List UInt8
  a0 : Nat
  a1 : Nat
  a2 : Nat
  e1 : Int
  e2 : Int
/-- What stands apart. -/
structure OpA (X : OpP) (w : World) : Prop where
  pq : X.p ≠ X.q
  sq : X.sv.ownBlock ≠ some X.q
  uq : X.u.ownBlock ≠ some X.q
  up : X.u.ownBlock ≠ some X.p
  us : ∀ b, X.u.ownBlock = some b → X.sv.ownBlock ≠ some b
  q : X.q < w.heap.size
  p : X.p < w.heap.size
def OpD (E : TypeId) (X : OpP) (w0 : World) : Nat → Gh → World → Prop
  | 0, g, w => ¬ g.live ∧ g.priv = opS X.p X.q X.u ∧ Cu w X.p X.sv X.bs X.a0 0 ∧ rowM X.q (X.m.a X.u nilV) w ∧ Oo false E w X.u X.es
  | 1, g, w => ¬ g.live ∧ g.priv = opS X.p X.q X.u ∧ Cu w X.p X.sv X.bs X.a1 X.e1 ∧ rowM X.q (X.m.a X.u nilV) w ∧ Oo false E w X.u X.es
  | 2, g, w => ¬ g.live ∧ g.priv = opS X.p X.q X.u ∧ Cu w X.p X.sv X.bs X.a2 X.e2 ∧ rowM X.q (X.m.a X.u nilV) w ∧ Oo false E w X.u X.es
  | 3, g, w => g.live ∧ g.priv = opS X.p X.q g.val ∧ Cu w X.p X.sv X.bs X.a2 X.e2 ∧ rowM X.q (X.m.a X.u nilV) w ∧ Later w0.heap.size X.u g.val ∧ OpA { X with u := g.val } w ∧ ∃ s : Sb, Oo false E w g.val (X.es ++ [⟨X.code, s, X.out⟩]) ∧ (frB w0.heap.size X.out).ok g w s.v
  | _, g, w => ∃ z s : Sb, g.val = z.v ∧ g.priv = opS X.p X.q z.v ∧ Cu w X.p X.sv X.bs X.a2 X.e2 ∧ rowM X.q (X.m.a z.v nilV) w ∧ Later w0.heap.size X.u z.v ∧ OpA { X with u := z.v } w ∧ Oo false E w z.v (X.es ++ [⟨X.code, s, X.out⟩]) ∧ (frB w0.heap.size X.out).ok g w s.v
theorem OpA.mono {X : OpP} {w w' : World} (h : OpA X w) (k : w.heap.size ≤ w'.heap.size) : OpA X w' := ⟨h.pq, h.sq, h.uq, h.up, h.us, Nat.lt_of_lt_of_le h.q k, Nat.lt_of_lt_of_le h.p k⟩
theorem OpD.keep {E : TypeId} {X : OpP} {w0 : World} : ∀ (k : Nat) (g : Gh) (w w' : World), Keep No w w' → OpD E X w0 k g w → OpD E X w0 k g w'
  | 0, _, _, _, k, ⟨h1, h2, h3, h4, h5⟩ => ⟨h1, h2, h3.keep0 k, h4.keep0 k, h5.keep0 k⟩
  | 1, _, _, _, k, ⟨h1, h2, h3, h4, h5⟩ => ⟨h1, h2, h3.keep0 k, h4.keep0 k, h5.keep0 k⟩
  | 2, _, _, _, k, ⟨h1, h2, h3, h4, h5⟩ => ⟨h1, h2, h3.keep0 k, h4.keep0 k, h5.keep0 k⟩
  | 3, _, _, _, k, ⟨h1, h2, h3, h4, h5, h6, s, h7, h8⟩ => ⟨h1, h2, h3.keep0 k, h4.keep0 k, h5, h6.mono k.size, s, h7.keep0 k, Sm.ok_tr h8 (Tr.quiet k)⟩
  | _ + 4, _, _, _, k, ⟨z, s, h1, h2, h3, h4, h5, h6, h7, h8⟩ => ⟨z, s, h1, h2, h3.keep0 k, h4.keep0 k, h5, h6.mono k.size, h7.keep0 k, Sm.ok_tr h8 (Tr.quiet k)⟩
section
variable {w0 : World} {E : TypeId} {X : OpP}
theorem op_tr {g : Gh} {w w' : World} (h2 : g.priv = opS X.p X.q X.u) (k : Keep (One X.p) w w') (hb : Base (opS X.p X.q X.u) w0 g w) : Tr g w g w' ∧ Base (opS X.p X.q X.u) w0 g w' :=
  ⟨⟨k.mono fun i _ h => by rw [h2]; exact .inr (.inl h), fun i h => .inl h, fun h => ⟨h, rfl⟩⟩, fun i h => ⟨Nat.lt_of_lt_of_le (hb i h).1 k.size, (hb i h).2⟩⟩
theorem op_byte (A : OpA X w0) (h1 : X.a1 = takeA X.bs X.a0 0 1) (h2 : X.e1 = takeE X.bs X.a0 0 1) : LoudM Try.prog (opS X.p X.q X.u) w0 (OpD E X w0) 0 37 [.is (pT X.p)] (.is (.int .u8 (be (takeB X.bs X.a0 0 1) : Nat))) := by
  intro g w vals hk hb hd ha
  match vals, ha with
  | [x], ha =>
    obtain rfl : x = _ := ha.1
    obtain ⟨d1, d2, d3, d4, d5⟩ := hd
    refine (byte_any d3).mono ?_
    rintro y w' ⟨rfl, cu, k⟩
    obtain ⟨t1, t2⟩ := op_tr d2 k hb
    have hu : ∀ b, X.u.ownBlock = some b → ¬ One X.p b := fun b hb' e => A.up (by rw [hb', show b = X.p from e])
    exact ⟨_, g, rfl, t1, t2, ⟨d1, d2, by rw [h1, h2]; exact cu, d4.keep k (fun e => A.pq (Eq.symm e)), d5.keep k hu⟩, rfl⟩
theorem op_take (A : OpA X w0) {n : Int} (h1 : X.a2 = takeA X.bs X.a1 X.e1 n) (h2 : X.e2 = takeE X.bs X.a1 X.e1 n) (h3 : X.out = takeB X.bs X.a1 X.e1 n) : LoudM Try.prog (opS X.p X.q X.u) w0 (OpD E X w0) 1 41 [.is (pT X.p), .is (.int .i64 n)] (frB w0.heap.size X.out) := by
  intro g w vals hk hb hd ha
  match vals, ha with
  | [x, y], ha =>
    obtain rfl : x = _ := ha.1
    obtain rfl : y = _ := ha.2.1
    obtain ⟨d1, d2, d3, d4, d5⟩ := hd
    refine (take_any d3 n).mono ?_
    rintro y w' ⟨v, rfl, ho, hs, cu, k⟩
    obtain ⟨t1, t2⟩ := op_tr d2 k hb
    have hu : ∀ b, X.u.ownBlock = some b → ¬ One X.p b := fun b hb' e => A.up (by rw [hb', show b = X.p from e])
    exact ⟨_, g, rfl, t1, t2, ⟨d1, d2, by rw [h1, h2]; exact cu, d4.keep k (fun e => A.pq (Eq.symm e)), d5.keep k hu⟩, by rw [h3]; exact ho.rd, hs.mono hk.size, fun b hb' => ⟨ho.lt b hb', fun hp => by have := (hb b hp).1; have := hs b hb'; omega⟩⟩
theorem op_load {e ty : TypeId} {x : Tmp} {z : Sb} (hu : X.u = z.v) (l : List (Nat × Nat)) (hl : ∀ i ∈ l, i.1 = i.2)
    (hq : ∀ nx, gRun Try.prog (some 0) (Instr.loadAt e (.pointer (some ⟨X.q, 217, none⟩))) ⟨[⟨X.q, (X.m.a z.v nilV).toList, false⟩], nx⟩ = some (z.v, ⟨[⟨X.q, (X.m.a z.v nilV).toList, false⟩], nx⟩, l)) :
    MidM Try.prog (opS X.p X.q X.u) w0 (OpD E X w0) 2 (.load e (.tmp x)) ty [(x, .is (.pointer (some ⟨X.q, 217, none⟩)))] (.is z.v) := by
  intro a o g w k ho _ hk hb hk2 hd hr
  have hrow : rowM X.q (X.m.a X.u nilV) w := by
    match k, hk2, hd with
    | 0, _, hd => exact hd.2.2.2.1
    | 1, _, hd => exact hd.2.2.2.1
    | 2, _, hd => exact hd.2.2.2.1
  obtain ⟨t, hrow⟩ := hrow
  rw [hu] at hrow
  have e1 : a.tmps.getD x undef = .pointer (some ⟨X.q, 217, none⟩) := hr (x, .is (.pointer (some ⟨X.q, 217, none⟩))) (by simp)
  have hW : Wst w ⟨[⟨X.q, (X.m.a z.v nilV).toList, false⟩], w.heap.size⟩ w := Wst.start w _ (fun r hr => by obtain rfl := List.mem_singleton.1 hr; exact ⟨rfl, t, hrow⟩) (by simp)
  obtain ⟨w', h1, h2, h3⟩ := gRun_ok hW (hq w.heap.size) hl
  have he : (execOp a.eval o).run Try.prog w = .ok (.value z.v) w' := by
    unfold execOp
    simp only [ho, Sem.run_bind, Sem.run_pure]
    rw [show a.eval (.tmp x) = .pointer (some ⟨X.q, 217, none⟩) from e1, h1]; rfl
  rw [he]
  exact ⟨h2.keep, rfl⟩
theorem op_app {P : Program} {t e : TypeId} (T : E2 P t e) (A : OpA X w0) {x y : Tmp} (hl : X.es.length ≤ 1000000) (ty : TypeId) :
    ActM P (opS X.p X.q X.u) w0 (OpD e X w0) 2 (.call { callee := .builtin .append, args := #[.tmp x, .tmp y], argTypes := #[t, t] }) ty [(x, .is X.u), (y, lstS w0.heap.size X.code X.out)] padS := by
  intro a o g w ho hty hk hb hd hr
  obtain ⟨h1, h2, h3, h4, h5⟩ := hd
  have ex : a.tmps.getD x undef = X.u := hr (x, .is X.u) (by simp)
  obtain ⟨s, hro, hpr, hs⟩ : ∃ s : Sb, Ro false w (a.tmps.getD y undef) [⟨X.code, s, X.out⟩] ∧ (∀ b, (a.tmps.getD y undef).ownBlock = some b → b < w.heap.size ∧ ¬ g.priv b) ∧ (frB w0.heap.size X.out).ok g w s.v := hr (y, lstS w0.heap.size X.code X.out) (by simp)
  obtain ⟨v', w', hrun, ho', k', hbl⟩ := run_append_t T h5 hro (by simp; omega)
  have he : (execOp a.eval o).run P w = .ok (.value v') w' := by
    unfold execOp
    simp only [ho, resolve, invoke, builtin, Sem.run_bind, Sem.run_pure, Result.andThen_ok, List.map_toArray, List.map_cons, List.map_nil]
    rw [show a.eval (.tmp x) = X.u from ex, show a.eval (.tmp y) = a.tmps.getD y undef from rfl, hrun]
    rfl
  rw [he]
  have hks := hk.size
  have hcu := h3.under
  have nb : ∀ i, v'.ownBlock = some i → X.u.ownBlock = some i ∨ i = w.heap.size := fun i hi => by
    rcases hbl with h | h <;> rw [h] at hi
    · exact .inl hi
    · exact .inr (Option.some.inj hi).symm
  have A' : OpA { X with u := v' } w := ⟨A.pq, A.sq, fun e => by
      rcases nb _ e with h | h
      · exact A.uq h
      · have := A.q; have : X.q = w.heap.size := h; omega, fun e => by
      rcases nb _ e with h | h
      · exact A.up h
      · have := A.p; have : X.p = w.heap.size := h; omega, fun b hb' e => by
      rcases nb _ hb' with h | h
      · exact A.us b h e
      · have := hcu b e; omega, Nat.lt_of_lt_of_le A.q hks, Nat.lt_of_lt_of_le A.p hks⟩
  have hqs : ¬ (X.u.ownBlock = some X.q) := A.uq
  have htr : Tr g w ⟨True, v', opS X.p X.q v'⟩ w' := ⟨k'.mono fun i _ h => by rw [h2]; exact .inr (.inr h), fun i h => by
    rcases h with h | h | h
    · exact .inl (by rw [h2]; exact .inl h)
    · exact .inl (by rw [h2]; exact .inr (.inl h))
    · rcases nb i h with h | h
      · exact .inl (by rw [h2]; exact .inr (.inr h))
      · exact .inr (Nat.le_of_eq h.symm), fun h => absurd h h1⟩
  refine ⟨⟨True, v', opS X.p X.q v'⟩, htr, ?_, ⟨trivial, rfl, h3.keep k' A.up (fun b hb' e => A.us b e hb'), h4.keep k' A.uq, ?_, A'.mono k'.size, s, ho', Sm.ok_tr hs htr⟩, trivial, rfl⟩
  · intro i h
    rcases h with h | h | h
    · exact ⟨by rw [h]; exact Nat.lt_of_lt_of_le A.q (Nat.le_trans hks k'.size), fun _ => .inl h⟩
    · exact ⟨by rw [h]; exact Nat.lt_of_lt_of_le A.p (Nat.le_trans hks k'.size), fun _ => .inr (.inl h)⟩
    · refine ⟨ho'.lt i h, fun hlt => ?_⟩
      rcases nb i h with h | h
      · exact .inr (.inr h)
      · omega
  · rcases hbl with h | h
    · exact .inl h
    · exact .inr fun b hb' => by rw [h] at hb'; have := Option.some.inj hb'; omega
end
end Go.Proofs.Ytpnocepepihflaa
namespace Go.Proofs.Ytpnocepepihflaa
open Go.RowKit
section
variable {W w0 : World} {E : TypeId} {X : OpP}
theorem op_store {e ty : TypeId} {x y : Tmp} {z0 : Sb} (A : OpA X w0) (hu : X.u = z0.v) (hKN : ∀ w, Keep (opS X.p X.q X.u) w0 w → Keep No W w) (hq0 : W.heap.size ≤ X.q)
    (hq : ∀ z : Sb, ∀ nx, gRun Try.prog (some 0) (Instr.storeAt e (.pointer (some ⟨X.q, 217, none⟩)) z.v) ⟨[⟨X.q, (X.m.a z0.v nilV).toList, true⟩], nx⟩ = some ((), ⟨[⟨X.q, (X.m.a z.v nilV).toList, true⟩], nx⟩, [(X.q, X.q)])) :
    ActM Try.prog (opS X.p X.q X.u) w0 (OpD E X w0) 3 (.store e (.tmp x) (.tmp y)) ty [(x, .is (.pointer (some ⟨X.q, 217, none⟩))), (y, padS)] (.is undef) := by
  intro a o g w ho _ hk hb hd hr
  obtain ⟨d1, d2, d3, ⟨t, d4⟩, d5, d6, s, d7, d8⟩ := hd
  have e1 : a.tmps.getD x undef = .pointer (some ⟨X.q, 217, none⟩) := hr (x, .is (.pointer (some ⟨X.q, 217, none⟩))) (by simp)
  have e2 : a.tmps.getD y undef = g.val := (hr (y, padS) (by simp)).2
  obtain ⟨ao, cap, hv, _⟩ := d7.rt.shape
  obtain ⟨z, hz⟩ : ∃ z : Sb, g.val = z.v := ⟨⟨ao, _, cap⟩, hv⟩
  rw [hu] at d4
  obtain ⟨w', t', he, k1, hs, hrow'⟩ := store_step (W := W) (b := X.q) (off := 217) (V := z.v) ho e1 (e2.trans hz) d4 (hKN w hk) hq0 [(X.q, X.q)] (fun i hi => by obtain rfl := List.mem_singleton.1 hi; rfl) (hq z)
  rw [he]
  have htr : Tr g w g w' := ⟨k1.mono fun i _ h => by rw [d2]; exact .inl h, fun i h => .inl h, fun h => ⟨h, rfl⟩⟩
  have d6' := d6.uq
  refine ⟨g, htr, fun i h => ⟨Nat.lt_of_lt_of_le (hb i h).1 k1.size, (hb i h).2⟩, ⟨z, s, hz, by rw [d2, hz], d3.keep k1 A.pq (fun b hb' e => A.sq (by rw [hb', show b = X.q from e])), ⟨t', hrow'⟩, hz ▸ d5, hz ▸ d6.mono k1.size, hz ▸ d7.keep k1 (fun b hb' e => d6' (by show g.val.ownBlock = _; rw [hb', show b = X.q from e])), Sm.ok_tr d8 htr⟩, rfl⟩
end
end Go.Proofs.Ytpnocepepihflaa
namespace Go.Proofs.Ytpnocepepihflaa
open Go.RowKit
section
variable {P : Program} {W0 : World} {n : Nat} {gt : Nat → Option Nat} {unroll : Bool}
def atEnd (c : Cfg) : Bool := match c.todo with | [] => true | .code .ret :: _ => true | _ => false
theorem end_ok {fn : Func} {R : Ending → World → Prop} {c : Cfg} {w : World} (hr : fn.results = #[]) (h : atEnd c = true) (hR : R (.returned (.tuple #[])) w) : Goal P (bodyPost P fn R) n c w := by
  obtain ⟨fr, tags, m, todo⟩ := c
  intro a hd hn ha
  unfold atEnd at h
  have hres : ∀ tmps, (results fn tmps).run P w = .ok (.tuple #[]) w := fun tmps => by simp [results, hr]
  match todo, h with
  | [], _ => exact bodyPost_end (hres _) hd hR
  | .code .ret :: k, _ => exact wp_ret (KX_ret (bodyPost_ret (hres _) hd hR))
theorem go_end {fn : Func} {R : Ending → World → Prop} (fuel : Nat) (hs : List (Nat × Nat × HintS)) (rows : List RowS) (eqs : List (Value × Value)) (sems : List (Sem Value × Value)) {c : Cfg} {w : World} (hW : Wst W0 c.m w) (hr : fn.results = #[])
    (he : ((atEnd (run P n gt unroll hs fuel c).1, (run P n gt unroll hs fuel c).1.m.rows, (run P n gt unroll hs fuel c).2.eqs, (run P n gt unroll hs fuel c).2.sems), (run P n gt unroll hs fuel c).2.blks.map (·.1)) =
      ((true, rows, eqs, sems), (run P n gt unroll hs fuel c).2.blks.map (·.2)))
    (h1 : Eqs eqs) (h2 : SemObs P c.m w sems)
    (hk : ∀ w', Wst W0 ⟨rows, w'.heap.size⟩ w' → Seg c.m w ⟨rows, w'.heap.size⟩ w' → R (.returned (.tuple #[])) w') : Goal P (bodyPost P fn R) n c w := by
  simp only [Prod.mk.injEq] at he
  obtain ⟨⟨e1, er, e2, e3⟩, e4⟩ := he
  refine run_ok fuel hW (Seg.refl _ _) ⟨?_, all_of_maps e4, ?_⟩ fun w' hW' hS' => ?_
  · rw [e2]; exact h1.mem
  · rw [e3]; exact h2.mem
  · have em : (run P n gt unroll hs fuel c).1.m = ⟨rows, w'.heap.size⟩ := by rw [← er, hW'.size]
    rw [em] at hW' hS'
    exact end_ok hr e1 (hk w' hW' hS')
end
end Go.Proofs.Ytpnocepepihflaa
namespace Go.Proofs.Ytpnocepepihflaa
open Go.RowKit

def Oe.o (e : Oe) : Opt := (e.code, e.val)
theorem optR_cons (f : Nat) (c : UInt8) (r : List UInt8) : optR (f + 1) (c :: r) = if c = 0 then optR f r else if c = 255 then some ([], r) else
    match r with
    | [] => none
    | n :: r2 => if r2.length < n.toNat then none else (optR f (r2.drop n.toNat)).map fun x => ((c, r2.take n.toNat) :: x.1, x.2) := by
  cases r <;> rfl
theorem take_short {bs : List UInt8} {a n : Nat} (h : bs.length < a + n) (hn : 0 < n) : takeB bs a 0 (n : Int) = [] ∧ takeA bs a 0 (n : Int) = a ∧ takeE bs a 0 (n : Int) = 4 := by
  have hc : ¬ ((0 : Int) = 0 ∧ 0 ≤ (n : Int) ∧ (n : Int) ≤ (bs.length - a : Nat)) := fun h' => by have := h'.2.2; omega
  refine ⟨if_neg hc, if_neg hc, ?_⟩
  unfold takeE
  rw [if_pos rfl, if_neg (by omega), if_pos (by omega)]
theorem take_full {bs : List UInt8} {a n : Nat} (h : a + n ≤ bs.length) : takeB bs a 0 (n : Int) = (bs.drop a).take n ∧ takeA bs a 0 (n : Int) = a + n ∧ takeE bs a 0 (n : Int) = 0 := by
  have hc : ((0 : Int) = 0 ∧ 0 ≤ (n : Int) ∧ (n : Int) ≤ (bs.length - a : Nat)) := ⟨rfl, by omega, by omega⟩
  refine ⟨if_pos hc, if_pos hc, ?_⟩
  unfold takeE
  rw [if_pos rfl, if_neg (by omega), if_neg (by omega)]
theorem take_err (bs : List UInt8) (a : Nat) (n : Int) : takeB bs a 4 n = [] ∧ takeA bs a 4 n = a ∧ takeE bs a 4 n = 4 := by
  refine ⟨if_neg (fun h => by omega), if_neg (fun h => by omega), if_neg (by omega)⟩
/-- What the walk tells of the bytes. -/
def OpR (res : Option (List Opt × List UInt8)) (bs : List UInt8) (j a : Nat) (e : Int) (l : List Opt) : Prop :=
  (e = 0 ∧ bs.length - a + 1 < j ∧ a ≤ bs.length ∧ res = (optR j (bs.drop a)).map fun y => (l ++ y.1, y.2)) ∨ (e = 4 ∧ 1 ≤ j ∧ res = none)
theorem OpR.pad {res : Option (List Opt × List UInt8)} {bs : List UInt8} {j a : Nat} {l : List Opt} (h : OpR res bs (j + 1) a 0 l) (ha : a < bs.length) (h0 : byteAt bs a = 0) : OpR res bs j (a + 1) 0 l := by
  rcases h with ⟨_, h1, h2, h3⟩ | ⟨h, _⟩
  · refine .inl ⟨rfl, by omega, by omega, ?_⟩
    rw [List.drop_eq_getElem_cons ha, ← byteAt_eq ha, optR_cons, if_pos h0] at h3
    exact h3
  · omega
theorem OpR.short {res : Option (List Opt × List UInt8)} {bs : List UInt8} {j a : Nat} {l : List Opt} (h : OpR res bs (j + 1) a 0 l) (ha : bs.length ≤ a) (a' : Nat) (l' : List Opt) : OpR res bs j a' 4 l' := by
  rcases h with ⟨_, h1, h2, h3⟩ | ⟨h, _⟩
  · refine .inr ⟨rfl, by omega, ?_⟩
    rw [List.drop_of_length_le ha, optR] at h3
    exact h3
  · omega
theorem OpR.fin {res : Option (List Opt × List UInt8)} {bs : List UInt8} {j a : Nat} {l : List Opt} (h : OpR res bs (j + 1) a 0 l) (ha : a < bs.length) (h0 : byteAt bs a = 255) : res = some (l, bs.drop (a + 1)) := by
  rcases h with ⟨_, h1, h2, h3⟩ | ⟨h, _⟩
  · rw [List.drop_eq_getElem_cons ha, ← byteAt_eq ha, optR_cons, if_neg (by rw [h0]; decide), if_pos h0] at h3
    simpa using h3
  · omega
/-- The state behind one more option. -/
structure OpN (bs : List UInt8) (a : Nat) where
  nn : Nat
  out : List UInt8
  a1 : Nat
  a2 : Nat
  e1 : Int
  e2 : Int
def opN (bs : List UInt8) (a : Nat) : OpN bs a :=
  ⟨be (takeB bs (a + 1) 0 1), takeB bs (takeA bs (a + 1) 0 1) (takeE bs (a + 1) 0 1) (be (takeB bs (a + 1) 0 1) : Nat), takeA bs (a + 1) 0 1, takeA bs (takeA bs (a + 1) 0 1) (takeE bs (a + 1) 0 1) (be (takeB bs (a + 1) 0 1) : Nat), takeE bs (a + 1) 0 1, takeE bs (takeA bs (a + 1) 0 1) (takeE bs (a + 1) 0 1) (be (takeB bs (a + 1) 0 1) : Nat)⟩
theorem OpR.more {res : Option (List Opt × List UInt8)} {bs : List UInt8} {j a : Nat} {l : List Opt} (h : OpR res bs (j + 1) a 0 l) (ha : a < bs.length) (h0 : byteAt bs a ≠ 0) (h255 : byteAt bs a ≠ 255) :
    OpR res bs j (opN bs a).a2 (opN bs a).e2 (l ++ [(byteAt bs a, (opN bs a).out)]) := by
  rcases h with ⟨_, h1, h2, h3⟩ | ⟨h, _⟩
  case inr => omega
  rw [List.drop_eq_getElem_cons ha, ← byteAt_eq ha, optR_cons, if_neg h0, if_neg h255] at h3
  unfold opN
  simp only
  by_cases hr : bs.length < a + 1 + 1
  · obtain ⟨t1, t2, t3⟩ := take_short hr (by omega)
    have t1 : takeB bs (a + 1) 0 1 = [] := t1
    have t2 : takeA bs (a + 1) 0 1 = a + 1 := t2
    have t3 : takeE bs (a + 1) 0 1 = 4 := t3
    rw [t1, t2, t3]
    obtain ⟨s1, s2, s3⟩ := take_err bs (a + 1) ((be [] : Nat) : Int)
    rw [s1, s2, s3]
    rw [List.drop_of_length_le (by omega)] at h3
    exact .inr ⟨rfl, by omega, h3⟩
  · obtain ⟨t1, t2, t3⟩ := take_full (bs := bs) (a := a + 1) (n := 1) (by omega)
    have hb : (bs.drop (a + 1)).take 1 = [byteAt bs (a + 1)] := by rw [List.drop_eq_getElem_cons (by omega), byteAt_eq (by omega)]; rfl
    have t1 : takeB bs (a + 1) 0 1 = [byteAt bs (a + 1)] := t1.trans hb
    have t2 : takeA bs (a + 1) 0 1 = a + 1 + 1 := t2
    have t3 : takeE bs (a + 1) 0 1 = 0 := t3
    have hbe : be [byteAt bs (a + 1)] = (byteAt bs (a + 1)).toNat := by simp [be]
    rw [t1, t2, t3, hbe]
    rw [List.drop_eq_getElem_cons (by omega), ← byteAt_eq (by omega)] at h3
    simp only at h3
    by_cases hn : bs.length < a + 1 + 1 + (byteAt bs (a + 1)).toNat
    · rw [if_pos (by rw [List.length_drop]; omega)] at h3
      have hpos : 0 < (byteAt bs (a + 1)).toNat := by omega
      obtain ⟨s1, s2, s3⟩ := take_short hn hpos
      rw [s1, s2, s3]
      exact .inr ⟨rfl, by omega, h3⟩
    · obtain ⟨s1, s2, s3⟩ := take_full (bs := bs) (a := a + 1 + 1) (n := (byteAt bs (a + 1)).toNat) (by omega)
      rw [s1, s2, s3]
      rw [if_neg (by rw [List.length_drop]; omega), List.drop_drop] at h3
      refine .inl ⟨rfl, by omega, by omega, ?_⟩
      rw [h3, Option.map_map]
      congr 1
      funext y
      simp
/-- New bytes; new options. -/
structure NewB (N : Nat) (w : World) (v : Value) (bs : List UInt8) : Prop where
  rd : Rd w v bs
  si : Since N v
  un : Under w.heap.size v
structure NewO (N : Nat) (w : World) (v : Value) (es : List Oe) : Prop where
  ro : Ro false w v es
  si : Since N v
  un : Under w.heap.size v
  each : ∀ e ∈ es, NewB N w e.s.v e.val
noncomputable abbrev doC : Code := bodyOf Try.f42
noncomputable abbrev doN : Nat := Try.f42.ntmps
abbrev doS (p q : Nat) : Nat → Prop := fun k => k = q ∨ k = p
/-- What options leaves. -/
def doQ (W w : World) (p q : Nat) (sv : Value) (bs : List UInt8) (m : Mh) (res : Option (List Opt × List UInt8)) : Ending → World → Prop := fun x w' => x = .returned (.tuple #[]) ∧ Keep (doS p q) w w' ∧ ∃ a,
  match res with
  | none => Cu w' p sv bs a 4
  | some y => Cu w' p sv bs a 0 ∧ ∃ (z b : Sb) (es : List Oe), Wst W ⟨[⟨q, (m.a z.v b.v).toList, true⟩], w'.heap.size⟩ w' ∧ es.map Oe.o = y.1 ∧ NewO w.heap.size w' z.v es ∧ NewB w.heap.size w' b.v y.2
structure DoI where
  j : Nat
  a : Nat
  e : Int
  u : Sb
  es : List Oe
abbrev doRow (q : Nat) (m : Mh) (u : Sb) : List RowS := [⟨q, (m.a u.v nilV).toList, true⟩]
noncomputable def doL (p q : Nat) (m : Mh) (i : DoI) (w' : World) : Cfg := ⟨frOf [0, 1] [pT q, pT p], tagL [(0, 0)], ⟨doRow q m i.u, w'.heap.size⟩, atL doC 0⟩
structure DoJ (W w : World) (p q : Nat) (sv : Value) (bs : List UInt8) (m : Mh) (res : Option (List Opt × List UInt8)) (i : DoI) (w' : World) : Prop where
  W : Wst W ⟨doRow q m i.u, w'.heap.size⟩ w'
  k : Keep (doS p q) w w'
  cu : Cu w' p sv bs i.a i.e
  oo : Oo false 24 w' i.u.v i.es
  su : Since w.heap.size i.u.v
  each : ∀ x ∈ i.es, NewB w.heap.size w' x.s.v x.val ∧ ∀ b, x.s.v.ownBlock = some b → i.u.v.ownBlock ≠ some b
  rel : OpR res bs i.j i.a i.e (i.es.map Oe.o)
  len : i.es.length + i.j ≤ 1000002
noncomputable def doR (W w : World) (p q : Nat) (sv : Value) (bs : List UInt8) (m : Mh) (res : Option (List Opt × List UInt8)) (i : DoI) : Act → World → Prop := fun a' w' => ∃ k : DoI, k.j < i.j ∧ DoJ W w p q sv bs m res k w' ∧ agrees doN (doL p q m k w') a'
/-- What is carried through a round. -/
structure DoF (w : World) (p q : Nat) (sv : Value) (bs : List UInt8) (u : Sb) (es : List Oe) (a : Nat) (e : Int) (w' : World) : Prop where
  k : Keep (doS p q) w w'
  cu : Cu w' p sv bs a e
  oo : Oo false 24 w' u.v es
  su : Since w.heap.size u.v
  each : ∀ x ∈ es, NewB w.heap.size w' x.s.v x.val ∧ ∀ b, x.s.v.ownBlock = some b → u.v.ownBlock ≠ some b
section
variable {W w : World} {p q : Nat} {sv : Value} {bs : List UInt8} {m : Mh} {u : Sb} {es : List Oe} {a : Nat} {e : Int} {w1 w2 : World}
theorem DoF.pass {b : Sb} (h : DoF w p q sv bs u es a e w1) (hqw : q < w.heap.size) (hpq : p ≠ q) (hsq : sv.ownBlock ≠ some q) {z : Sb} (hW1 : Wst W ⟨[⟨q, (m.a z.v b.v).toList, true⟩], w1.heap.size⟩ w1) {rows : List RowS} (hS : Seg ⟨[⟨q, (m.a z.v b.v).toList, true⟩], w1.heap.size⟩ w1 ⟨rows, w2.heap.size⟩ w2) (hW2 : Wst W ⟨rows, w2.heap.size⟩ w2) : DoF w p q sv bs u es a e w2 := by
  have safe : ∀ {v : Value}, Since w.heap.size v → Under w1.heap.size v → ∀ b', v.ownBlock = some b' → Safe ⟨[⟨q, (m.a z.v b.v).toList, true⟩], w1.heap.size⟩ b' := fun hs hu b' hb => ⟨hu b' hb, fun r hr _ => by
    obtain rfl := List.mem_singleton.1 hr
    have := hs b' hb
    show q ≠ b'
    omega⟩
  refine ⟨h.k.trans ⟨hW2.keep.os.trans hW1.keep.os.symm, hW2.keep.tape.trans hW1.keep.tape.symm, hW2.keep.output.trans hW1.keep.output.symm, hS.le, fun k hk hn => hS.same k ⟨hk, fun r hr _ e => hn (by obtain rfl := List.mem_singleton.1 hr; exact .inl e.symm)⟩⟩, ?_, h.oo.same fun b hb => hS.same b (safe h.su h.oo.lt b hb), h.su, fun x hx => ?_⟩
  · exact h.cu.walk (fun r hr _ => by obtain rfl := List.mem_singleton.1 hr; exact ⟨fun e => hpq (Eq.symm e), hsq⟩) hS hW2
  · obtain ⟨⟨h1, h2, h3⟩, h4⟩ := h.each x hx
    exact ⟨⟨h1.safe (safe h2 h3) hS.same, h2, h3.mono hS.le⟩, h4⟩
theorem DoF.step {a2 : Nat} {e2 : Int} (h : DoF w p q sv bs u es a e w1) (hpw : p < w.heap.size) (k : Keep (One p) w1 w2) (cu : Cu w2 p sv bs a2 e2) : DoF w p q sv bs u es a2 e2 w2 := by
  have np : ∀ {v : Value}, Since w.heap.size v → ∀ b, v.ownBlock = some b → ¬ One p b := fun hs b hb e => by have := hs b hb; rw [show b = p from e] at this; omega
  exact ⟨h.k.trans (k.mono fun i _ e => .inr e), cu, h.oo.keep k (np h.su), h.su, fun x hx => by
    obtain ⟨⟨h1, h2, h3⟩, h4⟩ := h.each x hx
    exact ⟨⟨h1.keep k (np h2), h2, h3.mono k.size⟩, h4⟩⟩
end
section
variable {W w : World} {p q : Nat} {sv : Value} {bs : List UInt8} {m : Mh} {res : Option (List Opt × List UInt8)}
theorem do_round (hq : W.heap.size ≤ q) (hp : W.heap.size ≤ p) (hqw : q < w.heap.size) (hpw : p < w.heap.size) (hpq : p ≠ q) (hsq : sv.ownBlock ≠ some q) (hsw : Under w.heap.size sv) (i : DoI) (w' : World) (hJ : DoJ W w p q sv bs m res i w') (j : Nat) (hj : i.j = j + 1) :
    Goal Try.prog (bodyPost Try.prog Try.f42 (doQ W w p q sv bs m res)) doN { doL p q m i w' with todo := .code (loopOf (atL doC 0)) :: .inv (doR W w p q sv bs m res i) :: (atL doC 0).tail } w' := by
  obtain ⟨hW, k0, cu, oo, su, each, rel, len⟩ := hJ
  have F : DoF w p q sv bs i.u i.es i.a i.e w' := ⟨k0, cu, oo, su, each⟩
  clear k0 cu oo su each
  unfold doL
  rw [hj] at rel len
  simp only
  have hloose : ∀ {wx : World}, Loose W ⟨doRow q m i.u, wx.heap.size⟩ (One p) := fun k hk => ⟨by rw [show k = p from hk]; exact hp, fun r hr => by obtain rfl := List.mem_singleton.1 hr; rw [show k = p from hk]; exact fun e => hpq (Eq.symm e)⟩
  refine go_call_is (gt := fun _ => Option.none) (unroll := false) 60 [] 43 [pT p] [0, 1] [pT q, pT p] 6 (doRow q m i.u) [(0, 0)] (inR doC 0 1 (.inv (doR W w p q sv bs m res i))) [] [] hW (by kernel_rfl) trivial trivial ?_
  intro w1 hW1 hS1
  have F := F.pass (b := ⟨none, 0, 0⟩) hqw hpq hsq hW hS1 hW1
  refine (err_any F.cu).mono ?_
  rintro x w2 ⟨rfl, rfl⟩
  refine ⟨_, rfl, ?_⟩
  rcases id rel with ⟨he, hlt, hle, _⟩ | ⟨he, _, hres⟩
  case inr =>
    rw [he] at F ⊢
    refine go_end (gt := fun _ => Option.none) (unroll := false) 60 [] (doRow q m i.u) [] [] hW1 Try.results42 (by kernel_rfl) trivial trivial ?_
    intro w9 hW9 hS9
    have F9 := F.pass (b := ⟨none, 0, 0⟩) hqw hpq hsq hW1 hS9 hW9
    exact ⟨rfl, F9.k, i.a, by rw [hres]; exact F9.cu⟩
  rw [he] at F rel ⊢
  have fin : ∀ (a2 : Nat) (e2 : Int) (u : Sb) (es : List Oe) (w5 : World) (act : Act), Wst W ⟨doRow q m u, w5.heap.size⟩ w5 → DoF w p q sv bs u es a2 e2 w5 → OpR res bs j a2 e2 (es.map Oe.o) → es.length + j ≤ 1000002 →
      Slots doN [0, 1] [pT q, pT p] act → doR W w p q sv bs m res i act w5 := by
    intro a2 e2 u es w5 act hW5 F5 hrel hlen hs
    exact ⟨⟨j, a2, e2, u, es⟩, by rw [hj]; exact Nat.lt_succ_self j, ⟨hW5, F5.k, F5.cu, F5.oo, F5.su, F5.each, hrel, hlen⟩, hs⟩
  refine go_call_is (gt := fun _ => Option.none) (unroll := false) 60 [] 37 [pT p] [0, 1] [pT q, pT p] 9 (doRow q m i.u) [(0, 0)] (inR doC 1 1 (.inv (doR W w p q sv bs m res i))) [] [] hW1 (by kernel_rfl) trivial trivial ?_
  intro w3 hW3 hS3
  have F := F.pass (b := ⟨none, 0, 0⟩) hqw hpq hsq hW1 hS3 hW3
  refine (byte_any F.cu).mono ?_
  rintro x w4 ⟨rfl, cu4, k4⟩
  refine ⟨_, rfl, ?_⟩
  have F := F.step hpw k4 cu4
  have hW4 := hW3.laterS k4 hloose
  clear cu4
  by_cases ha : bs.length ≤ i.a
  · obtain ⟨t1, t2, t3⟩ := take_short (bs := bs) (a := i.a) (n := 1) (by omega) (by omega)
    rw [show takeA bs i.a 0 1 = i.a from t2, show takeE bs i.a 0 1 = 4 from t3] at F
    rw [show takeB bs i.a 0 1 = [] from t1]
    refine go_inv (gt := fun _ => Option.none) (unroll := false) 60 [] [0, 1] [pT q, pT p] (doRow q m i.u) (doR W w p q sv bs m res i) [] [] hW4 (by kernel_rfl) trivial trivial ?_
    intro w5 act hW5 hS5 hs
    exact fin _ _ i.u i.es w5 act hW5 (F.pass (b := ⟨none, 0, 0⟩) hqw hpq hsq hW4 hS5 hW5) (rel.short ha _ _) (by omega) hs
  have ha : i.a < bs.length := by omega
  obtain ⟨t1, t2, t3⟩ := take_full (bs := bs) (a := i.a) (n := 1) (by omega)
  have hb : (bs.drop i.a).take 1 = [byteAt bs i.a] := by rw [List.drop_eq_getElem_cons (by omega), byteAt_eq (by omega)]; rfl
  rw [show takeA bs i.a 0 1 = i.a + 1 from t2, show takeE bs i.a 0 1 = 0 from t3] at F
  rw [show takeB bs i.a 0 1 = [byteAt bs i.a] from t1.trans hb, show be [byteAt bs i.a] = (byteAt bs i.a).toNat by simp [be]]
  by_cases hc0 : byteAt bs i.a = 0
  · rw [hc0]
    refine go_inv (gt := fun _ => Option.none) (unroll := false) 60 [] [0, 1] [pT q, pT p] (doRow q m i.u) (doR W w p q sv bs m res i) [] [] hW4 (by kernel_rfl) trivial trivial ?_
    intro w5 act hW5 hS5 hs
    exact fin _ _ i.u i.es w5 act hW5 (F.pass (b := ⟨none, 0, 0⟩) hqw hpq hsq hW4 hS5 hW5) (rel.pad ha hc0) (by omega) hs
  by_cases hc255 : byteAt bs i.a = 255
  · have hfin := rel.fin ha hc255
    rw [hc255]
    refine go_call_is (gt := fun _ => Option.none) (unroll := false) 60 [] 53 [pT p] [31] [pT q] 33 (doRow q m i.u) [(31, 0)] (inR doC 6 2 (.inv (doR W w p q sv bs m res i))) [] [] hW4 (by kernel_rfl) trivial trivial ?_
    intro w5 hW5 hS5
    have F := F.pass (b := ⟨none, 0, 0⟩) hqw hpq hsq hW4 hS5 hW5
    have h5s := F.k.size
    refine (rest_any F.cu).mono ?_
    rintro x w6 ⟨v, rfl, ho, hs, cu6, k6⟩
    refine ⟨_, rfl, ?_⟩
    have hl : (leftR bs (i.a + 1) 0 : Int) = ((bs.length - (i.a + 1) : Nat) : Int) := by unfold leftR; rw [if_pos rfl]
    obtain ⟨r1, r2, r3⟩ := take_full (bs := bs) (a := i.a + 1) (n := bs.length - (i.a + 1)) (by omega)
    rw [hl, r1, List.take_of_length_le (by simp)] at ho
    rw [hl, r2, r3] at cu6
    have F := F.step hpw k6 cu6
    have hW6 := hW5.laterS k6 hloose
    have hss : Since w.heap.size v := hs.mono h5s
    obtain ⟨bo, bn', bc, rfl⟩ := ho.rd.form
    refine go_end (gt := fun _ => Option.none) (unroll := false) 60 [] [⟨q, (m.a i.u.v (.slice bo bn' bc)).toList, true⟩] [] [] hW6 Try.results42 (by kernel_rfl) trivial trivial ?_
    intro w9 hW9 hS9
    have F9 := F.pass (b := ⟨none, 0, 0⟩) hqw hpq hsq hW6 hS9 hW9
    refine ⟨rfl, F9.k, i.a + 1 + (bs.length - (i.a + 1)), ?_⟩
    rw [hfin]
    refine ⟨F9.cu, i.u, ⟨bo, bn', bc⟩, i.es, hW9, rfl, ⟨F9.oo.rt, F9.su, F9.oo.lt, fun x hx => (F9.each x hx).1⟩, ⟨?_, hss, ho.lt.mono hS9.le⟩⟩
    exact ho.rd.safe (m := ⟨doRow q m i.u, w6.heap.size⟩) (fun b hb => ⟨ho.lt b hb, fun r hr _ => by
      obtain rfl := List.mem_singleton.1 hr
      have := hss b hb
      show q ≠ b
      omega⟩) hS9.same
  have hmore := rel.more ha hc0 hc255
  have hc0' : ((byteAt bs i.a).toNat : Int) ≠ 0 := fun e => hc0 (UInt8.toNat_inj.1 (show (byteAt bs i.a).toNat = 0 by omega))
  have hc255' : ((byteAt bs i.a).toNat : Int) ≠ 255 := fun e => hc255 (UInt8.toNat_inj.1 (show (byteAt bs i.a).toNat = 255 by omega))
  refine go_stop (gt := fun _ => Option.none) (unroll := false) 60 [(4, 0, .is (.bool false)), (5, 0, .is (.bool false))] [0, 1, 4] [pT q, pT p, bv (byteAt bs i.a)] (doRow q m i.u) [(0, 0)] (atR doC 3 (.inv (doR W w p q sv bs m res i))) [(.bool (((byteAt bs i.a).toNat : Int) == 0), .bool false), (.bool (((byteAt bs i.a).toNat : Int) == 255), .bool false)] [] hW4 (by kernel_rfl) ⟨congrArg Value.bool (beq_eq_false_iff_ne.2 hc0'), congrArg Value.bool (beq_eq_false_iff_ne.2 hc255'), trivial⟩ trivial ?_
  intro w5 hW5 hS5
  have F := F.pass (b := ⟨none, 0, 0⟩) hqw hpq hsq hW4 hS5 hW5
  generalize hN : opN bs i.a = N at hmore
  have n1 : N.nn = be (takeB bs (i.a + 1) 0 1) := by rw [← hN]; rfl
  have n2 : N.a1 = takeA bs (i.a + 1) 0 1 := by rw [← hN]; rfl
  have n3 : N.e1 = takeE bs (i.a + 1) 0 1 := by rw [← hN]; rfl
  have n4 : N.out = takeB bs N.a1 N.e1 (N.nn : Int) := by rw [← hN]; rfl
  have n5 : N.a2 = takeA bs N.a1 N.e1 (N.nn : Int) := by rw [← hN]; rfl
  have n6 : N.e2 = takeE bs N.a1 N.e1 (N.nn : Int) := by rw [← hN]; rfl
  have nl : N.nn < 256 := by
    rw [n1]
    have := be_small (l := takeB bs (i.a + 1) 0 1) (n := 1) (by unfold takeB; split <;> simp <;> omega)
    omega
  clear hN
  have hw5 := F.k.size
  have hqu : ∀ b, i.u.v.ownBlock = some b → b ≠ q ∧ b ≠ p ∧ sv.ownBlock ≠ some b := fun b hb => by
    have := F.su b hb
    exact ⟨by omega, by omega, fun e => by have := hsw b e; omega⟩
  have A : OpA (⟨p, q, sv, bs, m, i.u.v, i.es, byteAt bs i.a, N.out, i.a + 1, N.a1, N.a2, N.e1, N.e2⟩ : OpP) w5 := ⟨hpq, hsq, fun e => (hqu _ e).1 rfl, fun e => (hqu _ e).2.1 rfl, fun b hb => (hqu b hb).2.2, by show q < _; omega, by show p < _; omega⟩
  have hKN : ∀ wx, Keep (opS p q i.u.v) w5 wx → Keep No W wx := fun wx k => hW5.keep.trans' k (fun b hb h => by
    rcases h with h | h | h
    · omega
    · omega
    · have := F.su b h; have := hW5.keep.size; have : W.heap.size ≤ w.heap.size := by omega
      omega)
  have hW5' : Wst W ⟨[], w5.heap.size⟩ w5 := hW5.fewer (rows := [])
  have hL5 : ∀ {wx : World}, Loose W ⟨[], wx.heap.size⟩ (opS p q i.u.v) := fun k hk => ⟨by
    rcases hk with h | h | h
    · omega
    · omega
    · have := F.su k h; omega, fun _ h => nomatch h⟩
  have hrow5 : rowM q (m.a i.u.v nilV) w5 := hW5.rows ⟨q, (m.a i.u.v nilV).toList, true⟩ (by simp)
  refine Goal.re (tags := tagL []) (m := ⟨[], w5.heap.size⟩) ?_
  refine drawnM_ok (S0 := (opS p q i.u.v)) (gt := fun _ => Option.none) (D := (OpD 24 (⟨p, q, sv, bs, m, i.u.v, i.es, byteAt bs i.a, N.out, i.a + 1, N.a1, N.a2, N.e1, N.e2⟩ : OpP) w5)) (g0 := ⟨False, undef, (opS p q i.u.v)⟩)
    [(4, .mid 2 (.is i.u.v)), (8, .loud (.is (.int .u8 (N.nn : Nat)))), (9, .is (.int .i64 (N.nn : Nat))), (10, .loud (frB w5.heap.size N.out)), (11, .by (optS w5.heap.size (byteAt bs i.a) N.out)), (12, .by (lstS w5.heap.size (byteAt bs i.a) N.out)), (13, .act padS), (16, .act (.is undef))] [0, 1] [.is (pT q), .is (pT p)]
    (True ∧ True ∧ True ∧ True ∧ MidM Try.prog (opS p q i.u.v) w5 (OpD 24 (⟨p, q, sv, bs, m, i.u.v, i.es, byteAt bs i.a, N.out, i.a + 1, N.a1, N.a2, N.e1, N.e2⟩ : OpP) w5) 2 (.load 25 (.tmp 14)) 25 [(14, .is (.pointer (some ⟨q, 217, none⟩)))] (.is i.u.v) ∧ True ∧ True ∧ True ∧
      LoudM Try.prog (opS p q i.u.v) w5 (OpD 24 (⟨p, q, sv, bs, m, i.u.v, i.es, byteAt bs i.a, N.out, i.a + 1, N.a1, N.a2, N.e1, N.e2⟩ : OpP) w5) 0 37 [.is (pT p)] (.is (.int .u8 (N.nn : Nat))) ∧ Value.int .i64 (IntKind.i64.wrap (N.nn : Nat)) = (.int .i64 (N.nn : Nat)) ∧
      LoudM Try.prog (opS p q i.u.v) w5 (OpD 24 (⟨p, q, sv, bs, m, i.u.v, i.es, byteAt bs i.a, N.out, i.a + 1, N.a1, N.a2, N.e1, N.e2⟩ : OpP) w5) 1 41 [.is (pT p), .is (.int .i64 (N.nn : Nat))] (frB w5.heap.size N.out) ∧
      ByM Try.prog (opS p q i.u.v) w5 (.build 24 #[(0, .tmp 16), (1, .tmp 21)]) 24 [(16, .is (bv (byteAt bs i.a))), (21, frB w5.heap.size N.out)] (optS w5.heap.size (byteAt bs i.a) N.out) ∧
      ByM Try.prog (opS p q i.u.v) w5 (.buildSlice 25 1 #[(0, .tmp 22)]) 25 [(22, (optS w5.heap.size (byteAt bs i.a) N.out))] (lstS w5.heap.size (byteAt bs i.a) N.out) ∧
      ActM Try.prog (opS p q i.u.v) w5 (OpD 24 (⟨p, q, sv, bs, m, i.u.v, i.es, byteAt bs i.a, N.out, i.a + 1, N.a1, N.a2, N.e1, N.e2⟩ : OpP) w5) 2 (.call { callee := .builtin .append, args := #[.tmp 15, .tmp 23], argTypes := #[25, 25] }) 25 [(15, .is i.u.v), (23, (lstS w5.heap.size (byteAt bs i.a) N.out))] padS ∧ True ∧ True ∧
      ActM Try.prog (opS p q i.u.v) w5 (OpD 24 (⟨p, q, sv, bs, m, i.u.v, i.es, byteAt bs i.a, N.out, i.a + 1, N.a1, N.a2, N.e1, N.e2⟩ : OpP) w5) 3 (.store 25 (.tmp 26) (.tmp 24)) 0 [(26, .is (.pointer (some ⟨q, 217, none⟩))), (24, padS)] (.is undef) ∧ True)
    4 (afterR doC 3 (.inv (doR W w p q sv bs m res i))) hW5' hL5 (by kernel_rfl) (by kernel_rfl) (by kernel_rfl) OpD.keep
    (fun k hk => ⟨by
      rcases hk with h | h | h
      · rw [h]; exact A.q
      · rw [h]; exact A.p
      · exact F.oo.lt k h, fun _ => hk⟩) ⟨fun h => h, rfl, F.cu, hrow5, F.oo⟩
    ⟨trivial, trivial, trivial, trivial, op_load (X := (⟨p, q, sv, bs, m, i.u.v, i.es, byteAt bs i.a, N.out, i.a + 1, N.a1, N.a2, N.e1, N.e2⟩ : OpP)) (z := i.u) rfl [(q, q)] (fun k hk => by obtain rfl := List.mem_singleton.1 hk; rfl) (fun nx => by kernel_rfl), trivial, trivial, trivial,
      n1 ▸ op_byte A n2 n3, congrArg (Value.int .i64) (i64_small (by omega) (by omega)), op_take A n5 n6 n4, by_buildO (fun o n k => by kernel_rfl), by_listO (fun o n k nx => by kernel_rfl), op_app E2o A (by show i.es.length ≤ 1000000; omega) _, trivial, trivial,
      op_store (z0 := i.u) A rfl hKN hq (fun z nx => by kernel_rfl), trivial⟩ ?_
  intro g w6 vs k6 _ hd hok
  obtain rfl := allOkM_is (vs := [pT q, pT p]) hok
  obtain ⟨z, s, hz, hpriv, cu6, ⟨t6, hrow6⟩, hla, A6, oo6, fr6⟩ := hd
  have hW6 : Wst W ⟨doRow q m z, w6.heap.size⟩ w6 := (hW5'.laterS k6 hL5).addRow hrow6 hq (fun _ h => nomatch h)
  have hzs : Since w.heap.size z.v := by
    rcases hla with h | h
    · exact fun b hb => F.su b (h ▸ hb)
    · exact h.mono hw5
  obtain ⟨fr1, fr2, fr3⟩ := frB_ok fr6
  rw [hpriv] at fr3
  have F6 : DoF w p q sv bs z (i.es ++ [⟨byteAt bs i.a, s, N.out⟩]) N.a2 N.e2 w6 := by
    refine ⟨F.k.trans' k6 (fun k hk h => ?_), cu6, oo6, hzs, fun x hx => ?_⟩
    · rcases h with h | h | h
      · exact .inl h
      · exact .inr h
      · have := F.su k h; omega
    · rcases List.mem_append.1 hx with hx | hx
      · obtain ⟨⟨h1, h2, h3⟩, h4⟩ := F.each x hx
        refine ⟨⟨h1.keep k6 (fun b hb e => ?_), h2, h3.mono k6.size⟩, fun b hb e => ?_⟩
        · have := h2 b hb
          rcases e with e | e | e
          · omega
          · omega
          · exact h4 b hb e
        · rcases hla with h | h
          · exact h4 b hb (h ▸ e)
          · have := h b e; have := h3 b hb; omega
      · obtain rfl := List.mem_singleton.1 hx
        exact ⟨⟨fr1, fr2.mono hw5, fun b hb => (fr3 b hb).1⟩, fun b hb e => (fr3 b hb).2 (.inr (.inr e))⟩
  refine Goal.re (tags := tagL [(0, 0)]) (m := ⟨doRow q m z, w6.heap.size⟩) ?_
  refine go_inv (gt := fun _ => Option.none) (unroll := false) 60 [] [0, 1] [pT q, pT p] (doRow q m z) (doR W w p q sv bs m res i) [] [] hW6 (by kernel_rfl) trivial trivial ?_
  intro w7 act hW7 hS7 hs7
  exact fin _ _ z _ w7 act hW7 (F6.pass (b := ⟨none, 0, 0⟩) hqw hpq hsq hW6 hS7 hW7) (by rw [List.map_append]; exact hmore) (by rw [List.length_append]; show i.es.length + 1 + j ≤ _; omega) hs7
theorem options_any (hq : W.heap.size ≤ q) (hp : W.heap.size ≤ p) (hpq : p ≠ q) (hsq : sv.ownBlock ≠ some q) (hbl : bs.length ≤ 1000000) {a : Nat} (hW : Wst W ⟨doRow q m ⟨none, 0, 0⟩, w.heap.size⟩ w) (cu : Cu w p sv bs a 0) :
    Calls Try.prog 42 #[pT q, pT p] w (doQ W w p q sv bs m (optR (bs.length - a + 2) (bs.drop a))) := by
  have hqw : q < w.heap.size := by obtain ⟨t, ht⟩ := hW.rows ⟨q, (m.a nilV nilV).toList, true⟩ (by simp); exact block_of_row ht
  refine enter (args := [pT q, pT p]) Try.func42 (by kernel_rfl) ?_
  refine Goal.re (tags := tagL [(0, 0)]) (m := ⟨doRow q m ⟨none, 0, 0⟩, w.heap.size⟩) ?_
  refine go_stop (gt := fun _ => Option.none) (unroll := false) 60 [(0, 0, .stop)] [0, 1] [pT q, pT p] (doRow q m ⟨none, 0, 0⟩) [(0, 0)] (atL doC 0) [] [] hW (by kernel_rfl) trivial trivial ?_
  intro w1 hW1 hS1
  have F : DoF w p q sv bs ⟨none, 0, 0⟩ [] a 0 w := ⟨Keep.refl _ _, cu, Oo.nil _ _, nilV_since _, fun x hx => nomatch hx⟩
  have F := F.pass (b := ⟨none, 0, 0⟩) hqw hpq hsq hW hS1 hW1
  refine loop_okT (P := Try.prog) (Q := bodyPost Try.prog Try.f42 (doQ W w p q sv bs m (optR (bs.length - a + 2) (bs.drop a)))) (n := doN) (x := loopOf (atL doC 0)) (k := (atL doC 0).tail) (fun i : DoI => i.j) (doL p q m) (DoJ W w p q sv bs m (optR (bs.length - a + 2) (bs.drop a))) (fun _ _ => by kernel_rfl) ?_ ⟨bs.length - a + 2, a, 0, ⟨none, 0, 0⟩, []⟩ w1
    ⟨hW1, F.k, F.cu, F.oo, F.su, F.each, .inl ⟨rfl, Nat.lt_succ_self _, cu.le, ?_⟩, by show 0 + (bs.length - a + 2) ≤ _; omega⟩
  · intro i w' hJ
    rcases Nat.eq_zero_or_pos i.j with hi | hi
    case inr =>
      obtain ⟨j, hj⟩ := Nat.exists_eq_succ_of_ne_zero (Nat.ne_of_gt hi)
      exact do_round hq hp hqw cu.lt hpq hsq cu.under i w' hJ j hj
    case inl =>
      rcases hJ.rel with ⟨_, h, _⟩ | ⟨_, h, _⟩ <;> omega
  · show _ = (optR _ _).map fun y => ([] ++ y.1, y.2)
    simp
end
end Go.Proofs.Ytpnocepepihflaa
namespace Go.Proofs.Ytpnocepepihflaa
open Go.RowKit

theorem bvs_lit {l : List UInt8} {n : Nat} (h : l.length = n) : bvs l = (List.range n).map fun i => bv (byteAt l i) := by
  apply List.ext_getElem?
  intro i
  by_cases hi : i < l.length
  · rw [bvs_get hi, List.getElem?_map, List.getElem?_range (by omega)]
    rfl
  · rw [List.getElem?_eq_none (by rw [bvs_length]; omega), List.getElem?_eq_none (by simp; omega)]
/-- Within the region. -/
structure GcP where
  p : Nat
  q : Nat
  sv : Value
  bs : List UInt8
  a0 : Nat
  n : Nat
  off : Nat
  c0 : Array Value
  c1 : Array Value
def gcS (X : GcP) : Nat → Prop := fun k => k = X.q ∨ k = X.p
def GcD (X : GcP) : Nat → Gh → World → Prop
  | 0, g, w => g.priv = gcS X ∧ Cu w X.p X.sv X.bs X.a0 0 ∧ rowM X.q X.c0 w
  | 1, g, w => g.priv = gcS X ∧ Cu w X.p X.sv X.bs (X.a0 + X.n) 0 ∧ rowM X.q X.c0 w
  | _, g, w => g.priv = gcS X ∧ Cu w X.p X.sv X.bs (X.a0 + X.n) 0 ∧ rowM X.q X.c1 w
theorem GcD.keep {X : GcP} : ∀ (k : Nat) (g : Gh) (w w' : World), Keep No w w' → GcD X k g w → GcD X k g w'
  | 0, _, _, _, k, ⟨h1, h2, h3⟩ => ⟨h1, h2.keep0 k, h3.keep0 k⟩
  | 1, _, _, _, k, ⟨h1, h2, h3⟩ => ⟨h1, h2.keep0 k, h3.keep0 k⟩
  | _ + 2, _, _, _, k, ⟨h1, h2, h3⟩ => ⟨h1, h2.keep0 k, h3.keep0 k⟩
section
variable {w0 : World} {X : GcP}
theorem gc_tr {b : Nat} {g : Gh} {w w' : World} (h2 : g.priv = gcS X) (hb2 : gcS X b) (k : Keep (One b) w w') (hb : Base (gcS X) w0 g w) : Tr g w g w' ∧ Base (gcS X) w0 g w' :=
  ⟨⟨k.mono fun i _ h => by rw [h2, show i = b from h]; exact hb2, fun i h => .inl h, fun h => ⟨h, rfl⟩⟩, fun i h => ⟨Nat.lt_of_lt_of_le (hb i h).1 k.size, (hb i h).2⟩⟩
theorem gc_take (hpq : X.p ≠ X.q) (hn : X.a0 + X.n ≤ X.bs.length) : LoudM Try.prog (gcS X) w0 (GcD X) 0 41 [.is (pT X.p), .is (.int .i64 (X.n : Int))] (frB w0.heap.size ((X.bs.drop X.a0).take X.n)) := by
  intro g w vals hk hb hd ha
  match vals, ha with
  | [x, y], ha =>
    obtain rfl : x = _ := ha.1
    obtain rfl : y = _ := ha.2.1
    obtain ⟨d1, d2, d3⟩ := hd
    obtain ⟨s1, s2, s3⟩ := take_full hn
    refine (take_any d2 (X.n : Int)).mono ?_
    rintro y w' ⟨v, rfl, ho, hs, cu, k⟩
    rw [s2, s3] at cu
    rw [s1] at ho
    obtain ⟨t1, t2⟩ := gc_tr d1 (.inr rfl) k hb
    exact ⟨_, g, rfl, t1, t2, ⟨d1, cu, d3.keep k (fun e => hpq (Eq.symm e))⟩, ho.rd, hs.mono hk.size, fun b hb' => ⟨ho.lt b hb', fun hp => by have := (hb b hp).1; have := hs b hb'; omega⟩⟩
theorem gc_copy {y : Tmp} {x : Tmp} {ty : TypeId} {t e : TypeId} (T : BT Try.prog t e) (hpq : X.p ≠ X.q) (hsq : X.sv.ownBlock ≠ some X.q) (hn : X.a0 + X.n ≤ X.bs.length) (hsz : X.off + X.n ≤ X.c0.size)
    (hc : (X.c0.toList.take X.off ++ ((List.range X.n).map fun i => bv (byteAt ((X.bs.drop X.a0).take X.n) i)) ++ X.c0.toList.drop (X.off + X.n)) = X.c1.toList) :
    ActM Try.prog (gcS X) w0 (GcD X) 1 (.call { callee := .builtin .copy, args := #[.tmp x, .tmp y], argTypes := #[t, t] }) ty [(x, .is (.slice (some ⟨X.q, X.off, none⟩) X.n X.n)), (y, frB w0.heap.size ((X.bs.drop X.a0).take X.n))] (.is (.int .i64 (X.n : Int))) := by
  intro a o g w ho hty hk hb hd hr
  obtain ⟨d1, d2, ⟨tt, d3⟩⟩ := hd
  have ex : a.tmps.getD x undef = .slice (some ⟨X.q, X.off, none⟩) X.n X.n := hr (x, .is (.slice (some ⟨X.q, X.off, none⟩) X.n X.n)) (by simp)
  obtain ⟨ry, _, _⟩ := frB_ok (hr (y, frB w0.heap.size ((X.bs.drop X.a0).take X.n)) (by simp))
  have hl : ((X.bs.drop X.a0).take X.n).length = X.n := by simp; omega
  have hrun := run_copy_b (P := Try.prog) (w := w) T o.type (dl := X.n) (dc := X.n) (o := X.off) d3 ry (by omega) (by simp; omega)
  rw [bvs_lit hl, hl] at hrun
  simp only at hrun
  rw [hc] at hrun
  have he : (execOp a.eval o).run Try.prog w = .ok (.value (.int .i64 (X.n : Int))) (w.setRow X.q X.c1.toList.toArray) := by
    unfold execOp
    simp only [ho, resolve, invoke, builtin, Sem.run_bind, Sem.run_pure, Result.andThen_ok, List.map_toArray, List.map_cons, List.map_nil]
    rw [show a.eval (.tmp x) = _ from ex, show a.eval (.tmp y) = a.tmps.getD y undef from rfl, hrun]
    rfl
  rw [he]
  have k1 : Keep (One X.q) w (w.setRow X.q X.c1.toList.toArray) := Keep.setRow _ _
  obtain ⟨t1, t2⟩ := gc_tr (X := X) d1 (.inl rfl) k1 hb
  exact ⟨g, t1, t2, ⟨d1, d2.keep k1 hpq (fun b hb' e => hsq (by rw [hb', show b = X.q from e])), tt, setRow_heap w X.q _ X.c1.toList.toArray _ _ d3⟩, rfl⟩
end
end Go.Proofs.Ytpnocepepihflaa
namespace Go.Proofs.Ytpnocepepihflaa
open Go.RowKit

/-- Does an option bear the code? -/
def hitE (c : UInt8) (e : Oe) : Bool := e.code == c && (c != 0 && c != 255)
def valE (c : UInt8) (l : List Oe) : List UInt8 := (l.filter (hitE c)).flatMap (·.val)
def isE (c : UInt8) (l : List Oe) : Bool := l.any (hitE c)
theorem valE_append (c : UInt8) (l m : List Oe) : valE c (l ++ m) = valE c l ++ valE c m := by simp [valE]
theorem valE_one (c : UInt8) (e : Oe) : valE c [e] = if hitE c e then e.val else [] := by
  unfold valE
  cases h : hitE c e <;> simp [h]
theorem isE_append (c : UInt8) (l m : List Oe) : isE c (l ++ m) = (isE c l || isE c m) := by simp [isE]
theorem isE_one (c : UInt8) (e : Oe) : isE c [e] = hitE c e := by simp [isE]
theorem valE_take (c : UInt8) (l : List Oe) (k : Nat) : (valE c (l.take k)).length ≤ (valE c l).length := by
  have h : (valE c l) = valE c (l.take k) ++ valE c (l.drop k) := by rw [← valE_append, List.take_append_drop]
  rw [h, List.length_append]
  omega
theorem i8_eq (a b : UInt8) : (((a.toNat : Nat) : Int) == ((b.toNat : Nat) : Int)) = (a == b) := by
  rw [Bool.eq_iff_iff, beq_iff_eq, beq_iff_eq]
  constructor
  · intro h
    exact UInt8.toNat_inj.1 (by omega)
  · rintro rfl
    rfl
theorem i8_ne (a b : UInt8) : (((a.toNat : Nat) : Int) != ((b.toNat : Nat) : Int)) = (a != b) := congrArg not (i8_eq a b)
noncomputable abbrev dvC : Code := bodyOf Try.f7
noncomputable abbrev dvN : Nat := Try.f7.ntmps
abbrev dvQ (w : World) (bs : List UInt8) (b : Bool) : Ending → World → Prop := fun x w' => ∃ v, x = .returned (.tuple #[v, .bool b]) ∧ Rd w' v bs ∧ Keep No w w' ∧ Since w.heap.size v ∧ Under w'.heap.size v
structure DvI where
  j : Nat
  u : Value
noncomputable def dvL (c : UInt8) (so : Sb) (l : List Oe) (i : DvI) (w' : World) : Cfg := ⟨frOf [1, 6, 7, 11, 12, 13] [bv c, i.u, .bool (isE c (l.take (l.length - i.j))), so.v, .int .i64 (l.length : Int), .int .i64 ((l.length - i.j : Nat) : Int)], tagL [], ⟨[], w'.heap.size⟩, atL dvC 4⟩
structure DvJ (w : World) (c : UInt8) (l : List Oe) (i : DvI) (w' : World) : Prop where
  le : i.j ≤ l.length
  W : Wst w ⟨[], w'.heap.size⟩ w'
  own : Own 5 w' i.u (valE c (l.take (l.length - i.j)))
  si : Since w.heap.size i.u
noncomputable def dvR (w : World) (c : UInt8) (so : Sb) (l : List Oe) (i : DvI) : Act → World → Prop := fun a' w' => ∃ k : DvI, k.j < i.j ∧ DvJ w c l k w' ∧ agrees dvN (dvL c so l k w') a'
section
variable {w : World} {m : Mh} {so sb : Sb} {l : List Oe} {c : UInt8}
theorem dv_round (r : RoV false w so.v l) (hl : l.length ≤ 1000000) (hv : (valE c l).length ≤ 1099511627776) (i : DvI) (w' : World) (hJ : DvJ w c l i w') (j : Nat) (hj : i.j = j + 1) :
    Goal Try.prog (bodyPost Try.prog Try.f7 (dvQ w (valE c l) (isE c l))) dvN { dvL c so l i w' with todo := .code (loopOf (atL dvC 4)) :: .inv (dvR w c so l i) :: (atL dvC 4).tail } w' := by
  obtain ⟨hle, hW, own, si⟩ := hJ
  unfold dvL
  rw [hj] at hle own ⊢
  simp only
  obtain ⟨q, hq⟩ : ∃ q, l.length - (j + 1) = q := ⟨_, rfl⟩
  rw [hq] at own ⊢
  have hql : q < l.length := by omega
  have hnext : l.length - j = q + 1 := by omega
  have hsn : l.take (q + 1) = l.take q ++ [l[q]] := List.take_succ_eq_append_getElem hql
  have rq := r.each l[q] (List.getElem_mem hql)
  have hld : ∀ wx, (∀ k, Safe ⟨[], w'.heap.size⟩ k → wx.heap[k]? = w'.heap[k]?) → (Instr.loadAt 24 (.pointer (some (ad2 so.v q)))).run Try.prog wx = .ok (.agg ((l[q]).a false)) wx := fun wx hx => (r.ro.walk hW hx).sem_ld E2o hql
  obtain ⟨e, he⟩ : ∃ e, l[q] = e := ⟨_, rfl⟩
  rw [he] at hsn hld rq
  have hvn : valE c (l.take (q + 1)) = valE c (l.take q) ++ (if hitE c e then e.val else []) := by rw [hsn, valE_append, valE_one]
  have hin : isE c (l.take (q + 1)) = (isE c (l.take q) || hitE c e) := by rw [hsn, isE_append, isE_one]
  have hvl := valE_take c l (q + 1)
  have hci : decide ((q : Int) < (l.length : Int)) = true := decide_eq_true (by omega)
  have hinc : IntKind.i64.wrap ((q : Int) + 1) = ((q + 1 : Nat) : Int) := by rw [IntWalk.i64_in _ (by omega)]; omega
  have fin : ∀ (u : Value) (b : Bool) (w5 : World) (a : Act), isE c (l.take (q + 1)) = b → Wst w ⟨[], w5.heap.size⟩ w5 → Own 5 w5 u (valE c (l.take (q + 1))) → Since w.heap.size u →
      Slots dvN [1, 6, 7, 11, 12, 13] [bv c, u, .bool b, so.v, .int .i64 (l.length : Int), .int .i64 ((q + 1 : Nat) : Int)] a → dvR w c so l i a w5 := by
    intro u b w5 a hb hW5 ho hs5 hs
    refine ⟨⟨j, u⟩, by rw [hj]; exact Nat.lt_succ_self j, ⟨by show j ≤ l.length; omega, hW5, ?_, hs5⟩, ?_⟩
    · show Own 5 w5 u (valE c (l.take (l.length - j)))
      rw [hnext]
      exact ho
    · unfold dvL
      simp only
      rw [hnext, hb]
      exact hs
  cases h1 : (e.code == c) with
  | false =>
    have hh : hitE c e = false := by unfold hitE; rw [h1]; rfl
    refine go_inv (gt := fun _ => Option.none) (unroll := false) 60 [(4, 0, .is (.bool true)), (5, 0, .sem (.pointer (some (ad2 so.v q)))), (5, 1, .sem (.agg (e.a false))), (6, 3, .is (.bool false)), (8, 0, .is (.int .i64 ((q + 1 : Nat) : Int)))] [1, 6, 7, 11, 12, 13] [bv c, i.u, .bool (isE c (l.take q)), so.v, .int .i64 (l.length : Int), .int .i64 ((q + 1 : Nat) : Int)] [⟨w'.heap.size, (e.a false).toList, true⟩] (dvR w c so l i)
      [(.bool (decide ((q : Int) < (l.length : Int))), .bool true), (.bool (((e.code.toNat : Nat) : Int) == ((c.toNat : Nat) : Int)), .bool false), (.int .i64 (IntKind.i64.wrap ((q : Int) + 1)), .int .i64 ((q + 1 : Nat) : Int))] [(Instr.indexAt 25 so.v (.int .i64 (q : Int)), .pointer (some (ad2 so.v q))), (Instr.loadAt 24 (.pointer (some (ad2 so.v q))), .agg (e.a false))] hW (by kernel_rfl) ⟨congrArg Value.bool hci, congrArg Value.bool ((i8_eq _ _).trans h1), congrArg (Value.int .i64) hinc, trivial⟩ ⟨fun wx _ => r.ro.sem_at E2o hql wx, hld, trivial⟩ ?_
    intro w5 a hW5 hS5 hs
    exact fin i.u _ w5 a (by rw [hin, hh, Bool.or_false]) (hW5.fewer (rows := [])) (by rw [hvn, hh]; simpa using own.same fun b hb => hS5.same b ⟨own.lt b hb, fun _ hr => nomatch hr⟩) si hs
  | true =>
  cases h2 : (c != 0) with
  | false =>
    have hh : hitE c e = false := by unfold hitE; rw [h1, h2]; rfl
    refine go_inv (gt := fun _ => Option.none) (unroll := false) 60 [(4, 0, .is (.bool true)), (5, 0, .sem (.pointer (some (ad2 so.v q)))), (5, 1, .sem (.agg (e.a false))), (6, 3, .is (.bool true)), (6, 6, .is (.bool false)), (8, 0, .is (.int .i64 ((q + 1 : Nat) : Int)))] [1, 6, 7, 11, 12, 13] [bv c, i.u, .bool (isE c (l.take q)), so.v, .int .i64 (l.length : Int), .int .i64 ((q + 1 : Nat) : Int)] [⟨w'.heap.size, (e.a false).toList, true⟩] (dvR w c so l i)
      [(.bool (decide ((q : Int) < (l.length : Int))), .bool true), (.bool (((e.code.toNat : Nat) : Int) == ((c.toNat : Nat) : Int)), .bool true), (.bool (((c.toNat : Nat) : Int) != 0), .bool false), (.int .i64 (IntKind.i64.wrap ((q : Int) + 1)), .int .i64 ((q + 1 : Nat) : Int))] [(Instr.indexAt 25 so.v (.int .i64 (q : Int)), .pointer (some (ad2 so.v q))), (Instr.loadAt 24 (.pointer (some (ad2 so.v q))), .agg (e.a false))] hW (by kernel_rfl) ⟨congrArg Value.bool hci, congrArg Value.bool ((i8_eq _ _).trans h1), congrArg Value.bool ((i8_ne c 0).trans h2), congrArg (Value.int .i64) hinc, trivial⟩ ⟨fun wx _ => r.ro.sem_at E2o hql wx, hld, trivial⟩ ?_
    intro w5 a hW5 hS5 hs
    exact fin i.u _ w5 a (by rw [hin, hh, Bool.or_false]) (hW5.fewer (rows := [])) (by rw [hvn, hh]; simpa using own.same fun b hb => hS5.same b ⟨own.lt b hb, fun _ hr => nomatch hr⟩) si hs
  | true =>
  cases h3 : (c != 255) with
  | false =>
    have hh : hitE c e = false := by unfold hitE; rw [h1, h2, h3]; rfl
    refine go_inv (gt := fun _ => Option.none) (unroll := false) 60 [(4, 0, .is (.bool true)), (5, 0, .sem (.pointer (some (ad2 so.v q)))), (5, 1, .sem (.agg (e.a false))), (6, 3, .is (.bool true)), (6, 6, .is (.bool true)), (6, 10, .is (.bool false)), (8, 0, .is (.int .i64 ((q + 1 : Nat) : Int)))] [1, 6, 7, 11, 12, 13] [bv c, i.u, .bool (isE c (l.take q)), so.v, .int .i64 (l.length : Int), .int .i64 ((q + 1 : Nat) : Int)] [⟨w'.heap.size, (e.a false).toList, true⟩] (dvR w c so l i)
      [(.bool (decide ((q : Int) < (l.length : Int))), .bool true), (.bool (((e.code.toNat : Nat) : Int) == ((c.toNat : Nat) : Int)), .bool true), (.bool (((c.toNat : Nat) : Int) != 0), .bool true), (.bool (((c.toNat : Nat) : Int) != 255), .bool false), (.int .i64 (IntKind.i64.wrap ((q : Int) + 1)), .int .i64 ((q + 1 : Nat) : Int))] [(Instr.indexAt 25 so.v (.int .i64 (q : Int)), .pointer (some (ad2 so.v q))), (Instr.loadAt 24 (.pointer (some (ad2 so.v q))), .agg (e.a false))] hW (by kernel_rfl) ⟨congrArg Value.bool hci, congrArg Value.bool ((i8_eq _ _).trans h1), congrArg Value.bool ((i8_ne c 0).trans h2), congrArg Value.bool ((i8_ne c 255).trans h3), congrArg (Value.int .i64) hinc, trivial⟩ ⟨fun wx _ => r.ro.sem_at E2o hql wx, hld, trivial⟩ ?_
    intro w5 a hW5 hS5 hs
    exact fin i.u _ w5 a (by rw [hin, hh, Bool.or_false]) (hW5.fewer (rows := [])) (by rw [hvn, hh]; simpa using own.same fun b hb => hS5.same b ⟨own.lt b hb, fun _ hr => nomatch hr⟩) si hs
  | true =>
    have hh : hitE c e = true := by unfold hitE; rw [h1, h2, h3]; rfl
    refine go_appB (gt := fun _ => Option.none) (unroll := false) 60 [(4, 0, .is (.bool true)), (5, 0, .sem (.pointer (some (ad2 so.v q)))), (5, 1, .sem (.agg (e.a false))), (6, 3, .is (.bool true)), (6, 6, .is (.bool true)), (6, 10, .is (.bool true)), (7, 3, .stop)] i.u (.slice e.s.o e.s.n e.s.c) 22 5 [1, 11, 12, 13] [bv c, so.v, .int .i64 (l.length : Int), .int .i64 (q : Int)] 32 [⟨w'.heap.size, (e.a false).toList, true⟩] [] (inR dvC 7 3 (.inv (dvR w c so l i)))
      [(.bool (decide ((q : Int) < (l.length : Int))), .bool true), (.bool (((e.code.toNat : Nat) : Int) == ((c.toNat : Nat) : Int)), .bool true), (.bool (((c.toNat : Nat) : Int) != 0), .bool true), (.bool (((c.toNat : Nat) : Int) != 255), .bool true)] [(Instr.indexAt 25 so.v (.int .i64 (q : Int)), .pointer (some (ad2 so.v q))), (Instr.loadAt 24 (.pointer (some (ad2 so.v q))), .agg (e.a false))] bt hW (by kernel_rfl) ⟨congrArg Value.bool hci, congrArg Value.bool ((i8_eq _ _).trans h1), congrArg Value.bool ((i8_ne c 0).trans h2), congrArg Value.bool ((i8_ne c 255).trans h3), trivial⟩ ⟨fun wx _ => r.ro.sem_at E2o hql wx, hld, trivial⟩ ?_
    intro w5 hW5 hS5
    have own5 := own.same fun b hb => hS5.same b ⟨own.lt b hb, fun _ hr => nomatch hr⟩
    have hlen : (valE c (l.take q)).length + e.val.length ≤ 1099511627776 := by
      rw [hvn, hh, if_pos rfl, List.length_append] at hvl
      omega
    refine ⟨_, e.val, own5, rq.keep0 hW5.keep, by omega, fun v w6 ho6 k6 hbl => ?_⟩
    have hs5 := hW5.keep.size
    have si6 : Since w.heap.size v := fun b hb => by
      rcases hbl with h | h <;> rw [h] at hb
      · exact si b hb
      · have := Option.some.inj hb; omega
    have hW6 : Wst w ⟨[], w6.heap.size⟩ w6 := (hW5.fewer (rows := [])).laterS k6 (fun b hb => ⟨si b hb, fun _ hr => nomatch hr⟩)
    refine Goal.re (tags := tagL []) (m := ⟨[], w6.heap.size⟩) ?_
    refine go_inv (gt := fun _ => Option.none) (unroll := false) 60 [(8, 0, .is (.int .i64 ((q + 1 : Nat) : Int)))] [1, 6, 7, 11, 12, 13] [bv c, v, .bool true, so.v, .int .i64 (l.length : Int), .int .i64 ((q + 1 : Nat) : Int)] [] (dvR w c so l i) [(.int .i64 (IntKind.i64.wrap ((q : Int) + 1)), .int .i64 ((q + 1 : Nat) : Int))] [] hW6 (by kernel_rfl) ⟨congrArg (Value.int .i64) hinc, trivial⟩ trivial ?_
    intro w7 a hW7 hS7 hs
    exact fin v true w7 a (by rw [hin, hh, Bool.or_true]) hW7 (by rw [hvn, hh]; exact ho6.same fun b hb => hS7.same b ⟨ho6.lt b hb, fun _ hr => nomatch hr⟩) si6 hs
theorem value_any (r : RoV false w so.v l) (hl : l.length ≤ 1000000) (hv : (valE c l).length ≤ 1099511627776) : Calls Try.prog 7 #[.agg (m.a so.v sb.v), bv c] w (dvQ w (valE c l) (isE c l)) := by
  refine enter (args := [.agg (m.a so.v sb.v), bv c]) Try.func7 (by kernel_rfl) ?_
  refine go_stop (gt := fun _ => Option.none) (unroll := false) 60 [(3, 2, .sem (.int .i64 (l.length : Int)))] [1, 6, 7, 11, 12, 13] [bv c, nilV, .bool false, so.v, .int .i64 (l.length : Int), .int .i64 0] [⟨w.heap.size, (m.a so.v sb.v).toList, true⟩] [] (atL dvC 4) [] [(Builtin.len_ #[25] 3 #[so.v], .int .i64 (l.length : Int))] (Wst.start0 w) (by kernel_rfl) trivial ⟨fun wx _ => r.ro.sem_len E2o (ty := 3) wx, trivial⟩ ?_
  intro w1 hW1 _
  have key := loop_okT (P := Try.prog) (Q := bodyPost Try.prog Try.f7 (dvQ w (valE c l) (isE c l))) (n := dvN) (x := loopOf (atL dvC 4)) (k := (atL dvC 4).tail) (fun i : DvI => i.j) (dvL c so l) (DvJ w c l) (fun _ _ => by kernel_rfl) ?_ ⟨l.length, nilV⟩ w1
    ⟨Nat.le_refl _, hW1.fewer (rows := []), by rw [Nat.sub_self]; exact Own.nil _ _, nilV_since _⟩
  · unfold dvL at key
    rw [Nat.sub_self] at key
    exact key
  intro i w' hJ
  rcases Nat.eq_zero_or_pos i.j with hi | hi
  case inr =>
    obtain ⟨j, hj⟩ := Nat.exists_eq_succ_of_ne_zero (Nat.ne_of_gt hi)
    exact dv_round r hl hv i w' hJ j hj
  case inl =>
    obtain ⟨hle, hW, own, si⟩ := hJ
    rw [hi, Nat.sub_zero, List.take_length] at own
    unfold dvL
    rw [hi]
    simp only [Nat.sub_zero, List.take_length]
    refine go_ret (gt := fun _ => Option.none) (unroll := false) 60 [(4, 0, .is (.bool false))] [.tmp 4, .tmp 5] (.tuple #[i.u, .bool (isE c l)]) [(.bool (decide ((l.length : Int) < (l.length : Int))), .bool false)] [] hW Try.results7 (by kernel_rfl) ⟨congrArg Value.bool (by simp), trivial⟩ trivial ?_
    intro w9 hW9 hS9
    have own9 := own.same fun b hb => hS9.same b ⟨own.lt b hb, fun _ hr => nomatch hr⟩
    exact ⟨i.u, rfl, own9.rd, hW9.keep, si, own9.lt⟩
end
end Go.Proofs.Ytpnocepepihflaa
namespace Go.Proofs.Ytpnocepepihflaa
open Go.RowKit

abbrev dmQ (w : World) (b : Bool) : Ending → World → Prop := fun e w' => e = .returned (.bool b) ∧ Keep No w w'
def mayO (e : Oe) : Bool := e.code != 0 && (e.code != 255 && decide (e.val.length ≤ 255))
section
variable {w : World} {m : Mh} {so sb : Sb} {e : Oe}
theorem mmay_any : Calls Try.prog 29 #[.agg (m.a so.v sb.v)] w (dmQ w (m.op == 1 || m.op == 2)) := by
  refine enter (args := [.agg (m.a so.v sb.v)]) Try.func29 (by kernel_rfl) ?_
  cases h1 : m.op == 1 with
  | true =>
    exact go_ret (gt := fun _ => Option.none) (unroll := false) 60 [(1, 2, .is (.bool true))] [.tmp 2] (.bool true) [(.bool (((m.op.toNat : Nat) : Int) == 1), .bool true)] [] (Wst.start0 w) Try.results29 (by kernel_rfl) ⟨congrArg Value.bool ((i8_eq m.op 1).trans h1), trivial⟩ trivial (fun w9 hW9 _ => ⟨rfl, hW9.keep⟩)
  | false =>
    cases h2 : m.op == 2 with
    | true =>
      exact go_ret (gt := fun _ => Option.none) (unroll := false) 60 [(1, 2, .is (.bool false)), (1, 6, .is (.bool true))] [.tmp 2] (.bool true) [(.bool (((m.op.toNat : Nat) : Int) == 1), .bool false), (.bool (((m.op.toNat : Nat) : Int) == 2), .bool true)] [] (Wst.start0 w) Try.results29 (by kernel_rfl) ⟨congrArg Value.bool ((i8_eq m.op 1).trans h1), congrArg Value.bool ((i8_eq m.op 2).trans h2), trivial⟩ trivial (fun w9 hW9 _ => ⟨rfl, hW9.keep⟩)
    | false =>
      exact go_ret (gt := fun _ => Option.none) (unroll := false) 60 [(1, 2, .is (.bool false)), (1, 6, .is (.bool false))] [.tmp 2] (.bool false) [(.bool (((m.op.toNat : Nat) : Int) == 1), .bool false), (.bool (((m.op.toNat : Nat) : Int) == 2), .bool false)] [] (Wst.start0 w) Try.results29 (by kernel_rfl) ⟨congrArg Value.bool ((i8_eq m.op 1).trans h1), congrArg Value.bool ((i8_eq m.op 2).trans h2), trivial⟩ trivial (fun w9 hW9 _ => ⟨rfl, hW9.keep⟩)
theorem omay_any (r : Rd w e.s.v e.val) : Calls Try.prog 35 #[.agg (e.a false)] w (dmQ w (mayO e)) := by
  refine enter (args := [.agg (e.a false)]) Try.func35 (by kernel_rfl) ?_
  unfold mayO
  cases h1 : e.code != 0 with
  | false =>
    exact go_ret (gt := fun _ => Option.none) (unroll := false) 60 [(1, 2, .is (.bool false))] [.tmp 2] (.bool false) [(.bool (((e.code.toNat : Nat) : Int) != 0), .bool false)] [] (Wst.start0 w) Try.results35 (by kernel_rfl) ⟨congrArg Value.bool ((i8_ne e.code 0).trans h1), trivial⟩ trivial (fun w9 hW9 _ => ⟨rfl, hW9.keep⟩)
  | true =>
    cases h2 : e.code != 255 with
    | false =>
      exact go_ret (gt := fun _ => Option.none) (unroll := false) 60 [(1, 2, .is (.bool true)), (1, 6, .is (.bool false))] [.tmp 2] (.bool false) [(.bool (((e.code.toNat : Nat) : Int) != 0), .bool true), (.bool (((e.code.toNat : Nat) : Int) != 255), .bool false)] [] (Wst.start0 w) Try.results35 (by kernel_rfl) ⟨congrArg Value.bool ((i8_ne e.code 0).trans h1), congrArg Value.bool ((i8_ne e.code 255).trans h2), trivial⟩ trivial (fun w9 hW9 _ => ⟨rfl, hW9.keep⟩)
    | true =>
      cases h3 : decide (e.val.length ≤ 255) with
      | false =>
        exact go_ret (gt := fun _ => Option.none) (unroll := false) 60 [(1, 2, .is (.bool true)), (1, 6, .is (.bool true)), (1, 11, .sem (.int .i64 (e.val.length : Int))), (1, 12, .is (.bool false))] [.tmp 2] (.bool false) [(.bool (((e.code.toNat : Nat) : Int) != 0), .bool true), (.bool (((e.code.toNat : Nat) : Int) != 255), .bool true), (.bool (decide ((e.val.length : Int) ≤ 255)), .bool false)] [(Builtin.len_ #[22] 3 #[.slice e.s.o e.s.n e.s.c], .int .i64 (e.val.length : Int))] (Wst.start0 w) Try.results35 (by kernel_rfl) ⟨congrArg Value.bool ((i8_ne e.code 0).trans h1), congrArg Value.bool ((i8_ne e.code 255).trans h2), congrArg Value.bool (by rw [← h3]; exact decide_eq_decide.2 (by omega)), trivial⟩ ⟨fun wx _ => r.run_len (ty := 3) bt.sl, trivial⟩ (fun w9 hW9 _ => ⟨rfl, hW9.keep⟩)
      | true =>
        exact go_ret (gt := fun _ => Option.none) (unroll := false) 60 [(1, 2, .is (.bool true)), (1, 6, .is (.bool true)), (1, 11, .sem (.int .i64 (e.val.length : Int))), (1, 12, .is (.bool true))] [.tmp 2] (.bool true) [(.bool (((e.code.toNat : Nat) : Int) != 0), .bool true), (.bool (((e.code.toNat : Nat) : Int) != 255), .bool true), (.bool (decide ((e.val.length : Int) ≤ 255)), .bool true)] [(Builtin.len_ #[22] 3 #[.slice e.s.o e.s.n e.s.c], .int .i64 (e.val.length : Int))] (Wst.start0 w) Try.results35 (by kernel_rfl) ⟨congrArg Value.bool ((i8_ne e.code 0).trans h1), congrArg Value.bool ((i8_ne e.code 255).trans h2), congrArg Value.bool (by rw [← h3]; exact decide_eq_decide.2 (by omega)), trivial⟩ ⟨fun wx _ => r.run_len (ty := 3) bt.sl, trivial⟩ (fun w9 hW9 _ => ⟨rfl, hW9.keep⟩)
end
end Go.Proofs.Ytpnocepepihflaa
namespace Go.Proofs.Ytpnocepepihflaa
open Go.RowKit
section
variable {w : World} {p : Nat} {sv : Value} {bs : List UInt8} {at_ : Nat} {e : Int}
set_option maxHeartbeats 1000000 in
theorem number16_any (h : Cu w p sv bs at_ e) (n : Int) (hn : n ≤ 2) :
    Calls Try.prog 50 #[.pointer (some ⟨p, 0, Option.none⟩), .int .i64 n] w fun x w' => x = .returned (.int .u16 (be (takeB bs at_ e n) : Nat)) ∧ Cu w' p sv bs (takeA bs at_ e n) (takeE bs at_ e n) ∧ Keep (One p) w w' := by
  go_enter Try.func50, Try.ntmps50
  have hlen : (takeB bs at_ e n).length ≤ 2 := by
    unfold takeB; split
    · simp; omega
    · simp
  generalize hout : takeB bs at_ e n = out at *
  have HOUT := Lib.hid hout
  clear hout
  go_wp2_with (go_at_call 41; refine (take_any h n).mono ?_; rintro x w1 ⟨v', rfl, hc, hk, hcu, hkp⟩; rw [HOUT.out] at hc; have r := hc.rd; have hl : ∀ wx, (Builtin.len_ #[22] 3 #[v']).run Try.prog wx = .ok (.int .i64 (out.length : Int)) wx := fun wx => r.run_len bt.sl)
  go_loop [5, 12] (fun s i => ∃ k : Nat, k ≤ out.length ∧ i = .int .i64 k ∧ s = .int .u32 (be (out.take k) : Nat)) (fun _ i => out.length - (intOf i).toNat)
  case atStart => exact ⟨0, Nat.zero_le _, rfl, rfl⟩
  case round =>
    obtain ⟨k, hk', rfl, rfl⟩ := hrel
    by_cases hlt : k < out.length
    · have hat : ∀ wx, (Instr.indexAt 22 v' (.int .i64 (k : Int))).run Try.prog wx = .ok (.pointer (some (adr v' k))) wx := fun wx => by
        have := r.run_at (P := Try.prog) (w' := wx) bt.sl bsize (k := .i64) (i := (k : Int)) (by omega) (by omega)
        simpa using this
      have hcell := r.cell k hlt
      have hx := byteAt_lt out k
      have hs := be_snoc (out.take k) (byteAt out k)
      rw [← take_snoc hlt] at hs
      have HS := Lib.hid hs
      have hb : be (out.take k) < 16777216 := be_small (n := 3) (by simp; omega)
      clear hs
      generalize be (out.take k) = A at *
      generalize (byteAt out k).toNat = x at *
      go_wp2
      go_round
      case rel =>
        refine ⟨k + 1, by omega, by go_num, ?_⟩
        rw [HS.out, or32 A x hb hx]
      case measure => simp [intOf]; omega
    · have hke : k = out.length := by omega
      subst hke
      rw [List.take_length]
      have hlt : be out < 65536 := be_small (n := 2) hlen
      go_wp2
      go_ret
      exact ⟨rfl, hcu, hkp⟩

set_option maxHeartbeats 1000000 in
theorem two_any (h : Cu w p sv bs at_ e) :
    Calls Try.prog 38 #[.pointer (some ⟨p, 0, Option.none⟩)] w fun x w' => x = .returned (.int .u16 (be (takeB bs at_ e 2) : Nat)) ∧ Cu w' p sv bs (takeA bs at_ e 2) (takeE bs at_ e 2) ∧ Keep (One p) w w' := by
  go_enter Try.func38, Try.ntmps38
  go_wp2_with (go_at_call 50; refine (number16_any h 2 (by omega)).mono ?_; rintro x w1 ⟨rfl, hcu, hkp⟩)
  go_ret
  exact ⟨rfl, hcu, hkp⟩
end
end Go.Proofs.Ytpnocepepihflaa
namespace Go.Proofs.Ytpnocepepihflaa
open Go.RowKit
section
variable {w : World} {p : Nat} {sv : Value} {bs : List UInt8} {at_ : Nat} {e : Int}
set_option maxHeartbeats 1000000 in
theorem number32_any (h : Cu w p sv bs at_ e) (n : Int) (hn : n ≤ 4) :
    Calls Try.prog 47 #[.pointer (some ⟨p, 0, Option.none⟩), .int .i64 n] w fun x w' => x = .returned (.int .u32 (be (takeB bs at_ e n) : Nat)) ∧ Cu w' p sv bs (takeA bs at_ e n) (takeE bs at_ e n) ∧ Keep (One p) w w' := by
  go_enter Try.func47, Try.ntmps47
  have hlen : (takeB bs at_ e n).length ≤ 4 := by
    unfold takeB; split
    · simp; omega
    · simp
  generalize hout : takeB bs at_ e n = out at *
  have HOUT := Lib.hid hout
  clear hout
  go_wp2_with (go_at_call 41; refine (take_any h n).mono ?_; rintro x w1 ⟨v', rfl, hc, hk, hcu, hkp⟩; rw [HOUT.out] at hc; have r := hc.rd; have hl : ∀ wx, (Builtin.len_ #[22] 3 #[v']).run Try.prog wx = .ok (.int .i64 (out.length : Int)) wx := fun wx => r.run_len bt.sl)
  go_loop [5, 12] (fun s i => ∃ k : Nat, k ≤ out.length ∧ i = .int .i64 k ∧ s = .int .u32 (be (out.take k) : Nat)) (fun _ i => out.length - (intOf i).toNat)
  case atStart => exact ⟨0, Nat.zero_le _, rfl, rfl⟩
  case round =>
    obtain ⟨k, hk', rfl, rfl⟩ := hrel
    by_cases hlt : k < out.length
    · have hat : ∀ wx, (Instr.indexAt 22 v' (.int .i64 (k : Int))).run Try.prog wx = .ok (.pointer (some (adr v' k))) wx := fun wx => by
        have := r.run_at (P := Try.prog) (w' := wx) bt.sl bsize (k := .i64) (i := (k : Int)) (by omega) (by omega)
        simpa using this
      have hcell := r.cell k hlt
      have hx := byteAt_lt out k
      have hs := be_snoc (out.take k) (byteAt out k)
      rw [← take_snoc hlt] at hs
      have HS := Lib.hid hs
      have hb : be (out.take k) < 16777216 := be_small (n := 3) (by simp; omega)
      clear hs
      generalize be (out.take k) = A at *
      generalize (byteAt out k).toNat = x at *
      go_wp2
      go_round
      case rel =>
        refine ⟨k + 1, by omega, by go_num, ?_⟩
        rw [HS.out, or32 A x hb hx]
      case measure => simp [intOf]; omega
    · have hke : k = out.length := by omega
      subst hke
      rw [List.take_length]
      go_wp2
      go_ret
      exact ⟨rfl, hcu, hkp⟩

set_option maxHeartbeats 1000000 in
theorem four_any (h : Cu w p sv bs at_ e) :
    Calls Try.prog 28 #[.pointer (some ⟨p, 0, Option.none⟩)] w fun x w' => x = .returned (.int .u32 (be (takeB bs at_ e 4) : Nat)) ∧ Cu w' p sv bs (takeA bs at_ e 4) (takeE bs at_ e 4) ∧ Keep (One p) w w' := by
  go_enter Try.func28, Try.ntmps28
  go_wp2_with (go_at_call 47; refine (number32_any h 4 (by omega)).mono ?_; rintro x w1 ⟨rfl, hcu, hkp⟩)
  go_ret
  exact ⟨rfl, hcu, hkp⟩
end
end Go.Proofs.Ytpnocepepihflaa
namespace Go.Proofs.Ytpnocepepihflaa
open Go.RowKit
/-- An address of six bytes, out of a list of bytes (0 where there is none). -/
def macV (l : List UInt8) : Array Value := #[.int .u8 ((byteAt l 0).toNat : Int), .int .u8 ((byteAt l 1).toNat : Int), .int .u8 ((byteAt l 2).toNat : Int), .int .u8 ((byteAt l 3).toNat : Int), .int .u8 ((byteAt l 4).toNat : Int), .int .u8 ((byteAt l 5).toNat : Int)]
def zero6 : Array Value := #[.int .u8 0, .int .u8 0, .int .u8 0, .int .u8 0, .int .u8 0, .int .u8 0]
theorem macV_copy {l : List UInt8} (h : l.length = 0 ∨ l.length = 6) : (zero6.toList.take 0 ++ bvs l ++ zero6.toList.drop (0 + l.length)).toArray = macV l := by
  rcases h with h | h
  · rw [List.length_eq_zero_iff.1 h]; rfl
  · match l, h with
    | [a, b, c, d, e, f], _ => rfl
theorem takeB_six (bs : List UInt8) (at_ : Nat) (e : Int) {n : Nat} : (takeB bs at_ e n).length = 0 ∨ (takeB bs at_ e n).length = n := by
  unfold takeB; split
  · right; simp; omega
  · left; rfl
section
variable {w : World} {p : Nat} {sv : Value} {bs : List UInt8} {at_ : Nat} {e : Int}
set_option maxHeartbeats 1000000 in
theorem cmac_any (h : Cu w p sv bs at_ e) :
    Calls Try.prog 40 #[.pointer (some ⟨p, 0, Option.none⟩)] w fun x w' => x = .returned (.agg (macV (takeB bs at_ e 6))) ∧ Cu w' p sv bs (takeA bs at_ e 6) (takeE bs at_ e 6) ∧ Keep (One p) w w' := by
  have hsix : (takeB bs at_ e 6).length = 0 ∨ (takeB bs at_ e 6).length = 6 := takeB_six bs at_ e (n := 6)
  have hlen : (takeB bs at_ e 6).length ≤ 6 := by omega
  have hmv := macV_copy hsix
  have hplt := h.lt
  generalize hout : takeB bs at_ e 6 = out at *
  have HOUT := Lib.hid hout
  clear hout
  go_enter Try.func40, Try.ntmps40
  go_wp2
  go_region_with (go_at_call 41; refine (take_any (h.keep0 ((((Keep.refl _ _).alloc _).alloc _).drew)) 6).mono ?_; rintro x w1 ⟨v', rfl, tk⟩; have hg := (tk.keep.block (w.heap.size + 1) (by simp) (by intro (hh : _ = p); omega)).trans (heap_new1 _ _ _); have hg0 := (tk.keep.block w.heap.size (by simp; omega) (by intro (hh : _ = p); omega)).trans (heap_new0 _ _ _); have tk2 := tk; rw [HOUT.out] at tk2; have hcp := run_copy_b (P := Try.prog) (w := w1) bt 3 (dl := 6) (dc := 6) (o := 0) hg tk2.rd hlen (by simpa using hlen); change _ = Result.ok _ (w1.setRow _ (zero6.toList.take 0 ++ bvs out ++ zero6.toList.drop (0 + out.length)).toArray) at hcp; rw [hmv] at hcp)
  have k3 : Keep (One (w.heap.size + 1)) w1 (w1.setRow (w.heap.size + 1) (macV out)) := Keep.setRow _ _
  have hg3 := setRow_heap w1 _ _ (macV out) _ _ hg
  have hg4 : (w1.setRow (w.heap.size + 1) (macV out)).heap[w.heap.size]? = _ := (k3.block w.heap.size (World.block_lt_of_cell? w1 ⟨w.heap.size, 0, Option.none⟩ (cells_of hg0 0)) (by intro (hh : _ = _); omega)).trans hg0
  have kk := ((((Keep.refl (One p) w).alloc _).alloc _).drew).trans tk.keep |>.trans' k3 (by intro i hi (hh : i = _); omega)
  have hcu := tk.cu.keep k3 (by intro (hh : _ = _); omega) (by intro b hb (hh : _ = _); have := h.under b hb; omega)
  clear hcp
  generalize w1.setRow (w.heap.size + 1) (macV out) = W3 at *
  have a0 := cells_of hg3 0
  have a1 := cells_of hg3 1
  have a2 := cells_of hg3 2
  have a3 := cells_of hg3 3
  have a4 := cells_of hg3 4
  have a5 := cells_of hg3 5
  have b0 := cells_of hg4 0
  have b1 := cells_of hg4 1
  have b2 := cells_of hg4 2
  have b3 := cells_of hg4 3
  have b4 := cells_of hg4 4
  have b5 := cells_of hg4 5
  have f0 := free_of hg4 0
  have f1 := free_of hg4 1
  have f2 := free_of hg4 2
  have f3 := free_of hg4 3
  have f4 := free_of hg4 4
  have f5 := free_of hg4 5
  simp [macV] at a0 a1 a2 a3 a4 a5 b0 b1 b2 b3 b4 b5
  clear hg3 hg4 hg hg0
  go_wp2
  have k4 : Keep (One w.heap.size) W3 ((((((W3.setCell ⟨w.heap.size, 0, Option.none⟩ (.int .u8 ((byteAt out 0).toNat : Int))).setCell ⟨w.heap.size, 1, Option.none⟩ (.int .u8 ((byteAt out 1).toNat : Int))).setCell ⟨w.heap.size, 2, Option.none⟩ (.int .u8 ((byteAt out 2).toNat : Int))).setCell ⟨w.heap.size, 3, Option.none⟩ (.int .u8 ((byteAt out 3).toNat : Int))).setCell ⟨w.heap.size, 4, Option.none⟩ (.int .u8 ((byteAt out 4).toNat : Int))).setCell ⟨w.heap.size, 5, Option.none⟩ (.int .u8 ((byteAt out 5).toNat : Int))) :=
    (((((Keep.set1 _ _ _ _).trans (Keep.set1 _ _ _ _)).trans (Keep.set1 _ _ _ _)).trans (Keep.set1 _ _ _ _)).trans (Keep.set1 _ _ _ _)).trans (Keep.set1 _ _ _ _)
  refine bodyPost_ret (v := .agg (macV out)) ?_ rfl ⟨rfl, hcu.keep k4 (by intro (hh : _ = _); omega) (by intro b hb (hh : _ = _); have := h.under b hb; omega), kk.trans' k4 (by intro i hi (hh : _ = _); omega)⟩
  simp [results, Try.results40, go_sem, macV, b0, b1, b2, b3, b4, b5]
end
end Go.Proofs.Ytpnocepepihflaa
