/-
  A region in any order, some of whose calls write into blocks of their own, one behind the other. No condition.
-/
import Derived.Test.YtpididcghilbjaaGo
namespace Go.Proofs.Ytpididcghilbjaa
open Go.RowKit

/-- The object that the loud calls work on: its value, the blocks that it may write into. -/
structure Gh where
  live : Prop
  val : Value
  priv : Nat → Prop
/-- A step that may have written into the object. -/
structure Tr (g : Gh) (w : World) (g' : Gh) (w' : World) : Prop where
  keep : Keep g.priv w w'
  priv : ∀ k, g'.priv k → g.priv k ∨ w.heap.size ≤ k
  live : g.live → g'.live ∧ g'.val = g.val
theorem Tr.quiet {g : Gh} {w w' : World} (k : Keep No w w') : Tr g w g w' := ⟨k.no, fun _ h => .inl h, fun h => ⟨h, rfl⟩⟩
inductive Sm where
  | is (v : Value)
  | such (p : Gh → World → Value → Prop) (m : ∀ g w g' w' x, Tr g w g' w' → p g w x → p g' w' x)
def Sm.ok : Sm → Gh → World → Value → Prop
  | .is v, _, _, x => x = v
  | .such p _, g, w, x => p g w x
theorem Sm.ok_tr {s : Sm} {g g' : Gh} {w w' : World} {x : Value} (h : s.ok g w x) (k : Tr g w g' w') : s.ok g' w' x := by
  cases s with
  | is v => exact h
  | such p m => exact m g w g' w' x k h
/-- The blocks that may have turned since w0; they are there. -/
def Base (S0 : Nat → Prop) (w0 : World) (g : Gh) (w : World) : Prop := ∀ k, g.priv k → k < w.heap.size ∧ (k < w0.heap.size → S0 k)
theorem Base.mono {S0 : Nat → Prop} {w0 : World} {g : Gh} {w w' : World} (h : Base S0 w0 g w) (k : Keep No w w') : Base S0 w0 g w' := fun i hi => ⟨Nat.lt_of_lt_of_le (h i hi).1 k.size, (h i hi).2⟩

/-- What a quiet operation comes to. -/
def OutQ (P : Program) (s : Sm) (g : Gh) (w : World) : Result Next → Prop
  | .ok (.value v) w' => Keep No w w' ∧ s.ok g w' v
  | .ok .skip w' => Keep No w w' ∧ s.ok g w' undef
  | .ok (.enter f args) w' => Keep No w w' ∧ Calls P f args w' (fun e w'' => ∃ v, e = .returned v ∧ Keep No w' w'' ∧ s.ok g w'' v)
  | _ => False
/-- What a loud call comes to. -/
def OutL (P : Program) (S0 : Nat → Prop) (w0 : World) (D : Gh → World → Prop) (s : Sm) (g : Gh) (w : World) : Result Next → Prop
  | .ok (.enter f args) w' => w' = w ∧ Calls P f args w (fun e w'' => ∃ v g', e = .returned v ∧ Tr g w g' w'' ∧ Base S0 w0 g' w'' ∧ D g' w'' ∧ s.ok g' w'' v)
  | .ok (.value v) w' => ∃ g', Tr g w g' w' ∧ Base S0 w0 g' w' ∧ D g' w' ∧ s.ok g' w' v
  | .ok .skip w' => ∃ g', Tr g w g' w' ∧ Base S0 w0 g' w' ∧ D g' w' ∧ s.ok g' w' undef
  | _ => False

section
variable {P : Program} {S0 : Nat → Prop} {w0 : World}
theorem wp_of_outQ {o : Oper} {a : Act} {g : Gh} {w : World} {K : Act → World → Prop} {Q : Exit → Act → World → Prop} {s : Sm} (h : OutQ P s g w ((execOp a.eval o).run P w))
    (hk : ∀ v w', Keep No w w' → s.ok g w' v → K (a.put o.dst v) w') : o.wp P a w K Q := by
  unfold Oper.wp
  generalize (execOp a.eval o).run P w = r at *
  cases r with
  | ok n w' =>
    cases n <;> simp only [OutQ] at h <;> simp only [Oper.upon]
    case value v => exact hk _ _ h.1 h.2
    case skip => exact hk _ _ h.1 h.2
    case enter f args =>
      refine h.2.mono ?_
      rintro e w'' ⟨v, rfl, h2, h3⟩
      exact hk _ _ (h.1.trans h2) h3
  | halt x w' => simp only [OutQ] at h
theorem wp_of_outL {o : Oper} {a : Act} {g : Gh} {w : World} {D : Gh → World → Prop} {K : Act → World → Prop} {Q : Exit → Act → World → Prop} {s : Sm} (h : OutL P S0 w0 D s g w ((execOp a.eval o).run P w))
    (hk : ∀ v g' w', Tr g w g' w' → Base S0 w0 g' w' → D g' w' → s.ok g' w' v → K (a.put o.dst v) w') : o.wp P a w K Q := by
  unfold Oper.wp
  generalize (execOp a.eval o).run P w = r at *
  cases r with
  | ok n w' =>
    cases n <;> simp only [OutL] at h
    case value v =>
      obtain ⟨g', h1, h2, h3, h4⟩ := h
      simp only [Oper.upon]
      exact hk _ _ _ h1 h2 h3 h4
    case skip =>
      obtain ⟨g', h1, h2, h3, h4⟩ := h
      simp only [Oper.upon]
      exact hk _ _ _ h1 h2 h3 h4
    case enter f args =>
      obtain ⟨rfl, h⟩ := h
      simp only [Oper.upon]
      refine h.mono ?_
      rintro e w'' ⟨v, g', rfl, h1, h2, h3, h4⟩
      exact hk _ _ _ h1 h2 h3 h4
  | halt x w' => simp only [OutL] at h

def putM (f : Tmp → Sm) (d : Option Tmp) (s : Sm) : Tmp → Sm := match d with | some d => fun t => if Nat.beq t d = true then s else f t | none => f
theorem putM_same (f : Tmp → Sm) (t : Tmp) (s : Sm) : putM f (some t) s t = s := by simp [putM]
theorem putM_other (f : Tmp → Sm) {d : Option Tmp} {t : Tmp} (h : d ≠ some t) (s : Sm) : putM f d s t = f t := by
  cases d with
  | none => rfl
  | some d =>
    have : ¬ t = d := fun e => h (by rw [e])
    simp [putM, Nat.beq_eq, this]
def frM (ops : Array Oper) (sp : Nat → Sm) (f0 : Tmp → Sm) : Nat → Tmp → Sm
  | 0 => f0
  | i + 1 => putM (frM ops sp f0 i) ((ops[i]?).bind (·.dst)) (sp i)
theorem frM_old {ops : Array Oper} {sp : Nat → Sm} {f0 : Tmp → Sm} {t : Tmp} : ∀ (i : Nat), (∀ (j : Nat) (o : Oper), j < i → ops[j]? = some o → o.dst ≠ some t) → frM ops sp f0 i t = f0 t
  | 0, _ => rfl
  | i + 1, h => by
    have ih := frM_old (sp := sp) (f0 := f0) i (fun j o hj => h j o (by omega))
    rw [← ih]
    simp only [frM]
    cases ho : ops[i]? with
    | none => rfl
    | some o => exact putM_other _ (h i o (by omega) ho) _
theorem frM_new {ops : Array Oper} {sp : Nat → Sm} {f0 : Tmp → Sm} {t : Tmp} {j : Nat} {o : Oper} (hj : ops[j]? = some o) (hd : o.dst = some t) :
    ∀ (i : Nat), j < i → (∀ (k : Nat) (o' : Oper), k ≠ j → ops[k]? = some o' → o'.dst ≠ some t) → frM ops sp f0 i t = sp j
  | 0, h, _ => by omega
  | i + 1, h, hk => by
    by_cases hji : j = i
    · subst hji
      simp only [frM, hj, Option.bind_some, hd]
      exact putM_same _ _ _
    · have ih := frM_new (sp := sp) (f0 := f0) hj hd i (by omega) hk
      rw [← ih]
      simp only [frM]
      cases ho : ops[i]? with
      | none => rfl
      | some o' => exact putM_other _ (hk i o' (fun e => hji e.symm) ho) _

def wantM (ops : Array Oper) (fr : Tmp → Sm) (o : Oper) : Option Bool :=
  match o.guard with
  | none => some true
  | some (j, b) => match (ops[j]?).bind (·.dst) with
    | some d => match fr d with
      | .is (.bool g) => some (g == b)
      | .is _ => some false
      | _ => none
    | none => none

/-- What is asked of operation i; r: how many loud ones stand ahead of it. -/
def ObM (P : Program) (S0 : Nat → Prop) (w0 : World) (D : Nat → Gh → World → Prop) (ops : Array Oper) (fr : Tmp → Sm) (s : Sm) (loud early : Bool) (r : Nat) (o : Oper) : Prop :=
  match wantM ops fr o with
  | some true => ∀ (a : Act) (g : Gh) (w : World), Keep S0 w0 w → Base S0 w0 g w → (∀ t ∈ tmpsOf o, (fr t).ok g w (a.tmps.getD t undef)) →
      if loud then D r g w → OutL P S0 w0 (D (r + 1)) s g w ((execOp a.eval o).run P w) else (early = true → D 0 g w) → OutQ P s g w ((execOp a.eval o).run P w)
  | some false => s = .is undef ∧ loud = false
  | none => False

def rank (n : Nat) (loud : Nat → Bool) (i : Nat) : Nat := ((List.range n).filter fun j => loud j && decide (j < i)).length
def cnt (n : Nat) (loud : Nat → Bool) (listed : Array Bool) : Nat := ((List.range n).filter fun j => loud j && listed.getD j false).length
/-- Each loud one waits for all loud ones ahead of it. -/
def chain (ops : Array Oper) (loud : Nat → Bool) : Bool :=
  (List.range ops.size).all fun j => !loud j || (List.range j).all fun i => !loud i || (direct ops j i || (List.range j).any fun k => Nat.blt i k && loud k)

/-- Does operation i stand ahead of the first loud one? -/
def earlyB (ops : Array Oper) (loud : Nat → Bool) (i : Nat) : Bool :=
  (List.range ops.size).all fun f => !loud f || (List.range f).any loud || (direct ops f i || (List.range ops.size).any fun k => direct ops f k && direct ops k i)
structure InvM (S0 : Nat → Prop) (w0 : World) (D : Nat → Gh → World → Prop) (ops : Array Oper) (sp : Nat → Sm) (loud : Nat → Bool) (a0 : Act) (listed : Array Bool) (a : Act) (g : Gh) (w : World) : Prop where
  keep : Keep S0 w0 w
  base : Base S0 w0 g w
  d : D (cnt ops.size loud listed) g w
  defers : a.defers = a0.defers
  size : a.tmps.size = a0.tmps.size
  ls : listed.size = ops.size
  down : ∀ (i : Nat) o, ops[i]? = some o → listed.getD i false = true → ∀ e ∈ o.after, Region.binds .any e = true → listed.getD e.on false = true
  done : ∀ (i : Nat) (o : Oper) d, ops[i]? = some o → o.dst = some d → listed.getD i false = true → (sp i).ok g w (a.tmps.getD d undef)
  old : ∀ t, (∀ (i : Nat) (o : Oper), ops[i]? = some o → o.dst = some t → listed.getD i false = false) → a.tmps.getD t undef = a0.tmps.getD t undef

theorem chain_spec {ops : Array Oper} {loud : Nat → Bool} (h : chain ops loud = true) {listed : Array Bool} (down : ∀ (i : Nat) o, ops[i]? = some o → listed.getD i false = true → ∀ e ∈ o.after, Region.binds .any e = true → listed.getD e.on false = true) :
    ∀ (j : Nat) (o : Oper), ops[j]? = some o → loud j = true → (∀ e ∈ o.after, Region.binds .any e = true → listed.getD e.on false = true) → ∀ i, i < j → loud i = true → listed.getD i false = true := by
  intro j o hj hlj hall i hij hli
  -- by induction on j - i: the nearest loud one ahead of j is direct
  have key : ∀ d i, j - i = d → i < j → loud i = true → listed.getD i false = true := by
    intro d
    induction d using Nat.strongRecOn with
    | _ d ih =>
      intro i hd hij hli
      have hjl : j < ops.size := by
        rcases Nat.lt_or_ge j ops.size with h | h
        · exact h
        · rw [Array.getElem?_eq_none h] at hj; cases hj
      have h1 := List.all_eq_true.1 h j (List.mem_range.2 hjl)
      simp only [hlj, Bool.not_true, Bool.false_or] at h1
      have h2 := List.all_eq_true.1 h1 i (List.mem_range.2 hij)
      simp only [hli, Bool.not_true, Bool.false_or, Bool.or_eq_true, List.any_eq_true, List.mem_range, Bool.and_eq_true, Nat.blt_eq] at h2
      rcases h2 with h2 | ⟨k, hk, hik, hlk⟩
      · exact direct_listed hj h2 hall
      · -- k is loud between i and j: listed; and i is ahead of k
        have hkl := ih (j - k) (by omega) k rfl hk hlk
        have hks : k < ops.size := by omega
        have hko : ops[k]? = some ops[k] := by simp [hks]
        -- the same for k in place of j
        have key2 : ∀ d2 k, k - i = d2 → i < k → k < j → loud k = true → listed.getD k false = true → listed.getD i false = true := by
          intro d2
          induction d2 using Nat.strongRecOn with
          | _ d2 ih2 =>
            intro k hd2 hik hkj hlk hkl
            have hks : k < ops.size := by omega
            have hko : ops[k]? = some ops[k] := by simp [hks]
            have g1 := List.all_eq_true.1 h k (List.mem_range.2 hks)
            simp only [hlk, Bool.not_true, Bool.false_or] at g1
            have g2 := List.all_eq_true.1 g1 i (List.mem_range.2 hik)
            simp only [hli, Bool.not_true, Bool.false_or, Bool.or_eq_true, List.any_eq_true, List.mem_range, Bool.and_eq_true, Nat.blt_eq] at g2
            rcases g2 with g2 | ⟨k2, hk2, hik2, hlk2⟩
            · exact direct_listed hko g2 (down k _ hko hkl)
            · exact ih2 (k2 - i) (by omega) k2 rfl hik2 (by omega) hlk2 (ih (j - k2) (by omega) k2 rfl (by omega) hlk2)
        exact key2 (k - i) k rfl hik hk hlk hkl
  exact key _ i rfl hij hli

theorem cnt_rank {ops : Array Oper} {loud : Nat → Bool} {listed : Array Bool} (hc : chain ops loud = true) (down : ∀ (i : Nat) o, ops[i]? = some o → listed.getD i false = true → ∀ e ∈ o.after, Region.binds .any e = true → listed.getD e.on false = true)
    {i : Nat} {o : Oper} (hi : ops[i]? = some o) (hl : loud i = true) (hun : listed.getD i false = false) (hall : ∀ e ∈ o.after, Region.binds .any e = true → listed.getD e.on false = true) : cnt ops.size loud listed = rank ops.size loud i := by
  unfold cnt rank
  congr 1
  apply List.filter_congr
  intro j hj
  have hjs := List.mem_range.1 hj
  cases hlj : loud j with
  | false => rfl
  | true =>
    simp only [Bool.true_and]
    by_cases hji : j < i
    · rw [chain_spec hc down i o hi hl hall j hji hlj, decide_eq_true hji]
    · rw [decide_eq_false hji]
      by_cases e : j = i
      · subst e; exact hun
      · cases hx : listed.getD j false with
        | false => rfl
        | true =>
          have hjo : ops[j]? = some ops[j] := by simp [hjs]
          have := chain_spec hc down j _ hjo hlj (down j _ hjo hx) i (by omega) hl
          rw [hun] at this; cases this
theorem cnt_quiet {n : Nat} {loud : Nat → Bool} {listed : Array Bool} {i : Nat} (hl : loud i = false) : cnt n loud (listed.setIfInBounds i true) = cnt n loud listed := by
  unfold cnt
  congr 1
  apply List.filter_congr
  intro j _
  by_cases e : j = i
  · subst e; simp [hl]
  · have : ¬ i = j := fun h => e h.symm
    simp [Array.getElem?_setIfInBounds_ne this]
theorem cnt_loud {n : Nat} {loud : Nat → Bool} {listed : Array Bool} {i : Nat} (hs : listed.size = n) (hi : i < n) (hl : loud i = true) (hun : listed.getD i false = false) : cnt n loud (listed.setIfInBounds i true) = cnt n loud listed + 1 := by
  unfold cnt
  have : ∀ l : List Nat, l.Nodup → i ∈ l → (l.filter fun j => loud j && (listed.setIfInBounds i true).getD j false).length = (l.filter fun j => loud j && listed.getD j false).length + 1 := by
    intro l
    induction l with
    | nil => intro _ h; cases h
    | cons x l ih =>
      intro hnd hmem
      rw [List.nodup_cons] at hnd
      have heq : ∀ l : List Nat, i ∉ l → (l.filter fun j => loud j && (listed.setIfInBounds i true).getD j false) = (l.filter fun j => loud j && listed.getD j false) := by
        intro l hni
        apply List.filter_congr
        intro j hj
        have : ¬ i = j := fun e => hni (e ▸ hj)
        simp [Array.getElem?_setIfInBounds_ne this]
      rw [List.filter_cons, List.filter_cons]
      rcases List.mem_cons.1 hmem with rfl | hm
      · rw [heq l hnd.1, hl, hun, getD_set_self (by omega)]
        simp
      · have hne : ¬ i = x := fun e => hnd.1 (e ▸ hm)
        have hx : (listed.setIfInBounds i true).getD x false = listed.getD x false := by simp [Array.getElem?_setIfInBounds_ne hne]
        rw [hx]
        have := ih hnd.2 hm
        split
        · rw [List.length_cons, List.length_cons, this]
        · exact this
  exact this _ List.nodup_range (List.mem_range.2 hi)

theorem early_spec {ops : Array Oper} {loud : Nat → Bool} (hch : chain ops loud = true) {listed : Array Bool} (hls : listed.size = ops.size) (down : ∀ (i : Nat) o, ops[i]? = some o → listed.getD i false = true → ∀ e ∈ o.after, Region.binds .any e = true → listed.getD e.on false = true)
    {i : Nat} (he : earlyB ops loud i = true) (hun : listed.getD i false = false) : cnt ops.size loud listed = 0 := by
  have hops : ∀ j, listed.getD j false = true → ∃ o, ops[j]? = some o := fun j hj => by
    rcases Nat.lt_or_ge j ops.size with h | h
    · exact ⟨ops[j], by simp [h]⟩
    · rw [Array.getD_eq_getD_getElem?, Array.getElem?_eq_none (by omega)] at hj; cases hj
  have key : ∀ f, loud f = true → listed.getD f false = true → False := by
    intro f
    induction f using Nat.strongRecOn with
    | _ f ih =>
      intro hl hlf
      obtain ⟨of, hof⟩ := hops f hlf
      have hfs : f < ops.size := by
        rcases Nat.lt_or_ge f ops.size with h | h
        · exact h
        · rw [Array.getElem?_eq_none h] at hof; cases hof
      by_cases hany : (List.range f).any loud = true
      · obtain ⟨k, hk, hlk⟩ := List.any_eq_true.1 hany
        have hkf := List.mem_range.1 hk
        exact ih k hkf hlk (chain_spec hch down f of hof hl (down f of hof hlf) k hkf hlk)
      · have h1 := List.all_eq_true.1 he f (List.mem_range.2 hfs)
        rw [hl, Bool.eq_false_iff.2 hany] at h1
        simp only [Bool.not_true, Bool.false_or, Bool.or_eq_true, List.any_eq_true, List.mem_range, Bool.and_eq_true] at h1
        have : listed.getD i false = true := by
          rcases h1 with h1 | ⟨k, _, h2, h3⟩
          · exact direct_listed hof h1 (down f of hof hlf)
          · have hk := direct_listed hof h2 (down f of hof hlf)
            obtain ⟨ok, hok⟩ := hops k hk
            exact direct_listed hok h3 (down k ok hok hk)
        rw [hun] at this; cases this
  unfold cnt
  rw [List.length_eq_zero_iff, List.filter_eq_nil_iff]
  intro f _ h
  simp only [Bool.and_eq_true] at h
  exact key f h.1 h.2

/-- What op i reads, when it may come up. -/
theorem InvM.reads {D : Nat → Gh → World → Prop} {loud : Nat → Bool} {f0 : Tmp → Sm} {ops : Array Oper} {sp : Nat → Sm} {a0 a : Act} {listed : Array Bool} {g : Gh} {w : World} (I : InvM S0 w0 D ops sp loud a0 listed a g w) (C : Chk ops a0.tmps.size) (hf : ∀ t g w, (f0 t).ok g w (a0.tmps.getD t undef)) {i : Nat} {o : Oper} (hi : ops[i]? = some o)
    (hun : listed.getD i false = false) (hall : ∀ e ∈ o.after, Region.binds .any e = true → listed.getD e.on false = true) {t : Tmp} (ht : t ∈ tmpsOf o ++ guardTmp ops o) :
    ((frM ops sp f0 i) t).ok g w (a.tmps.getD t undef) := by
  by_cases hw : ∃ (j : Nat) (o' : Oper), ops[j]? = some o' ∧ o'.dst = some t ∧ j < i
  · obtain ⟨j, o', hj, hd, hlt⟩ := hw
    rw [frM_new hj hd i hlt (fun k o'' hk ho'' hd'' => hk (C.one k j o'' o' t ho'' hj hd hd''))]
    refine I.done j o' t hj hd ?_
    rcases C.read i j o o' t hi hj hd ht (by omega) with h1 | h1
    · exact direct_listed hi h1.2 hall
    · omega
  · rw [frM_old i (fun j o' hlt hj hd => hw ⟨j, o', hj, hd, hlt⟩)]
    rw [show a.tmps.getD t undef = a0.tmps.getD t undef from ?_]
    · exact hf t g w
    refine I.old t fun j o' hj hd => ?_
    by_cases hji : j = i
    · rw [hji]; exact hun
    · rcases C.read i j o o' t hi hj hd ht (fun e => hji e.symm) with h1 | h1
      · exact absurd ⟨j, o', hj, hd, h1.1⟩ hw
      · cases hl : listed.getD j false with
        | false => rfl
        | true =>
          have := direct_listed hj h1.2 (I.down j o' hj hl)
          rw [hun] at this; cases this

/-- Behind op i. -/
theorem InvM.step {D : Nat → Gh → World → Prop} {loud : Nat → Bool} {ops : Array Oper} {sp : Nat → Sm} {a0 a : Act} {listed : Array Bool} {g g' : Gh} {w w' : World} (I : InvM S0 w0 D ops sp loud a0 listed a g w) (C : Chk ops a0.tmps.size) {i : Nat} {o : Oper} (hi : ops[i]? = some o)
    (hall : ∀ e ∈ o.after, Region.binds .any e = true → listed.getD e.on false = true) (k : Tr g w g' w') (hb : Base S0 w0 g' w') (hd : D (cnt ops.size loud (listed.setIfInBounds i true)) g' w') {v : Value} (hv : (sp i).ok g' w' v) :
    InvM S0 w0 D ops sp loud a0 (listed.setIfInBounds i true) (a.put o.dst v) g' w' := by
  have hil : i < listed.size := by
    rw [I.ls]
    rcases Nat.lt_or_ge i ops.size with h | h
    · exact h
    · rw [Array.getElem?_eq_none h] at hi; cases hi
  have hput : ∀ t, o.dst ≠ some t → (a.put o.dst v).tmps.getD t undef = a.tmps.getD t undef := fun t ht => by
    unfold Act.put
    split
    · rename_i d hd
      have : d ≠ t := fun e => ht (by rw [hd, e])
      simp [Array.getElem?_setIfInBounds_ne this]
    · rfl
  refine ⟨I.keep.trans' k.keep (fun i hi hp => (I.base i hp).2 hi), hb, hd, ?_, ?_, by simp [I.ls], ?_, ?_, ?_⟩
  · unfold Act.put; split <;> exact I.defers
  · unfold Act.put; split <;> simp [I.size]
  · intro j oj hj hl e he hb
    by_cases hji : j = i
    · subst hji
      rw [hi] at hj; cases hj
      exact getD_set_of (hall e he hb)
    · refine getD_set_of (I.down j oj hj ?_ e he hb)
      have hij : ¬ i = j := fun e => hji e.symm
      simpa [Array.getElem?_setIfInBounds_ne hij] using hl
  · intro j oj d hj hd hl
    by_cases hji : j = i
    · subst hji
      rw [hi] at hj; cases hj
      have hdl : d < a.tmps.size := by rw [I.size]; exact C.inb j o d hi hd
      have : (a.put o.dst v).tmps.getD d undef = v := by simp [Act.put, hd, hdl]
      rw [this]; exact hv
    · have hne : o.dst ≠ some d := fun e => hji (C.one j i oj o d hj hi e hd)
      rw [hput d hne]
      have hij : ¬ i = j := fun e => hji e.symm
      exact Sm.ok_tr (I.done j oj d hj hd (by simpa [Array.getElem?_setIfInBounds_ne hij] using hl)) k
  · intro t ht
    have hne : o.dst ≠ some t := fun e => by
      have := ht i o hi e
      rw [getD_set_self hil] at this; cases this
    rw [hput t hne]
    refine I.old t fun j oj hj hd => ?_
    cases hl : listed.getD j false with
    | false => rfl
    | true =>
      have := ht j oj hj hd
      rw [getD_set_of hl] at this; cases this

theorem wantedM_of {ops : Array Oper} {fr : Tmp → Sm} {a : Act} {g0 : Gh} {w : World} {o : Oper} {n : Nat} {b : Bool} (hw : wantM ops fr o = some b) (hn : a.tmps.size = n) (hin : ∀ (i : Nat) (o : Oper) d, ops[i]? = some o → o.dst = some d → d < n)
    (hr : ∀ t ∈ guardTmp ops o, (fr t).ok g0 w (a.tmps.getD t undef)) : Region.wanted o (yielded ops a.tmps) = b := by
  unfold wantM at hw
  unfold Region.wanted
  split at hw
  · rename_i hg
    simp only [hg]
    exact Option.some.inj hw
  · rename_i j g hg
    simp only [hg]
    split at hw
    · rename_i d hd
      have hmem : d ∈ guardTmp ops o := by simp [guardTmp, hg, hd]
      have hok := hr d hmem
      rw [Option.bind_eq_some_iff] at hd
      obtain ⟨oj, hoj, hdj⟩ := hd
      have hdl : d < a.tmps.size := by rw [hn]; exact hin j oj d hoj hdj
      have hget : a.tmps[d]? = some (a.tmps.getD d undef) := by simp [hdl]
      have hy : yielded ops a.tmps j = match a.tmps.getD d undef with | .bool b => some b | _ => none := by
        unfold yielded
        simp only [hoj, Option.bind_some, hdj, hget]
        cases a.tmps.getD d undef <;> rfl
      rw [hy]
      split at hw
      · rename_i x hx
        rw [hx] at hok
        simp only [Sm.ok] at hok
        rw [hok]
        have := Option.some.inj hw
        subst this
        cases x <;> cases g <;> rfl
      · rename_i v hx hnb
        rw [hnb] at hok
        simp only [Sm.ok] at hok
        rw [hok]
        have := Option.some.inj hw
        subst this
        cases v <;> first | rfl | (rename_i bb; exact absurd rfl (hx bb))
      · cases hw
    · cases hw

theorem wpAny_relM {D : Nat → Gh → World → Prop} {loud : Nat → Bool} {f0 : Tmp → Sm} {ops : Array Oper} {Q : Exit → Act → World → Prop} {a0 : Act} {sp : Nat → Sm} (hch : chain ops loud = true) (hD : ∀ k g w w', Keep No w w' → D k g w → D k g w') (C : Chk ops a0.tmps.size) (hf0 : ∀ t g w, (f0 t).ok g w (a0.tmps.getD t undef))
    (hob : ∀ (i : Nat) o, ops[i]? = some o → ObM P S0 w0 D ops (frM ops sp f0 i) (sp i) (loud i) (earlyB ops loud i) (rank ops.size loud i) o)
    (hQ : ∀ a g w, Keep S0 w0 w → Base S0 w0 g w → D (rank ops.size loud ops.size) g w → a.defers = a0.defers → a.tmps.size = a0.tmps.size → (∀ t, (frM ops sp f0 ops.size t).ok g w (a.tmps.getD t undef)) → Q .normal a w) :
    ∀ (fuel : Nat) (listed : Array Bool) (a : Act) (g : Gh) (w : World), InvM S0 w0 D ops sp loud a0 listed a g w → (openOf ops.size listed).length ≤ fuel → wpAny P .any ops Q fuel listed a w := by
  have fin : ∀ (listed : Array Bool) (a : Act) (g : Gh) (w : World), InvM S0 w0 D ops sp loud a0 listed a g w → Region.ready .any ops listed = [] → Q .normal a w := by
    intro listed a g w I hr
    have hall := ready_of_open C I.ls hr
    have hcnt : cnt ops.size loud listed = rank ops.size loud ops.size := by
      unfold cnt rank
      congr 1
      apply List.filter_congr
      intro j hj
      have hjs := List.mem_range.1 hj
      rw [hall j hjs, decide_eq_true hjs]
    refine hQ a g w I.keep I.base (hcnt ▸ I.d) I.defers I.size fun t => ?_
    by_cases hw : ∃ (j : Nat) (o' : Oper), ops[j]? = some o' ∧ o'.dst = some t
    · obtain ⟨j, o', hj, hd⟩ := hw
      have hjl : j < ops.size := by
        rcases Nat.lt_or_ge j ops.size with h | h
        · exact h
        · rw [Array.getElem?_eq_none h] at hj; cases hj
      rw [frM_new hj hd ops.size hjl (fun k o'' hk ho'' hd'' => hk (C.one k j o'' o' t ho'' hj hd hd''))]
      exact I.done j o' t hj hd (hall j hjl)
    · rw [frM_old ops.size (fun j o' _ hj hd => hw ⟨j, o', hj, hd⟩)]
      rw [I.old t fun j o' hj hd => absurd ⟨j, o', hj, hd⟩ hw]
      exact hf0 t g w
  intro fuel
  induction fuel with
  | zero =>
    intro listed a g w I hf
    have hnil : openOf ops.size listed = [] := List.length_eq_zero_iff.1 (by omega)
    have hr : Region.ready .any ops listed = [] := by
      apply List.eq_nil_iff_forall_not_mem.2
      intro i hi
      have h1 := (mem_ready.1 hi).1
      obtain ⟨_, o, ho, _⟩ := mem_ready.1 hi
      have : i ∈ openOf ops.size listed := by
        have : i < ops.size := by
          rcases Nat.lt_or_ge i ops.size with h | h
          · exact h
          · rw [Array.getElem?_eq_none h] at ho; cases ho
        simp only [openOf, List.mem_filter, List.mem_range, Bool.not_eq_true']
        exact ⟨this, h1⟩
      rw [hnil] at this; cases this
    exact ⟨hr, fin listed a g w I hr⟩
  | succ fuel ih =>
    intro listed a g w I hf
    refine ⟨fin listed a g w I, fun i hi => ?_⟩
    obtain ⟨hun, o, ho, hall⟩ := mem_ready.1 hi
    have hil : i < ops.size := by
      rcases Nat.lt_or_ge i ops.size with h | h
      · exact h
      · rw [Array.getElem?_eq_none h] at ho; cases ho
    have hun' : listed.getD i false = false := by rw [← getD_tf (by rw [I.ls]; exact hil)]; exact hun
    have hmore := openOf_set I.ls hil hun
    have hreads := fun t ht => I.reads C hf0 ho hun' hall (t := t) ht
    have hO := hob i o ho
    unfold ObM at hO
    unfold wpOp
    simp only [ho]
    cases hw : wantM ops (frM ops sp f0 i) o with
    | none => rw [hw] at hO; exact hO.elim
    | some b =>
      have hwant := wantedM_of (g0 := g) (w := w) hw I.size C.inb (fun t ht => hreads t (List.mem_append.2 (.inr ht)))
      rw [hwant]
      cases b with
      | true =>
        rw [hw] at hO
        simp only [if_true]
        have hO' := hO a g w I.keep I.base (fun t ht => hreads t (List.mem_append.2 (.inl ht)))
        cases hl : loud i with
        | true =>
          rw [hl] at hO'
          simp only [if_true] at hO'
          have hcr := cnt_rank hch I.down ho hl hun' hall
          refine .inl (wp_of_outL (hO' (hcr ▸ I.d)) fun v g' w' htr hb hd hv => ?_)
          exact ih _ _ g' _ (I.step C ho hall htr hb (by rw [cnt_loud I.ls hil hl hun', hcr]; exact hd) hv) (by omega)
        | false =>
          rw [hl] at hO'
          simp only [Bool.false_eq_true, if_false] at hO'
          have hE : earlyB ops loud i = true → D 0 g w := fun he => early_spec hch I.ls I.down he hun' ▸ I.d
          refine .inl (wp_of_outQ (hO' hE) fun v w' k hv => ?_)
          exact ih _ _ g _ (I.step C ho hall (Tr.quiet k) (I.base.mono k) (by rw [cnt_quiet hl]; exact hD _ _ _ _ k I.d) hv) (by omega)
      | false =>
        rw [hw] at hO
        simp only [Bool.false_eq_true, if_false]
        exact ih _ _ g _ (I.step C ho hall (Tr.quiet (Keep.refl _ _)) I.base (by rw [cnt_quiet hO.2]; exact I.d) (v := undef) (by rw [hO.1]; rfl)) (by omega)

/-- A region that draws its order, with loud calls. -/
theorem region_relM {D : Nat → Gh → World → Prop} {loud : Nat → Bool} {f0 : Tmp → Sm} {id : Nat} {ops : Array Oper} {Q : Exit → Act → World → Prop} {a0 : Act} {sp : Nat → Sm} {g0 : Gh} (hm : P.follows .mixedOrders = true) (hc : chk ops a0.tmps.size = true) (hch : chain ops loud = true)
    (hD : ∀ k g w w', Keep No w w' → D k g w → D k g w') (hf : ∀ t g w, (f0 t).ok g w (a0.tmps.getD t undef)) (hb0 : Base S0 w0 g0 w0) (hd0 : D 0 g0 w0)
    (hob : ∀ (i : Nat) o, ops[i]? = some o → ObM P S0 w0 D ops (frM ops sp f0 i) (sp i) (loud i) (earlyB ops loud i) (rank ops.size loud i) o)
    (hQ : ∀ a g w, Keep S0 w0 w → Base S0 w0 g w → D (rank ops.size loud ops.size) g w → a.defers = a0.defers → a.tmps.size = a0.tmps.size → (∀ t, (frM ops sp f0 ops.size t).ok g w (a.tmps.getD t undef)) → Q .normal a w) :
    (Code.region id ops true).wp P Q a0 w0 := by
  have hz : cnt ops.size loud (Array.replicate ops.size false) = 0 := by
    unfold cnt
    rw [List.length_eq_zero_iff, List.filter_eq_nil_iff]
    intro j hj h
    simp [Array.getElem?_replicate] at h
    obtain ⟨_, h⟩ := h
    split at h <;> simp at h
  refine wp_region_any hm (wpAny_relM hch hD (chk_spec hc) hf hob hQ _ _ _ g0 _ ?_ ?_)
  · refine ⟨(Keep.refl _ _).drew, hb0.mono (Keep.refl _ _).drew, by rw [hz]; exact hD _ _ _ _ (Keep.refl _ _).drew hd0, rfl, rfl, by simp, ?_, ?_, fun _ _ => rfl⟩
    · intro i o _ h
      simp [Array.getElem?_replicate] at h
      split at h <;> simp at h
    · intro i o d _ _ h
      simp [Array.getElem?_replicate] at h
      split at h <;> simp at h
  · unfold openOf
    exact Nat.le_trans (List.length_filter_le _ _) (by simp)
end
end Go.Proofs.Ytpididcghilbjaa
