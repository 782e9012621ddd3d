/-
  A region that draws its order, whose operations leave old blocks alone: what is known of each operation's result serves every order. No condition.
-/
import Derived.Test.YtpididcghilbjaaBase
import Derived.Orders
namespace Go.Proofs.Ytpididcghilbjaa
open Go.RowKit

/-- What is known of a slot: its value, or a property that later worlds keep. -/
inductive Sv where
  | is (v : Value)
  | such (p : World → Value → Prop) (m : ∀ w w' x, Keep No w w' → p w x → p w' x)
def Sv.ok : Sv → World → Value → Prop
  | .is v, _, x => x = v
  | .such p _, w, x => p w x
theorem Sv.ok_keep {s : Sv} {w w' : World} {x : Value} (h : s.ok w x) (k : Keep No w w') : s.ok w' x := by
  cases s with
  | is v => exact h
  | such p m => exact m w w' x k h

/-- What an operation comes to. -/
def OutOK (P : Program) (s : Sv) (w : World) : Result Next → Prop
  | .ok (.value v) w' => Keep No w w' ∧ s.ok w' v
  | .ok .skip w' => Keep No w w' ∧ s.ok w' undef
  | .ok (.enter f args) w' => Keep No w w' ∧ Calls P f args w' (fun e w'' => ∃ v, e = .returned v ∧ Keep No w' w'' ∧ s.ok w'' v)
  | _ => False

section
variable {P : Program}
theorem wp_of_out {o : Oper} {a : Act} {w : World} {K : Act → World → Prop} {Q : Exit → Act → World → Prop} {s : Sv} (h : OutOK P s w ((execOp a.eval o).run P w))
    (hk : ∀ v w', Keep No w w' → s.ok w' v → K (a.put o.dst v) w') : o.wp P a w K Q := by
  unfold Oper.wp
  generalize (execOp a.eval o).run P w = r at *
  cases r with
  | ok n w' =>
    cases n <;> simp only [OutOK] at h <;> simp only [Oper.upon]
    case value v => exact hk _ _ h.1 h.2
    case skip => exact hk _ _ h.1 h.2
    case enter f args =>
      refine h.2.mono ?_
      rintro e w'' ⟨v, rfl, h2, h3⟩
      exact hk _ _ (h.1.trans h2) h3
  | halt x w' => simp only [OutOK] at h

/-! ### which operation waits for which -/
def direct (ops : Array Oper) (i j : Nat) : Bool := match ops[i]? with | some o => o.after.any (fun e => Region.binds .any e && e.on == j) | none => false
def tmpsOf (o : Oper) : List Tmp := o.op.operands.toList.filterMap fun | .tmp t => some t | _ => none
def guardTmp (ops : Array Oper) (o : Oper) : List Tmp := match o.guard with | some (j, _) => ((ops[j]?).bind (·.dst)).toList | none => []
def selectFree (o : Oper) : Bool := match o.op with | .select _ _ => false | _ => true
def chkPair (ops : Array Oper) (o : Oper) (i : Nat) (o' : Oper) (j : Nat) : Bool :=
  match o'.dst with
  | none => true
  | some d => i == j || (o.dst != some d && (!(tmpsOf o ++ guardTmp ops o).contains d || (if j < i then direct ops i j else direct ops j i)))
def chk (ops : Array Oper) (n : Nat) : Bool :=
  ops.toList.zipIdx.all fun (o, i) =>
    (o.after.all fun e => !Region.binds .any e || decide (e.on < i)) && (match o.dst with | some d => decide (d < n) | none => true) &&
    (match o.guard with | none => true | some (j, _) => direct ops i j) && selectFree o && ops.toList.zipIdx.all fun (o', j) => chkPair ops o i o' j

structure Chk (ops : Array Oper) (n : Nat) : Prop where
  back : ∀ (i : Nat) o, ops[i]? = some o → ∀ e ∈ o.after, Region.binds .any e = true → e.on < i
  inb : ∀ (i : Nat) (o : Oper) d, ops[i]? = some o → o.dst = some d → d < n
  gd : ∀ (i : Nat) (o : Oper) j b, ops[i]? = some o → o.guard = some (j, b) → direct ops i j = true
  sel : ∀ (i : Nat) (o : Oper), ops[i]? = some o → ∀ cs b, o.op ≠ .select cs b
  one : ∀ (i j : Nat) (o o' : Oper) d, ops[i]? = some o → ops[j]? = some o' → o'.dst = some d → o.dst = some d → i = j
  read : ∀ (i j : Nat) (o o' : Oper) d, ops[i]? = some o → ops[j]? = some o' → o'.dst = some d → d ∈ tmpsOf o ++ guardTmp ops o → i ≠ j → (j < i ∧ direct ops i j = true) ∨ (i < j ∧ direct ops j i = true)

theorem mem_zipIdx_of {l : List Oper} {i : Nat} {o : Oper} (h : l[i]? = some o) : (o, i) ∈ l.zipIdx := by
  rw [List.mem_iff_getElem?]
  exact ⟨i, by simp [List.getElem?_zipIdx, h]⟩

theorem chk_spec {ops : Array Oper} {n : Nat} (h : chk ops n = true) : Chk ops n := by
  unfold chk at h
  rw [List.all_eq_true] at h
  have key : ∀ (i : Nat) o, ops[i]? = some o → _ := fun i o hi => h (o, i) (mem_zipIdx_of (by simpa using hi))
  simp only [Bool.and_eq_true] at key
  have pair : ∀ (i j : Nat) (o o' : Oper), ops[i]? = some o → ops[j]? = some o' → chkPair ops o i o' j = true := fun i j o o' hi hj => by
    have := (key i o hi).2
    rw [List.all_eq_true] at this
    exact this (o', j) (mem_zipIdx_of (by simpa using hj))
  refine ⟨?_, ?_, ?_, ?_, ?_, ?_⟩
  · intro i o hi e he hb
    have := (key i o hi).1.1.1.1
    rw [Array.all_eq_true'] at this
    have := this e he
    simpa [hb] using this
  · intro i o d hi hd
    have := (key i o hi).1.1.1.2
    simpa [hd] using this
  · intro i o j b hi hg
    have := (key i o hi).1.1.2
    simpa [hg] using this
  · intro i o hi cs b hsel
    have := (key i o hi).1.2
    simp [selectFree, hsel] at this
  · intro i j o o' d hi hj hd' hd
    have := pair i j o o' hi hj
    simp [chkPair, hd', hd] at this
    exact this
  · intro i j o o' d hi hj hd' hm hne
    have := pair i j o o' hi hj
    simp only [chkPair, hd', Bool.or_eq_true, Bool.and_eq_true, beq_iff_eq, hne, false_or, Bool.not_eq_true', List.contains_eq_mem, decide_eq_false_iff_not] at this
    rcases this.2 with h1 | h1
    · exact absurd hm h1
    · split at h1
      · exact .inl ⟨by assumption, h1⟩
      · exact .inr ⟨by omega, h1⟩

/-! ### frames -/
def putF (f : Tmp → Sv) (d : Option Tmp) (s : Sv) : Tmp → Sv := match d with | some d => fun t => if Nat.beq t d = true then s else f t | none => f
theorem putF_same (f : Tmp → Sv) (t : Tmp) (s : Sv) : putF f (some t) s t = s := by simp [putF]
theorem putF_other (f : Tmp → Sv) {d : Option Tmp} {t : Tmp} (h : d ≠ some t) (s : Sv) : putF f d s t = f t := by
  cases d with
  | none => rfl
  | some d =>
    have : ¬ t = d := fun e => h (by rw [e])
    simp [putF, Nat.beq_eq, this]
def frAt (ops : Array Oper) (sp : Nat → Sv) (f0 : Tmp → Sv) : Nat → Tmp → Sv
  | 0 => f0
  | i + 1 => putF (frAt ops sp f0 i) ((ops[i]?).bind (·.dst)) (sp i)
theorem frAt_old {ops : Array Oper} {sp : Nat → Sv} {f0 : Tmp → Sv} {t : Tmp} : ∀ (i : Nat), (∀ (j : Nat) (o : Oper), j < i → ops[j]? = some o → o.dst ≠ some t) → frAt ops sp f0 i t = f0 t
  | 0, _ => rfl
  | i + 1, h => by
    have ih := frAt_old (sp := sp) (f0 := f0) i (fun j o hj => h j o (by omega))
    rw [← ih]
    simp only [frAt]
    cases ho : ops[i]? with
    | none => rfl
    | some o => exact putF_other _ (h i o (by omega) ho) _
theorem frAt_new {ops : Array Oper} {sp : Nat → Sv} {f0 : Tmp → Sv} {t : Tmp} {j : Nat} {o : Oper} (hj : ops[j]? = some o) (hd : o.dst = some t) :
    ∀ (i : Nat), j < i → (∀ (k : Nat) (o' : Oper), k ≠ j → ops[k]? = some o' → o'.dst ≠ some t) → frAt ops sp f0 i t = sp j
  | 0, h, _ => by omega
  | i + 1, h, hk => by
    by_cases hji : j = i
    · subst hji
      simp only [frAt, hj, Option.bind_some, hd]
      exact putF_same _ _ _
    · have ih := frAt_new (sp := sp) (f0 := f0) hj hd i (by omega) hk
      rw [← ih]
      simp only [frAt]
      cases ho : ops[i]? with
      | none => rfl
      | some o' => exact putF_other _ (hk i o' (fun e => hji e.symm) ho) _

/-- Is operation o carried out? -/
def want (ops : Array Oper) (fr : Tmp → Sv) (o : Oper) : Option Bool :=
  match o.guard with
  | none => some true
  | some (j, b) => match (ops[j]?).bind (·.dst) with
    | some d => match fr d with
      | .is (.bool g) => some (g == b)
      | .is _ => some false
      | _ => none
    | none => none

/-- What is asked of operation i. -/
def Ob (P : Program) (w0 : World) (ops : Array Oper) (fr : Tmp → Sv) (s : Sv) (o : Oper) : Prop :=
  match want ops fr o with
  | some true => ∀ (a : Act) (w : World), Keep No w0 w → (∀ t ∈ tmpsOf o, (fr t).ok w (a.tmps.getD t undef)) → OutOK P s w ((execOp a.eval o).run P w)
  | some false => s = .is undef
  | none => False

def frameOf (a : Act) : Tmp → Sv := fun t => .is (a.tmps.getD t undef)

structure Inv (w0 : World) (ops : Array Oper) (sp : Nat → Sv) (a0 : Act) (listed : Array Bool) (a : Act) (w : World) : Prop where
  keep : Keep No w0 w
  defers : a.defers = a0.defers
  size : a.tmps.size = a0.tmps.size
  ls : listed.size = ops.size
  down : ∀ (i : Nat) o, ops[i]? = some o → listed.getD i false = true → ∀ e ∈ o.after, Region.binds .any e = true → listed.getD e.on false = true
  done : ∀ (i : Nat) (o : Oper) d, ops[i]? = some o → o.dst = some d → listed.getD i false = true → (sp i).ok w (a.tmps.getD d undef)
  old : ∀ t, (∀ (i : Nat) (o : Oper), ops[i]? = some o → o.dst = some t → listed.getD i false = false) → a.tmps.getD t undef = a0.tmps.getD t undef

theorem direct_listed {ops : Array Oper} {listed : Array Bool} {i j : Nat} {o : Oper} (hi : ops[i]? = some o) (h : direct ops i j = true) (hd : ∀ e ∈ o.after, Region.binds .any e = true → listed.getD e.on false = true) : listed.getD j false = true := by
  simp only [direct, hi, Array.any_eq_true'] at h
  obtain ⟨e, he, h2⟩ := h
  simp only [Bool.and_eq_true, beq_iff_eq] at h2
  rw [← h2.2]
  exact hd e he h2.1

/-- What op i reads, when it may come up. -/
theorem Inv.reads {f0 : Tmp → Sv} {w0 : World} {ops : Array Oper} {sp : Nat → Sv} {a0 a : Act} {listed : Array Bool} {w : World} (I : Inv w0 ops sp a0 listed a w) (C : Chk ops a0.tmps.size) (hf : ∀ t w, (f0 t).ok w (a0.tmps.getD t undef)) {i : Nat} {o : Oper} (hi : ops[i]? = some o)
    (hun : listed.getD i false = false) (hall : ∀ e ∈ o.after, Region.binds .any e = true → listed.getD e.on false = true) {t : Tmp} (ht : t ∈ tmpsOf o ++ guardTmp ops o) :
    ((frAt ops sp f0 i) t).ok w (a.tmps.getD t undef) := by
  by_cases hw : ∃ (j : Nat) (o' : Oper), ops[j]? = some o' ∧ o'.dst = some t ∧ j < i
  · obtain ⟨j, o', hj, hd, hlt⟩ := hw
    rw [frAt_new hj hd i hlt (fun k o'' hk ho'' hd'' => hk (C.one k j o'' o' t ho'' hj hd hd''))]
    refine I.done j o' t hj hd ?_
    rcases C.read i j o o' t hi hj hd ht (by omega) with h1 | h1
    · exact direct_listed hi h1.2 hall
    · omega
  · rw [frAt_old i (fun j o' hlt hj hd => hw ⟨j, o', hj, hd, hlt⟩)]
    rw [show a.tmps.getD t undef = a0.tmps.getD t undef from ?_]
    · exact hf t w
    refine I.old t fun j o' hj hd => ?_
    by_cases hji : j = i
    · rw [hji]; exact hun
    · rcases C.read i j o o' t hi hj hd ht (fun e => hji e.symm) with h1 | h1
      · exact absurd ⟨j, o', hj, hd, h1.1⟩ hw
      · cases hl : listed.getD j false with
        | false => rfl
        | true =>
          have := direct_listed hj h1.2 (I.down j o' hj hl)
          rw [hun] at this; cases this

theorem getD_set_self {l : Array Bool} {i : Nat} (h : i < l.size) (b : Bool) : (l.setIfInBounds i true).getD i b = true := by simp [h]
theorem getD_set_of {l : Array Bool} {i j : Nat} {b : Bool} (h : l.getD j b = true) : (l.setIfInBounds i true).getD j b = true := by
  by_cases hij : i = j
  · subst hij
    by_cases hs : i < l.size
    · exact getD_set_self hs b
    · simpa [Array.setIfInBounds, hs] using h
  · simpa [Array.getElem?_setIfInBounds_ne hij] using h

/-- Behind op i. -/
theorem Inv.step {w0 : World} {ops : Array Oper} {sp : Nat → Sv} {a0 a : Act} {listed : Array Bool} {w w' : World} (I : Inv w0 ops sp a0 listed a w) (C : Chk ops a0.tmps.size) {i : Nat} {o : Oper} (hi : ops[i]? = some o)
    (hall : ∀ e ∈ o.after, Region.binds .any e = true → listed.getD e.on false = true) (k : Keep No w w') {v : Value} (hv : (sp i).ok w' v) :
    Inv w0 ops sp a0 (listed.setIfInBounds i true) (a.put o.dst v) w' := by
  have hil : i < listed.size := by
    rw [I.ls]
    rcases Nat.lt_or_ge i ops.size with h | h
    · exact h
    · rw [Array.getElem?_eq_none h] at hi; cases hi
  have hput : ∀ t, o.dst ≠ some t → (a.put o.dst v).tmps.getD t undef = a.tmps.getD t undef := fun t ht => by
    unfold Act.put
    split
    · rename_i d hd
      have : d ≠ t := fun e => ht (by rw [hd, e])
      simp [Array.getElem?_setIfInBounds_ne this]
    · rfl
  refine ⟨I.keep.trans k, ?_, ?_, by simp [I.ls], ?_, ?_, ?_⟩
  · unfold Act.put; split <;> exact I.defers
  · unfold Act.put; split <;> simp [I.size]
  · intro j oj hj hl e he hb
    by_cases hji : j = i
    · subst hji
      rw [hi] at hj; cases hj
      exact getD_set_of (hall e he hb)
    · refine getD_set_of (I.down j oj hj ?_ e he hb)
      have hij : ¬ i = j := fun e => hji e.symm
      simpa [Array.getElem?_setIfInBounds_ne hij] using hl
  · intro j oj d hj hd hl
    by_cases hji : j = i
    · subst hji
      rw [hi] at hj; cases hj
      have hdl : d < a.tmps.size := by rw [I.size]; exact C.inb j o d hi hd
      have : (a.put o.dst v).tmps.getD d undef = v := by simp [Act.put, hd, hdl]
      rw [this]; exact hv
    · have hne : o.dst ≠ some d := fun e => hji (C.one j i oj o d hj hi e hd)
      rw [hput d hne]
      have hij : ¬ i = j := fun e => hji e.symm
      exact Sv.ok_keep (I.done j oj d hj hd (by simpa [Array.getElem?_setIfInBounds_ne hij] using hl)) k
  · intro t ht
    have hne : o.dst ≠ some t := fun e => by
      have := ht i o hi e
      rw [getD_set_self hil] at this; cases this
    rw [hput t hne]
    refine I.old t fun j oj hj hd => ?_
    cases hl : listed.getD j false with
    | false => rfl
    | true =>
      have := ht j oj hj hd
      rw [getD_set_of hl] at this; cases this

theorem wanted_of {ops : Array Oper} {fr : Tmp → Sv} {a : Act} {w : World} {o : Oper} {n : Nat} {b : Bool} (hw : want ops fr o = some b) (hn : a.tmps.size = n) (hin : ∀ (i : Nat) (o : Oper) d, ops[i]? = some o → o.dst = some d → d < n)
    (hr : ∀ t ∈ guardTmp ops o, (fr t).ok w (a.tmps.getD t undef)) : Region.wanted o (yielded ops a.tmps) = b := by
  unfold want at hw
  unfold Region.wanted
  split at hw
  · rename_i hg
    simp only [hg]
    exact Option.some.inj hw
  · rename_i j g hg
    simp only [hg]
    split at hw
    · rename_i d hd
      have hmem : d ∈ guardTmp ops o := by simp [guardTmp, hg, hd]
      have hok := hr d hmem
      rw [Option.bind_eq_some_iff] at hd
      obtain ⟨oj, hoj, hdj⟩ := hd
      have hdl : d < a.tmps.size := by rw [hn]; exact hin j oj d hoj hdj
      have hget : a.tmps[d]? = some (a.tmps.getD d undef) := by simp [hdl]
      have hy : yielded ops a.tmps j = match a.tmps.getD d undef with | .bool b => some b | _ => none := by
        unfold yielded
        simp only [hoj, Option.bind_some, hdj, hget]
        cases a.tmps.getD d undef <;> rfl
      rw [hy]
      split at hw
      · rename_i x hx
        rw [hx] at hok
        simp only [Sv.ok] at hok
        rw [hok]
        have := Option.some.inj hw
        subst this
        cases x <;> cases g <;> rfl
      · rename_i v hx hnb
        rw [hnb] at hok
        simp only [Sv.ok] at hok
        rw [hok]
        have := Option.some.inj hw
        subst this
        cases v <;> first | rfl | (rename_i bb; exact absurd rfl (hx bb))
      · cases hw
    · cases hw

def openOf (n : Nat) (listed : Array Bool) : List Nat := (List.range n).filter fun i => !listed.getD i true

theorem openOf_set {n i : Nat} {listed : Array Bool} (hs : listed.size = n) (hi : i < n) (hu : listed.getD i true = false) : (openOf n (listed.setIfInBounds i true)).length < (openOf n listed).length := by
  unfold openOf
  have hsub : ∀ l : List Nat, l.Nodup → i ∈ l → (l.filter fun j => !(listed.setIfInBounds i true).getD j true).length < (l.filter fun j => !listed.getD j true).length := by
    intro l
    induction l with
    | nil => intro _ h; cases h
    | cons x l ih =>
      intro hnd hmem
      have hle : ∀ l : List Nat, (l.filter fun j => !(listed.setIfInBounds i true).getD j true).length ≤ (l.filter fun j => !listed.getD j true).length := by
        intro l
        induction l with
        | nil => exact Nat.le_refl _
        | cons y l ih2 =>
          rw [List.filter_cons, List.filter_cons]
          cases hl : listed.getD y true with
          | true => rw [getD_set_of hl]; exact ih2
          | false =>
            rw [if_pos (show (!false) = true from rfl), List.length_cons]
            split
            · rw [List.length_cons]; omega
            · omega
      rw [List.nodup_cons] at hnd
      rw [List.filter_cons, List.filter_cons]
      rcases List.mem_cons.1 hmem with rfl | hm
      · rw [getD_set_self (by omega), hu]
        have := hle l
        rw [if_neg (show ¬ (!true) = true by decide), if_pos (show (!false) = true from rfl), List.length_cons]
        omega
      · have := ih hnd.2 hm
        cases hl : listed.getD x true with
        | true => rw [getD_set_of hl, if_neg (show ¬ (!true) = true by decide), if_neg (show ¬ (!true) = true by decide)]; exact this
        | false =>
          rw [if_pos (show (!false) = true from rfl), List.length_cons]
          split
          · rw [List.length_cons]; omega
          · omega
  exact hsub _ List.nodup_range (by simp [hi])

theorem getD_tf {l : Array Bool} {i : Nat} (h : i < l.size) : l.getD i true = l.getD i false := by simp [h]

/-- One that may come up there is, while one is open. -/
theorem ready_of_open {ops : Array Oper} {listed : Array Bool} {n : Nat} (C : Chk ops n) (hs : listed.size = ops.size) (h : Region.ready .any ops listed = []) : ∀ i, i < ops.size → listed.getD i false = true := by
  intro i
  induction i using Nat.strongRecOn with
  | _ i ih =>
    intro hi
    cases hl : listed.getD i false with
    | true => rfl
    | false =>
      have hoi : ops[i]? = some ops[i] := by simp [hi]
      have : i ∈ Region.ready .any ops listed := by
        rw [mem_ready]
        refine ⟨by rw [getD_tf (by omega)]; exact hl, _, hoi, fun e he hb => ?_⟩
        have := C.back i _ hoi e he hb
        exact ih e.on this (by omega)
      rw [h] at this; cases this

theorem wpAny_rel {f0 : Tmp → Sv} {ops : Array Oper} {Q : Exit → Act → World → Prop} {a0 : Act} {w0 : World} {sp : Nat → Sv} (C : Chk ops a0.tmps.size) (hf0 : ∀ t w, (f0 t).ok w (a0.tmps.getD t undef))
    (hob : ∀ (i : Nat) o, ops[i]? = some o → Ob P w0 ops (frAt ops sp f0 i) (sp i) o)
    (hQ : ∀ a w, Keep No w0 w → a.defers = a0.defers → a.tmps.size = a0.tmps.size → (∀ t, ((frAt ops sp f0 ops.size) t).ok w (a.tmps.getD t undef)) → Q .normal a w) :
    ∀ (fuel : Nat) (listed : Array Bool) (a : Act) (w : World), Inv w0 ops sp a0 listed a w → (openOf ops.size listed).length ≤ fuel → wpAny P .any ops Q fuel listed a w := by
  have fin : ∀ (listed : Array Bool) (a : Act) (w : World), Inv w0 ops sp a0 listed a w → Region.ready .any ops listed = [] → Q .normal a w := by
    intro listed a w I hr
    have hall := ready_of_open C I.ls hr
    refine hQ a w I.keep I.defers I.size fun t => ?_
    by_cases hw : ∃ (j : Nat) (o' : Oper), ops[j]? = some o' ∧ o'.dst = some t
    · obtain ⟨j, o', hj, hd⟩ := hw
      have hjl : j < ops.size := by
        rcases Nat.lt_or_ge j ops.size with h | h
        · exact h
        · rw [Array.getElem?_eq_none h] at hj; cases hj
      rw [frAt_new hj hd ops.size hjl (fun k o'' hk ho'' hd'' => hk (C.one k j o'' o' t ho'' hj hd hd''))]
      exact I.done j o' t hj hd (hall j hjl)
    · rw [frAt_old ops.size (fun j o' _ hj hd => hw ⟨j, o', hj, hd⟩)]
      rw [I.old t fun j o' hj hd => absurd ⟨j, o', hj, hd⟩ hw]
      exact hf0 t w
  intro fuel
  induction fuel with
  | zero =>
    intro listed a w I hf
    have hnil : openOf ops.size listed = [] := List.length_eq_zero_iff.1 (by omega)
    have hr : Region.ready .any ops listed = [] := by
      apply List.eq_nil_iff_forall_not_mem.2
      intro i hi
      have h1 := (mem_ready.1 hi).1
      obtain ⟨_, o, ho, _⟩ := mem_ready.1 hi
      have : i ∈ openOf ops.size listed := by
        have : i < ops.size := by
          rcases Nat.lt_or_ge i ops.size with h | h
          · exact h
          · rw [Array.getElem?_eq_none h] at ho; cases ho
        simp only [openOf, List.mem_filter, List.mem_range, Bool.not_eq_true']
        exact ⟨this, h1⟩
      rw [hnil] at this; cases this
    exact ⟨hr, fin listed a w I hr⟩
  | succ fuel ih =>
    intro listed a w I hf
    refine ⟨fin listed a w I, fun i hi => ?_⟩
    obtain ⟨hun, o, ho, hall⟩ := mem_ready.1 hi
    have hil : i < ops.size := by
      rcases Nat.lt_or_ge i ops.size with h | h
      · exact h
      · rw [Array.getElem?_eq_none h] at ho; cases ho
    have hun' : listed.getD i false = false := by rw [← getD_tf (by rw [I.ls]; exact hil)]; exact hun
    have hmore := openOf_set I.ls hil hun
    have hreads := fun t ht => I.reads C hf0 ho hun' hall (t := t) ht
    have hO := hob i o ho
    unfold Ob at hO
    unfold wpOp
    simp only [ho]
    cases hw : want ops (frAt ops sp f0 i) o with
    | none => rw [hw] at hO; exact hO.elim
    | some b =>
      have hwant := wanted_of (w := w) hw I.size C.inb (fun t ht => hreads t (List.mem_append.2 (.inr ht)))
      rw [hwant]
      cases b with
      | true =>
        rw [hw] at hO
        simp only [if_true]
        refine .inl (wp_of_out (hO a w I.keep (fun t ht => hreads t (List.mem_append.2 (.inl ht)))) fun v w' k hv => ?_)
        exact ih _ _ _ (I.step C ho hall k hv) (by omega)
      | false =>
        rw [hw] at hO
        simp only [Bool.false_eq_true, if_false]
        exact ih _ _ _ (I.step C ho hall (Keep.refl _ _) (v := undef) (by rw [hO]; rfl)) (by omega)

/-- A region that draws its order, or does not. -/
theorem region_rel {f0 : Tmp → Sv} {id : Nat} {ops : Array Oper} {Q : Exit → Act → World → Prop} {a0 : Act} {w0 : World} {sp : Nat → Sv} (hm : P.follows .mixedOrders = true) (hc : chk ops a0.tmps.size = true) (hf0 : ∀ t w, (f0 t).ok w (a0.tmps.getD t undef))
    (hob : ∀ (i : Nat) o, ops[i]? = some o → Ob P w0 ops (frAt ops sp f0 i) (sp i) o)
    (hQ : ∀ a w, Keep No w0 w → a.defers = a0.defers → a.tmps.size = a0.tmps.size → (∀ t, ((frAt ops sp f0 ops.size) t).ok w (a.tmps.getD t undef)) → Q .normal a w) :
    (Code.region id ops true).wp P Q a0 w0 := by
  refine wp_region_any hm (wpAny_rel (chk_spec hc) hf0 hob hQ _ _ _ _ ?_ ?_)
  · refine ⟨(Keep.refl _ _).drew, rfl, rfl, by simp, ?_, ?_, fun _ _ => rfl⟩
    · intro i o _ h
      simp [Array.getElem?_replicate] at h
      split at h <;> simp at h
    · intro i o d _ _ h
      simp [Array.getElem?_replicate] at h
      split at h <;> simp at h
  · unfold openOf
    exact Nat.le_trans (List.length_filter_le _ _) (by simp)
end
end Go.Proofs.Ytpididcghilbjaa
