/-
  A region in any order with loud calls, reckoned. No condition.
-/
import Derived.Test.YtpididcghilbjaaRelM
namespace Go.Proofs.Ytpididcghilbjaa
open Go.RowKit

section
variable {P : Program} {S0 : Nat → Prop} {w0 : World}
def toSv : Sm → Sv | .is v => .is v | .such _ _ => .such (fun _ _ => True) (fun _ _ _ _ _ => trivial)
theorem toSv_ok {s : Sm} {g : Gh} {w : World} {x : Value} (h : s.ok g w x) : (toSv s).ok w x := by
  cases s with
  | is v => exact h
  | such p m => trivial
def opSm (fr : Tmp → Sm) : Operand → Sm
  | .tmp t => fr t
  | .const v => .is v
  | .global g => .is (.pointer (some ⟨g, 0, none⟩))
  | .func f => .is (.func (.func f) #[] #[])
theorem opSm_eval {fr : Tmp → Sm} {a : Act} {g : Gh} {w : World} {o : Oper} (h : ∀ t ∈ tmpsOf o, (fr t).ok g w (a.tmps.getD t undef)) {x : Operand} (hx : x ∈ o.op.operands) : (opSm fr x).ok g w (a.eval x) := by
  cases x with
  | tmp t => exact h t (List.mem_filterMap.2 ⟨.tmp t, by simpa using hx, rfl⟩)
  | const v => rfl
  | global g => rfl
  | func f => rfl
def allOkM : List Sm → Gh → World → List Value → Prop
  | [], _, _, [] => True
  | s :: l, g, w, v :: vs => s.ok g w v ∧ allOkM l g w vs
  | _, _, _, _ => False
theorem allOkM_map {fr : Tmp → Sm} {a : Act} {g : Gh} {w : World} : ∀ (l : List Operand), (∀ x ∈ l, (opSm fr x).ok g w (a.eval x)) → allOkM (l.map (opSm fr)) g w (l.map a.eval)
  | [], _ => trivial
  | x :: l, h => ⟨h x (by simp), allOkM_map l fun y hy => h y (by simp [hy])⟩

inductive HintM where
  | is (v : Value)
  | bin (v : Value)
  | sem (v : Value)
  | call (s : Sm)
  | loud (s : Sm)
  | act (s : Sm)
  | by (s : Sm)
  | new (s : Sm)
  | early (s : Sm)
def isLoud : Option HintM → Bool | some (.loud _) | some (.act _) => true | _ => false
/-- Owed for a comparison, an inner run, a call, a loud call, any operation. -/
def SemM (P : Program) (S0 : Nat → Prop) (w0 : World) (s : Sem Value) (v : Value) : Prop := ∀ w, Keep S0 w0 w → s.run P w = .ok v w
def CallM (P : Program) (S0 : Nat → Prop) (w0 : World) (f : FuncId) (args : List Sm) (s : Sm) : Prop :=
  ∀ g w vals, Keep S0 w0 w → Base S0 w0 g w → allOkM args g w vals → Calls P f vals.toArray w (fun e w' => ∃ v, e = .returned v ∧ Keep No w w' ∧ s.ok g w' v)
def LoudM (P : Program) (S0 : Nat → Prop) (w0 : World) (D : Nat → Gh → World → Prop) (r : Nat) (f : FuncId) (args : List Sm) (s : Sm) : Prop :=
  ∀ g w vals, Keep S0 w0 w → Base S0 w0 g w → D r g w → allOkM args g w vals → Calls P f vals.toArray w (fun e w' => ∃ v g', e = .returned v ∧ Tr g w g' w' ∧ Base S0 w0 g' w' ∧ D (r + 1) g' w' ∧ s.ok g' w' v)
/-- Owed for a loud operation that is no call. -/
def ActM (P : Program) (S0 : Nat → Prop) (w0 : World) (D : Nat → Gh → World → Prop) (r : Nat) (op : Op) (ty : TypeId) (reads : List (Tmp × Sm)) (s : Sm) : Prop :=
  ∀ (a : Act) (o : Oper) (g : Gh) w, o.op = op → o.type = ty → Keep S0 w0 w → Base S0 w0 g w → D r g w → (∀ q ∈ reads, q.2.ok g w (a.tmps.getD q.1 undef)) → OutL P S0 w0 (D (r + 1)) s g w ((execOp a.eval o).run P w)
def ByM (P : Program) (S0 : Nat → Prop) (w0 : World) (op : Op) (ty : TypeId) (reads : List (Tmp × Sm)) (s : Sm) : Prop :=
  ∀ (a : Act) (o : Oper) (g : Gh) w, o.op = op → o.type = ty → Keep S0 w0 w → Base S0 w0 g w → (∀ q ∈ reads, q.2.ok g w (a.tmps.getD q.1 undef)) → OutQ P s g w ((execOp a.eval o).run P w)

/-- Owed for an operation that stands ahead of the first loud one. -/
def EarlyM (P : Program) (S0 : Nat → Prop) (w0 : World) (D : Nat → Gh → World → Prop) (op : Op) (ty : TypeId) (reads : List (Tmp × Sm)) (s : Sm) : Prop :=
  ∀ (a : Act) (o : Oper) (g : Gh) w, o.op = op → o.type = ty → Keep S0 w0 w → Base S0 w0 g w → D 0 g w → (∀ q ∈ reads, q.2.ok g w (a.tmps.getD q.1 undef)) → OutQ P s g w ((execOp a.eval o).run P w)

/-- The inner run of an operation that makes memory. -/
def semNew (ρ : Operand → Value) (o : Oper) : Option (Sem Value) :=
  match o.op with
  | .buildSlice t len parts => some (Instr.buildSlice t len (parts.map fun (i, x) => (i, ρ x)))
  | .box e x => some (Instr.box e (ρ x))
  | .alloc e => some (Instr.alloc e true (.tuple #[]))
  | _ => none
theorem semNew_run {ρ : Operand → Value} {o : Oper} {s : Sem Value} {v : Value} {w w' : World} (h : semNew ρ o = some s) (hr : s.run P w = .ok v w') : (execOp ρ o).run P w = .ok (.value v) w' := by
  unfold semNew at h
  unfold execOp
  split at h <;> first | (cases h; done) | skip
  all_goals
    rename_i hop
    cases h
    simp only [hop, Sem.run_bind, Sem.run_pure]
    rw [hr]
    rfl
def NewM (P : Program) (S0 : Nat → Prop) (w0 : World) (q : Sem Value) (s : Sm) : Prop := ∀ g w, Keep S0 w0 w → Base S0 w0 g w → ∃ v w', q.run P w = .ok v w' ∧ Keep No w w' ∧ s.ok g w' v

def evM1 (P : Program) (S0 : Nat → Prop) (w0 : World) (D : Nat → Gh → World → Prop) (ops : Array Oper) (rows : List Row) (gt : Nat → Option Nat) (fr : Tmp → Sm) (tags : Tmp → Option Nat) (h : Option HintM) (r : Nat) (ear : Bool) (o : Oper) : Option (Sm × Prop × List (Nat × Nat)) :=
  match wantM ops fr o with
  | none => none
  | some false => if isLoud h then none else some (.is undef, True, [])
  | some true => match h with
    | none => match plain P rows tags gt (fun t => toSv (fr t)) o with
      | some (v, d) => some (.is v, True, d.blks)
      | none => none
    | some (.is v') => match plain P rows tags gt (fun t => toSv (fr t)) o with
      | some (v, d) => some (.is v', v = v', d.blks)
      | none => none
    | some (.sem v') => if (tmpsOf o).all (fun t => isIs (toSv (fr t))) then match semOf (fun x => toV (opSv (fun t => toSv (fr t)) x)) o with
        | some s => some (.is v', SemM P S0 w0 s v', [])
        | none => none
      else none
    | some (.bin v') => match o.op with
      | .binOp op t x y _ => if (tmpsOf o).all (fun t => isIs (toSv (fr t))) then
          match aRun P none (eqGuard op t x y (toV (opSv (fun t => toSv (fr t)) x)) (toV (opSv (fun t => toSv (fr t)) y))) with
          | some _ => some (.is v', SemM P S0 w0 (binOp op t (toV (opSv (fun t => toSv (fr t)) x)) (toV (opSv (fun t => toSv (fr t)) y))) v', [])
          | none => none
        else none
      | _ => none
    | some (.call s) => match o.op with
      | .call { callee := .value (.func f), args := args, argTypes := _ } => if callOk P f then some (s, CallM P S0 w0 f (args.toList.map (opSm fr)) s, []) else none
      | _ => none
    | some (.loud s) => match o.op with
      | .call { callee := .value (.func f), args := args, argTypes := _ } => if callOk P f then some (s, LoudM P S0 w0 D r f (args.toList.map (opSm fr)) s, []) else none
      | _ => none
    | some (.act s) => some (s, ActM P S0 w0 D r o.op o.type ((tmpsOf o).map (fun t => (t, fr t))) s, [])
    | some (.by s) => some (s, ByM P S0 w0 o.op o.type ((tmpsOf o).map (fun t => (t, fr t))) s, [])
    | some (.new s) => if (tmpsOf o).all (fun t => isIs (toSv (fr t))) then match semNew (fun x => toV (opSv (fun t => toSv (fr t)) x)) o with
        | some q => some (s, NewM P S0 w0 q s, [])
        | none => none
      else none
    | some (.early s) => if ear then some (s, EarlyM P S0 w0 D o.op o.type ((tmpsOf o).map (fun t => (t, fr t))) s, []) else none

theorem evM1_ob {D : Nat → Gh → World → Prop} {ops : Array Oper} {rows : List Row} {gt : Nat → Option Nat} {fr : Tmp → Sm} {tags : Tmp → Option Nat} {h : Option HintM} {r : Nat} {ear : Bool} {o : Oper} {s : Sm} {p : Prop} {bl : List (Nat × Nat)}
    (he : evM1 P S0 w0 D ops rows gt fr tags h r ear o = some (s, p, bl)) (hp : p) (hb : ∀ q ∈ bl, q.1 = q.2) (hr : ∀ w, Keep S0 w0 w → Rows w rows) (hs : ∀ cs b, o.op ≠ .select cs b) : ObM P S0 w0 D ops fr s (isLoud h) ear r o := by
  unfold evM1 at he
  unfold ObM
  have paid : ∀ {d : Owed}, bl = d.blks → Paid P w0 { blks := d.blks } := fun e => ⟨(by intro _ h; cases h), fun q hq => hb q (by rw [e]; exact hq), (by intro _ h; cases h), (by intro _ h; cases h), (by intro _ h; cases h), (by intro _ h; cases h)⟩
  have prun : ∀ {v : Value} {d : Owed}, plain P rows tags gt (fun t => toSv (fr t)) o = some (v, d) → bl = d.blks → ∀ {a : Act} {g : Gh} {w : World}, Keep S0 w0 w → (∀ t ∈ tmpsOf o, (fr t).ok g w (a.tmps.getD t undef)) → (execOp a.eval o).run P w = .ok (.value v) w := by
    intro v d hpl hbl a g w k ha
    have hd : d = { blks := d.blks } := by
      unfold plain at hpl
      split at hpl
      · split at hpl
        · split at hpl <;> cases hpl; rfl
        · split at hpl <;> cases hpl; rfl
      · cases hpl
    rw [hd] at hpl
    exact plain_run hpl (paid hbl) (hr w k) hs (fun t ht => toSv_ok (ha t ht))
  split at he
  · cases he
  · split at he
    · cases he
    · rename_i hw hl
      cases he
      rw [hw]
      exact ⟨rfl, by simpa using hl⟩
  · rename_i hw
    rw [hw]
    intro a g w k hbase ha
    have hav : ∀ t ∈ tmpsOf o, (toSv (fr t)).ok w (a.tmps.getD t undef) := fun t ht => toSv_ok (ha t ht)
    split at he
    · split at he
      · rename_i v d hpl
        cases he
        simp only [isLoud, Bool.false_eq_true, if_false]
        intro _
        rw [prun hpl rfl k ha]
        exact ⟨Keep.refl _ _, rfl⟩
      · cases he
    · split at he
      · rename_i v d hpl
        cases he
        simp only [isLoud, Bool.false_eq_true, if_false]
        intro _
        rw [prun hpl rfl k ha]
        exact ⟨Keep.refl _ _, hp⟩
      · cases he
    · split at he
      · rename_i hall
        split at he
        · rename_i q hq
          cases he
          simp only [isLoud, Bool.false_eq_true, if_false]
          intro _
          rw [execOp_congr o hs (fun x hx => toV_eval hav hall hx), semOf_run hq (hp w k)]
          exact ⟨Keep.refl _ _, rfl⟩
        · cases he
      · cases he
    · split at he
      · rename_i op t x y yt hop
        split at he
        · rename_i hall
          split at he
          · rename_i gg hg
            cases he
            simp only [isLoud, Bool.false_eq_true, if_false]
            intro _
            have h1 : a.eval x = toV (opSv (fun t => toSv (fr t)) x) := toV_eval hav hall (by rw [hop]; simp [Op.operands])
            have h2 : a.eval y = toV (opSv (fun t => toSv (fr t)) y) := toV_eval hav hall (by rw [hop]; simp [Op.operands])
            have h3 := hp w k
            have h4 : (eqGuard op t x y (toV (opSv (fun t => toSv (fr t)) x)) (toV (opSv (fun t => toSv (fr t)) y))).run P w = .ok gg.1 w := aRun_none (l := gg.2) hg
            unfold execOp
            simp only [hop, h1, h2, Sem.run_bind, h4, Result.andThen_ok, h3, Sem.run_pure]
            exact ⟨Keep.refl _ _, rfl⟩
          · cases he
        · cases he
      · cases he
    · split at he
      · rename_i f args ts hop
        split at he
        · rename_i hk
          cases he
          simp only [isLoud, Bool.false_eq_true, if_false]
          intro _
          rw [run_call hop rfl hk]
          refine ⟨Keep.refl _ _, ?_⟩
          have hc := hp g w (args.toList.map a.eval) k hbase (allOkM_map _ fun x hx => opSm_eval ha (by rw [hop]; simp [Op.operands, Call.operands]; exact .inr (by simpa using hx)))
          have e : (args.toList.map a.eval).toArray = args.map a.eval := by apply Array.ext'; simp
          rw [e] at hc
          exact hc
        · cases he
      · cases he
    · split at he
      · rename_i f args ts hop
        split at he
        · rename_i hk
          cases he
          simp only [isLoud, if_true]
          intro hd
          rw [run_call hop rfl hk]
          refine ⟨rfl, ?_⟩
          have hc := hp g w (args.toList.map a.eval) k hbase hd (allOkM_map _ fun x hx => opSm_eval ha (by rw [hop]; simp [Op.operands, Call.operands]; exact .inr (by simpa using hx)))
          have e : (args.toList.map a.eval).toArray = args.map a.eval := by apply Array.ext'; simp
          rw [e] at hc
          exact hc
        · cases he
      · cases he
    · cases he
      simp only [isLoud, if_true]
      intro hd
      exact hp a o g w rfl rfl k hbase hd (fun q hq => by
        obtain ⟨t, ht, rfl⟩ := List.mem_map.1 hq
        exact ha t ht)
    · cases he
      simp only [isLoud, Bool.false_eq_true, if_false]
      intro _
      exact hp a o g w rfl rfl k hbase (fun q hq => by
        obtain ⟨t, ht, rfl⟩ := List.mem_map.1 hq
        exact ha t ht)
    · split at he
      · rename_i hall
        split at he
        · rename_i q hq
          cases he
          simp only [isLoud, Bool.false_eq_true, if_false]
          intro _
          obtain ⟨v, w', h1, h2, h3⟩ := hp g w k hbase
          rw [execOp_congr o hs (fun x hx => toV_eval hav hall hx), semNew_run hq h1]
          exact ⟨h2, h3⟩
        · cases he
      · cases he
    · split at he
      · rename_i hear
        cases he
        simp only [isLoud, Bool.false_eq_true, if_false]
        intro hE
        exact hp a o g w rfl rfl k hbase (hE hear) (fun q hq => by
          obtain ⟨t, ht, rfl⟩ := List.mem_map.1 hq
          exact ha t ht)
      · cases he

def hintM (hs : List (Nat × HintM)) (i : Nat) : Option HintM := match hs with | [] => none | (j, h) :: l => if Nat.beq i j then some h else hintM l i
def evM (P : Program) (S0 : Nat → Prop) (w0 : World) (D : Nat → Gh → World → Prop) (ops : Array Oper) (rows : List Row) (gt : Nat → Option Nat) (hs : List (Nat × HintM)) : List Oper → Nat → Nat → (Tmp → Sm) → (Tmp → Option Nat) → Option ((Tmp → Sm) × Prop × List (Nat × Nat))
  | [], _, _, fr, _ => some (fr, True, [])
  | o :: l, i, r, fr, tags => match evM1 P S0 w0 D ops rows gt fr tags (hintM hs i) r (earlyB ops (fun i => isLoud (hintM hs i)) i) o with
    | none => none
    | some (s, p, bl) => match evM P S0 w0 D ops rows gt hs l (i + 1) (if isLoud (hintM hs i) then r + 1 else r) (putM fr o.dst s) (putT tags o.dst (tagOf tags gt o.op)) with
      | none => none
      | some (fr', p', bl') => some (fr', p ∧ p', bl ++ bl')

/-- How many loud ones stand ahead of i. -/
def rankH (hs : List (Nat × HintM)) : Nat → Nat | 0 => 0 | i + 1 => if isLoud (hintM hs i) then rankH hs i + 1 else rankH hs i
theorem rank_eq {hs : List (Nat × HintM)} {n : Nat} : ∀ {i : Nat}, i ≤ n → rank n (fun j => isLoud (hintM hs j)) i = rankH hs i := by
  intro i hi
  have e : ∀ n, i ≤ n → ((List.range n).filter fun j => isLoud (hintM hs j) && decide (j < i)) = (List.range i).filter fun j => isLoud (hintM hs j) := by
    intro n
    induction n with
    | zero => intro h; obtain rfl : i = 0 := by omega
              rfl
    | succ n ih =>
      intro h
      rw [List.range_succ, List.filter_append]
      by_cases hin : i = n + 1
      · subst hin
        rw [List.range_succ, List.filter_append]
        congr 1
        · apply List.filter_congr
          intro j hj
          have := List.mem_range.1 hj
          simp [show j < n + 1 by omega]
        · simp [List.filter_cons]
      · rw [ih (by omega)]
        simp [show ¬ n < i by omega]
  have c : ∀ i, ((List.range i).filter fun j => isLoud (hintM hs j)).length = rankH hs i := by
    intro i
    induction i with
    | zero => rfl
    | succ i ih =>
      rw [List.range_succ, List.filter_append, List.length_append, ih]
      simp only [rankH, List.filter_cons, List.filter_nil]
      split <;> simp
  unfold rank
  rw [e n hi, c]

theorem evM_obs {D : Nat → Gh → World → Prop} {ops : Array Oper} {rows : List Row} {gt : Nat → Option Nat} {hs : List (Nat × HintM)} {f0 : Tmp → Sm} (hr : ∀ w, Keep S0 w0 w → Rows w rows) (hsel : ∀ (i : Nat) (o : Oper), ops[i]? = some o → ∀ cs b, o.op ≠ .select cs b) :
    ∀ (l : List Oper) (i : Nat) (tags : Tmp → Option Nat) (sp : Nat → Sm) (fr' : Tmp → Sm) (p : Prop) (bl : List (Nat × Nat)), (∀ j, l[j]? = ops[i + j]?) → evM P S0 w0 D ops rows gt hs l i (rankH hs i) (frM ops sp f0 i) tags = some (fr', p, bl) → p → (∀ q ∈ bl, q.1 = q.2) →
      ∃ sp' : Nat → Sm, (∀ j, j < i → sp' j = sp j) ∧ fr' = frM ops sp' f0 (i + l.length) ∧ ∀ (j : Nat) o, i ≤ j → j < i + l.length → ops[j]? = some o → ObM P S0 w0 D ops (frM ops sp' f0 j) (sp' j) (isLoud (hintM hs j)) (earlyB ops (fun i => isLoud (hintM hs i)) j) (rankH hs j) o
  | [], i, tags, sp, fr', p, bl, _, h, _, _ => by
    simp only [evM] at h
    cases h
    exact ⟨sp, fun _ _ => rfl, rfl, fun j o h1 h2 => by simp at h2; omega⟩
  | o :: l, i, tags, sp, fr', p, bl, hl, h, hp, hb => by
    simp only [evM] at h
    have h0 : ops[i]? = some o := by simpa using (hl 0).symm
    split at h
    · cases h
    · rename_i s p1 bl1 he
      split at h
      · cases h
      · rename_i fr2 p2 bl2 he2
        cases h
        have hob := evM1_ob he hp.1 (fun q hq => hb q (List.mem_append.2 (.inl hq))) hr (hsel i o h0)
        have hcong : ∀ (sp2 : Nat → Sm) (k : Nat), (∀ j, j < k → sp2 j = sp j) → frM ops sp2 f0 k = frM ops sp f0 k := by
          intro sp2 k
          induction k with
          | zero => intro _; rfl
          | succ k ih => intro hk; simp only [frM]; rw [ih (fun j hj => hk j (by omega)), hk k (by omega)]
        let sp1 : Nat → Sm := fun j => if j = i then s else sp j
        have hsp1 : ∀ j, j < i → sp1 j = sp j := fun j hj => by simp only [sp1]; rw [if_neg (by omega)]
        have hfr1 : frM ops sp1 f0 (i + 1) = putM (frM ops sp f0 i) o.dst s := by
          simp only [frM, h0, Option.bind_some]
          rw [hcong sp1 i hsp1]
          simp only [sp1, if_true]
        rw [← hfr1] at he2
        obtain ⟨sp', h1, h2, h3⟩ := evM_obs hr hsel l (i + 1) _ sp1 fr' p2 bl2 (fun j => by have := hl (j + 1); simpa [Nat.add_assoc, Nat.add_comm 1 j] using this) he2 hp.2 (fun q hq => hb q (List.mem_append.2 (.inr hq)))
        refine ⟨sp', fun j hj => (h1 j (by omega)).trans (hsp1 j hj), by rw [h2]; congr 1; simp; omega, fun j oj hj1 hj2 hoj => ?_⟩
        by_cases hji : j = i
        · subst hji
          rw [h0] at hoj; cases hoj
          rw [h1 j (by omega)]
          simp only [sp1, if_true]
          rw [show frM ops sp' f0 j = frM ops sp f0 j from by
            have : ∀ k, k ≤ j → frM ops sp' f0 k = frM ops sp f0 k := by
              intro k
              induction k with
              | zero => intro _; rfl
              | succ k ih => intro hk; simp only [frM]; rw [ih (by omega), h1 k (by omega), hsp1 k (by omega)]
            exact this j (Nat.le_refl _)]
          exact hob
        · exact h3 j oj (by omega) (by simp at hj2; omega) hoj

/-- The region, reckoned. -/
theorem region_evM {D : Nat → Gh → World → Prop} {f0 : Tmp → Sm} {id : Nat} {l : List Oper} {Q : Exit → Act → World → Prop} {a0 : Act} {g0 : Gh} (rows : List Row) (tags : Tmp → Option Nat) (gt : Nat → Option Nat) (hs : List (Nat × HintM)) (ts : List Tmp) (ss : List Sm) (p : Prop)
    (hm : P.follows .mixedOrders = true) (hc : chk l.toArray a0.tmps.size = true) (hch : chain l.toArray (fun i => isLoud (hintM hs i)) = true) (hD : ∀ k g w w', Keep No w w' → D k g w → D k g w')
    (hf : ∀ t g w, (f0 t).ok g w (a0.tmps.getD t undef)) (hb0 : Base S0 w0 g0 w0) (hd0 : D 0 g0 w0) (hr : ∀ w, Keep S0 w0 w → Rows w rows)
    (he : (evM P S0 w0 D l.toArray rows gt hs l 0 0 f0 tags).map (fun r => (ts.map r.1, r.2.1)) = some (ss, p))
    (hb : (evM P S0 w0 D l.toArray rows gt hs l 0 0 f0 tags).map (fun r => r.2.2.map (·.1)) = (evM P S0 w0 D l.toArray rows gt hs l 0 0 f0 tags).map (fun r => r.2.2.map (·.2)))
    (hp : p)
    (hQ : ∀ a g w, Keep S0 w0 w → Base S0 w0 g w → D (rankH hs l.length) g w → a.defers = a0.defers → a.tmps.size = a0.tmps.size → allOkM ss g w (ts.map fun t => a.tmps.getD t undef) → Q .normal a w) :
    (Code.region id l.toArray true).wp P Q a0 w0 := by
  rw [Option.map_eq_some_iff] at he
  obtain ⟨⟨fr', p', bl⟩, he, e2⟩ := he
  cases e2
  rw [he] at hb
  obtain ⟨sp, _, h2, h3⟩ := evM_obs (f0 := f0) hr (chk_spec hc).sel l 0 tags (fun _ => .is undef) fr' _ bl (by simp) he hp (all_of_maps (Option.some.inj hb))
  refine region_relM (sp := sp) (loud := fun i => isLoud (hintM hs i)) hm hc hch hD hf hb0 hd0 (fun i o hi => ?_) fun a g w k hbase hd hdf hsz hall => ?_
  · have hil : i < l.length := by
      rcases Nat.lt_or_ge i l.length with h | h
      · exact h
      · rw [Array.getElem?_eq_none (by simpa using h)] at hi; cases hi
    rw [rank_eq (by simpa using Nat.le_of_lt hil)]
    exact h3 i o (Nat.zero_le _) (by omega) hi
  · refine hQ a g w k hbase ?_ hdf hsz ?_
    · rw [rank_eq (Nat.le_refl _)] at hd; simpa using hd
    · subst h2
      have hall' : ∀ t, (frM l.toArray sp f0 (0 + l.length) t).ok g w (a.tmps.getD t undef) := by simpa using hall
      clear he h3 hQ hb hp
      generalize frM l.toArray sp f0 (0 + l.length) = fr at *
      induction ts with
      | nil => trivial
      | cons t ts ih => exact ⟨hall' t, ih⟩

/-! ### in the walk -/
variable {W0 : World} {Q : Exit → Act → World → Prop} {n : Nat} {gt : Nat → Option Nat} {unroll : Bool}
def smOf (fr : Tmp → Option Value) (t : Tmp) : Sm := match fr t with | some v => .is v | none => .such (fun _ _ _ => True) (fun _ _ _ _ _ _ _ => trivial)
def evMAt (P : Program) (S0 : Nat → Prop) (w0 : World) (D : Nat → Gh → World → Prop) (n : Nat) (gt : Nat → Option Nat) (hs : List (Nat × HintM)) (ts : List Tmp) (c : Cfg) : Option (List Sm × Prop × Nat) :=
  match atDrawn c with
  | some (l, _) => if chk l.toArray n && P.follows .mixedOrders && chain l.toArray (fun i => isLoud (hintM hs i)) then (evM P S0 w0 D l.toArray (rowsOf c.m) gt hs l 0 0 (smOf c.fr) c.tags).map (fun r => (ts.map r.1, r.2.1, rankH hs l.length)) else none
  | none => none
def evMBlks (P : Program) (S0 : Nat → Prop) (w0 : World) (D : Nat → Gh → World → Prop) (gt : Nat → Option Nat) (hs : List (Nat × HintM)) (c : Cfg) : Option (List (Nat × Nat)) :=
  match atDrawn c with
  | some (l, _) => (evM P S0 w0 D l.toArray (rowsOf c.m) gt hs l 0 0 (smOf c.fr) c.tags).map (fun r => r.2.2)
  | none => none

theorem drawnM_ok {c : Cfg} {w : World} {D : Nat → Gh → World → Prop} {g0 : Gh} (hs : List (Nat × HintM)) (ts : List Tmp) (ss : List Sm) (p : Prop) (kn : Nat) (T : List K)
    (hW : Wst W0 c.m w) (hL : Loose W0 c.m S0) (hT : (atDrawn c).map (·.2) = some T) (he : evMAt P S0 w D n gt hs ts c = some (ss, p, kn)) (hb : (evMBlks P S0 w D gt hs c).map (·.map (·.1)) = (evMBlks P S0 w D gt hs c).map (·.map (·.2)))
    (hD : ∀ k g w w', Keep No w w' → D k g w → D k g w') (hb0 : Base S0 w g0 w) (hd0 : D 0 g0 w) (hp : p)
    (hk : ∀ g w' vs, Keep S0 w w' → Base S0 w g w' → D kn g w' → allOkM ss g w' vs → Goal P Q n ⟨frOf ts vs, c.tags, ⟨c.m.rows, w'.heap.size⟩, T⟩ w') : Goal P Q n c w := by
  obtain ⟨fr, tags, m, todo⟩ := c
  intro a hd hn ha
  unfold evMAt at he
  unfold evMBlks at hb
  unfold atDrawn at he hb hT
  match todo, he, hb, hT, hk with
  | .code (.region id ops true) :: k, he, hb, hT, hk =>
    simp only at he hb hT hk
    obtain rfl : k = T := Option.some.inj hT
    split at he
    case isFalse => cases he
    rename_i hc
    simp only [Bool.and_eq_true] at hc
    show (Code.region id ops true).wp P (KX P Q k) a w
    have hops : (Code.region id ops true) = (Code.region id ops.toList.toArray true) := by simp
    rw [hops]
    rw [Option.map_eq_some_iff] at he
    obtain ⟨r, he, e2⟩ := he
    simp only [Prod.mk.injEq] at e2
    obtain ⟨e3, e4, e5⟩ := e2
    refine region_evM (D := D) (f0 := smOf fr) (g0 := g0) (rowsOf m) tags gt hs ts ss p hc.1.2 (by rw [hn]; exact hc.1.1) hc.2 hD ?_ hb0 hd0 ?_ (by rw [he, Option.map_some, e3, e4]) ?_ hp ?_
    · intro t g w'
      unfold smOf
      cases hf : fr t with
      | none => trivial
      | some v => exact ha t v hf
    · intro w' k' q hq
      obtain ⟨x, hx, rfl⟩ := List.mem_map.1 hq
      exact (hW.laterS k' hL).rows x hx
    · rw [Option.map_map, Option.map_map] at hb
      exact hb
    · intro a' g w' k' hbase hd' hdf hsz hok
      rw [e5] at hd'
      exact hk g w' _ k' hbase hd' hok a' (by rw [hdf, hd]) (by rw [hsz, hn]) (frOf_spec rfl)
end
end Go.Proofs.Ytpididcghilbjaa
