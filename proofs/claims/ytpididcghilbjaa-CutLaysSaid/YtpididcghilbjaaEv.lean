/-
  A region in any order, reckoned: the plain operations by evaluation, the calls by contract. No condition.
-/
import Derived.Test.YtpididcghilbjaaRel
namespace Go.Proofs.Ytpididcghilbjaa
open Go.RowKit

section
variable {P : Program}
/-- A run that reads one known row at most: the value, and the blocks it read. -/
def aRun {α : Type} (P : Program) (r : Option (List Value)) : Sem α → Option (α × List Nat)
  | .pure a => some (a, [])
  | .load _ a k => match r with
    | none => none
    | some cs => match a.spot with
      | some _ => none
      | none => match cs[a.off]? with
        | none => none
        | some v => match aRun P r (k v) with
          | some (x, l) => some (x, a.block :: l)
          | none => none
  | .program k => aRun P r (k P)
  | .mark _ k => aRun P r k
  | _ => none

theorem aRun_none {α : Type} {w : World} : ∀ {s : Sem α} {x : α} {l : List Nat}, aRun P none s = some (x, l) → s.run P w = .ok x w := by
  intro s
  induction s <;> intro x l h <;> simp only [aRun] at h <;> first | (cases h; rfl) | (cases h; done) | skip
  case program k ih => simp only [Sem.run]; exact ih _ h
  case mark m k ih => simp only [Sem.run]; exact ih h

theorem aRun_some {α : Type} {w : World} {b : Nat} {cs : List Value} {t : TypeId} (hg : w.heap[b]? = some (.cells cs.toArray t (0, 0))) :
    ∀ {s : Sem α} {x : α} {l : List Nat}, aRun P (some cs) s = some (x, l) → (∀ c ∈ l, c = b) → s.run P w = .ok x w := by
  intro s
  induction s <;> intro x l h hl <;> simp only [aRun] at h <;> first | (cases h; rfl) | (cases h; done) | skip
  case load m a k ih =>
    split at h
    · cases h
    · rename_i hsp
      split at h
      · cases h
      · rename_i v hv
        split at h
        · rename_i y l' he
          cases h
          have hab : a.block = b := hl _ (by simp)
          have hc : w.cell? a = some v := by
            simp only [World.cell?, hab, hg, hsp]
            simpa using hv
          simp only [Sem.run, hc]
          exact ih v he (fun c hc => hl c (by simp [hc]))
        · cases h
  case program k ih => simp only [Sem.run]; exact ih _ h hl
  case mark m k ih => simp only [Sem.run]; exact ih h hl

def opSv (fr : Tmp → Sv) : Operand → Sv
  | .tmp t => fr t
  | .const v => .is v
  | .global g => .is (.pointer (some ⟨g, 0, none⟩))
  | .func f => .is (.func (.func f) #[] #[])
def toV : Sv → Value | .is v => v | .such _ _ => undef
def isIs : Sv → Bool | .is _ => true | .such _ _ => false

theorem opSv_eval {fr : Tmp → Sv} {a : Act} {w : World} {o : Oper} (h : ∀ t ∈ tmpsOf o, (fr t).ok w (a.tmps.getD t undef)) {x : Operand} (hx : x ∈ o.op.operands) : (opSv fr x).ok w (a.eval x) := by
  cases x with
  | tmp t => exact h t (List.mem_filterMap.2 ⟨.tmp t, by simpa using hx, rfl⟩)
  | const v => rfl
  | global g => rfl
  | func f => rfl
theorem toV_eval {fr : Tmp → Sv} {a : Act} {w : World} {o : Oper} (h : ∀ t ∈ tmpsOf o, (fr t).ok w (a.tmps.getD t undef)) (he : (tmpsOf o).all (fun t => isIs (fr t)) = true) {x : Operand} (hx : x ∈ o.op.operands) : a.eval x = toV (opSv fr x) := by
  have hok := opSv_eval h hx
  cases x with
  | tmp t =>
    have hm : t ∈ tmpsOf o := List.mem_filterMap.2 ⟨.tmp t, by simpa using hx, rfl⟩
    have := List.all_eq_true.1 he t hm
    simp only [opSv] at hok ⊢
    cases hs : fr t with
    | is v => rw [hs] at hok; exact hok
    | such p m => rw [hs] at this; cases this
  | const v => rfl
  | global g => rfl
  | func f => rfl

/-! ### calls -/
def callOk (P : Program) (f : FuncId) : Bool := match P.funcs[f]? with | some fn => !(fn.name == "runtime.NumGoroutine") && fn.body.isSome | none => false
theorem run_call {ρ : Operand → Value} {o : Oper} {f : FuncId} {args : Array Operand} {ts : Array TypeId} (ho : o.op = .call { callee := .value (.func f), args := args, argTypes := ts }) (hρ : ρ (.func f) = .func (.func f) #[] #[]) (hk : callOk P f = true) (w : World) :
    (execOp ρ o).run P w = .ok (.enter f (args.map ρ)) w := by
  unfold callOk at hk
  cases hf : P.funcs[f]? with
  | none => rw [hf] at hk; cases hk
  | some fn =>
    rw [hf] at hk
    simp only [Bool.and_eq_true, Bool.not_eq_true'] at hk
    obtain ⟨h1, h2⟩ := hk
    have h1' : ¬ fn.name = "runtime.NumGoroutine" := by simpa using h1
    have h3 : ¬ fn.body = none := by cases hb : fn.body <;> simp_all
    have hprog : ∀ w', Sem.run P program w' = .ok P w' := fun _ => rfl
    unfold execOp
    simp [ho, resolve, hρ, Deferred.ofValue, invoke, callFunc, hprog, hf, h1', h3]

def allOk : List Sv → World → List Value → Prop
  | [], _, [] => True
  | s :: l, w, v :: vs => s.ok w v ∧ allOk l w vs
  | _, _, _ => False
theorem allOk_map {fr : Tmp → Sv} {a : Act} {w : World} : ∀ (l : List Operand), (∀ x ∈ l, (opSv fr x).ok w (a.eval x)) → allOk (l.map (opSv fr)) w (l.map a.eval)
  | [], _ => trivial
  | x :: l, h => ⟨h x (by simp), allOk_map l fun y hy => h y (by simp [hy])⟩

/-- The inner run of an operation that a hint answers. -/
def semOf (ρ : Operand → Value) (o : Oper) : Option (Sem Value) :=
  match o.op with
  | .slice t x lo hi mx => some (Instr.sliceAt t (ρ x) (lo.map ρ) (hi.map ρ) (mx.map ρ))
  | .indexAddr t x ix => some (Instr.indexAt t (ρ x) (ρ ix))
  | .index t x ix => some (Instr.index t (ρ x) (ρ ix))
  | .convert s d x => some (convert s d (ρ x))
  | .sliceToArrayPointer arr x => some (Instr.arrayAt arr (ρ x))
  | .load t a => some (Instr.loadAt t (ρ a))
  | .binOp op t x y _ => some (do eqGuard op t x y (ρ x) (ρ y); binOp op t (ρ x) (ρ y))
  | .call { callee := .builtin .len, args := args, argTypes := ts } => some (Builtin.len_ ts o.type (args.map ρ))
  | .call { callee := .builtin .min, args := args, argTypes := ts } => some (Builtin.min_ ts o.type (args.map ρ))
  | .call { callee := .builtin .max, args := args, argTypes := ts } => some (Builtin.max_ ts o.type (args.map ρ))
  | _ => none
theorem semOf_run {ρ : Operand → Value} {o : Oper} {s : Sem Value} {v : Value} {w : World} (h : semOf ρ o = some s) (hr : s.run P w = .ok v w) : (execOp ρ o).run P w = .ok (.value v) w := by
  unfold semOf at h
  unfold execOp
  split at h <;> first | (cases h; done) | skip
  all_goals
    rename_i hop
    cases h
    simp only [hop, resolve, invoke, builtin, Sem.run_bind, Sem.run_pure, Result.andThen_ok] at hr ⊢
    rw [hr]
    rfl

/-! ### hints, and what is owed -/
inductive Hint where
  | is (v : Value)
  | call (s : Sv)
  | bin (v : Value)
  | by (s : Sv)
  | sem (v : Value)
structure Owed where
  eqs : List (Value × Value) := []
  blks : List (Nat × Nat) := []
  calls : List (FuncId × List Sv × Sv) := []
  bins : List (BinOp × TypeId × Value × Value × Value) := []
  bys : List (Op × TypeId × List (Tmp × Sv) × Sv) := []
  sems : List (Sem Value × Value) := []
def Owed.add (a b : Owed) : Owed := ⟨a.eqs ++ b.eqs, a.blks ++ b.blks, a.calls ++ b.calls, a.bins ++ b.bins, a.bys ++ b.bys, a.sems ++ b.sems⟩
def CallOb (P : Program) (w0 : World) (f : FuncId) (args : List Sv) (s : Sv) : Prop :=
  ∀ w vals, Keep No w0 w → allOk args w vals → Calls P f vals.toArray w (fun e w' => ∃ v, e = .returned v ∧ Keep No w w' ∧ s.ok w' v)
structure Paid (P : Program) (w0 : World) (o : Owed) : Prop where
  eqs : ∀ p ∈ o.eqs, p.1 = p.2
  blks : ∀ p ∈ o.blks, p.1 = p.2
  calls : ∀ p ∈ o.calls, CallOb P w0 p.1 p.2.1 p.2.2
  bins : ∀ p ∈ o.bins, ∀ w, Keep No w0 w → (binOp p.1 p.2.1 p.2.2.1 p.2.2.2.1).run P w = .ok p.2.2.2.2 w
  bys : ∀ p ∈ o.bys, ∀ (a : Act) (o : Oper) w, o.op = p.1 → o.type = p.2.1 → Keep No w0 w → (∀ q ∈ p.2.2.1, q.2.ok w (a.tmps.getD q.1 undef)) → OutOK P p.2.2.2 w ((execOp a.eval o).run P w)
  sems : ∀ p ∈ o.sems, ∀ w, Keep No w0 w → p.1.run P w = .ok p.2 w
theorem Paid.left {w0 : World} {a b : Owed} (h : Paid P w0 (a.add b)) : Paid P w0 a :=
  ⟨fun p hp => h.eqs p (List.mem_append.2 (.inl hp)), fun p hp => h.blks p (List.mem_append.2 (.inl hp)), fun p hp => h.calls p (List.mem_append.2 (.inl hp)), fun p hp => h.bins p (List.mem_append.2 (.inl hp)), fun p hp => h.bys p (List.mem_append.2 (.inl hp)), fun p hp => h.sems p (List.mem_append.2 (.inl hp))⟩
theorem Paid.right {w0 : World} {a b : Owed} (h : Paid P w0 (a.add b)) : Paid P w0 b :=
  ⟨fun p hp => h.eqs p (List.mem_append.2 (.inr hp)), fun p hp => h.blks p (List.mem_append.2 (.inr hp)), fun p hp => h.calls p (List.mem_append.2 (.inr hp)), fun p hp => h.bins p (List.mem_append.2 (.inr hp)), fun p hp => h.bys p (List.mem_append.2 (.inr hp)), fun p hp => h.sems p (List.mem_append.2 (.inr hp))⟩

/-- A known row: its block, its cells. -/
abbrev Row := Nat × List Value
def rowOf (rows : List Row) (tags : Tmp → Option Nat) (gt : Nat → Option Nat) : Op → Option Row
  | .load _ (.tmp t) => (tags t).bind fun k => rows[k]?
  | .load _ (.global g) => (gt g).bind fun k => rows[k]?
  | _ => none
def tagOf (tags : Tmp → Option Nat) (gt : Nat → Option Nat) : Op → Option Nat
  | .move (.tmp t) | .assign (.tmp t) | .nilCheck (.tmp t) | .fieldAddr _ (.tmp t) _ | .indexAddr _ (.tmp t) _ => tags t
  | .fieldAddr _ (.global g) _ | .indexAddr _ (.global g) _ => gt g
  | _ => none
def plain (P : Program) (rows : List Row) (tags : Tmp → Option Nat) (gt : Nat → Option Nat) (fr : Tmp → Sv) (o : Oper) : Option (Value × Owed) :=
  if (tmpsOf o).all (fun t => isIs (fr t)) then
    match rowOf rows tags gt o.op with
    | none => match aRun P none (execOp (fun x => toV (opSv fr x)) o) with
      | some (.value v, _) => some (v, {})
      | _ => none
    | some (b, cs) => match aRun P (some cs) (execOp (fun x => toV (opSv fr x)) o) with
      | some (.value v, l) => some (v, { blks := l.map fun c => (c, b) })
      | _ => none
  else none

def ev1 (P : Program) (ops : Array Oper) (rows : List Row) (gt : Nat → Option Nat) (fr : Tmp → Sv) (tags : Tmp → Option Nat) (h : Option Hint) (o : Oper) : Option (Sv × Owed) :=
  match want ops fr o with
  | none => none
  | some false => some (.is undef, {})
  | some true => match h with
    | none => match plain P rows tags gt fr o with
      | some (v, d) => some (.is v, d)
      | none => none
    | some (.is v') => match plain P rows tags gt fr o with
      | some (v, d) => some (.is v', d.add { eqs := [(v, v')] })
      | none => none
    | some (.call s) => match o.op with
      | .call { callee := .value (.func f), args := args, argTypes := _ } => if callOk P f then some (s, { calls := [(f, args.toList.map (opSv fr), s)] }) else none
      | _ => none
    | some (.bin v') => match o.op with
      | .binOp op t x y _ => if (tmpsOf o).all (fun t => isIs (fr t)) then
          match aRun P none (eqGuard op t x y (toV (opSv fr x)) (toV (opSv fr y))) with
          | some _ => some (.is v', { bins := [(op, t, toV (opSv fr x), toV (opSv fr y), v')] })
          | none => none
        else none
      | _ => none
    | some (.by s) => some (s, { bys := [(o.op, o.type, (tmpsOf o).map (fun t => (t, fr t)), s)] })
    | some (.sem v') => if (tmpsOf o).all (fun t => isIs (fr t)) then match semOf (fun x => toV (opSv fr x)) o with
        | some s => some (.is v', { sems := [(s, v')] })
        | none => none
      else none

/-- What the rows hold in w. -/
def Rows (w : World) (rows : List Row) : Prop := ∀ r ∈ rows, ∃ t, w.heap[r.1]? = some (.cells r.2.toArray t (0, 0))
theorem Rows.keep {w w' : World} {rows : List Row} (h : Rows w rows) (k : Keep No w w') : Rows w' rows := fun r hr => by
  obtain ⟨t, ht⟩ := h r hr
  refine ⟨t, (k.block r.1 ?_ (fun f => f)).trans ht⟩
  rcases Nat.lt_or_ge r.1 w.heap.size with h1 | h1
  · exact h1
  · rw [Array.getElem?_eq_none h1] at ht; cases ht

theorem rowOf_mem {rows : List Row} {tags : Tmp → Option Nat} {gt : Nat → Option Nat} {op : Op} {r : Row} (h : rowOf rows tags gt op = some r) : r ∈ rows := by
  unfold rowOf at h
  split at h
  · rw [Option.bind_eq_some_iff] at h; obtain ⟨k, _, h2⟩ := h; exact List.mem_of_getElem? h2
  · rw [Option.bind_eq_some_iff] at h; obtain ⟨k, _, h2⟩ := h; exact List.mem_of_getElem? h2
  · cases h

theorem plain_run {rows : List Row} {tags : Tmp → Option Nat} {gt : Nat → Option Nat} {fr : Tmp → Sv} {o : Oper} {v : Value} {d : Owed} {w0 w : World} (h : plain P rows tags gt fr o = some (v, d)) (hp : Paid P w0 d) (hr : Rows w rows)
    (hs : ∀ cs b, o.op ≠ .select cs b) {a : Act} (ha : ∀ t ∈ tmpsOf o, (fr t).ok w (a.tmps.getD t undef)) : (execOp a.eval o).run P w = .ok (.value v) w := by
  unfold plain at h
  split at h
  · rename_i he
    rw [execOp_congr o hs (fun x hx => toV_eval ha he hx)]
    split at h
    · split at h
      · rename_i he2
        cases h
        exact aRun_none he2
      · cases h
    · rename_i b cs hrow
      split at h
      · rename_i l he2
        cases h
        obtain ⟨t, ht⟩ := hr _ (rowOf_mem hrow)
        exact aRun_some ht he2 (fun c hc => hp.blks (c, b) (List.mem_map.2 ⟨c, hc, rfl⟩))
      · cases h
  · cases h

theorem ev1_ob {ops : Array Oper} {rows : List Row} {gt : Nat → Option Nat} {fr : Tmp → Sv} {tags : Tmp → Option Nat} {h : Option Hint} {o : Oper} {s : Sv} {d : Owed} {w0 : World} (he : ev1 P ops rows gt fr tags h o = some (s, d)) (hp : Paid P w0 d) (hr : Rows w0 rows)
    (hs : ∀ cs b, o.op ≠ .select cs b) : Ob P w0 ops fr s o := by
  unfold ev1 at he
  unfold Ob
  split at he
  · cases he
  · cases he; rename_i hw; rw [hw]
  · rename_i hw
    rw [hw]
    intro a w k ha
    split at he
    · split at he
      · rename_i v d' hpl
        cases he
        rw [plain_run hpl hp (hr.keep k) hs ha]
        exact ⟨Keep.refl _ _, rfl⟩
      · cases he
    · split at he
      · rename_i v d' hpl
        cases he
        rw [plain_run hpl hp.left (hr.keep k) hs ha]
        exact ⟨Keep.refl _ _, hp.right.eqs (v, _) (List.mem_singleton.2 rfl)⟩
      · cases he
    · split at he
      · rename_i s' f args ts hop
        split at he
        · rename_i hk
          cases he
          rw [run_call hop rfl hk]
          refine ⟨Keep.refl _ _, ?_⟩
          have hc := hp.calls (f, args.toList.map (opSv fr), s) (by simp) w (args.toList.map a.eval) k (allOk_map _ fun x hx => opSv_eval ha (by rw [hop]; simp [Op.operands, Call.operands]; exact .inr (by simpa using hx)))
          have e : (args.toList.map a.eval).toArray = args.map a.eval := by apply Array.ext'; simp
          rw [e] at hc
          exact hc
        · cases he
      · cases he
    · split at he
      · rename_i op t x y yt hop
        split at he
        · rename_i hall
          split at he
          · rename_i g hg
            cases he
            have h1 : a.eval x = toV (opSv fr x) := toV_eval ha hall (by rw [hop]; simp [Op.operands])
            have h2 : a.eval y = toV (opSv fr y) := toV_eval ha hall (by rw [hop]; simp [Op.operands])
            have h3 := hp.bins (op, t, toV (opSv fr x), toV (opSv fr y), _) (List.mem_singleton.2 rfl) w k
            have h4 : (eqGuard op t x y (toV (opSv fr x)) (toV (opSv fr y))).run P w = .ok g.1 w := aRun_none (l := g.2) hg
            unfold execOp
            simp only [hop, h1, h2, Sem.run_bind, h4, Result.andThen_ok, h3, Sem.run_pure]
            exact ⟨Keep.refl _ _, rfl⟩
          · cases he
        · cases he
      · cases he
    · cases he
      exact hp.bys (o.op, o.type, (tmpsOf o).map (fun t => (t, fr t)), s) (by simp) a o w rfl rfl k (fun q hq => by
        obtain ⟨t, ht, rfl⟩ := List.mem_map.1 hq
        exact ha t ht)
    · split at he
      · rename_i hall
        split at he
        · rename_i q hq
          cases he
          rw [execOp_congr o hs (fun x hx => toV_eval ha hall hx), semOf_run hq (hp.sems (q, _) (List.mem_singleton.2 rfl) w k)]
          exact ⟨Keep.refl _ _, rfl⟩
        · cases he
      · cases he

/-! ### a whole region -/
def hintAt (hs : List (Nat × Hint)) (i : Nat) : Option Hint := match hs with | [] => none | (j, h) :: l => if Nat.beq i j then some h else hintAt l i
def putT (f : Tmp → Option Nat) (d : Option Tmp) (s : Option Nat) : Tmp → Option Nat := match d with | some d => fun t => if Nat.beq t d = true then s else f t | none => f
def ev (P : Program) (ops : Array Oper) (rows : List Row) (gt : Nat → Option Nat) (hs : List (Nat × Hint)) : List Oper → Nat → (Tmp → Sv) → (Tmp → Option Nat) → Option ((Tmp → Sv) × Owed)
  | [], _, fr, _ => some (fr, {})
  | o :: l, i, fr, tags => match ev1 P ops rows gt fr tags (hintAt hs i) o with
    | none => none
    | some (s, d) => match ev P ops rows gt hs l (i + 1) (putF fr o.dst s) (putT tags o.dst (tagOf tags gt o.op)) with
      | none => none
      | some (fr', d') => some (fr', d.add d')

theorem ev_obs {ops : Array Oper} {rows : List Row} {gt : Nat → Option Nat} {hs : List (Nat × Hint)} {w0 : World} {f0 : Tmp → Sv} (hr : Rows w0 rows) (hsel : ∀ (i : Nat) (o : Oper), ops[i]? = some o → ∀ cs b, o.op ≠ .select cs b) :
    ∀ (l : List Oper) (i : Nat) (tags : Tmp → Option Nat) (sp : Nat → Sv) (fr' : Tmp → Sv) (d : Owed), (∀ j, l[j]? = ops[i + j]?) → ev P ops rows gt hs l i (frAt ops sp f0 i) tags = some (fr', d) → Paid P w0 d →
      ∃ sp' : Nat → Sv, (∀ j, j < i → sp' j = sp j) ∧ fr' = frAt ops sp' f0 (i + l.length) ∧ ∀ (j : Nat) o, i ≤ j → j < i + l.length → ops[j]? = some o → Ob P w0 ops (frAt ops sp' f0 j) (sp' j) o
  | [], i, tags, sp, fr', d, _, h, _ => by
    simp only [ev] at h
    cases h
    exact ⟨sp, fun _ _ => rfl, rfl, fun j o h1 h2 => by simp at h2; omega⟩
  | o :: l, i, tags, sp, fr', d, hl, h, hp => by
    simp only [ev] at h
    have h0 : ops[i]? = some o := by simpa using (hl 0).symm
    split at h
    · cases h
    · rename_i s d1 he
      split at h
      · cases h
      · rename_i fr2 d2 he2
        cases h
        have hob := ev1_ob he hp.left hr (hsel i o h0)
        have hcong : ∀ (sp2 : Nat → Sv) (k : Nat), (∀ j, j < k → sp2 j = sp j) → frAt ops sp2 f0 k = frAt ops sp f0 k := by
          intro sp2 k
          induction k with
          | zero => intro _; rfl
          | succ k ih => intro hk; simp only [frAt]; rw [ih (fun j hj => hk j (by omega)), hk k (by omega)]
        let sp1 : Nat → Sv := fun j => if j = i then s else sp j
        have hsp1 : ∀ j, j < i → sp1 j = sp j := fun j hj => by simp only [sp1]; rw [if_neg (by omega)]
        have hfr1 : frAt ops sp1 f0 (i + 1) = putF (frAt ops sp f0 i) o.dst s := by
          simp only [frAt, h0, Option.bind_some]
          rw [hcong sp1 i hsp1]
          simp only [sp1, if_true]
        rw [← hfr1] at he2
        obtain ⟨sp', h1, h2, h3⟩ := ev_obs hr hsel l (i + 1) _ sp1 fr' d2 (fun j => by have := hl (j + 1); simpa [Nat.add_assoc, Nat.add_comm 1 j] using this) he2 hp.right
        refine ⟨sp', fun j hj => (h1 j (by omega)).trans (hsp1 j hj), by rw [h2]; congr 1; simp; omega, fun j oj hj1 hj2 hoj => ?_⟩
        by_cases hji : j = i
        · subst hji
          rw [h0] at hoj; cases hoj
          rw [h1 j (by omega)]
          simp only [sp1, if_true]
          rw [show frAt ops sp' f0 j = frAt ops sp f0 j from by
            have : ∀ k, k ≤ j → frAt ops sp' f0 k = frAt ops sp f0 k := by
              intro k
              induction k with
              | zero => intro _; rfl
              | succ k ih => intro hk; simp only [frAt]; rw [ih (by omega), h1 k (by omega), hsp1 k (by omega)]
            exact this j (Nat.le_refl _)]
          exact hob
        · exact h3 j oj (by omega) (by simp at hj2; omega) hoj

/-- What is to be shown for each of the four lists. -/
def Eqs (l : List (Value × Value)) : Prop := match l with | [] => True | p :: l => p.1 = p.2 ∧ Eqs l
def CallObs (P : Program) (w0 : World) (l : List (FuncId × List Sv × Sv)) : Prop := match l with | [] => True | p :: l => CallOb P w0 p.1 p.2.1 p.2.2 ∧ CallObs P w0 l
def BinObs (P : Program) (w0 : World) (l : List (BinOp × TypeId × Value × Value × Value)) : Prop := match l with | [] => True | p :: l => (∀ w, Keep No w0 w → (binOp p.1 p.2.1 p.2.2.1 p.2.2.2.1).run P w = .ok p.2.2.2.2 w) ∧ BinObs P w0 l
def ByObs (P : Program) (w0 : World) (l : List (Op × TypeId × List (Tmp × Sv) × Sv)) : Prop := match l with
  | [] => True
  | p :: l => (∀ (a : Act) (o : Oper) w, o.op = p.1 → o.type = p.2.1 → Keep No w0 w → (∀ q ∈ p.2.2.1, q.2.ok w (a.tmps.getD q.1 undef)) → OutOK P p.2.2.2 w ((execOp a.eval o).run P w)) ∧ ByObs P w0 l
theorem Eqs.mem : ∀ {l : List (Value × Value)}, Eqs l → ∀ p ∈ l, p.1 = p.2
  | [], _, _, h => nomatch h
  | q :: l, h, p, hp => by rcases List.mem_cons.1 hp with rfl | hp; exact h.1; exact Eqs.mem h.2 p hp
theorem CallObs.mem {w0 : World} : ∀ {l : List (FuncId × List Sv × Sv)}, CallObs P w0 l → ∀ p ∈ l, CallOb P w0 p.1 p.2.1 p.2.2
  | [], _, _, h => nomatch h
  | q :: l, h, p, hp => by rcases List.mem_cons.1 hp with rfl | hp; exact h.1; exact CallObs.mem h.2 p hp
theorem BinObs.mem {w0 : World} : ∀ {l : List (BinOp × TypeId × Value × Value × Value)}, BinObs P w0 l → ∀ p ∈ l, ∀ w, Keep No w0 w → (binOp p.1 p.2.1 p.2.2.1 p.2.2.2.1).run P w = .ok p.2.2.2.2 w
  | [], _, _, h => nomatch h
  | q :: l, h, p, hp => by rcases List.mem_cons.1 hp with rfl | hp; exact h.1; exact BinObs.mem h.2 p hp
theorem ByObs.mem {w0 : World} : ∀ {l : List (Op × TypeId × List (Tmp × Sv) × Sv)}, ByObs P w0 l → ∀ p ∈ l, ∀ (a : Act) (o : Oper) w, o.op = p.1 → o.type = p.2.1 → Keep No w0 w → (∀ q ∈ p.2.2.1, q.2.ok w (a.tmps.getD q.1 undef)) → OutOK P p.2.2.2 w ((execOp a.eval o).run P w)
  | [], _, _, h => nomatch h
  | q :: l, h, p, hp => by rcases List.mem_cons.1 hp with rfl | hp; exact h.1; exact ByObs.mem h.2 p hp
def SemObsE (P : Program) (w0 : World) (l : List (Sem Value × Value)) : Prop := match l with | [] => True | p :: l => (∀ w, Keep No w0 w → p.1.run P w = .ok p.2 w) ∧ SemObsE P w0 l
theorem SemObsE.mem {w0 : World} : ∀ {l : List (Sem Value × Value)}, SemObsE P w0 l → ∀ p ∈ l, ∀ w, Keep No w0 w → p.1.run P w = .ok p.2 w
  | [], _, _, h => nomatch h
  | q :: l, h, p, hp => by rcases List.mem_cons.1 hp with rfl | hp; exact h.1; exact SemObsE.mem h.2 p hp
theorem all_of_maps : ∀ {l : List (Nat × Nat)}, l.map (·.1) = l.map (·.2) → ∀ p ∈ l, p.1 = p.2
  | [], _, _, h => nomatch h
  | q :: l, h, p, hp => by
    simp only [List.map_cons, List.cons.injEq] at h
    rcases List.mem_cons.1 hp with rfl | hp; exact h.1; exact all_of_maps h.2 p hp

/-- The region, reckoned: what is looked at behind it are the slots 'ts'. -/
theorem region_ev0 {f0 : Tmp → Sv} {id : Nat} {l : List Oper} {Q : Exit → Act → World → Prop} {a0 : Act} {w0 : World} (rows : List Row) (tags : Tmp → Option Nat) (gt : Nat → Option Nat) (hs : List (Nat × Hint)) (ts : List Tmp) (ss : List Sv)
    (eqs : List (Value × Value)) (calls : List (FuncId × List Sv × Sv)) (bins : List (BinOp × TypeId × Value × Value × Value)) (bys : List (Op × TypeId × List (Tmp × Sv) × Sv)) (sems : List (Sem Value × Value))
    (hm : P.follows .mixedOrders = true) (hc : chk l.toArray a0.tmps.size = true) (hf : ∀ t w, (f0 t).ok w (a0.tmps.getD t undef)) (hr : Rows w0 rows)
    (he : (ev P l.toArray rows gt hs l 0 f0 tags).map (fun r => (ts.map r.1, r.2.eqs, r.2.calls, r.2.bins, r.2.bys, r.2.sems)) = some (ss, eqs, calls, bins, bys, sems))
    (hb : (ev P l.toArray rows gt hs l 0 f0 tags).map (fun r => r.2.blks.map (·.1)) = (ev P l.toArray rows gt hs l 0 f0 tags).map (fun r => r.2.blks.map (·.2)))
    (h1 : Eqs eqs) (h2 : CallObs P w0 calls) (h3 : BinObs P w0 bins) (h4 : ByObs P w0 bys) (h5 : SemObsE P w0 sems)
    (hQ : ∀ a w, Keep No w0 w → a.defers = a0.defers → a.tmps.size = a0.tmps.size → allOk ss w (ts.map fun t => a.tmps.getD t undef) → Q .normal a w) :
    (Code.region id l.toArray true).wp P Q a0 w0 := by
  rw [Option.map_eq_some_iff] at he
  obtain ⟨⟨fr', d'⟩, he, e2⟩ := he
  cases e2
  rw [he] at hb
  have hp : Paid P w0 d' := ⟨h1.mem, all_of_maps (Option.some.inj hb), h2.mem, h3.mem, h4.mem, h5.mem⟩
  obtain ⟨sp, _, h2, h3⟩ := ev_obs (f0 := f0) hr (chk_spec hc).sel l 0 tags (fun _ => .is undef) fr' _ (by simp) he hp
  refine region_rel (sp := sp) hm hc hf (fun i o hi => h3 i o (Nat.zero_le _) ?_ hi) fun a w k hd hsz hall => hQ a w k hd hsz ?_
  · rcases Nat.lt_or_ge i l.length with h | h
    · omega
    · rw [Array.getElem?_eq_none (by simpa using h)] at hi; cases hi
  · subst h2
    have hall' : ∀ t, (frAt l.toArray sp f0 (0 + l.length) t).ok w (a.tmps.getD t undef) := by simpa using hall
    clear he h3 hQ hb
    generalize frAt l.toArray sp f0 (0 + l.length) = fr at *
    induction ts with
    | nil => trivial
    | cons t ts ih => exact ⟨hall' t, ih⟩

theorem region_ev {id : Nat} {l : List Oper} {Q : Exit → Act → World → Prop} {a0 : Act} {w0 : World} (rows : List Row) (tags : Tmp → Option Nat) (gt : Nat → Option Nat) (hs : List (Nat × Hint)) (ts : List Tmp) (ss : List Sv)
    (eqs : List (Value × Value)) (calls : List (FuncId × List Sv × Sv)) (bins : List (BinOp × TypeId × Value × Value × Value)) (bys : List (Op × TypeId × List (Tmp × Sv) × Sv))
    (hm : P.follows .mixedOrders = true) (hc : chk l.toArray a0.tmps.size = true) (hr : Rows w0 rows)
    (he : (ev P l.toArray rows gt hs l 0 (frameOf a0) tags).map (fun r => (ts.map r.1, r.2.eqs, r.2.calls, r.2.bins, r.2.bys, r.2.sems)) = some (ss, eqs, calls, bins, bys, []))
    (hb : (ev P l.toArray rows gt hs l 0 (frameOf a0) tags).map (fun r => r.2.blks.map (·.1)) = (ev P l.toArray rows gt hs l 0 (frameOf a0) tags).map (fun r => r.2.blks.map (·.2)))
    (h1 : Eqs eqs) (h2 : CallObs P w0 calls) (h3 : BinObs P w0 bins) (h4 : ByObs P w0 bys)
    (hQ : ∀ a w, Keep No w0 w → a.defers = a0.defers → a.tmps.size = a0.tmps.size → allOk ss w (ts.map fun t => a.tmps.getD t undef) → Q .normal a w) :
    (Code.region id l.toArray true).wp P Q a0 w0 := region_ev0 (f0 := frameOf a0) rows tags gt hs ts ss eqs calls bins bys [] hm hc (fun _ _ => rfl) hr he hb h1 h2 h3 h4 trivial hQ

/-- The rows, one by one. -/
def RowsL (w : World) : List Row → Prop | [] => True | r :: l => (∃ t, w.heap[r.1]? = some (.cells r.2.toArray t (0, 0))) ∧ RowsL w l
theorem RowsL.rows {w : World} : ∀ {l : List Row}, RowsL w l → Rows w l
  | [], _, _, h => nomatch h
  | q :: l, h, p, hp => by rcases List.mem_cons.1 hp with rfl | hp; exact h.1; exact RowsL.rows h.2 p hp
/-- Tags out of a list. -/
def tagL : List (Nat × Nat) → Tmp → Option Nat | [], _ => none | (t, k) :: l, x => if Nat.beq x t then some k else tagL l x

section
variable {w0 : World} {f : FuncId} {v : Value}
theorem CallOb.of0 (h : ∀ w, Keep No w0 w → Calls P f #[] w fun e w' => e = .returned v ∧ Keep No w w') : CallOb P w0 f [] (.is v) := by
  rintro w vals k ha
  match vals, ha with
  | [], _ => exact (h w k).mono fun e w' ⟨h1, h2⟩ => ⟨v, h1, h2, rfl⟩
theorem CallOb.of1 {a : Value} (h : ∀ w, Keep No w0 w → Calls P f #[a] w fun e w' => e = .returned v ∧ Keep No w w') : CallOb P w0 f [.is a] (.is v) := by
  rintro w vals k ha
  match vals, ha with
  | [x], hx => obtain rfl : x = a := hx.1; exact (h w k).mono fun e w' ⟨h1, h2⟩ => ⟨v, h1, h2, rfl⟩
theorem CallOb.of2 {a b : Value} (h : ∀ w, Keep No w0 w → Calls P f #[a, b] w fun e w' => e = .returned v ∧ Keep No w w') : CallOb P w0 f [.is a, .is b] (.is v) := by
  rintro w vals k ha
  match vals, ha with
  | [x, y], hx => obtain rfl : x = a := hx.1; obtain rfl : y = b := hx.2.1; exact (h w k).mono fun e w' ⟨h1, h2⟩ => ⟨v, h1, h2, rfl⟩
end
theorem ret_tmp {fn : Func} {R : Ending → World → Prop} {a : Act} {w : World} {v : Value} {t : Tmp} (hr : fn.results = #[.tmp t]) (hv : a.tmps.getD t undef = v) (hd : a.defers = []) (h : R (.returned v) w) : Code.ret.wp P (bodyPost P fn R) a w := by
  refine wp_ret (bodyPost_ret (v := v) ?_ hd h)
  subst hv
  exact results_tmp hr _ _ _
end
end Go.Proofs.Ytpididcghilbjaa
