/-
  Code in order, reckoned by the kernel: plain operations, local variables, tests, blocks; it stops at calls, loops, regions that draw their order. No condition.
-/
import Derived.Test.YtpididcghilbjaaEv
import Derived.LoopN
namespace Go.Proofs.Ytpididcghilbjaa
open Go.RowKit

structure RowS where
  b : Nat
  cs : List Value
  own : Bool
structure Mem where
  rows : List RowS
  nx : Nat
def Safe (m : Mem) (k : Nat) : Prop := k < m.nx ∧ ∀ r ∈ m.rows, r.own = true → r.b ≠ k
/-- What w holds, W0 being the world when the function began. -/
structure Wst (W0 : World) (m : Mem) (w : World) : Prop where
  size : w.heap.size = m.nx
  rows : ∀ r ∈ m.rows, ∃ t, w.heap[r.b]? = some (.cells r.cs.toArray t (0, 0))
  one : (m.rows.map (·.b)).Nodup
  own : ∀ r ∈ m.rows, r.own = true → W0.heap.size ≤ r.b
  keep : Keep No W0 w
/-- From m, w to m', w': what is safe is as it was. -/
structure Seg (m : Mem) (w : World) (m' : Mem) (w' : World) : Prop where
  le : m.nx ≤ m'.nx
  safe : ∀ k, Safe m k → Safe m' k
  same : ∀ k, Safe m k → w'.heap[k]? = w.heap[k]?
theorem Seg.refl (m : Mem) (w : World) : Seg m w m w := ⟨Nat.le_refl _, fun _ h => h, fun _ _ => rfl⟩
theorem Seg.trans {m m1 m2 : Mem} {w w1 w2 : World} (h : Seg m w m1 w1) (k : Seg m1 w1 m2 w2) : Seg m w m2 w2 :=
  ⟨Nat.le_trans h.le k.le, fun i hi => k.safe i (h.safe i hi), fun i hi => (k.same i (h.safe i hi)).trans (h.same i hi)⟩

def cellLike : Value → Bool | .agg _ => false | .tuple _ => false | _ => true

/-- A run over known rows: the value, the memory behind it, the blocks it took for the row's. -/
def gRun {α : Type} (P : Program) (k : Option Nat) : Sem α → Mem → Option (α × Mem × List (Nat × Nat))
  | .pure a, m => some (a, m, [])
  | .load _ a f, m => match k.bind (m.rows[·]?) with
    | none => none
    | some r => match a.spot with
      | some _ => none
      | none => match r.cs[a.off]? with
        | none => none
        | some v => match gRun P k (f v) m with
          | some (x, m', l) => some (x, m', (a.block, r.b) :: l)
          | none => none
  | .store _ a v f, m => match k with
    | none => none
    | some i => match m.rows[i]? with
      | none => none
      | some r => match a.spot with
        | some _ => none
        | none => if r.own && cellLike v && Nat.blt a.off r.cs.length then
            match gRun P k f { m with rows := m.rows.set i { r with cs := r.cs.set a.off v } } with
            | some (x, m', l) => some (x, m', (a.block, r.b) :: l)
            | none => none
          else none
  | .new o f, m => match o with
    | .cells c _ (0, 0) => gRun P k (f m.nx) { rows := m.rows ++ [⟨m.nx, c.toList, true⟩], nx := m.nx + 1 }
    | _ => none
  | .program f, m => gRun P k (f P) m
  | .mark _ f, m => gRun P k f m
  | _, _ => none

theorem block_of_row {w : World} {b : Nat} {o : Obj} (h : w.heap[b]? = some o) : b < w.heap.size := by
  rcases Nat.lt_or_ge b w.heap.size with h1 | h1
  · exact h1
  · rw [Array.getElem?_eq_none h1] at h; cases h

section
variable {P : Program} {W0 : World}

theorem Wst.alloc {m : Mem} {w : World} (h : Wst W0 m w) (c : Array Value) (t : TypeId) : Wst W0 { rows := m.rows ++ [⟨m.nx, c.toList, true⟩], nx := m.nx + 1 } (w.alloc (.cells c t)) ∧
    Seg m w { rows := m.rows ++ [⟨m.nx, c.toList, true⟩], nx := m.nx + 1 } (w.alloc (.cells c t)) := by
  have hlt : ∀ r ∈ m.rows, r.b < m.nx := fun r hr => by obtain ⟨t, ht⟩ := h.rows r hr; have := block_of_row ht; rw [h.size] at this; exact this
  refine ⟨⟨by simp [h.size], ?_, ?_, ?_, h.keep.alloc _⟩, ⟨by simp, ?_, ?_⟩⟩
  · intro r hr
    rcases List.mem_append.1 hr with hr | hr
    · obtain ⟨t', ht⟩ := h.rows r hr
      exact ⟨t', (heap_alloc_old w _ (block_of_row ht)).trans ht⟩
    · obtain rfl := List.mem_singleton.1 hr
      exact ⟨t, by rw [← h.size]; simpa using heap_alloc_new w (.cells c t)⟩
  · simp only [List.map_append, List.map_cons, List.map_nil]
    rw [List.nodup_append]
    refine ⟨h.one, by simp, ?_⟩
    intro a ha b hb
    obtain ⟨r, hr, rfl⟩ := List.mem_map.1 ha
    obtain rfl := List.mem_singleton.1 hb
    exact Nat.ne_of_lt (hlt r hr)
  · intro r hr ho
    rcases List.mem_append.1 hr with hr | hr
    · exact h.own r hr ho
    · obtain rfl := List.mem_singleton.1 hr
      show W0.heap.size ≤ m.nx
      rw [← h.size]; exact h.keep.size
  · rintro k ⟨h1, h2⟩
    refine ⟨Nat.lt_succ_of_lt h1, fun r hr ho => ?_⟩
    rcases List.mem_append.1 hr with hr | hr
    · exact h2 r hr ho
    · obtain rfl := List.mem_singleton.1 hr
      show m.nx ≠ k
      omega
  · rintro k ⟨h1, _⟩
    exact heap_alloc_old w _ (by rw [h.size]; exact h1)

theorem Wst.store {m : Mem} {w : World} (h : Wst W0 m w) {i : Nat} {r : RowS} (hi : m.rows[i]? = some r) (ho : r.own = true) (off : Nat) (v : Value) :
    Wst W0 { m with rows := m.rows.set i { r with cs := r.cs.set off v } } (w.setCell ⟨r.b, off, none⟩ v) ∧ Seg m w { m with rows := m.rows.set i { r with cs := r.cs.set off v } } (w.setCell ⟨r.b, off, none⟩ v) := by
  obtain ⟨hil, hie⟩ := List.getElem?_eq_some_iff.1 hi
  have hmap : ((m.rows.set i { r with cs := r.cs.set off v }).map (·.b)) = m.rows.map (·.b) := by
    apply List.ext_getElem?
    intro j
    simp only [List.getElem?_map, List.getElem?_set]
    split
    · rename_i hj
      subst hj
      simp [hil, hie]
    · rfl
  have hmem : ∀ q ∈ m.rows.set i { r with cs := r.cs.set off v }, ∃ q0 ∈ m.rows, q0.b = q.b ∧ q0.own = q.own := fun q hq => by
    obtain ⟨j, hj⟩ := List.mem_iff_getElem?.1 hq
    rw [List.getElem?_set] at hj
    split at hj
    · cases hj; exact ⟨r, List.mem_of_getElem? hi, rfl, rfl⟩
    · exact ⟨q, List.mem_of_getElem? hj, rfl, rfl⟩
  have hlt : ∀ r ∈ m.rows, r.b < m.nx := fun r hr => by obtain ⟨t, ht⟩ := h.rows r hr; have := block_of_row ht; rw [h.size] at this; exact this
  refine ⟨⟨by simp [h.size], ?_, ?_, ?_, ?_⟩, ⟨Nat.le_refl _, ?_, ?_⟩⟩
  · intro q hq
    obtain ⟨j, hj⟩ := List.mem_iff_getElem?.1 hq
    rw [List.getElem?_set] at hj
    split at hj
    · cases hj
      obtain ⟨t, ht⟩ := h.rows r (List.mem_of_getElem? hi)
      refine ⟨t, ?_⟩
      rw [heap_setCell_same w r.b off _ t v ht]
      simp
    · rename_i hne
      obtain ⟨t, ht⟩ := h.rows q (List.mem_of_getElem? hj)
      refine ⟨t, ?_⟩
      have hb : q.b ≠ r.b := fun e => hne (by
        have h1 : (m.rows.map (·.b))[j]? = some r.b := by rw [List.getElem?_map, hj, ← e]; rfl
        have h2 : (m.rows.map (·.b))[i]? = some r.b := by rw [List.getElem?_map, hi]; rfl
        exact (List.getElem?_inj (by simpa using hil) h.one).1 (h2.trans h1.symm))
      rw [heap_setCell_other w _ q.b v hb]
      exact ht
  · rw [hmap]; exact h.one
  · intro q hq hoq
    obtain ⟨q0, h1, h2, h3⟩ := hmem q hq
    rw [← h2]; exact h.own q0 h1 (by rw [h3]; exact hoq)
  · exact h.keep.setCell (p := ⟨r.b, off, none⟩) (fun hb => by have := h.own r (List.mem_of_getElem? hi) ho; exact absurd hb (Nat.not_lt.2 this)) v
  · rintro k ⟨h1, h2⟩
    refine ⟨h1, fun q hq hoq => ?_⟩
    obtain ⟨q0, h3, h4, h5⟩ := hmem q hq
    rw [← h4]; exact h2 q0 h3 (by rw [h5]; exact hoq)
  · rintro k ⟨h1, h2⟩
    exact heap_setCell_other w _ k v (fun e => h2 r (List.mem_of_getElem? hi) ho e.symm)

theorem gRun_ok {α : Type} {k : Option Nat} : ∀ {s : Sem α} {m : Mem} {w : World} {x : α} {m' : Mem} {l : List (Nat × Nat)}, Wst W0 m w → gRun P k s m = some (x, m', l) → (∀ p ∈ l, p.1 = p.2) →
    ∃ w', s.run P w = .ok x w' ∧ Wst W0 m' w' ∧ Seg m w m' w' := by
  intro s
  induction s <;> intro m w x m' l hW h hl <;> simp only [gRun] at h <;> first | (cases h; done) | skip
  case pure a => cases h; exact ⟨w, rfl, hW, Seg.refl _ _⟩
  case load md a f ih =>
    split at h
    · cases h
    · rename_i r hr
      split at h
      · cases h
      · rename_i hsp
        split at h
        · cases h
        · rename_i v hv
          split at h
          · rename_i y m1 l1 he
            cases h
            have hab : a.block = r.b := hl (a.block, r.b) (by simp)
            rw [Option.bind_eq_some_iff] at hr
            obtain ⟨i, _, hi⟩ := hr
            obtain ⟨t, ht⟩ := hW.rows r (List.mem_of_getElem? hi)
            have hc : w.cell? a = some v := by
              simp only [World.cell?, hab, ht, hsp]
              simpa using hv
            obtain ⟨w', h1, h2, h3⟩ := ih v hW he (fun p hp => hl p (by simp [hp]))
            exact ⟨w', by simp only [Sem.run, hc]; exact h1, h2, h3⟩
          · cases h
  case store md a v f ih =>
    split at h
    · cases h
    · rename_i i
      split at h
      · cases h
      · rename_i r hi
        split at h
        · cases h
        · rename_i hsp
          split at h
          · rename_i hc
            simp only [Bool.and_eq_true] at hc
            obtain ⟨⟨ho, hcl⟩, hlt⟩ := hc
            have hlt' : a.off < r.cs.length := by simpa [Nat.blt_eq] using hlt
            split at h
            · rename_i y m1 l1 he
              cases h
              have hab : a.block = r.b := hl (a.block, r.b) (by simp)
              have ha : a = ⟨r.b, a.off, none⟩ := by cases a; simp_all
              obtain ⟨t, ht⟩ := hW.rows r (List.mem_of_getElem? hi)
              have hcell : w.cell? a = some (r.cs[a.off]) := by
                simp only [World.cell?, hab, ht, hsp]
                simp [hlt']
              have hfz : w.frozen? a = false := by rw [ha]; simp [World.frozen?, ht]
              obtain ⟨hW1, hS1⟩ := hW.store hi ho a.off v
              obtain ⟨w', h1, h2, h3⟩ := ih hW1 he (fun p hp => hl p (by simp [hp]))
              refine ⟨w', ?_, h2, hS1.trans h3⟩
              rw [← ha] at h1
              cases v <;> simp only [cellLike, Bool.false_eq_true] at hcl <;> simp only [Sem.run, hcell, hfz, Bool.false_eq_true, if_false] <;> exact h1
            · cases h
          · cases h
  case new o f ih =>
    split at h
    · rename_i c t
      obtain ⟨hW1, hS1⟩ := hW.alloc c t
      obtain ⟨w', h1, h2, h3⟩ := ih m.nx hW1 h hl
      refine ⟨w', ?_, h2, hS1.trans h3⟩
      simp only [Sem.run]
      rw [hW.size]
      exact h1
    · cases h
  case program f ih =>
    obtain ⟨w', h1, h2, h3⟩ := ih P hW h hl
    exact ⟨w', by simp only [Sem.run]; exact h1, h2, h3⟩
  case mark md f ih =>
    obtain ⟨w', h1, h2, h3⟩ := ih hW h hl
    exact ⟨w', by simp only [Sem.run]; exact h1, h2, h3⟩

/-! ### the code that is left -/
inductive K where
  | code (c : Code)
  | ops (ops : Array Oper) (l : List Oper) (i id : Nat)
  | blk (id : Nat)
  | rnd (m : Nat) (c : Code)
  | inv (R : Act → World → Prop)
def KX (P : Program) (Q : Exit → Act → World → Prop) : List K → Exit → Act → World → Prop
  | [] => Q
  | .code c :: k => Exit.then (c.wp P (KX P Q k)) (KX P Q k)
  | .ops ops l _ _ :: k => Exit.then (wpList P ops (KX P Q k) l) (KX P Q k)
  | .blk id :: k => Exit.inBlock id (KX P Q k)
  | .rnd m c :: k => Exit.then (Code.rounds P c (KX P Q k) m) (KX P Q k)
  | .inv R :: k => Exit.then R (KX P Q k)
structure Cfg where
  fr : Tmp → Option Value
  tags : Tmp → Option Nat
  m : Mem
  todo : List K
/-- From here on the code comes to Q. -/
def Goal (P : Program) (Q : Exit → Act → World → Prop) (n : Nat) (c : Cfg) (w : World) : Prop :=
  ∀ a : Act, a.defers = [] → a.tmps.size = n → (∀ t v, c.fr t = some v → a.tmps.getD t undef = v) → KX P Q c.todo .normal a w

def opV (fr : Tmp → Option Value) : Operand → Option Value
  | .tmp t => fr t
  | .const v => some v
  | .global g => some (.pointer (some ⟨g, 0, none⟩))
  | .func f => some (.func (.func f) #[] #[])
def rho (fr : Tmp → Option Value) (x : Operand) : Value := match opV fr x with | some v => v | none => undef
def allV (fr : Tmp → Option Value) (o : Oper) : Bool := (tmpsOf o).all (fun t => (fr t).isSome)
theorem rho_eval {fr : Tmp → Option Value} {a : Act} {o : Oper} (ha : ∀ t v, fr t = some v → a.tmps.getD t undef = v) (he : allV fr o = true) {x : Operand} (hx : x ∈ o.op.operands) : a.eval x = rho fr x := by
  cases x with
  | tmp t =>
    have hm : t ∈ tmpsOf o := List.mem_filterMap.2 ⟨.tmp t, by simpa using hx, rfl⟩
    have := List.all_eq_true.1 he t hm
    cases hf : fr t with
    | none => rw [hf] at this; cases this
    | some v => simp only [rho, opV, hf]; exact ha t v hf
  | const v => rfl
  | global g => rfl
  | func f => rfl
theorem opV_eval {fr : Tmp → Option Value} {a : Act} {x : Operand} {v : Value} (ha : ∀ t v, fr t = some v → a.tmps.getD t undef = v) (h : opV fr x = some v) : a.eval x = v := by
  cases x with
  | tmp t => exact ha t v h
  | const u => exact Option.some.inj h
  | global g => exact Option.some.inj h
  | func f => exact Option.some.inj h
def wantV (ops : Array Oper) (fr : Tmp → Option Value) (o : Oper) : Option Bool :=
  match o.guard with
  | none => some true
  | some (j, b) => match (ops[j]?).bind (·.dst) with
    | some d => match fr d with
      | some (.bool g) => some (g == b)
      | some (.tuple ⟨[]⟩) => some false
      | _ => none
    | none => none
def putV (f : Tmp → Option Value) (d : Option Tmp) (s : Option Value) : Tmp → Option Value := match d with | some d => fun t => if Nat.beq t d = true then s else f t | none => f

inductive HintS where
  | is (v : Value)
  | sem (v : Value)
  | lose
  | stop
structure OwedS where
  eqs : List (Value × Value) := []
  blks : List (Nat × Nat) := []
  sems : List (Sem Value × Value) := []
def OwedS.add (a b : OwedS) : OwedS := ⟨a.eqs ++ b.eqs, a.blks ++ b.blks, a.sems ++ b.sems⟩
structure PaidS (P : Program) (m0 : Mem) (w0 : World) (o : OwedS) : Prop where
  eqs : ∀ p ∈ o.eqs, p.1 = p.2
  blks : ∀ p ∈ o.blks, p.1 = p.2
  sems : ∀ p ∈ o.sems, ∀ w, (∀ k, Safe m0 k → w.heap[k]? = w0.heap[k]?) → p.1.run P w = .ok p.2 w
theorem PaidS.left {m0 : Mem} {w0 : World} {a b : OwedS} (h : PaidS P m0 w0 (a.add b)) : PaidS P m0 w0 a :=
  ⟨fun p hp => h.eqs p (List.mem_append.2 (.inl hp)), fun p hp => h.blks p (List.mem_append.2 (.inl hp)), fun p hp => h.sems p (List.mem_append.2 (.inl hp))⟩
theorem PaidS.right {m0 : Mem} {w0 : World} {a b : OwedS} (h : PaidS P m0 w0 (a.add b)) : PaidS P m0 w0 b :=
  ⟨fun p hp => h.eqs p (List.mem_append.2 (.inr hp)), fun p hp => h.blks p (List.mem_append.2 (.inr hp)), fun p hp => h.sems p (List.mem_append.2 (.inr hp))⟩

def tagS (tags : Tmp → Option Nat) (gt : Nat → Option Nat) : Op → Option Nat
  | .load _ (.tmp t) | .store _ (.tmp t) _ => tags t
  | .load _ (.global g) | .store _ (.global g) _ => gt g
  | _ => none
def tagT (tags : Tmp → Option Nat) (gt : Nat → Option Nat) : Op → Option Nat
  | .move (.tmp t) | .assign (.tmp t) | .nilCheck (.tmp t) | .fieldAddr _ (.tmp t) _ | .indexAddr _ (.tmp t) _ | .slice _ (.tmp t) _ _ _ | .sliceToArrayPointer _ (.tmp t) => tags t
  | .fieldAddr _ (.global g) _ | .indexAddr _ (.global g) _ => gt g
  | _ => none
def dstOk (n : Nat) (o : Oper) : Bool := match o.dst with | some d => Nat.blt d n | none => true
/-- One operation. -/
def stepOp (P : Program) (n : Nat) (gt : Nat → Option Nat) (ops : Array Oper) (h : Option HintS) (o : Oper) (fr : Tmp → Option Value) (tags : Tmp → Option Nat) (m : Mem) : Option ((Tmp → Option Value) × (Tmp → Option Nat) × Mem × OwedS) :=
  if dstOk n o && selectFree o then
    match wantV ops fr o with
    | none => none
    | some false => some (putV fr o.dst (some undef), putT tags o.dst none, m, {})
    | some true => match h with
      | some .stop => none
      | some (.sem v') => if allV fr o then match semOf (rho fr) o with
          | some s => some (putV fr o.dst (some v'), putT tags o.dst (tagT tags gt o.op), m, { sems := [(s, v')] })
          | none => none
        else none
      | some .lose => if allV fr o then match gRun P (tagS tags gt o.op) (execOp (rho fr) o) m with
          | some (.value _, m', l) => some (putV fr o.dst none, putT tags o.dst none, m', { blks := l })
          | _ => none
        else none
      | some (.is v') => if allV fr o then match gRun P (tagS tags gt o.op) (execOp (rho fr) o) m with
          | some (.value v, m', l) => some (putV fr o.dst (some v'), putT tags o.dst (if m'.rows.length = m.rows.length then tagT tags gt o.op else some m.rows.length), m', { eqs := [(v, v')], blks := l })
          | _ => none
        else none
      | none => if allV fr o then match gRun P (tagS tags gt o.op) (execOp (rho fr) o) m with
          | some (.value v, m', l) => some (putV fr o.dst (some v), putT tags o.dst (if m'.rows.length = m.rows.length then tagT tags gt o.op else some m.rows.length), m', { blks := l })
          | some (.skip, m', l) => some (putV fr o.dst (some undef), putT tags o.dst none, m', { blks := l })
          | _ => none
        else none
  else none
def popTo (id : Nat) : List K → Option (List K)
  | [] => none
  | .blk id' :: k => if Nat.beq id id' then some k else popTo id k
  | _ :: k => popTo id k
/-- The first hint for that operation, and the hints that are left. -/
def hintS (hs : List (Nat × Nat × HintS)) (id i : Nat) : Option HintS × List (Nat × Nat × HintS) := match hs with
  | [] => (none, [])
  | (a, b, h) :: l => if Nat.beq a id && Nat.beq b i then (some h, l) else match hintS l id i with | (r, l') => (r, (a, b, h) :: l')
/-- One step of the walk; none: it stops here. -/
def step1 (P : Program) (n : Nat) (gt : Nat → Option Nat) (unroll : Bool) (hs : List (Nat × Nat × HintS)) (c : Cfg) : Option (Cfg × OwedS × List (Nat × Nat × HintS)) :=
  match c.todo with
  | .code .skip :: k => some ({ c with todo := k }, {}, hs)
  | .code (.seq x y) :: k => some ({ c with todo := .code x :: .code y :: k }, {}, hs)
  | .code (.cond x t e) :: k => match opV c.fr x with
    | some (.bool true) => some ({ c with todo := .code t :: k }, {}, hs)
    | some (.bool false) => some ({ c with todo := .code e :: k }, {}, hs)
    | _ => none
  | .code (.block id x) :: k => some ({ c with todo := .code x :: .blk id :: k }, {}, hs)
  | .blk _ :: k => some ({ c with todo := k }, {}, hs)
  | .code (.exit id) :: k => match popTo id k with
    | some k' => some ({ c with todo := k' }, {}, hs)
    | none => none
  | .code (.loop x) :: k => if unroll then some ({ c with todo := .code x :: .rnd 400 x :: k }, {}, hs) else none
  | .rnd (m + 1) x :: k => some ({ c with todo := .code x :: .rnd m x :: k }, {}, hs)
  | .code (.region id ops false) :: k => some ({ c with todo := .ops ops ops.toList 0 id :: k }, {}, hs)
  | .ops _ [] _ _ :: k => some ({ c with todo := k }, {}, hs)
  | .ops ops (o :: l) i id :: k => match stepOp P n gt ops (hintS hs id i).1 o c.fr c.tags c.m with
    | some (fr, tags, m, d) => some (⟨fr, tags, m, .ops ops l (i + 1) id :: k⟩, d, (hintS hs id i).2)
    | none => none
  | _ => none
def run (P : Program) (n : Nat) (gt : Nat → Option Nat) (unroll : Bool) : List (Nat × Nat × HintS) → Nat → Cfg → Cfg × OwedS
  | _, 0, c => (c, {})
  | hs, f + 1, c => match step1 P n gt unroll hs c with
    | none => (c, {})
    | some (c', d, hs') => match run P n gt unroll hs' f c' with
      | (c'', d') => (c'', d.add d')

variable {Q : Exit → Act → World → Prop} {n : Nat} {gt : Nat → Option Nat} {unroll : Bool} {hs : List (Nat × Nat × HintS)}

theorem putV_spec {fr : Tmp → Option Value} {a : Act} {o : Oper} (ha : ∀ t v, fr t = some v → a.tmps.getD t undef = v) (hn : a.tmps.size = n) (hd : dstOk n o = true) {s : Option Value} {u : Value} (hs : ∀ v, s = some v → u = v) :
    ∀ t v, putV fr o.dst s t = some v → (a.put o.dst u).tmps.getD t undef = v := by
  intro t v h
  unfold putV at h
  unfold Act.put
  cases hdst : o.dst with
  | none => rw [hdst] at h; exact ha t v h
  | some d =>
    rw [hdst] at h
    simp only [Nat.beq_eq] at h
    have hdl : d < a.tmps.size := by rw [hn]; simpa [dstOk, hdst, Nat.blt_eq] using hd
    split at h
    · rename_i e
      subst e
      simp [hdl, hs v h]
    · rename_i e
      have : ¬ d = t := fun h' => e h'.symm
      have := ha t v h
      simpa [Array.getElem?_setIfInBounds_ne ‹¬ d = t›] using this
theorem put_size (a : Act) (d : Option Tmp) (v : Value) : (a.put d v).tmps.size = a.tmps.size ∧ (a.put d v).defers = a.defers := by
  unfold Act.put; split <;> simp

theorem wantV_wanted {ops : Array Oper} {fr : Tmp → Option Value} {a : Act} {o : Oper} {b : Bool} (ha : ∀ t v, fr t = some v → a.tmps.getD t undef = v) (h : wantV ops fr o = some b) : Region.wanted o (yielded ops a.tmps) = b := by
  unfold wantV at h
  unfold Region.wanted
  split at h
  · rename_i hg; simp only [hg]; exact Option.some.inj h
  · rename_i j g hg
    simp only [hg]
    split at h
    · rename_i d hd
      split at h
      · rename_i x hx
        have h1 := ha d _ hx
        have h2 : a.tmps[d]? = some (.bool x) := by
          rw [Array.getD_eq_getD_getElem?] at h1
          cases ht : a.tmps[d]? with
          | none => rw [ht] at h1; simp [undef] at h1
          | some u => rw [ht] at h1; simpa using h1
        have hy : yielded ops a.tmps j = some x := by
          unfold yielded
          rw [hd]
          simp only [Option.bind_some, h2]
        rw [hy]
        have := Option.some.inj h
        subst this
        cases x <;> cases g <;> rfl
      · rename_i hx
        have h1 := ha d _ hx
        have hy : yielded ops a.tmps j = none := by
          unfold yielded
          rw [hd, Option.bind_some]
          rw [Array.getD_eq_getD_getElem?] at h1
          cases ht : a.tmps[d]? with
          | none => rfl
          | some u =>
            rw [ht] at h1
            obtain rfl : u = .tuple ⟨[]⟩ := by simpa using h1
            rfl
        rw [hy]
        have := Option.some.inj h
        subst this
        rfl
      · cases h
    · cases h

theorem stepOp_ok {ops : Array Oper} {h : Option HintS} {o : Oper} {l : List Oper} {fr fr' : Tmp → Option Value} {tags tags' : Tmp → Option Nat} {m m' m0 : Mem} {d : OwedS} {w w0 : World} {K' : Exit → Act → World → Prop}
    (he : stepOp P n gt ops h o fr tags m = some (fr', tags', m', d)) (hW : Wst W0 m w) (hS : Seg m0 w0 m w) (hp : PaidS P m0 w0 d)
    (hk : ∀ w', Wst W0 m' w' → Seg m w m' w' → ∀ a : Act, a.defers = [] → a.tmps.size = n → (∀ t v, fr' t = some v → a.tmps.getD t undef = v) → wpList P ops K' l a w') :
    ∀ a : Act, a.defers = [] → a.tmps.size = n → (∀ t v, fr t = some v → a.tmps.getD t undef = v) → wpList P ops K' (o :: l) a w := by
  intro a hd hn ha
  unfold stepOp at he
  split at he
  case isFalse => cases he
  rename_i hdc
  simp only [Bool.and_eq_true] at hdc
  obtain ⟨hdst, hsel⟩ := hdc
  have hsel' : ∀ cs b, o.op ≠ .select cs b := fun cs b h => by simp [selectFree, h] at hsel
  have fin : ∀ {s : Option Value} {u : Value} {w'}, (∀ v, s = some v → u = v) → fr' = putV fr o.dst s → Wst W0 m' w' → Seg m w m' w' → wpList P ops K' l (a.put o.dst u) w' := by
    intro s u w' hs hf h1 h2
    subst hf
    exact hk w' h1 h2 _ (by rw [(put_size a o.dst u).2]; exact hd) (by rw [(put_size a o.dst u).1]; exact hn) (putV_spec ha hn hdst hs)
  have oneV : ∀ {v : Value} {w' : World}, wantV ops fr o = some true → (execOp a.eval o).run P w = .ok (.value v) w' → wpList P ops K' l (a.put o.dst v) w' → wpList P ops K' (o :: l) a w := by
    intro v w' hw hr hx
    unfold wpList
    rw [wantV_wanted ha hw, if_pos rfl]
    refine .inl ?_
    unfold Oper.wp
    rw [hr]
    exact hx
  have oneS : ∀ {w' : World}, wantV ops fr o = some true → (execOp a.eval o).run P w = .ok .skip w' → wpList P ops K' l (a.put o.dst undef) w' → wpList P ops K' (o :: l) a w := by
    intro w' hw hr hx
    unfold wpList
    rw [wantV_wanted ha hw, if_pos rfl]
    refine .inl ?_
    unfold Oper.wp
    rw [hr]
    exact hx
  split at he
  · cases he
  · rename_i hw
    cases he
    unfold wpList
    rw [wantV_wanted ha hw]
    simp only [Bool.false_eq_true, if_false]
    exact fin (s := some undef) (fun v hv => Option.some.inj hv) rfl hW (Seg.refl _ _)
  · rename_i hw
    split at he
    · cases he
    · split at he
      · rename_i hall
        split at he
        · rename_i s hs
          cases he
          have hrun := hp.sems (s, _) (List.mem_singleton.2 rfl) w hS.same
          refine oneV hw (by rw [execOp_congr o hsel' (fun x hx => rho_eval ha hall hx)]; exact semOf_run hs hrun) ?_
          exact fin (fun v hv => Option.some.inj hv) rfl hW (Seg.refl _ _)
        · cases he
      · cases he
    · split at he
      · rename_i hall
        split at he
        · rename_i v m1 l1 hg
          cases he
          obtain ⟨w', h1, h2, h3⟩ := gRun_ok hW hg hp.blks
          refine oneV hw (by rw [execOp_congr o hsel' (fun x hx => rho_eval ha hall hx)]; exact h1) ?_
          exact fin (s := none) (fun v hv => by cases hv) rfl h2 h3
        · cases he
      · cases he
    · split at he
      · rename_i hall
        split at he
        · rename_i v m1 l1 hg
          cases he
          obtain ⟨w', h1, h2, h3⟩ := gRun_ok hW hg hp.blks
          refine oneV hw (by rw [execOp_congr o hsel' (fun x hx => rho_eval ha hall hx)]; exact h1) ?_
          exact fin (fun v hv => (hp.eqs (_, _) (List.mem_singleton.2 rfl)).trans (Option.some.inj hv)) rfl h2 h3
        · cases he
      · cases he
    · split at he
      · rename_i hall
        split at he
        · rename_i v m1 l1 hg
          cases he
          obtain ⟨w', h1, h2, h3⟩ := gRun_ok hW hg hp.blks
          refine oneV hw (by rw [execOp_congr o hsel' (fun x hx => rho_eval ha hall hx)]; exact h1) ?_
          exact fin (fun v hv => Option.some.inj hv) rfl h2 h3
        · rename_i m1 l1 hg
          cases he
          obtain ⟨w', h1, h2, h3⟩ := gRun_ok hW hg hp.blks
          refine oneS hw (by rw [execOp_congr o hsel' (fun x hx => rho_eval ha hall hx)]; exact h1) ?_
          exact fin (s := some undef) (fun v hv => Option.some.inj hv) rfl h2 h3
        · cases he
      · cases he

theorem KX_pop {id : Nat} {a : Act} {w : World} : ∀ {k k' : List K}, popTo id k = some k' → KX P Q k' .normal a w → KX P Q k (.exit id) a w
  | [], _, h, _ => by simp [popTo] at h
  | .code c :: k, k', h, hk => KX_pop (k := k) h hk
  | .ops a b i j :: k, k', h, hk => KX_pop (k := k) h hk
  | .rnd m c :: k, k', h, hk => KX_pop (k := k) h hk
  | .inv R :: k, k', h, hk => KX_pop (k := k) h hk
  | .blk id' :: k, k', h, hk => by
    simp only [popTo, Nat.beq_eq] at h
    simp only [KX, Exit.inBlock]
    split at h
    · rename_i e
      cases h
      rw [if_pos e]; exact hk
    · rename_i e
      rw [if_neg e]; exact KX_pop h hk

theorem step1_ok {c c' : Cfg} {d : OwedS} {m0 : Mem} {w w0 : World} {hs' : List (Nat × Nat × HintS)} (he : step1 P n gt unroll hs c = some (c', d, hs')) (hW : Wst W0 c.m w) (hS : Seg m0 w0 c.m w) (hp : PaidS P m0 w0 d)
    (hk : ∀ w', Wst W0 c'.m w' → Seg c.m w c'.m w' → Goal P Q n c' w') : Goal P Q n c w := by
  obtain ⟨fr, tags, m, todo⟩ := c
  unfold step1 at he
  simp only at he
  split at he
  · cases he; intro a hd hn ha; exact wp_skip (hk w hW (Seg.refl _ _) a hd hn ha)
  · cases he; intro a hd hn ha; exact wp_seq (hk w hW (Seg.refl _ _) a hd hn ha)
  · split at he
    · rename_i hv
      cases he; intro a hd hn ha
      exact wp_cond_true (opV_eval ha hv) (hk w hW (Seg.refl _ _) a hd hn ha)
    · rename_i hv
      cases he; intro a hd hn ha
      exact wp_cond_false (opV_eval ha hv) (hk w hW (Seg.refl _ _) a hd hn ha)
    · cases he
  · cases he; intro a hd hn ha; exact wp_block (hk w hW (Seg.refl _ _) a hd hn ha)
  · cases he; intro a hd hn ha; exact hk w hW (Seg.refl _ _) a hd hn ha
  · split at he
    · rename_i hpop
      cases he; intro a hd hn ha
      exact wp_exit (KX_pop hpop (hk w hW (Seg.refl _ _) a hd hn ha))
    · cases he
  · split at he
    · cases he; intro a hd hn ha
      exact wp_loop_rounds 401 (hk w hW (Seg.refl _ _) a hd hn ha)
    · cases he
  · cases he; intro a hd hn ha; exact hk w hW (Seg.refl _ _) a hd hn ha
  · cases he; intro a hd hn ha
    exact wp_region_list (hk w hW (Seg.refl _ _) a hd hn ha)
  · cases he; intro a hd hn ha; exact hk w hW (Seg.refl _ _) a hd hn ha
  · split at he
    · rename_i hst
      cases he
      intro a hd hn ha
      exact stepOp_ok hst hW hS hp (fun w' h1 h2 a hd hn ha => hk w' h1 h2 a hd hn ha) a hd hn ha
    · cases he
  · cases he

theorem run_ok {m0 : Mem} {w0 : World} : ∀ (f : Nat) {hs : List (Nat × Nat × HintS)} {c : Cfg} {w : World}, Wst W0 c.m w → Seg m0 w0 c.m w → PaidS P m0 w0 (run P n gt unroll hs f c).2 →
    (∀ w', Wst W0 (run P n gt unroll hs f c).1.m w' → Seg c.m w (run P n gt unroll hs f c).1.m w' → Goal P Q n (run P n gt unroll hs f c).1 w') → Goal P Q n c w
  | 0, hs, c, w, hW, _, _, hk => hk w hW (Seg.refl _ _)
  | f + 1, hs, c, w, hW, hS, hp, hk => by
    simp only [run] at hp hk
    cases he : step1 P n gt unroll hs c with
    | none => rw [he] at hk; exact hk w hW (Seg.refl _ _)
    | some cd =>
      obtain ⟨c', d, hs'⟩ := cd
      rw [he] at hp hk
      simp only at hp hk
      refine step1_ok he hW hS hp.left fun w1 hW1 hS1 => ?_
      exact run_ok f hW1 (hS.trans hS1) hp.right fun w' h1 h2 => hk w' h1 (hS1.trans h2)
end
end Go.Proofs.Ytpididcghilbjaa
