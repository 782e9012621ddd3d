/-
  How a function is walked by the reckoner: enter it, run to a call, take the call's contract, cross a region that draws its order, return. No condition.
-/
import Derived.Test.YtpididcghilbjaaSeq
namespace Go.Proofs.Ytpididcghilbjaa
open Go.RowKit

section
variable {P : Program} {W0 : World} {Q : Exit → Act → World → Prop} {n : Nat} {gt : Nat → Option Nat} {unroll : Bool}

/-- The frame at the begin. -/
def frArgs (args : List Value) (t : Tmp) : Option Value := some (args.getD t undef)
def start (args : List Value) (rows : List RowS) (nx : Nat) (body : Code) : Cfg := ⟨frArgs args, fun _ => none, ⟨rows, nx⟩, [.code body]⟩

/-- A function's body. -/
def bodyOf (fn : Func) : Code := fn.body.getD .skip
/-! Places in a body: what is left to do, found by a region's number (lp: what stands for the loops around it). -/
def seek (r : Nat) (lp : K) : Code → Option (List K)
  | .region id ops d => if Nat.beq id r then some [.code (.region id ops d)] else none
  | .seq a b => match seek r lp a with
    | some k => some (k ++ [.code b])
    | none => seek r lp b
  | .block id c => match seek r lp c with
    | some k => some (k ++ [.blk id])
    | none => none
  | .loop c => match seek r lp c with
    | some k => some (k ++ [lp])
    | none => none
  | .cond _ a b => match seek r lp a with
    | some k => some k
    | none => seek r lp b
  | _ => none
def seekLoop (r : Nat) (lp : K) : Code → Option (List K)
  | .loop c => match seekLoop r lp c with
    | some k => some (k ++ [lp])
    | none => match seek r lp c with
      | some _ => some [.code (.loop c)]
      | none => none
  | .seq a b => match seekLoop r lp a with
    | some k => some (k ++ [.code b])
    | none => seekLoop r lp b
  | .block id c => match seekLoop r lp c with
    | some k => some (k ++ [.blk id])
    | none => none
  | .cond _ a b => match seekLoop r lp a with
    | some k => some k
    | none => seekLoop r lp b
  | _ => none
/-- Ahead of region r. -/
def atR (c : Code) (r : Nat) (lp : K := .blk 0) : List K := (seek r lp c).getD []
/-- Behind region r. -/
def afterR (c : Code) (r : Nat) (lp : K := .blk 0) : List K := ((seek r lp c).getD []).tail
/-- In region r, behind its operation i. -/
def inR (c : Code) (r i : Nat) (lp : K := .blk 0) : List K := match (seek r lp c).getD [] with | .code (.region id ops _) :: k => .ops ops (ops.toList.drop (i + 1)) (i + 1) id :: k | _ => []
/-- In region r, ahead of its first operation (where the hint 'stop' at (r, 0) stops). -/
def opsR (c : Code) (r : Nat) (lp : K := .blk 0) : List K := match (seek r lp c).getD [] with | .code (.region id ops _) :: k => .ops ops ops.toList 0 id :: k | _ => []
/-- At the innermost loop that holds region r. -/
def atL (c : Code) (r : Nat) (lp : K := .blk 0) : List K := (seekLoop r lp c).getD []
theorem enter {f : FuncId} {fn : Func} {args : List Value} {w : World} {R : Ending → World → Prop} (hf : P.funcs[f]? = some fn) (hb : (fn.body.isSome, Nat.ble args.length fn.ntmps) = (true, true))
    (h : Goal P (bodyPost P fn R) fn.ntmps (start args [] w.heap.size (bodyOf fn)) w) : Calls P f args.toArray w R := by
  simp only [Prod.mk.injEq] at hb
  obtain ⟨hb, hn⟩ := hb
  cases hc : fn.body with
  | none => rw [hc] at hb; cases hb
  | some c =>
    have hbo : bodyOf fn = c := by simp [bodyOf, hc]
    rw [hbo] at h
    refine calls_of_wp hf hc (h _ rfl ?_ ?_)
    · have := Nat.le_of_ble_eq_true hn
      simp; omega
    · intro t v hv
      simp only [start, frArgs, Option.some.injEq] at hv
      rw [← hv]
      simp only [Array.getD_eq_getD_getElem?, Array.getElem?_append, List.getD_eq_getElem?_getD]
      split
      · simp
      · rename_i hl
        have : args[t]? = none := List.getElem?_eq_none (by simpa using hl)
        rw [this]
        cases h2 : (Array.replicate (fn.ntmps - args.toArray.size) undef)[t - args.toArray.size]? with
        | none => rfl
        | some u => rw [Array.getElem?_replicate] at h2; split at h2 <;> simp_all
theorem Wst.start (w : World) (rows : List RowS) (hr : ∀ r ∈ rows, r.own = false ∧ ∃ t, w.heap[r.b]? = some (.cells r.cs.toArray t (0, 0))) (h1 : (rows.map (·.b)).Nodup) : Wst w ⟨rows, w.heap.size⟩ w :=
  ⟨rfl, fun r h => (hr r h).2, h1, fun r h ho => (by rw [(hr r h).1] at ho; cases ho), Keep.refl _ _⟩
theorem Wst.start0 (w : World) : Wst w ⟨[], w.heap.size⟩ w := Wst.start w [] (fun _ h => nomatch h) List.nodup_nil

def SemObs (P : Program) (m0 : Mem) (w0 : World) (l : List (Sem Value × Value)) : Prop := match l with | [] => True | p :: l => (∀ w, (∀ k, Safe m0 k → w.heap[k]? = w0.heap[k]?) → p.1.run P w = .ok p.2 w) ∧ SemObs P m0 w0 l
theorem SemObs.of {m0 : Mem} {w0 : World} : ∀ {l : List (Sem Value × Value)}, (∀ p ∈ l, ∀ w, (∀ k, Safe m0 k → w.heap[k]? = w0.heap[k]?) → p.1.run P w = .ok p.2 w) → SemObs P m0 w0 l
  | [], _ => trivial
  | q :: l, h => ⟨h q (by simp), SemObs.of fun p hp => h p (by simp [hp])⟩
theorem SemObs.mem {m0 : Mem} {w0 : World} : ∀ {l : List (Sem Value × Value)}, SemObs P m0 w0 l → ∀ p ∈ l, ∀ w, (∀ k, Safe m0 k → w.heap[k]? = w0.heap[k]?) → p.1.run P w = .ok p.2 w
  | [], _, _, h => nomatch h
  | q :: l, h, p, hp => by rcases List.mem_cons.1 hp with rfl | hp; exact h.1; exact SemObs.mem h.2 p hp

/-- Is the walk at a call of a Go function? Which, with which arguments? -/
def atCall (P : Program) (n : Nat) (c : Cfg) : Option (FuncId × List Value) :=
  match c.todo with
  | .ops ops (o :: _) _ _ :: _ => match wantV ops c.fr o with
    | some true => if allV c.fr o && dstOk n o then match o.op with
        | .call { callee := .value (.func f), args := args, argTypes := _ } => if callOk P f then some (f, args.toList.map (rho c.fr)) else none
        | _ => none
      else none
    | _ => none
  | _ => none
/-- Behind that call. -/
def resume (c : Cfg) (v : Value) (nx : Nat) : Cfg :=
  match c.todo with
  | .ops ops (o :: l) i id :: k => ⟨putV c.fr o.dst (some v), putT c.tags o.dst none, ⟨c.m.rows, nx⟩, .ops ops l (i + 1) id :: k⟩
  | _ => c

theorem Wst.later {m : Mem} {w w' : World} (h : Wst W0 m w) (k : Keep No w w') : Wst W0 ⟨m.rows, w'.heap.size⟩ w' :=
  ⟨rfl, fun r hr => by obtain ⟨t, ht⟩ := h.rows r hr; exact ⟨t, (k.block r.b (block_of_row ht) (fun f => f)).trans ht⟩, h.one, h.own, h.keep.trans k⟩
theorem Seg.later {m : Mem} {w w' : World} (h : Wst W0 m w) (k : Keep No w w') : Seg m w ⟨m.rows, w'.heap.size⟩ w' := by
  have hs := k.size
  refine ⟨by rw [← h.size]; exact hs, fun i hi => ⟨?_, hi.2⟩, fun i hi => k.block i (by rw [h.size]; exact hi.1) (fun f => f)⟩
  have := hi.1
  rw [← h.size] at this
  show i < w'.heap.size
  omega
/-- What a callee has made is safe. -/
theorem safe_new {m : Mem} {w w' : World} (h : Wst W0 m w) {b : Nat} (h1 : w.heap.size ≤ b) (h2 : b < w'.heap.size) : Safe ⟨m.rows, w'.heap.size⟩ b :=
  ⟨h2, fun r hr _ => by obtain ⟨t, ht⟩ := h.rows r hr; have := block_of_row ht; omega⟩
theorem resume_m (c : Cfg) (v : Value) (nx : Nat) {x : FuncId × List Value} (h : atCall P n c = some x) : (resume c v nx).m = ⟨c.m.rows, nx⟩ := by
  unfold atCall at h
  unfold resume
  split at h
  · rfl
  · cases h

/-- Where the call's value goes, and what is left behind the call. -/
def callDst (c : Cfg) : Option (Tmp × List K) := match c.todo with | .ops ops (o :: l) i id :: k => o.dst.map fun d => (d, .ops ops l (i + 1) id :: k) | _ => none
theorem call_ok {c : Cfg} {w : World} {f : FuncId} {args : List Value} (ha : atCall P n c = some (f, args))
    (hc : Calls P f args.toArray w (fun e w' => ∃ v, e = .returned v ∧ Goal P Q n (resume c v w'.heap.size) w')) : Goal P Q n c w := by
  obtain ⟨fr, tags, m, todo⟩ := c
  unfold atCall at ha
  simp only at ha
  split at ha
  case h_2 => cases ha
  split at ha
  case h_2 => cases ha
  rename_i ops o l i id k _ hw
  split at ha
  case isFalse => cases ha
  rename_i hall
  simp only [Bool.and_eq_true] at hall
  split at ha
  case h_2 => cases ha
  rename_i f' xs ts hop
  split at ha
  case isFalse => cases ha
  rename_i hk
  cases ha
  intro a hd hn ha
  show wpList P ops (KX P Q k) (o :: l) a w
  have hsel : ∀ cs b, o.op ≠ .select cs b := fun cs b e => by rw [hop] at e; cases e
  unfold wpList
  rw [wantV_wanted ha hw, if_pos rfl]
  refine .inl ?_
  unfold Oper.wp
  rw [execOp_congr o hsel (fun x hx => rho_eval ha hall.1 hx), run_call hop rfl hk]
  have e1 : (xs.toList.map (rho fr)).toArray = xs.map (rho fr) := by apply Array.ext'; simp
  rw [e1] at hc
  refine Calls.mono hc ?_
  rintro e w' ⟨v, rfl, hg⟩
  have := hg (a.put o.dst v) (by rw [(put_size a o.dst v).2]; exact hd) (by rw [(put_size a o.dst v).1]; exact hn) (putV_spec ha hn hall.2 (fun u hu => Option.some.inj hu))
  exact this

/-- Run to the next call, and take its contract. -/
theorem go_call (fuel : Nat) (hs : List (Nat × Nat × HintS)) (f : FuncId) (args : List Value) (eqs : List (Value × Value)) (sems : List (Sem Value × Value)) {c : Cfg} {w : World}
    (hW : Wst W0 c.m w)
    (he : ((atCall P n (run P n gt unroll hs fuel c).1, (run P n gt unroll hs fuel c).2.eqs, (run P n gt unroll hs fuel c).2.sems), (run P n gt unroll hs fuel c).2.blks.map (·.1)) = ((some (f, args), eqs, sems), (run P n gt unroll hs fuel c).2.blks.map (·.2)))
    (h1 : Eqs eqs) (h2 : SemObs P c.m w sems)
    (hk : ∀ w', Wst W0 (run P n gt unroll hs fuel c).1.m w' → Seg c.m w (run P n gt unroll hs fuel c).1.m w' →
      Calls P f args.toArray w' (fun e w2 => ∃ v, e = .returned v ∧ Goal P Q n (resume (run P n gt unroll hs fuel c).1 v w2.heap.size) w2)) : Goal P Q n c w := by
  simp only [Prod.mk.injEq] at he
  obtain ⟨⟨e1, e2, e3⟩, e4⟩ := he
  refine run_ok fuel hW (Seg.refl _ _) ⟨?_, all_of_maps e4, ?_⟩ fun w' hW' hS' => call_ok e1 (hk w' hW' hS')
  · rw [e2]; exact h1.mem
  · rw [e3]; exact h2.mem

/-! ### a region that draws its order -/
def svOf (fr : Tmp → Option Value) (t : Tmp) : Sv := match fr t with | some v => .is v | none => .such (fun _ _ => True) (fun _ _ _ _ _ => trivial)
def atDrawn (c : Cfg) : Option (List Oper × List K) := match c.todo with | .code (.region _ ops true) :: k => some (ops.toList, k) | _ => none
def rowsOf (m : Mem) : List Row := m.rows.map fun r => (r.b, r.cs)
/-- The reckoned region, whole. -/
def evAt (P : Program) (n : Nat) (gt : Nat → Option Nat) (hs : List (Nat × Hint)) (ts : List Tmp) (c : Cfg) : Option (List Sv × List (Value × Value) × List (FuncId × List Sv × Sv) × List (BinOp × TypeId × Value × Value × Value) × List (Op × TypeId × List (Tmp × Sv) × Sv) × List (Sem Value × Value)) :=
  match atDrawn c with
  | some (l, _) => if chk l.toArray n && P.follows .mixedOrders then (ev P l.toArray (rowsOf c.m) gt hs l 0 (svOf c.fr) c.tags).map (fun r => (ts.map r.1, r.2.eqs, r.2.calls, r.2.bins, r.2.bys, r.2.sems)) else none
  | none => none
def evBlks (P : Program) (gt : Nat → Option Nat) (hs : List (Nat × Hint)) (c : Cfg) : Option (List (Nat × Nat)) :=
  match atDrawn c with
  | some (l, _) => (ev P l.toArray (rowsOf c.m) gt hs l 0 (svOf c.fr) c.tags).map (fun r => r.2.blks)
  | none => none
def frOf (ts : List Tmp) (vs : List Value) (t : Tmp) : Option Value := match ts, vs with | x :: xs, v :: vs => if Nat.beq t x then some v else frOf xs vs t | _, _ => none
/-- Behind that region: the slots looked at, with their values. -/
def behind (c : Cfg) (ts : List Tmp) (vs : List Value) (nx : Nat) : Cfg := ⟨frOf ts vs, c.tags, ⟨c.m.rows, nx⟩, match atDrawn c with | some (_, k) => k | none => c.todo⟩

theorem frOf_spec {a : Act} : ∀ {ts : List Tmp} {vs : List Value}, vs = ts.map (fun t => a.tmps.getD t undef) → ∀ t v, frOf ts vs t = some v → a.tmps.getD t undef = v
  | [], _, h, t, v, hf => by subst h; simp [frOf] at hf
  | x :: xs, vs, h, t, v, hf => by
    subst h
    simp only [List.map_cons, frOf, Nat.beq_eq] at hf
    split at hf
    · rename_i e; subst e; exact Option.some.inj hf
    · exact frOf_spec rfl t v hf

theorem drawn_ok {c : Cfg} {w : World} (hs : List (Nat × Hint)) (ts : List Tmp) (ss : List Sv) (eqs : List (Value × Value)) (calls : List (FuncId × List Sv × Sv)) (bins : List (BinOp × TypeId × Value × Value × Value)) (bys : List (Op × TypeId × List (Tmp × Sv) × Sv)) (semsE : List (Sem Value × Value))
    (hW : Wst W0 c.m w) (he : evAt P n gt hs ts c = some (ss, eqs, calls, bins, bys, semsE)) (hb : (evBlks P gt hs c).map (·.map (·.1)) = (evBlks P gt hs c).map (·.map (·.2)))
    (h1 : Eqs eqs) (h2 : CallObs P w calls) (h3 : BinObs P w bins) (h4 : ByObs P w bys) (h5 : SemObsE P w semsE)
    (hk : ∀ w' vs, Keep No w w' → allOk ss w' vs → Goal P Q n (behind c ts vs w'.heap.size) w') : Goal P Q n c w := by
  obtain ⟨fr, tags, m, todo⟩ := c
  intro a hd hn ha
  unfold evAt at he
  unfold evBlks at hb
  unfold behind at hk
  unfold atDrawn at he hb hk
  match todo, he, hb, hk with
  | .code (.region id ops true) :: k, he, hb, hk =>
    simp only at he hb hk
    split at he
    case isFalse => cases he
    rename_i hc
    simp only [Bool.and_eq_true] at hc
    show (Code.region id ops true).wp P (KX P Q k) a w
    have hops : (Code.region id ops true) = (Code.region id ops.toList.toArray true) := by simp
    rw [hops]
    refine region_ev0 (f0 := svOf fr) (rowsOf m) tags gt hs ts ss eqs calls bins bys semsE hc.2 (by rw [hn]; exact hc.1) ?_ ?_ he ?_ h1 h2 h3 h4 h5 ?_
    · intro t w'
      unfold svOf
      cases hf : fr t with
      | none => trivial
      | some v => exact ha t v hf
    · intro r hr
      obtain ⟨q, hq, rfl⟩ := List.mem_map.1 hr
      exact hW.rows q hq
    · rw [Option.map_map, Option.map_map] at hb
      exact hb
    · intro a' w' k' hd' hn' hok
      exact hk w' _ k' hok a' (by rw [hd', hd]) (by rw [hn', hn]) (frOf_spec rfl)

/-- Run to a region that draws its order, and cross it. -/
theorem go_drawn (fuel : Nat) (hs0 : List (Nat × Nat × HintS)) (eqs0 : List (Value × Value)) (sems : List (Sem Value × Value)) (hs : List (Nat × Hint)) (ts : List Tmp) (ss : List Sv) (eqs : List (Value × Value)) (calls : List (FuncId × List Sv × Sv))
    (bins : List (BinOp × TypeId × Value × Value × Value)) (bys : List (Op × TypeId × List (Tmp × Sv) × Sv)) (semsE : List (Sem Value × Value)) {c : Cfg} {w : World} (hW : Wst W0 c.m w)
    (he0 : (((run P n gt unroll hs0 fuel c).2.eqs, (run P n gt unroll hs0 fuel c).2.sems), (run P n gt unroll hs0 fuel c).2.blks.map (·.1)) = ((eqs0, sems), (run P n gt unroll hs0 fuel c).2.blks.map (·.2)))
    (he : evAt P n gt hs ts (run P n gt unroll hs0 fuel c).1 = some (ss, eqs, calls, bins, bys, semsE)) (hb : (evBlks P gt hs (run P n gt unroll hs0 fuel c).1).map (·.map (·.1)) = (evBlks P gt hs (run P n gt unroll hs0 fuel c).1).map (·.map (·.2)))
    (h01 : Eqs eqs0) (h02 : SemObs P c.m w sems) (h1 : Eqs eqs)
    (hk : ∀ w', Wst W0 (run P n gt unroll hs0 fuel c).1.m w' → Seg c.m w (run P n gt unroll hs0 fuel c).1.m w' → CallObs P w' calls ∧ BinObs P w' bins ∧ ByObs P w' bys ∧ SemObsE P w' semsE ∧
      ∀ w2 vs, Keep No w' w2 → allOk ss w2 vs → Goal P Q n (behind (run P n gt unroll hs0 fuel c).1 ts vs w2.heap.size) w2) : Goal P Q n c w := by
  simp only [Prod.mk.injEq] at he0
  obtain ⟨⟨e2, e3⟩, e4⟩ := he0
  refine run_ok fuel hW (Seg.refl _ _) ⟨?_, all_of_maps e4, ?_⟩ fun w' hW' hS' => ?_
  · rw [e2]; exact h01.mem
  · rw [e3]; exact h02.mem
  · obtain ⟨c1, c2, c3, c5, c4⟩ := hk w' hW' hS'
    exact drawn_ok hs ts ss eqs calls bins bys semsE hW' he hb h1 c1 c2 c3 c5 c4

theorem allOk_is {w : World} : ∀ {vs us : List Value}, allOk (vs.map .is) w us → us = vs
  | [], [], _ => rfl
  | [], _ :: _, h => h.elim
  | _ :: _, [], h => h.elim
  | v :: vs, u :: us, h => by
    have h1 : u = v := h.1
    rw [h1, allOk_is h.2]
/-- Cross a region all of whose results are known values: the state behind it is as it is written. -/
theorem go_drawn_is (fuel : Nat) (hs0 : List (Nat × Nat × HintS)) (eqs0 : List (Value × Value)) (sems0 : List (Sem Value × Value)) (hs : List (Nat × Hint)) (ts : List Tmp) (vs : List Value) (rows : List RowS) (tg : List (Nat × Nat)) (T : List K) (eqs : List (Value × Value)) (calls : List (FuncId × List Sv × Sv))
    (bins : List (BinOp × TypeId × Value × Value × Value)) (sems : List (Sem Value × Value)) {c : Cfg} {w : World} (hW : Wst W0 c.m w)
    (he0 : (((run P n gt unroll hs0 fuel c).2.eqs, (run P n gt unroll hs0 fuel c).2.sems, (run P n gt unroll hs0 fuel c).1.m.rows, (atDrawn (run P n gt unroll hs0 fuel c).1).map (·.2)), (run P n gt unroll hs0 fuel c).2.blks.map (·.1)) = ((eqs0, sems0, rows, some T), (run P n gt unroll hs0 fuel c).2.blks.map (·.2)))
    (he : evAt P n gt hs ts (run P n gt unroll hs0 fuel c).1 = some (vs.map .is, eqs, calls, bins, [], sems)) (hb : (evBlks P gt hs (run P n gt unroll hs0 fuel c).1).map (·.map (·.1)) = (evBlks P gt hs (run P n gt unroll hs0 fuel c).1).map (·.map (·.2)))
    (h01 : Eqs eqs0) (h02 : SemObs P c.m w sems0) (h1 : Eqs eqs)
    (hk : ∀ w', Wst W0 ⟨rows, w'.heap.size⟩ w' → Seg c.m w ⟨rows, w'.heap.size⟩ w' → CallObs P w' calls ∧ BinObs P w' bins ∧ SemObsE P w' sems ∧
      ∀ w2, Keep No w' w2 → Wst W0 ⟨rows, w2.heap.size⟩ w2 → Seg c.m w ⟨rows, w2.heap.size⟩ w2 → Goal P Q n ⟨frOf ts vs, tagL tg, ⟨rows, w2.heap.size⟩, T⟩ w2) : Goal P Q n c w := by
  have he0' := he0
  simp only [Prod.mk.injEq] at he0'
  obtain ⟨⟨e1, e2, er, et⟩, e4⟩ := he0'
  refine go_drawn fuel hs0 eqs0 sems0 hs ts (vs.map .is) eqs calls bins [] sems hW (by rw [e1, e2, e4]) he hb h01 h02 h1 fun w' hW' hS' => ?_
  have em : (run P n gt unroll hs0 fuel c).1.m = ⟨rows, w'.heap.size⟩ := by rw [← er, hW'.size]
  have hW2 := hW'
  have hS2 := hS'
  rw [em] at hW2 hS2
  obtain ⟨c1, c2, c3, c4⟩ := hk w' hW2 hS2
  refine ⟨c1, c2, trivial, c3, fun w2 us k hok => ?_⟩
  obtain rfl := allOk_is hok
  have h3 := c4 w2 k (hW2.later k) (hS2.trans (Seg.later hW2 k))
  intro a hd hn ha
  have h4 := h3 a hd hn ha
  unfold behind
  cases hx : atDrawn (run P n gt unroll hs0 fuel c).1 with
  | none => rw [hx] at et; cases et
  | some x =>
    obtain ⟨l, k'⟩ := x
    rw [hx] at et
    obtain rfl : k' = T := Option.some.inj et
    exact h4

/-! ### return -/
theorem KX_ret {a : Act} {w : World} : ∀ {k : List K}, Q .ret a w → KX P Q k .ret a w
  | [], h => h
  | .code _ :: k, h => KX_ret (k := k) h
  | .ops _ _ _ _ :: k, h => KX_ret (k := k) h
  | .blk _ :: k, h => KX_ret (k := k) h
  | .rnd _ _ :: k, h => KX_ret (k := k) h
  | .inv _ :: k, h => KX_ret (k := k) h

def resSem (tmps : Array Value) : ResultVar → Sem Value
  | .tmp t => pure (tmps.getD t undef)
  | .cell a t => do loadVar t (← asAddr (tmps.getD a undef))
theorem andThen_ok_of {α β γ : Type} {X : Result α} {Y : α → World → Result β} {f : β → World → Result γ} {v : β} {w' : World} (h : X.andThen Y = .ok v w') : X.andThen (fun a w => (Y a w).andThen f) = f v w' := by
  cases X <;> simp_all
theorem results_1 {fn : Func} {tmps : Array Value} {w : World} {r : ResultVar} {v : Value} (h : fn.results = #[r]) (h1 : (resSem tmps r).run P w = .ok v w) : (results fn tmps).run P w = .ok v w := by
  cases r <;> simp [resSem] at h1 <;> simp [results, h, h1]
theorem results_2 {fn : Func} {tmps : Array Value} {w : World} {r s : ResultVar} {v u : Value} (h : fn.results = #[r, s]) (h1 : (resSem tmps r).run P w = .ok v w) (h2 : (resSem tmps s).run P w = .ok u w) : (results fn tmps).run P w = .ok (.tuple #[v, u]) w := by
  cases r <;> cases s <;> simp [resSem] at h1 h2 <;> simp [results, h, h1, h2] <;> first | exact andThen_ok_of h2 | exact (andThen_ok_of h1).trans (andThen_ok_of h2) | exact andThen_ok_of h1
theorem results_3 {fn : Func} {tmps : Array Value} {w : World} {r s q : ResultVar} {v u x : Value} (h : fn.results = #[r, s, q]) (h1 : (resSem tmps r).run P w = .ok v w) (h2 : (resSem tmps s).run P w = .ok u w) (h3 : (resSem tmps q).run P w = .ok x w) : (results fn tmps).run P w = .ok (.tuple #[v, u, x]) w := by
  cases r <;> cases s <;> cases q <;> simp [resSem] at h1 h2 h3 <;> simp [results, h, h1, h2, h3] <;> first | exact andThen_ok_of h3 | exact andThen_ok_of h2 | exact andThen_ok_of h1 | exact (andThen_ok_of h2).trans (andThen_ok_of h3) | exact (andThen_ok_of h1).trans (andThen_ok_of h3) | exact (andThen_ok_of h1).trans (andThen_ok_of h2) | exact (andThen_ok_of h1).trans ((andThen_ok_of h2).trans (andThen_ok_of h3))

def resV (P : Program) (c : Cfg) : ResultVar → Option (Value × List (Nat × Nat))
  | .tmp t => (c.fr t).map fun v => (v, [])
  | .cell a t => match c.fr a with
    | some (.pointer (some ad)) => match (c.tags a).bind (c.m.rows[·]?) with
      | some r => match aRun P (some r.cs) (loadVar t ad) with
        | some (v, l) => some (v, l.map fun b => (b, r.b))
        | none => none
      | none => none
    | _ => none
theorem resV_ok {c : Cfg} {w : World} {a : Act} {r : ResultVar} {v : Value} {l : List (Nat × Nat)} (hW : Wst W0 c.m w) (ha : ∀ t v, c.fr t = some v → a.tmps.getD t undef = v) (h : resV P c r = some (v, l)) (hl : ∀ p ∈ l, p.1 = p.2) : (resSem a.tmps r).run P w = .ok v w := by
  cases r with
  | tmp t =>
    simp only [resV, Option.map_eq_some_iff] at h
    obtain ⟨u, h1, h2⟩ := h
    cases h2
    rw [← ha t _ h1]; rfl
  | cell p t =>
    simp only [resV] at h
    split at h
    · rename_i ad hp
      split at h
      · rename_i q hq
        split at h
        · rename_i u bl hr
          cases h
          rw [Option.bind_eq_some_iff] at hq
          obtain ⟨j, _, hj⟩ := hq
          obtain ⟨t', ht⟩ := hW.rows q (List.mem_of_getElem? hj)
          have hrun := aRun_some ht hr (fun c hc => hl (c, q.b) (List.mem_map.2 ⟨c, hc, rfl⟩))
          show (do loadVar t (← asAddr (a.tmps.getD p undef)) : Sem Value).run P w = _
          rw [ha p _ hp]
          simpa [asAddr] using hrun
        · cases h
      · cases h
    · cases h

/-- Is the walk at a return? What does it return? -/
def atRet (P : Program) (rs : List ResultVar) (c : Cfg) : Option (Value × List (Nat × Nat)) :=
  match c.todo with
  | .code .ret :: _ => match rs with
    | [r] => resV P c r
    | [r, s] => match resV P c r, resV P c s with
      | some (v, l), some (u, l') => some (.tuple #[v, u], l ++ l')
      | _, _ => none
    | [r, s, q] => match resV P c r, resV P c s, resV P c q with
      | some (v, l), some (u, l'), some (x, l2) => some (.tuple #[v, u, x], l ++ (l' ++ l2))
      | _, _, _ => none
    | _ => none
  | _ => none
theorem ret_ok {fn : Func} {R : Ending → World → Prop} {rs : List ResultVar} {c : Cfg} {w : World} {v : Value} {l : List (Nat × Nat)} (hW : Wst W0 c.m w) (hr : fn.results = rs.toArray) (h : atRet P rs c = some (v, l)) (hl : ∀ p ∈ l, p.1 = p.2) (hR : R (.returned v) w) : Goal P (bodyPost P fn R) n c w := by
  obtain ⟨fr, tags, m, todo⟩ := c
  intro a hd hn ha
  unfold atRet at h
  simp only at h
  split at h
  case h_2 => cases h
  refine wp_ret (KX_ret (bodyPost_ret (v := v) ?_ hd hR))
  split at h
  · exact results_1 hr (resV_ok hW ha h hl)
  · split at h
    · rename_i h1 h2
      cases h
      exact results_2 hr (resV_ok hW ha h1 (fun p hp => hl p (List.mem_append.2 (.inl hp)))) (resV_ok hW ha h2 (fun p hp => hl p (List.mem_append.2 (.inr hp))))
    · cases h
  · split at h
    · rename_i h1 h2 h3
      cases h
      exact results_3 hr (resV_ok hW ha h1 (fun p hp => hl p (List.mem_append.2 (.inl hp)))) (resV_ok hW ha h2 (fun p hp => hl p (List.mem_append.2 (.inr (List.mem_append.2 (.inl hp)))))) (resV_ok hW ha h3 (fun p hp => hl p (List.mem_append.2 (.inr (List.mem_append.2 (.inr hp))))))
    · cases h
  · cases h

/-- Run to the return. -/
theorem go_ret {fn : Func} {R : Ending → World → Prop} (fuel : Nat) (hs : List (Nat × Nat × HintS)) (rs : List ResultVar) (v : Value) (eqs : List (Value × Value)) (sems : List (Sem Value × Value)) {c : Cfg} {w : World} (hW : Wst W0 c.m w) (hr : fn.results = rs.toArray)
    (he : (((atRet P rs (run P n gt unroll hs fuel c).1).map (·.1), (run P n gt unroll hs fuel c).2.eqs, (run P n gt unroll hs fuel c).2.sems), (run P n gt unroll hs fuel c).2.blks.map (·.1), (atRet P rs (run P n gt unroll hs fuel c).1).map (·.2.map (·.1))) =
      ((some v, eqs, sems), (run P n gt unroll hs fuel c).2.blks.map (·.2), (atRet P rs (run P n gt unroll hs fuel c).1).map (·.2.map (·.2))))
    (h1 : Eqs eqs) (h2 : SemObs P c.m w sems)
    (hk : ∀ w', Wst W0 (run P n gt unroll hs fuel c).1.m w' → Seg c.m w (run P n gt unroll hs fuel c).1.m w' → R (.returned v) w') : Goal P (bodyPost P fn R) n c w := by
  simp only [Prod.mk.injEq] at he
  obtain ⟨⟨e1, e2, e3⟩, e4, e5⟩ := he
  refine run_ok fuel hW (Seg.refl _ _) ⟨?_, all_of_maps e4, ?_⟩ fun w' hW' hS' => ?_
  · rw [e2]; exact h1.mem
  · rw [e3]; exact h2.mem
  · cases hx : atRet P rs (run P n gt unroll hs fuel c).1 with
    | none => rw [hx] at e1; cases e1
    | some vl =>
      rw [hx] at e1 e5
      have e1' : vl.1 = v := Option.some.inj e1
      have e5' := Option.some.inj e5
      exact ret_ok hW' hr (v := v) (l := vl.2) (by rw [hx, ← e1']) (all_of_maps e5') (hk w' hW' hS')

/-! ### a loop by a measure -/
/-- The walk has come to the end of a round. -/
def agrees (n : Nat) (c : Cfg) (a : Act) : Prop := a.defers = [] ∧ a.tmps.size = n ∧ ∀ t v, c.fr t = some v → a.tmps.getD t undef = v
theorem inv_ok {c : Cfg} {w : World} {R : Act → World → Prop} {k : List K} (ht : c.todo = .inv R :: k) (h : ∀ a, agrees n c a → R a w) : Goal P Q n c w := by
  obtain ⟨fr, tags, m, todo⟩ := c
  simp only at ht
  subst ht
  intro a hd hn ha
  exact h a ⟨hd, hn, ha⟩

open Classical in
/-- A loop at c: L i w are its heads, J i what the world holds there; each round comes to a smaller i, or leaves the loop. -/
theorem loop_ok {x : Code} {k : List K} (L : Nat → World → Cfg) (J : Nat → World → Prop) (hL : ∀ i w, (L i w).todo = .code (.loop x) :: k)
    (round : ∀ i w, J i w → Goal P Q n { L i w with todo := .code x :: .inv (fun a' w' => ∃ j, j < i ∧ J j w' ∧ agrees n (L j w') a') :: k } w) (i0 : Nat) (w : World) (h0 : J i0 w) : Goal P Q n (L i0 w) w := by
  intro a hd hn ha
  rw [hL i0]
  show (Code.loop x).wp P (KX P Q k) a w
  have hex : ∀ (S : Nat → Prop), (∃ i, S i) → ∃ i, S i ∧ ∀ j, S j → i ≤ j := by
    intro S ⟨i, hi⟩
    induction i using Nat.strongRecOn with
    | _ i ih =>
      by_cases hm : ∃ j, j < i ∧ S j
      · obtain ⟨j, hj, hs⟩ := hm; exact ih j hj hs
      · exact ⟨i, hi, fun j hj => Nat.le_of_not_lt fun hlt => hm ⟨j, hlt, hj⟩⟩
  let S (a : Act) (w : World) (i : Nat) : Prop := J i w ∧ agrees n (L i w) a
  let μ (a : Act) (w : World) : Nat := if h : ∃ i, S a w i then Classical.choose (hex _ h) else 0
  have hμ : ∀ a w, (∃ i, S a w i) → S a w (μ a w) ∧ ∀ j, S a w j → μ a w ≤ j := fun a w h => by
    have := Classical.choose_spec (hex _ h)
    have e : μ a w = Classical.choose (hex _ h) := dif_pos h
    rw [e]; exact this
  refine wp_loop (fun a w => ∃ i, S a w i) μ ⟨i0, h0, hd, hn, ha⟩ fun a w hI => ?_
  obtain ⟨⟨hJ, hag⟩, _⟩ := hμ a w hI
  have := round (μ a w) w hJ a hag.1 hag.2.1 hag.2.2
  refine Code.wp_mono ?_ this
  intro e a' w' hq
  cases e with
  | normal =>
    obtain ⟨j, hj, hJj, hagj⟩ := hq
    have hS : S a' w' j := ⟨hJj, hagj⟩
    exact ⟨⟨j, hS⟩, Nat.lt_of_le_of_lt ((hμ a' w' ⟨j, hS⟩).2 j hS) hj⟩
  | _ => exact hq

def loopOf : List K → Code | .code (.loop x) :: _ => x | _ => .skip
def invOf (c : Cfg) : Act → World → Prop := match c.todo with | .inv R :: _ => R | _ => fun _ _ => False
theorem inv_of {c : Cfg} {w : World} (h : ∀ a, agrees n c a → invOf c a w) : Goal P Q n c w := by
  obtain ⟨fr, tags, m, todo⟩ := c
  intro a hd hn ha
  have := h a ⟨hd, hn, ha⟩
  unfold invOf at this
  simp only at this
  split at this
  · exact this
  · exact this.elim
/-- The slots ts hold vs. -/
def Slots (n : Nat) (ts : List Tmp) (vs : List Value) (a : Act) : Prop := a.defers = [] ∧ a.tmps.size = n ∧ ∀ t v, frOf ts vs t = some v → a.tmps.getD t undef = v
theorem frOf_of {fr : Tmp → Option Value} {a : Act} (ha : ∀ t v, fr t = some v → a.tmps.getD t undef = v) : ∀ {ts : List Tmp} {vs : List Value}, ts.map fr = vs.map some → ∀ t v, frOf ts vs t = some v → a.tmps.getD t undef = v
  | [], _, _, t, v, hf => by simp [frOf] at hf
  | x :: xs, [], h, t, v, hf => by simp at h
  | x :: xs, u :: us, h, t, v, hf => by
    simp only [List.map_cons, List.cons.injEq] at h
    simp only [frOf, Nat.beq_eq] at hf
    split at hf
    · rename_i e; subst e; exact (ha _ _ h.1).trans (Option.some.inj hf)
    · exact frOf_of ha h.2 t v hf
theorem frOf_fr {fr : Tmp → Option Value} : ∀ {ts : List Tmp} {vs : List Value}, ts.map fr = vs.map some → ∀ t v, frOf ts vs t = some v → fr t = some v
  | [], _, _, t, v, hf => by simp [frOf] at hf
  | x :: xs, [], h, t, v, hf => by simp at h
  | x :: xs, u :: us, h, t, v, hf => by
    simp only [List.map_cons, List.cons.injEq] at h
    simp only [frOf, Nat.beq_eq] at hf
    split at hf
    · rename_i e; subst e; rw [h.1]; exact hf
    · exact frOf_fr h.2 t v hf
/-- Run to the end of a round (or to where the walk stops: 'stop'). -/
theorem go_inv (fuel : Nat) (hs : List (Nat × Nat × HintS)) (ts : List Tmp) (vs : List Value) (rows : List RowS) (R : Act → World → Prop) (eqs : List (Value × Value)) (sems : List (Sem Value × Value)) {c : Cfg} {w : World} (hW : Wst W0 c.m w)
    (he : ((ts.map (run P n gt unroll hs fuel c).1.fr, (run P n gt unroll hs fuel c).1.m.rows, invOf (run P n gt unroll hs fuel c).1, (run P n gt unroll hs fuel c).2.eqs, (run P n gt unroll hs fuel c).2.sems), (run P n gt unroll hs fuel c).2.blks.map (·.1)) =
      ((vs.map some, rows, R, eqs, sems), (run P n gt unroll hs fuel c).2.blks.map (·.2)))
    (h1 : Eqs eqs) (h2 : SemObs P c.m w sems)
    (hk : ∀ w' a, Wst W0 ⟨rows, w'.heap.size⟩ w' → Seg c.m w ⟨rows, w'.heap.size⟩ w' → Slots n ts vs a → R a w') : Goal P Q n c w := by
  simp only [Prod.mk.injEq] at he
  obtain ⟨⟨e0, er, ei, e2, e3⟩, e4⟩ := he
  refine run_ok fuel hW (Seg.refl _ _) ⟨?_, all_of_maps e4, ?_⟩ fun w' hW' hS' => inv_of fun a ha => ?_
  · rw [e2]; exact h1.mem
  · rw [e3]; exact h2.mem
  · rw [ei]
    have em : (run P n gt unroll hs fuel c).1.m = ⟨rows, w'.heap.size⟩ := by rw [← er, hW'.size]
    rw [em] at hW' hS'
    exact hk w' a hW' hS' ⟨ha.1, ha.2.1, frOf_of ha.2.2 e0⟩

/-- Run to where the walk stops, keep the slots ts alone: the state is then as it is written. -/
theorem go_stop (fuel : Nat) (hs : List (Nat × Nat × HintS)) (ts : List Tmp) (vs : List Value) (rows : List RowS) (tg : List (Nat × Nat)) (T : List K) (eqs : List (Value × Value)) (sems : List (Sem Value × Value)) {c : Cfg} {w : World} (hW : Wst W0 c.m w)
    (he : ((ts.map (run P n gt unroll hs fuel c).1.fr, (run P n gt unroll hs fuel c).1.m.rows, (run P n gt unroll hs fuel c).1.todo, (run P n gt unroll hs fuel c).2.eqs, (run P n gt unroll hs fuel c).2.sems), (run P n gt unroll hs fuel c).2.blks.map (·.1)) =
      ((vs.map some, rows, T, eqs, sems), (run P n gt unroll hs fuel c).2.blks.map (·.2)))
    (h1 : Eqs eqs) (h2 : SemObs P c.m w sems)
    (hk : ∀ w', Wst W0 ⟨rows, w'.heap.size⟩ w' → Seg c.m w ⟨rows, w'.heap.size⟩ w' → Goal P Q n ⟨frOf ts vs, tagL tg, ⟨rows, w'.heap.size⟩, T⟩ w') : Goal P Q n c w := by
  simp only [Prod.mk.injEq] at he
  obtain ⟨⟨e0, er, et, e2, e3⟩, e4⟩ := he
  refine run_ok fuel hW (Seg.refl _ _) ⟨?_, all_of_maps e4, ?_⟩ fun w' hW' hS' => ?_
  · rw [e2]; exact h1.mem
  · rw [e3]; exact h2.mem
  · have em : (run P n gt unroll hs fuel c).1.m = ⟨rows, w'.heap.size⟩ := by rw [← er, hW'.size]
    rw [em] at hW' hS'
    intro a hd hn ha
    rw [et]
    exact hk w' hW' hS' a hd hn (frOf_of ha e0)

/-- Run to a call and take its contract; behind it the state is as it is written (r: the slot that the call's value goes to). -/
theorem go_call_is (fuel : Nat) (hs : List (Nat × Nat × HintS)) (f : FuncId) (args : List Value) (ts : List Tmp) (vs : List Value) (r : Tmp) (rows : List RowS) (tg : List (Nat × Nat)) (T : List K) (eqs : List (Value × Value)) (sems : List (Sem Value × Value)) {c : Cfg} {w : World}
    (hW : Wst W0 c.m w)
    (he : ((atCall P n (run P n gt unroll hs fuel c).1, ts.map (run P n gt unroll hs fuel c).1.fr, (run P n gt unroll hs fuel c).1.m.rows, callDst (run P n gt unroll hs fuel c).1, (run P n gt unroll hs fuel c).2.eqs, (run P n gt unroll hs fuel c).2.sems), (run P n gt unroll hs fuel c).2.blks.map (·.1)) =
      ((some (f, args), vs.map some, rows, some (r, T), eqs, sems), (run P n gt unroll hs fuel c).2.blks.map (·.2)))
    (h1 : Eqs eqs) (h2 : SemObs P c.m w sems)
    (hk : ∀ w', Wst W0 ⟨rows, w'.heap.size⟩ w' → Seg c.m w ⟨rows, w'.heap.size⟩ w' →
      Calls P f args.toArray w' (fun e w2 => ∃ v, e = .returned v ∧ Goal P Q n ⟨frOf (r :: ts) (v :: vs), tagL tg, ⟨rows, w2.heap.size⟩, T⟩ w2)) : Goal P Q n c w := by
  simp only [Prod.mk.injEq] at he
  obtain ⟨⟨e1, e0, er, ed, e2, e3⟩, e4⟩ := he
  refine run_ok fuel hW (Seg.refl _ _) ⟨?_, all_of_maps e4, ?_⟩ fun w' hW' hS' => call_ok e1 ?_
  · rw [e2]; exact h1.mem
  · rw [e3]; exact h2.mem
  · have em : (run P n gt unroll hs fuel c).1.m = ⟨rows, w'.heap.size⟩ := by rw [← er, hW'.size]
    rw [em] at hW' hS'
    refine (hk w' hW' hS').mono ?_
    rintro e w2 ⟨v, rfl, hg⟩
    refine ⟨v, rfl, ?_⟩
    generalize (run P n gt unroll hs fuel c).1 = c1 at *
    obtain ⟨fr, tags, m, todo⟩ := c1
    unfold callDst at ed
    simp only at ed
    match todo, ed with
    | .ops ops (o :: l) i id :: k, ed =>
      simp only [Option.map_eq_some_iff, Prod.mk.injEq] at ed
      obtain ⟨d, hd, rfl, rfl⟩ := ed
      intro a had hn ha
      refine hg a had hn fun t u hu => ?_
      simp only [frOf] at hu
      simp only [resume, putV, hd] at ha
      split at hu
      · rename_i he'
        have := ha t v (by simp [he'])
        rw [this]; exact Option.some.inj hu
      · rename_i he'
        have : fr t = some u ∨ True := .inr trivial
        have hfr : ∀ t' u', frOf ts vs t' = some u' → fr t' = some u' := frOf_fr e0
        exact ha t u (by simp [he', hfr t u hu])

/-! ### bytes under the walk -/
theorem Rd.blk_lt {w : World} {v : Value} {bs : List UInt8} (r : Rd w v bs) {b : Nat} (hb : v.ownBlock = some b) (hn : 0 < bs.length) : b < w.heap.size := by
  have h1 := r.block_eq (i := 0) hn
  rw [hb] at h1
  have h2 := r.cell 0 hn
  have := World.block_lt_of_cell? w _ h2
  rw [Option.some.inj h1]; exact this
/-- Bytes that were there when the function began read on, whatever the walk does. -/
theorem Rd.walk {w0 w1 w2 : World} {v : Value} {bs : List UInt8} {m : Mem} (r : Rd w0 v bs) (hW : Wst w0 m w1) (hs : ∀ k, Safe m k → w2.heap[k]? = w1.heap[k]?) : Rd w2 v bs := by
  refine ⟨r.shape, fun i hi => ?_⟩
  have r1 := r.keep0 hW.keep
  have hc := r1.cell i hi
  have hb := r.block_eq hi
  have hl := r.blk_lt hb (by omega)
  have hsafe : Safe m (blk v) := ⟨by have := hW.keep.size; rw [← hW.size]; omega, fun q hq ho => by have := hW.own q hq ho; omega⟩
  rw [← hc]
  exact World.cell?_of_block (hs _ hsafe)
/-- The same for bytes that a callee made. -/
theorem Rd.safe {w1 w2 : World} {v : Value} {bs : List UInt8} {m : Mem} (r : Rd w1 v bs) (hv : ∀ b, v.ownBlock = some b → Safe m b) (hs : ∀ k, Safe m k → w2.heap[k]? = w1.heap[k]?) : Rd w2 v bs := by
  refine ⟨r.shape, fun i hi => ?_⟩
  rw [← r.cell i hi]
  exact World.cell?_of_block (hs _ (hv _ (r.block_eq hi)))

/-! ### calls that write into blocks of their own, append -/
/-- What a callee may write into: no known row, nothing older than the function's begin. -/
def Loose (W0 : World) (m : Mem) (S : Nat → Prop) : Prop := ∀ k, S k → W0.heap.size ≤ k ∧ ∀ r ∈ m.rows, r.b ≠ k
theorem Wst.laterS {m : Mem} {w w' : World} {S : Nat → Prop} (h : Wst W0 m w) (k : Keep S w w') (hS : Loose W0 m S) : Wst W0 ⟨m.rows, w'.heap.size⟩ w' :=
  ⟨rfl, fun r hr => by obtain ⟨t, ht⟩ := h.rows r hr; exact ⟨t, (k.block r.b (block_of_row ht) (fun f => (hS r.b f).2 r hr rfl)).trans ht⟩, h.one, h.own,
    h.keep.trans' k (fun i hi f => absurd hi (Nat.not_lt.2 (hS i f).1))⟩
/-- What is safe stays safe; what the callee did not write into is as it was. -/
structure SegS (m : Mem) (w : World) (S : Nat → Prop) (m' : Mem) (w' : World) : Prop where
  safe : ∀ k, Safe m k → Safe m' k
  same : ∀ k, Safe m k → ¬ S k → w'.heap[k]? = w.heap[k]?
theorem SegS.later {m : Mem} {w w' : World} {S : Nat → Prop} (h : Wst W0 m w) (k : Keep S w w') : SegS m w S ⟨m.rows, w'.heap.size⟩ w' := by
  have hs := k.size
  refine ⟨fun i hi => ⟨?_, hi.2⟩, fun i hi hn => k.block i (by rw [h.size]; exact hi.1) hn⟩
  have := hi.1
  rw [← h.size] at this
  show i < w'.heap.size
  omega

/-- Is the walk at an append? Which slices, of which type? -/
def atApp (n : Nat) (c : Cfg) : Option (Value × Value × TypeId × TypeId) :=
  match c.todo with
  | .ops ops (o :: _) _ _ :: _ => match wantV ops c.fr o with
    | some true => if allV c.fr o && dstOk n o then match o.op with
        | .call { callee := .builtin .append, args := ⟨[x, y]⟩, argTypes := ⟨[t, t']⟩ } => some (rho c.fr x, rho c.fr y, t, t')
        | _ => none
      else none
    | _ => none
  | _ => none
theorem app_ok {c : Cfg} {w : World} {u s : Value} {t t' : TypeId} (ha : atApp n c = some (u, s, t, t')) {v : Value} {w' : World} (hr : ∀ ty, (Builtin.append_ #[t, t'] ty #[u, s]).run P w = .ok v w')
    (hg : Goal P Q n (resume c v w'.heap.size) w') : Goal P Q n c w := by
  obtain ⟨fr, tags, m, todo⟩ := c
  unfold atApp at ha
  simp only at ha
  split at ha
  case h_2 => cases ha
  split at ha
  case h_2 => cases ha
  rename_i ops o l i id k _ hw
  split at ha
  case isFalse => cases ha
  rename_i hall
  simp only [Bool.and_eq_true] at hall
  split at ha
  case h_2 => cases ha
  rename_i x y t1 t2 hop
  cases ha
  intro a hd hn ha
  show wpList P ops (KX P Q k) (o :: l) a w
  have hsel : ∀ cs b, o.op ≠ .select cs b := fun cs b e => by rw [hop] at e; cases e
  unfold wpList
  rw [wantV_wanted ha hw, if_pos rfl]
  refine .inl ?_
  unfold Oper.wp
  rw [execOp_congr o hsel (fun x hx => rho_eval ha hall.1 hx)]
  have hx : (execOp (fun x => rho fr x) o).run P w = .ok (.value v) w' := by
    unfold execOp
    simp only [hop, resolve, invoke, builtin, Sem.run_bind, Sem.run_pure, Result.andThen_ok, List.map_toArray, List.map_cons, List.map_nil, hr]
  rw [hx]
  exact hg (a.put o.dst v) (by rw [(put_size a o.dst v).2]; exact hd) (by rw [(put_size a o.dst v).1]; exact hn) (putV_spec ha hn hall.2 (fun u hu => Option.some.inj hu))

theorem goal_at {c1 : Cfg} {ts : List Tmp} {vs : List Value} {r : Tmp} {rows : List RowS} {tg : List (Nat × Nat)} {T : List K} {v : Value} {w : World} (ed : callDst c1 = some (r, T)) (e0 : ts.map c1.fr = vs.map some)
    (hg : Goal P Q n ⟨frOf (r :: ts) (v :: vs), tagL tg, ⟨rows, w.heap.size⟩, T⟩ w) : Goal P Q n (resume c1 v w.heap.size) w := by
  obtain ⟨fr, tags, m, todo⟩ := c1
  unfold callDst at ed
  simp only at ed
  match todo, ed with
  | .ops ops (o :: l) i id :: k, ed =>
    simp only [Option.map_eq_some_iff, Prod.mk.injEq] at ed
    obtain ⟨d, hd, rfl, rfl⟩ := ed
    intro a had hn ha
    refine hg a had hn fun t u hu => ?_
    simp only [frOf] at hu
    simp only [resume, putV, hd] at ha
    split at hu
    · rename_i he'
      have := ha t v (by simp [he'])
      rw [this]; exact Option.some.inj hu
    · rename_i he'
      have hfr : ∀ t' u', frOf ts vs t' = some u' → fr t' = some u' := frOf_fr e0
      exact ha t u (by simp [he', hfr t u hu])

/-- Run to an append. -/
theorem go_app (fuel : Nat) (hs : List (Nat × Nat × HintS)) (u s : Value) (t e : TypeId) (ts : List Tmp) (vs : List Value) (r : Tmp) (rows : List RowS) (tg : List (Nat × Nat)) (T : List K) (eqs : List (Value × Value)) (sems : List (Sem Value × Value)) {c : Cfg} {w : World} (B : BT P t e)
    (hW : Wst W0 c.m w)
    (he : ((atApp n (run P n gt unroll hs fuel c).1, ts.map (run P n gt unroll hs fuel c).1.fr, (run P n gt unroll hs fuel c).1.m.rows, callDst (run P n gt unroll hs fuel c).1, (run P n gt unroll hs fuel c).2.eqs, (run P n gt unroll hs fuel c).2.sems), (run P n gt unroll hs fuel c).2.blks.map (·.1)) =
      ((some (u, s, t, t), vs.map some, rows, some (r, T), eqs, sems), (run P n gt unroll hs fuel c).2.blks.map (·.2)))
    (h1 : Eqs eqs) (h2 : SemObs P c.m w sems)
    (hk : ∀ w', Wst W0 ⟨rows, w'.heap.size⟩ w' → Seg c.m w ⟨rows, w'.heap.size⟩ w' → ∃ bs ys, Own e w' u bs ∧ Rd w' s ys ∧ bs.length + ys.length ≤ 140737488351232 ∧ Loose W0 ⟨rows, w'.heap.size⟩ (fun k => u.ownBlock = some k) ∧
      ∀ v w2, Own e w2 v (bs ++ ys) → Keep (fun k => u.ownBlock = some k) w' w2 → Loose W0 ⟨rows, w2.heap.size⟩ (fun k => v.ownBlock = some k) → (∀ b, v.ownBlock = some b → b < w2.heap.size) → Wst W0 ⟨rows, w2.heap.size⟩ w2 →
        Goal P Q n ⟨frOf (r :: ts) (v :: vs), tagL tg, ⟨rows, w2.heap.size⟩, T⟩ w2) : Goal P Q n c w := by
  simp only [Prod.mk.injEq] at he
  obtain ⟨⟨e1, e0, er, ed, e2, e3⟩, e4⟩ := he
  refine run_ok fuel hW (Seg.refl _ _) ⟨?_, all_of_maps e4, ?_⟩ fun w' hW' hS' => ?_
  · rw [e2]; exact h1.mem
  · rw [e3]; exact h2.mem
  · have em : (run P n gt unroll hs fuel c).1.m = ⟨rows, w'.heap.size⟩ := by rw [← er, hW'.size]
    rw [em] at hW' hS'
    obtain ⟨bs, ys, own, rd, hn, hl, hg⟩ := hk w' hW' hS'
    obtain ⟨v, w2, hr, ho, hkp, hblk, _⟩ := run_append_b (P := P) (w := w') B 0 own rd hn
    have hr' : ∀ ty, (Builtin.append_ #[t, t] ty #[u, s]).run P w' = .ok v w2 := fun ty => hr
    refine app_ok e1 hr' (goal_at ed e0 (hg v w2 ho hkp ?_ ho.lt (hW'.laterS hkp hl)))
    intro k hb
    rcases hblk with h | h
    · rw [h] at hb; exact hl k hb
    · rw [h] at hb
      have hb' : w'.heap.size = k := Option.some.inj hb
      refine ⟨by rw [← hb']; exact hW'.keep.size, fun q hq e => ?_⟩
      obtain ⟨t', ht⟩ := hW'.rows q hq
      have := block_of_row ht
      omega
end
end Go.Proofs.Ytpididcghilbjaa
