/-
  A store into memory that is no known row; the bytes of an own slice turned. No condition.
-/
import Derived.Test.YtpididcghilbjaaShare
import Derived.Test.YtpididcghilbjaaOwnMore
namespace Go.Proofs.Ytpididcghilbjaa
open Go.RowKit

section
variable {P : Program} {W0 : World} {Q : Exit → Act → World → Prop} {n : Nat} {gt : Nat → Option Nat} {unroll : Bool}
/-- Is the walk at a store? Where to, what, of which type? -/
def atStore (n : Nat) (c : Cfg) : Option (Value × Value × TypeId) :=
  match c.todo with
  | .ops ops (o :: _) _ _ :: _ => match wantV ops c.fr o with
    | some true => if allV c.fr o && dstOk n o then match o.op, o.dst with
        | .store e x y, none => some (rho c.fr x, rho c.fr y, e)
        | _, _ => none
      else none
    | _ => none
  | _ => none
def stRest (c : Cfg) : Option (List K) := match c.todo with | .ops ops (_ :: l) i id :: k => some (.ops ops l (i + 1) id :: k) | _ => none
theorem st_ok {c : Cfg} {w : World} {a v : Value} {e : TypeId} {T : List K} (ha : atStore n c = some (a, v, e)) (hT : stRest c = some T) {w' : World} (hr : (Instr.storeAt e a v).run P w = .ok () w')
    (hg : Goal P Q n ⟨c.fr, c.tags, ⟨c.m.rows, w'.heap.size⟩, T⟩ w') : Goal P Q n c w := by
  obtain ⟨fr, tags, m, todo⟩ := c
  unfold atStore at ha
  unfold stRest at hT
  simp only at ha hT hg
  match todo, ha, hT with
  | .ops ops (o :: l) i id :: k, ha, hT =>
    simp only at ha hT
    cases hT
    split at ha
    case h_2 => cases ha
    rename_i hw
    split at ha
    case isFalse => cases ha
    rename_i hall
    simp only [Bool.and_eq_true] at hall
    split at ha
    case h_2 => cases ha
    rename_i e' x y hop hdst
    cases ha
    intro act hd hn hact
    show wpList P ops (KX P Q k) (o :: l) act w
    have hsel : ∀ cs b, o.op ≠ .select cs b := fun cs b e => by rw [hop] at e; cases e
    unfold wpList
    rw [wantV_wanted hact hw, if_pos rfl]
    refine .inl ?_
    unfold Oper.wp
    rw [execOp_congr o hsel (fun x hx => rho_eval hact hall.1 hx)]
    have hx : (execOp (fun x => rho fr x) o).run P w = .ok .skip w' := by
      unfold execOp
      simp only [hop, Sem.run_bind, Sem.run_pure, hr, Result.andThen_ok]
    rw [hx]
    show wpList P ops (KX P Q k) l (act.put o.dst undef) w'
    rw [hdst]
    exact hg act hd hn hact
/-- Run to a store; what it comes to is owed. -/
theorem go_stX (fuel : Nat) (hs : List (Nat × Nat × HintS)) (a v : Value) (e : TypeId) (ts : List Tmp) (vs : List Value) (rows : List RowS) (tg : List (Nat × Nat)) (T : List K) (eqs : List (Value × Value)) (sems : List (Sem Value × Value)) {c : Cfg} {w : World}
    (hW : Wst W0 c.m w)
    (he : ((atStore n (run P n gt unroll hs fuel c).1, ts.map (run P n gt unroll hs fuel c).1.fr, (run P n gt unroll hs fuel c).1.m.rows, stRest (run P n gt unroll hs fuel c).1, (run P n gt unroll hs fuel c).2.eqs, (run P n gt unroll hs fuel c).2.sems), (run P n gt unroll hs fuel c).2.blks.map (·.1)) =
      ((some (a, v, e), vs.map some, rows, some T, eqs, sems), (run P n gt unroll hs fuel c).2.blks.map (·.2)))
    (h1 : Eqs eqs) (h2 : SemObs P c.m w sems)
    (hk : ∀ w', Wst W0 ⟨rows, w'.heap.size⟩ w' → Seg c.m w ⟨rows, w'.heap.size⟩ w' → ∃ w2, (Instr.storeAt e a v).run P w' = .ok () w2 ∧ Goal P Q n ⟨frOf ts vs, tagL tg, ⟨rows, w2.heap.size⟩, T⟩ w2) : Goal P Q n c w := by
  simp only [Prod.mk.injEq] at he
  obtain ⟨⟨e1, e0, er, ed, e2, e3⟩, e4⟩ := he
  refine run_ok fuel hW (Seg.refl _ _) ⟨?_, all_of_maps e4, ?_⟩ fun w' hW' hS' => ?_
  · rw [e2]; exact h1.mem
  · rw [e3]; exact h2.mem
  · have em : (run P n gt unroll hs fuel c).1.m = ⟨rows, w'.heap.size⟩ := by rw [← er, hW'.size]
    rw [em] at hW' hS'
    obtain ⟨w2, hr, hg⟩ := hk w' hW' hS'
    refine st_ok e1 ed hr ?_
    intro act hd hn hact
    exact hg act hd hn (frOf_of hact e0)
end
section
variable {w : World} {v : Value} {bs : List UInt8}
/-- A byte of own bytes is written. -/
theorem Own.sem_st (h : Own 5 w v bs) {i : Nat} (hi : i < bs.length) (x : UInt8) : (Instr.storeAt 5 (.pointer (some (adr v i))) (bv x)).run Try.prog w = .ok () (w.setCell (adr v i) (bv x)) := by
  have hc := h.rd.cell i hi
  have hf := h.free hi
  simp only [adr] at hc hf ⊢
  simp [Instr.storeAt, Instr.sureAddr, storeVar, bv, Value.cells, storeCells, Addr.add, store, Sem.run, hc, hf, size_of bsize]
theorem Keep.own {W : World} {i : Nat} {u : Value} (hb : ∀ b, v.ownBlock = some b → W.heap.size ≤ b) (hv : v.ownBlock = some (blk v)) (h : Keep No W w) : Keep No W (w.setCell (adr v i) u) :=
  h.setCell (p := adr v i) (fun hlt => absurd hlt (Nat.not_lt.2 (hb _ hv))) u
end
end Go.Proofs.Ytpididcghilbjaa
