/-
  A return with the rows behind it written. No condition.
-/
import Derived.Test.YtpididcghilbjaaShare
namespace Go.Proofs.Ytpididcghilbjaa
open Go.RowKit
section
variable {P : Program} {W0 : World} {n : Nat} {gt : Nat → Option Nat} {unroll : Bool}
/-- Run to the return; the rows behind it are written. -/
theorem go_retM {fn : Func} {R : Ending → World → Prop} (fuel : Nat) (hs : List (Nat × Nat × HintS)) (rs : List ResultVar) (v : Value) (rows : List RowS) (eqs : List (Value × Value)) (sems : List (Sem Value × Value)) {c : Cfg} {w : World} (hW : Wst W0 c.m w) (hr : fn.results = rs.toArray)
    (he : (((atRet P rs (run P n gt unroll hs fuel c).1).map (·.1), (run P n gt unroll hs fuel c).2.eqs, (run P n gt unroll hs fuel c).2.sems), (run P n gt unroll hs fuel c).2.blks.map (·.1), (atRet P rs (run P n gt unroll hs fuel c).1).map (·.2.map (·.1))) =
      ((some v, eqs, sems), (run P n gt unroll hs fuel c).2.blks.map (·.2), (atRet P rs (run P n gt unroll hs fuel c).1).map (·.2.map (·.2))))
    (hm : (run P n gt unroll hs fuel c).1.m.rows = rows)
    (h1 : Eqs eqs) (h2 : SemObs P c.m w sems)
    (hk : ∀ w', Wst W0 ⟨rows, w'.heap.size⟩ w' → Seg c.m w ⟨rows, w'.heap.size⟩ w' → R (.returned v) w') : Goal P (bodyPost P fn R) n c w := by
  refine go_ret fuel hs rs v eqs sems hW hr he h1 h2 fun w' hW' hS' => ?_
  have em : (run P n gt unroll hs fuel c).1.m = ⟨rows, w'.heap.size⟩ := by rw [← hm, hW'.size]
  rw [em] at hW' hS'
  exact hk w' hW' hS'
end
end Go.Proofs.Ytpididcghilbjaa
