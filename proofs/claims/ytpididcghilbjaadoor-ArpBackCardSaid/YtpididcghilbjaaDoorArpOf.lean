/-
  tolllaw05's of: a message as the document's own has it. Condition: its kind is a number of 16 bits.
-/
import Derived.Test.YtpididcghilbjaaDoorGo
import Derived.Test.YtpididcghilbjaaDoorArpEq
namespace Go.Proofs.YtpididcghilbjaaDoor
open Go.RowKit

/-- The cells of a message as the document's own has it. -/
def rkA (op fi ti : Int) (f t : List UInt8) : Array Value :=
  #[.int .i64 op, bv (byteAt f 0), bv (byteAt f 1), bv (byteAt f 2), bv (byteAt f 3), bv (byteAt f 4), bv (byteAt f 5), bv (byteAt t 0), bv (byteAt t 1), bv (byteAt t 2), bv (byteAt t 3), bv (byteAt t 4), bv (byteAt t 5), .int .u32 fi, .int .u32 ti]

theorem of_any (w : World) (op fi ti : Int) (f t : List UInt8) (h0 : 0 ≤ op) (h1 : op < 65536) :
    Calls Tryd.prog 15 #[.agg (pkA op fi ti f t)] w fun x w' => x = .returned (.agg (rkA op fi ti f t)) ∧ Keep No w w' := by
  refine enter (args := [.agg (pkA op fi ti f t)]) Tryd.func15 (by kernel_rfl) ?_
  refine go_ret (gt := fun _ => none) (unroll := true) 60 [(1, 2, .is (.int .i64 op))] [.cell 2 39] (.agg (rkA op fi ti f t)) [(.int .i64 (IntKind.i64.wrap op), .int .i64 op)] [] (Wst.start0 w) Tryd.results15 (by kernel_rfl) ⟨?_, trivial⟩ trivial ?_
  · rw [IntWalk.i64_in _ (by omega)]
  · exact fun w' hW _ => ⟨rfl, hW.keep⟩
end Go.Proofs.YtpididcghilbjaaDoor
