/-
  tag's word and of, tolllaw03's brought. No condition.
-/
import Derived.Test.YtcimfojbggckhaaDoorGo
namespace Go.Proofs.YtcimfojbggckhaaDoor
open Go.RowKit

/-- The cells of a tag. -/
def tgA (k p : Int) (d : Bool) (v : Int) : Array Value := #[.int .u16 k, .int .u8 p, .bool d, .int .u16 v]
def or16 (a b : Int) : Int := IntKind.u16.wrap ((BitVec.ofInt 16 a ||| BitVec.ofInt 16 b).toNat : Int)
def and16 (a b : Int) : Int := IntKind.u16.wrap ((BitVec.ofInt 16 a &&& BitVec.ofInt 16 b).toNat : Int)
def wordR (p : Int) (d : Bool) (v : Int) : Int := if d then or16 (or16 (IntKind.u16.wrap (IntKind.u16.wrap p * 2 ^ 13)) v) 4096 else or16 (IntKind.u16.wrap (IntKind.u16.wrap p * 2 ^ 13)) v
theorem word_any (w : World) (k p v : Int) (d : Bool) : Calls Tryd.prog 55 #[.agg (tgA k p d v)] w fun x w' => x = .returned (.int .u16 (wordR p d v)) ∧ Keep No w w' := by
  refine enter (args := [.agg (tgA k p d v)]) Tryd.func55 (by kernel_rfl) ?_
  cases d with
  | true => exact go_ret (gt := fun _ => Option.none) (unroll := true) 60 [] [.tmp 2] (.int .u16 (wordR p true v)) [] [] (Wst.start0 w) Tryd.results55 (by kernel_rfl) trivial trivial (fun w' hW _ => ⟨rfl, hW.keep⟩)
  | false => exact go_ret (gt := fun _ => Option.none) (unroll := true) 60 [] [.tmp 2] (.int .u16 (wordR p false v)) [] [] (Wst.start0 w) Tryd.results55 (by kernel_rfl) trivial trivial (fun w' hW _ => ⟨rfl, hW.keep⟩)
def ofR (k x : Int) : Array Value := tgA k (IntKind.u8.wrap (Int.fdiv x (2 ^ 13))) (and16 (Int.fdiv x (2 ^ 12)) 1 == 1) (and16 x 4095)
theorem tagof_any (w : World) (k : Int) (x : Nat) : Calls Tryd.prog 54 #[.int .u16 k, .int .u16 x] w fun e w' => e = .returned (.agg (ofR k x)) ∧ Keep No w w' := by
  refine enter (args := [.int .u16 k, .int .u16 x]) Tryd.func54 (by kernel_rfl) ?_
  exact go_ret (gt := fun _ => Option.none) (unroll := true) 60 [] [.cell 4 57] (.agg (ofR k x)) [] [] (Wst.start0 w) Tryd.results54 (by kernel_rfl) trivial trivial (fun w' hW _ => ⟨rfl, hW.keep⟩)
def broughtR (k p : Int) (d : Bool) (v : Int) : Array Value := tgA (if Int.tmod k 2 == 0 then 34984 else 33024) (Int.tmod p 8) d (Int.tmod v 4096)
theorem brought_any (w : World) (k p v : Int) (d : Bool) : Calls Tryd.prog 38 #[.agg (tgA k p d v)] w fun x w' => x = .returned (.agg (broughtR k p d v)) ∧ Keep No w w' := by
  refine enter (args := [.agg (tgA k p d v)]) Tryd.func38 (by kernel_rfl) ?_
  unfold broughtR
  cases h : (Int.tmod k 2 == 0) with
  | true => exact go_ret (gt := fun _ => Option.none) (unroll := true) 60 [(1, 3, .is (.bool true))] [.cell 2 57] (.agg (tgA 34984 (Int.tmod p 8) d (Int.tmod v 4096))) [(.bool (Int.tmod k 2 == 0), .bool true)] [] (Wst.start0 w) Tryd.results38 (by kernel_rfl) ⟨by rw [h], trivial⟩ trivial (fun w' hW _ => ⟨rfl, hW.keep⟩)
  | false => exact go_ret (gt := fun _ => Option.none) (unroll := true) 60 [(1, 3, .is (.bool false))] [.cell 2 57] (.agg (tgA 33024 (Int.tmod p 8) d (Int.tmod v 4096))) [(.bool (Int.tmod k 2 == 0), .bool false)] [] (Wst.start0 w) Tryd.results38 (by kernel_rfl) ⟨by rw [h], trivial⟩ trivial (fun w' hW _ => ⟨rfl, hW.keep⟩)
end Go.Proofs.YtcimfojbggckhaaDoor
