/-
  tollref05's Bytes, Reply, Probes, Itself. Condition: the numbers are of their kinds.
-/
import Derived.Test.YtpididcghilbjaaDoorArpRefB
namespace Go.Proofs.YtpididcghilbjaaDoor
open Go.RowKit

theorem rbytes_1 (fi ti : Nat) (f t : List UInt8) : rbytes 1 fi ti f t = bytesR 1 fi ti f t := by
  have h : bytes2 1 = [0, 1] := by decide
  rw [bytesR, if_pos (by decide)]
  simp [rbytes, hd8, arpB, aheadL, h]
theorem rbytes_2 (fi ti : Nat) (f t : List UInt8) : rbytes 2 fi ti f t = bytesR 2 fi ti f t := by
  have h : bytes2 2 = [0, 2] := by decide
  rw [bytesR, if_pos (by decide)]
  simp [rbytes, hd8, arpB, aheadL, h]
section
variable {w : World} {fi ti : Nat} {f t : List UInt8}
theorem refbytes_any {op : Nat} (hfi : fi < 4294967296) (hti : ti < 4294967296) :
    Calls Tryd.prog 20 #[.agg (rkA op fi ti f t)] w fun x w' => ∃ v, x = .returned v ∧ Fresh w (bytesR op fi ti f t) v w' := by
  refine enter (args := [.agg (rkA op fi ti f t)]) Tryd.func20 (by kernel_rfl) ?_
  by_cases h1 : op = 1
  · subst h1
    refine go_stop (gt := fun _ => Option.none) (unroll := true) 60 [(4, 0, .stop)] [1, 3] [.pointer (some ⟨w.heap.size, 0, Option.none⟩), .slice Option.none 0 0] [⟨w.heap.size, (rkA 1 fi ti f t).toList, true⟩] [(1, 0)] (opsR rbB 4) [] [] (Wst.start0 w) (by kernel_rfl) trivial trivial ?_
    intro w1 hW1 _
    rw [← rbytes_1]
    exact rb_tail (by decide) hfi hti w1 hW1
  · by_cases h2 : op = 2
    · subst h2
      refine go_stop (gt := fun _ => Option.none) (unroll := true) 60 [(4, 0, .stop)] [1, 3] [.pointer (some ⟨w.heap.size, 0, Option.none⟩), .slice Option.none 0 0] [⟨w.heap.size, (rkA 2 fi ti f t).toList, true⟩] [(1, 0)] (opsR rbB 4) [] [] (Wst.start0 w) (by kernel_rfl) trivial trivial ?_
      intro w1 hW1 _
      rw [← rbytes_2]
      exact rb_tail (by decide) hfi hti w1 hW1
    · have e1 : ((op : Int) == 1) = false := by simp; omega
      have e2 : ((op : Int) == 2) = false := by simp; omega
      have hm : mayR (op : Int) = false := by simp [mayR, e1, e2]
      refine go_ret (gt := fun _ => Option.none) (unroll := true) 60 [(2, 2, .is (.bool true)), (2, 6, .is (.bool true))] [.tmp 2] (.slice Option.none 0 0) [(.bool (!((op : Int) == 1)), .bool true), (.bool (!((op : Int) == 2)), .bool true)] [] (Wst.start0 w) Tryd.results20 (by kernel_rfl) ⟨by rw [e1]; rfl, by rw [e2]; rfl, trivial⟩ trivial ?_
      intro w3 hW3 _
      refine ⟨_, rfl, ?_⟩
      rw [bytesR, if_neg (by rw [hm]; simp)]
      exact ⟨Own.nil _ _, hW3.keep, fun b hb => by simp [Value.ownBlock] at hb⟩
end
section
variable {w : World} {fi ti : Int} {f t m : List UInt8}
theorem refreply_any {op : Int} :
    Calls Tryd.prog 19 #[.agg (rkA op fi ti f t), .agg (macV m)] w fun x w' => x = .returned (.tuple #[.agg (if op = 1 then rkA 2 ti fi m f else rkA 0 0 0 [] []), .bool (op == 1)]) ∧ Keep No w w' := by
  refine enter (args := [.agg (rkA op fi ti f t), .agg (macV m)]) Tryd.func19 (by kernel_rfl) ?_
  by_cases h1 : op = 1
  · subst h1
    refine go_ret (gt := fun _ => Option.none) (unroll := true) 60 [] [.cell 4 39, .tmp 5] (.tuple #[.agg (rkA 2 ti fi m f), .bool true]) [] [] (Wst.start0 w) Tryd.results19 (by kernel_rfl) trivial trivial ?_
    exact fun w' hW _ => ⟨rfl, hW.keep⟩
  · have e1 : (op == 1) = false := by simpa using h1
    rw [if_neg h1, e1]
    refine go_ret (gt := fun _ => Option.none) (unroll := true) 60 [(1, 2, .is (.bool true))] [.cell 4 39, .tmp 5] (.tuple #[.agg (rkA 0 0 0 [] []), .bool false]) [(.bool (!(op == 1)), .bool true)] [] (Wst.start0 w) Tryd.results19 (by kernel_rfl) ⟨by rw [e1]; rfl, trivial⟩ trivial ?_
    exact fun w' hW _ => ⟨rfl, hW.keep⟩
theorem refprobes_any {op : Int} :
    Calls Tryd.prog 21 #[.agg (rkA op fi ti f t)] w fun x w' => x = .returned (.bool (probesR op fi)) ∧ Keep No w w' := by
  refine enter (args := [.agg (rkA op fi ti f t)]) Tryd.func21 (by kernel_rfl) ?_
  unfold probesR
  cases h1 : (op == 1) with
  | false =>
    refine go_ret (gt := fun _ => Option.none) (unroll := true) 60 [(1, 2, .is (.bool false))] [.tmp 2] (.bool false) [(.bool (op == 1), .bool false)] [] (Wst.start0 w) Tryd.results21 (by kernel_rfl) ⟨by rw [h1], trivial⟩ trivial ?_
    exact fun w' hW _ => ⟨rfl, hW.keep⟩
  | true =>
    refine go_ret (gt := fun _ => Option.none) (unroll := true) 60 [(1, 2, .is (.bool true))] [.tmp 2] (.bool (fi == 0)) [(.bool (op == 1), .bool true)] [] (Wst.start0 w) Tryd.results21 (by kernel_rfl) ⟨by rw [h1], trivial⟩ trivial ?_
    exact fun w' hW _ => ⟨rfl, hW.keep⟩
theorem refitself_any {op : Int} :
    Calls Tryd.prog 22 #[.agg (rkA op fi ti f t)] w fun x w' => x = .returned (.bool (itselfR op fi ti)) ∧ Keep No w w' := by
  refine enter (args := [.agg (rkA op fi ti f t)]) Tryd.func22 (by kernel_rfl) ?_
  unfold itselfR mayR
  cases h1 : (op == 1) with
  | true =>
    cases h3 : (fi == ti) with
    | false =>
      refine go_ret (gt := fun _ => Option.none) (unroll := true) 60 [(1, 2, .is (.bool true)), (1, 13, .is (.bool false))] [.tmp 2] (.bool false) [(.bool (op == 1), .bool true), (.bool (fi == ti), .bool false)] [] (Wst.start0 w) Tryd.results22 (by kernel_rfl) ⟨by rw [h1], by rw [h3], trivial⟩ trivial ?_
      exact fun w' hW _ => ⟨rfl, hW.keep⟩
    | true =>
      have e : fi = ti := by simpa using h3
      refine go_ret (gt := fun _ => Option.none) (unroll := true) 60 [(1, 2, .is (.bool true)), (1, 13, .is (.bool true)), (1, 18, .is (.bool (fi != 0)))] [.tmp 2] (.bool (fi != 0)) [(.bool (op == 1), .bool true), (.bool (fi == ti), .bool true), (.bool (!(ti == 0)), .bool (fi != 0))] [] (Wst.start0 w) Tryd.results22 (by kernel_rfl) ⟨by rw [h1], by rw [h3], by rw [e]; rfl, trivial⟩ trivial ?_
      exact fun w' hW _ => ⟨by simp, hW.keep⟩
  | false =>
    cases h2 : (op == 2) with
    | false =>
      refine go_ret (gt := fun _ => Option.none) (unroll := true) 60 [(1, 2, .is (.bool false)), (1, 6, .is (.bool false))] [.tmp 2] (.bool false) [(.bool (op == 1), .bool false), (.bool (op == 2), .bool false)] [] (Wst.start0 w) Tryd.results22 (by kernel_rfl) ⟨by rw [h1], by rw [h2], trivial⟩ trivial ?_
      exact fun w' hW _ => ⟨rfl, hW.keep⟩
    | true =>
      cases h3 : (fi == ti) with
      | false =>
        refine go_ret (gt := fun _ => Option.none) (unroll := true) 60 [(1, 2, .is (.bool false)), (1, 6, .is (.bool true)), (1, 13, .is (.bool false))] [.tmp 2] (.bool false) [(.bool (op == 1), .bool false), (.bool (op == 2), .bool true), (.bool (fi == ti), .bool false)] [] (Wst.start0 w) Tryd.results22 (by kernel_rfl) ⟨by rw [h1], by rw [h2], by rw [h3], trivial⟩ trivial ?_
        exact fun w' hW _ => ⟨rfl, hW.keep⟩
      | true =>
        have e : fi = ti := by simpa using h3
        refine go_ret (gt := fun _ => Option.none) (unroll := true) 60 [(1, 2, .is (.bool false)), (1, 6, .is (.bool true)), (1, 13, .is (.bool true)), (1, 18, .is (.bool (fi != 0)))] [.tmp 2] (.bool (fi != 0)) [(.bool (op == 1), .bool false), (.bool (op == 2), .bool true), (.bool (fi == ti), .bool true), (.bool (!(ti == 0)), .bool (fi != 0))] [] (Wst.start0 w) Tryd.results22 (by kernel_rfl) ⟨by rw [h1], by rw [h2], by rw [h3], by rw [e]; rfl, trivial⟩ trivial ?_
        exact fun w' hW _ => ⟨by simp, hW.keep⟩
end
end Go.Proofs.YtpididcghilbjaaDoor
