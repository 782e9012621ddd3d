/-
  ArpReplies' walk: true. Condition: the table of what stands ahead is as it was laid.
-/
import Derived.Test.YtpididcghilbjaaDoorArpWakes
import Derived.Test.YtpididcghilbjaaDoorEv
namespace Go.Proofs.YtpididcghilbjaaDoor
open Go.RowKit

set_option maxRecDepth 100000 in
set_option maxHeartbeats 4000000 in
theorem arpreplies_no (w : World) (op fi ti : Int) (f t m : List UInt8) (h : op ≠ 1) (ha : Ah w) :
    Calls Tryd.prog 3 #[.agg (pkA op fi ti f t), .agg (macV m)] w fun x w' => x = .returned (.bool true) ∧ Keep No w w' := by
  have h1 : (op == 1) = false := by simp [h]
  have h2 : (op != 1) = true := by simp [h]
  have hv : replyV op fi ti f m = pkA 0 0 0 [] [] := if_neg h
  have HV := Lib.hid hv
  clear hv
  go_enter Tryd.func3, Tryd.ntmps3
  unfold macV
  go_wp2_with fail
  have gP := heap_new0 w (.cells (pkA op fi ti f t) 28) (.cells (macV m) 24)
  refine (reply_any _ op fi ti f t m).mono ?_
  rintro x w1 ⟨rfl, k1⟩
  rw [HV.out, h1]
  have kw1 : Keep No w w1 := (((Keep.refl _ _).alloc _).alloc _).trans k1
  have gP1 := k1.heap gP (fun h => h)
  have y := fun o i (u : Value) (h : (pkA op fi ti f t)[i]? = some u) => (cells_of (alloc_keeps gP1 o) i).trans h
  go_wp2_with fail
  refine (wakes5_any _ (ha.keep0 (kw1.alloc _))).mono ?_
  rintro x w2 ⟨rfl, k2⟩
  go_wp2_with fail
  go_ret
  exact ⟨rfl, (kw1.alloc _).trans k2⟩

set_option maxRecDepth 100000 in
set_option maxHeartbeats 4000000 in
theorem arpreplies_yes (w : World) (fi ti : Int) (f t m : List UInt8) (b c : Bool) (hb : (fi == 0) = b) (hc : itselfR 1 fi ti = c) (hbc : b = true → c = false) (ha : Ah w) :
    Calls Tryd.prog 3 #[.agg (pkA 1 fi ti f t), .agg (macV m)] w fun x w' => x = .returned (.bool true) ∧ Keep No w w' := by
  go_enter Tryd.func3, Tryd.ntmps3
  unfold macV
  go_wp2_with fail
  have gP := heap_new0 w (.cells (pkA 1 fi ti f t) 28) (.cells (macV m) 24)
  have gM := heap_new1 w (.cells (pkA 1 fi ti f t) 28) (.cells (macV m) 24)
  refine (reply_any _ 1 fi ti f t m).mono ?_
  rintro x w1 ⟨rfl, k1⟩
  rw [show replyV 1 fi ti f m = pkA 2 ti fi m f from rfl, show ((1 : Int) == 1) = true from rfl]
  have kw1 : Keep No w w1 := (((Keep.refl _ _).alloc _).alloc _).trans k1
  have gP1 := k1.heap gP (fun h => h)
  have gM1 := k1.heap gM (fun h => h)
  have y := fun o i (u : Value) (h : (pkA 1 fi ti f t)[i]? = some u) => (cells_of (alloc_keeps gP1 o) i).trans h
  have ym := fun o i (u : Value) (h : (macV m)[i]? = some u) => (cells_of (alloc_keeps gM1 o) i).trans h
  simp only [macV] at ym
  go_wp2_with fail
  have gR := heap_alloc_new w1 (.cells (pkA 2 ti fi m f) 28)
  refine (reply_any _ 2 ti fi m f m).mono ?_
  rintro x w2 ⟨rfl, k2⟩
  rw [show replyV 2 ti fi m m = pkA 0 0 0 [] [] from rfl, show ((2 : Int) == 1) = false from rfl]
  have kw2 : Keep No w w2 := (kw1.alloc _).trans k2
  have gP2 := k2.heap (alloc_keeps gP1 _) (fun h => h)
  have gM2 := k2.heap (alloc_keeps gM1 _) (fun h => h)
  have gR2 := k2.heap gR (fun h => h)
  clear y ym
  have y := fun o i (u : Value) (h : (pkA 1 fi ti f t)[i]? = some u) => (cells_of (alloc_keeps gP2 o) i).trans h
  have yr := fun o i (u : Value) (h : (pkA 2 ti fi m f)[i]? = some u) => (cells_of (alloc_keeps gR2 o) i).trans h
  go_wp2_with fail
  generalize hW : (w2.alloc _).alloc _ = W9
  have gP9 : W9.heap[w.heap.size]? = some (.cells (pkA 1 fi ti f t) 28) := by rw [← hW]; exact alloc_keeps (alloc_keeps gP2 _) _
  have gM9 : W9.heap[w.heap.size + 1]? = some (.cells (macV m) 24) := by rw [← hW]; exact alloc_keeps (alloc_keeps gM2 _) _
  have gR9 : W9.heap[w1.heap.size]? = some (.cells (pkA 2 ti fi m f) 28) := by rw [← hW]; exact alloc_keeps (alloc_keeps gR2 _) _
  have gB9 : W9.heap[w2.heap.size + 1]? = some (.cells (pkA 1 fi ti f t) 28) := by rw [← hW]; exact heap_new1 w2 _ _
  have kw9 : Keep No w W9 := by rw [← hW]; exact (kw2.alloc _).alloc _
  clear y yr
  clear hW gP gM gP1 gM1 gR gP2 gM2 gR2 k1 k2 kw1 kw2
  generalize w2.heap.size + 1 = bB at *
  generalize w1.heap.size = bR at *
  generalize w.heap.size + 1 = bM at *
  generalize w.heap.size = bP at *
  have hc2 : itselfR 2 ti fi = c := by
    rw [← hc]
    unfold itselfR mayR
    by_cases e : fi = ti
    · subst e; simp
    · have e1 : (ti == fi) = false := by simp; exact fun h => e h.symm
      have e2 : (fi == ti) = false := by simp [e]
      rw [e1, e2]; rfl
  have hrows : Go.Proofs.YtpididcghilbjaaDoor.Rows W9 [(bP, (pkA 1 fi ti f t).toList), (bB, (pkA 1 fi ti f t).toList), (bR, (pkA 2 ti fi m f).toList), (bM, (macV m).toList)] :=
    RowsL.rows ⟨⟨_, gP9⟩, ⟨_, gB9⟩, ⟨_, gR9⟩, ⟨_, gM9⟩, trivial⟩
  have cPr : CallOb Tryd.prog W9 10 [.is (.agg (pkA 1 fi ti f t))] (.is (.bool b)) := CallOb.of1 fun w1 _ => by
    rw [← hb, show (fi == 0) = probesR 1 fi from by simp [probesR]]; exact probes_any w1 1 fi ti f t
  have cIp : CallOb Tryd.prog W9 11 [.is (.agg (pkA 1 fi ti f t))] (.is (.bool c)) := CallOb.of1 fun w1 _ => by
    rw [← hc]; exact itself_any w1 1 fi ti f t
  have cIr : CallOb Tryd.prog W9 11 [.is (.agg (pkA 2 ti fi m f))] (.is (.bool c)) := CallOb.of1 fun w1 _ => by
    rw [← hc2]; exact itself_any w1 2 ti fi m f
  have cWk : CallOb Tryd.prog W9 9 [] (.is (.bool true)) := CallOb.of0 fun w1 h1 => wakes5_any w1 ((ha.keep0 kw9).keep0 h1)
  have cM : ∀ w1, Keep No W9 w1 → (binOp .eql 24 (.agg (macV m)) (.agg (macV m))).run Tryd.prog w1 = .ok (.bool true) w1 := fun w1 _ => by
    simp [macV, run_eql_struct, eq_mac24, mEq6_self]
  have cE : ∀ w1, Keep No W9 w1 → (binOp .eql 28 (.agg (pkA 1 fi ti f t)) (.agg (pkA 1 fi ti f t))).run Tryd.prog w1 = .ok (.bool true) w1 := fun w1 _ => by
    rw [run_eql_struct, eq_pk]; simp [mEq_self]
  rename_i K hK
  cases b with
  | true =>
    obtain rfl := hbc rfl
    refine region_ev [(bP, (pkA 1 fi ti f t).toList), (bB, (pkA 1 fi ti f t).toList), (bR, (pkA 2 ti fi m f).toList), (bM, (macV m).toList)] (tagL [(2, 0), (9, 1), (5, 2), (3, 3)]) (fun _ => Option.none)
      [(16, .bin (.bool true)), (21, .bin (.bool true)), (25, .call (.is (.bool true))), (29, .call (.is (.bool false))), (35, .call (.is (.bool true))), (38, .is (.bool true)), (43, .call (.is (.bool false))), (45, .call (.is (.bool false))), (49, .call (.is (.bool true)))]
      [4] [.is (.bool true)] [(.bool (fi == 0), .bool true)]
      [(10, [.is (.agg (pkA 1 fi ti f t))], .is (.bool true)), (11, [.is (.agg (pkA 1 fi ti f t))], .is (.bool false)), (10, [.is (.agg (pkA 1 fi ti f t))], .is (.bool true)), (11, [.is (.agg (pkA 2 ti fi m f))], .is (.bool false)), (11, [.is (.agg (pkA 1 fi ti f t))], .is (.bool false)), (9, [], .is (.bool true))]
      [(.eql, 24, .agg (macV m), .agg (macV m), .bool true), (.eql, 28, .agg (pkA 1 fi ti f t), .agg (pkA 1 fi ti f t), .bool true)]
      [] (by kernel_rfl) (by kernel_rfl) hrows (by kernel_rfl) (by kernel_rfl) ⟨congrArg Value.bool hb, trivial⟩ ⟨cPr, cIp, cPr, cIr, cIp, cWk, trivial⟩ ⟨cM, cE, trivial⟩ trivial (fun a1 w3 k hd _ ho => hK a1 w3 (ret_tmp Tryd.results3 ho.1 hd ⟨rfl, kw9.trans k⟩))
  | false =>
    cases c with
    | true =>
      refine region_ev [(bP, (pkA 1 fi ti f t).toList), (bB, (pkA 1 fi ti f t).toList), (bR, (pkA 2 ti fi m f).toList), (bM, (macV m).toList)] (tagL [(2, 0), (9, 1), (5, 2), (3, 3)]) (fun _ => Option.none)
        [(16, .bin (.bool true)), (21, .bin (.bool true)), (25, .call (.is (.bool false))), (29, .call (.is (.bool true))), (35, .call (.is (.bool false))), (38, .is (.bool false)), (43, .call (.is (.bool true))), (45, .call (.is (.bool true))), (49, .call (.is (.bool true)))]
        [4] [.is (.bool true)] [(.bool (fi == 0), .bool false)]
        [(10, [.is (.agg (pkA 1 fi ti f t))], .is (.bool false)), (10, [.is (.agg (pkA 1 fi ti f t))], .is (.bool false)), (11, [.is (.agg (pkA 2 ti fi m f))], .is (.bool true)), (11, [.is (.agg (pkA 1 fi ti f t))], .is (.bool true)), (9, [], .is (.bool true))]
        [(.eql, 24, .agg (macV m), .agg (macV m), .bool true), (.eql, 28, .agg (pkA 1 fi ti f t), .agg (pkA 1 fi ti f t), .bool true)]
        [] (by kernel_rfl) (by kernel_rfl) hrows (by kernel_rfl) (by kernel_rfl) ⟨congrArg Value.bool hb, trivial⟩ ⟨cPr, cPr, cIr, cIp, cWk, trivial⟩ ⟨cM, cE, trivial⟩ trivial (fun a1 w3 k hd _ ho => hK a1 w3 (ret_tmp Tryd.results3 ho.1 hd ⟨rfl, kw9.trans k⟩))
    | false =>
      refine region_ev [(bP, (pkA 1 fi ti f t).toList), (bB, (pkA 1 fi ti f t).toList), (bR, (pkA 2 ti fi m f).toList), (bM, (macV m).toList)] (tagL [(2, 0), (9, 1), (5, 2), (3, 3)]) (fun _ => Option.none)
        [(16, .bin (.bool true)), (21, .bin (.bool true)), (25, .call (.is (.bool false))), (29, .call (.is (.bool false))), (35, .call (.is (.bool false))), (38, .is (.bool false)), (43, .call (.is (.bool false))), (45, .call (.is (.bool false))), (49, .call (.is (.bool true)))]
        [4] [.is (.bool true)] [(.bool (fi == 0), .bool false)]
        [(10, [.is (.agg (pkA 1 fi ti f t))], .is (.bool false)), (10, [.is (.agg (pkA 1 fi ti f t))], .is (.bool false)), (11, [.is (.agg (pkA 2 ti fi m f))], .is (.bool false)), (11, [.is (.agg (pkA 1 fi ti f t))], .is (.bool false)), (9, [], .is (.bool true))]
        [(.eql, 24, .agg (macV m), .agg (macV m), .bool true), (.eql, 28, .agg (pkA 1 fi ti f t), .agg (pkA 1 fi ti f t), .bool true)]
        [] (by kernel_rfl) (by kernel_rfl) hrows (by kernel_rfl) (by kernel_rfl) ⟨congrArg Value.bool hb, trivial⟩ ⟨cPr, cPr, cIr, cIp, cWk, trivial⟩ ⟨cM, cE, trivial⟩ trivial (fun a1 w3 k hd _ ho => hK a1 w3 (ret_tmp Tryd.results3 ho.1 hd ⟨rfl, kw9.trans k⟩))
end Go.Proofs.YtpididcghilbjaaDoor
