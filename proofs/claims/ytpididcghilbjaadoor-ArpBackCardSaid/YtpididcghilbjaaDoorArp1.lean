/-
  arp's May, Probes, Itself and Reply, of a message whose cells are any numbers. No condition.
-/
import Derived.Test.YtpididcghilbjaaDoorMac
import Derived.Test.YtpididcghilbjaaDoorBytes
namespace Go.Proofs.YtpididcghilbjaaDoor
open Go.RowKit

/-- A message's cells. -/
def pkA (op fi ti : Int) (f t : List UInt8) : Array Value :=
  #[.int .u16 op, bv (byteAt f 0), bv (byteAt f 1), bv (byteAt f 2), bv (byteAt f 3), bv (byteAt f 4), bv (byteAt f 5), .int .u32 fi, bv (byteAt t 0), bv (byteAt t 1), bv (byteAt t 2), bv (byteAt t 3), bv (byteAt t 4), bv (byteAt t 5), .int .u32 ti]

section
variable {w : World} {op fi ti : Int} {f t : List UInt8}
@[go_sem] theorem pkA_size : (pkA op fi ti f t).size = 15 := rfl
@[go_sem] theorem pkA_0 : (pkA op fi ti f t)[0]? = some (.int .u16 op) := rfl
@[go_sem] theorem pkA_1 : (pkA op fi ti f t)[1]? = some (bv (byteAt f 0)) := rfl
@[go_sem] theorem pkA_2 : (pkA op fi ti f t)[2]? = some (bv (byteAt f 1)) := rfl
@[go_sem] theorem pkA_3 : (pkA op fi ti f t)[3]? = some (bv (byteAt f 2)) := rfl
@[go_sem] theorem pkA_4 : (pkA op fi ti f t)[4]? = some (bv (byteAt f 3)) := rfl
@[go_sem] theorem pkA_5 : (pkA op fi ti f t)[5]? = some (bv (byteAt f 4)) := rfl
@[go_sem] theorem pkA_6 : (pkA op fi ti f t)[6]? = some (bv (byteAt f 5)) := rfl
@[go_sem] theorem pkA_7 : (pkA op fi ti f t)[7]? = some (.int .u32 fi) := rfl
@[go_sem] theorem pkA_8 : (pkA op fi ti f t)[8]? = some (bv (byteAt t 0)) := rfl
@[go_sem] theorem pkA_9 : (pkA op fi ti f t)[9]? = some (bv (byteAt t 1)) := rfl
@[go_sem] theorem pkA_10 : (pkA op fi ti f t)[10]? = some (bv (byteAt t 2)) := rfl
@[go_sem] theorem pkA_11 : (pkA op fi ti f t)[11]? = some (bv (byteAt t 3)) := rfl
@[go_sem] theorem pkA_12 : (pkA op fi ti f t)[12]? = some (bv (byteAt t 4)) := rfl
@[go_sem] theorem pkA_13 : (pkA op fi ti f t)[13]? = some (bv (byteAt t 5)) := rfl
@[go_sem] theorem pkA_14 : (pkA op fi ti f t)[14]? = some (.int .u32 ti) := rfl
@[go_sem] theorem pkA_g0 (h : 0 < (pkA op fi ti f t).size) : (pkA op fi ti f t)[0]'h = .int .u16 op := rfl
@[go_sem] theorem pkA_g1 (h : 1 < (pkA op fi ti f t).size) : (pkA op fi ti f t)[1]'h = bv (byteAt f 0) := rfl
@[go_sem] theorem pkA_g2 (h : 2 < (pkA op fi ti f t).size) : (pkA op fi ti f t)[2]'h = bv (byteAt f 1) := rfl
@[go_sem] theorem pkA_g3 (h : 3 < (pkA op fi ti f t).size) : (pkA op fi ti f t)[3]'h = bv (byteAt f 2) := rfl
@[go_sem] theorem pkA_g4 (h : 4 < (pkA op fi ti f t).size) : (pkA op fi ti f t)[4]'h = bv (byteAt f 3) := rfl
@[go_sem] theorem pkA_g5 (h : 5 < (pkA op fi ti f t).size) : (pkA op fi ti f t)[5]'h = bv (byteAt f 4) := rfl
@[go_sem] theorem pkA_g6 (h : 6 < (pkA op fi ti f t).size) : (pkA op fi ti f t)[6]'h = bv (byteAt f 5) := rfl
@[go_sem] theorem pkA_g7 (h : 7 < (pkA op fi ti f t).size) : (pkA op fi ti f t)[7]'h = .int .u32 fi := rfl
@[go_sem] theorem pkA_g8 (h : 8 < (pkA op fi ti f t).size) : (pkA op fi ti f t)[8]'h = bv (byteAt t 0) := rfl
@[go_sem] theorem pkA_g9 (h : 9 < (pkA op fi ti f t).size) : (pkA op fi ti f t)[9]'h = bv (byteAt t 1) := rfl
@[go_sem] theorem pkA_g10 (h : 10 < (pkA op fi ti f t).size) : (pkA op fi ti f t)[10]'h = bv (byteAt t 2) := rfl
@[go_sem] theorem pkA_g11 (h : 11 < (pkA op fi ti f t).size) : (pkA op fi ti f t)[11]'h = bv (byteAt t 3) := rfl
@[go_sem] theorem pkA_g12 (h : 12 < (pkA op fi ti f t).size) : (pkA op fi ti f t)[12]'h = bv (byteAt t 4) := rfl
@[go_sem] theorem pkA_g13 (h : 13 < (pkA op fi ti f t).size) : (pkA op fi ti f t)[13]'h = bv (byteAt t 5) := rfl
@[go_sem] theorem pkA_g14 (h : 14 < (pkA op fi ti f t).size) : (pkA op fi ti f t)[14]'h = .int .u32 ti := rfl
end

section
variable (w : World) (op fi ti : Int) (f t : List UInt8)
def mayR (op : Int) : Bool := op == 1 || op == 2
def probesR (op fi : Int) : Bool := op == 1 && fi == 0
def itselfR (op fi ti : Int) : Bool := mayR op && fi == ti && fi != 0

set_option maxHeartbeats 1000000 in
theorem may_any :
    Calls Tryd.prog 18 #[.agg (pkA op fi ti f t)] w fun x w' => x = .returned (.bool (mayR op)) ∧ Keep No w w' := by
  by_cases h1 : op = 1
  · subst h1
    go_enter Tryd.func18, Tryd.ntmps18
    go_wp2
    go_ret
    exact ⟨rfl, (Keep.refl _ _).alloc _⟩
  · have hb : (op == 1) = false := by simp [h1]
    go_enter Tryd.func18, Tryd.ntmps18
    go_wp2
    go_ret
    exact ⟨by simp [mayR, hb], (Keep.refl _ _).alloc _⟩

set_option maxHeartbeats 1000000 in
theorem probes_any :
    Calls Tryd.prog 10 #[.agg (pkA op fi ti f t)] w fun x w' => x = .returned (.bool (probesR op fi)) ∧ Keep No w w' := by
  by_cases h1 : op = 1
  · subst h1
    go_enter Tryd.func10, Tryd.ntmps10
    go_wp2
    go_ret
    exact ⟨by simp [probesR], (Keep.refl _ _).alloc _⟩
  · have hb : (op == 1) = false := by simp [h1]
    go_enter Tryd.func10, Tryd.ntmps10
    go_wp2
    go_ret
    exact ⟨by simp [probesR, hb], (Keep.refl _ _).alloc _⟩

set_option maxHeartbeats 1000000 in
theorem itself_any :
    Calls Tryd.prog 11 #[.agg (pkA op fi ti f t)] w fun x w' => x = .returned (.bool (itselfR op fi ti)) ∧ Keep No w w' := by
  cases hm : mayR op with
  | false =>
    have HM := Lib.hid hm
    clear hm
    go_enter Tryd.func11, Tryd.ntmps11
    go_wp2_with fail
    refine (may_any _ op fi ti f t).mono ?_
    rintro x w1 ⟨rfl, k1⟩
    rw [HM.out]
    go_wp2
    go_ret
    exact ⟨by rw [itselfR, HM.out]; simp, ((Keep.refl _ _).alloc _).trans k1⟩
  | true =>
    have HM := Lib.hid hm
    clear hm
    by_cases h2 : fi = ti
    · subst h2
      go_enter Tryd.func11, Tryd.ntmps11
      go_wp2_with fail
      have c7 : (w.alloc (.cells (pkA op fi fi f t) 28)).cell? ⟨w.heap.size, 7, Option.none⟩ = some (.int .u32 fi) := cell_new _ _ _ _
      have c14 : (w.alloc (.cells (pkA op fi fi f t) 28)).cell? ⟨w.heap.size, 14, Option.none⟩ = some (.int .u32 fi) := cell_new _ _ _ _
      refine (may_any _ op fi fi f t).mono ?_
      rintro x w1 ⟨rfl, k1⟩
      rw [HM.out]
      replace c7 := k1.cell c7 (fun h => h)
      replace c14 := k1.cell c14 (fun h => h)
      go_wp2
      go_ret
      exact ⟨by rw [itselfR, HM.out]; simp, ((Keep.refl _ _).alloc _).trans k1⟩
    · have hb : (fi == ti) = false := by simp [h2]
      go_enter Tryd.func11, Tryd.ntmps11
      go_wp2_with fail
      have c7 : (w.alloc (.cells (pkA op fi ti f t) 28)).cell? ⟨w.heap.size, 7, Option.none⟩ = some (.int .u32 fi) := cell_new _ _ _ _
      have c14 : (w.alloc (.cells (pkA op fi ti f t) 28)).cell? ⟨w.heap.size, 14, Option.none⟩ = some (.int .u32 ti) := cell_new _ _ _ _
      refine (may_any _ op fi ti f t).mono ?_
      rintro x w1 ⟨rfl, k1⟩
      rw [HM.out]
      replace c7 := k1.cell c7 (fun h => h)
      replace c14 := k1.cell c14 (fun h => h)
      go_wp2
      go_ret
      exact ⟨by rw [itselfR, HM.out, hb]; simp, ((Keep.refl _ _).alloc _).trans k1⟩

/-- What Reply(own) answers. -/
def replyV (op fi ti : Int) (f m : List UInt8) : Array Value := if op = 1 then pkA 2 ti fi m f else pkA 0 0 0 [] []

set_option maxHeartbeats 1000000 in
theorem reply_any (m : List UInt8) :
    Calls Tryd.prog 8 #[.agg (pkA op fi ti f t), .agg (macV m)] w fun x w' => x = .returned (.tuple #[.agg (replyV op fi ti f m), .bool (op == 1)]) ∧ Keep No w w' := by
  unfold macV
  by_cases h1 : op = 1
  · subst h1
    go_enter Tryd.func8, Tryd.ntmps8
    go_wp2
    refine bodyPost_ret (v := .tuple #[.agg (replyV 1 fi ti f m), .bool true]) ?_ rfl ⟨rfl, ?_⟩
    · simp [results, Tryd.results8, go_sem, replyV, pkA]
    · exact (((Keep.refl _ _).alloc _).alloc _).alloc _
  · have hb : (op == 1) = false := by simp [h1]
    go_enter Tryd.func8, Tryd.ntmps8
    go_wp2
    refine bodyPost_ret (v := .tuple #[.agg (replyV op fi ti f m), .bool false]) ?_ rfl ⟨by rw [hb], ?_⟩
    · simp [results, Tryd.results8, go_sem, replyV, h1, byteAt, pkA]
    · exact (((Keep.refl _ _).alloc _).alloc _).alloc _
end
end Go.Proofs.YtpididcghilbjaaDoor
