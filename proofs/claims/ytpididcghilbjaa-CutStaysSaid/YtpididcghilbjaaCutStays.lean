/-
  tolllaw01.CutStays answers true at every input, and turns nothing that was there: the walk. Condition: the slice reads as bytes.
-/
import Derived.Test.YtpididcghilbjaaWakes1
import Derived.Test.YtpididcghilbjaaMac
namespace Go.Proofs.Ytpididcghilbjaa
open Go.RowKit

theorem takeB_err {bs : List UInt8} {a : Nat} {e n : Int} (he : e ≠ 0) : takeB bs a e n = [] := if_neg (by simp [he])
theorem takeA_err {bs : List UInt8} {a : Nat} {e n : Int} (he : e ≠ 0) : takeA bs a e n = a := if_neg (by simp [he])
theorem takeE_err {bs : List UInt8} {a : Nat} {e n : Int} (he : e ≠ 0) : takeE bs a e n = e := if_neg he
theorem leftR_err {bs : List UInt8} {a : Nat} {e : Int} (he : e ≠ 0) : leftR bs a e = 0 := if_neg he
theorem failR_err {e n : Int} (he : e ≠ 0) : failR e n = e := if_neg he

set_option maxHeartbeats 1000000 in
theorem cutstays_walk {w : World} {v : Value} {bs : List UInt8} (r : Rd w v bs) (first later : Int) :
    Calls Try.prog 3 #[v, .int .i64 first, .int .i64 later] w fun x w' => x = .returned (.bool true) ∧ Keep No w w' := by
  have hlen : ∀ wx, (Builtin.len_ #[22] 3 #[v]).run Try.prog wx = .ok (.int .i64 (bs.length : Int)) wx := fun wx => r.run_len bt.sl
  have hmin : ∀ wx, (Builtin.min_ #[3, 3] 3 #[.int .i64 (bs.length : Int), .int .i64 100]).run Try.prog wx = .ok (.int .i64 (mn bs.length 100 : Nat)) wx := fun wx => run_mn _ _ bs.length 100
  have hcut : ∀ wx, (Instr.slice 22 v Option.none (some (.int .i64 (mn bs.length 100 : Nat))) Option.none).run Try.prog wx = .ok (cutv v 0 (mn bs.length 100)) wx := fun wx => by
    have := r.run_cutH (P := Try.prog) (w' := wx) bt.sl bsize (k' := .i64) (h := (mn bs.length 100 : Nat)) (by omega) (by have := mn_le_left bs.length 100; omega)
    simpa using this
  have hm := mn_le_right bs.length 100
  have rc := r.cut (Nat.zero_le (mn bs.length 100)) (mn_le_left bs.length 100)
  have hl : ((bs.drop 0).take (mn bs.length 100 - 0)).length = mn bs.length 100 := by simp; have := mn_le_left bs.length 100; omega
  generalize cutv v 0 (mn bs.length 100) = u at *
  generalize (bs.drop 0).take (mn bs.length 100 - 0) = l at *
  generalize mn bs.length 100 = m at *
  have hlen2 : ∀ wx, (Builtin.len_ #[22] 3 #[u]).run Try.prog wx = .ok (.int .i64 (m : Int)) wx := fun wx => by rw [← hl]; exact rc.run_len bt.sl
  have e1 : takeA l 0 0 ((m : Int) / 2) = m / 2 := by rw [takeA, if_pos (by omega)]; omega
  have e2 : takeE l 0 0 ((m : Int) / 2) = 0 := by rw [takeE, if_pos rfl, if_neg (by omega), if_neg (by omega)]
  have E1 := Lib.hid e1
  have E2 := Lib.hid e2
  have e3 : (leftR l (m / 2) 0 : Int) = (m : Int) - (m : Int) / 2 := by rw [leftR, if_pos rfl, hl]; omega
  have E3 := Lib.hid e3
  have hl1 : l.length ≤ 140737488351232 := by omega
  clear hl e1 e2 e3
  by_cases hf : first = 0
  · subst hf
    go_enter Try.func3, Try.ntmps3
    go_wp2_with fail
    refine (new_any rc hl1).mono ?_
    rintro x w1 ⟨p, sv, rfl, h0, k0, hp, _⟩
    go_wp2_with fail
    refine (skip_any h0 _).mono ?_
    rintro x w2 ⟨rfl, h1, k1⟩
    rw [E1.out, E2.out] at h1
    go_wp2_with fail
    refine (fail_any h1 0).mono ?_
    rintro x w3 ⟨rfl, h2, k2⟩
    change Cu w3 p sv l (m / 2) 0 at h2
    go_wp2_with fail
    refine (err_any h2).mono ?_
    rintro x w4 ⟨rfl, rfl⟩
    go_wp2_with fail
    refine (left_any h2).mono ?_
    rintro x w5 ⟨rfl, nd, rfl⟩
    rw [E3.out]
    go_wp2_with fail
    refine (wakes_any _).mono ?_
    rintro x w6 ⟨rfl, k3⟩
    go_wp2_with fail
    go_ret
    refine ⟨rfl, ?_⟩
    exact (((k0.trans' k1 (by intro i hi (h : i = p); omega)).trans' k2 (by intro i hi (h : i = p); omega)).drewN _).trans k3
  · have hb : (first == 0) = false := by simp [hf]
    have e4 : failR 0 first = first := if_pos rfl
    have E4 := Lib.hid e4
    have HF := Lib.hid hf
    clear hf e4
    go_enter Try.func3, Try.ntmps3
    go_wp2_with fail
    refine (new_any rc hl1).mono ?_
    rintro x w1 ⟨p, sv, rfl, h0, k0, hp, _⟩
    go_wp2_with fail
    refine (skip_any h0 _).mono ?_
    rintro x w2 ⟨rfl, h1, k1⟩
    rw [E1.out, E2.out] at h1
    go_wp2_with fail
    refine (fail_any h1 first).mono ?_
    rintro x w3 ⟨rfl, h2, k2⟩
    rw [E4.out] at h2
    have ka := (k0.trans' k1 (by intro i hi (h : i = p); omega)).trans' k2 (by intro i hi (h : i = p); omega)
    clear k0 k1 k2 h0 h1
    go_wp2_with fail
    refine (fail_any h2 later).mono ?_
    rintro x w4 ⟨rfl, h3, k3⟩
    rw [failR_err HF.out] at h3
    go_wp2_with fail
    refine (byte_any h3).mono ?_
    rintro x w5 ⟨rfl, h4, k4⟩
    rw [takeA_err HF.out, takeE_err HF.out] at h4
    rw [takeB_err HF.out, show be [] = 0 from rfl]
    have kb := (ka.trans' k3 (by intro i hi (h : i = p); omega)).trans' k4 (by intro i hi (h : i = p); omega)
    clear ka k3 k4 h2 h3
    go_wp2_with fail
    refine (two_any h4).mono ?_
    rintro x w6 ⟨rfl, h5, k5⟩
    rw [takeA_err HF.out, takeE_err HF.out] at h5
    rw [takeB_err HF.out, show be [] = 0 from rfl]
    go_wp2_with fail
    refine (four_any h5).mono ?_
    rintro x w7 ⟨rfl, h6, k6⟩
    rw [takeA_err HF.out, takeE_err HF.out] at h6
    rw [takeB_err HF.out, show be [] = 0 from rfl]
    have kc := (kb.trans' k5 (by intro i hi (h : i = p); omega)).trans' k6 (by intro i hi (h : i = p); omega)
    clear kb k5 k6 h4 h5
    go_wp2_with fail
    refine (cmac_any h6).mono ?_
    rintro x w8 ⟨rfl, h7, k7⟩
    rw [takeA_err HF.out, takeE_err HF.out] at h7
    rw [takeB_err HF.out, show macV [] = zero6 from rfl]
    unfold zero6
    have hz : ∀ wx, (Op.equalIn 10000 37 (.agg #[.int .u8 0, .int .u8 0, .int .u8 0, .int .u8 0, .int .u8 0, .int .u8 0]) (.agg #[.int .u8 0, .int .u8 0, .int .u8 0, .int .u8 0, .int .u8 0, .int .u8 0])).run Try.prog wx = .ok true wx := fun _ => by kernel_rfl
    go_wp2_with fail
    refine (take_any h7 1).mono ?_
    rintro x w9 ⟨v9, rfl, t9⟩
    have h8 := t9.cu
    have r9 := t9.rd
    have k8 := t9.keep
    rw [takeA_err HF.out, takeE_err HF.out] at h8
    rw [takeB_err HF.out] at r9
    have hl9 : ∀ wx, (Builtin.len_ #[22] 3 #[v9]).run Try.prog wx = .ok (.int .i64 0) wx := fun wx => r9.run_len bt.sl
    have kd := (kc.trans' k7 (by intro i hi (h : i = p); omega)).trans' k8 (by intro i hi (h : i = p); omega)
    clear kc k7 k8 h6 h7 t9 hz
    go_wp2_with fail
    refine (rest_any h8).mono ?_
    rintro x w10 ⟨v10, rfl, t10⟩
    have h9 := t10.cu
    have r10 := t10.rd
    have k9 := t10.keep
    rw [takeA_err HF.out, takeE_err HF.out] at h9
    rw [takeB_err HF.out] at r10
    have hl10 : ∀ wx, (Builtin.len_ #[22] 3 #[v10]).run Try.prog wx = .ok (.int .i64 0) wx := fun wx => r10.run_len bt.sl
    clear t10
    go_wp2_with fail
    refine (skip_any h9 _).mono ?_
    rintro x w11 ⟨rfl, h10, k10⟩
    rw [takeA_err HF.out, takeE_err HF.out] at h10
    have kf := (kd.trans' k9 (by intro i hi (h : i = p); omega)).trans' k10 (by intro i hi (h : i = p); omega)
    clear kd k9 k10 h8 h9
    go_wp2_with fail
    refine (err_any h10).mono ?_
    rintro x w12 ⟨rfl, rfl⟩
    go_wp2_with fail
    refine (at_any h10).mono ?_
    rintro x w13 ⟨rfl, rfl⟩
    go_wp2_with fail
    refine (left_any h10).mono ?_
    rintro x w14 ⟨rfl, nd, rfl⟩
    rw [leftR_err HF.out]
    go_wp2_with fail
    refine (wakes_any _).mono ?_
    rintro x w15 ⟨rfl, k11⟩
    go_wp2_with fail
    go_ret
    exact ⟨rfl, (kf.drewN _).trans k11⟩
end Go.Proofs.Ytpididcghilbjaa
