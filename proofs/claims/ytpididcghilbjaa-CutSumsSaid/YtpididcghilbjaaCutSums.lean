/-
  tolllaw01.CutSums answers true at every input, and turns nothing that was there: the walk. Condition: the slice reads as bytes.
-/
import Derived.Test.YtpididcghilbjaaWakes1
import Derived.Test.YtpididcghilbjaaPadTwo
import Derived.Test.YtpididcghilbjaaBytes
import Derived.Test.YtpididcghilbjaaSumLaw
import Derived.Deep.RegionWith
import Derived.Deep.RegionLaw
namespace Go.Proofs.Ytpididcghilbjaa
open Go.RowKit

theorem andnot_fin : ∀ m : Fin 512, bits BinOp.andNot IntKind.i64 ((m.val : Nat) : Int) 1 = ((m.val / 2 * 2 : Nat) : Int) := by decide +kernel
theorem andnot1 {m : Nat} (h : m < 512) : bits BinOp.andNot IntKind.i64 (m : Int) 1 = ((m / 2 * 2 : Nat) : Int) := andnot_fin ⟨m, h⟩

set_option maxHeartbeats 2000000 in
theorem cutsums_walk {w : World} {v : Value} {bs : List UInt8} (r : Rd w v bs) (at_ : Nat) (hat : at_ < 65536) :
    Calls Try.prog 5 #[v, .int .u16 (at_ : Int)] w fun x w' => x = .returned (.bool true) ∧ Keep No w w' := by
  have hlen : ∀ wx, (Builtin.len_ #[22] 3 #[v]).run Try.prog wx = .ok (.int .i64 (bs.length : Int)) wx := fun wx => r.run_len bt.sl
  have hmin : ∀ wx, (Builtin.min_ #[3, 3] 3 #[.int .i64 (bs.length : Int), .int .i64 500]).run Try.prog wx = .ok (.int .i64 (mn bs.length 500 : Nat)) wx := fun wx => run_mn _ _ bs.length 500
  have hcut : ∀ wx, (Instr.slice 22 v Option.none (some (.int .i64 (mn bs.length 500 : Nat))) Option.none).run Try.prog wx = .ok (cutv v 0 (mn bs.length 500)) wx := fun wx => by
    have := r.run_cutH (P := Try.prog) (w' := wx) bt.sl bsize (k' := .i64) (h := (mn bs.length 500 : Nat)) (by omega) (by have := mn_le_left bs.length 500; omega)
    simpa using this
  have hm := mn_le_right bs.length 500
  have rc := r.cut (Nat.zero_le (mn bs.length 500)) (mn_le_left bs.length 500)
  have hl : ((bs.drop 0).take (mn bs.length 500 - 0)).length = mn bs.length 500 := by simp; have := mn_le_left bs.length 500; omega
  generalize cutv v 0 (mn bs.length 500) = u at *
  generalize (bs.drop 0).take (mn bs.length 500 - 0) = l at *
  generalize mn bs.length 500 = m at *
  have hlen2 : ∀ wx, (Builtin.len_ #[22] 3 #[u]).run Try.prog wx = .ok (.int .i64 (m : Int)) wx := fun wx => by rw [← hl]; exact rc.run_len bt.sl
  have HL := Lib.hid hl
  clear hl
  have p0 := Parts.one rc 22
  have na := rc.not_agg
  go_enter Try.func5, Try.ntmps5
  have e0 : sumOf [l].flatten = sumOf l := by simp
  have E0 := Lib.hid e0
  clear e0
  obtain ⟨k, hk⟩ : ∃ k : Nat, (at_ : Int) % ((m : Int) + 1) = (k : Int) := ⟨at_ % (m + 1), by rw [Int.natCast_emod]; rfl⟩
  have hkm : k ≤ m := by
    have := Int.emod_lt_of_pos (at_ : Int) (show (0 : Int) < (m : Int) + 1 by omega)
    omega
  have HK := Lib.hid hk
  clear hk
  have hc1 : ∀ wx, (Instr.slice 22 u Option.none (some (.int .i64 (k : Int))) Option.none).run Try.prog wx = .ok (cutv u 0 k) wx := fun wx => by
    have := rc.run_cutH (P := Try.prog) (w' := wx) bt.sl bsize (k' := .i64) (h := (k : Int)) (by omega) (by have := HL.out; omega)
    simpa using this
  have hc2 : ∀ wx, (Instr.slice 22 u (some (.int .i64 (k : Int))) Option.none Option.none).run Try.prog wx = .ok (cutv u k m) wx := fun wx => by
    have := rc.run_cutL (P := Try.prog) (w' := wx) bt.sl bsize (k := .i64) (l := (k : Int)) (by omega) (by have := HL.out; omega)
    rw [this, HL.out]
    rfl
  have ra := rc.cut (Nat.zero_le k) (by have := HL.out; omega)
  have rb := rc.cut hkm (by have := HL.out; omega)
  have hab : (l.drop 0).take (k - 0) ++ (l.drop k).take (m - k) = l := by
    rw [List.drop_zero, Nat.sub_zero, List.take_of_length_le (l := l.drop k) (by have := HL.out; simp; omega)]
    exact List.take_append_drop k l
  have HAB := Lib.hid hab
  clear hab
  generalize (l.drop 0).take (k - 0) = la at *
  generalize (l.drop k).take (m - k) = lb at *
  generalize cutv u 0 k = ua at *
  generalize cutv u k m = ub at *
  have na2 := ra.not_agg
  have na3 := rb.not_agg
  go_wp2_with fail
  rw [HK.out]
  refine (sum_any p0 (by simp; have := HL.out; omega) (by simp)).mono ?_
  rintro x w1 ⟨rfl, rfl⟩
  rw [E0.out]
  go_wp2_with fail
  have k1 : Keep No w (w.alloc (.cells #[u] 22)) := (Keep.refl _ _).alloc _
  generalize w.alloc (.cells #[u] 22) = W at *
  have s1 : sumOf [la, lb].flatten = sumOf l := by rw [← HAB.out]; simp
  have s2 : sumOf [l, []].flatten = sumOf l := by simp
  have s3 : sumOf [l, [0]].flatten = sumOf l := by simpa using sum_zero l
  have l1 : [la, lb].flatten.length ≤ 1099511627776 := by
    have h1 := HL.out
    have h2 := congrArg List.length HAB.out
    simp at h2 ⊢; omega
  have l2 : [l, []].flatten.length ≤ 1099511627776 := by
    have h1 := HL.out
    simp; omega
  have l3 : [l, [0]].flatten.length ≤ 1099511627776 := by
    have h1 := HL.out
    simp; omega
  have S1 := Lib.hid s1
  have S2 := Lib.hid s2
  have S3 := Lib.hid s3
  clear s1 s2 s3
  have L1 := Lib.hid l1
  have L2 := Lib.hid l2
  have L3 := Lib.hid l3
  clear l1 l2 l3
  have p1 := (Parts.two (ra.keep0 k1) (rb.keep0 k1) 22).keep0 ((Keep.refl _ _).drew)
  have ka : Keep No w (W.alloc (.cells #[ua, ub] 22)) := k1.alloc _
  have p2 := (Parts.two (rc.keep0 ka) (Rd.nil _) 22).keep0 ((Keep.refl _ _).drew)
  have kb := ka.alloc (.cells #[u, .slice Option.none 0 0] 22)
  have rz : Rd (((W.alloc (.cells #[ua, ub] 22)).alloc (.cells #[u, .slice Option.none 0 0] 22)).alloc (.cells #[.int .u8 0] 5)) (.slice (some ⟨((W.alloc (.cells #[ua, ub] 22)).alloc (.cells #[u, .slice Option.none 0 0] 22)).heap.size, 0, Option.none⟩) 1 1) [0] := (Own.made (e := 5) _ [0] (by simp [maxLen])).rd
  have p3 := (Parts.two (rc.keep0 (kb.alloc _)) rz 22).keep0 ((Keep.refl _ _).drew)
  simp only [World.size_alloc] at p2 p3
  clear kb rz
  go_region_with (first | (go_at_call 29; (with_reducible refine (sum_any p1 L1.out (by simp)).mono ?_); rintro x wx ⟨rfl, rfl⟩; rw [S1.out]) | (go_at_call 29; (with_reducible refine (sum_any p2 L2.out (by simp)).mono ?_); rintro x wx ⟨rfl, rfl⟩; rw [S2.out]) | (go_at_call 29; (with_reducible refine (sum_any p3 L3.out (by simp)).mono ?_); rintro x wx ⟨rfl, rfl⟩; rw [S3.out]))
  clear p1 p2 p3 ka S1 S2 S3 L1 L2 L3 p0
  generalize hW2 : ((((W.alloc (.cells #[ua, ub] 22)).alloc (.cells #[u, .slice Option.none 0 0] 22)).alloc (.cells #[.int .u8 0] 5)).alloc (.cells #[u, .slice (some ⟨W.heap.size + 2, 0, Option.none⟩) 1 1] 22)).drew = W2
  have k2 : Keep No w W2 := by rw [← hW2]; exact ((((k1.alloc _).alloc _).alloc _).alloc _).drew
  clear hW2 k1
  have hand := andnot1 (m := m) (by omega)
  have hand2 := andnot1 (m := k) (by omega)
  obtain ⟨n, hn⟩ : ∃ n, m / 2 * 2 = n := ⟨_, rfl⟩
  obtain ⟨j, hj⟩ : ∃ j, k / 2 * 2 = j := ⟨_, rfl⟩
  rw [hn] at hand
  rw [hj] at hand2
  have hnm : n ≤ m := by omega
  have hjn : j ≤ n := by omega
  have hn2 : n % 2 = 0 := by omega
  have hj2 : j % 2 = 0 := by omega
  have HN2 := Lib.hid hn2
  have HJ2 := Lib.hid hj2
  clear hn hj hn2 hj2
  have hmod : (j : Int) % ((n : Int) + 1) = (j : Int) := Int.emod_eq_of_lt (by omega) (by omega)
  have hc3 : ∀ wx, (Instr.slice 22 u Option.none (some (.int .i64 (n : Int))) Option.none).run Try.prog wx = .ok (cutv u 0 n) wx := fun wx => by
    have := rc.run_cutH (P := Try.prog) (w' := wx) bt.sl bsize (k' := .i64) (h := (n : Int)) (by omega) (by have := HL.out; omega)
    rwa [Int.toNat_natCast] at this
  have re := rc.cut (Nat.zero_le n) (by have := HL.out; omega)
  have hel : ((l.drop 0).take (n - 0)).length = n := by have := HL.out; simp; omega
  generalize (l.drop 0).take (n - 0) = ev at *
  generalize cutv u 0 n = ue at *
  have HEL := Lib.hid hel
  clear hel
  have hlene : ∀ wx, (Builtin.len_ #[22] 3 #[ue]).run Try.prog wx = .ok (.int .i64 (n : Int)) wx := fun wx => by rw [← HEL.out]; exact re.run_len bt.sl
  have nae := re.not_agg
  have p4 := Parts.one (re.keep0 k2) 22
  have e4 : sumOf [ev].flatten = sumOf ev := by simp
  have E4 := Lib.hid e4
  have hse := sum_lt ev
  clear e4
  go_wp2_with fail
  refine (sum_any p4 (by have := HEL.out; simp; omega) (by simp)).mono ?_
  rintro x w4 ⟨rfl, rfl⟩
  rw [E4.out]
  go_wp2_with fail
  have k3 := k2.alloc (.cells #[ue] 22)
  clear p4
  generalize W2.alloc (.cells #[ue] 22) = W3 at *
  refine (lay_any W3).mono ?_
  rintro x w5 ⟨p, rfl, hpd, k5, hp⟩
  have ka := k3.trans k5
  go_wp2_with fail
  refine (pbyte_any hpd (re.keep0 ka) (by have := HEL.out; simp; omega)).mono ?_
  rintro x w6 ⟨sv1, rfl, hpd1, k6, l1⟩
  have kb := ka.trans' k6 (by rintro i hi (e | e); (have := k3.size; omega); (simp [Value.ownBlock] at e))
  have sl := Sl.one (w := w6) (.int .u16 (sumOf ev : Nat)) 32 (fun i => .int .u16 ([sumOf ev].getD i 0 : Nat)) rfl
  go_wp2_with fail
  refine (ptwo_any (hpd1.keep0 ((Keep.refl _ _).alloc _)) (xs := [sumOf ev]) sl (by intro i hi; have : i = 0 := (by simp at hi; omega); subst this; exact hse) (new_not_foot hpd1 _ _) (by have := HEL.out; simp; omega)).mono ?_
  rintro x w7 ⟨sv2, rfl, hpd2, k7, l2⟩
  have kc := (kb.alloc (.cells #[.int .u16 (sumOf ev : Nat)] 32)).trans' k7 (by rintro i hi (e | e); (have := k3.size; omega); (rcases l1 with l1 | l1; (rw [l1] at e; simp [Value.ownBlock] at e); (have := l1 i e; have := ka.size; omega)))
  have hwh : [] ++ ev ++ [sumOf ev].flatMap bytes2 = ev ++ bytes2 (sumOf ev) := by simp
  rw [hwh] at hpd2
  clear hwh
  have hwl : (ev ++ bytes2 (sumOf ev)).length = n + 2 := by have := HEL.out; simp [bytes2]; omega
  have HWL := Lib.hid hwl
  have hz := sum_seal (a := ev) (by rw [HEL.out]; exact HN2.out)
  have HZ := Lib.hid hz
  clear hwl hz sl
  generalize ev ++ bytes2 (sumOf ev) = wh at *
  go_wp2_with fail
  refine (done_any hpd2 (by rw [HWL.out]; omega)).mono ?_
  rintro x w8 ⟨v9, rfl, f9⟩
  have kd := kc.trans f9.keep
  have r9 := f9.rd
  have na9 := r9.not_agg
  clear hpd hpd1 hpd2 k5 k6 k7 l1 l2 ka kb kc k3 k2 f9
  have hc5 : ∀ wx, (Instr.slice 22 ue (some (.int .i64 (j : Int))) Option.none Option.none).run Try.prog wx = .ok (cutv ue j n) wx := fun wx => by
    have := re.run_cutL (P := Try.prog) (w' := wx) bt.sl bsize (k := .i64) (l := (j : Int)) (by omega) (by have := HEL.out; omega)
    rw [this, HEL.out]
    rfl
  have hc6 : ∀ wx, (Instr.slice 22 ue Option.none (some (.int .i64 (j : Int))) Option.none).run Try.prog wx = .ok (cutv ue 0 j) wx := fun wx => by
    have := re.run_cutH (P := Try.prog) (w' := wx) bt.sl bsize (k' := .i64) (h := (j : Int)) (by omega) (by have := HEL.out; omega)
    rwa [Int.toNat_natCast] at this
  have rx := re.cut hjn (by have := HEL.out; omega)
  have ry := re.cut (Nat.zero_le j) (by have := HEL.out; omega)
  have hturn : sumOf ((ev.drop j).take (n - j) ++ (ev.drop 0).take (j - 0)) = sumOf ev := by
    have h1 : (ev.drop j).take (n - j) = ev.drop j := List.take_of_length_le (by have := HEL.out; simp; omega)
    have h2 : (ev.drop 0).take (j - 0) = ev.take j := by simp
    rw [h1, h2, sum_turn (a := ev.take j) (b := ev.drop j) (by have := HEL.out; have := HJ2.out; simp; omega) (by have := HEL.out; have := HJ2.out; have := HN2.out; simp; omega), List.take_append_drop]
  have hxl : ((ev.drop j).take (n - j)).length ≤ 500 := by simp; omega
  have hyl : ((ev.drop 0).take (j - 0)).length ≤ 500 := by simp; omega
  have HT := Lib.hid hturn
  clear hturn
  generalize (ev.drop j).take (n - j) = lx at *
  generalize (ev.drop 0).take (j - 0) = ly at *
  generalize cutv ue j n = ux at *
  generalize cutv ue 0 j = uy at *
  go_wp2_with fail
  have hmod2 : (j : Int) % ((n : Int) + 1) = (j : Int) := Int.emod_eq_of_lt (by omega) (by omega)
  rw [hmod2]
  clear hmod2
  go_region_law (first | (refine step_append_b (v := vc) (sv := uy) rfl _ _ bt rfl rfl fc.own rfl (ry.keep0 (kd.drew.trans fc.keep)) (by omega) ?_; intro v' wy hown hkeep hblk hnn) | (go_simp; go_at_call 22; refine (bclone_any _ _ _ (rx.keep0 kd.drew) (by omega)).mono ?_; rintro x wx ⟨vc, rfl, fc, _⟩))
  have ke := (kd.drew.trans fc.keep).trans' hkeep (by intro i hi e; have := fc.since i e; have := kd.size; simp at *; omega)
  have k9 : Keep No w8 wy := ((Keep.refl No w8).drew.trans fc.keep).trans' hkeep (by intro i hi e; have := fc.since i e; simp at *; omega)
  have rt := hown.rd
  have nat := rt.not_agg
  have p5 := Parts.one (r9.keep0 k9) 22
  have e5 : sumOf [wh].flatten = 0 := by simpa using HZ.out
  have E5 := Lib.hid e5
  clear e5 hkeep hblk hnn fc
  have k10 := (Keep.refl No wy).alloc (.cells #[v9] 22)
  have p6 := Parts.one (rt.keep0 k10) 22
  simp only [World.size_alloc] at p6
  have e6 : sumOf [lx ++ ly].flatten = sumOf ev := by simpa using HT.out
  have E6 := Lib.hid e6
  clear e6
  go_wp2_with fail
  refine (sum_any p5 (by have := HWL.out; simp; omega) (by simp)).mono ?_
  rintro x w9 ⟨rfl, rfl⟩
  rw [E5.out]
  go_wp2_with fail
  refine (sum_any p6 (by simp; omega) (by simp)).mono ?_
  rintro x w10 ⟨rfl, rfl⟩
  rw [E6.out]
  go_wp2_with fail
  refine (wakes_any _).mono ?_
  rintro x w11 ⟨rfl, k11⟩
  go_wp2_with fail
  go_ret
  exact ⟨rfl, ((ke.alloc _).alloc _).trans k11⟩
end Go.Proofs.Ytpididcghilbjaa
