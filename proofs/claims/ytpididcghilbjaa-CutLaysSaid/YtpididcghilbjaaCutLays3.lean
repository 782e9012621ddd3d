/-
  tolllaw01's CutLays, walked. No condition but that the arguments were read.
-/
import Derived.Test.YtpididcghilbjaaCutLays2
import Derived.Test.YtpididcghilbjaaSum
import Derived.Test.YtpididcghilbjaaWakes1
namespace Go.Proofs.Ytpididcghilbjaa
open Go.RowKit

section
variable {w : World} {vx vy : Value} {xs ys : List UInt8}
set_option maxRecDepth 4000 in
/-- The sums, and the examples. -/
theorem cl_end (rx : Rd w vx xs) (ry : Rd w vy ys) {w1 : World} (hW : Wst w ⟨[], w1.heap.size⟩ w1) : Goal Try.prog (bodyPost Try.prog Try.f7 (clQ w)) clN ⟨frOf [1, 2] [vx, vy], tagL [], ⟨[], w1.heap.size⟩, atR clC 41⟩ w1 := by
  refine drawn_ok (gt := fun _ => Option.none) [(2, .sem (.int .i64 (xs.length : Int))), (3, .sem (.int .i64 (mn xs.length 300 : Nat))), (4, .sem (cutv vx 0 (mn xs.length 300))), (7, .sem (.int .i64 (ys.length : Int))), (8, .sem (.int .i64 (mn ys.length 300 : Nat))), (9, .sem (cutv vy 0 (mn ys.length 300)))]
    [1, 2] [.is (cutv vx 0 (mn xs.length 300)), .is (cutv vy 0 (mn ys.length 300))] [] [] [] []
    [(Builtin.len_ #[22] 3 #[vx], .int .i64 (xs.length : Int)), (Builtin.min_ #[3, 3] 3 #[.int .i64 (xs.length : Int), .int .i64 300], .int .i64 (mn xs.length 300 : Nat)), (Instr.sliceAt 22 vx Option.none (some (.int .i64 (mn xs.length 300 : Nat))) Option.none, cutv vx 0 (mn xs.length 300)),
      (Builtin.len_ #[22] 3 #[vy], .int .i64 (ys.length : Int)), (Builtin.min_ #[3, 3] 3 #[.int .i64 (ys.length : Int), .int .i64 300], .int .i64 (mn ys.length 300 : Nat)), (Instr.sliceAt 22 vy Option.none (some (.int .i64 (mn ys.length 300 : Nat))) Option.none, cutv vy 0 (mn ys.length 300))]
    hW (by kernel_rfl) (by kernel_rfl) trivial trivial trivial trivial
    ⟨fun wx _ => rx.run_len (ty := 3) bt.sl, fun wx _ => run_mn #[3, 3] 3 xs.length 300, fun wx _ => rx.sem_cutH (mn_le_left _ _) wx, fun wx _ => ry.run_len (ty := 3) bt.sl, fun wx _ => run_mn #[3, 3] 3 ys.length 300, fun wx _ => ry.sem_cutH (mn_le_left _ _) wx, trivial⟩ ?_
  intro w2 vs k2 hv
  obtain rfl := allOk_is (vs := [cutv vx 0 (mn xs.length 300), cutv vy 0 (mn ys.length 300)]) hv
  have rcx := rx.cut (l := 0) (Nat.zero_le _) (mn_le_left xs.length 300)
  have rcy := ry.cut (l := 0) (Nat.zero_le _) (mn_le_left ys.length 300)
  have lx : ((xs.drop 0).take (mn xs.length 300 - 0)).length ≤ 300 := by have := mn_le_right xs.length 300; simp; omega
  have ly : ((ys.drop 0).take (mn ys.length 300 - 0)).length ≤ 300 := by have := mn_le_right ys.length 300; simp; omega
  generalize (xs.drop 0).take (mn xs.length 300 - 0) = xa at *
  generalize (ys.drop 0).take (mn ys.length 300 - 0) = yb at *
  generalize cutv vx 0 (mn xs.length 300) = cx at *
  generalize cutv vy 0 (mn ys.length 300) = cy at *
  obtain ⟨ax, nx, qx, rfl⟩ := rcx.form
  obtain ⟨ay, ny, qy, rfl⟩ := rcy.form
  have hW2 := hW.later k2
  refine go_call_is (gt := fun _ => Option.none) (unroll := false) 60 [] 29 [.slice (some ⟨w2.heap.size, 0, none⟩) 2 2] [1, 2] [.slice ax nx qx, .slice ay ny qy] 200 [⟨w2.heap.size, [.slice ax nx qx, .slice ay ny qy], true⟩] [] (inR clC 42 3) [] [] hW2 (by kernel_rfl) trivial trivial ?_
  intro w3 hW3 _
  have hp : Parts w3 (.slice (some ⟨w2.heap.size, 0, none⟩) 2 2) [xa, yb] := ⟨fun i => if i = 0 then .slice ax nx qx else .slice ay ny qy, Sl.of_row hW3 (List.mem_singleton.2 rfl) 1 2 (by simp [maxLen]) (fun j hj => by
    have : j = 0 ∨ j = 1 := by omega
    rcases this with rfl | rfl <;> rfl), fun i hi => by
    have : i = 0 ∨ i = 1 := by simp at hi; omega
    rcases this with rfl | rfl
    · exact rcx.keep0 hW3.keep
    · exact rcy.keep0 hW3.keep⟩
  refine (sum_any hp (by simp; omega) (by simp)).mono ?_
  rintro x w4 ⟨rfl, rfl⟩
  refine ⟨_, rfl, ?_⟩
  have hW3' : Wst w ⟨[], w3.heap.size⟩ w3 := hW3.fewer (rows := [])
  refine Goal.re (tags := tagL []) (m := ⟨[], w3.heap.size⟩) ?_
  have hfl : [xa, yb].flatten = xa ++ yb := by simp
  rw [hfl]
  refine go_call_is (gt := fun _ => Option.none) (unroll := false) 60 [] 22 [.slice ax nx qx] [2, 200] [.slice ay ny qy, .int .u16 (sumOf (xa ++ yb) : Nat)] 202 [] [] (inR clC 42 5) [] [] hW3' (by kernel_rfl) trivial trivial ?_
  intro w5 hW5 _
  refine (bclone_any _ _ _ (rcx.keep0 hW5.keep) (by omega)).mono ?_
  rintro x w6 ⟨vo, rfl, fo, _⟩
  refine ⟨_, rfl, ?_⟩
  have hsv : Since w.heap.size vo := fo.since.mono hW5.keep.size
  refine go_appB (gt := fun _ => Option.none) (unroll := false) 60 [(42, 7, .stop)] vo (.slice ay ny qy) 22 5 [200] [.int .u16 (sumOf (xa ++ yb) : Nat)] 204 [] [] (inR clC 42 7) [] [] bt (hW5.later fo.keep) (by kernel_rfl) trivial trivial ?_
  intro w7 hW7 hS7
  have ho7 := fo.own.same fun b hb => hS7.same b ⟨fo.own.lt b hb, fun _ h => nomatch h⟩
  refine ⟨_, _, ho7, rcy.keep0 hW7.keep, by omega, fun v w8 ho8 k8 hbl => ?_⟩
  have hW8 := hW7.laterS k8 (fun q hq => ⟨hsv q hq, fun _ h => nomatch h⟩)
  refine go_call_is (gt := fun _ => Option.none) (unroll := false) 60 [] 39 [v] [200] [.int .u16 (sumOf (xa ++ yb) : Nat)] 205 [] [] (inR clC 42 8) [] [] hW8 (by kernel_rfl) trivial trivial ?_
  intro w9 hW9 hS9
  have ho9 := ho8.same fun b hb => hS9.same b ⟨ho8.lt b hb, fun _ h => nomatch h⟩
  refine (refsum_any ho9.rd (by rw [List.length_append]; omega)).mono ?_
  rintro x wa ⟨rfl, ka⟩
  refine ⟨_, rfl, ?_⟩
  refine go_call_is (gt := fun _ => Option.none) (unroll := false) 60 [(42, 9, .is (.bool true))] 14 [] [207] [.bool true] 208 [] [] (inR clC 42 11) [(.bool (((sumOf (xa ++ yb) : Nat) : Int) == ((sumOf (xa ++ yb) : Nat) : Int)), .bool true)] [] (hW9.later ka) (by kernel_rfl) ⟨congrArg Value.bool (by simp), trivial⟩ trivial ?_
  intro wb hWb _
  refine (wakes_any wb).mono ?_
  rintro x wc ⟨rfl, kc⟩
  refine ⟨_, rfl, ?_⟩
  exact go_ret (gt := fun _ => Option.none) (unroll := false) 60 [] [.tmp 6] (.bool true) [] [] (hWb.later kc) Try.results7 (by kernel_rfl) trivial trivial (fun w9 hW9 _ => ⟨rfl, hW9.keep⟩)
end
section
variable {w : World} {vx vy : Value} {bx by_ : List UInt8} {pp : Nat} {vl : Value} {xs : List Ac}
set_option maxRecDepth 4000 in
theorem cl_round (rx : Rd w vx bx) (ry : Rd w vy by_) (hth : AcsAt w vl xs) (i : ClI) (w' : World) (hJ : ClJ w pp xs.length i w') (j : Nat) (hj : i.j = j + 1) :
    Goal Try.prog (bodyPost Try.prog Try.f7 (clQ w)) clN { clL vx vy pp vl xs.length i w' with todo := .code (loopOf (atL clC 4)) :: .inv (clR w vx vy pp vl xs.length i) :: (atL clC 4).tail } w' := by
  unfold clL
  have hle := hJ.le
  have hW := hJ.W
  have h61 := hJ.b60
  rw [hj] at hle h61 ⊢
  simp only
  obtain ⟨k, hk⟩ : ∃ k, xs.length - (j + 1) = k := ⟨_, rfl⟩
  rw [hk] at h61 ⊢
  have hki : k < xs.length := by omega
  have sl := ac_sl hth hW.keep hki
  have ho := (hth.choose_spec.2 k hki).1
  generalize xs.getD k acE = x at *
  by_cases h60 : k = 60
  · refine go_stop (gt := fun _ => Option.none) (unroll := false) 100 [(4, 0, .is (.bool true)), (5, 1, .sem (.pointer (some (adA vl k)))), (5, 2, .sem (.agg (acA x))), (6, 1, .is (.bool true))] [1, 2] [vx, vy] [⟨w'.heap.size, (acA x).toList, true⟩] [] (atR clC 41) [(.bool (decide ((k : Int) < (xs.length : Int))), .bool true), (.bool ((k : Int) == 60), .bool true)]
      [(Instr.indexAt 42 vl (.int .i64 (k : Int)), .pointer (some (adA vl k))), (Instr.loadAt 48 (.pointer (some (adA vl k))), .agg (acA x))] hW (by kernel_rfl) ⟨congrArg Value.bool (by simp; omega), congrArg Value.bool (by simp; omega), trivial⟩ sl ?_
    intro w1 hW1 _
    refine Goal.re (tags := tagL []) (m := ⟨[], w1.heap.size⟩) ?_
    exact cl_end rx ry (hW1.fewer (rows := []))
  have h6 : k < 60 := by omega
  by_cases hw0 : x.wh = 0
  · exact cl_arm0 i hj hk h6 w' hJ ho sl hw0
  by_cases hw1 : x.wh = 1
  · exact cl_arm1 i hj hk h6 w' hJ ho sl hw1
  by_cases hw2 : x.wh = 2
  · exact cl_arm2 i hj hk h6 w' hJ ho sl hw2
  by_cases hw3 : x.wh = 3
  · exact cl_arm3 i hj hk h6 w' hJ ho sl hw3
  by_cases hw4 : x.wh = 4
  · exact cl_arm4 i hj hk h6 w' hJ ho sl hw4
  by_cases hw7 : x.wh = 7
  · have h1 := ho.n1
    by_cases hn : x.nn < 0
    · exact cl_arm7a i hj hk h6 w' hJ ho sl hw7 hn
    by_cases hm : x.nn = 9223372036854775807
    · exact cl_arm7b i hj hk h6 w' hJ ho sl hw7 hm
    by_cases hl : (i.bs.length : Int) ≤ x.nn + 1
    · exact cl_arm7c i hj hk h6 w' hJ ho sl hw7 ⟨by omega, by omega, hl⟩
    · obtain ⟨a, ha⟩ := Int.eq_ofNat_of_zero_le (show 0 ≤ x.nn by omega)
      exact cl_arm7d i hj hk h6 w' hJ ho sl hw7 (a := a) ha (by omega)
  exact cl_armE i hj hk h6 w' hJ ho sl hw0 hw1 hw2 hw3 hw4 hw7
end
theorem cutlays_walk {w : World} {vl vx vy : Value} {xs : List Ac} {bx by_ : List UInt8} (hth : AcsAt w vl xs) (rx : Rd w vx bx) (ry : Rd w vy by_) : Calls Try.prog 7 #[vl, vx, vy] w (clQ w) := by
  have slc := hth.choose_spec.1
  refine enter (args := [vl, vx, vy]) Try.func7 (by kernel_rfl) ?_
  refine go_call_is (gt := fun _ => Option.none) (unroll := false) 60 [] 30 [] [0, 1, 2] [vl, vx, vy] 17 [] [] (inR clC 1 0) [] [] (Wst.start0 w) (by kernel_rfl) trivial trivial ?_
  intro w1 hW1 _
  refine (lay_any w1).mono ?_
  rintro x w2 ⟨pp, rfl, hpd, k2, hpp⟩
  refine ⟨_, rfl, ?_⟩
  refine go_stop (gt := fun _ => Option.none) (unroll := false) 60 [(3, 1, .sem (.int .i64 (xs.length : Int)))] [1, 2, 7, 8, 18, 19, 20] [vx, vy, pT pp, .slice none 0 0, vl, .int .i64 (xs.length : Int), .int .i64 0] [] [] (atL clC 4) [] [(Builtin.len_ #[42] 3 #[vl], .int .i64 (xs.length : Int))] (hW1.later k2) (by kernel_rfl) trivial ⟨fun wx _ => act_len slc wx, trivial⟩ ?_
  intro w3 hW3 hS3
  have pd3 := hpd.walk (rows := []) (fun _ h => nomatch h) hS3
  have key := loop_okT (P := Try.prog) (Q := bodyPost Try.prog Try.f7 (clQ w)) (n := clN) (x := loopOf (atL clC 4)) (k := (atL clC 4).tail) (fun i : ClI => i.j) (clL vx vy pp vl xs.length) (ClJ w pp xs.length) (fun _ _ => by kernel_rfl) ?_ ⟨xs.length, .slice none 0 0, .slice none 0 0, []⟩ w3
    ⟨Nat.le_refl _, hW3, ⟨pd3, Own.nil _ _, Nat.le_trans hW1.keep.size hpp, fun b hb => by simp [Value.ownBlock] at hb, fun b hb => by simp [Value.ownBlock] at hb, fun b hb => by simp [Value.ownBlock] at hb, fun _ h => nomatch h⟩, by simp, by simp⟩
  · unfold clL at key
    simp only at key
    rw [Nat.sub_self] at key
    exact key
  rintro ⟨j, sv, u, bs⟩ w4 hJ
  cases j with
  | succ j => exact cl_round rx ry hth ⟨j + 1, sv, u, bs⟩ w4 hJ j rfl
  | zero =>
    have hW4 := hJ.W
    unfold clL
    simp only
    refine go_stop (gt := fun _ => Option.none) (unroll := false) 60 [(4, 0, .is (.bool false))] [1, 2] [vx, vy] [] [] (atR clC 41) [(.bool (decide (((xs.length - 0 : Nat) : Int) < (xs.length : Int))), .bool false)] [] hW4 (by kernel_rfl) ⟨congrArg Value.bool (by simp), trivial⟩ trivial ?_
    intro w5 hW5 _
    exact cl_end rx ry hW5
end Go.Proofs.Ytpididcghilbjaa
