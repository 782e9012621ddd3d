/-
  tolllaw01's CutBack, walked. No condition but that the arguments were read.
-/
import Derived.Test.YtpididcghilbjaaCutBack3
import Derived.Test.YtpididcghilbjaaWakes1
namespace Go.Proofs.Ytpididcghilbjaa
open Go.RowKit

section
variable {w : World} {pp : Nat} {vl : Value} {xs : List Thg}
theorem th_sl (hth : ThsAt w vl xs) {w' : World} (hk0 : Keep No w w') {k : Nat} (hk : k < xs.length) : SemObs Try.prog ⟨[], w'.heap.size⟩ w' [(Instr.indexAt 59 vl (.int .i64 (k : Int)), .pointer (some (adT vl k))), (Instr.loadAt 61 (.pointer (some (adT vl k))), .agg (thA (xs.getD k thE)))] := by
  obtain ⟨c, slc, hel⟩ := hth
  obtain ⟨_, e0, e1, e2⟩ := hel k hk
  exact ⟨fun wx _ => th_at slc hk wx, fun wx hx => th_ld (w := wx) ⟨slc.shape, fun q hq => by
      have hcc := slc.cell q hq
      rw [← (slc.keep0 hk0).cell q hq]
      exact World.cell?_of_block (hx _ ⟨Nat.lt_of_lt_of_le (World.block_lt_of_cell? w _ hcc) hk0.size, fun _ h => nomatch h⟩)⟩ hk e0 e1 e2, trivial⟩
theorem cb1_round (hth : ThsAt w vl xs) (h60 : xs.length ≤ 60) (i : Nat × Value) (w' : World) (hJ : Cb1J w pp xs i w') (j : Nat) (hj : i.1 = j + 1) :
    Goal Try.prog (bodyPost Try.prog Try.f6 (cbQ w)) cbN { cb1L pp vl xs.length i w' with todo := .code (loopOf (atL cbC 4)) :: .inv (cb1R w pp vl xs i) :: (atL cbC 4).tail } w' := by
  unfold cb1L
  have hle := hJ.le
  rw [hj] at hle ⊢
  simp only
  obtain ⟨k, hk⟩ : ∃ k, xs.length - (j + 1) = k := ⟨_, rfl⟩
  rw [hk]
  have hki : k < xs.length := by omega
  have sl := th_sl hth hJ.W.keep hki
  have ho := (hth.choose_spec.2 k hki).1
  have h5 := Nat.mod_lt (xs.getD k thE).kd (show 0 < 5 by omega)
  have hm : (xs.getD k thE).kd % 5 = 0 ∨ (xs.getD k thE).kd % 5 = 1 ∨ (xs.getD k thE).kd % 5 = 2 ∨ (xs.getD k thE).kd % 5 = 3 ∨ (xs.getD k thE).kd % 5 = 4 := by omega
  rcases hm with hm | hm | hm | hm | hm
  · exact cb1_arm0 i hj hk h60 w' hJ rfl ho sl hm
  · exact cb1_arm1 i hj hk h60 w' hJ rfl ho sl hm
  · exact cb1_arm2 i hj hk h60 w' hJ rfl ho sl hm
  · exact cb1_arm3 i hj hk h60 w' hJ rfl ho sl hm
  · exact cb1_arm4 i hj hk h60 w' hJ rfl ho sl hm
variable {R2 : Act → World → Prop} {pc : Nat} {svc : Value} {cs : List UInt8} {v : Value} {bs : List UInt8} {less : Nat}
theorem cb3_round (hth : ThsAt w vl xs) (h60 : xs.length ≤ 60) (hl : less ≤ 1) (hcs : cs = (xs.flatMap thB).take ((xs.flatMap thB).length - less)) (hpc : w.heap.size ≤ pc) (hvp : v.ownBlock ≠ some pc) (i : Cb3I) (w' : World) (hJ : Cb3J w pc svc cs v bs xs less i w') (j : Nat) (hj : i.j = j + 1) :
    Goal Try.prog (bodyPost Try.prog Try.f6 (cbQ w)) cbN { cb3L R2 pc vl v less xs.length i w' with todo := .code cb3X :: .inv (cb3R w R2 pc svc cs vl v bs xs less i) :: cb3K R2 } w' := by
  unfold cb3L
  have hle := hJ.le
  rw [hj] at hle ⊢
  simp only
  obtain ⟨k, hk⟩ : ∃ k, xs.length - (j + 1) = k := ⟨_, rfl⟩
  rw [hk]
  have hki : k < xs.length := by omega
  have sl := th_sl hth hJ.W.keep hki
  have ho := (hth.choose_spec.2 k hki).1
  have h5 := Nat.mod_lt (xs.getD k thE).kd (show 0 < 5 by omega)
  have hm : (xs.getD k thE).kd % 5 = 0 ∨ (xs.getD k thE).kd % 5 = 1 ∨ (xs.getD k thE).kd % 5 = 2 ∨ (xs.getD k thE).kd % 5 = 3 ∨ (xs.getD k thE).kd % 5 = 4 := by omega
  rcases hm with hm | hm | hm | hm | hm
  · exact cb3_arm0 i hj hk h60 hl hcs hpc hvp w' hJ rfl ho sl hm
  · exact cb3_arm1 i hj hk h60 hl hcs hpc hvp w' hJ rfl ho sl hm
  · exact cb3_arm2 i hj hk h60 hl hcs hpc hvp w' hJ rfl ho sl hm
  · exact cb3_arm3 i hj hk h60 hl hcs hpc hvp w' hJ rfl ho sl hm
  · exact cb3_arm4 i hj hk h60 hl hcs hpc hvp w' hJ rfl ho sl hm
/-- The end: the examples. -/
theorem cb_end {w1 : World} (hW : Wst w ⟨[], w1.heap.size⟩ w1) : Goal Try.prog (bodyPost Try.prog Try.f6 (cbQ w)) cbN ⟨frOf [] [], tagL [], ⟨[], w1.heap.size⟩, opsR cbC 49⟩ w1 := by
  refine go_call_is (gt := fun _ => Option.none) (unroll := false) 60 [] 14 [] [] [] 193 [] [] (inR cbC 49 0) [] [] hW (by kernel_rfl) trivial trivial ?_
  intro w9 hW9 _
  refine (wakes_any w9).mono ?_
  rintro x wa ⟨rfl, ka⟩
  refine ⟨_, rfl, ?_⟩
  exact go_ret (gt := fun _ => Option.none) (unroll := false) 60 [] [.tmp 2] (.bool true) [] [] (hW9.later ka) Try.results6 (by kernel_rfl) trivial trivial (fun w9 hW9 _ => ⟨rfl, hW9.keep⟩)
noncomputable def cb2L (vl v : Value) (i : Nat) (w' : World) : Cfg := ⟨frOf [0, 7, 80] [vl, v, .int .i64 ((2 - i : Nat) : Int)], tagL [], ⟨[], w'.heap.size⟩, atL cbC 20⟩
structure Cb2J (w : World) (v : Value) (bs : List UInt8) (i : Nat) (w' : World) : Prop where
  le : i ≤ 2
  W : Wst w ⟨[], w'.heap.size⟩ w'
  hd : HdB [] w' v bs
noncomputable def cb2R (w : World) (vl v : Value) (bs : List UInt8) (i : Nat) : Act → World → Prop := fun a' w' => ∃ k : Nat, k < i ∧ Cb2J w v bs k w' ∧ agrees cbN (cb2L vl v k w') a'
/-- Behind the taking of all. -/
theorem cb2_tail {j : Nat} (hj : j ≤ 1) (hle : less = 1 - j) (hbs : bs = xs.flatMap thB) (hlb : less ≤ bs.length) (hl24 : bs.length ≤ 2400) (hcs : cs = bs.take (bs.length - less)) (hR : R2 = cb2R w vl v bs (j + 1)) (i : Cb3I) (hi : i.j = 0) (w' : World) (hJ : Cb3J w pc svc cs v bs xs less i w') :
    Goal Try.prog (bodyPost Try.prog Try.f6 (cbQ w)) cbN { cb3L R2 pc vl v less xs.length i w' with todo := .code cb3X :: .inv (cb3R w R2 pc svc cs vl v bs xs less i) :: cb3K R2 } w' := by
  obtain ⟨_, hW, hcu, hst, hwr, hd⟩ := hJ
  rw [hi, Nat.sub_zero, CbS, List.take_length, ← hbs] at hst
  unfold cb3L
  simp only
  rw [hi]
  have hcl : cs.length = bs.length - less := by rw [hcs, List.length_take]; omega
  have hleft : leftR cs i.a i.e = 0 := by
    unfold leftR
    rcases hst with ⟨he, ha⟩ | ⟨_, he⟩
    · rw [if_pos he]; omega
    · rw [he]; rfl
  refine go_call_is (gt := fun _ => Option.none) (unroll := false) 60 [(26, 0, .is (.bool false))] 13 [pT pc] [0, 7, 8, 9, 10, 80] [vl, v, .int .i64 (less : Int), pT pc, .int .i64 i.wr, .int .i64 (less : Int)] 166 [] [] (inR cbC 46 1 (.inv R2)) [(.bool (decide (((xs.length - 0 : Nat) : Int) < (xs.length : Int))), .bool false)] [] hW (by kernel_rfl) ⟨congrArg Value.bool (by simp), trivial⟩ trivial ?_
  intro w1 hW1 hS1
  have cu1 := hcu.walk (rows := []) (fun _ h => nomatch h) hS1 hW1
  have hd1 := hd.pass0 hS1
  refine (left_any cu1).mono ?_
  rintro x w2 ⟨rfl, nd, rfl⟩
  refine ⟨_, rfl, ?_⟩
  rw [hleft]
  have k2 : Keep No w1 (w1.drewN nd) := (Keep.refl _ _).drewN nd
  have hW2 := hW1.later k2
  have cu2 := cu1.keep0 k2
  have hd2 := hd1.call k2
  generalize w1.drewN nd = w2 at *
  have fin : ∀ {wx : World} {ls : Nat}, ls = 1 - j → ∀ a, Wst w ⟨[], wx.heap.size⟩ wx → HdB [] wx v bs → Slots cbN [0, 7, 80] [vl, v, .int .i64 ((ls + 1 : Nat) : Int)] a → R2 a wx := by
    intro wx ls hls a hWx hdx hs
    rw [hR]
    refine ⟨j, Nat.lt_succ_self j, ⟨by omega, hWx, hdx⟩, ?_⟩
    unfold cb2L
    rw [show 2 - j = ls + 1 by omega]
    exact hs
  have hj01 : less = 0 ∨ less = 1 := by omega
  rcases hj01 with h0 | h1
  · have hw0 := hwr h0
    subst h0
    obtain ⟨he, ha⟩ : i.e = 0 ∧ i.a = bs.length := by
      rcases hst with h | ⟨h, _⟩
      · exact h
      · omega
    rw [hw0]
    refine go_call_is (gt := fun _ => Option.none) (unroll := false) 60 [] 21 [pT pc] [0, 7, 8, 9, 10, 80, 168, 171, 174] [vl, v, .int .i64 0, pT pc, .int .i64 0, .int .i64 0, .bool false, .bool true, .bool false] 176 [] [] (inR cbC 46 11 (.inv R2)) [] [] hW2 (by kernel_rfl) trivial trivial ?_
    intro w3 hW3 hS3
    have cu3 := cu2.walk (rows := []) (fun _ h => nomatch h) hS3 hW3
    have hd3 := hd2.pass0 hS3
    refine (at_any cu3).mono ?_
    rintro x w4 ⟨rfl, rfl⟩
    refine ⟨_, rfl, ?_⟩
    refine go_inv (gt := fun _ => Option.none) (unroll := false) 60 [(46, 13, .sem (.int .i64 (bs.length : Int))), (46, 14, .is (.bool false))] [0, 7, 80] [vl, v, .int .i64 ((0 + 1 : Nat) : Int)] [] R2 [(.bool ((i.a : Int) != (bs.length : Int)), .bool false)] [(Builtin.len_ #[22] 3 #[v], .int .i64 (bs.length : Int))] hW3 (by kernel_rfl) ⟨congrArg Value.bool (by rw [ha]; simp), trivial⟩ ⟨fun wx _ => hd3.rd.run_len (ty := 3) bt.sl, trivial⟩ ?_
    intro w5 a hW5 hS5 hs
    exact fin hle a hW5 (hd3.pass0 hS5) hs
  · subst h1
    have he : i.e = 4 := by
      rcases hst with ⟨_, ha⟩ | ⟨_, h⟩
      · have := hcu.le; omega
      · exact h
    refine go_call_is (gt := fun _ => Option.none) (unroll := false) 60 [] 12 [pT pc] [0, 7, 8, 9, 10, 80, 183, 186] [vl, v, .int .i64 1, pT pc, .int .i64 i.wr, .int .i64 1, .bool false, .bool true] 188 [] [] (inR cbC 46 23 (.inv R2)) [] [] hW2 (by kernel_rfl) trivial trivial ?_
    intro w3 hW3 hS3
    have cu3 := cu2.walk (rows := []) (fun _ h => nomatch h) hS3 hW3
    have hd3 := hd2.pass0 hS3
    refine (err_any cu3).mono ?_
    rintro x w4 ⟨rfl, rfl⟩
    refine ⟨_, rfl, ?_⟩
    rw [he]
    refine go_inv (gt := fun _ => Option.none) (unroll := false) 60 [] [0, 7, 80] [vl, v, .int .i64 ((1 + 1 : Nat) : Int)] [] R2 [] [] hW3 (by kernel_rfl) trivial trivial ?_
    intro w5 a hW5 hS5 hs
    exact fin hle a hW5 (hd3.pass0 hS5) hs
theorem cb2_round (hth : ThsAt w vl xs) (h60 : xs.length ≤ 60) (hbs : bs = xs.flatMap thB) (j : Nat) (w' : World) (hJ : Cb2J w v bs (j + 1) w') :
    Goal Try.prog (bodyPost Try.prog Try.f6 (cbQ w)) cbN { cb2L vl v (j + 1) w' with todo := .code (loopOf (atL cbC 20)) :: .inv (cb2R w vl v bs (j + 1)) :: (atL cbC 20).tail } w' := by
  obtain ⟨hle, hW, hd⟩ := hJ
  have hlen := ths_len xs
  rw [← hbs] at hlen
  unfold cb2L
  simp only
  rw [show 2 - (j + 1) = 1 - j by omega]
  obtain ⟨less, hl⟩ : ∃ l, 1 - j = l := ⟨_, rfl⟩
  rw [hl]
  have hl1 : less ≤ 1 := by omega
  by_cases hs : bs.length < less
  · have h1 : less = 1 := by omega
    subst h1
    refine go_stop (gt := fun _ => Option.none) (unroll := false) 60 [(22, 1, .sem (.int .i64 (bs.length : Int))), (22, 3, .is (.bool true)), (49, 0, .stop)] [] [] [] [] (opsR cbC 49) [(.bool (decide ((bs.length : Int) < ((1 : Nat) : Int))), .bool true)] [(Builtin.len_ #[22] 3 #[v], .int .i64 (bs.length : Int))] hW (by kernel_rfl) ⟨congrArg Value.bool (decide_eq_true (by omega)), trivial⟩ ⟨fun wx _ => hd.rd.run_len (ty := 3) bt.sl, trivial⟩ ?_
    intro w1 hW1 _
    exact cb_end hW1
  have hsub : IntKind.i64.wrap ((bs.length : Int) - (less : Int)) = ((bs.length - less : Nat) : Int) := by rw [IntWalk.i64_in _ (by omega)]; omega
  have hlt : (less : Int) < 2 := by omega
  refine go_call_is (gt := fun _ => Option.none) (unroll := false) 60 [(20, 0, .is (.bool true)), (22, 1, .sem (.int .i64 (bs.length : Int))), (22, 3, .is (.bool false)), (23, 2, .sem (.int .i64 (bs.length : Int))), (23, 4, .is (.int .i64 (bs.length - less : Nat))), (23, 5, .sem (cutv v 0 (bs.length - less)))] 9 [cutv v 0 (bs.length - less)] [0, 7, 8, 80] [vl, v, .int .i64 (less : Int), .int .i64 (less : Int)] 93 [] [] (inR cbC 23 6 (.inv (cb2R w vl v bs (j + 1))))
    [(.bool (decide ((less : Int) < 2)), .bool true), (.bool (decide ((bs.length : Int) < (less : Int))), .bool false), (.int .i64 (IntKind.i64.wrap ((bs.length : Int) - (less : Int))), .int .i64 (bs.length - less : Nat))]
    [(Builtin.len_ #[22] 3 #[v], .int .i64 (bs.length : Int)), (Builtin.len_ #[22] 3 #[v], .int .i64 (bs.length : Int)), (Instr.sliceAt 22 v Option.none (some (.int .i64 (bs.length - less : Nat))) Option.none, cutv v 0 (bs.length - less))]
    hW (by kernel_rfl) ⟨congrArg Value.bool (by simpa using hlt), congrArg Value.bool (by simpa using hs), congrArg (Value.int .i64) hsub, trivial⟩ ⟨fun wx _ => hd.rd.run_len (ty := 3) bt.sl, fun wx _ => hd.rd.run_len (ty := 3) bt.sl, fun wx _ => hd.rd.sem_cutH (by omega) wx, trivial⟩ ?_
  intro w1 hW1 hS1
  have hd1 := hd.pass0 hS1
  have rc : Rd w1 (cutv v 0 (bs.length - less)) (bs.take (bs.length - less)) := by
    have := hd1.rd.cut (l := 0) (Nat.zero_le _) (show bs.length - less ≤ bs.length by omega)
    simpa using this
  refine (new_any rc (by simp; omega)).mono ?_
  rintro x w2 ⟨pc, svc, rfl, hcu, k2, hpc, hsv⟩
  refine ⟨_, rfl, ?_⟩
  have hW2 := hW1.later k2
  have hd2 := hd1.call k2
  have hvp : v.ownBlock ≠ some pc := fun h => by have := hd1.lt _ h; omega
  have hpc0 : w.heap.size ≤ pc := Nat.le_trans hW1.keep.size hpc
  have slc := hth.choose_spec.1
  refine go_stop (gt := fun _ => Option.none) (unroll := false) 60 [(25, 1, .sem (.int .i64 (xs.length : Int)))] [0, 7, 8, 9, 10, 80, 94, 95, 96] [vl, v, .int .i64 (less : Int), pT pc, .int .i64 0, .int .i64 (less : Int), vl, .int .i64 (xs.length : Int), .int .i64 0] [] [] (atL cbC 26 (.inv (cb2R w vl v bs (j + 1)))) [] [(Builtin.len_ #[59] 3 #[vl], .int .i64 (xs.length : Int))] hW2 (by kernel_rfl) trivial ⟨fun wx _ => th_len slc wx, trivial⟩ ?_
  intro w3 hW3 hS3
  have key := loop_okT (P := Try.prog) (Q := bodyPost Try.prog Try.f6 (cbQ w)) (n := cbN) (x := cb3X) (k := cb3K (cb2R w vl v bs (j + 1))) (fun i : Cb3I => i.j) (cb3L (cb2R w vl v bs (j + 1)) pc vl v less xs.length) (Cb3J w pc svc (bs.take (bs.length - less)) v bs xs less) (fun _ _ => by kernel_rfl) ?_ ⟨xs.length, 0, 0, 0⟩ w3
    ⟨Nat.le_refl _, hW3, hcu.walk (rows := []) (fun _ h => nomatch h) hS3 hW3, .inl ⟨rfl, by simp⟩, fun _ => rfl, hd2.pass0 hS3⟩
  · unfold cb3L at key
    simp only at key
    rw [Nat.sub_self] at key
    exact key
  rintro ⟨q, a, e, wr⟩ w4 hJ4
  cases q with
  | succ q => exact cb3_round hth h60 hl1 (by rw [hbs]) hpc0 hvp ⟨q + 1, a, e, wr⟩ w4 hJ4 q rfl
  | zero => exact cb2_tail (j := j) (by omega) hl.symm hbs (by omega) (by omega) rfl rfl ⟨0, a, e, wr⟩ rfl w4 hJ4
end
theorem cutback_walk {w : World} {vl : Value} {xs : List Thg} (hth : ThsAt w vl xs) : Calls Try.prog 6 #[vl] w (cbQ w) := by
  have hm := mn_le_left xs.length 60
  have hm2 := mn_le_right xs.length 60
  have slc := hth.choose_spec.1
  have hth2 := ths_cut hth hm
  have hlen2 : (xs.take (mn xs.length 60)).length = mn xs.length 60 := by simp; omega
  have slc2 := hth2.choose_spec.1
  have h60 : (xs.take (mn xs.length 60)).length ≤ 60 := by omega
  refine enter (args := [vl]) Try.func6 (by kernel_rfl) ?_
  refine go_call_is (gt := fun _ => Option.none) (unroll := false) 60 [(1, 2, .sem (.int .i64 (xs.length : Int))), (1, 3, .sem (.int .i64 (mn xs.length 60 : Nat))), (1, 4, .sem (cutv vl 0 (mn xs.length 60)))] 30 [] [0] [cutv vl 0 (mn xs.length 60)] 21 [] [] (inR cbC 2 0) []
    [(Builtin.len_ #[59] 3 #[vl], .int .i64 (xs.length : Int)), (Builtin.min_ #[3, 3] 3 #[.int .i64 (xs.length : Int), .int .i64 60], .int .i64 (mn xs.length 60 : Nat)), (Instr.sliceAt 59 vl Option.none (some (.int .i64 (mn xs.length 60 : Nat))) Option.none, cutv vl 0 (mn xs.length 60))]
    (Wst.start0 w) (by kernel_rfl) trivial ⟨fun wx _ => th_len slc wx, fun wx _ => run_mn #[3, 3] 3 xs.length 60, fun wx _ => th_cut slc hm wx, trivial⟩ ?_
  intro w1 hW1 _
  generalize cutv vl 0 (mn xs.length 60) = u at *
  generalize xs.take (mn xs.length 60) = ys at *
  refine (lay_any w1).mono ?_
  rintro x w2 ⟨pp, rfl, hpd, k2, hpp⟩
  refine ⟨_, rfl, ?_⟩
  refine go_stop (gt := fun _ => Option.none) (unroll := false) 60 [(3, 1, .sem (.int .i64 (ys.length : Int)))] [0, 3, 22, 23, 24] [u, pT pp, u, .int .i64 (ys.length : Int), .int .i64 0] [] [] (atL cbC 4) [] [(Builtin.len_ #[59] 3 #[u], .int .i64 (ys.length : Int))] (hW1.later k2) (by kernel_rfl) trivial ⟨fun wx _ => th_len slc2 wx, trivial⟩ ?_
  intro w3 hW3 hS3
  have pd3 := hpd.walk (rows := []) (fun _ h => nomatch h) hS3
  have key := loop_okT (P := Try.prog) (Q := bodyPost Try.prog Try.f6 (cbQ w)) (n := cbN) (x := loopOf (atL cbC 4)) (k := (atL cbC 4).tail) (fun i : Nat × Value => i.1) (cb1L pp u ys.length) (Cb1J w pp ys) (fun _ _ => by kernel_rfl) ?_ (ys.length, .slice none 0 0) w3
    ⟨Nat.le_refl _, hW3, by simpa using pd3, Nat.le_trans hW1.keep.size hpp, fun b hb => by simp [Value.ownBlock] at hb⟩
  · unfold cb1L at key
    simp only at key
    rw [Nat.sub_self] at key
    exact key
  rintro ⟨j, sv⟩ w4 hJ
  cases j with
  | succ j => exact cb1_round hth2 h60 (j + 1, sv) w4 hJ j rfl
  | zero =>
  obtain ⟨_, hW4, hpd4, hp4, hs4⟩ := hJ
  simp only [Nat.sub_zero, List.take_length] at hpd4
  have hl24 := ths_len ys
  unfold cb1L
  simp only
  refine go_call_is (gt := fun _ => Option.none) (unroll := false) 60 [(4, 0, .is (.bool false))] 33 [pT pp] [0] [u] 79 [] [] (inR cbC 18 1) [(.bool (decide (((ys.length - 0 : Nat) : Int) < (ys.length : Int))), .bool false)] [] hW4 (by kernel_rfl) ⟨congrArg Value.bool (by simp), trivial⟩ trivial ?_
  intro w5 hW5 hS5
  have pd5 := hpd4.walk (rows := []) (fun _ h => nomatch h) hS5
  obtain ⟨bs, hbs⟩ : ∃ bs, bs = ys.flatMap thB := ⟨_, rfl⟩
  rw [← hbs] at pd5 hl24
  refine (done_any pd5 (by omega)).mono ?_
  rintro x w6 ⟨v, rfl, fr⟩
  refine ⟨_, rfl, ?_⟩
  have hd6 : HdB [] w6 v bs := fr.hd hW5
  refine go_stop (gt := fun _ => Option.none) (unroll := false) 60 [] [0, 7, 80] [u, v, .int .i64 0] [] [] (atL cbC 20) [] [] (hW5.later fr.keep) (by kernel_rfl) trivial trivial ?_
  intro w7 hW7 hS7
  have key := loop_okT (P := Try.prog) (Q := bodyPost Try.prog Try.f6 (cbQ w)) (n := cbN) (x := loopOf (atL cbC 20)) (k := (atL cbC 20).tail) (fun i : Nat => i) (cb2L u v) (Cb2J w v bs) (fun _ _ => by kernel_rfl) ?_ 2 w7 ⟨Nat.le_refl _, hW7, hd6.pass0 hS7⟩
  · exact key
  rintro j w8 hJ
  cases j with
  | succ j => exact cb2_round hth2 h60 hbs j w8 hJ
  | zero =>
    obtain ⟨_, hW8, _⟩ := hJ
    unfold cb2L
    simp only
    refine go_stop (gt := fun _ => Option.none) (unroll := false) 60 [(49, 0, .stop)] [] [] [] [] (opsR cbC 49) [] [] hW8 (by kernel_rfl) trivial trivial ?_
    intro w9 hW9 _
    exact cb_end hW9
end Go.Proofs.Ytpididcghilbjaa
