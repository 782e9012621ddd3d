/-
  tolllaw03's TagReads, walked. Condition: the kinds are as they were laid.
-/
import Derived.Test.YtcimfojbggckhaaDoorTagWakes
import Derived.Test.YtcimfojbggckhaaDoorTagRefRead
namespace Go.Proofs.YtcimfojbggckhaaDoor
open Go.RowKit

noncomputable abbrev trC : Code := bodyOf Tryd.f7
theorem Rd.pass {w w' : World} {v : Value} {bs : List UInt8} {rows : List RowS} {m' : Mem} (h : Rd w v bs) (hlt : Under w.heap.size v) (hap : ∀ b, v.ownBlock = some b → ∀ r ∈ rows, r.b ≠ b) (hS : Seg ⟨rows, w.heap.size⟩ w m' w') (hW : ∃ W0, Wst W0 m' w') : Rd w' v bs ∧ Under w'.heap.size v := by
  obtain ⟨W0, hW⟩ := hW
  exact ⟨h.safe (fun b hb => ⟨hlt b hb, fun r hr _ => hap b hb r hr⟩) hS.same, fun b hb => by rw [hW.size]; exact Nat.lt_of_lt_of_le (hlt b hb) hS.le⟩
theorem readT_len : ∀ (f : Nat) (l : List Tg) (b : List UInt8), l.length ≤ 2 → (readT f l b).1.length ≤ 2
  | 0, _, _, h => h
  | f + 1, l, b, h => by
    rw [readT]
    split
    · rename_i hb
      split
      · simp
      · refine readT_len f _ _ ?_
        simp only [begB, Bool.and_eq_true, decide_eq_true_eq] at hb
        simp
        omega
    · exact h
theorem tagreads_walk {w : World} {v : Value} {bs : List UInt8} (r : Rd w v bs) (hk : Kh w) : Calls Tryd.prog 7 #[v] w fun x w' => x = .returned (.bool true) ∧ Keep No w w' := by
  have hm := mn_le_left bs.length 100
  refine enter (args := [v]) Tryd.func7 (by kernel_rfl) ?_
  refine go_call_is (gt := fun _ => Option.none) (unroll := false) 60 [(1, 2, .sem (.int .i64 (bs.length : Int))), (1, 3, .sem (.int .i64 (mn bs.length 100 : Nat))), (1, 4, .sem (cutv v 0 (mn bs.length 100)))]
    32 [cutv v 0 (mn bs.length 100)] [0] [cutv v 0 (mn bs.length 100)] 16 [] [] (inR trC 2 1) []
    [(Builtin.len_ #[26] 3 #[v], .int .i64 (bs.length : Int)), (Builtin.min_ #[3, 3] 3 #[.int .i64 (bs.length : Int), .int .i64 100], .int .i64 (mn bs.length 100 : Nat)), (Instr.sliceAt 26 v Option.none (some (.int .i64 (mn bs.length 100 : Nat))) Option.none, cutv v 0 (mn bs.length 100))]
    (Wst.start0 w) (by kernel_rfl) trivial ⟨fun wx _ => r.run_len (ty := 3) bt.sl, fun wx _ => run_mn #[3, 3] 3 bs.length 100, fun wx _ => r.sem_cutH hm wx, trivial⟩ ?_
  intro w1 hW1 _
  have hlen : ((bs.drop 0).take (mn bs.length 100 - 0)).length ≤ 1099511627776 := by have := mn_le_right bs.length 100; simp; omega
  have ru := r.cut (l := 0) (h := mn bs.length 100) (Nat.zero_le _) hm
  generalize (bs.drop 0).take (mn bs.length 100 - 0) = cs at *
  generalize cutv v 0 (mn bs.length 100) = u at *
  have hL := readT_len 3 [] cs (by simp)
  refine (read_any (ru.keep0 hW1.keep) hlen (hk.keep0 hW1.keep)).mono ?_
  rintro x w2 ⟨vl, ur, rfl, rr⟩
  refine ⟨_, rfl, ?_⟩
  have hW2 := hW1.later rr.keep
  refine go_call_is (gt := fun _ => Option.none) (unroll := false) 60 [] 35 [u] [3, 4, 5] [vl, ur, .int .i64 ((readT 3 [] cs).2.2 : Nat)] 22 [] [] (inR trC 3 1) [] [] hW2 (by kernel_rfl) trivial trivial ?_
  intro w3 hW3 hS3
  obtain ⟨rt3, lv3⟩ := rr.rt.pass (rows := []) rr.lv (fun _ _ _ h => nomatch h) hS3 hW3
  obtain ⟨rd3, lu3⟩ := rr.rd.pass (rows := []) rr.lu (fun _ _ _ h => nomatch h) hS3 ⟨_, hW3⟩
  refine (refread_any (ru.keep0 hW3.keep) hlen).mono ?_
  rintro x w4 ⟨vm, um, rfl, qq⟩
  refine ⟨_, rfl, ?_⟩
  have hW4 := hW3.later qq.keep
  have rt4 := rt3.keep0 qq.keep
  have rd4 := rd3.keep0 qq.keep
  have lv4 := lv3.mono qq.keep.size
  have lu4 := lu3.mono qq.keep.size
  refine go_call_is (gt := fun _ => Option.none) (unroll := false) 60 [] 37 [vl] [4, 5, 6, 7, 8] [ur, .int .i64 ((readT 3 [] cs).2.2 : Nat), vm, um, .int .i64 ((readT 3 [] cs).2.2 : Nat)] 27 [] [] (inR trC 4 1) [] [] hW4 (by kernel_rfl) trivial trivial ?_
  intro w5 hW5 hS5
  obtain ⟨rt5, lv5⟩ := rt4.pass (rows := []) lv4 (fun _ _ _ h => nomatch h) hS5 hW5
  obtain ⟨rd5, lu5⟩ := rd4.pass (rows := []) lu4 (fun _ _ _ h => nomatch h) hS5 ⟨_, hW5⟩
  obtain ⟨qt5, qv5⟩ := qq.rt.pass (rows := []) qq.lv (fun _ _ _ h => nomatch h) hS5 hW5
  have qd : ∀ wx, Keep No w wx → Rd wx um (readT 3 [] cs).2.1 := fun wx k => qq.rd wx (ru.keep0 k)
  refine (lawof_any rt5 (by omega)).mono ?_
  rintro x w6 ⟨vo, rfl, ff⟩
  refine ⟨_, rfl, ?_⟩
  have hW6 := hW5.later ff.keep
  have rd6 := rd5.keep0 ff.keep
  have lu6 := lu5.mono ff.keep.size
  have qt6 := qt5.keep0 ff.keep
  have qv6 := qv5.mono ff.keep.size
  refine go_call_is (gt := fun _ => Option.none) (unroll := false) 60 [] 36 [vo, vm] [4, 5, 7, 8] [ur, .int .i64 ((readT 3 [] cs).2.2 : Nat), um, .int .i64 ((readT 3 [] cs).2.2 : Nat)] 29 [] [] (inR trC 4 3) [] [] hW6 (by kernel_rfl) trivial trivial ?_
  intro w7 hW7 hS7
  obtain ⟨rd7, lu7⟩ := rd6.pass (rows := []) lu6 (fun _ _ _ h => nomatch h) hS7 ⟨_, hW7⟩
  obtain ⟨qt7, _⟩ := qt6.pass (rows := []) qv6 (fun _ _ _ h => nomatch h) hS7 hW7
  obtain ⟨ot7, _⟩ := ff.own.rt.pass (rows := []) ff.own.lt (fun _ _ _ h => nomatch h) hS7 hW7
  refine (req_any ot7 qt7).mono ?_
  rintro x w8 ⟨rfl, k8⟩
  refine ⟨_, rfl, ?_⟩
  have hW8 := hW7.later k8
  have rd8 := rd7.keep0 k8
  have lu8 := lu7.mono k8.size
  refine go_call_is (gt := fun _ => Option.none) (unroll := false) 60 [] 33 [ur, um] [5, 8, 30] [.int .i64 ((readT 3 [] cs).2.2 : Nat), .int .i64 ((readT 3 [] cs).2.2 : Nat), .bool true] 33 [] [] (inR trC 4 7) [] [] hW8 (by kernel_rfl) trivial trivial ?_
  intro w9 hW9 hS9
  obtain ⟨rd9, _⟩ := rd8.pass (rows := []) lu8 (fun _ _ _ h => nomatch h) hS9 ⟨_, hW9⟩
  refine (bequal_any rd9 (qd w9 hW9.keep)).mono ?_
  rintro x wa ⟨rfl, rfl⟩
  refine ⟨_, rfl, ?_⟩
  simp only [BEq.rfl]
  refine go_call_is (gt := fun _ => Option.none) (unroll := false) 60 [(4, 12, .is (.bool true))] 34 [] [40] [.bool true] 41 [] [] (inR trC 4 15) [(.bool ((((readT 3 [] cs).2.2 : Nat) : Int) == (((readT 3 [] cs).2.2 : Nat) : Int)), .bool true)] [] hW9 (by kernel_rfl) ⟨congrArg Value.bool (by simp), trivial⟩ trivial ?_
  intro wb hWb _
  refine (wakes3_any wb (hk.keep0 hWb.keep)).mono ?_
  rintro x wc ⟨rfl, kc⟩
  refine ⟨_, rfl, ?_⟩
  exact go_ret (gt := fun _ => Option.none) (unroll := false) 60 [] [.tmp 2] (.bool true) [] [] (hWb.later kc) Tryd.results7 (by kernel_rfl) trivial trivial (fun w9 hW9 _ => ⟨rfl, hW9.keep⟩)
end Go.Proofs.YtcimfojbggckhaaDoor
