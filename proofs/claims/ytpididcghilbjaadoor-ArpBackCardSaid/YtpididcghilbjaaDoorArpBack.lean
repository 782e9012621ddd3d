/-
  tolllaw05's ArpBack, walked. Condition: the numbers are of their kinds; the table is as it was laid.
-/
import Derived.Test.YtpididcghilbjaaDoorArpLaw
import Derived.Test.YtpididcghilbjaaDoorArpKnown
namespace Go.Proofs.YtpididcghilbjaaDoor
open Go.RowKit

noncomputable abbrev bkC : Code := bodyOf Tryd.f5
noncomputable abbrev bkN : Nat := Tryd.f5.ntmps
abbrev bkQ (w : World) : Ending → World → Prop := fun x w' => x = .returned (.bool true) ∧ Keep No w w'
theorem neq_pk (w : World) (x y : Operand) (op fi ti : Int) (f t : List UInt8) :
    (do eqGuard .neq 28 x y (.agg (pkA op fi ti f t)) (.agg (pkA op fi ti f t)); binOp .neq 28 (.agg (pkA op fi ti f t)) (.agg (pkA op fi ti f t)) : Sem Value).run Tryd.prog w = .ok (.bool false) w := by
  have h4 : (eqGuard .neq 28 x y (.agg (pkA op fi ti f t)) (.agg (pkA op fi ti f t))).run Tryd.prog w = .ok () w := aRun_none (l := []) (by kernel_rfl)
  simp only [Sem.run_bind, h4, Result.andThen_ok]
  rw [run_neq_struct, eq_pk]
  simp [mEq_self]
def bkRows (h g : Nat) (q fi ti : Nat) (f t : List UInt8) : List RowS := [⟨h, (pkA q fi ti f t).toList, true⟩, ⟨g, (pkA q fi ti f t).toList, true⟩]
noncomputable def bkL (rows : List RowS) (h : Nat) (u wr : Value) (j : Nat) (w' : World) : Cfg := ⟨frOf [1, 2, 5, 46, 47] [u, .pointer (some ⟨h, 0, Option.none⟩), wr, .int .i64 28, .int .i64 ((28 - j : Nat) : Int)], tagL [(2, 0)], ⟨rows, w'.heap.size⟩, atL bkC 8⟩
/-- wr is none of the rows' blocks. -/
def Apart (rows : List RowS) (v : Value) : Prop := ∀ b, v.ownBlock = some b → ∀ r ∈ rows, r.b ≠ b
def bkJ (w : World) (rows : List RowS) (wr : Value) (B : List UInt8) (j : Nat) (w' : World) : Prop := j ≤ 28 ∧ Wst w ⟨rows, w'.heap.size⟩ w' ∧ Own 5 w' wr B
noncomputable def bkR (w : World) (rows : List RowS) (h : Nat) (u wr : Value) (B : List UInt8) (j : Nat) : Act → World → Prop := fun a' w' => ∃ j', j' < j ∧ bkJ w rows wr B j' w' ∧ agrees bkN (bkL rows h u wr j' w') a'

section
variable {w : World} {rows : List RowS} {rows0 rows1 : List Value} {h g : Nat} {u wr : Value} {B : List UInt8}
theorem apart_safe {w' : World} {v : Value} {bs : List UInt8} (hap : Apart rows v) (ho : Own 5 w' v bs) : ∀ b, v.ownBlock = some b → Safe ⟨rows, w'.heap.size⟩ b := fun b hb => ⟨ho.lt b hb, fun r hr _ => hap b hb r hr⟩
set_option maxRecDepth 4000 in
theorem bk_round (hB : B.length = 28) (hap : Apart [⟨h, rows0, true⟩, ⟨g, rows1, true⟩] wr) (ha : Ah w) (j : Nat) (w' : World) (hJ : bkJ w [⟨h, rows0, true⟩, ⟨g, rows1, true⟩] wr B (j + 1) w') :
    Goal Tryd.prog (bodyPost Tryd.prog Tryd.f5 (bkQ w)) bkN { bkL [⟨h, rows0, true⟩, ⟨g, rows1, true⟩] h u wr (j + 1) w' with todo := .code (loopOf (atL bkC 8)) :: .inv (bkR w [⟨h, rows0, true⟩, ⟨g, rows1, true⟩] h u wr B (j + 1)) :: (atL bkC 8).tail } w' := by
  obtain ⟨hj, hW, ho⟩ := hJ
  unfold bkL
  have hi : 28 - (j + 1) < 28 := by omega
  have hnext : 28 - (j + 1) + 1 = 28 - j := by omega
  generalize hI : 28 - (j + 1) = i at *
  have hc : (i : Int) < 28 := by omega
  refine go_call_is (gt := fun _ => Option.none) (unroll := false) 60 [(8, 0, .is (.bool true)), (10, 2, .sem (cutv wr 0 i))] 13 [cutv wr 0 i] [1, 2, 5, 46, 47] [u, .pointer (some ⟨h, 0, Option.none⟩), wr, .int .i64 28, .int .i64 (i : Int)] 54
    [⟨h, rows0, true⟩, ⟨g, rows1, true⟩] [(2, 0)] (inR bkC 10 3 (.inv (bkR w [⟨h, rows0, true⟩, ⟨g, rows1, true⟩] h u wr B (j + 1)))) [(.bool (decide ((i : Int) < 28)), .bool true)] [(Instr.sliceAt 33 wr Option.none (some (.int .i64 (i : Int))) Option.none, cutv wr 0 i)]
    hW (by kernel_rfl) ⟨congrArg Value.bool (by simpa using hc), trivial⟩ ⟨fun w1 _ => ho.rd.sem_cutH (by omega) w1, trivial⟩ ?_
  intro w1 hW1 hS1
  have r1 : Rd w1 (cutv wr 0 i) ((B.drop 0).take (i - 0)) := (ho.rd.safe (apart_safe hap ho) hS1.same).cut (Nat.zero_le _) (by omega)
  have hl : ((B.drop 0).take (i - 0)).length = i := by simp; omega
  have e1 : getE ((B.drop 0).take (i - 0)) = 4 := by rw [getE, if_pos (by omega)]
  have e2 : getV ((B.drop 0).take (i - 0)) = pkA 0 0 0 [] [] := by rw [getV, if_neg (by omega)]
  refine (arpget_any r1 (by omega) (ha.keep0 hW1.keep)).mono ?_
  rintro x w2 ⟨rfl, k2⟩
  refine ⟨_, rfl, ?_⟩
  rw [e1, e2]
  have o2 : Own 5 w2 wr B := (ho.same fun b hb => hS1.same b (apart_safe hap ho b hb)).keep k2 (fun _ _ f => f)
  refine go_inv (gt := fun _ => Option.none) (unroll := false) 60 [(13, 0, .is (.int .i64 ((i + 1 : Nat) : Int)))] [1, 2, 5, 46, 47] [u, .pointer (some ⟨h, 0, Option.none⟩), wr, .int .i64 28, .int .i64 ((i + 1 : Nat) : Int)] ([⟨h, rows0, true⟩, ⟨g, rows1, true⟩] ++ [⟨w2.heap.size, (pkA 0 0 0 [] []).toList, true⟩]) (bkR w [⟨h, rows0, true⟩, ⟨g, rows1, true⟩] h u wr B (j + 1)) [(.int .i64 (IntKind.i64.wrap ((i : Int) + 1)), .int .i64 ((i + 1 : Nat) : Int))] [] (hW1.later k2) (by kernel_rfl)
    ⟨congrArg (Value.int .i64) (by rw [IntWalk.i64_in _ (by omega)]; omega), trivial⟩ trivial ?_
  intro w5 a hW5 hS5 hs
  refine ⟨j, by omega, ⟨by omega, hW5.fewer, o2.same fun b hb => hS5.same b (apart_safe hap o2 b hb)⟩, ?_⟩
  rw [hnext] at hs
  exact hs
set_option maxRecDepth 4000 in
theorem arpback_walk {v : Value} {bs f t : List UInt8} {op q fi ti : Nat} (r : Rd w v bs) (hq : q = 1 ∨ q = 2) (he : IntKind.u16.wrap (1 + Int.tmod (op : Int) 2) = q) (hfi : fi < 4294967296) (hti : ti < 4294967296) (ha : Ah w) :
    Calls Tryd.prog 5 #[.agg (pkA op fi ti f t), v] w (bkQ w) := by
  have hk := mn_le_left bs.length 100
  have hk2 := mn_le_right bs.length 100
  have hq16 : q < 65536 := by omega
  have hlen : ((bs.drop 0).take (mn bs.length 100 - 0)).length ≤ 100 := by simp; omega
  refine enter (args := [.agg (pkA op fi ti f t), v]) Tryd.func5 (by kernel_rfl) ?_
  refine go_call_is (gt := fun _ => Option.none) (unroll := false) 60 [(1, 3, .is (.int .u16 q)), (2, 2, .sem (.int .i64 (bs.length : Int))), (2, 3, .sem (.int .i64 (mn bs.length 100 : Nat))), (2, 4, .sem (cutv v 0 (mn bs.length 100)))]
    17 [.agg (pkA q fi ti f t)] [1, 2] [cutv v 0 (mn bs.length 100), .pointer (some ⟨w.heap.size, 0, Option.none⟩)] 24 [⟨w.heap.size, (pkA q fi ti f t).toList, true⟩] [(2, 0)] (inR bkC 3 1) [(.int .u16 (IntKind.u16.wrap (1 + Int.tmod (op : Int) 2)), .int .u16 q)]
    [(Builtin.len_ #[33] 3 #[v], .int .i64 (bs.length : Int)), (Builtin.min_ #[3, 3] 3 #[.int .i64 (bs.length : Int), .int .i64 100], .int .i64 (mn bs.length 100 : Nat)),
     (Instr.sliceAt 33 v Option.none (some (.int .i64 (mn bs.length 100 : Nat))) Option.none, cutv v 0 (mn bs.length 100))]
    (Wst.start0 w) (by kernel_rfl) ⟨congrArg (Value.int .u16) he, trivial⟩ ⟨fun w1 _ => r.run_len (ty := 3) bt.sl, fun w1 _ => run_mn #[3, 3] 3 bs.length 100, fun w1 _ => r.sem_cutH hk w1, trivial⟩ ?_
  intro w1 hW1 _
  have r0 : Rd w (cutv v 0 (mn bs.length 100)) ((bs.drop 0).take (mn bs.length 100 - 0)) := r.cut (Nat.zero_le _) hk
  generalize (bs.drop 0).take (mn bs.length 100 - 0) = cs at *
  generalize cutv v 0 (mn bs.length 100) = u at *
  refine (arpbytes_any hq16 hfi hti (ha.keep0 hW1.keep)).mono ?_
  rintro x w2 ⟨wr, rfl, fr⟩
  refine ⟨_, rfl, ?_⟩
  have hB : (bytesR q fi ti f t).length = 28 := back_len hq
  have bE : getE (bytesR q fi ti f t ++ cs) = 0 := back_E hq
  have bV : getV (bytesR q fi ti f t ++ cs) = pkA q fi ti f t := back_V hq hfi hti
  generalize bytesR q fi ti f t = B at *
  have hW2 := hW1.later fr.keep
  have hw1 : w.heap.size < w1.heap.size := by
    obtain ⟨t', ht⟩ := hW1.rows _ (List.mem_singleton.2 rfl)
    exact block_of_row ht
  have hap0 : Apart [⟨w.heap.size, (pkA q fi ti f t).toList, true⟩] wr := fun b hb r hr => by
    obtain rfl := List.mem_singleton.1 hr
    have h2 := fr.since b hb
    show w.heap.size ≠ b
    omega
  refine go_call_is (gt := fun _ => Option.none) (unroll := false) 60 [] 12 [wr] [1, 2, 5] [u, .pointer (some ⟨w.heap.size, 0, Option.none⟩), wr] 27 [⟨w.heap.size, (pkA q fi ti f t).toList, true⟩] [(2, 0)] (inR bkC 4 1) [] [] hW2 (by kernel_rfl) trivial trivial ?_
  intro w3 hW3 hS3
  have o3 : Own 5 w3 wr B := fr.own.same fun b hb => hS3.same b (apart_safe hap0 fr.own b hb)
  refine (bclone_any _ _ _ o3.rd (by omega)).mono ?_
  rintro x w4 ⟨v3, rfl, fr3, _⟩
  refine ⟨_, rfl, ?_⟩
  have o4 : Own 5 w4 wr B := o3.keep fr3.keep (fun _ _ f => f)
  have hw3 : w.heap.size < w3.heap.size := by
    obtain ⟨t', ht⟩ := hW3.rows _ (List.mem_singleton.2 rfl)
    exact block_of_row ht
  have hap3 : Apart [⟨w.heap.size, (pkA q fi ti f t).toList, true⟩] v3 := fun b hb r hr => by
    obtain rfl := List.mem_singleton.1 hr
    have h2 := fr3.since b hb
    show w.heap.size ≠ b
    omega
  refine go_app (gt := fun _ => Option.none) (unroll := false) 60 [(4, 3, .stop)] v3 u 33 5 [1, 2, 5] [u, .pointer (some ⟨w.heap.size, 0, Option.none⟩), wr] 29 [⟨w.heap.size, (pkA q fi ti f t).toList, true⟩] [(2, 0)] (inR bkC 4 3) [] [] bt (hW3.later fr3.keep) (by kernel_rfl) trivial trivial ?_
  intro w5 hW5 hS5
  have o5 : Own 5 w5 wr B := o4.same fun b hb => hS5.same b (apart_safe hap0 o4 b hb)
  refine ⟨B, cs, fr3.own.same fun b hb => hS5.same b (apart_safe hap3 fr3.own b hb), r0.keep0 hW5.keep, by omega, fun k hk' => ⟨by have := fr3.since k hk'; omega, hap3 k hk'⟩, ?_⟩
  intro v6 w6 o6 k6 ls6 _ hW6
  have ow6 : Own 5 w6 wr B := o5.keep k6 fun b hb hb' => by
    have h1 := o3.lt b hb
    have h2 := fr3.since b hb'
    omega
  refine go_call_is (gt := fun _ => Option.none) (unroll := false) 60 [] 13 [v6] [1, 2, 5] [u, .pointer (some ⟨w.heap.size, 0, Option.none⟩), wr] 30 [⟨w.heap.size, (pkA q fi ti f t).toList, true⟩] [(2, 0)] (inR bkC 4 4) [] [] hW6 (by kernel_rfl) trivial trivial ?_
  intro w7 hW7 hS7
  have ow7 : Own 5 w7 wr B := ow6.same fun b hb => hS7.same b (apart_safe hap0 ow6 b hb)
  refine (arpget_any (o6.rd.safe (fun b hb => ⟨o6.lt b hb, fun r hr _ => (ls6 b hb).2 r hr⟩) hS7.same) (by rw [List.length_append]; omega) (ha.keep0 hW7.keep)).mono ?_
  rintro x w8 ⟨rfl, k8⟩
  refine ⟨_, rfl, ?_⟩
  rw [bE, bV]
  have ow8 : Own 5 w8 wr B := ow7.keep k8 (fun _ _ f => f)
  have hrl : Rd w8 wr B := ow8.rd
  have hlen_ : ∀ wx, (Builtin.len_ #[33] 3 #[wr]).run Tryd.prog wx = .ok (.int .i64 28) wx := fun wx => by
    have := hrl.run_len (P := Tryd.prog) (w' := wx) (ty := 3) bt.sl
    rw [hB] at this
    exact this
  refine go_stop (gt := fun _ => Option.none) (unroll := false) 60 [(5, 1, .sem (.int .i64 28)), (5, 10, .sem (.bool false)), (7, 1, .sem (.int .i64 28))] [1, 2, 5, 46, 47] [u, .pointer (some ⟨w.heap.size, 0, Option.none⟩), wr, .int .i64 28, .int .i64 0] [⟨w.heap.size, (pkA q fi ti f t).toList, true⟩, ⟨w8.heap.size, (pkA q fi ti f t).toList, true⟩] [(2, 0)] (atL bkC 8) []
    [(Builtin.len_ #[33] 3 #[wr], .int .i64 28), ((do eqGuard .neq 28 (.tmp 41) (.tmp 42) (.agg (pkA q fi ti f t)) (.agg (pkA q fi ti f t)); binOp .neq 28 (.agg (pkA q fi ti f t)) (.agg (pkA q fi ti f t)) : Sem Value), .bool false), (Builtin.len_ #[33] 3 #[wr], .int .i64 28)]
    (hW7.later k8) (by kernel_rfl) trivial ⟨fun wx _ => hlen_ wx, fun wx _ => neq_pk wx _ _ _ _ _ _ _, fun wx _ => hlen_ wx, trivial⟩ ?_
  intro w9 hW9 hS9
  have ow9 : Own 5 w9 wr B := ow8.same fun b hb => hS9.same b (apart_safe hap0 ow8 b hb)
  have hap9 : Apart [⟨w.heap.size, (pkA q fi ti f t).toList, true⟩, ⟨w8.heap.size, (pkA q fi ti f t).toList, true⟩] wr := fun b hb r hr => by
    rcases List.mem_cons.1 hr with rfl | hr
    · exact hap0 b hb _ (List.mem_singleton.2 rfl)
    · obtain rfl := List.mem_singleton.1 hr
      have := ow8.lt b hb
      show w8.heap.size ≠ b
      omega
  refine loop_ok (x := loopOf (atL bkC 8)) (k := (atL bkC 8).tail) (bkL [⟨w.heap.size, (pkA q fi ti f t).toList, true⟩, ⟨w8.heap.size, (pkA q fi ti f t).toList, true⟩] w.heap.size u wr) (bkJ w [⟨w.heap.size, (pkA q fi ti f t).toList, true⟩, ⟨w8.heap.size, (pkA q fi ti f t).toList, true⟩] wr B) (fun _ _ => by kernel_rfl) ?_ 28 w9 ⟨by omega, hW9, ow9⟩
  intro j w' hJ
  cases j with
  | succ j => exact bk_round hB hap9 ha j w' hJ
  | zero =>
  obtain ⟨_, hW, _⟩ := hJ
  unfold bkL
  refine go_call_is (gt := fun _ => Option.none) (unroll := false) 60 [] 13 [u] [1] [u] 62 [⟨w.heap.size, (pkA q fi ti f t).toList, true⟩, ⟨w8.heap.size, (pkA q fi ti f t).toList, true⟩] [] (inR bkC 14 1) [] [] hW (by kernel_rfl) trivial trivial ?_
  intro wa hWa _
  have ra : Rd wa u cs := r0.keep0 hWa.keep
  refine (arpget_any ra (by omega) (ha.keep0 hWa.keep)).mono ?_
  rintro x wb ⟨rfl, kb⟩
  refine ⟨_, rfl, ?_⟩
  have hWb := hWa.later kb
  by_cases h28 : cs.length < 28
  · rw [show getE cs = 4 from by rw [getE, if_pos h28], show getV cs = pkA 0 0 0 [] [] from by rw [getV, if_neg (by omega)]]
    refine go_call_is (gt := fun _ => Option.none) (unroll := false) 60 [(16, 7, .sem (.int .i64 (cs.length : Int))), (16, 8, .is (.bool true))] 9 [] [86] [.bool true] 87 [⟨w.heap.size, (pkA q fi ti f t).toList, true⟩, ⟨w8.heap.size, (pkA q fi ti f t).toList, true⟩, ⟨wb.heap.size, (pkA 0 0 0 [] []).toList, true⟩] [] (inR bkC 16 20) [(.bool (decide ((cs.length : Int) < 28)), .bool true)] [(Builtin.len_ #[33] 3 #[u], .int .i64 (cs.length : Int))] hWb (by kernel_rfl)
      ⟨congrArg Value.bool (by simp; omega), trivial⟩ ⟨fun wx _ => ra.run_len (ty := 3) bt.sl, trivial⟩ ?_
    intro wc hWc _
    refine (wakes5_any _ (ha.keep0 hWc.keep)).mono ?_
    rintro x wd ⟨rfl, kd⟩
    refine ⟨_, rfl, ?_⟩
    exact go_ret (gt := fun _ => Option.none) (unroll := false) 60 [] [.tmp 4] (.bool true) [] [] (hWc.later kd) Tryd.results5 (by kernel_rfl) trivial trivial (fun w9 hW9 _ => ⟨rfl, hW9.keep⟩)
  cases hok : gOk cs with
  | false =>
    rw [show getE cs = 5 from by rw [getE, if_neg h28, if_neg (by rw [hok]; simp)], show getV cs = pkA 0 0 0 [] [] from by rw [getV, if_neg (by rw [hok]; simp)]]
    refine go_call_is (gt := fun _ => Option.none) (unroll := false) 60 [(16, 7, .sem (.int .i64 (cs.length : Int))), (16, 8, .is (.bool false))] 9 [] [86] [.bool true] 87 [⟨w.heap.size, (pkA q fi ti f t).toList, true⟩, ⟨w8.heap.size, (pkA q fi ti f t).toList, true⟩, ⟨wb.heap.size, (pkA 0 0 0 [] []).toList, true⟩] [] (inR bkC 16 20) [(.bool (decide ((cs.length : Int) < 28)), .bool false)] [(Builtin.len_ #[33] 3 #[u], .int .i64 (cs.length : Int))] hWb (by kernel_rfl)
      ⟨congrArg Value.bool (by simp; omega), trivial⟩ ⟨fun wx _ => ra.run_len (ty := 3) bt.sl, trivial⟩ ?_
    intro wc hWc _
    refine (wakes5_any _ (ha.keep0 hWc.keep)).mono ?_
    rintro x wd ⟨rfl, kd⟩
    refine ⟨_, rfl, ?_⟩
    exact go_ret (gt := fun _ => Option.none) (unroll := false) 60 [] [.tmp 4] (.bool true) [] [] (hWc.later kd) Tryd.results5 (by kernel_rfl) trivial trivial (fun w9 hW9 _ => ⟨rfl, hW9.keep⟩)
  | true =>
    rw [show getE cs = 0 from by rw [getE, if_neg h28, if_pos hok], show getV cs = pkA (gOp cs) (gFi cs) (gTi cs) (gF cs) (gT cs) from by rw [getV, if_pos ⟨by omega, hok⟩]]
    refine go_stop (gt := fun _ => Option.none) (unroll := false) 60 [] [1, 11] [u, .pointer (some ⟨wb.heap.size, 0, Option.none⟩)] [⟨w.heap.size, (pkA q fi ti f t).toList, true⟩, ⟨w8.heap.size, (pkA q fi ti f t).toList, true⟩, ⟨wb.heap.size, (pkA (gOp cs) (gFi cs) (gTi cs) (gF cs) (gT cs)).toList, true⟩] [(11, 2)] (atR bkC 17) [] [] hWb (by kernel_rfl) trivial trivial ?_
    intro wc hWc _
    have hbb : bytesR (gOp cs) (gFi cs) (gTi cs) (gF cs) (gT cs) = cs.take 28 := read_back (by omega) hok
    have hm : mayR (gOp cs : Nat) = true := by
      rw [gOk, Bool.and_eq_true] at hok
      exact hok.2
    have hwk : ∀ wx, Keep No wc wx → Ah wx := fun wx k => ha.keep0 (hWc.keep.trans k)
    have g1 : gOp cs < 65536 := be_small (n := 2) (by simp; omega)
    have g2 : gFi cs < 4294967296 := be_small (n := 4) (by simp; omega)
    have g3 : gTi cs < 4294967296 := be_small (n := 4) (by simp; omega)
    refine drawn_ok (gt := fun _ => Option.none) [(1, .call (.is (.bool true))), (4, .call (rdS (cs.take 28))), (6, .sem (cutv u 0 28)), (7, .call (.is (.bool true))), (10, .call (.is (.bool true)))] [4] [.is (.bool true)] []
      [(18, [.is (.agg (pkA (gOp cs) (gFi cs) (gTi cs) (gF cs) (gT cs)))], .is (.bool true)), (17, [.is (.agg (pkA (gOp cs) (gFi cs) (gTi cs) (gF cs) (gT cs)))], rdS (cs.take 28)), (16, [rdS (cs.take 28), .is (cutv u 0 28)], .is (.bool true)), (9, [], .is (.bool true))]
      [] [] [(Instr.sliceAt 33 u Option.none (some (.int .i64 28)) Option.none, cutv u 0 28)] hWc (by kernel_rfl) (by kernel_rfl) trivial
      ⟨CallOb.of1 fun w8 _ => (may_any w8 _ _ _ _ _).mono fun e w9 ⟨h1, h2⟩ => ⟨by rw [h1, hm], h2⟩, CallOb.rd1 fun w8 k => (arpbytes_any g1 g2 g3 (hwk w8 k)).mono fun e w9 ⟨v, h1, h2⟩ => ⟨v, h1, h2.keep, hbb ▸ h2.rd⟩, ?_, CallOb.of0 fun w8 k => wakes5_any w8 (hwk w8 k), trivial⟩ trivial trivial ⟨fun w8 _ => ra.sem_cutH (k := 28) (by omega) w8, trivial⟩ ?_
    · rintro wx vals k hv
      match vals, hv with
      | [x, y], hv =>
        obtain rfl : y = _ := hv.2.1
        have rc : Rd wx (cutv u 0 28) (cs.take 28) := by
          have := ((r0.keep0 hWc.keep).keep0 k).cut (l := 0) (h := 28) (Nat.zero_le _) (by omega)
          simpa using this
        exact (bequal_any hv.1 rc).mono fun e w9 ⟨h1, h2⟩ => ⟨_, h1, h2 ▸ Keep.refl _ _, by simp [Sv.ok]⟩
    · intro wd vs kd hv
      match vs, hv with
      | [x], hx =>
        obtain rfl : x = .bool true := hx.1
        exact go_ret (gt := fun _ => Option.none) (unroll := false) 60 [] [.tmp 4] (.bool true) [] [] (hWc.later kd) Tryd.results5 (by kernel_rfl) trivial trivial (fun w9 hW9 _ => ⟨rfl, hW9.keep⟩)
end
end Go.Proofs.YtpididcghilbjaaDoor
