/-
  ArpGets' walk: true. Condition: the table of what stands ahead is as it was laid.
-/
import Derived.Test.YtpididcghilbjaaDoorArpRefGet
import Derived.Test.YtpididcghilbjaaDoorArpWakes
namespace Go.Proofs.YtpididcghilbjaaDoor
open Go.RowKit

theorem gF_sub (bs : List UInt8) (k : Nat) (i : Nat) (hi : i < 6) : byteAt ((bs.drop k).take 6) i = byteAt (sub6 bs k) i := by
  have h1 : byteAt ((bs.drop k).take 6) i = byteAt bs (k + i) := by have := byteAt_slice bs k (k + 6) i (by omega); rwa [Nat.add_sub_cancel_left] at this
  rw [h1]
  have : i = 0 ∨ i = 1 ∨ i = 2 ∨ i = 3 ∨ i = 4 ∨ i = 5 := by omega
  rcases this with rfl | rfl | rfl | rfl | rfl | rfl <;> rfl
theorem be2 (bs : List UInt8) (k : Nat) (h : k + 2 ≤ bs.length) : (be ((bs.drop k).take 2) : Int) = bn bs k * 256 + bn bs (k + 1) := by
  have e : (bs.drop k).take 2 = [byteAt bs k, byteAt bs (k + 1)] := by
    apply List.ext_getElem
    · simp; omega
    · intro i h1 h2
      have : i = 0 ∨ i = 1 := by simp at h2; omega
      rcases this with rfl | rfl <;> simp [byteAt_eq (show k < bs.length by omega), byteAt_eq (show k + 1 < bs.length by omega)]
  rw [e]
  simp only [be, List.foldl, bn]
  omega
theorem be4 (bs : List UInt8) (k : Nat) (h : k + 4 ≤ bs.length) : (be ((bs.drop k).take 4) : Int) = n4 bs k := by
  have e : (bs.drop k).take 4 = [byteAt bs k, byteAt bs (k + 1), byteAt bs (k + 2), byteAt bs (k + 3)] := by
    apply List.ext_getElem
    · simp; omega
    · intro i h1 h2
      have : i = 0 ∨ i = 1 ∨ i = 2 ∨ i = 3 := by simp at h2; omega
      rcases this with rfl | rfl | rfl | rfl <;> simp [byteAt_eq (show k < bs.length by omega), byteAt_eq (show k + 1 < bs.length by omega), byteAt_eq (show k + 2 < bs.length by omega), byteAt_eq (show k + 3 < bs.length by omega)]
  rw [e]
  simp only [be, List.foldl, bn, n4]
  omega

theorem ok_same (bs : List UInt8) (h : 28 ≤ bs.length) : gOk bs = rOk bs := by
  have e6 := be2 bs 6 (by omega)
  have b6 := bn_lt bs 6
  have b7 := bn_lt bs 7
  have ht : ∀ i, i < 6 → byteAt (bs.take 6) i = byteAt bs i := fun i hi => by have := byteAt_slice bs 0 6 i hi; simpa using this
  have n8 : ∀ (x y : UInt8), ((x.toNat : Int) == (y.toNat : Int)) = (x == y) := fun x y => by
    rw [Bool.eq_iff_iff]; simp only [beq_iff_eq]
    constructor
    · intro e; apply UInt8.toNat_inj.1; omega
    · intro e; rw [e]
  unfold gOk rOk mEq mEq6 mayR
  rw [ht 0 (by omega), ht 1 (by omega), ht 2 (by omega), ht 3 (by omega), ht 4 (by omega), ht 5 (by omega)]
  simp only [n8]
  have hg : (gOp bs : Int) = bn bs 6 * 256 + bn bs (6 + 1) := e6
  rw [hg]
  have h1 : (bn bs 6 * 256 + bn bs (6 + 1) == 1 || bn bs 6 * 256 + bn bs (6 + 1) == 2) = (byteAt bs 6 == 0 && (byteAt bs 7 == 1 || byteAt bs 7 == 2)) := by
    have a0 : (byteAt bs 6 == 0) = (bn bs 6 == 0) := (n8 (byteAt bs 6) 0).symm
    have a1 : (byteAt bs 7 == 1) = (bn bs 7 == 1) := (n8 (byteAt bs 7) 1).symm
    have a2 : (byteAt bs 7 == 2) = (bn bs 7 == 2) := (n8 (byteAt bs 7) 2).symm
    rw [a0, a1, a2, Bool.eq_iff_iff]
    simp only [Bool.or_eq_true, Bool.and_eq_true, beq_iff_eq]
    show (bn bs 6 * 256 + bn bs 7 = 1 ∨ bn bs 6 * 256 + bn bs 7 = 2) ↔ _
    omega
  rw [h1]
  simp only [same7, Bool.true_and, Bool.and_assoc]
  rfl

/-- Both readings answer alike. -/
theorem gets_same (bs : List UInt8) : ∃ (op fi ti : Int) (f t : List UInt8), 0 ≤ op ∧ op < 65536 ∧ getV bs = pkA op fi ti f t ∧ rgetV bs = rkA op fi ti f t ∧ rgetE bs = getE bs := by
  by_cases h : bs.length < 28
  · exact ⟨0, 0, 0, [], [], by omega, by omega, by rw [getV, if_neg (by omega)], by rw [rgetV, if_neg (by omega)], by rw [rgetE, getE, if_pos h, if_pos h]⟩
  · cases hk : rOk bs with
    | false =>
      refine ⟨0, 0, 0, [], [], by omega, by omega, ?_, ?_, ?_⟩
      · rw [getV, if_neg (by rw [ok_same bs (by omega), hk]; simp)]
      · rw [rgetV, if_neg (by rw [hk]; simp)]
      · rw [rgetE, getE, if_neg h, if_neg h, ok_same bs (by omega), hk]
    | true =>
      have e6 := be2 bs 6 (by omega)
      have hop : (gOp bs : Int) = bn bs 7 := by
        have h1 : byteAt bs 6 = 0 := by
          simp only [rOk, same7, Bool.and_eq_true, beq_iff_eq] at hk
          exact hk.1.2
        show (be ((bs.drop 6).take 2) : Int) = _
        rw [e6]
        simp only [bn, h1]
        show (0 : Int) * 256 + ((byteAt bs 7).toNat : Int) = ((byteAt bs 7).toNat : Int)
        omega
      have hfi : (gFi bs : Int) = n4 bs 14 := be4 bs 14 (by omega)
      have hti : (gTi bs : Int) = n4 bs 24 := be4 bs 24 (by omega)
      have b7 := bn_lt bs 7
      refine ⟨bn bs 7, n4 bs 14, n4 bs 24, sub6 bs 8, sub6 bs 18, b7.1, by omega, ?_, ?_, ?_⟩
      · rw [getV, if_pos ⟨by omega, by rw [ok_same bs (by omega), hk]⟩, hop, hfi, hti]
        simp only [pkA, gF, gT]
        rw [gF_sub bs 8 0 (by omega), gF_sub bs 8 1 (by omega), gF_sub bs 8 2 (by omega), gF_sub bs 8 3 (by omega), gF_sub bs 8 4 (by omega), gF_sub bs 8 5 (by omega), gF_sub bs 18 0 (by omega), gF_sub bs 18 1 (by omega), gF_sub bs 18 2 (by omega), gF_sub bs 18 3 (by omega), gF_sub bs 18 4 (by omega), gF_sub bs 18 5 (by omega)]
      · rw [rgetV, if_pos ⟨by omega, hk⟩]
      · rw [rgetE, getE, if_neg h, if_neg h, ok_same bs (by omega), hk]

section
variable {op fi ti : Int} {f t : List UInt8}
@[go_sem] theorem rkA_size : (rkA op fi ti f t).size = 15 := rfl
@[go_sem] theorem rkA_0 : (rkA op fi ti f t)[0]? = some (.int .i64 op) := rfl
@[go_sem] theorem rkA_g0 (h : 0 < (rkA op fi ti f t).size) : (rkA op fi ti f t)[0]'h = .int .i64 op := rfl
@[go_sem] theorem rkA_13 : (rkA op fi ti f t)[13]? = some (.int .u32 fi) := rfl
@[go_sem] theorem rkA_g13 (h : 13 < (rkA op fi ti f t).size) : (rkA op fi ti f t)[13]'h = .int .u32 fi := rfl
@[go_sem] theorem rkA_14 : (rkA op fi ti f t)[14]? = some (.int .u32 ti) := rfl
@[go_sem] theorem rkA_g14 (h : 14 < (rkA op fi ti f t).size) : (rkA op fi ti f t)[14]'h = .int .u32 ti := rfl
end
theorem rkA_f (op fi ti : Int) (f t : List UInt8) : (rkA op fi ti f t).extract 1 7 = #[bv (byteAt f 0), bv (byteAt f 1), bv (byteAt f 2), bv (byteAt f 3), bv (byteAt f 4), bv (byteAt f 5)] := rfl
theorem rkA_t (op fi ti : Int) (f t : List UInt8) : (rkA op fi ti f t).extract 7 13 = #[bv (byteAt t 0), bv (byteAt t 1), bv (byteAt t 2), bv (byteAt t 3), bv (byteAt t 4), bv (byteAt t 5)] := rfl
set_option maxHeartbeats 1000000 in
theorem eq_rk (w : World) (op op' fi fi' ti ti' : Int) (f f' t t' : List UInt8) :
    (Op.equalIn 10000 39 (.agg (rkA op fi ti f t)) (.agg (rkA op' fi' ti' f' t'))).run Tryd.prog w = .ok (op == op' && (mEq f f' && (mEq t t' && (fi == fi' && ti == ti')))) w := by
  by_cases h1 : op = op' <;> by_cases h2 : fi = fi' <;> by_cases h3 : ti = ti' <;> cases h4 : mEq f f' <;> cases h5 : mEq t t' <;> simp [go_sem, Op.eqFields, rkA_f, rkA_t, h1, h2, h3] <;> (unfold mEq at h4 h5; simp [h4, h5])

section
variable {w : World} {v : Value} {bs : List UInt8}
noncomputable abbrev agB : Code := bodyOf Tryd.f4
theorem Rd.sem_cutH (r : Rd w v bs) {k : Nat} (h : k ≤ bs.length) (wx : World) : (Instr.sliceAt 33 v Option.none (some (.int .i64 (k : Int))) Option.none).run Tryd.prog wx = .ok (cutv v 0 k) wx := by
  have := r.run_cutH (P := Tryd.prog) (w' := wx) bt.sl bsize (k' := .i64) (h := (k : Int)) (by omega) (by omega)
  unfold Instr.sliceAt
  simp only [Sem.run_bind, run_underlying (P := Tryd.prog) Tryd.underlying33, Result.andThen_ok]
  simpa using this

theorem arpgets_walk (r : Rd w v bs) (ha : Ah w) : Calls Tryd.prog 4 #[v] w fun x w' => x = .returned (.bool true) ∧ Keep No w w' := by
  have hk := mn_le_left bs.length 100
  have hk2 := mn_le_right bs.length 100
  obtain ⟨op, fi, ti, f, t, o1, o2, e1, e2, e3⟩ := gets_same ((bs.drop 0).take (mn bs.length 100 - 0))
  have hlen : ((bs.drop 0).take (mn bs.length 100 - 0)).length ≤ 100 := by simp; omega
  refine enter (args := [v]) Tryd.func4 (by kernel_rfl) ?_
  refine go_call_is (gt := fun _ => Option.none) (unroll := true) 60 [(1, 2, .sem (.int .i64 (bs.length : Int))), (1, 3, .sem (.int .i64 (mn bs.length 100 : Nat))), (1, 4, .sem (cutv v 0 (mn bs.length 100)))]
    12 [cutv v 0 (mn bs.length 100)] [0] [cutv v 0 (mn bs.length 100)] 14 [] [] (inR agB 2 1) []
    [(Builtin.len_ #[33] 3 #[v], .int .i64 (bs.length : Int)), (Builtin.min_ #[3, 3] 3 #[.int .i64 (bs.length : Int), .int .i64 100], .int .i64 (mn bs.length 100 : Nat)),
     (Instr.sliceAt 33 v Option.none (some (.int .i64 (mn bs.length 100 : Nat))) Option.none, cutv v 0 (mn bs.length 100))]
    (Wst.start0 w) (by kernel_rfl) trivial ⟨fun w1 _ => r.run_len (ty := 3) bt.sl, fun w1 _ => run_mn #[3, 3] 3 bs.length 100, fun w1 _ => r.sem_cutH hk w1, trivial⟩ ?_
  intro w1 hW1 hS1
  have r1 : Rd w1 (cutv v 0 (mn bs.length 100)) ((bs.drop 0).take (mn bs.length 100 - 0)) := (r.keep0 hW1.keep).cut (Nat.zero_le _) hk
  generalize hB : (bs.drop 0).take (mn bs.length 100 - 0) = cs at *
  generalize hV : cutv v 0 (mn bs.length 100) = u at *
  have r0 : Rd w u cs := by rw [← hB, ← hV]; exact r.cut (Nat.zero_le _) hk
  refine (bclone_any _ _ _ r1 (by omega)).mono ?_
  rintro x w2 ⟨v2, rfl, fr2, _⟩
  refine ⟨_, rfl, ?_⟩
  have hW2 := hW1.later fr2.keep
  have sf2 : ∀ b, v2.ownBlock = some b → Safe ⟨[], w2.heap.size⟩ b := fun b hb => ⟨fr2.own.lt b hb, fun q hq => nomatch hq⟩
  refine go_call_is (gt := fun _ => Option.none) (unroll := true) 60 [] 13 [v2] [0, 3] [u, v2] 17 [] [] (inR agB 3 1) [] [] hW2 (by kernel_rfl) trivial trivial ?_
  intro w3 hW3 hS3
  have r3 : Rd w3 v2 cs := fr2.rd.safe sf2 hS3.same
  have sf3 := fun b hb => hS3.safe b (sf2 b hb)
  refine (arpget_any r3 (by omega) (ha.keep0 hW3.keep)).mono ?_
  rintro x w4 ⟨rfl, k4⟩
  refine ⟨_, rfl, ?_⟩
  rw [e1]
  have hW4 := hW3.later k4
  have r4 := r3.keep0 k4
  have sf4 := fun b hb => (Seg.later hW3 k4).safe b (sf3 b hb)
  refine go_call_is (gt := fun _ => Option.none) (unroll := true) 60 [] 14 [u] [0, 3, 4, 5] [u, v2, .pointer (some ⟨w4.heap.size, 0, Option.none⟩), .int .i64 (getE cs)] 22 [⟨w4.heap.size, (pkA op fi ti f t).toList, true⟩] [(4, 0)] (inR agB 4 1) [] [] hW4 (by kernel_rfl) trivial trivial ?_
  intro w5 hW5 hS5
  have r5 : Rd w5 v2 cs := r4.safe sf4 hS5.same
  have sf5 := fun b hb => hS5.safe b (sf4 b hb)
  have u5 : Rd w5 u cs := r0.keep0 hW5.keep
  refine (refget_any u5).mono ?_
  rintro x w6 ⟨rfl, k6⟩
  refine ⟨_, rfl, ?_⟩
  rw [e2, e3]
  have hW6 := hW5.later k6
  have r6 := r5.keep0 k6
  have sf6 := fun b hb => (Seg.later hW5 k6).safe b (sf5 b hb)
  refine go_drawn_is (gt := fun _ => Option.none) (unroll := true) 60 [] [] [] [(1, .call (.is (.agg (rkA op fi ti f t)))), (3, .bin (.bool true)), (7, .is (.bool true)), (12, .call (.is (.bool true))), (15, .call (.is (.bool true)))]
    [2] [.bool true] [⟨w4.heap.size, (pkA op fi ti f t).toList, true⟩, ⟨w6.heap.size, (rkA op fi ti f t).toList, true⟩] [] (afterR agB 5)
    [(.bool (getE cs == getE cs), .bool true)]
    [(15, [.is (.agg (pkA op fi ti f t))], .is (.agg (rkA op fi ti f t))), (16, [.is v2, .is u], .is (.bool true)), (9, [], .is (.bool true))]
    [(.eql, 39, .agg (rkA op fi ti f t), .agg (rkA op fi ti f t), .bool true)] [] hW6 (by kernel_rfl) (by kernel_rfl) (by kernel_rfl) trivial trivial ⟨congrArg Value.bool (by simp), trivial⟩ ?_
  intro w7 hW7 hS7
  have r7 : Rd w7 v2 cs := r6.safe sf6 hS7.same
  have u7 : Rd w7 u cs := r0.keep0 hW7.keep
  refine ⟨⟨CallOb.of1 fun w8 k => of_any w8 op fi ti f t o1 o2, CallOb.of2 fun w8 k => (bequal_any (r7.keep0 k) (u7.keep0 k)).mono fun e w9 ⟨h1, h2⟩ => ⟨by rw [h1]; simp, h2 ▸ Keep.refl _ _⟩, CallOb.of0 fun w8 k => wakes5_any w8 (ha.keep0 (hW7.keep.trans k)), trivial⟩,
    ⟨fun w8 _ => by rw [run_eql_struct, eq_rk]; simp [mEq_self], trivial⟩, trivial, ?_⟩
  intro w8 k8 hW8 hS8
  exact go_ret (gt := fun _ => Option.none) (unroll := true) 60 [] [.tmp 2] (.bool true) [] [] hW8 Tryd.results4 (by kernel_rfl) trivial trivial (fun w9 hW9 _ => ⟨rfl, hW9.keep⟩)
end
end Go.Proofs.YtpididcghilbjaaDoor
