/-
  tollref01's Bytes, of two and of four; and its Sum. Condition: the bytes of a sum are at most 2^40.
-/
import Derived.Test.YtpididcghilbjaaAppX
import Derived.Test.YtpididcghilbjaaPadFour
import Derived.Test.YtpididcghilbjaaSumMath
import Derived.Test.YtpididcghilbjaaStM
namespace Go.Proofs.Ytpididcghilbjaa
open Go.RowKit

theorem rb_lo (n : Nat) : IntKind.u8.wrap (Int.tmod (n : Int) 256) = ((UInt8.ofNat n).toNat : Int) := by
  rw [show (256 : Int) = ((256 : Nat) : Int) from rfl, rem_nat, IntWalk.u8_in _ (by omega), byte_lo]
  omega
theorem rb_q (n : Nat) (h : n < 4294967296) : IntKind.u32.wrap (Int.tdiv (n : Int) 256) = ((n / 256 : Nat) : Int) := by
  rw [show (256 : Int) = ((256 : Nat) : Int) from rfl, quo_nat]
  exact IntWalk.u32_in _ (by omega)
section
variable {w : World}
theorem refbytes2_any (n : Nat) (h : n < 4294967296) : Calls Try.prog 36 #[.int .u32 (n : Int), .int .i64 2] w fun x w' => ∃ v, x = .returned v ∧ Rd w' v [UInt8.ofNat (n / 256), UInt8.ofNat (n)] ∧ Keep No w w' ∧ Since w.heap.size v ∧ Under w'.heap.size v := by
  refine enter (args := [.int .u32 (n : Int), .int .i64 2]) Try.func36 (by kernel_rfl) ?_
  refine go_retM (gt := fun _ => Option.none) (unroll := true) 200 [(5, 4, .is (.int .u8 ((UInt8.ofNat (n)).toNat : Int))), (6, 1, .is (.int .u32 (n / 256 : Nat))), (5, 4, .is (.int .u8 ((UInt8.ofNat (n / 256)).toNat : Int))), (6, 1, .is (.int .u32 (n / 256 / 256 : Nat)))] [.tmp 4] (.slice (some ⟨w.heap.size, 0, none⟩) 2 2) [⟨w.heap.size, bvs [UInt8.ofNat (n / 256), UInt8.ofNat (n)], true⟩]
    [(.int .u8 (IntKind.u8.wrap (Int.tmod ((n : Nat) : Int) 256)), .int .u8 ((UInt8.ofNat (n)).toNat : Int)), (.int .u32 (IntKind.u32.wrap (Int.tdiv ((n : Nat) : Int) 256)), .int .u32 (n / 256 : Nat)), (.int .u8 (IntKind.u8.wrap (Int.tmod ((n / 256 : Nat) : Int) 256)), .int .u8 ((UInt8.ofNat (n / 256)).toNat : Int)), (.int .u32 (IntKind.u32.wrap (Int.tdiv ((n / 256 : Nat) : Int) 256)), .int .u32 (n / 256 / 256 : Nat))] [] (Wst.start0 w) Try.results36 (by kernel_rfl) (by kernel_rfl) ⟨congrArg (Value.int .u8) (rb_lo _), congrArg (Value.int .u32) (rb_q _ (by omega)), congrArg (Value.int .u8) (rb_lo _), congrArg (Value.int .u32) (rb_q _ (by omega)), trivial⟩ trivial (fun w9 hW9 _ => ?_)
  refine ⟨_, rfl, Rd.of_row (bs := [UInt8.ofNat (n / 256), UInt8.ofNat (n)]) hW9 (List.mem_singleton.2 rfl) 2 rfl (by simp [maxLen]) (fun i hi => ?_), hW9.keep, fun b hb => by obtain rfl : w.heap.size = b := Option.some.inj hb; exact Nat.le_refl _, fun b hb => ?_⟩
  · rw [Nat.zero_add]
    exact bvs_get hi
  · obtain rfl : w.heap.size = b := Option.some.inj hb
    obtain ⟨tt, hrow⟩ := hW9.rows _ (List.mem_singleton.2 rfl)
    exact block_of_row hrow
theorem refbytes4_any (n : Nat) (h : n < 4294967296) : Calls Try.prog 36 #[.int .u32 (n : Int), .int .i64 4] w fun x w' => ∃ v, x = .returned v ∧ Rd w' v [UInt8.ofNat (n / 256 / 256 / 256), UInt8.ofNat (n / 256 / 256), UInt8.ofNat (n / 256), UInt8.ofNat (n)] ∧ Keep No w w' ∧ Since w.heap.size v ∧ Under w'.heap.size v := by
  refine enter (args := [.int .u32 (n : Int), .int .i64 4]) Try.func36 (by kernel_rfl) ?_
  refine go_retM (gt := fun _ => Option.none) (unroll := true) 200 [(5, 4, .is (.int .u8 ((UInt8.ofNat (n)).toNat : Int))), (6, 1, .is (.int .u32 (n / 256 : Nat))), (5, 4, .is (.int .u8 ((UInt8.ofNat (n / 256)).toNat : Int))), (6, 1, .is (.int .u32 (n / 256 / 256 : Nat))), (5, 4, .is (.int .u8 ((UInt8.ofNat (n / 256 / 256)).toNat : Int))), (6, 1, .is (.int .u32 (n / 256 / 256 / 256 : Nat))), (5, 4, .is (.int .u8 ((UInt8.ofNat (n / 256 / 256 / 256)).toNat : Int))), (6, 1, .is (.int .u32 (n / 256 / 256 / 256 / 256 : Nat)))] [.tmp 4] (.slice (some ⟨w.heap.size, 0, none⟩) 4 4) [⟨w.heap.size, bvs [UInt8.ofNat (n / 256 / 256 / 256), UInt8.ofNat (n / 256 / 256), UInt8.ofNat (n / 256), UInt8.ofNat (n)], true⟩]
    [(.int .u8 (IntKind.u8.wrap (Int.tmod ((n : Nat) : Int) 256)), .int .u8 ((UInt8.ofNat (n)).toNat : Int)), (.int .u32 (IntKind.u32.wrap (Int.tdiv ((n : Nat) : Int) 256)), .int .u32 (n / 256 : Nat)), (.int .u8 (IntKind.u8.wrap (Int.tmod ((n / 256 : Nat) : Int) 256)), .int .u8 ((UInt8.ofNat (n / 256)).toNat : Int)), (.int .u32 (IntKind.u32.wrap (Int.tdiv ((n / 256 : Nat) : Int) 256)), .int .u32 (n / 256 / 256 : Nat)), (.int .u8 (IntKind.u8.wrap (Int.tmod ((n / 256 / 256 : Nat) : Int) 256)), .int .u8 ((UInt8.ofNat (n / 256 / 256)).toNat : Int)), (.int .u32 (IntKind.u32.wrap (Int.tdiv ((n / 256 / 256 : Nat) : Int) 256)), .int .u32 (n / 256 / 256 / 256 : Nat)), (.int .u8 (IntKind.u8.wrap (Int.tmod ((n / 256 / 256 / 256 : Nat) : Int) 256)), .int .u8 ((UInt8.ofNat (n / 256 / 256 / 256)).toNat : Int)), (.int .u32 (IntKind.u32.wrap (Int.tdiv ((n / 256 / 256 / 256 : Nat) : Int) 256)), .int .u32 (n / 256 / 256 / 256 / 256 : Nat))] [] (Wst.start0 w) Try.results36 (by kernel_rfl) (by kernel_rfl) ⟨congrArg (Value.int .u8) (rb_lo _), congrArg (Value.int .u32) (rb_q _ (by omega)), congrArg (Value.int .u8) (rb_lo _), congrArg (Value.int .u32) (rb_q _ (by omega)), congrArg (Value.int .u8) (rb_lo _), congrArg (Value.int .u32) (rb_q _ (by omega)), congrArg (Value.int .u8) (rb_lo _), congrArg (Value.int .u32) (rb_q _ (by omega)), trivial⟩ trivial (fun w9 hW9 _ => ?_)
  refine ⟨_, rfl, Rd.of_row (bs := [UInt8.ofNat (n / 256 / 256 / 256), UInt8.ofNat (n / 256 / 256), UInt8.ofNat (n / 256), UInt8.ofNat (n)]) hW9 (List.mem_singleton.2 rfl) 4 rfl (by simp [maxLen]) (fun i hi => ?_), hW9.keep, fun b hb => by obtain rfl : w.heap.size = b := Option.some.inj hb; exact Nat.le_refl _, fun b hb => ?_⟩
  · rw [Nat.zero_add]
    exact bvs_get hi
  · obtain rfl : w.heap.size = b := Option.some.inj hb
    obtain ⟨tt, hrow⟩ := hW9.rows _ (List.mem_singleton.2 rfl)
    exact block_of_row hrow

/-! ### the sum -/
theorem red_step (n x : Nat) (hx : x ≤ 65535) : red (n + x) = if 65535 < red n + x then red n + x - 65535 else red n + x := by
  unfold red
  split <;> split <;> split <;> omega
noncomputable abbrev rsC : Code := bodyOf Try.f39
noncomputable abbrev rsN : Nat := Try.f39.ntmps
abbrev rsQ (w : World) (bs : List UInt8) : Ending → World → Prop := fun x w' => x = .returned (.int .u16 (sumOf bs : Nat)) ∧ Keep No w w'
noncomputable def rsL (v : Value) (bs : List UInt8) (i : Nat) (w' : World) : Cfg := ⟨frOf [0, 3, 4] [v, .int .i64 (red (wsum true (bs.take (bs.length - i))) : Nat), .int .i64 ((bs.length - i : Nat) : Int)], tagL [], ⟨[], w'.heap.size⟩, atL rsC 3⟩
structure RsJ (w : World) (bs : List UInt8) (i : Nat) (w' : World) : Prop where
  le : i ≤ bs.length
  W : Wst w ⟨[], w'.heap.size⟩ w'
noncomputable def rsR (w : World) (v : Value) (bs : List UInt8) (i : Nat) : Act → World → Prop := fun a' w' => ∃ k, k < i ∧ RsJ w bs k w' ∧ agrees rsN (rsL v bs k w') a'
theorem refsum_any {v : Value} {bs : List UInt8} (r : Rd w v bs) (hn : bs.length ≤ 1099511627776) : Calls Try.prog 39 #[v] w (rsQ w bs) := by
  refine enter (args := [v]) Try.func39 (by kernel_rfl) ?_
  refine go_stop (gt := fun _ => Option.none) (unroll := false) 60 [] [0, 3, 4] [v, .int .i64 0, .int .i64 0] [] [] (atL rsC 3) [] [] (Wst.start0 w) (by kernel_rfl) trivial trivial ?_
  intro w1 hW1 _
  have key := loop_okT (P := Try.prog) (Q := bodyPost Try.prog Try.f39 (rsQ w bs)) (n := rsN) (x := loopOf (atL rsC 3)) (k := (atL rsC 3).tail) (fun i : Nat => i) (rsL v bs) (RsJ w bs) (fun _ _ => by kernel_rfl) ?_ bs.length w1 ⟨Nat.le_refl _, hW1⟩
  · unfold rsL at key
    rw [Nat.sub_self] at key
    exact key
  rintro j w2 ⟨hle, hW2⟩
  cases j with
  | zero =>
    unfold rsL
    have hz : (65535 : Int) - (red (wsum true (bs.take (bs.length - 0))) : Nat) = (sumOf bs : Nat) := by
      rw [Nat.sub_zero, List.take_length]
      have := red_le (wsum true bs)
      unfold sumOf
      omega
    have hs : sumOf bs < 65536 := by unfold sumOf; omega
    refine go_ret (gt := fun _ => Option.none) (unroll := false) 60 [(3, 2, .sem (.int .i64 (bs.length : Int))), (3, 3, .is (.bool false)), (10, 1, .is (.int .i64 (sumOf bs : Nat))), (10, 2, .is (.int .u16 (sumOf bs : Nat)))] [.tmp 2] (.int .u16 (sumOf bs : Nat))
      [(.bool (decide (((bs.length - 0 : Nat) : Int) < (bs.length : Int))), .bool false), (.int .i64 (IntKind.i64.wrap ((65535 : Int) - (red (wsum true (bs.take (bs.length - 0))) : Nat))), .int .i64 (sumOf bs : Nat)), (.int .u16 (IntKind.u16.wrap (sumOf bs : Nat)), .int .u16 (sumOf bs : Nat))]
      [(Builtin.len_ #[22] 3 #[v], .int .i64 (bs.length : Int))] hW2 Try.results39 (by kernel_rfl) ⟨congrArg Value.bool (by simp), congrArg (Value.int .i64) (by rw [hz]; exact i64_small (by omega) (by omega)), congrArg (Value.int .u16) (IntWalk.u16_in _ (by omega)), trivial⟩ ⟨fun wx _ => r.run_len (ty := 3) bt.sl, trivial⟩ (fun w9 hW9 _ => ⟨rfl, hW9.keep⟩)
  | succ j =>
    unfold rsL
    obtain ⟨k, hk⟩ : ∃ k, bs.length - (j + 1) = k := ⟨_, rfl⟩
    have hkl : k < bs.length := by omega
    have hnext : bs.length - j = k + 1 := by omega
    rw [hk]
    have hsn : wsum true (bs.take (k + 1)) = wsum true (bs.take k) + (if hi k then (byteAt bs k).toNat * 256 else (byteAt bs k).toNat) := by
      rw [List.take_succ_eq_append_getElem hkl, wsum_snoc, List.length_take, Nat.min_eq_left (by omega), byteAt_eq hkl]
    have hx := byteAt_lt bs k
    have hbn : bn bs k = ((byteAt bs k).toNat : Int) := rfl
    have hrl := red_le (wsum true (bs.take k))
    have hci : (k : Int) < (bs.length : Int) := by omega
    have hin : IntKind.i64.wrap ((k : Int) + 1) = ((k + 1 : Nat) : Int) := by rw [IntWalk.i64_in _ (by omega)]; omega
    have hby : IntKind.i64.wrap (bn bs k) = bn bs k := i64_small (bn_lt bs k).1 (by have := (bn_lt bs k).2; omega)
    generalize hR : red (wsum true (bs.take k)) = m at *
    have hfin : ∀ (m' : Nat), red (wsum true (bs.take (k + 1))) = m' → ∀ w5 a, Wst w ⟨[], World.heap w5 |>.size⟩ w5 → Slots rsN [0, 3, 4] [v, .int .i64 (m' : Int), .int .i64 ((k + 1 : Nat) : Int)] a → rsR w v bs (j + 1) a w5 := by
      intro m' hm' w5 a hW5 hs
      refine ⟨j, Nat.lt_succ_self j, ⟨by omega, hW5⟩, ?_⟩
      unfold rsL
      rw [hnext, hm']
      exact hs
    by_cases hp : hi k = true
    · have hpar : (Int.tmod (k : Int) 2 == 0) = true := by
        have h2 : Int.tmod (k : Int) 2 = ((k % 2 : Nat) : Int) := rem_nat k 2
        rw [h2]
        unfold hi at hp
        have : k % 2 = 0 ∨ k % 2 = 1 := by omega
        rcases this with h | h <;> rw [h] at hp ⊢ <;> revert hp <;> decide
      by_cases hov : (65535 : Int) < ((m + (byteAt bs k).toNat * 256 : Nat) : Int)
      · skip
        refine go_inv (gt := fun _ => Option.none) (unroll := false) 100 [(3, 2, .sem (.int .i64 (bs.length : Int))), (3, 3, .is (.bool true)), (5, 2, .is (.bool true)), (6, 3, .sem (.pointer (some (adr v k)))), (6, 4, .sem (bv (byteAt bs k))), (6, 5, .is (.int .i64 (bn bs k))), (6, 6, .is (.int .i64 (((byteAt bs k).toNat * 256 : Nat) : Int))), (6, 7, .is (.int .i64 ((m + (byteAt bs k).toNat * 256 : Nat) : Int))), (8, 1, .is (.bool true)), (9, 1, .is (.int .i64 ((m + (byteAt bs k).toNat * 256 - 65535 : Nat) : Int))), (4, 1, .is (.int .i64 ((k + 1 : Nat) : Int)))] [0, 3, 4] [v, .int .i64 ((m + (byteAt bs k).toNat * 256 - 65535 : Nat) : Int), .int .i64 ((k + 1 : Nat) : Int)] [] (rsR w v bs (j + 1)) [(.bool (decide ((k : Int) < (bs.length : Int))), .bool true), (.bool (Int.tmod (k : Int) 2 == 0), .bool true), (.int .i64 (IntKind.i64.wrap (bn bs k)), .int .i64 (bn bs k)), (.int .i64 (IntKind.i64.wrap (256 * bn bs k)), .int .i64 (((byteAt bs k).toNat * 256 : Nat) : Int)), (.int .i64 (IntKind.i64.wrap ((m : Int) + (((byteAt bs k).toNat * 256 : Nat) : Int))), .int .i64 ((m + (byteAt bs k).toNat * 256 : Nat) : Int)), (.bool (decide ((65535 : Int) < ((m + (byteAt bs k).toNat * 256 : Nat) : Int))), .bool true), (.int .i64 (IntKind.i64.wrap (((m + (byteAt bs k).toNat * 256 : Nat) : Int) - 65535)), .int .i64 ((m + (byteAt bs k).toNat * 256 - 65535 : Nat) : Int)), (.int .i64 (IntKind.i64.wrap ((k : Int) + 1)), .int .i64 ((k + 1 : Nat) : Int))] [(Builtin.len_ #[22] 3 #[v], .int .i64 (bs.length : Int)), (Instr.indexAt 22 v (.int .i64 (k : Int)), .pointer (some (adr v k))), (Instr.loadAt 5 (.pointer (some (adr v k))), bv (byteAt bs k))] hW2 (by kernel_rfl) ⟨congrArg Value.bool (by simpa using hci), congrArg Value.bool hpar, congrArg (Value.int .i64) hby, congrArg (Value.int .i64) (by rw [i64_small (by omega) (by omega)]; omega), congrArg (Value.int .i64) (by rw [i64_small (by omega) (by omega)]; omega), congrArg Value.bool (by simpa using hov), congrArg (Value.int .i64) (by rw [i64_small (by omega) (by omega)]; omega), congrArg (Value.int .i64) hin, trivial⟩ ⟨fun wx _ => r.run_len (ty := 3) bt.sl, fun wx _ => r.sem_at hkl wx, fun wx hx => ((r.keep0 hW2.keep).safe (m := ⟨[], w2.heap.size⟩) (fun b hb => ⟨Nat.lt_of_lt_of_le (r.blk_lt hb (by omega)) hW2.keep.size, fun _ h => nomatch h⟩) hx).sem_ld hkl, trivial⟩ ?_
        intro w5 a hW5 _ hs
        exact hfin _ (by rw [hsn, if_pos hp, red_step _ _ (by omega), hR, if_pos (by omega)]) w5 a hW5 hs
      · skip
        refine go_inv (gt := fun _ => Option.none) (unroll := false) 100 [(3, 2, .sem (.int .i64 (bs.length : Int))), (3, 3, .is (.bool true)), (5, 2, .is (.bool true)), (6, 3, .sem (.pointer (some (adr v k)))), (6, 4, .sem (bv (byteAt bs k))), (6, 5, .is (.int .i64 (bn bs k))), (6, 6, .is (.int .i64 (((byteAt bs k).toNat * 256 : Nat) : Int))), (6, 7, .is (.int .i64 ((m + (byteAt bs k).toNat * 256 : Nat) : Int))), (8, 1, .is (.bool false)), (4, 1, .is (.int .i64 ((k + 1 : Nat) : Int)))] [0, 3, 4] [v, .int .i64 ((m + (byteAt bs k).toNat * 256 : Nat) : Int), .int .i64 ((k + 1 : Nat) : Int)] [] (rsR w v bs (j + 1)) [(.bool (decide ((k : Int) < (bs.length : Int))), .bool true), (.bool (Int.tmod (k : Int) 2 == 0), .bool true), (.int .i64 (IntKind.i64.wrap (bn bs k)), .int .i64 (bn bs k)), (.int .i64 (IntKind.i64.wrap (256 * bn bs k)), .int .i64 (((byteAt bs k).toNat * 256 : Nat) : Int)), (.int .i64 (IntKind.i64.wrap ((m : Int) + (((byteAt bs k).toNat * 256 : Nat) : Int))), .int .i64 ((m + (byteAt bs k).toNat * 256 : Nat) : Int)), (.bool (decide ((65535 : Int) < ((m + (byteAt bs k).toNat * 256 : Nat) : Int))), .bool false), (.int .i64 (IntKind.i64.wrap ((k : Int) + 1)), .int .i64 ((k + 1 : Nat) : Int))] [(Builtin.len_ #[22] 3 #[v], .int .i64 (bs.length : Int)), (Instr.indexAt 22 v (.int .i64 (k : Int)), .pointer (some (adr v k))), (Instr.loadAt 5 (.pointer (some (adr v k))), bv (byteAt bs k))] hW2 (by kernel_rfl) ⟨congrArg Value.bool (by simpa using hci), congrArg Value.bool hpar, congrArg (Value.int .i64) hby, congrArg (Value.int .i64) (by rw [i64_small (by omega) (by omega)]; omega), congrArg (Value.int .i64) (by rw [i64_small (by omega) (by omega)]; omega), congrArg Value.bool (by simpa using hov), congrArg (Value.int .i64) hin, trivial⟩ ⟨fun wx _ => r.run_len (ty := 3) bt.sl, fun wx _ => r.sem_at hkl wx, fun wx hx => ((r.keep0 hW2.keep).safe (m := ⟨[], w2.heap.size⟩) (fun b hb => ⟨Nat.lt_of_lt_of_le (r.blk_lt hb (by omega)) hW2.keep.size, fun _ h => nomatch h⟩) hx).sem_ld hkl, trivial⟩ ?_
        intro w5 a hW5 _ hs
        exact hfin _ (by rw [hsn, if_pos hp, red_step _ _ (by omega), hR, if_neg (by omega)]) w5 a hW5 hs
    
    · have hpar : (Int.tmod (k : Int) 2 == 0) = false := by
        have h2 : Int.tmod (k : Int) 2 = ((k % 2 : Nat) : Int) := rem_nat k 2
        rw [h2]
        unfold hi at hp
        have : k % 2 = 0 ∨ k % 2 = 1 := by omega
        rcases this with h | h <;> rw [h] at hp ⊢ <;> revert hp <;> decide
      by_cases hov : (65535 : Int) < ((m + (byteAt bs k).toNat : Nat) : Int)
      · skip
        refine go_inv (gt := fun _ => Option.none) (unroll := false) 100 [(3, 2, .sem (.int .i64 (bs.length : Int))), (3, 3, .is (.bool true)), (5, 2, .is (.bool false)), (7, 3, .sem (.pointer (some (adr v k)))), (7, 4, .sem (bv (byteAt bs k))), (7, 5, .is (.int .i64 (bn bs k))), (7, 6, .is (.int .i64 ((m + (byteAt bs k).toNat : Nat) : Int))), (8, 1, .is (.bool true)), (9, 1, .is (.int .i64 ((m + (byteAt bs k).toNat - 65535 : Nat) : Int))), (4, 1, .is (.int .i64 ((k + 1 : Nat) : Int)))] [0, 3, 4] [v, .int .i64 ((m + (byteAt bs k).toNat - 65535 : Nat) : Int), .int .i64 ((k + 1 : Nat) : Int)] [] (rsR w v bs (j + 1)) [(.bool (decide ((k : Int) < (bs.length : Int))), .bool true), (.bool (Int.tmod (k : Int) 2 == 0), .bool false), (.int .i64 (IntKind.i64.wrap (bn bs k)), .int .i64 (bn bs k)), (.int .i64 (IntKind.i64.wrap ((m : Int) + bn bs k)), .int .i64 ((m + (byteAt bs k).toNat : Nat) : Int)), (.bool (decide ((65535 : Int) < ((m + (byteAt bs k).toNat : Nat) : Int))), .bool true), (.int .i64 (IntKind.i64.wrap (((m + (byteAt bs k).toNat : Nat) : Int) - 65535)), .int .i64 ((m + (byteAt bs k).toNat - 65535 : Nat) : Int)), (.int .i64 (IntKind.i64.wrap ((k : Int) + 1)), .int .i64 ((k + 1 : Nat) : Int))] [(Builtin.len_ #[22] 3 #[v], .int .i64 (bs.length : Int)), (Instr.indexAt 22 v (.int .i64 (k : Int)), .pointer (some (adr v k))), (Instr.loadAt 5 (.pointer (some (adr v k))), bv (byteAt bs k))] hW2 (by kernel_rfl) ⟨congrArg Value.bool (by simpa using hci), congrArg Value.bool hpar, congrArg (Value.int .i64) hby, congrArg (Value.int .i64) (by rw [i64_small (by omega) (by omega)]; omega), congrArg Value.bool (by simpa using hov), congrArg (Value.int .i64) (by rw [i64_small (by omega) (by omega)]; omega), congrArg (Value.int .i64) hin, trivial⟩ ⟨fun wx _ => r.run_len (ty := 3) bt.sl, fun wx _ => r.sem_at hkl wx, fun wx hx => ((r.keep0 hW2.keep).safe (m := ⟨[], w2.heap.size⟩) (fun b hb => ⟨Nat.lt_of_lt_of_le (r.blk_lt hb (by omega)) hW2.keep.size, fun _ h => nomatch h⟩) hx).sem_ld hkl, trivial⟩ ?_
        intro w5 a hW5 _ hs
        exact hfin _ (by rw [hsn, if_neg (by simpa using hp), red_step _ _ (by omega), hR, if_pos (by omega)]) w5 a hW5 hs
      · skip
        refine go_inv (gt := fun _ => Option.none) (unroll := false) 100 [(3, 2, .sem (.int .i64 (bs.length : Int))), (3, 3, .is (.bool true)), (5, 2, .is (.bool false)), (7, 3, .sem (.pointer (some (adr v k)))), (7, 4, .sem (bv (byteAt bs k))), (7, 5, .is (.int .i64 (bn bs k))), (7, 6, .is (.int .i64 ((m + (byteAt bs k).toNat : Nat) : Int))), (8, 1, .is (.bool false)), (4, 1, .is (.int .i64 ((k + 1 : Nat) : Int)))] [0, 3, 4] [v, .int .i64 ((m + (byteAt bs k).toNat : Nat) : Int), .int .i64 ((k + 1 : Nat) : Int)] [] (rsR w v bs (j + 1)) [(.bool (decide ((k : Int) < (bs.length : Int))), .bool true), (.bool (Int.tmod (k : Int) 2 == 0), .bool false), (.int .i64 (IntKind.i64.wrap (bn bs k)), .int .i64 (bn bs k)), (.int .i64 (IntKind.i64.wrap ((m : Int) + bn bs k)), .int .i64 ((m + (byteAt bs k).toNat : Nat) : Int)), (.bool (decide ((65535 : Int) < ((m + (byteAt bs k).toNat : Nat) : Int))), .bool false), (.int .i64 (IntKind.i64.wrap ((k : Int) + 1)), .int .i64 ((k + 1 : Nat) : Int))] [(Builtin.len_ #[22] 3 #[v], .int .i64 (bs.length : Int)), (Instr.indexAt 22 v (.int .i64 (k : Int)), .pointer (some (adr v k))), (Instr.loadAt 5 (.pointer (some (adr v k))), bv (byteAt bs k))] hW2 (by kernel_rfl) ⟨congrArg Value.bool (by simpa using hci), congrArg Value.bool hpar, congrArg (Value.int .i64) hby, congrArg (Value.int .i64) (by rw [i64_small (by omega) (by omega)]; omega), congrArg Value.bool (by simpa using hov), congrArg (Value.int .i64) hin, trivial⟩ ⟨fun wx _ => r.run_len (ty := 3) bt.sl, fun wx _ => r.sem_at hkl wx, fun wx hx => ((r.keep0 hW2.keep).safe (m := ⟨[], w2.heap.size⟩) (fun b hb => ⟨Nat.lt_of_lt_of_le (r.blk_lt hb (by omega)) hW2.keep.size, fun _ h => nomatch h⟩) hx).sem_ld hkl, trivial⟩ ?_
        intro w5 a hW5 _ hs
        exact hfin _ (by rw [hsn, if_neg (by simpa using hp), red_step _ _ (by omega), hR, if_neg (by omega)]) w5 a hW5 hs
end
end Go.Proofs.Ytpididcghilbjaa
