/-
  cut.Sum is the sum of words. Condition: at most 2^40 bytes in all.
-/
import Derived.Test.YtpididcghilbjaaClone
import Derived.Test.YtpididcghilbjaaSumMath
import Derived.Lib.Hide
import Derived.IntWalk
import Derived.Laws.Bits64b
namespace Go.Proofs.Ytpididcghilbjaa
open Go.RowKit
/-- The slice v reads as a list of lists of bytes. -/
def Parts (w : World) (v : Value) (ps : List (List UInt8)) : Prop := ∃ pv : Nat → Value, Sl 1 w v ps.length pv ∧ ∀ i, i < ps.length → Rd w (pv i) (ps.getD i [])

theorem flatten_take {ps : List (List UInt8)} {k : Nat} (h : k < ps.length) : (ps.take (k + 1)).flatten = (ps.take k).flatten ++ ps.getD k [] := by
  rw [List.take_succ_eq_append_getElem h, List.flatten_append]; simp [h]
theorem flatten_take_le (ps : List (List UInt8)) (k : Nat) : (ps.take k).flatten.length ≤ ps.flatten.length := by
  have h : ((ps.take k).flatten ++ (ps.drop k).flatten).length = ps.flatten.length := by rw [← List.flatten_append, List.take_append_drop]
  rw [List.length_append] at h
  omega
theorem byte_snoc {l : List UInt8} {k : Nat} (h : k < l.length) : l.take (k + 1) = l.take k ++ [byteAt l k] := by
  rw [List.take_succ_eq_append_getElem h, byteAt_eq h]

theorem xor16 (m : Nat) (h : m ≤ 65535) : bits BinOp.xor IntKind.u16 IntKind.u16.max (m : Int) = ((65535 - m : Nat) : Int) := by
  have h1 : BitVec.ofInt 16 IntKind.u16.max = BitVec.allOnes 16 := by decide
  have h2 : (BitVec.ofInt 16 (m : Int)).toNat = m := by
    rw [BitVec.ofInt_natCast, BitVec.toNat_ofNat]; exact Nat.mod_eq_of_lt (by omega)
  show IntKind.u16.wrap ((BitVec.ofInt 16 IntKind.u16.max ^^^ BitVec.ofInt 16 (m : Int)).toNat : Int) = _
  rw [h1, BitVec.allOnes_xor, BitVec.toNat_not, h2, IntWalk.u16_in]
  omega

set_option maxHeartbeats 1000000 in
theorem sum_any {w : World} {v : Value} {ps : List (List UInt8)} (hp : Parts w v ps) (hn : ps.flatten.length ≤ 1099511627776) (hn2 : ps.length ≤ 140737488351232) :
    Calls Try.prog 29 #[v] w fun x w' => x = .returned (.int .u16 (sumOf ps.flatten : Nat)) ∧ w = w' := by
  obtain ⟨pv, sl, rds⟩ := hp
  have hlen : ∀ wx, (Builtin.len_ #[77] 3 #[v]).run Try.prog wx = .ok (.int .i64 (ps.length : Int)) wx := fun wx => sl.run_len Try.underlying77
  have hz1 : (Try.prog.info? 22).map (·.size) = some 1 := by kernel_rfl
  go_enter Try.func29, Try.ntmps29
  go_wp2
  go_loop [3, 4, 11] (fun n h i => ∃ k : Nat, k ≤ ps.length ∧ i = .int .i64 k ∧ n = .int .u64 (wsum true (ps.take k).flatten : Nat) ∧ h = .bool (hi (ps.take k).flatten.length)) (fun _ _ i => ps.length - (intOf i).toNat)
  case atStart => exact ⟨0, Nat.zero_le _, rfl, rfl, rfl⟩
  case round =>
    obtain ⟨k, hk, rfl, rfl, rfl⟩ := hrel
    by_cases hlt : k < ps.length
    · have hat : ∀ wx, (Instr.indexAt 77 v (.int .i64 (k : Int))).run Try.prog wx = .ok (.pointer (some ⟨blk v, offs v + k, none⟩)) wx := fun wx => by
        have := sl.run_at (P := Try.prog) (w' := wx) Try.underlying77 hz1 (k := .i64) (i := (k : Int)) (by omega) (by omega)
        simpa using this
      have hcell := sl.cell k (by omega)
      have r := rds k hlt
      have hfl := flatten_take hlt
      have hle := flatten_take_le ps (k + 1)
      have hwl := wsum_le (ps.take (k + 1)).flatten true
      generalize pv k = u at *
      generalize ps.getD k [] = b at *
      generalize hF : (ps.take k).flatten = F at *
      rw [hfl] at hle hwl
      have HFL := Lib.hid hfl
      clear hF hfl rds
      have hbl : F.length + b.length ≤ 1099511627776 := by rw [List.length_append] at hle; omega
      have hl2 : ∀ wx, (Builtin.len_ #[22] 3 #[u]).run Try.prog wx = .ok (.int .i64 (b.length : Int)) wx := fun wx => r.run_len bt.sl
      clear hle hwl
      go_wp2
      go_loop [3, 4, 17] (fun n h i => ∃ j : Nat, j ≤ b.length ∧ i = .int .i64 j ∧ n = .int .u64 (wsum true (F ++ b.take j) : Nat) ∧ h = .bool (hi (F ++ b.take j).length)) (fun _ _ i => b.length - (intOf i).toNat)
      case atStart => exact ⟨0, Nat.zero_le _, rfl, by simp, by simp⟩
      case round =>
        obtain ⟨j, hj, rfl, rfl, rfl⟩ := hrel
        by_cases hlt2 : j < b.length
        · have hat2 : ∀ wx, (Instr.indexAt 22 u (.int .i64 (j : Int))).run Try.prog wx = .ok (.pointer (some ⟨blk u, offs u + j, none⟩)) wx := fun wx => by
            have := r.run_at (P := Try.prog) (w' := wx) bt.sl bsize (k := .i64) (i := (j : Int)) (by omega) (by omega)
            simpa using this
          have hcell2 := r.cell j hlt2
          have hs := wsum_snoc (F ++ b.take j) (byteAt b j)
          have hh := hi_succ (F ++ b.take j).length
          have hG : F ++ b.take (j + 1) = (F ++ b.take j) ++ [byteAt b j] := by rw [byte_snoc hlt2, List.append_assoc]
          have hGl : (F ++ b.take (j + 1)).length = (F ++ b.take j).length + 1 := by rw [hG, List.length_append]; rfl
          rw [← hG] at hs
          rw [← hGl] at hh
          have hb := wsum_le (F ++ b.take j) true
          have hb2 : (F ++ b.take j).length ≤ 1099511627776 := by simp; omega
          have hx := byteAt_lt b j
          have HS := Lib.hid hs
          have HH := Lib.hid hh
          clear hs hh hG hGl
          have hwb : wsum true (F ++ b.take j) ≤ 71776119061217280 := by omega
          clear hb hb2
          generalize wsum true (F ++ b.take j) = A at *
          generalize (byteAt b j).toNat = x at *
          generalize hi (F ++ b.take j).length = hb at *
          cases hb
          all_goals
            go_wp2
            go_round
            case rel => exact ⟨j + 1, by omega, by go_num, by rw [HS.out]; simp, by rw [HH.out]; rfl⟩
            case measure => simp [intOf]; omega
        · have hje : j = b.length := by omega
          subst hje
          rw [List.take_length, ← HFL.out]
          go_wp2
          go_round
          case rel => exact ⟨k + 1, by omega, by go_num, rfl, rfl⟩
          case measure => simp [intOf]; omega
    · have hke : k = ps.length := by omega
      subst hke
      rw [List.take_length]
      have hwl := wsum_le ps.flatten true
      have hwb : wsum true ps.flatten ≤ 71776119061217280 := by omega
      have hfin : sumOf ps.flatten = 65535 - red (wsum true ps.flatten) := rfl
      have HFIN := Lib.hid hfin
      clear hfin hwl
      generalize wsum true ps.flatten = A at *
      go_wp2
      go_loop [3] (fun n => ∃ m : Nat, m ≤ A ∧ n = .int .u64 (m : Nat) ∧ red m = red A) (fun n => (intOf n).toNat)
      case atStart => exact ⟨A, Nat.le_refl _, rfl, rfl⟩
      case round =>
        obtain ⟨m, hm, rfl, hr⟩ := hrel
        have HR := Lib.hid hr
        clear hr
        by_cases hgt : 65535 < m
        · have hand : bits BinOp.and IntKind.u64 (m : Int) 65535 = (m : Int) % 65536 := by
            have h := bits_and_u64_nat m 65535 (by omega) (by omega)
            rw [show m &&& 65535 = m % 65536 from Nat.and_two_pow_sub_one_eq_mod m 16] at h
            exact h
          have hrf := red_fold m
          have HRF := Lib.hid hrf
          clear hrf
          go_wp2
          go_round
          case rel => exact ⟨m / 65536 + m % 65536, by omega, by go_num, by rw [HRF.out, HR.out]⟩
          case measure => simp [intOf]; omega
        · have hfin2 : sumOf ps.flatten = 65535 - m := by rw [HFIN.out, ← HR.out, red_small (by omega)]
          have HF2 := Lib.hid hfin2
          clear hfin2
          have hsg : IntKind.u16.signed = false := rfl
          go_wp2
          go_ret
          rw [HF2.out]
          exact ⟨congrArg (fun z => Ending.returned (.int .u16 z)) (xor16 m (by omega)), rfl⟩
end Go.Proofs.Ytpididcghilbjaa
