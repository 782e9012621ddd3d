/-
  What sums of words do, in plain numbers. No program.
-/
import Derived.Test.YtpididcghilbjaaSumMath
import Derived.Test.YtpididcghilbjaaPad
namespace Go.Proofs.Ytpididcghilbjaa

theorem sum_zero (l : List UInt8) : sumOf (l ++ [0]) = sumOf l := by
  unfold sumOf
  rw [wsum_snoc]
  simp
theorem wsum_even {a : List UInt8} (h : a.length % 2 = 0) (b : List UInt8) : wsum true (a ++ b) = wsum true a + wsum true b := by
  rw [wsum_append]
  have : hi a.length = true := by simp [hi, h]
  rw [this]; rfl
theorem wsum_bytes2 {n : Nat} (h : n < 65536) : wsum true (bytes2 n) = n := by
  simp only [bytes2, wsum, UInt8.toNat_ofNat']
  simp
  omega
theorem sum_seal {a : List UInt8} (h : a.length % 2 = 0) : sumOf (a ++ bytes2 (sumOf a)) = 0 := by
  have hs : sumOf a < 65536 := by unfold sumOf; omega
  unfold sumOf at *
  rw [wsum_even h, wsum_bytes2 hs]
  generalize wsum true a = W at *
  unfold red
  split <;> split <;> omega
theorem sum_turn {a b : List UInt8} (ha : a.length % 2 = 0) (hb : b.length % 2 = 0) : sumOf (b ++ a) = sumOf (a ++ b) := by
  unfold sumOf
  rw [wsum_even ha, wsum_even hb, Nat.add_comm]
theorem sum_lt (a : List UInt8) : sumOf a < 65536 := by unfold sumOf; omega
end Go.Proofs.Ytpididcghilbjaa
