/-
  The cutter's numbers: what Byte, Two, Four and Mac tell. Condition: as for the cutter.
-/
import Derived.Test.YtpididcghilbjaaCut
namespace Go.Proofs.Ytpididcghilbjaa
open Go.RowKit

/-- The number of bytes, the highest first. -/
def be (l : List UInt8) : Nat := l.foldl (fun n x => n * 256 + x.toNat) 0
theorem be_snoc (l : List UInt8) (x : UInt8) : be (l ++ [x]) = be l * 256 + x.toNat := by simp [be]
theorem be_lt_aux : ∀ (l : List UInt8) (a m : Nat), a < m → l.foldl (fun n x => n * 256 + x.toNat) a < m * 256 ^ l.length
  | [], a, m, h => by simpa using h
  | x :: l, a, m, h => by
    have hx := x.toNat_lt
    have := be_lt_aux l (a * 256 + x.toNat) (m * 256) (by omega)
    simp only [List.foldl_cons, List.length_cons, Nat.pow_succ']
    rw [← Nat.mul_assoc]; exact this
theorem be_lt (l : List UInt8) : be l < 256 ^ l.length := by simpa [be] using be_lt_aux l 0 1 (by omega)
theorem be_small {l : List UInt8} {n : Nat} (h : l.length ≤ n) : be l < 256 ^ n := Nat.lt_of_lt_of_le (be_lt l) (Nat.pow_le_pow_right (by omega) h)
theorem take_snoc {l : List UInt8} {k : Nat} (h : k < l.length) : l.take (k + 1) = l.take k ++ [byteAt l k] := by
  rw [List.take_succ_eq_append_getElem h, byteAt_eq h]

theorem or32 (A x : Nat) (hA : A < 16777216) (hx : x < 256) : bits BinOp.or IntKind.u32 ((A : Int) * 256) (x : Int) = ((A * 256 + x : Nat) : Int) := by
  have e : A * 256 + x = A * 256 ||| x := by
    have := Nat.shiftLeft_add_eq_or_of_lt (i := 8) (b := x) (by omega) A
    simpa [Nat.shiftLeft_eq] using this
  have h1 : (BitVec.ofInt 32 ((A : Int) * 256)).toNat = A * 256 := by
    rw [show (A : Int) * 256 = ((A * 256 : Nat) : Int) from rfl, BitVec.ofInt_natCast, BitVec.toNat_ofNat]; exact Nat.mod_eq_of_lt (by omega)
  have h2 : (BitVec.ofInt 32 (x : Int)).toNat = x := by
    rw [BitVec.ofInt_natCast, BitVec.toNat_ofNat]; exact Nat.mod_eq_of_lt (by omega)
  show IntKind.u32.wrap ((BitVec.ofInt 32 ((A : Int) * 256) ||| BitVec.ofInt 32 (x : Int)).toNat : Int) = _
  rw [BitVec.toNat_or, h1, h2, ← e, IntKind.wrap_u32]
  omega

end Go.Proofs.Ytpididcghilbjaa
