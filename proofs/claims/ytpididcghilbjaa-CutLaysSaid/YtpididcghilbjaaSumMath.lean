/-
  The sum of words, in plain numbers. No program.
-/
import Derived.Test.YtpididcghilbjaaBase
namespace Go.Proofs.Ytpididcghilbjaa

/-- What words add up to; h: is the next byte a high one? -/
def wsum : Bool → List UInt8 → Nat
  | _, [] => 0
  | h, x :: r => (if h then x.toNat * 256 else x.toNat) + wsum (!h) r
/-- Is the byte behind so many a high one? -/
def hi (n : Nat) : Bool := n % 2 == 0
theorem hi_succ (n : Nat) : hi (n + 1) = !hi n := by
  unfold hi
  have : n % 2 = 0 ∨ n % 2 = 1 := by omega
  rcases this with h | h
  · rw [h, show (n + 1) % 2 = 1 by omega]; rfl
  · rw [h, show (n + 1) % 2 = 0 by omega]; rfl
theorem wsum_append : ∀ (a b : List UInt8) (h : Bool), wsum h (a ++ b) = wsum h a + wsum (h == hi a.length) b
  | [], b, h => by simp [wsum, hi]
  | x :: a, b, h => by
    simp only [List.cons_append, wsum, wsum_append a b, List.length_cons, hi_succ]
    have : ((!h) == hi a.length) = (h == !hi a.length) := by cases h <;> cases hi a.length <;> rfl
    rw [this]; omega
theorem wsum_snoc (a : List UInt8) (x : UInt8) : wsum true (a ++ [x]) = wsum true a + (if hi a.length then x.toNat * 256 else x.toNat) := by
  rw [wsum_append]; simp [wsum]
theorem wsum_le : ∀ (a : List UInt8) (h : Bool), wsum h a ≤ 65280 * a.length
  | [], h => by simp [wsum]
  | x :: a, h => by
    have := wsum_le a (!h)
    have hx := x.toNat_lt
    simp only [wsum, List.length_cons]
    split <;> omega
/-- What goes over 16 bits is added at the low end, until nothing does. -/
def red (n : Nat) : Nat := if n = 0 then 0 else (n - 1) % 65535 + 1
theorem red_small {n : Nat} (h : n ≤ 65535) : red n = n := by
  unfold red
  split
  · omega
  · rw [Nat.mod_eq_of_lt (by omega)]; omega
theorem red_le (n : Nat) : red n ≤ 65535 := by
  unfold red; split
  · omega
  · have := Nat.mod_lt (n - 1) (show 65535 > 0 by omega); omega
theorem red_fold (n : Nat) : red (n / 65536 + n % 65536) = red n := by
  unfold red
  split <;> split <;> omega
/-- The document's sum of words. -/
def sumOf (l : List UInt8) : Nat := 65535 - red (wsum true l)
end Go.Proofs.Ytpididcghilbjaa
