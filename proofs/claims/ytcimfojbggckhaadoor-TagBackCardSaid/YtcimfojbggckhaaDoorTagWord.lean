/-
  A tag's word and back; tags that are the same are equal. Condition: the numbers are of their kinds.
-/
import Derived.Test.YtcimfojbggckhaaDoorTagMay
import Derived.Test.YtcimfojbggckhaaDoorLater
namespace Go.Proofs.YtcimfojbggckhaaDoor
open Go.RowKit

/-- A tag's second half. -/
def wordN (t : Tg) : Nat := t.p * 8192 + ((if t.d then 4096 else 0) + t.v)
/-- The tag of a kind and a second half. -/
def tgN (k n : Nat) : Tg := ⟨k, n / 8192, n / 4096 % 2 == 1, n % 4096⟩
theorem wordN_lt {t : Tg} (hp : t.p < 8) (hv : t.v ≤ 4095) : wordN t < 65536 := by unfold wordN; split <;> omega
theorem tgN_word {t : Tg} (hp : t.p < 8) (hv : t.v ≤ 4095) : tgN t.k (wordN t) = t := by
  obtain ⟨k, p, d, v⟩ := t
  simp only at hp hv
  cases d
  · have e : wordN ⟨k, p, false, v⟩ = p * 8192 + v := by simp [wordN]
    simp only [tgN, e, Tg.mk.injEq, true_and]
    exact ⟨by omega, by simp; omega, by omega⟩
  · have e : wordN ⟨k, p, true, v⟩ = p * 8192 + (4096 + v) := by simp [wordN]
    simp only [tgN, e, Tg.mk.injEq, true_and]
    exact ⟨by omega, by simp; omega, by omega⟩
theorem u16_nat {n : Nat} (h : n < 65536) : IntKind.u16.wrap (n : Int) = (n : Int) := IntWalk.u16_in _ (by omega)
theorem or16_nat {a b : Nat} (ha : a < 65536) (hb : b < 65536) : or16 a b = ((a ||| b : Nat) : Int) := by
  unfold or16
  rw [BitVec.toNat_or]
  have e1 : (BitVec.ofInt 16 (a : Int)).toNat = a := by simp; omega
  have e2 : (BitVec.ofInt 16 (b : Int)).toNat = b := by simp; omega
  rw [e1, e2]
  exact u16_nat (Nat.or_lt_two_pow (n := 16) ha hb)
theorem and16_nat {a b : Nat} (ha : a < 65536) (hb : b < 65536) : and16 a b = ((a &&& b : Nat) : Int) := by
  unfold and16
  rw [BitVec.toNat_and]
  have e1 : (BitVec.ofInt 16 (a : Int)).toNat = a := by simp; omega
  have e2 : (BitVec.ofInt 16 (b : Int)).toNat = b := by simp; omega
  rw [e1, e2]
  exact u16_nat (Nat.lt_of_le_of_lt Nat.and_le_left ha)
theorem wordR_nat {t : Tg} (hp : t.p < 8) (hv : t.v ≤ 4095) : wordR t.p t.d t.v = (wordN t : Int) := by
  obtain ⟨k, p, d, v⟩ := t
  simp only at hp hv
  have e0 : IntKind.u16.wrap (IntKind.u16.wrap (p : Int) * 2 ^ 13) = ((p * 8192 : Nat) : Int) := by
    rw [u16_nat (by omega), show ((p : Int) * 2 ^ 13) = ((p * 8192 : Nat) : Int) from by rw [Int.natCast_mul]; rfl, u16_nat (by omega)]
  have e1 : or16 ((p * 8192 : Nat) : Int) (v : Int) = ((p * 8192 + v : Nat) : Int) := by
    rw [or16_nat (by omega) (by omega)]
    have := Nat.shiftLeft_add_eq_or_of_lt (i := 13) (show v < 2 ^ 13 by omega) p
    rw [Nat.shiftLeft_eq] at this
    rw [show p * 8192 ||| v = p * 8192 + v from this.symm]
  cases d
  · simp only [wordR, Bool.false_eq_true, if_false, e0, e1, wordN, Nat.zero_add]
  · have e2 : or16 ((p * 8192 + v : Nat) : Int) 4096 = ((p * 8192 + (4096 + v) : Nat) : Int) := by
      rw [show (4096 : Int) = ((4096 : Nat) : Int) from rfl, or16_nat (by omega) (by omega)]
      have h1 := Nat.shiftLeft_add_eq_or_of_lt (i := 13) (show v < 2 ^ 13 by omega) p
      have h2 := Nat.shiftLeft_add_eq_or_of_lt (i := 12) (show v < 2 ^ 12 by omega) 1
      have h3 := Nat.shiftLeft_add_eq_or_of_lt (i := 13) (show 4096 + v < 2 ^ 13 by omega) p
      rw [Nat.shiftLeft_eq] at h1 h2 h3
      have h4 : p * 8192 + v = p * 8192 ||| v := h1
      have h5 : 4096 + v = 4096 ||| v := by simpa using h2
      have h6 : p * 8192 + (4096 + v) = p * 8192 ||| (4096 + v) := h3
      rw [h6, h4, h5, Nat.or_assoc, Nat.or_comm v 4096]
    simp only [wordR, if_true, e0, e1, wordN]
    exact e2
theorem ofR_nat {k n : Nat} (hn : n < 65536) : ofR k n = (tgN k n).a := by
  have e1 : Int.fdiv (n : Int) (2 ^ 13) = ((n / 8192 : Nat) : Int) := by
    rw [Int.fdiv_eq_ediv_of_nonneg _ (by decide)]; rfl
  have e2 : Int.fdiv (n : Int) (2 ^ 12) = ((n / 4096 : Nat) : Int) := by
    rw [Int.fdiv_eq_ediv_of_nonneg _ (by decide)]; rfl
  have e3 : and16 ((n / 4096 : Nat) : Int) 1 = ((n / 4096 % 2 : Nat) : Int) := by
    rw [show (1 : Int) = ((1 : Nat) : Int) from rfl, and16_nat (by omega) (by omega)]
    have := Nat.and_two_pow_sub_one_eq_mod (n / 4096) 1
    rw [show n / 4096 &&& 1 = n / 4096 % 2 from this]
  have e4 : and16 (n : Int) 4095 = ((n % 4096 : Nat) : Int) := by
    rw [show (4095 : Int) = ((4095 : Nat) : Int) from rfl, and16_nat (by omega) (by omega)]
    have := Nat.and_two_pow_sub_one_eq_mod n 12
    rw [show n &&& 4095 = n % 4096 from this]
  have e5 : IntKind.u8.wrap ((n / 8192 : Nat) : Int) = ((n / 8192 : Nat) : Int) := IntWalk.u8_in _ (by omega)
  unfold ofR Tg.a tgN
  rw [e1, e2, e3, e4, e5]
  have e6 : (((n / 4096 % 2 : Nat) : Int) == 1) = (n / 4096 % 2 == 1) := by
    have : n / 4096 % 2 = 0 ∨ n / 4096 % 2 = 1 := by omega
    rcases this with h | h <;> rw [h] <;> rfl
  rw [e6]

section
variable (w : World)
theorem eq_tg (t : Tg) : (Op.equalIn 10000 57 (.agg t.a) (.agg t.a)).run Tryd.prog w = .ok true w := by
  simp [go_sem, Op.eqFields, tgA]
theorem eq_rtg (t : Tg) : (Op.equalIn 10000 72 (.agg t.a) (.agg t.a)).run Tryd.prog w = .ok true w := by
  simp [go_sem, Op.eqFields, tgA]
theorem neq_tg (x y : Operand) (t : Tg) : (do eqGuard .neq 57 x y (.agg t.a) (.agg t.a); binOp .neq 57 (.agg t.a) (.agg t.a) : Sem Value).run Tryd.prog w = .ok (.bool false) w := by
  have h4 : (eqGuard .neq 57 x y (.agg t.a) (.agg t.a)).run Tryd.prog w = .ok () w := aRun_none (l := []) (by kernel_rfl)
  simp only [Sem.run_bind, h4, Result.andThen_ok]
  rw [run_neq_struct, eq_tg]
  simp
theorem nbin_tg (t : Tg) : (binOp .neq 57 (.agg t.a) (.agg t.a) : Sem Value).run Tryd.prog w = .ok (.bool false) w := by
  rw [run_neq_struct, eq_tg]
  simp
theorem ebin_tg (t : Tg) : (binOp .eql 57 (.agg t.a) (.agg t.a) : Sem Value).run Tryd.prog w = .ok (.bool true) w := by
  rw [run_eql_struct, eq_tg]
  simp
theorem nbin_rtg (t : Tg) : (binOp .neq 72 (.agg t.a) (.agg t.a) : Sem Value).run Tryd.prog w = .ok (.bool false) w := by
  rw [run_neq_struct, eq_rtg]
  simp
end
end Go.Proofs.YtcimfojbggckhaaDoor
