/-
  arp: when two addresses, two messages are equal. No condition.
-/
import Derived.Test.YtpididcghilbjaaDoorLater
import Derived.Test.YtpididcghilbjaaDoorArp1
namespace Go.Proofs.YtpididcghilbjaaDoor
open Go.RowKit
section
variable (w : World) {P : Program}

def mEq6 (a0 a1 a2 a3 a4 a5 b0 b1 b2 b3 b4 b5 : Int) : Bool := a0 == b0 && a1 == b1 && a2 == b2 && a3 == b3 && a4 == b4 && a5 == b5
@[go_sem] theorem mEq6_self (a0 a1 a2 a3 a4 a5 : Int) : mEq6 a0 a1 a2 a3 a4 a5 a0 a1 a2 a3 a4 a5 = true := by simp [mEq6]
def m6 (a0 a1 a2 a3 a4 a5 : Int) (i : Nat) : Int := match i with | 0 => a0 | 1 => a1 | 2 => a2 | 3 => a3 | 4 => a4 | _ => a5
theorem eq_mac_of {t e : TypeId} {i : TypeInfo} (ht : P.underlying t = some (.array 6 e)) (hi : P.info? e = some i) (he : P.underlying e = some (.int .u8)) (hc : P.cellsOf e = 1) (d : Nat) (a0 a1 a2 a3 a4 a5 b0 b1 b2 b3 b4 b5 : Int) :
    (Op.equalIn (d + 2) t (.agg #[.int .u8 a0, .int .u8 a1, .int .u8 a2, .int .u8 a3, .int .u8 a4, .int .u8 a5]) (.agg #[.int .u8 b0, .int .u8 b1, .int .u8 b2, .int .u8 b3, .int .u8 b4, .int .u8 b5])).run P w = .ok (mEq6 a0 a1 a2 a3 a4 a5 b0 b1 b2 b3 b4 b5) w := by
  rw [run_equal_ints d ht hi he hc w _ _ (m6 a0 a1 a2 a3 a4 a5) (m6 b0 b1 b2 b3 b4 b5)]
  · simp [List.range_succ, m6, mEq6, Bool.and_assoc]
  · intro j hj
    have : j = 0 ∨ j = 1 ∨ j = 2 ∨ j = 3 ∨ j = 4 ∨ j = 5 := by omega
    rcases this with rfl | rfl | rfl | rfl | rfl | rfl <;> exact ⟨rfl, rfl⟩

/-- Equal in the first six bytes. -/
def mEq (a b : List UInt8) : Bool := mEq6 (byteAt a 0).toNat (byteAt a 1).toNat (byteAt a 2).toNat (byteAt a 3).toNat (byteAt a 4).toNat (byteAt a 5).toNat (byteAt b 0).toNat (byteAt b 1).toNat (byteAt b 2).toNat (byteAt b 3).toNat (byteAt b 4).toNat (byteAt b 5).toNat
theorem mEq_self (a : List UInt8) : mEq a a = true := mEq6_self _ _ _ _ _ _
theorem pkA_f (op fi ti : Int) (f t : List UInt8) : (pkA op fi ti f t).extract 1 7 = #[bv (byteAt f 0), bv (byteAt f 1), bv (byteAt f 2), bv (byteAt f 3), bv (byteAt f 4), bv (byteAt f 5)] := rfl
theorem pkA_t (op fi ti : Int) (f t : List UInt8) : (pkA op fi ti f t).extract 8 14 = #[bv (byteAt t 0), bv (byteAt t 1), bv (byteAt t 2), bv (byteAt t 3), bv (byteAt t 4), bv (byteAt t 5)] := rfl
set_option maxHeartbeats 1000000 in
theorem eq_pk (op op' fi fi' ti ti' : Int) (f f' t t' : List UInt8) :
    (Op.equalIn 10000 28 (.agg (pkA op fi ti f t)) (.agg (pkA op' fi' ti' f' t'))).run Tryd.prog w = .ok (op == op' && (mEq f f' && (fi == fi' && (mEq t t' && ti == ti')))) w := by
  obtain ⟨i, hi, _⟩ := bt.info
  have e1 := eq_mac_of w Tryd.underlying24 hi Tryd.underlying5 (by kernel_rfl) 9997 (byteAt f 0).toNat (byteAt f 1).toNat (byteAt f 2).toNat (byteAt f 3).toNat (byteAt f 4).toNat (byteAt f 5).toNat (byteAt f' 0).toNat (byteAt f' 1).toNat (byteAt f' 2).toNat (byteAt f' 3).toNat (byteAt f' 4).toNat (byteAt f' 5).toNat
  have e2 := eq_mac_of w Tryd.underlying24 hi Tryd.underlying5 (by kernel_rfl) 9997 (byteAt t 0).toNat (byteAt t 1).toNat (byteAt t 2).toNat (byteAt t 3).toNat (byteAt t 4).toNat (byteAt t 5).toNat (byteAt t' 0).toNat (byteAt t' 1).toNat (byteAt t' 2).toNat (byteAt t' 3).toNat (byteAt t' 4).toNat (byteAt t' 5).toNat
  change (Op.equalIn 9999 _ _ _).run _ _ = .ok (mEq f f') w at e1
  change (Op.equalIn 9999 _ _ _).run _ _ = .ok (mEq t t') w at e2
  by_cases h1 : op = op' <;> by_cases h2 : fi = fi' <;> by_cases h3 : ti = ti' <;> cases h4 : mEq f f' <;> cases h5 : mEq t t' <;> simp only [h4, h5] at e1 e2 <;> simp [go_sem, Op.eqFields, pkA_f, pkA_t, h1, h2, h3, e1, e2]
@[go_sem] theorem eq_mac23 (d : Nat) (a0 a1 a2 a3 a4 a5 b0 b1 b2 b3 b4 b5 : Int) :
    (Op.equalIn (d + 2) 23 (.agg #[.int .u8 a0, .int .u8 a1, .int .u8 a2, .int .u8 a3, .int .u8 a4, .int .u8 a5]) (.agg #[.int .u8 b0, .int .u8 b1, .int .u8 b2, .int .u8 b3, .int .u8 b4, .int .u8 b5])).run Tryd.prog w = .ok (mEq6 a0 a1 a2 a3 a4 a5 b0 b1 b2 b3 b4 b5) w := by
  obtain ⟨i, hi, _⟩ := bt.info
  exact eq_mac_of w Tryd.underlying23 hi Tryd.underlying5 (by kernel_rfl) d a0 a1 a2 a3 a4 a5 b0 b1 b2 b3 b4 b5

@[go_sem] theorem eq_mac24 (d : Nat) (a0 a1 a2 a3 a4 a5 b0 b1 b2 b3 b4 b5 : Int) :
    (Op.equalIn (d + 2) 24 (.agg #[.int .u8 a0, .int .u8 a1, .int .u8 a2, .int .u8 a3, .int .u8 a4, .int .u8 a5]) (.agg #[.int .u8 b0, .int .u8 b1, .int .u8 b2, .int .u8 b3, .int .u8 b4, .int .u8 b5])).run Tryd.prog w = .ok (mEq6 a0 a1 a2 a3 a4 a5 b0 b1 b2 b3 b4 b5) w := by
  obtain ⟨i, hi, _⟩ := bt.info
  exact eq_mac_of w Tryd.underlying24 hi Tryd.underlying5 (by kernel_rfl) d a0 a1 a2 a3 a4 a5 b0 b1 b2 b3 b4 b5


end
end Go.Proofs.YtpididcghilbjaaDoor
