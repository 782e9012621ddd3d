/-
  The cutter's Skip, Rest and At. Condition: as for the cutter.
-/
import Derived.Test.YtpididcghilbjaaCut
namespace Go.Proofs.Ytpididcghilbjaa
open Go.RowKit
section
variable {w : World} {p : Nat} {sv : Value} {bs : List UInt8} {at_ : Nat} {e : Int}
set_option maxHeartbeats 1000000 in
theorem skip_any (h : Cu w p sv bs at_ e) (n : Int) :
    Calls Try.prog 10 #[.pointer (some ⟨p, 0, Option.none⟩), .int .i64 n] w fun x w' => x = .returned (.tuple #[]) ∧ Cu w' p sv bs (takeA bs at_ e n) (takeE bs at_ e n) ∧ Keep (One p) w w' := by
  go_enter Try.func10, Try.ntmps10
  go_wp2_with (go_at_call 19; refine (take_any h n).mono ?_; rintro x w1 ⟨v', rfl, hc, hk, hcu, hkp⟩)
  go_end0
  exact ⟨rfl, hcu, hkp⟩

set_option maxHeartbeats 1000000 in
theorem rest_any (h : Cu w p sv bs at_ e) :
    Calls Try.prog 20 #[.pointer (some ⟨p, 0, Option.none⟩)] w fun x w' => ∃ v, x = .returned v ∧ Took w p sv bs (takeA bs at_ e (leftR bs at_ e)) (takeE bs at_ e (leftR bs at_ e)) (takeB bs at_ e (leftR bs at_ e)) v w' := by
  go_enter Try.func20, Try.ntmps20
  go_wp2_with (first | (go_at_call 13; refine (left_any h).mono ?_; rintro x w1 ⟨rfl, nd, rfl⟩) | (go_at_call 19; refine (take_any (h.keep0 ((Keep.refl _ _).drewN _)) _).mono ?_; rintro x w1 ⟨v', rfl, hc, hk, hcu, hkp⟩))
  go_ret
  exact ⟨v', rfl, hc, hk, hcu, ((Keep.refl _ _).drewN _).trans hkp⟩

set_option maxHeartbeats 1000000 in
theorem at_any (h : Cu w p sv bs at_ e) :
    Calls Try.prog 21 #[.pointer (some ⟨p, 0, Option.none⟩)] w fun x w' => x = .returned (.int .i64 (at_ : Int)) ∧ w = w' := by
  have h1 := h.c1
  go_enter Try.func21, Try.ntmps21
  go_wp2_with (go_at_call 41; refine (cnone_any h.c3).mono ?_; rintro e w' ⟨rfl, rfl⟩)
  go_ret
  exact ⟨rfl, rfl⟩
end
end Go.Proofs.Ytpididcghilbjaa
