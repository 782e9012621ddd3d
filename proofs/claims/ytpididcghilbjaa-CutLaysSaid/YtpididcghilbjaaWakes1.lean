/-
  tolllaw01.wakes is true, and turns nothing that was there. No condition.
-/
import Derived.Test.YtpididcghilbjaaCutMore
import Derived.Test.YtpididcghilbjaaNum32
import Derived.Test.YtpididcghilbjaaNum16
import Derived.Test.YtpididcghilbjaaNum8
import Derived.Test.YtpididcghilbjaaSum
namespace Go.Proofs.Ytpididcghilbjaa
open Go.RowKit

theorem Parts.one {w : World} {v : Value} {b : List UInt8} (r : Rd w v b) (t : TypeId) : Parts (w.alloc (.cells #[v] t)) (.slice (some ⟨w.heap.size, 0, none⟩) 1 1) [b] := by
  refine ⟨fun _ => v, ⟨⟨some ⟨w.heap.size, 0, none⟩, 1, rfl, by simp, by simp [maxLen], by simp, fun _ => ⟨_, _, rfl⟩⟩, ?_⟩, ?_⟩
  · intro j hj
    have : j = 0 := by simp at hj; omega
    subst this
    exact cell_new w #[v] t 0
  · intro i hi
    have : i = 0 := by simp at hi; omega
    subst this
    exact r.keep0 ((Keep.refl _ _).alloc _)
theorem Parts.two {w : World} {v u : Value} {b c : List UInt8} (r : Rd w v b) (s : Rd w u c) (t : TypeId) : Parts (w.alloc (.cells #[v, u] t)) (.slice (some ⟨w.heap.size, 0, none⟩) 2 2) [b, c] := by
  refine ⟨fun j => if j = 0 then v else u, ⟨⟨some ⟨w.heap.size, 0, none⟩, 2, rfl, by simp, by simp [maxLen], by simp, fun _ => ⟨_, _, rfl⟩⟩, ?_⟩, ?_⟩
  · intro j hj
    have : j = 0 ∨ j = 1 := by simp at hj; omega
    rcases this with rfl | rfl
    · exact cell_new w #[v, u] t 0
    · exact cell_new w #[v, u] t 1
  · intro i hi
    have : i = 0 ∨ i = 1 := by simp at hi; omega
    rcases this with rfl | rfl
    · exact r.keep0 ((Keep.refl _ _).alloc _)
    · exact s.keep0 ((Keep.refl _ _).alloc _)

theorem Parts.keep0 {w w' : World} {v : Value} {ps : List (List UInt8)} (h : Parts w v ps) (k : Keep No w w') : Parts w' v ps := by
  obtain ⟨pv, sl, rd⟩ := h
  exact ⟨pv, sl.keep0 k, fun i hi => (rd i hi).keep0 k⟩

set_option maxHeartbeats 400000 in
theorem wakes_any (w : World) :
    Calls Try.prog 14 #[] w fun x w' => x = .returned (.bool true) ∧ Keep No w w' := by
  go_enter Try.func14, Try.ntmps14
  have r0 : Rd (w.alloc (.cells #[.int .u8 1, .int .u8 2, .int .u8 3] 5)) (.slice (some ⟨w.heap.size, 0, none⟩) 3 3) [1, 2, 3] := (Own.made (e := 5) w [1, 2, 3] (by simp [maxLen])).rd
  go_wp2_with fail
  refine (new_any r0 (by simp)).mono ?_
  rintro x w1 ⟨p, sv, rfl, h0, k0, hp, _⟩
  go_wp2_with fail
  refine (two_any h0).mono ?_
  rintro x w2 ⟨rfl, h1, k1⟩
  rw [show be (takeB [1, 2, 3] 0 0 2) = 258 from rfl]
  change Cu w2 p sv [1, 2, 3] 2 0 at h1
  go_wp2_with fail
  refine (two_any h1).mono ?_
  rintro x w3 ⟨rfl, h2, k2⟩
  rw [show be (takeB [1, 2, 3] 2 0 2) = 0 from rfl]
  change Cu w3 p sv [1, 2, 3] 2 4 at h2
  go_wp2_with fail
  refine (byte_any h2).mono ?_
  rintro x w4 ⟨rfl, h3, k3⟩
  rw [show be (takeB [1, 2, 3] 2 4 1) = 0 from rfl]
  change Cu w4 p sv [1, 2, 3] 2 4 at h3
  go_wp2_with fail
  refine (err_any h3).mono ?_
  rintro x w5 ⟨rfl, rfl⟩
  have r1 : Rd (w4.alloc (.cells #[.int .u8 0, .int .u8 1, .int .u8 242, .int .u8 3, .int .u8 244, .int .u8 245, .int .u8 246, .int .u8 247] 5)) (.slice (some ⟨w4.heap.size, 0, none⟩) 8 8) [0, 1, 0xf2, 3, 0xf4, 0xf5, 0xf6, 0xf7] := (Own.made (e := 5) w4 [0, 1, 0xf2, 3, 0xf4, 0xf5, 0xf6, 0xf7] (by simp [maxLen])).rd
  have r2 := Parts.one r1 22
  simp only [World.size_alloc] at r2
  go_wp2_with fail
  refine (sum_any r2 (by simp) (by simp)).mono ?_
  rintro x w6 ⟨rfl, rfl⟩
  rw [show sumOf [[0, 1, 0xf2, 3, 0xf4, 0xf5, 0xf6, 0xf7]].flatten = 8717 from rfl]
  go_wp2_with fail
  go_ret
  refine ⟨rfl, ?_⟩
  have ka : Keep No w (w.alloc (.cells (bvs [1, 2, 3]).toArray 5)) := (Keep.refl _ _).alloc _
  have kb := (((ka.trans k0).trans' k1 (by intro i hi (h : i = p); simp at hp; omega)).trans' k2 (by intro i hi (h : i = p); simp at hp; omega)).trans' k3 (by intro i hi (h : i = p); simp at hp; omega)
  exact (kb.alloc _).alloc _
end Go.Proofs.Ytpididcghilbjaa
