/-
  The acts that came in. No condition.
-/
import Derived.Test.YtpididcghilbjaaLeaf
import Derived.Test.YtpididcghilbjaaCutTakes2
namespace Go.Proofs.Ytpididcghilbjaa
open Go.RowKit Go.ChangeShapes Go.WideShapes Go.ChangeAt

theorem acts_of {H : Type} {enc : TypeId × Value → H} {w : World} {base : Nat} {spare : Nat → Bool} {held : Bool} {v : Value} {f : Nat} {x : DataW H × List MemPlace} (h : DataW.trod enc Try.prog w base spare held f 42 [v] = some x) : ∃ n, ActsAt w v n := by
  obtain ⟨n, c, sl, hel⟩ := open_row (s := 4) Try.underlying42 (by kernel_rfl) (by omega) h
  refine ⟨n, c, sl, fun i hi => ?_⟩
  obtain ⟨f', y, hy⟩ := hel i hi
  obtain ⟨wh, e0, _⟩ := cell_int (d := 3) (j := 0) hy (t' := 3) (by kernel_rfl) Try.underlying3
  obtain ⟨nn, e1, _⟩ := cell_int (d := 3) (j := 1) hy (t' := 3) (by kernel_rfl) Try.underlying3
  obtain ⟨vv, e2, _⟩ := cell_int (d := 3) (j := 2) hy (t' := 34) (by kernel_rfl) Try.underlying34
  obtain ⟨f2, y2, cc, e3, h3⟩ := trod_leaf 3 (j := 3) (t' := 22) hy (by kernel_rfl)
  simp at e0 e1 e2 e3
  rcases DataW.trod_slice Try.underlying22 h3 with ⟨h4, _⟩ | ⟨a, len, cap, _, _, _, _, h4, _⟩
  · simp at h4
    exact ⟨wh, nn, vv, none, 0, 0, e0, e1, e2, by rw [e3, h4]⟩
  · simp at h4
    exact ⟨wh, nn, vv, some a, len, cap, e0, e1, e2, by rw [e3, h4]⟩
end Go.Proofs.Ytpididcghilbjaa
