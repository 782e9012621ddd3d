/-
  The calls that came in, with their bytes. No condition.
-/
import Derived.Test.YtpididcghilbjaaCutBackOpen
import Derived.Test.YtpididcghilbjaaCutLays
namespace Go.Proofs.Ytpididcghilbjaa
open Go.RowKit Go.ChangeShapes Go.WideShapes Go.ChangeAt

theorem wf_i64 {n : Int} (h : (Lit.int .i64 n).wf = true) : -9223372036854775808 ≤ n ∧ n ≤ 9223372036854775807 := by
  have := bounds_i64 h
  omega
theorem acs_of {H : Type} {enc : TypeId × Value → H} {w : World} {base : Nat} {held : Bool} {v : Value} {f : Nat} {x : DataW H × List MemPlace} (h : DataW.trod enc Try.prog w base (fun _ => true) held f 42 [v] = some x) : ∃ xs, AcsAt w v xs := by
  obtain ⟨n, c, sl, hel⟩ := open_row (s := 4) Try.underlying42 (by kernel_rfl) (by omega) h
  obtain ⟨l, hl, hp⟩ := list_of acE n (fun i x => AcOk w x ∧ c (i * 4) = .int .i64 x.wh ∧ c (i * 4 + 1) = .int .i64 x.nn ∧ c (i * 4 + 2) = .int .u32 (x.v : Int) ∧ c (i * 4 + 3) = x.b) (fun i hi => by
    obtain ⟨f', y, hy⟩ := hel i hi
    obtain ⟨wh, e0, _⟩ := cell_int (d := 3) (j := 0) hy (t' := 3) (by kernel_rfl) Try.underlying3
    obtain ⟨nn, e1, w1⟩ := cell_int (d := 3) (j := 1) hy (t' := 3) (by kernel_rfl) Try.underlying3
    obtain ⟨vv, e2, w2⟩ := cell_int (d := 3) (j := 2) hy (t' := 34) (by kernel_rfl) Try.underlying34
    obtain ⟨f2, y2, cc, e3, h3⟩ := trod_leaf 3 (j := 3) (t' := 22) hy (by kernel_rfl)
    simp at e0 e1 e2 e3
    obtain ⟨m, rfl, hm⟩ := nat_u32 w2
    obtain ⟨n0, n1⟩ := wf_i64 w1
    rcases DataW.trod_slice Try.underlying22 h3 with ⟨h4, _⟩ | ⟨a, len, cap, _, _, _, _, h4, _⟩
    · simp at h4
      subst h4
      obtain ⟨bs, hr, _⟩ := open_bytes Try.underlying22 rfl h3
      exact ⟨⟨wh, nn, m, none, 0, 0, bs⟩, ⟨hm, n0, n1, hr⟩, e0, e1, e2, e3⟩
    · simp at h4
      subst h4
      obtain ⟨bs, hr, _⟩ := open_bytes Try.underlying22 rfl h3
      exact ⟨⟨wh, nn, m, some a, len, cap, bs⟩, ⟨hm, n0, n1, hr⟩, e0, e1, e2, e3⟩)
  exact ⟨l, c, by rw [hl]; exact sl, by rw [hl]; exact hp⟩
end Go.Proofs.Ytpididcghilbjaa
