/-
  The things that came in. No condition.
-/
import Derived.Test.YtpididcghilbjaaLeaf
import Derived.Test.YtpididcghilbjaaCutBack
namespace Go.Proofs.Ytpididcghilbjaa
open Go.RowKit Go.ChangeShapes Go.WideShapes Go.ChangeAt

theorem nat_u8 {n : Int} (h : (Lit.int .u8 n).wf = true) : ∃ k : Nat, n = (k : Int) ∧ k < 256 := by
  have := wf_u8 h
  exact ⟨n.toNat, by omega, by omega⟩
theorem nat_u32 {n : Int} (h : (Lit.int .u32 n).wf = true) : ∃ k : Nat, n = (k : Int) ∧ k < 4294967296 := by
  have := bounds_u32 h
  exact ⟨n.toNat, by omega, by omega⟩
theorem list_of {α : Type} (d : α) : ∀ (n : Nat) (P : Nat → α → Prop), (∀ i, i < n → ∃ a, P i a) → ∃ l : List α, l.length = n ∧ ∀ i, i < n → P i (l.getD i d)
  | 0, _, _ => ⟨[], rfl, fun _ h => by omega⟩
  | n + 1, P, h => by
    obtain ⟨a, ha⟩ := h 0 (by omega)
    obtain ⟨l, hl, hp⟩ := list_of d n (fun i => P (i + 1)) (fun i hi => h (i + 1) (by omega))
    refine ⟨a :: l, by simp [hl], fun i hi => ?_⟩
    cases i with
    | zero => exact ha
    | succ i => exact hp i (by omega)
theorem things_of {H : Type} {enc : TypeId × Value → H} {w : World} {base : Nat} {held : Bool} {v : Value} {f : Nat} {x : DataW H × List MemPlace} (h : DataW.trod enc Try.prog w base (fun _ => true) held f 59 [v] = some x) : ∃ xs, ThsAt w v xs := by
  obtain ⟨n, c, sl, hel⟩ := open_row (s := 3) Try.underlying59 (by kernel_rfl) (by omega) h
  obtain ⟨l, hl, hp⟩ := list_of thE n (fun i x => ThOk w x ∧ c (i * 3) = .int .u8 (x.kd : Int) ∧ c (i * 3 + 1) = .int .u32 (x.v : Int) ∧ c (i * 3 + 2) = x.b) (fun i hi => by
    obtain ⟨f', y, hy⟩ := hel i hi
    obtain ⟨kd, e0, w0⟩ := cell_int (d := 3) (j := 0) hy (t' := 5) (by kernel_rfl) Try.underlying5
    obtain ⟨vv, e1, w1⟩ := cell_int (d := 3) (j := 1) hy (t' := 34) (by kernel_rfl) Try.underlying34
    obtain ⟨f2, y2, cc, e3, h3⟩ := trod_leaf 3 (j := 2) (t' := 22) hy (by kernel_rfl)
    simp at e0 e1 e3
    obtain ⟨k, rfl, hk⟩ := nat_u8 w0
    obtain ⟨m, rfl, hm⟩ := nat_u32 w1
    rcases DataW.trod_slice Try.underlying22 h3 with ⟨h4, _⟩ | ⟨a, len, cap, _, _, _, _, h4, _⟩
    · simp at h4
      subst h4
      obtain ⟨bs, hr, _⟩ := open_bytes Try.underlying22 rfl h3
      exact ⟨⟨k, m, none, 0, 0, bs⟩, ⟨hk, hm, hr⟩, e0, e1, e3⟩
    · simp at h4
      subst h4
      obtain ⟨bs, hr, _⟩ := open_bytes Try.underlying22 rfl h3
      exact ⟨⟨k, m, some a, len, cap, bs⟩, ⟨hk, hm, hr⟩, e0, e1, e3⟩)
  exact ⟨l, c, by rw [hl]; exact sl, by rw [hl]; exact hp⟩
end Go.Proofs.Ytpididcghilbjaa
