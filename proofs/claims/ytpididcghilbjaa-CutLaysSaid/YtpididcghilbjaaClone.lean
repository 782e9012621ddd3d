/-
  slices.Clone at bytes: new bytes that read as the old ones, nothing that was there has turned. Condition: at most 2^47 - 4096 bytes.
-/
import Derived.Test.YtpididcghilbjaaBase
namespace Go.Proofs.Ytpididcghilbjaa
open Go.RowKit

theorem bt : BT Try.prog 22 5 where
  sl := Try.underlying22
  el := Try.underlying5
  info := by
    have h : (Try.prog.info? 5).map (fun i => (i.size, i.bytes, i.zero)) = some (1, 1, some (.int .u8 0)) := by kernel_rfl
    cases hi : Try.prog.info? 5 with
    | none => rw [hi] at h; cases h
    | some i => rw [hi] at h; simp at h; exact ⟨i, rfl, h.1, h.2.1, h.2.2⟩
theorem bsize : (Try.prog.info? 5).map (·.size) = some 1 := by kernel_rfl

/-- What a call that makes new bytes leaves. -/
structure Fresh (w : World) (bs : List UInt8) (v : Value) (w' : World) : Prop where
  own : Own 5 w' v bs
  keep : Keep No w w'
  since : Since w.heap.size v

theorem Fresh.rd {w w' : World} {bs : List UInt8} {v : Value} (h : Fresh w bs v w') : Rd w' v bs := h.own.rd

set_option maxHeartbeats 400000 in
theorem sclone_any (v : Value) (bs : List UInt8) (w : World) (r : Rd w v bs) (hn : bs.length ≤ 140737488351232) :
    Calls Try.prog 40 #[v] w fun e w' => ∃ v', e = .returned v' ∧ Fresh w bs v' w' ∧ isNil v' = isNil v := by
  cases hnil : isNil v with
  | true =>
    obtain ⟨rfl, rfl⟩ := r.of_nil hnil
    have hrun : ∀ wx, (binOp .eql 22 (.slice none 0 0) (.slice none 0 0)).run Try.prog wx = .ok (.bool true) wx := fun wx => r.run_isnil bt.sl
    go_enter Try.func40, Try.ntmps40
    go_wp2
    go_ret
    exact ⟨_, rfl, ⟨Own.nil _ _, Keep.refl _ _, by intro b h; simp [Value.ownBlock] at h⟩, rfl⟩
  | false =>
    have hrun : ∀ wx, (binOp .eql 22 v (.slice none 0 0)).run Try.prog wx = .ok (.bool false) wx := fun wx => by rw [← hnil]; exact r.run_isnil bt.sl
    go_enter Try.func40, Try.ntmps40
    go_wp2_with (at_builtin; refine wpList_append_b (v := .slice (some ⟨w.heap.size, 0, none⟩) 0 0) (sv := v) rfl _ _ bt rfl rfl (Own.made w [] (by simp [maxLen])) rfl (r.keep0 ((Keep.refl _ _).alloc _)) (by simpa using hn) ?_; intro v' w' hown hkeep hblk hnn)
    go_ret
    simp only [List.nil_append] at hown
    refine ⟨v', rfl, ⟨hown, ((Keep.refl No w).alloc (.cells #[] 5)).trans' hkeep (by intro i hi h; simp [Value.ownBlock] at h; omega), ?_⟩, ?_⟩
    · intro b hb
      rcases hblk with h | h <;> rw [h] at hb <;> simp [Value.ownBlock] at hb <;> omega
    · cases h : isNil v' with
      | false => rfl
      | true => have := (hnn h).1; simp [isNil] at this
end Go.Proofs.Ytpididcghilbjaa
