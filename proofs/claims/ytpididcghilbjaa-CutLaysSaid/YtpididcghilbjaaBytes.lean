/-
  bytes.Clone and bytes.Equal, and bytes as strings. Condition: the slices read as bytes.
-/
import Derived.Test.YtpididcghilbjaaClone
import Derived.Laws.BytesArg
namespace Go.Proofs.Ytpididcghilbjaa
open Go.RowKit

/-- A list of bytes as a string, kept shut for the walk. -/
def str (l : List UInt8) : ByteArray := ⟨l.toArray⟩
theorem str_nums (l : List UInt8) : strOfNums (l.map fun x => (x.toNat : Int)) = str l := by
  unfold strOfNums str
  congr 2
  rw [List.map_map]
  conv => rhs; rw [← List.map_id l]
  apply List.map_congr_left
  intro x _
  simp
@[simp, go_sem] theorem str_list (l : List UInt8) : (str l).toList = l := by simp [str, ByteArray.toList_eq]
@[simp, go_sem] theorem str_size (l : List UInt8) : (str l).size = l.length := by simp [str, ByteArray.size]
section
variable {P : Program} {w : World} {v : Value} {bs : List UInt8}
theorem Rd.run_str (r : Rd w v bs) {t e dst : TypeId} (T : BT P t e) (hd : P.underlying dst = some .string) : (convert t dst v).run P w = .ok (.string (str bs)) w := by
  obtain ⟨ao, cap, rfl, hc, hm, hn, hb⟩ := r.shape
  rcases Nat.eq_zero_or_pos bs.length with h0 | h0
  · have hbs : bs = [] := List.length_eq_zero_iff.1 h0
    subst hbs
    cases ao with
    | none => rw [run_convert_bytes_nil w t e T.sl T.el _ _ dst hd]; rfl
    | some a =>
      rw [run_convert_bytes_string w t dst e _ _ cap T.sl T.el hd, run_bytesToString w _ _ cap [] (by rfl)]
      rfl
  · obtain ⟨b, o, rfl⟩ := hb h0
    rw [run_convert_bytes_arg w t e T.sl T.el b o _ cap (bs.map fun x => (x.toNat : Int)) (by simp) (fun i hi => by
      have := r.cell i hi
      simp only [blk, offs] at this
      rw [this]
      simp [byteAt, hi]) dst hd, str_nums]
end

set_option maxHeartbeats 400000 in
theorem bclone_any (v : Value) (bs : List UInt8) (w : World) (r : Rd w v bs) (hn : bs.length ≤ 140737488351232) :
    Calls Try.prog 22 #[v] w fun e w' => ∃ v', e = .returned v' ∧ Fresh w bs v' w' ∧ isNil v' = isNil v := by
  cases hnil : isNil v with
  | true =>
    obtain ⟨rfl, rfl⟩ := r.of_nil hnil
    have hrun : ∀ wx, (binOp .eql 22 (.slice none 0 0) (.slice none 0 0)).run Try.prog wx = .ok (.bool true) wx := fun wx => r.run_isnil bt.sl
    go_enter Try.func22, Try.ntmps22
    go_wp2
    go_ret
    exact ⟨_, rfl, ⟨Own.nil _ _, Keep.refl _ _, by intro b h; simp [Value.ownBlock] at h⟩, rfl⟩
  | false =>
    have hrun : ∀ wx, (binOp .eql 22 v (.slice none 0 0)).run Try.prog wx = .ok (.bool false) wx := fun wx => by rw [← hnil]; exact r.run_isnil bt.sl
    go_enter Try.func22, Try.ntmps22
    go_wp2_with (at_builtin; refine wpList_append_b (v := .slice (some ⟨w.heap.size, 0, none⟩) 0 0) (sv := v) rfl _ _ bt rfl rfl (Own.made w [] (by simp [maxLen])) rfl (r.keep0 ((Keep.refl _ _).alloc _)) (by simpa using hn) ?_; intro v' w' hown hkeep hblk hnn)
    go_ret
    simp only [List.nil_append] at hown
    refine ⟨v', rfl, ⟨hown, ((Keep.refl No w).alloc (.cells #[] 5)).trans' hkeep (by intro i hi h; simp [Value.ownBlock] at h; omega), ?_⟩, ?_⟩
    · intro b hb
      rcases hblk with h | h <;> rw [h] at hb <;> simp [Value.ownBlock] at hb <;> omega
    · cases h : isNil v' with
      | false => rfl
      | true => have := (hnn h).1; simp [isNil] at this

set_option maxHeartbeats 400000 in
theorem bequal_any {u v : Value} {xs bs : List UInt8} {w : World} (r : Rd w u xs) (s : Rd w v bs) :
    Calls Try.prog 25 #[u, v] w fun e w' => e = .returned (.bool (xs == bs)) ∧ w = w' := by
  have hd : Try.prog.underlying 9 = some .string := Try.underlying9
  have h1 := r.run_str (dst := 9) bt hd
  have h2 := s.run_str (dst := 9) bt hd
  go_enter Try.func25, Try.ntmps25
  go_wp2
  go_ret
  exact ⟨rfl, rfl⟩
end Go.Proofs.Ytpididcghilbjaa
