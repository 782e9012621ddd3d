/-
  The cutter's numbers of byte. Condition: as for the cutter.
-/
import Derived.Test.YtpididcghilbjaaNumber
namespace Go.Proofs.Ytpididcghilbjaa
open Go.RowKit
section
variable {w : World} {p : Nat} {sv : Value} {bs : List UInt8} {at_ : Nat} {e : Int}
set_option maxHeartbeats 1000000 in
theorem number8_any (h : Cu w p sv bs at_ e) (n : Int) (hn : n ≤ 1) :
    Calls Try.prog 42 #[.pointer (some ⟨p, 0, Option.none⟩), .int .i64 n] w fun x w' => x = .returned (.int .u8 (be (takeB bs at_ e n) : Nat)) ∧ Cu w' p sv bs (takeA bs at_ e n) (takeE bs at_ e n) ∧ Keep (One p) w w' := by
  go_enter Try.func42, Try.ntmps42
  have hlen : (takeB bs at_ e n).length ≤ 1 := by
    unfold takeB; split
    · simp; omega
    · simp
  generalize hout : takeB bs at_ e n = out at *
  have HOUT := Lib.hid hout
  clear hout
  go_wp2_with (go_at_call 19; refine (take_any h n).mono ?_; rintro x w1 ⟨v', rfl, hc, hk, hcu, hkp⟩; rw [HOUT.out] at hc; have r := hc.rd; have hl : ∀ wx, (Builtin.len_ #[22] 3 #[v']).run Try.prog wx = .ok (.int .i64 (out.length : Int)) wx := fun wx => r.run_len bt.sl)
  go_loop [5, 12] (fun s i => ∃ k : Nat, k ≤ out.length ∧ i = .int .i64 k ∧ s = .int .u32 (be (out.take k) : Nat)) (fun _ i => out.length - (intOf i).toNat)
  case atStart => exact ⟨0, Nat.zero_le _, rfl, rfl⟩
  case round =>
    obtain ⟨k, hk', rfl, rfl⟩ := hrel
    by_cases hlt : k < out.length
    · have hat : ∀ wx, (Instr.indexAt 22 v' (.int .i64 (k : Int))).run Try.prog wx = .ok (.pointer (some (adr v' k))) wx := fun wx => by
        have := r.run_at (P := Try.prog) (w' := wx) bt.sl bsize (k := .i64) (i := (k : Int)) (by omega) (by omega)
        simpa using this
      have hcell := r.cell k hlt
      have hx := byteAt_lt out k
      have hs := be_snoc (out.take k) (byteAt out k)
      rw [← take_snoc hlt] at hs
      have HS := Lib.hid hs
      have hb : be (out.take k) < 16777216 := be_small (n := 3) (by simp; omega)
      clear hs
      generalize be (out.take k) = A at *
      generalize (byteAt out k).toNat = x at *
      go_wp2
      go_round
      case rel =>
        refine ⟨k + 1, by omega, by go_num, ?_⟩
        rw [HS.out, or32 A x hb hx]
      case measure => simp [intOf]; omega
    · have hke : k = out.length := by omega
      subst hke
      rw [List.take_length]
      have hlt : be out < 256 := be_small (n := 1) hlen
      go_wp2
      go_ret
      exact ⟨rfl, hcu, hkp⟩

set_option maxHeartbeats 1000000 in
theorem byte_any (h : Cu w p sv bs at_ e) :
    Calls Try.prog 15 #[.pointer (some ⟨p, 0, Option.none⟩)] w fun x w' => x = .returned (.int .u8 (be (takeB bs at_ e 1) : Nat)) ∧ Cu w' p sv bs (takeA bs at_ e 1) (takeE bs at_ e 1) ∧ Keep (One p) w w' := by
  go_enter Try.func15, Try.ntmps15
  go_wp2_with (go_at_call 42; refine (number8_any h 1 (by omega)).mono ?_; rintro x w1 ⟨rfl, hcu, hkp⟩)
  go_ret
  exact ⟨rfl, hcu, hkp⟩
end
end Go.Proofs.Ytpididcghilbjaa
