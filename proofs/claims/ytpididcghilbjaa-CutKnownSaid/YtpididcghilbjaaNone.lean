/-
  Calls of a cutter or a pad that is none, or that New or Lay did not make. No condition.
-/
import Derived.Test.YtpididcghilbjaaCutMore
import Derived.Test.YtpididcghilbjaaNum16
import Derived.Test.YtpididcghilbjaaNum8
import Derived.Test.YtpididcghilbjaaPadMore
namespace Go.Proofs.Ytpididcghilbjaa
open Go.RowKit
/-- v is no cutter that New made. -/
def NoC (w : World) (v : Value) : Prop := v = .pointer none ∨ ∃ b, v = .pointer (some ⟨b, 0, none⟩) ∧ w.cell? ⟨b, 3, none⟩ = some (.bool false)
def NoP (w : World) (v : Value) : Prop := v = .pointer none ∨ ∃ b, v = .pointer (some ⟨b, 0, none⟩) ∧ w.cell? ⟨b, 1, none⟩ = some (.bool false)
theorem NoC.keep0 {w w' : World} {v : Value} (h : NoC w v) (k : Keep No w w') : NoC w' v := by
  rcases h with h | ⟨b, h, hc⟩
  · exact .inl h
  · exact .inr ⟨b, h, k.cell hc (fun f => f)⟩
theorem NoP.keep0 {w w' : World} {v : Value} (h : NoP w v) (k : Keep No w w') : NoP w' v := by
  rcases h with h | ⟨b, h, hc⟩
  · exact .inl h
  · exact .inr ⟨b, h, k.cell hc (fun f => f)⟩
section
variable {w : World} {v : Value}
set_option maxHeartbeats 400000 in
theorem cnone_no (h : NoC w v) : Calls Try.prog 41 #[v] w fun e w' => e = .returned (.bool true) ∧ w = w' := by
  rcases h with rfl | ⟨b, rfl, hc⟩
  · go_enter Try.func41, Try.ntmps41
    go_wp2
    go_ret
    exact ⟨rfl, rfl⟩
  · go_enter Try.func41, Try.ntmps41
    go_wp2
    go_ret
    exact ⟨rfl, rfl⟩
set_option maxHeartbeats 400000 in
theorem pnone_no (h : NoP w v) : Calls Try.prog 45 #[v] w fun e w' => e = .returned (.bool true) ∧ w = w' := by
  rcases h with rfl | ⟨b, rfl, hc⟩
  · go_enter Try.func45, Try.ntmps45
    go_wp2
    go_ret
    exact ⟨rfl, rfl⟩
  · go_enter Try.func45, Try.ntmps45
    go_wp2
    go_ret
    exact ⟨rfl, rfl⟩
set_option maxHeartbeats 400000 in
theorem err_no (h : NoC w v) : Calls Try.prog 12 #[v] w fun e w' => e = .returned (.int .i64 2) ∧ w = w' := by
  go_enter Try.func12, Try.ntmps12
  go_wp2_with fail
  refine (cnone_no h).mono ?_
  rintro x w1 ⟨rfl, rfl⟩
  go_wp2_with fail
  go_ret
  exact ⟨rfl, rfl⟩
set_option maxHeartbeats 400000 in
theorem fail_no (h : NoC w v) (n : Int) : Calls Try.prog 11 #[v, .int .i64 n] w fun e w' => e = .returned (.tuple #[]) ∧ w = w' := by
  go_enter Try.func11, Try.ntmps11
  go_wp2_with fail
  refine (cnone_no h).mono ?_
  rintro x w1 ⟨rfl, rfl⟩
  go_wp2_with fail
  go_end0
  exact ⟨rfl, rfl⟩
set_option maxHeartbeats 400000 in
theorem left_no (h : NoC w v) : Calls Try.prog 13 #[v] w fun e w' => e = .returned (.int .i64 0) ∧ w = w' := by
  go_enter Try.func13, Try.ntmps13
  go_wp2_with fail
  refine (err_no h).mono ?_
  rintro x w1 ⟨rfl, rfl⟩
  go_wp2_with fail
  go_ret
  exact ⟨rfl, rfl⟩
set_option maxHeartbeats 400000 in
theorem at_no (h : NoC w v) : Calls Try.prog 21 #[v] w fun e w' => e = .returned (.int .i64 0) ∧ w = w' := by
  go_enter Try.func21, Try.ntmps21
  go_wp2_with fail
  refine (cnone_no h).mono ?_
  rintro x w1 ⟨rfl, rfl⟩
  go_wp2_with fail
  go_ret
  exact ⟨rfl, rfl⟩
set_option maxHeartbeats 400000 in
theorem take_no (h : NoC w v) (n : Int) : Calls Try.prog 19 #[v, .int .i64 n] w fun e w' => e = .returned (.slice none 0 0) ∧ w = w' := by
  go_enter Try.func19, Try.ntmps19
  go_wp2_with fail
  refine (err_no h).mono ?_
  rintro x w1 ⟨rfl, rfl⟩
  go_wp2_with fail
  go_ret
  exact ⟨rfl, rfl⟩
set_option maxHeartbeats 400000 in
theorem skip_no (h : NoC w v) (n : Int) : Calls Try.prog 10 #[v, .int .i64 n] w fun e w' => e = .returned (.tuple #[]) ∧ w = w' := by
  go_enter Try.func10, Try.ntmps10
  go_wp2_with fail
  refine (take_no h n).mono ?_
  rintro x w1 ⟨rfl, rfl⟩
  go_wp2_with fail
  go_end0
  exact ⟨rfl, rfl⟩
set_option maxHeartbeats 400000 in
theorem rest_no (h : NoC w v) : Calls Try.prog 20 #[v] w fun e w' => e = .returned (.slice none 0 0) ∧ w = w' := by
  go_enter Try.func20, Try.ntmps20
  go_wp2_with fail
  refine (left_no h).mono ?_
  rintro x w1 ⟨rfl, rfl⟩
  go_wp2_with fail
  refine (take_no h 0).mono ?_
  rintro x w1 ⟨rfl, rfl⟩
  go_wp2_with fail
  go_ret
  exact ⟨rfl, rfl⟩
set_option maxHeartbeats 1000000 in
theorem number8_no (h : NoC w v) (n : Int) : Calls Try.prog 42 #[v, .int .i64 n] w fun x w' => x = .returned (.int .u8 0) ∧ w = w' := by
  go_enter Try.func42, Try.ntmps42
  go_wp2_with fail
  refine (take_no h n).mono ?_
  rintro x w1 ⟨rfl, rfl⟩
  go_wp2_with fail
  go_loop [5, 12] (fun s i => s = .int .u32 0 ∧ i = .int .i64 0) (fun _ _ => 0)
  case atStart => exact ⟨rfl, rfl⟩
  case round =>
    obtain ⟨rfl, rfl⟩ := hrel
    go_wp2
    go_ret
    exact ⟨rfl, rfl⟩
set_option maxHeartbeats 400000 in
theorem byte_no (h : NoC w v) : Calls Try.prog 15 #[v] w fun x w' => x = .returned (.int .u8 0) ∧ w = w' := by
  go_enter Try.func15, Try.ntmps15
  go_wp2_with fail
  refine (number8_no h 1).mono ?_
  rintro x w1 ⟨rfl, rfl⟩
  go_wp2_with fail
  go_ret
  exact ⟨rfl, rfl⟩
set_option maxHeartbeats 1000000 in
theorem number16_no (h : NoC w v) (n : Int) : Calls Try.prog 43 #[v, .int .i64 n] w fun x w' => x = .returned (.int .u16 0) ∧ w = w' := by
  go_enter Try.func43, Try.ntmps43
  go_wp2_with fail
  refine (take_no h n).mono ?_
  rintro x w1 ⟨rfl, rfl⟩
  go_wp2_with fail
  go_loop [5, 12] (fun s i => s = .int .u32 0 ∧ i = .int .i64 0) (fun _ _ => 0)
  case atStart => exact ⟨rfl, rfl⟩
  case round =>
    obtain ⟨rfl, rfl⟩ := hrel
    go_wp2
    go_ret
    exact ⟨rfl, rfl⟩
set_option maxHeartbeats 400000 in
theorem two_no (h : NoC w v) : Calls Try.prog 16 #[v] w fun x w' => x = .returned (.int .u16 0) ∧ w = w' := by
  go_enter Try.func16, Try.ntmps16
  go_wp2_with fail
  refine (number16_no h 2).mono ?_
  rintro x w1 ⟨rfl, rfl⟩
  go_wp2_with fail
  go_ret
  exact ⟨rfl, rfl⟩
set_option maxHeartbeats 400000 in
theorem plen_no (h : NoP w v) : Calls Try.prog 38 #[v] w fun e w' => e = .returned (.int .i64 0) ∧ w = w' := by
  go_enter Try.func38, Try.ntmps38
  go_wp2_with fail
  refine (pnone_no h).mono ?_
  rintro x w1 ⟨rfl, rfl⟩
  go_wp2_with fail
  go_ret
  exact ⟨rfl, rfl⟩
set_option maxHeartbeats 400000 in
theorem done_no (h : NoP w v) : Calls Try.prog 33 #[v] w fun e w' => e = .returned (.slice none 0 0) ∧ w = w' := by
  go_enter Try.func33, Try.ntmps33
  go_wp2_with fail
  refine (pnone_no h).mono ?_
  rintro x w1 ⟨rfl, rfl⟩
  go_wp2_with fail
  go_ret
  exact ⟨rfl, rfl⟩
set_option maxHeartbeats 400000 in
theorem pfill_none (h : NoP w v) (a n : Int) : Calls Try.prog 37 #[v, .int .i64 a, .int .u16 n] w fun e w' => e = .returned (.int .i64 2) ∧ w = w' := by
  go_enter Try.func37, Try.ntmps37
  go_wp2_with fail
  refine (pnone_no h).mono ?_
  rintro x w1 ⟨rfl, rfl⟩
  go_wp2_with fail
  go_ret
  exact ⟨rfl, rfl⟩
set_option maxHeartbeats 400000 in
theorem pbyte_no (h : NoP w v) (u : Value) : Calls Try.prog 31 #[v, u] w fun e w' => e = .returned v ∧ w = w' := by
  go_enter Try.func31, Try.ntmps31
  go_wp2_with fail
  refine (pnone_no h).mono ?_
  rintro x w1 ⟨rfl, rfl⟩
  go_wp2_with fail
  go_ret
  exact ⟨rfl, rfl⟩
set_option maxHeartbeats 1000000 in
theorem ptwo_no (h : NoP w v) {u : Value} {xs : List Nat} (sl : Sl 1 w u xs.length (fun i => .int .u16 (xs.getD i 0 : Nat))) (hx : ∀ i, i < xs.length → xs.getD i 0 < 65536) :
    Calls Try.prog 32 #[v, u] w fun x w' => x = .returned v ∧ Keep No w w' := by
  have hlen : ∀ wx, (Builtin.len_ #[79] 3 #[u]).run Try.prog wx = .ok (.int .i64 (xs.length : Int)) wx := fun wx => sl.run_len Try.underlying79
  have hbd : xs.length ≤ maxLen := by
    obtain ⟨_, cap, _, h1, h2, _⟩ := sl.shape
    omega
  unfold maxLen at hbd
  have hz : (Try.prog.info? 32).map (·.size) = some 1 := by kernel_rfl
  go_enter Try.func32, Try.ntmps32
  go_wp2
  go_loopw [9] (fun i wr => ∃ (k : Nat), k ≤ xs.length ∧ i = .int .i64 k ∧ Keep No w wr) (fun i _ => xs.length - (intOf i).toNat)
  case atStart => exact ⟨0, Nat.zero_le _, rfl, Keep.refl _ _⟩
  case round =>
    obtain ⟨k, hk, rfl, hkeep⟩ := hrel
    by_cases hlt : k < xs.length
    · have hat : ∀ wx, (Instr.indexAt 79 u (.int .i64 (k : Int))).run Try.prog wx = .ok (.pointer (some ⟨blk u, offs u + k, Option.none⟩)) wx := fun wx => by
        have := sl.run_at (P := Try.prog) (w' := wx) Try.underlying79 hz (k := .i64) (i := (k : Int)) (by omega) (by omega)
        simpa using this
      have hcell := (sl.keep0 hkeep).cell k (by omega)
      have hxk := hx k hlt
      generalize xs.getD k 0 = n at *
      go_wp2_with fail
      refine (pbyte_no (h.keep0 (hkeep.alloc _)) _).mono ?_
      rintro x w2 ⟨rfl, rfl⟩
      go_wp2_with fail
      go_roundw
      case rel => exact ⟨k + 1, by omega, by go_num, hkeep.alloc _⟩
      case measure => simp [intOf]; omega
    · have hke : k = xs.length := by omega
      subst hke
      go_wp2
      go_ret
      exact ⟨rfl, hkeep⟩
end
end Go.Proofs.Ytpididcghilbjaa
