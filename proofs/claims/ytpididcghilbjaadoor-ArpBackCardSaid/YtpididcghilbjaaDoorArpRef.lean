/-
  tollref05's number and Get of any bytes. Condition: the bytes are at most 2^47 - 4096.
-/
import Derived.Test.YtpididcghilbjaaDoorArpOf
namespace Go.Proofs.YtpididcghilbjaaDoor
open Go.RowKit

theorem u32_in {x : Int} (h0 : 0 ≤ x) (h1 : x < 4294967296) : IntKind.u32.wrap x = x := by
  exact IntWalk.u32_in _ (by omega)
theorem i64_in' {x : Int} (h0 : 0 ≤ x) (h1 : x < 4294967296) : IntKind.i64.wrap x = x := IntWalk.i64_in _ (by omega)
abbrev bn (bs : List UInt8) (i : Nat) : Int := ((byteAt bs i).toNat : Int)
theorem bn_lt (bs : List UInt8) (i : Nat) : 0 ≤ bn bs i ∧ bn bs i < 256 := by have := byteAt_lt bs i; show (0 : Int) ≤ ((byteAt bs i).toNat : Int) ∧ ((byteAt bs i).toNat : Int) < 256; omega

section
variable {w : World} {v : Value} {bs : List UInt8}
theorem Rd.sem_at (r : Rd w v bs) {i : Nat} (hi : i < bs.length) (wx : World) : (Instr.indexAt 33 v (.int .i64 (i : Int))).run Tryd.prog wx = .ok (.pointer (some (adr v i))) wx := by
  have := r.run_at (P := Tryd.prog) (w' := wx) bt.sl bsize (k := .i64) (i := (i : Int)) (by omega) (by omega)
  simpa using this
theorem Rd.sem_ld (r : Rd w v bs) {i : Nat} (hi : i < bs.length) : (Instr.loadAt 5 (.pointer (some (adr v i)))).run Tryd.prog w = .ok (bv (byteAt bs i)) w := by
  have hc := r.cell i hi
  have hu := run_underlying (P := Tryd.prog) (w := w) Tryd.underlying5
  simp [Instr.loadAt, Instr.sureAddr, loadVar, isAgg, hu, load, Sem.run, hc]

/-- The number of the four bytes from i on. -/
def n4 (bs : List UInt8) (i : Nat) : Int := bn bs i * 16777216 + bn bs (i + 1) * 65536 + bn bs (i + 2) * 256 + bn bs (i + 3)

theorem number_any (r : Rd w v bs) (h4 : 4 ≤ bs.length) :
    Calls Tryd.prog 28 #[v] w fun x w' => x = .returned (.int .u32 (n4 bs 0)) ∧ Keep No w w' := by
  have b0 := bn_lt bs 0
  have b1 := bn_lt bs 1
  have b2 := bn_lt bs 2
  have b3 := bn_lt bs 3
  refine enter (args := [v]) Tryd.func28 (by kernel_rfl) ?_
  refine go_drawn_is (gt := fun _ => none) (unroll := true) 20 [] [] []
    [(1, .sem (.pointer (some (adr v 0)))), (2, .sem (bv (byteAt bs 0))), (3, .is (.int .u32 (bn bs 0))), (4, .is (.int .u32 (bn bs 0 * 16777216))),
     (6, .sem (.pointer (some (adr v 1)))), (7, .sem (bv (byteAt bs 1))), (8, .is (.int .u32 (bn bs 1))), (9, .is (.int .u32 (bn bs 1 * 65536))), (10, .is (.int .u32 (bn bs 0 * 16777216 + bn bs 1 * 65536))),
     (12, .sem (.pointer (some (adr v 2)))), (13, .sem (bv (byteAt bs 2))), (14, .is (.int .u32 (bn bs 2))), (15, .is (.int .u32 (bn bs 2 * 256))), (16, .is (.int .u32 (bn bs 0 * 16777216 + bn bs 1 * 65536 + bn bs 2 * 256))),
     (18, .sem (.pointer (some (adr v 3)))), (19, .sem (bv (byteAt bs 3))), (20, .is (.int .u32 (bn bs 3))), (21, .is (.int .u32 (n4 bs 0)))]
    [2] [.int .u32 (n4 bs 0)] [] [] (afterR (bodyOf Tryd.f28) 1)
    [(.int .u32 (IntKind.u32.wrap (bn bs 0)), .int .u32 (bn bs 0)), (.int .u32 (IntKind.u32.wrap (bn bs 0 * 16777216)), .int .u32 (bn bs 0 * 16777216)),
     (.int .u32 (IntKind.u32.wrap (bn bs 1)), .int .u32 (bn bs 1)), (.int .u32 (IntKind.u32.wrap (bn bs 1 * 65536)), .int .u32 (bn bs 1 * 65536)), (.int .u32 (IntKind.u32.wrap (bn bs 0 * 16777216 + bn bs 1 * 65536)), .int .u32 (bn bs 0 * 16777216 + bn bs 1 * 65536)),
     (.int .u32 (IntKind.u32.wrap (bn bs 2)), .int .u32 (bn bs 2)), (.int .u32 (IntKind.u32.wrap (bn bs 2 * 256)), .int .u32 (bn bs 2 * 256)), (.int .u32 (IntKind.u32.wrap (bn bs 0 * 16777216 + bn bs 1 * 65536 + bn bs 2 * 256)), .int .u32 (bn bs 0 * 16777216 + bn bs 1 * 65536 + bn bs 2 * 256)),
     (.int .u32 (IntKind.u32.wrap (bn bs 3)), .int .u32 (bn bs 3)), (.int .u32 (IntKind.u32.wrap (bn bs 0 * 16777216 + bn bs 1 * 65536 + bn bs 2 * 256 + bn bs 3)), .int .u32 (n4 bs 0))]
    [] []
    [(Instr.indexAt 33 v (.int .i64 0), .pointer (some (adr v 0))), (Instr.loadAt 5 (.pointer (some (adr v 0))), bv (byteAt bs 0)),
     (Instr.indexAt 33 v (.int .i64 1), .pointer (some (adr v 1))), (Instr.loadAt 5 (.pointer (some (adr v 1))), bv (byteAt bs 1)),
     (Instr.indexAt 33 v (.int .i64 2), .pointer (some (adr v 2))), (Instr.loadAt 5 (.pointer (some (adr v 2))), bv (byteAt bs 2)),
     (Instr.indexAt 33 v (.int .i64 3), .pointer (some (adr v 3))), (Instr.loadAt 5 (.pointer (some (adr v 3))), bv (byteAt bs 3))]
    (Wst.start0 w) (by kernel_rfl) (by kernel_rfl) (by kernel_rfl) trivial trivial ?_ ?_
  · refine ⟨?_, ?_, ?_, ?_, ?_, ?_, ?_, ?_, ?_, ?_, trivial⟩ <;> (apply congrArg (Value.int .u32); first | exact u32_in (by omega) (by omega) | (rw [u32_in (by omega) (by omega)]; rfl))
  · intro w' hW' hS'
    have r' : ∀ w1, Keep No w' w1 → Rd w1 v bs := fun w1 k => r.keep0 (hW'.keep.trans k)
    refine ⟨trivial, trivial, ⟨fun w1 k => r.sem_at (i := 0) (by omega) w1, fun w1 k => (r' w1 k).sem_ld (i := 0) (by omega), fun w1 k => r.sem_at (i := 1) (by omega) w1, fun w1 k => (r' w1 k).sem_ld (i := 1) (by omega), fun w1 k => r.sem_at (i := 2) (by omega) w1, fun w1 k => (r' w1 k).sem_ld (i := 2) (by omega), fun w1 k => r.sem_at (i := 3) (by omega) w1, fun w1 k => (r' w1 k).sem_ld (i := 3) (by omega), trivial⟩, fun w2 k2 hW2 _ => ?_⟩
    exact go_ret (gt := fun _ => none) (unroll := true) 20 [] [.tmp 2] (.int .u32 (n4 bs 0)) [] [] hW2 Tryd.results28 (by kernel_rfl) trivial trivial (fun w3 hW3 _ => ⟨rfl, hW3.keep⟩)
end
end Go.Proofs.YtpididcghilbjaaDoor
