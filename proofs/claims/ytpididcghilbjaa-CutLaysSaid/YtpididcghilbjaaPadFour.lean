/-
  The pad's Four. Condition: as for the pad.
-/
import Derived.Test.YtpididcghilbjaaPadTwo
namespace Go.Proofs.Ytpididcghilbjaa
open Go.RowKit

/-- The four bytes of a number. -/
def bytes4 (n : Nat) : List UInt8 := bytes2 (n / 65536) ++ bytes2 (n % 65536)
theorem len4 (xs : List Nat) : (xs.flatMap bytes4).length = 4 * xs.length := by
  induction xs with
  | nil => rfl
  | cons x xs ih => simp [List.flatMap_cons, bytes4, bytes2, ih]; omega

section
variable {w : World} {p : Nat} {sv : Value} {bs : List UInt8}
set_option maxHeartbeats 1000000 in
theorem pfour_any (h : Pd w p sv bs) {v : Value} {xs : List Nat} (sl : Sl 1 w v xs.length (fun i => .int .u32 (xs.getD i 0 : Nat))) (hx : ∀ i, i < xs.length → xs.getD i 0 < 4294967296)
    (hv : ∀ b, v.ownBlock = some b → ¬ Foot p sv b) (hn : bs.length + 4 * xs.length ≤ 1099511627776) :
    Calls Try.prog 34 #[.pointer (some ⟨p, 0, Option.none⟩), v] w fun x w' => ∃ sv', x = .returned (.pointer (some ⟨p, 0, Option.none⟩)) ∧ Pd w' p sv' (bs ++ xs.flatMap bytes4) ∧ Keep (Foot p sv) w w' ∧ Later w.heap.size sv sv' := by
  have hlen : ∀ wx, (Builtin.len_ #[80] 3 #[v]).run Try.prog wx = .ok (.int .i64 (xs.length : Int)) wx := fun wx => sl.run_len Try.underlying80
  have hz : (Try.prog.info? 34).map (·.size) = some 1 := by kernel_rfl
  go_enter Try.func34, Try.ntmps34
  go_wp2
  go_loopw [9] (fun i wr => ∃ (k : Nat) (svk : Value), k ≤ xs.length ∧ i = .int .i64 k ∧ Pd wr p svk (bs ++ (xs.take k).flatMap bytes4) ∧ Keep (Foot p sv) w wr ∧ Later w.heap.size sv svk) (fun i _ => xs.length - (intOf i).toNat)
  case atStart => exact ⟨0, sv, Nat.zero_le _, rfl, by simpa using h, Keep.refl _ _, Later.refl _ _⟩
  case round =>
    obtain ⟨k, svk, hk, rfl, hpd, hkeep, hlater⟩ := hrel
    by_cases hlt : k < xs.length
    · have hat : ∀ wx, (Instr.indexAt 80 v (.int .i64 (k : Int))).run Try.prog wx = .ok (.pointer (some ⟨blk v, offs v + k, Option.none⟩)) wx := fun wx => by
        have := sl.run_at (P := Try.prog) (w' := wx) Try.underlying80 hz (k := .i64) (i := (k : Int)) (by omega) (by omega)
        simpa using this
      have hcell := (sl.keep hkeep hv).cell k (by omega)
      have hfl := flat_snoc (f := bytes4) hlt
      have hxk := hx k hlt
      have hl2 : (bs ++ (xs.take k).flatMap bytes4).length ≤ 1099511627772 := by rw [List.length_append, len4, List.length_take]; omega
      have HFL := Lib.hid hfl
      clear hfl
      generalize xs.getD k 0 = n at *
      have s2 := Sl.two (w := wr) (.int .u16 ((n : Int) / 65536)) (.int .u16 ((n : Int) % 65536)) 32 (fun i => .int .u16 ([n / 65536, n % 65536].getD i 0 : Nat)) rfl rfl
      generalize hL : bs ++ (xs.take k).flatMap bytes4 = L at *
      have HL := Lib.hid hL
      clear hL
      go_wp2_with fail
      refine (ptwo_any (hpd.keep0 ((Keep.refl _ _).alloc _)) (xs := [n / 65536, n % 65536]) s2 (by intro i hi; have : i = 0 ∨ i = 1 := (by simp at hi; omega); rcases this with rfl | rfl <;> simp <;> omega) (new_not_foot hpd _ _) (by simp; omega)).mono ?_
      rintro x w2 ⟨svn, rfl, hpd2, hk2, hl3⟩
      go_wp2_with fail
      go_roundw
      case rel =>
        refine ⟨k + 1, svn, by omega, by go_num, ?_, ?_, hlater.trans hl3 (by have := hkeep.size; simp; omega)⟩
        · rw [HFL.out, ← List.append_assoc, HL.out]; simpa [bytes4] using hpd2
        · exact (hkeep.alloc _).foot hlater hk2
      case measure => simp [intOf]; omega
    · have hke : k = xs.length := by omega
      subst hke
      rw [List.take_length] at hpd
      go_wp2
      go_ret
      exact ⟨svk, rfl, hpd, hkeep, hlater⟩
end
end Go.Proofs.Ytpididcghilbjaa
