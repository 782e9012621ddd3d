/-
  The pad's Mac. Condition: as for the pad.
-/
import Derived.Test.YtpididcghilbjaaPadTwo
namespace Go.Proofs.Ytpididcghilbjaa
open Go.RowKit

/-- The six bytes of an address. -/
def macL (l : List UInt8) : List UInt8 := [byteAt l 0, byteAt l 1, byteAt l 2, byteAt l 3, byteAt l 4, byteAt l 5]
theorem len6 (xs : List (List UInt8)) : (xs.flatMap macL).length = 6 * xs.length := by
  induction xs with
  | nil => rfl
  | cons x xs ih => simp [List.flatMap_cons, macL, ih]; omega
theorem flat_snoc_mac {xs : List (List UInt8)} {k : Nat} (h : k < xs.length) : (xs.take (k + 1)).flatMap macL = (xs.take k).flatMap macL ++ macL (xs.getD k []) := by
  rw [List.take_succ_eq_append_getElem h, List.flatMap_append]; simp [h]
theorem made6 (w : World) (l : List UInt8) (t : TypeId) : Rd (w.alloc (.cells #[.int .u8 ((byteAt l 0).toNat : Int), .int .u8 ((byteAt l 1).toNat : Int), .int .u8 ((byteAt l 2).toNat : Int), .int .u8 ((byteAt l 3).toNat : Int), .int .u8 ((byteAt l 4).toNat : Int), .int .u8 ((byteAt l 5).toNat : Int)] t)) (.slice (some ⟨w.heap.size, 0, none⟩) 6 6) (macL l) :=
  (Own.made (e := t) w (macL l) (by simp [maxLen, macL])).rd

section
variable {w : World} {p : Nat} {sv : Value} {bs : List UInt8}
set_option maxHeartbeats 2000000 in
theorem pmac_any (h : Pd w p sv bs) {v : Value} {xs : List (List UInt8)} (sl : Sl 6 w v xs.length (fun j => .int .u8 ((byteAt (xs.getD (j / 6) []) (j % 6)).toNat : Int)))
    (hv : ∀ b, v.ownBlock = some b → ¬ Foot p sv b) (hn : bs.length + 6 * xs.length ≤ 1099511627776) :
    Calls Try.prog 35 #[.pointer (some ⟨p, 0, Option.none⟩), v] w fun x w' => ∃ sv', x = .returned (.pointer (some ⟨p, 0, Option.none⟩)) ∧ Pd w' p sv' (bs ++ xs.flatMap macL) ∧ Keep (Foot p sv) w w' ∧ Later w.heap.size sv sv' := by
  have hlen : ∀ wx, (Builtin.len_ #[81] 3 #[v]).run Try.prog wx = .ok (.int .i64 (xs.length : Int)) wx := fun wx => sl.run_len Try.underlying81
  have hz : (Try.prog.info? 37).map (·.size) = some 6 := by kernel_rfl
  go_enter Try.func35, Try.ntmps35
  go_wp2
  go_loopw [9] (fun i wr => ∃ (k : Nat) (svk : Value), k ≤ xs.length ∧ i = .int .i64 k ∧ Pd wr p svk (bs ++ (xs.take k).flatMap macL) ∧ Keep (Foot p sv) w wr ∧ Later w.heap.size sv svk) (fun i _ => xs.length - (intOf i).toNat)
  case atStart => exact ⟨0, sv, Nat.zero_le _, rfl, by simpa using h, Keep.refl _ _, Later.refl _ _⟩
  case round =>
    obtain ⟨k, svk, hk, rfl, hpd, hkeep, hlater⟩ := hrel
    by_cases hlt : k < xs.length
    · have hat : ∀ wx, (Instr.indexAt 81 v (.int .i64 (k : Int))).run Try.prog wx = .ok (.pointer (some ⟨blk v, offs v + k * 6, Option.none⟩)) wx := fun wx => by
        have := sl.run_at (P := Try.prog) (w' := wx) Try.underlying81 hz (k := .i64) (i := (k : Int)) (by omega) (by omega)
        simpa using this
      have hc : ∀ i, i < 6 → wr.cell? ⟨blk v, offs v + k * 6 + i, Option.none⟩ = some (.int .u8 ((byteAt (xs.getD k []) i).toNat : Int)) := fun i hi => by
        have := (sl.keep hkeep hv).cell (k * 6 + i) (by omega)
        rw [show (k * 6 + i) / 6 = k by omega, show (k * 6 + i) % 6 = i by omega] at this
        rw [Nat.add_assoc]; exact this
      have h0 : wr.cell? ⟨blk v, offs v + k * 6, Option.none⟩ = _ := hc 0 (by omega)
      have h1 := hc 1 (by omega)
      have h2 := hc 2 (by omega)
      have h3 := hc 3 (by omega)
      have h4 := hc 4 (by omega)
      have h5 := hc 5 (by omega)
      clear hc
      have hfl := flat_snoc_mac hlt
      have hl2 : (bs ++ (xs.take k).flatMap macL).length ≤ 1099511627770 := by rw [List.length_append, len6, List.length_take]; omega
      have HFL := Lib.hid hfl
      clear hfl
      generalize xs.getD k [] = m at *
      have r6 := made6 wr m 37
      generalize hL : bs ++ (xs.take k).flatMap macL = L at *
      have HL := Lib.hid hL
      clear hL
      go_wp2_with fail
      refine (pbyte_any (hpd.keep0 ((Keep.refl _ _).alloc _)) r6 (by simp [macL]; omega)).mono ?_
      rintro x w2 ⟨svn, rfl, hpd2, hk2, hl3⟩
      go_wp2_with fail
      go_roundw
      case rel =>
        refine ⟨k + 1, svn, by omega, by go_num, ?_, ?_, hlater.trans hl3 (by have := hkeep.size; simp; omega)⟩
        · rw [HFL.out, ← List.append_assoc, HL.out]; exact hpd2
        · exact (hkeep.alloc _).foot hlater hk2
      case measure => simp [intOf]; omega
    · have hke : k = xs.length := by omega
      subst hke
      rw [List.take_length] at hpd
      go_wp2
      go_ret
      exact ⟨svk, rfl, hpd, hkeep, hlater⟩
end
end Go.Proofs.Ytpididcghilbjaa
