/-
  The pad's Two. Condition: as for the pad.
-/
import Derived.Test.YtpididcghilbjaaPad
namespace Go.Proofs.Ytpididcghilbjaa
open Go.RowKit

theorem flat_snoc {α : Type} {f : Nat → List α} {xs : List Nat} {k : Nat} (h : k < xs.length) : (xs.take (k + 1)).flatMap f = (xs.take k).flatMap f ++ f (xs.getD k 0) := by
  rw [List.take_succ_eq_append_getElem h, List.flatMap_append]; simp [h]
theorem len2 (xs : List Nat) : (xs.flatMap bytes2).length = 2 * xs.length := by
  induction xs with
  | nil => rfl
  | cons x xs ih => simp [List.flatMap_cons, bytes2, ih]; omega
/-- Two new bytes. -/
theorem made2 (w : World) {a b : Int} {x y : UInt8} (ha : (x.toNat : Int) = a) (hb : (y.toNat : Int) = b) :
    Rd (w.alloc (.cells #[.int .u8 a, .int .u8 b] 5)) (.slice (some ⟨w.heap.size, 0, none⟩) 2 2) [x, y] := by
  subst ha hb
  exact (Own.made (e := 5) w [x, y] (by simp [maxLen])).rd

/-- One new number, handed on as a list. -/
theorem Sl.one {w : World} (v : Value) (t : TypeId) (c : Nat → Value) (hc : c 0 = v) : Sl 1 (w.alloc (.cells #[v] t)) (.slice (some ⟨w.heap.size, 0, none⟩) 1 1) 1 c := by
  refine ⟨⟨some ⟨w.heap.size, 0, none⟩, 1, rfl, by simp, by simp [maxLen], by simp, fun _ => ⟨_, _, rfl⟩⟩, ?_⟩
  intro j hj
  have : j = 0 := by omega
  subst this
  rw [hc]
  exact cell_new w #[v] t 0
theorem Sl.two {w : World} (v u : Value) (t : TypeId) (c : Nat → Value) (hc : c 0 = v) (hd : c 1 = u) : Sl 1 (w.alloc (.cells #[v, u] t)) (.slice (some ⟨w.heap.size, 0, none⟩) 2 2) 2 c := by
  refine ⟨⟨some ⟨w.heap.size, 0, none⟩, 2, rfl, by simp, by simp [maxLen], by simp, fun _ => ⟨_, _, rfl⟩⟩, ?_⟩
  intro j hj
  have : j = 0 ∨ j = 1 := by omega
  rcases this with rfl | rfl
  · rw [hc]; exact cell_new w #[v, u] t 0
  · rw [hd]; exact cell_new w #[v, u] t 1
theorem new_not_foot {w : World} {p : Nat} {sv : Value} {bs : List UInt8} (h : Pd w p sv bs) (n c : Nat) : ∀ b, (Value.slice (some ⟨w.heap.size, 0, none⟩) n c).ownBlock = some b → ¬ Foot p sv b := by
  intro b hb
  simp [Value.ownBlock] at hb
  subst hb
  rintro (h1 | h1)
  · have := h.lt; omega
  · have := h.own.lt _ h1; omega

section
variable {w : World} {p : Nat} {sv : Value} {bs : List UInt8}

set_option maxHeartbeats 1000000 in
theorem ptwo_any (h : Pd w p sv bs) {v : Value} {xs : List Nat} (sl : Sl 1 w v xs.length (fun i => .int .u16 (xs.getD i 0 : Nat))) (hx : ∀ i, i < xs.length → xs.getD i 0 < 65536)
    (hv : ∀ b, v.ownBlock = some b → ¬ Foot p sv b) (hn : bs.length + 2 * xs.length ≤ 1099511627776) :
    Calls Try.prog 32 #[.pointer (some ⟨p, 0, Option.none⟩), v] w fun x w' => ∃ sv', x = .returned (.pointer (some ⟨p, 0, Option.none⟩)) ∧ Pd w' p sv' (bs ++ xs.flatMap bytes2) ∧ Keep (Foot p sv) w w' ∧ Later w.heap.size sv sv' := by
  have hlen : ∀ wx, (Builtin.len_ #[79] 3 #[v]).run Try.prog wx = .ok (.int .i64 (xs.length : Int)) wx := fun wx => sl.run_len Try.underlying79
  have hz : (Try.prog.info? 32).map (·.size) = some 1 := by kernel_rfl
  go_enter Try.func32, Try.ntmps32
  go_wp2
  go_loopw [9] (fun i wr => ∃ (k : Nat) (svk : Value), k ≤ xs.length ∧ i = .int .i64 k ∧ Pd wr p svk (bs ++ (xs.take k).flatMap bytes2) ∧ Keep (Foot p sv) w wr ∧ Later w.heap.size sv svk) (fun i _ => xs.length - (intOf i).toNat)
  case atStart => exact ⟨0, sv, Nat.zero_le _, rfl, by simpa using h, Keep.refl _ _, Later.refl _ _⟩
  case round =>
    obtain ⟨k, svk, hk, rfl, hpd, hkeep, hlater⟩ := hrel
    by_cases hlt : k < xs.length
    · have hat : ∀ wx, (Instr.indexAt 79 v (.int .i64 (k : Int))).run Try.prog wx = .ok (.pointer (some ⟨blk v, offs v + k, Option.none⟩)) wx := fun wx => by
        have := sl.run_at (P := Try.prog) (w' := wx) Try.underlying79 hz (k := .i64) (i := (k : Int)) (by omega) (by omega)
        simpa using this
      have hcell := (sl.keep hkeep hv).cell k (by omega)
      have hfl := flat_snoc (f := bytes2) hlt
      have hxk := hx k hlt
      have hl2 : (bs ++ (xs.take k).flatMap bytes2).length ≤ 1099511627774 := by rw [List.length_append, len2, List.length_take]; omega
      have HFL := Lib.hid hfl
      clear hfl
      generalize xs.getD k 0 = n at *
      have r2 := made2 wr (byte_hi hxk) (byte_lo n)
      generalize hL : bs ++ (xs.take k).flatMap bytes2 = L at *
      have HL := Lib.hid hL
      clear hL
      go_wp2_with fail
      refine (pbyte_any (hpd.keep0 ((Keep.refl _ _).alloc _)) r2 (by simp; omega)).mono ?_
      rintro x w2 ⟨svn, rfl, hpd2, hk2, hl3⟩
      go_wp2_with fail
      go_roundw
      case rel =>
        refine ⟨k + 1, svn, by omega, by go_num, ?_, ?_, hlater.trans hl3 (by have := hkeep.size; simp; omega)⟩
        · rw [HFL.out, ← List.append_assoc, HL.out]; exact hpd2
        · exact (hkeep.alloc _).foot hlater hk2
      case measure => simp [intOf]; omega
    · have hke : k = xs.length := by omega
      subst hke
      rw [List.take_length] at hpd
      go_wp2
      go_ret
      exact ⟨svk, rfl, hpd, hkeep, hlater⟩
end
end Go.Proofs.Ytpididcghilbjaa
