/-
  The pad's Len and Fill. Condition: as for the pad.
-/
import Derived.Test.YtpididcghilbjaaPadTwo
import Derived.BigRegion
namespace Go.Proofs.Ytpididcghilbjaa
open Go.RowKit
section
variable {w : World} {p : Nat} {sv : Value} {bs : List UInt8}
set_option maxHeartbeats 1000000 in
theorem plen_any (h : Pd w p sv bs) :
    Calls Try.prog 38 #[.pointer (some ⟨p, 0, Option.none⟩)] w fun x w' => x = .returned (.int .i64 (bs.length : Int)) ∧ w = w' := by
  have h0 := h.c0
  have hlen : ∀ wx, (Builtin.len_ #[22] 3 #[sv]).run Try.prog wx = .ok (.int .i64 (bs.length : Int)) wx := fun wx => h.own.rd.run_len bt.sl
  go_enter Try.func38, Try.ntmps38
  go_wp2_with fail
  refine (pnone_any h.c1).mono ?_
  rintro x w1 ⟨rfl, rfl⟩
  go_wp2_with fail
  go_ret
  exact ⟨rfl, rfl⟩

set_option maxHeartbeats 1000000 in
theorem pfill_no (h : Pd w p sv bs) (a n : Int) (ha : a < 0 ∨ (bs.length : Int) < a + 2) (hb : bs.length ≤ 140737488351232) :
    Calls Try.prog 37 #[.pointer (some ⟨p, 0, Option.none⟩), .int .i64 a, .int .u16 n] w fun x w' => x = .returned (.int .i64 1) ∧ w = w' := by
  have h0 := h.c0
  have hlen : ∀ wx, (Builtin.len_ #[22] 3 #[sv]).run Try.prog wx = .ok (.int .i64 (bs.length : Int)) wx := fun wx => h.own.rd.run_len bt.sl
  by_cases hneg : a < 0
  · go_enter Try.func37, Try.ntmps37
    go_wp2_with fail
    refine (pnone_any h.c1).mono ?_
    rintro x w1 ⟨rfl, rfl⟩
    go_wp2_with fail
    go_ret
    exact ⟨rfl, rfl⟩
  · have hgt : (bs.length : Int) - 2 < a := by omega
    go_enter Try.func37, Try.ntmps37
    go_wp2_with fail
    refine (pnone_any h.c1).mono ?_
    rintro x w1 ⟨rfl, rfl⟩
    go_wp2_with fail
    go_ret
    exact ⟨rfl, rfl⟩

set_option maxHeartbeats 2000000 in
theorem pfill_ok (h : Pd w p sv bs) (a n : Nat) (ha : a + 2 ≤ bs.length) (hn : n < 65536) (hb : bs.length ≤ 140737488351232) :
    Calls Try.prog 37 #[.pointer (some ⟨p, 0, Option.none⟩), .int .i64 (a : Int), .int .u16 (n : Int)] w fun x w' => x = .returned (.int .i64 0) ∧ Pd w' p sv ((bs.set a (UInt8.ofNat (n / 256))).set (a + 1) (UInt8.ofNat n)) ∧ Keep (Foot p sv) w w' := by
  obtain ⟨g, cap, rfl⟩ := h.own.form (by omega)
  have ho : w.ownsRow 0 5 1 (.slice (some ⟨g, 0, Option.none⟩) bs.length cap) bs.length (bvs bs) := h.own
  have h0 := h.c0
  have hpg : g ≠ p := fun e => h.apart (by simp [Value.ownBlock, e])
  have hc0 := ho.cellAt a (by omega)
  have hc1 := ho.cellAt (a + 1) (by omega)
  rw [bvs_get (by omega)] at hc0 hc1
  have hf0 := ho.frozenAt a
  have hf1 := ho.frozenAt (a + 1)
  have hle : ¬ ((bs.length : Int) - 2 < (a : Int)) := by omega
  have hlt0 : ¬ ((a : Int) < 0) := by omega
  generalize hN : bs.length = N at *
  have HN := Lib.hid hN
  clear hN
  go_enter Try.func37, Try.ntmps37
  go_wp2_with fail
  refine (pnone_any h.c1).mono ?_
  rintro x w1 ⟨rfl, rfl⟩
  go_wp2_with fail
  go_region
  go_wp2
  go_ret
  rw [← byte_hi hn, ← byte_lo n]
  have s1 := (ho.stored a (.int .u8 ((UInt8.ofNat (n / 256)).toNat : Int))).1
  have s2 := (s1.stored (a + 1) (.int .u8 ((UInt8.ofNat n).toNat : Int))).1
  have k1 := (Keep.set1 w g a (.int .u8 ((UInt8.ofNat (n / 256)).toNat : Int))).trans (Keep.set1 _ g (a + 1) (.int .u8 ((UInt8.ofNat n).toNat : Int)))
  refine ⟨rfl, ⟨k1.drew.cell h.c0 (fun e => hpg e.symm), k1.drew.cell h.c1 (fun e => hpg e.symm), fun o => (k1.drew.frozen (a := ⟨p, o, Option.none⟩) h.lt (fun e => hpg e.symm)).trans (h.fz o), ?_, h.apart⟩, k1.drew.mono (fun k _ e => .inr (by rw [show k = g from e]; rfl))⟩
  have hl : ((bs.set a (UInt8.ofNat (n / 256))).set (a + 1) (UInt8.ofNat n)).length = N := by rw [List.length_set, List.length_set]; exact HN.out
  have hv : bvs ((bs.set a (UInt8.ofNat (n / 256))).set (a + 1) (UInt8.ofNat n)) = ((bvs bs).set a (.int .u8 ((UInt8.ofNat (n / 256)).toNat : Int))).set (a + 1) (.int .u8 ((UInt8.ofNat n).toNat : Int)) := by simp [bvs, List.map_set]
  unfold Own
  rw [hl, hv]
  exact World.ownsRow.drew s2
end
end Go.Proofs.Ytpididcghilbjaa
