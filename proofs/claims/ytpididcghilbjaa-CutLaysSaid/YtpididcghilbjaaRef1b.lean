/-
  The document's cutter (tollref01): Number and Mac. Condition: its bytes are at most 2^47 - 4096.
-/
import Derived.Test.YtpididcghilbjaaRef1
import Derived.Test.YtpididcghilbjaaMac
namespace Go.Proofs.Ytpididcghilbjaa
open Go.RowKit
theorem byteAt_take (l : List UInt8) (k i : Nat) : byteAt (l.take k) i = if i < k then byteAt l i else 0 := by
  simp only [byteAt, List.getD_eq_getElem?_getD, List.getElem?_take]
  split <;> simp
theorem byteAt_nil (i : Nat) : byteAt [] i = 0 := rfl
theorem macV_step {l : List UInt8} {k : Nat} (h : k < 6) : (macV (l.take k)).setIfInBounds k (.int .u8 ((byteAt l k).toNat : Int)) = macV (l.take (k + 1)) := by
  have : k = 0 ∨ k = 1 ∨ k = 2 ∨ k = 3 ∨ k = 4 ∨ k = 5 := by omega
  rcases this with rfl | rfl | rfl | rfl | rfl | rfl <;> simp [macV, byteAt_take, byteAt_nil]
theorem macV_all {l : List UInt8} {k : Nat} (h : l.length ≤ k) : macV (l.take k) = macV l := by rw [List.take_of_length_le h]
theorem macV_get {l : List UInt8} {k : Nat} (h : k < 6) : (macV l)[k]? = some (.int .u8 ((byteAt l k).toNat : Int)) := by
  have : k = 0 ∨ k = 1 ∨ k = 2 ∨ k = 3 ∨ k = 4 ∨ k = 5 := by omega
  rcases this with rfl | rfl | rfl | rfl | rfl | rfl <;> rfl
section
variable {w : World} {p : Nat} {sv : Value} {bs : List UInt8} {at_ : Nat} {e : Int}

set_option maxHeartbeats 1000000 in
theorem wnumber_any (h : Cw w p sv bs at_ e) (n : Int) (hn : n ≤ 4) :
    Calls Try.prog 23 #[.pointer (some ⟨p, 0, Option.none⟩), .int .i64 n] w fun x w' => x = .returned (.int .u32 (be (takeB bs at_ e n) : Nat)) ∧ Cw w' p sv bs (takeA bs at_ e n) (takeE bs at_ e n) ∧ Keep (One p) w w' := by
  have hlen : (takeB bs at_ e n).length ≤ 4 := by
    unfold takeB; split
    · simp; omega
    · simp
  generalize hout : takeB bs at_ e n = out at *
  have HOUT := Lib.hid hout
  clear hout
  go_enter Try.func23, Try.ntmps23
  go_wp2_with fail
  refine (wtake_any h n).mono ?_
  rintro x w1 ⟨v', rfl, tk⟩
  have r := tk.rd
  rw [HOUT.out] at r
  have hl : ∀ wx, (Builtin.len_ #[22] 3 #[v']).run Try.prog wx = .ok (.int .i64 (out.length : Int)) wx := fun wx => r.run_len bt.sl
  go_wp2_with fail
  go_loop [6, 7] (fun s i => ∃ k : Nat, k ≤ out.length ∧ i = .int .i64 k ∧ s = .int .u32 (be (out.take k) : Nat)) (fun _ i => out.length - (intOf i).toNat)
  case atStart => exact ⟨0, Nat.zero_le _, rfl, rfl⟩
  case round =>
    obtain ⟨k, hk', rfl, rfl⟩ := hrel
    by_cases hlt : k < out.length
    · have hat : ∀ wx, (Instr.indexAt 22 v' (.int .i64 (k : Int))).run Try.prog wx = .ok (.pointer (some (adr v' k))) wx := fun wx => by
        have := r.run_at (P := Try.prog) (w' := wx) bt.sl bsize (k := .i64) (i := (k : Int)) (by omega) (by omega)
        simpa using this
      have hcell := r.cell k hlt
      have hx := byteAt_lt out k
      have hs := be_snoc (out.take k) (byteAt out k)
      rw [← take_snoc hlt] at hs
      have HS := Lib.hid hs
      have hb : be (out.take k) < 16777216 := be_small (n := 3) (by simp; omega)
      clear hs
      generalize be (out.take k) = A at *
      generalize (byteAt out k).toNat = x at *
      go_wp2
      go_round
      case rel =>
        refine ⟨k + 1, by omega, by go_num, ?_⟩
        rw [HS.out]; go_num
      case measure => simp [intOf]; omega
    · have hke : k = out.length := by omega
      subst hke
      rw [List.take_length]
      go_wp2
      go_ret
      exact ⟨rfl, tk.cu, tk.keep⟩

set_option maxHeartbeats 2000000 in
theorem wmac_any (h : Cw w p sv bs at_ e) (hu : 0 < bs.length → Under w.heap.size sv) :
    Calls Try.prog 24 #[.pointer (some ⟨p, 0, Option.none⟩)] w fun x w' => x = .returned (.agg (macV (takeB bs at_ e 6))) ∧ Cw w' p sv bs (takeA bs at_ e 6) (takeE bs at_ e 6) ∧ Keep (One p) w w' := by
  have hsix : (takeB bs at_ e 6).length = 0 ∨ (takeB bs at_ e 6).length = 6 := takeB_six bs at_ e (n := 6)
  have hplt := h.lt
  generalize hout : takeB bs at_ e 6 = out at *
  have HOUT := Lib.hid hout
  clear hout
  go_enter Try.func24, Try.ntmps24
  go_wp2_with fail
  have hn0 := heap_new0 w (.cells #[.int .u8 0, .int .u8 0, .int .u8 0, .int .u8 0, .int .u8 0, .int .u8 0] 36) (.cells #[.int .u8 0, .int .u8 0, .int .u8 0, .int .u8 0, .int .u8 0, .int .u8 0] 36)
  have hn1 := heap_new1 w (.cells #[.int .u8 0, .int .u8 0, .int .u8 0, .int .u8 0, .int .u8 0, .int .u8 0] 36) (.cells #[.int .u8 0, .int .u8 0, .int .u8 0, .int .u8 0, .int .u8 0, .int .u8 0] 36)
  refine (wtake_any (h.keep0 (((Keep.refl _ _).alloc _).alloc _)) 6).mono ?_
  rintro x w1 ⟨v', rfl, tk⟩
  have r := tk.rd
  rw [HOUT.out] at r
  have g0 := (tk.keep.block w.heap.size (by simp; omega) (by intro (hh : _ = p); omega)).trans hn0
  have g1 := (tk.keep.block (w.heap.size + 1) (by simp) (by intro (hh : _ = p); omega)).trans hn1
  have kk : Keep (One p) w w1 := (((Keep.refl _ _).alloc _).alloc _).trans tk.keep
  have hcu := tk.cu
  have hsin := tk.since
  simp at hsin
  clear hn0 hn1 tk
  have hl : ∀ wx, (Builtin.len_ #[22] 3 #[v']).run Try.prog wx = .ok (.int .i64 (out.length : Int)) wx := fun wx => r.run_len bt.sl
  have hb0 : w.heap.size < w1.heap.size := World.block_lt_of_cell? w1 ⟨w.heap.size, 0, Option.none⟩ (cells_of g0 0)
  go_wp2_with fail
  go_loopw [5] (fun i wr => ∃ k : Nat, k ≤ out.length ∧ i = .int .i64 k ∧ wr.heap[w.heap.size + 1]? = some (.cells (macV (out.take k)) 36 (0, 0)) ∧ Keep (One (w.heap.size + 1)) w1 wr) (fun i _ => out.length - (intOf i).toNat)
  case atStart => exact ⟨0, Nat.zero_le _, rfl, g1, Keep.refl _ _⟩
  case round =>
    obtain ⟨k, hk, rfl, hg, kr⟩ := hrel
    by_cases hlt : k < out.length
    · have hat : ∀ wx, (Instr.indexAt 22 v' (.int .i64 (k : Int))).run Try.prog wx = .ok (.pointer (some (adr v' k))) wx := fun wx => by
        have := r.run_at (P := Try.prog) (w' := wx) bt.sl bsize (k := .i64) (i := (k : Int)) (by omega) (by omega)
        simpa using this
      have hcell := (r.keepNe kr (by intro h0 b hb (e : b = _); have := hsin b hb; omega)).cell k hlt
      have hk6 : k < 6 := by omega
      have hcd := cells_of hg k
      rw [macV_get hk6] at hcd
      have hfd := free_of hg k
      go_wp2
      go_roundw
      case rel =>
        refine ⟨k + 1, by omega, by go_num, ?_, kr.trans (Keep.set1 _ _ _ _)⟩
        have := heap_setCell_same wr (w.heap.size + 1) k (macV (out.take k)) 36 (.int .u8 ((byteAt out k).toNat : Int)) hg
        rw [macV_step hk6] at this
        exact this
      case measure => simp [intOf]; omega
    · have hke : k = out.length := by omega
      subst hke
      rw [List.take_length] at hg
      have hg4 : wr.heap[w.heap.size]? = _ := (kr.block w.heap.size hb0 (by intro (hh : _ = _); omega)).trans g0
      have k3 : Keep (One p) w wr := kk.trans' kr (by intro i hi (hh : i = _); omega)
      have hcu3 := hcu.keep kr (by intro (hh : _ = _); omega) (by intro h0 b hb (hh : _ = _); have := hu h0 b hb; omega)
      have a0 := cells_of hg 0
      have a1 := cells_of hg 1
      have a2 := cells_of hg 2
      have a3 := cells_of hg 3
      have a4 := cells_of hg 4
      have a5 := cells_of hg 5
      have b0 := cells_of hg4 0
      have b1 := cells_of hg4 1
      have b2 := cells_of hg4 2
      have b3 := cells_of hg4 3
      have b4 := cells_of hg4 4
      have b5 := cells_of hg4 5
      have f0 := free_of hg4 0
      have f1 := free_of hg4 1
      have f2 := free_of hg4 2
      have f3 := free_of hg4 3
      have f4 := free_of hg4 4
      have f5 := free_of hg4 5
      simp [macV] at a0 a1 a2 a3 a4 a5 b0 b1 b2 b3 b4 b5
      clear hg hg4
      go_wp2
      have k4 : Keep (One w.heap.size) wr ((((((wr.setCell ⟨w.heap.size, 0, Option.none⟩ (.int .u8 ((byteAt out 0).toNat : Int))).setCell ⟨w.heap.size, 1, Option.none⟩ (.int .u8 ((byteAt out 1).toNat : Int))).setCell ⟨w.heap.size, 2, Option.none⟩ (.int .u8 ((byteAt out 2).toNat : Int))).setCell ⟨w.heap.size, 3, Option.none⟩ (.int .u8 ((byteAt out 3).toNat : Int))).setCell ⟨w.heap.size, 4, Option.none⟩ (.int .u8 ((byteAt out 4).toNat : Int))).setCell ⟨w.heap.size, 5, Option.none⟩ (.int .u8 ((byteAt out 5).toNat : Int))) :=
        (((((Keep.set1 _ _ _ _).trans (Keep.set1 _ _ _ _)).trans (Keep.set1 _ _ _ _)).trans (Keep.set1 _ _ _ _)).trans (Keep.set1 _ _ _ _)).trans (Keep.set1 _ _ _ _)
      refine bodyPost_ret (v := .agg (macV out)) ?_ rfl ⟨rfl, hcu3.keep k4 (by intro (hh : _ = _); omega) (by intro h0 b hb (hh : _ = _); have := hu h0 b hb; omega), k3.trans' k4 (by intro i hi (hh : _ = _); omega)⟩
      simp [results, Try.results24, go_sem, macV, b0, b1, b2, b3, b4, b5]
end
end Go.Proofs.Ytpididcghilbjaa
