/-
  The cutter's Mac. Condition: as for the cutter.
-/
import Derived.Test.YtpididcghilbjaaCut
import Derived.Deep.RegionWith
namespace Go.Proofs.Ytpididcghilbjaa
open Go.RowKit
/-- An address of six bytes, out of a list of bytes (0 where there is none). -/
def macV (l : List UInt8) : Array Value := #[.int .u8 ((byteAt l 0).toNat : Int), .int .u8 ((byteAt l 1).toNat : Int), .int .u8 ((byteAt l 2).toNat : Int), .int .u8 ((byteAt l 3).toNat : Int), .int .u8 ((byteAt l 4).toNat : Int), .int .u8 ((byteAt l 5).toNat : Int)]
def zero6 : Array Value := #[.int .u8 0, .int .u8 0, .int .u8 0, .int .u8 0, .int .u8 0, .int .u8 0]
theorem macV_copy {l : List UInt8} (h : l.length = 0 ∨ l.length = 6) : (zero6.toList.take 0 ++ bvs l ++ zero6.toList.drop (0 + l.length)).toArray = macV l := by
  rcases h with h | h
  · rw [List.length_eq_zero_iff.1 h]; rfl
  · match l, h with
    | [a, b, c, d, e, f], _ => rfl
theorem takeB_six (bs : List UInt8) (at_ : Nat) (e : Int) {n : Nat} : (takeB bs at_ e n).length = 0 ∨ (takeB bs at_ e n).length = n := by
  unfold takeB; split
  · right; simp; omega
  · left; rfl
section
variable {w : World} {p : Nat} {sv : Value} {bs : List UInt8} {at_ : Nat} {e : Int}
set_option maxHeartbeats 1000000 in
theorem cmac_any (h : Cu w p sv bs at_ e) :
    Calls Try.prog 18 #[.pointer (some ⟨p, 0, Option.none⟩)] w fun x w' => x = .returned (.agg (macV (takeB bs at_ e 6))) ∧ Cu w' p sv bs (takeA bs at_ e 6) (takeE bs at_ e 6) ∧ Keep (One p) w w' := by
  have hsix : (takeB bs at_ e 6).length = 0 ∨ (takeB bs at_ e 6).length = 6 := takeB_six bs at_ e (n := 6)
  have hlen : (takeB bs at_ e 6).length ≤ 6 := by omega
  have hmv := macV_copy hsix
  have hplt := h.lt
  generalize hout : takeB bs at_ e 6 = out at *
  have HOUT := Lib.hid hout
  clear hout
  go_enter Try.func18, Try.ntmps18
  go_wp2
  go_region_with (go_at_call 19; refine (take_any (h.keep0 ((((Keep.refl _ _).alloc _).alloc _).drew)) 6).mono ?_; rintro x w1 ⟨v', rfl, tk⟩; have hg := (tk.keep.block (w.heap.size + 1) (by simp) (by intro (hh : _ = p); omega)).trans (heap_new1 _ _ _); have hg0 := (tk.keep.block w.heap.size (by simp; omega) (by intro (hh : _ = p); omega)).trans (heap_new0 _ _ _); have tk2 := tk; rw [HOUT.out] at tk2; have hcp := run_copy_b (P := Try.prog) (w := w1) bt 3 (dl := 6) (dc := 6) (o := 0) hg tk2.rd hlen (by simpa using hlen); change _ = Result.ok _ (w1.setRow _ (zero6.toList.take 0 ++ bvs out ++ zero6.toList.drop (0 + out.length)).toArray) at hcp; rw [hmv] at hcp)
  have k3 : Keep (One (w.heap.size + 1)) w1 (w1.setRow (w.heap.size + 1) (macV out)) := Keep.setRow _ _
  have hg3 := setRow_heap w1 _ _ (macV out) _ _ hg
  have hg4 : (w1.setRow (w.heap.size + 1) (macV out)).heap[w.heap.size]? = _ := (k3.block w.heap.size (World.block_lt_of_cell? w1 ⟨w.heap.size, 0, Option.none⟩ (cells_of hg0 0)) (by intro (hh : _ = _); omega)).trans hg0
  have kk := ((((Keep.refl (One p) w).alloc _).alloc _).drew).trans tk.keep |>.trans' k3 (by intro i hi (hh : i = _); omega)
  have hcu := tk.cu.keep k3 (by intro (hh : _ = _); omega) (by intro b hb (hh : _ = _); have := h.under b hb; omega)
  clear hcp
  generalize w1.setRow (w.heap.size + 1) (macV out) = W3 at *
  have a0 := cells_of hg3 0
  have a1 := cells_of hg3 1
  have a2 := cells_of hg3 2
  have a3 := cells_of hg3 3
  have a4 := cells_of hg3 4
  have a5 := cells_of hg3 5
  have b0 := cells_of hg4 0
  have b1 := cells_of hg4 1
  have b2 := cells_of hg4 2
  have b3 := cells_of hg4 3
  have b4 := cells_of hg4 4
  have b5 := cells_of hg4 5
  have f0 := free_of hg4 0
  have f1 := free_of hg4 1
  have f2 := free_of hg4 2
  have f3 := free_of hg4 3
  have f4 := free_of hg4 4
  have f5 := free_of hg4 5
  simp [macV] at a0 a1 a2 a3 a4 a5 b0 b1 b2 b3 b4 b5
  clear hg3 hg4 hg hg0
  go_wp2
  have k4 : Keep (One w.heap.size) W3 ((((((W3.setCell ⟨w.heap.size, 0, Option.none⟩ (.int .u8 ((byteAt out 0).toNat : Int))).setCell ⟨w.heap.size, 1, Option.none⟩ (.int .u8 ((byteAt out 1).toNat : Int))).setCell ⟨w.heap.size, 2, Option.none⟩ (.int .u8 ((byteAt out 2).toNat : Int))).setCell ⟨w.heap.size, 3, Option.none⟩ (.int .u8 ((byteAt out 3).toNat : Int))).setCell ⟨w.heap.size, 4, Option.none⟩ (.int .u8 ((byteAt out 4).toNat : Int))).setCell ⟨w.heap.size, 5, Option.none⟩ (.int .u8 ((byteAt out 5).toNat : Int))) :=
    (((((Keep.set1 _ _ _ _).trans (Keep.set1 _ _ _ _)).trans (Keep.set1 _ _ _ _)).trans (Keep.set1 _ _ _ _)).trans (Keep.set1 _ _ _ _)).trans (Keep.set1 _ _ _ _)
  refine bodyPost_ret (v := .agg (macV out)) ?_ rfl ⟨rfl, hcu.keep k4 (by intro (hh : _ = _); omega) (by intro b hb (hh : _ = _); have := h.under b hb; omega), kk.trans' k4 (by intro i hi (hh : _ = _); omega)⟩
  simp [results, Try.results18, go_sem, macV, b0, b1, b2, b3, b4, b5]
end
end Go.Proofs.Ytpididcghilbjaa
