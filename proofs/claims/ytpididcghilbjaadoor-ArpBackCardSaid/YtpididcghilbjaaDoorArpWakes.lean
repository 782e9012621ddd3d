/-
  tolllaw05's wakes: true. Condition: the table of what stands ahead is as it was laid.
-/
import Derived.Test.YtpididcghilbjaaDoorArpGet
import Derived.Test.YtpididcghilbjaaDoorOwnMore
import Derived.Deep.WholeRow
namespace Go.Proofs.YtpididcghilbjaaDoor
open Go.RowKit

/-- A message into a variable that was made last. -/
@[go_sem] theorem store_pk (w : World) (c : Array Value) (hc : c.size = 15) (op fi ti : Int) (f t : List UInt8) :
    (storeCells ⟨w.heap.size, 0, Option.none⟩ (pkA op fi ti f t).toList 0).run Tryd.prog (w.alloc (.cells c 28)) = .ok () (w.alloc (.cells (pkA op fi ti f t) 28)) :=
  run_storeCells_new w 28 c (pkA op fi ti f t) pkSize (by rw [hc]; rfl) (by simp [pkA, Value.oneCell'])

def wk8 : List UInt8 := [0, 1, 8, 0, 6, 4, 0, 1]
def wkB : List UInt8 := wk8 ++ List.replicate 20 0
theorem wk_a : getV wkB = pkA 1 0 0 (gF wkB) (gT wkB) := by rfl
theorem wk_b : getE wkB = 0 := by rfl
theorem wk_c : getE ((wkB.drop 0).take 27) = 4 := by rfl
theorem wk_d : getE (wkB.set 7 6) = 5 := by rfl

set_option maxHeartbeats 4000000 in
theorem wakes5_any (w : World) (ha : Ah w) :
    Calls Tryd.prog 9 #[] w fun x w' => x = .returned (.bool true) ∧ Keep No w w' := by
  go_enter Tryd.func9, Tryd.ntmps9
  go_wp2_with (at_builtin; refine wpList_append_z rfl _ _ (m := 20) bt Tryd.underlying3 rfl rfl (Own.made w wk8 (by simp [maxLen, wk8])) (by rfl) rfl (by decide) (by decide) ?_; intro v w1 own1 k1 b1)
  have kw1 : Keep No w w1 := ((Keep.refl _ _).alloc _).trans k1
  simp at b1
  change Own _ w1 v wkB at own1
  refine (arpget_any own1.rd (by decide) (ha.keep0 kw1)).mono ?_
  rintro x w2 ⟨rfl, k2⟩
  rw [wk_a, wk_b]
  have hcut : ∀ wx, (Instr.slice 33 v Option.none (some (.int .i64 27)) Option.none).run Tryd.prog wx = .ok (cutv v 0 27) wx := fun wx => own1.rd.run_cutH bt.sl bsize (by decide) (by decide)
  have hat : ∀ wx, (Instr.indexAt 33 v (.int .i64 7)).run Tryd.prog wx = .ok (.pointer (some (adr v 7))) wx := fun wx => by
    have := own1.rd.run_at (P := Tryd.prog) (w' := wx) bt.sl bsize (k := .i64) (i := 7) (by decide) (by decide)
    exact this
  have hlt : w.heap.size + 1 < w2.heap.size := by have := own1.lt _ b1; have := k2.size; omega
  go_wp2_with fail
  have own2 := (own1.keep k2 (fun _ _ h => h)).keep ((Keep.refl No w2).alloc (.cells (pkA 1 0 0 (gF wkB) (gT wkB)) 28)) (fun _ _ h => h)
  have gP := heap_alloc_new w2 (.cells (pkA 1 0 0 (gF wkB) (gT wkB)) 28)
  have kw2 : Keep No w (w2.alloc (.cells (pkA 1 0 0 (gF wkB) (gT wkB)) 28)) := (kw1.trans k2).alloc _
  refine (arpget_any (own2.rd.cut (l := 0) (h := 27) (by decide) (by decide)) (by decide) (ha.keep0 kw2)).mono ?_
  rintro x w3 ⟨rfl, k3⟩
  have e3 : getV ((wkB.drop 0).take (27 - 0)) = pkA 0 0 0 [] [] := by rfl
  rw [e3, show getE ((wkB.drop 0).take (27 - 0)) = 4 by rfl]
  have kw3 := kw2.trans k3
  have own3 := own2.keep k3 (fun _ _ h => h)
  have gP3 := k3.heap gP (fun h => h)
  have own4 := own3.keep ((Keep.refl No w3).alloc (.cells (pkA 0 0 0 [] []) 28)) (fun _ _ h => h)
  have hfr := own4.free (i := 7) (by decide)
  have hce := own4.rd.cell 7 (by decide)
  have hset := own4.set (i := 7) (by decide) 6
  go_wp2_with fail
  have hbv : blk v = w.heap.size + 1 := by
    have := own1.rd.block_eq (i := 0) (by decide)
    rw [b1] at this
    exact (Option.some.inj this).symm
  have k4 : Keep (One (blk v)) w3 ((w3.alloc (.cells (pkA 0 0 0 [] []) 28)).setCell (adr v 7) (.int .u8 6)) := ((Keep.refl _ _).alloc _).trans (Keep.set1 _ _ _ _)
  have kw4 := kw3.trans' k4 (by intro i hi (hh : i = blk v); omega)
  have gP4 := k4.heap gP3 (by intro (hh : _ = blk v); omega)
  change Own _ ((w3.alloc (.cells (pkA 0 0 0 [] []) 28)).setCell (adr v 7) (.int .u8 6)) v (wkB.set 7 6) at hset
  generalize (w3.alloc (.cells (pkA 0 0 0 [] []) 28)).setCell (adr v 7) (.int .u8 6) = w4 at *
  refine (arpget_any hset.rd (by decide) (ha.keep0 kw4)).mono ?_
  rintro x w5 ⟨rfl, k5⟩
  rw [show getV (wkB.set 7 6) = pkA 0 0 0 [] [] by rfl, wk_d]
  have kw5 := kw4.trans k5
  have gP5 := k5.heap gP4 (fun h => h)
  have y := fun o i (u : Value) (h : (pkA 1 0 0 (gF wkB) (gT wkB))[i]? = some u) => (cells_of (alloc_keeps gP5 o) i).trans h
  clear own1 own2 own3 own4 hset hce hfr hcut hat k1 k2 k3 k4 k5 kw1 kw2 kw3 kw4 gP gP3 gP4
  go_wp2_with fail
  refine (probes_any _ 1 0 0 (gF wkB) (gT wkB)).mono ?_
  rintro x w6 ⟨rfl, k6⟩
  rw [show probesR 1 0 = true from rfl]
  go_wp2_with fail
  go_ret
  exact ⟨rfl, (kw5.alloc _).trans k6⟩
end Go.Proofs.YtpididcghilbjaaDoor
