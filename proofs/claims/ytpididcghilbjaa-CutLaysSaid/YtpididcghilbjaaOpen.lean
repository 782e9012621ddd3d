/-
  From the row's reading of an argument to the walk's words: bytes that came in. No condition.
-/
import Derived.Test.YtpididcghilbjaaClone
import Derived.ProofKit
import Derived.OpenShut
import Derived.ShutString
import Derived.ChangeOld
import Derived.Below
namespace Go.Proofs.Ytpididcghilbjaa
open Go.RowKit Go.ChangeShapes Go.WideShapes Go.ChangeAt

theorem own : ownKnob Try.prog.godebug = none := by kernel_rfl
theorem laidOut : laidOutB Try.prog = true := by kernel_rfl

theorem Keep.to_below {w w' : World} (h : Keep No w w') : Below w.heap.size w w' := ⟨h.os, h.tape, h.output, h.size, fun k hk => h.block k hk (fun f => f)⟩

theorem wf_u8 {n : Int} (h : (Lit.int .u8 n).wf = true) : 0 ≤ n ∧ n < 256 := by
  have := bounds_u8 h
  omega
theorem byte_of_int {n : Int} (h : 0 ≤ n ∧ n < 256) : ((UInt8.ofNat n.toNat).toNat : Int) = n := by
  have h2 : n.toNat < 256 := by omega
  rw [UInt8.toNat_ofNat_of_lt' (by simpa using h2)]
  omega

theorem spot_of_cell {w : World} {x : Addr} {v : Value} (h : w.cell? x = some v) : x.spot = none := by
  unfold World.cell? at h
  split at h
  · split at h
    · cases h
    · rename_i hs; simpa using hs
  · cases h

/-- A slice of bytes that came in reads as a list of bytes. -/
theorem open_bytes {H : Type} {enc : TypeId × Value → H} {w : World} {t : TypeId} {a : Option Addr} {len cap m f : Nat} {cs : List Value} {x : DataW H × List MemPlace} {held : Bool}
    (ht : Try.prog.underlying t = some (.slice 5)) (hcs : cs = [.slice a len cap]) (hf : DataW.trod enc Try.prog w m (fun _ => true) held f t cs = some x) :
    ∃ bs, Rd w (.slice a len cap) bs ∧ bs.length = len := by
  subst hcs
  rcases open_ints ht Try.underlying5 (by kernel_rfl) hf with ⟨hcs, _⟩ | ⟨y, l, c, zs, hcs, _, hl, hm, hz, hx, hcell, hwz⟩
  · simp at hcs
    obtain ⟨rfl, rfl, rfl⟩ := hcs
    exact ⟨[], Rd.nil w, rfl⟩
  · simp at hcs
    obtain ⟨rfl, rfl, rfl⟩ := hcs
    have hz' : zs.length = cap := by simpa using hz
    have hb : ∀ i, i < zs.length → ((UInt8.ofNat (zs.getD i 0).toNat).toNat : Int) = zs.getD i 0 := fun i hi => byte_of_int (wf_u8 (hwz _ (by rw [List.getD_eq_getElem?_getD, List.getElem?_eq_getElem hi]; simp)))
    refine ⟨(zs.take len).map fun n => UInt8.ofNat n.toNat, ?_, by simp; omega⟩
    · have hlen : ((zs.take len).map fun n => UInt8.ofNat n.toNat).length = len := by simp; omega
      have sp : 0 < len → y = ⟨y.block, y.off, none⟩ := fun h => by
        have := spot_of_cell (hcell 0 (by omega))
        simp [Addr.add] at this
        cases y
        simp_all
      refine ⟨⟨some y, cap, by rw [hlen], by rw [hlen]; exact hl, hm, by simp, fun h => ⟨y.block, y.off, by rw [hlen] at h; rw [← sp h]⟩⟩, fun i hi => ?_⟩
      rw [hlen] at hi
      have h1 := hcell i (by omega)
      rw [sp (by omega), Addr_add_mk] at h1
      have h2 : byteAt ((zs.take len).map fun n => UInt8.ofNat n.toNat) i = UInt8.ofNat (zs.getD i 0).toNat := by
        simp only [byteAt, List.getD_eq_getElem?_getD, List.getElem?_map, List.getElem?_take, if_pos hi]
        rw [List.getElem?_eq_getElem (by omega : i < zs.length)]
        simp
      rw [h2, hb i (by omega)]
      exact h1
end Go.Proofs.Ytpididcghilbjaa
