/-
  Cutters and pads beside the walk's rows. No condition.
-/
import Derived.Test.YtpididcghilbjaaShare
import Derived.Test.YtpididcghilbjaaCut
import Derived.Test.YtpididcghilbjaaPad
namespace Go.Proofs.Ytpididcghilbjaa
open Go.RowKit
section
variable {W0 w w' : World} {p : Nat} {sv : Value} {bs : List UInt8} {at_ : Nat} {e : Int} {rows : List RowS} {m' : Mem}
theorem Cu.same (h : Cu w p sv bs at_ e) (hle : w.heap.size ≤ w'.heap.size) (hp : w'.heap[p]? = w.heap[p]?) (hs : ∀ b, sv.ownBlock = some b → w'.heap[b]? = w.heap[b]?) : Cu w' p sv bs at_ e where
  c0 := (World.cell?_of_block hp).trans h.c0
  c1 := (World.cell?_of_block hp).trans h.c1
  c2 := (World.cell?_of_block hp).trans h.c2
  c3 := (World.cell?_of_block hp).trans h.c3
  fz := fun o => (World.frozen?_of_block (a := ⟨p, o, none⟩) hp).trans (h.fz o)
  rd := ⟨h.rd.shape, fun i hi => by rw [← h.rd.cell i hi]; exact World.cell?_of_block (hs _ (h.rd.block_eq hi))⟩
  apart := h.apart
  under := fun b hb => Nat.lt_of_lt_of_le (h.under b hb) hle
  le := h.le
  big := h.big
theorem Pd.same (h : Pd w p sv bs) (hp : w'.heap[p]? = w.heap[p]?) (hs : ∀ b, sv.ownBlock = some b → w'.heap[b]? = w.heap[b]?) : Pd w' p sv bs where
  c0 := (World.cell?_of_block hp).trans h.c0
  c1 := (World.cell?_of_block hp).trans h.c1
  fz := fun o => (World.frozen?_of_block (a := ⟨p, o, none⟩) hp).trans (h.fz o)
  own := h.own.same hs
  apart := h.apart
/-- Through a stretch of the walk: the cutter's blocks are none of the rows. -/
theorem Cu.walk (h : Cu w p sv bs at_ e) (hr : ∀ r ∈ rows, r.own = true → r.b ≠ p ∧ sv.ownBlock ≠ some r.b) (hS : Seg ⟨rows, w.heap.size⟩ w m' w') (hW : Wst W0 m' w') : Cu w' p sv bs at_ e :=
  h.same (by have := hS.le; rw [hW.size]; exact this) (hS.same p ⟨h.lt, fun r hm ho => (hr r hm ho).1⟩) (fun b hb => hS.same b ⟨h.under b hb, fun r hm ho e => (hr r hm ho).2 (by rw [e]; exact hb)⟩)
theorem Pd.walk (h : Pd w p sv bs) (hr : ∀ r ∈ rows, r.own = true → r.b ≠ p ∧ sv.ownBlock ≠ some r.b) (hS : Seg ⟨rows, w.heap.size⟩ w m' w') : Pd w' p sv bs :=
  h.same (hS.same p ⟨h.lt, fun r hm ho => (hr r hm ho).1⟩) (fun b hb => hS.same b ⟨h.own.lt b hb, fun r hm ho e => (hr r hm ho).2 (by rw [e]; exact hb)⟩)
end
end Go.Proofs.Ytpididcghilbjaa
