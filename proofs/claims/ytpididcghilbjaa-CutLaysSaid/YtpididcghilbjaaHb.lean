/-
  Slices of bytes, held through a walk. No condition.
-/
import Derived.Test.YtpididcghilbjaaShare
namespace Go.Proofs.Ytpididcghilbjaa
open Go.RowKit

theorem Under.mono {n m : Nat} {v : Value} (h : Under n v) (hm : n ≤ m) : Under m v := fun b hb => Nat.lt_of_lt_of_le (h b hb) hm
abbrev pT (b : Nat) : Value := .pointer (some ⟨b, 0, none⟩)
/-- v lies in none of the rows' blocks. -/
def Ap (rows : List RowS) (v : Value) : Prop := ∀ b, v.ownBlock = some b → ∀ r ∈ rows, r.b ≠ b
theorem Ap.nil (v : Value) : Ap [] v := fun _ _ _ h => nomatch h
theorem Ap.add {rows more : List RowS} {v : Value} {n : Nat} (h : Ap rows v) (hl : Under n v) (hm : ∀ r ∈ more, n ≤ r.b) : Ap (rows ++ more) v := fun b hb r hr => by
  rcases List.mem_append.1 hr with hr | hr
  · exact h b hb r hr
  · have := hm r hr
    have := hl b hb
    omega
theorem Ap.fresh {W0 w : World} {rows : List RowS} {v : Value} (hW : Wst W0 ⟨rows, w.heap.size⟩ w) (hs : Since w.heap.size v) : Ap rows v := fun b hb r hr => by
  obtain ⟨t, ht⟩ := hW.rows r hr
  have := block_of_row ht
  have := hs b hb
  omega
theorem Ap.fewer {rows more : List RowS} {v : Value} (h : Ap (rows ++ more) v) : Ap rows v := fun b hb r hr => h b hb r (List.mem_append.2 (.inl hr))
structure HdB (rows : List RowS) (w : World) (v : Value) (bs : List UInt8) : Prop where
  rd : Rd w v bs
  lt : Under w.heap.size v
  ap : Ap rows v
section
variable {W0 w w' : World} {rows : List RowS} {v : Value} {bs : List UInt8}
theorem HdB.pass (more : List RowS) (h : HdB rows w v bs) (hS : Seg ⟨rows, w.heap.size⟩ w ⟨rows ++ more, w'.heap.size⟩ w') (hm : ∀ r ∈ more, w.heap.size ≤ r.b) : HdB (rows ++ more) w' v bs :=
  ⟨h.rd.safe (fun b hb => ⟨h.lt b hb, fun r hr _ => h.ap b hb r hr⟩) hS.same, h.lt.mono hS.le, h.ap.add h.lt hm⟩
theorem HdB.pass0 (h : HdB rows w v bs) (hS : Seg ⟨rows, w.heap.size⟩ w ⟨rows, w'.heap.size⟩ w') : HdB rows w' v bs :=
  ⟨h.rd.safe (fun b hb => ⟨h.lt b hb, fun r hr _ => h.ap b hb r hr⟩) hS.same, h.lt.mono hS.le, h.ap⟩
theorem HdB.call (h : HdB rows w v bs) (k : Keep No w w') : HdB rows w' v bs := ⟨h.rd.keep0 k, h.lt.mono k.size, h.ap⟩
theorem HdB.fewer {more : List RowS} (h : HdB (rows ++ more) w v bs) : HdB rows w v bs := ⟨h.rd, h.lt, h.ap.fewer⟩
theorem HdB.none (h : HdB rows w v bs) : HdB [] w v bs := ⟨h.rd, h.lt, Ap.nil _⟩
theorem Fresh.hd (f : Fresh w bs v w') (hW : Wst W0 ⟨rows, w.heap.size⟩ w) : HdB rows w' v bs := ⟨f.own.rd, f.own.lt, Ap.fresh hW f.since⟩
end
end Go.Proofs.Ytpididcghilbjaa
