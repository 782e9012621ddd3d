/-
  Slices of tags, of bytes, held through a walk; rows that a region turns. No condition.
-/
import Derived.Test.YtcimfojbggckhaaDoorTagWakes
namespace Go.Proofs.YtcimfojbggckhaaDoor
open Go.RowKit

/-- v lies in none of the rows' blocks. -/
def Ap (rows : List RowS) (v : Value) : Prop := ∀ b, v.ownBlock = some b → ∀ r ∈ rows, r.b ≠ b
theorem Ap.nil (v : Value) : Ap [] v := fun _ _ _ h => nomatch h
theorem Ap.add {rows more : List RowS} {v : Value} {n : Nat} (h : Ap rows v) (hl : Under n v) (hm : ∀ r ∈ more, n ≤ r.b) : Ap (rows ++ more) v := fun b hb r hr => by
  rcases List.mem_append.1 hr with hr | hr
  · exact h b hb r hr
  · have := hm r hr
    have := hl b hb
    omega
theorem Ap.fresh {W0 w : World} {rows : List RowS} {v : Value} (hW : Wst W0 ⟨rows, w.heap.size⟩ w) (hs : Since w.heap.size v) : Ap rows v := fun b hb r hr => by
  obtain ⟨t, ht⟩ := hW.rows r hr
  have := block_of_row ht
  have := hs b hb
  omega
theorem Ap.fewer {rows more : List RowS} {v : Value} (h : Ap (rows ++ more) v) : Ap rows v := fun b hb r hr => h b hb r (List.mem_append.2 (.inl hr))
structure Hd (rows : List RowS) (w : World) (v : Value) (l : List Tg) : Prop where
  rt : Rt w v l
  lt : Under w.heap.size v
  ap : Ap rows v
structure HdB (rows : List RowS) (w : World) (v : Value) (bs : List UInt8) : Prop where
  rd : Rd w v bs
  lt : Under w.heap.size v
  ap : Ap rows v
section
variable {W0 w w' : World} {rows : List RowS} {v : Value} {l : List Tg} {bs : List UInt8}
theorem Hd.pass (more : List RowS) (h : Hd rows w v l) (hS : Seg ⟨rows, w.heap.size⟩ w ⟨rows ++ more, w'.heap.size⟩ w') (hm : ∀ r ∈ more, w.heap.size ≤ r.b) : Hd (rows ++ more) w' v l :=
  ⟨h.rt.same fun b hb _ => hS.same b ⟨h.lt b hb, fun r hr _ => h.ap b hb r hr⟩, h.lt.mono hS.le, h.ap.add h.lt hm⟩
theorem HdB.pass (more : List RowS) (h : HdB rows w v bs) (hS : Seg ⟨rows, w.heap.size⟩ w ⟨rows ++ more, w'.heap.size⟩ w') (hm : ∀ r ∈ more, w.heap.size ≤ r.b) : HdB (rows ++ more) w' v bs :=
  ⟨h.rd.safe (fun b hb => ⟨h.lt b hb, fun r hr _ => h.ap b hb r hr⟩) hS.same, h.lt.mono hS.le, h.ap.add h.lt hm⟩
theorem Hd.pass0 (h : Hd rows w v l) (hS : Seg ⟨rows, w.heap.size⟩ w ⟨rows, w'.heap.size⟩ w') : Hd rows w' v l :=
  ⟨h.rt.same fun b hb _ => hS.same b ⟨h.lt b hb, fun r hr _ => h.ap b hb r hr⟩, h.lt.mono hS.le, h.ap⟩
theorem HdB.pass0 (h : HdB rows w v bs) (hS : Seg ⟨rows, w.heap.size⟩ w ⟨rows, w'.heap.size⟩ w') : HdB rows w' v bs :=
  ⟨h.rd.safe (fun b hb => ⟨h.lt b hb, fun r hr _ => h.ap b hb r hr⟩) hS.same, h.lt.mono hS.le, h.ap⟩
theorem Hd.call (h : Hd rows w v l) (k : Keep No w w') : Hd rows w' v l := ⟨h.rt.keep0 k, h.lt.mono k.size, h.ap⟩
theorem HdB.call (h : HdB rows w v bs) (k : Keep No w w') : HdB rows w' v bs := ⟨h.rd.keep0 k, h.lt.mono k.size, h.ap⟩
theorem Hd.fewer {more : List RowS} (h : Hd (rows ++ more) w v l) : Hd rows w v l := ⟨h.rt, h.lt, h.ap.fewer⟩
theorem HdB.fewer {more : List RowS} (h : HdB (rows ++ more) w v bs) : HdB rows w v bs := ⟨h.rd, h.lt, h.ap.fewer⟩
theorem Hd.none (h : Hd rows w v l) : Hd [] w v l := ⟨h.rt, h.lt, Ap.nil _⟩
theorem HdB.none (h : HdB rows w v bs) : HdB [] w v bs := ⟨h.rd, h.lt, Ap.nil _⟩
theorem FreshR.hd (f : FreshR w l v w') (hW : Wst W0 ⟨rows, w.heap.size⟩ w) : Hd rows w' v l := ⟨f.rt, f.lt, Ap.fresh hW f.since⟩
theorem Fresh.hd (f : Fresh w bs v w') (hW : Wst W0 ⟨rows, w.heap.size⟩ w) : HdB rows w' v bs := ⟨f.own.rd, f.own.lt, Ap.fresh hW f.since⟩
theorem Hd.semld (h : Hd rows w v l) {P : Program} {t e : TypeId} (T : ET P t e) {i : Nat} (hi : i < l.length) (wx : World) (hx : ∀ k, Safe ⟨rows, w.heap.size⟩ k → wx.heap[k]? = w.heap[k]?) : (Instr.loadAt e (.pointer (some (adt v i)))).run P wx = .ok (.agg (l[i]).a) wx :=
  (h.rt.same fun b hb _ => hx b ⟨h.lt b hb, fun r hr _ => h.ap b hb r hr⟩).sem_ld T hi
end

/-! ### rows that a region turns -/
def RowsK (S : Nat → Prop) (bs : Nat → List (Nat × List Value)) : Nat → Gh → World → Prop := fun k g w => g.priv = S ∧ ∀ q ∈ bs k, ∃ t, w.heap[q.1]? = some (.cells q.2.toArray t (0, 0))
theorem RowsK.keep {S : Nat → Prop} {bs : Nat → List (Nat × List Value)} : ∀ (k : Nat) (g : Gh) (w w' : World), Keep No w w' → RowsK S bs k g w → RowsK S bs k g w' :=
  fun _ _ _ _ kp ⟨h1, h2⟩ => ⟨h1, fun q hq => by obtain ⟨t, ht⟩ := h2 q hq; exact ⟨t, (kp.block _ (block_of_row ht) (fun f => f)).trans ht⟩⟩
section
variable {P : Program} {S : Nat → Prop} {W w0 : World} {bs : Nat → List (Nat × List Value)}
theorem early_loadR {b : Nat} {cs : List Value} {e ty : TypeId} {p : Tmp} {V : Value} (hm : (b, cs) ∈ bs 0) (l : List (Nat × Nat)) (hl : ∀ q ∈ l, q.1 = q.2)
    (hq : ∀ nx, gRun P (some 0) (Instr.loadAt e (.pointer (some ⟨b, 0, none⟩))) ⟨[⟨b, cs, false⟩], nx⟩ = some (V, ⟨[⟨b, cs, false⟩], nx⟩, l)) :
    EarlyM P S w0 (RowsK S bs) (.load e (.tmp p)) ty [(p, .is (.pointer (some ⟨b, 0, none⟩)))] (.is V) := by
  intro a o g w ho _ hk hb hd hr
  obtain ⟨hp, hrows⟩ := hd
  obtain ⟨t, hrow⟩ := hrows _ hm
  have e1 : a.tmps.getD p undef = .pointer (some ⟨b, 0, none⟩) := hr (p, .is (.pointer (some ⟨b, 0, none⟩))) (by simp)
  have hW : Wst w ⟨[⟨b, cs, false⟩], w.heap.size⟩ w := Wst.start w _ (fun r hr => by obtain rfl := List.mem_singleton.1 hr; exact ⟨rfl, t, hrow⟩) (by simp)
  obtain ⟨w', h1, h2, h3⟩ := gRun_ok hW (hq w.heap.size) hl
  have he : (execOp a.eval o).run P w = .ok (.value V) w' := by
    unfold execOp
    simp only [ho, Sem.run_bind, Sem.run_pure]
    rw [show a.eval (.tmp p) = .pointer (some ⟨b, 0, none⟩) from e1, h1]; rfl
  rw [he]
  exact ⟨h2.keep, rfl⟩
theorem act_storeR {b r : Nat} {cs0 cs1 : List Value} {e ty : TypeId} {p v : Tmp} {V : Value} (hK : ∀ w, Keep S w0 w → Keep No W w) (hb0 : W.heap.size ≤ b) (hS : S b) (hm : (b, cs0) ∈ bs r) (hn : ∀ q ∈ bs (r + 1), q = (b, cs1) ∨ (q ∈ bs r ∧ q.1 ≠ b)) (l : List (Nat × Nat)) (hl : ∀ q ∈ l, q.1 = q.2)
    (hq : ∀ nx, gRun P (some 0) (Instr.storeAt e (.pointer (some ⟨b, 0, none⟩)) V) ⟨[⟨b, cs0, true⟩], nx⟩ = some ((), ⟨[⟨b, cs1, true⟩], nx⟩, l)) :
    ActM P S w0 (RowsK S bs) r (.store e (.tmp p) (.tmp v)) ty [(p, .is (.pointer (some ⟨b, 0, none⟩))), (v, .is V)] (.is undef) := by
  intro a o g w ho _ hk hb hd hr
  obtain ⟨hp, hrows⟩ := hd
  obtain ⟨t, hrow⟩ := hrows _ hm
  have e1 : a.tmps.getD p undef = .pointer (some ⟨b, 0, none⟩) := hr (p, .is (.pointer (some ⟨b, 0, none⟩))) (by simp)
  have e2 : a.tmps.getD v undef = V := hr (v, .is V) (by simp)
  have hW : Wst W ⟨[⟨b, cs0, true⟩], w.heap.size⟩ w := ⟨rfl, fun r hr => by obtain rfl := List.mem_singleton.1 hr; exact ⟨t, hrow⟩, by simp, fun r hr _ => by obtain rfl := List.mem_singleton.1 hr; exact hb0, hK w hk⟩
  obtain ⟨w', h1, h2, h3⟩ := gRun_ok hW (hq w.heap.size) hl
  have he : (execOp a.eval o).run P w = .ok .skip w' := by
    unfold execOp
    simp only [ho, Sem.run_bind, Sem.run_pure]
    rw [show a.eval (.tmp p) = .pointer (some ⟨b, 0, none⟩) from e1, show a.eval (.tmp v) = V from e2, h1]; rfl
  rw [he]
  obtain ⟨t', ht⟩ := h2.rows _ (List.mem_singleton.2 rfl)
  have hk0 := hK w hk
  have hsame : ∀ k, k < w.heap.size → k ≠ b → w'.heap[k]? = w.heap[k]? := fun k hkl hn => h3.same k ⟨hkl, fun r hr _ => by obtain rfl := List.mem_singleton.1 hr; exact fun e => hn e.symm⟩
  refine ⟨g, ⟨⟨h2.keep.os.trans hk0.os.symm, h2.keep.tape.trans hk0.tape.symm, h2.keep.output.trans hk0.output.symm, by rw [h2.size]; exact Nat.le_refl _, fun k hkl hn => hsame k hkl fun e => hn (by rw [hp, e]; exact hS)⟩, fun k h => .inl h, fun h => ⟨h, rfl⟩⟩, ?_, ⟨hp, fun q hq => ?_⟩, rfl⟩
  · intro k h
    exact ⟨by have := (hb k h).1; rw [h2.size]; exact this, (hb k h).2⟩
  · rcases hn q hq with rfl | ⟨h, hne⟩
    · exact ⟨t', ht⟩
    · obtain ⟨t2, ht2⟩ := hrows q h
      exact ⟨t2, (hsame q.1 (block_of_row ht2) hne).trans ht2⟩
end
end Go.Proofs.YtcimfojbggckhaaDoor
