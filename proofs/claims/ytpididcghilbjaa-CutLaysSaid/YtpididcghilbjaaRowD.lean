/-
  A row made and filled within a region of any order. No condition.
-/
import Derived.Test.YtpididcghilbjaaPadM
namespace Go.Proofs.Ytpididcghilbjaa
open Go.RowKit

/-- Made: the row with its first cells; filled: with its last. -/
def RowD (cs0 cs1 : List Value) (w0 : World) : Nat → Gh → World → Prop
  | 0, g, _ => ¬ g.live ∧ ∀ b, ¬ g.priv b
  | k + 1, g, w => g.live ∧ ∃ b t, g.val = .pointer (some ⟨b, 0, none⟩) ∧ g.priv = (fun j => j = b) ∧ w0.heap.size ≤ b ∧ w.heap[b]? = some (.cells (if k = 0 then cs0 else cs1).toArray t (0, 0))
theorem RowD.keep {cs0 cs1 : List Value} {w0 : World} : ∀ (k : Nat) (g : Gh) (w w' : World), Keep No w w' → RowD cs0 cs1 w0 k g w → RowD cs0 cs1 w0 k g w'
  | 0, _, _, _, _, h => h
  | _ + 1, _, _, _, kp, ⟨h1, b, t, h2, h3, h4, h5⟩ => ⟨h1, b, t, h2, h3, h4, (kp.block b (block_of_row h5) (fun f => f)).trans h5⟩
theorem noGh_R {cs0 cs1 : List Value} {w0 w : World} : RowD cs0 cs1 w0 0 noGh w := ⟨fun h => h, fun _ h => h⟩

section
variable {P : Program} {w0 : World} {cs0 cs1 : List Value}
theorem act_alloc {e ty : TypeId} (hq : ∀ nx, gRun P none (Instr.alloc e true (.tuple #[])) ⟨[], nx⟩ = some (.pointer (some ⟨nx, 0, none⟩), ⟨[⟨nx, cs0, true⟩], nx + 1⟩, [])) :
    ActM P No w0 (RowD cs0 cs1 w0) 0 (.alloc e) ty [] padS := by
  intro a o g w ho _ hk _ hd _
  obtain ⟨w', h1, h2, _⟩ := gRun_ok (Wst.start0 w) (hq w.heap.size) (fun _ h => nomatch h)
  have he : (execOp a.eval o).run P w = .ok (.value (.pointer (some ⟨w.heap.size, 0, none⟩))) w' := by
    unfold execOp
    simp only [ho, Sem.run_bind, Sem.run_pure]
    rw [h1]; rfl
  rw [he]
  obtain ⟨t, ht⟩ := h2.rows _ (List.mem_singleton.2 rfl)
  have hs : w0.heap.size ≤ w.heap.size := hk.size
  refine ⟨⟨True, .pointer (some ⟨w.heap.size, 0, none⟩), fun j => j = w.heap.size⟩, ⟨h2.keep.no, fun k h => .inr (Nat.le_of_eq (Eq.symm h)), fun h => absurd h hd.1⟩, ?_, ⟨trivial, _, t, rfl, rfl, hs, ht⟩, ⟨trivial, rfl⟩⟩
  rintro k rfl
  exact ⟨block_of_row ht, fun h => absurd h (Nat.not_lt.2 hs)⟩
theorem act_store {e ty : TypeId} {p v : Tmp} {V : Value} (l : Nat → List (Nat × Nat)) (hl : ∀ b, ∀ q ∈ l b, q.1 = q.2)
    (hq : ∀ b nx, gRun P (some 0) (Instr.storeAt e (.pointer (some ⟨b, 0, none⟩)) V) ⟨[⟨b, cs0, true⟩], nx⟩ = some ((), ⟨[⟨b, cs1, true⟩], nx⟩, l b)) :
    ActM P No w0 (RowD cs0 cs1 w0) 1 (.store e (.tmp p) (.tmp v)) ty [(p, padS), (v, .is V)] (.is undef) := by
  intro a o g w ho _ hk hb hd hr
  obtain ⟨hlive, b, t, hv, hp, hb0, hrow⟩ := hd
  simp only [if_true] at hrow
  have e1 : a.tmps.getD p undef = .pointer (some ⟨b, 0, none⟩) := (hr (p, padS) (by simp)).2.trans hv
  have e2 : a.tmps.getD v undef = V := hr (v, .is V) (by simp)
  have hW : Wst w0 ⟨[⟨b, cs0, true⟩], w.heap.size⟩ w := ⟨rfl, fun r hr => by obtain rfl := List.mem_singleton.1 hr; exact ⟨t, hrow⟩, by simp, fun r hr _ => by obtain rfl := List.mem_singleton.1 hr; exact hb0, hk⟩
  obtain ⟨w', h1, h2, h3⟩ := gRun_ok hW (hq b w.heap.size) (hl b)
  have he : (execOp a.eval o).run P w = .ok .skip w' := by
    unfold execOp
    simp only [ho, Sem.run_bind, Sem.run_pure]
    rw [show a.eval (.tmp p) = .pointer (some ⟨b, 0, none⟩) from e1, show a.eval (.tmp v) = V from e2, h1]; rfl
  rw [he]
  obtain ⟨t', ht⟩ := h2.rows _ (List.mem_singleton.2 rfl)
  refine ⟨g, ⟨⟨h2.keep.os.trans hk.os.symm, h2.keep.tape.trans hk.tape.symm, h2.keep.output.trans hk.output.symm, by rw [h2.size]; exact Nat.le_refl _, fun k hkl hn => h3.same k ⟨hkl, fun r hr _ => ?_⟩⟩, fun k h => .inl h, fun h => ⟨h, rfl⟩⟩, ?_, ⟨hlive, b, t', hv, hp, hb0, ht⟩, rfl⟩
  · obtain rfl := List.mem_singleton.1 hr
    intro e
    exact hn (by rw [hp]; exact e.symm)
  · intro k h
    exact ⟨by have := (hb k h).1; rw [h2.size]; exact this, (hb k h).2⟩
end
/-- A row more that is known. -/
theorem Wst.addRow {W0 w : World} {rows : List RowS} {b : Nat} {cs : List Value} {t : TypeId} (h : Wst W0 ⟨rows, w.heap.size⟩ w) (hr : w.heap[b]? = some (.cells cs.toArray t (0, 0))) (hb : W0.heap.size ≤ b) (hn : ∀ r ∈ rows, r.b ≠ b) :
    Wst W0 ⟨rows ++ [⟨b, cs, true⟩], w.heap.size⟩ w := by
  refine ⟨rfl, fun r hm => ?_, ?_, fun r hm ho => ?_, h.keep⟩
  · rcases List.mem_append.1 hm with hm | hm
    · exact h.rows r hm
    · obtain rfl := List.mem_singleton.1 hm; exact ⟨t, hr⟩
  · simp only [List.map_append, List.map_cons, List.map_nil]
    rw [List.nodup_append]
    refine ⟨h.one, by simp, ?_⟩
    intro a ha c hc
    obtain ⟨r, hr', rfl⟩ := List.mem_map.1 ha
    obtain rfl := List.mem_singleton.1 hc
    exact hn r hr'
  · rcases List.mem_append.1 hm with hm | hm
    · exact h.own r hm ho
    · obtain rfl := List.mem_singleton.1 hm; exact hb
theorem Goal.re {P : Program} {Q : Exit → Act → World → Prop} {n : Nat} {fr : Tmp → Option Value} {tags tags' : Tmp → Option Nat} {m m' : Mem} {T : List K} {w : World} (h : Goal P Q n ⟨fr, tags, m, T⟩ w) : Goal P Q n ⟨fr, tags', m', T⟩ w := h
/-- Bytes that can be read, as a thing known of a value. -/
def rdS (bs : List UInt8) : Sv := .such (fun w x => Rd w x bs) (fun _ _ _ k h => h.keep0 k)
end Go.Proofs.Ytpididcghilbjaa
