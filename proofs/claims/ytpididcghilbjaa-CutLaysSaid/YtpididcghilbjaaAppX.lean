/-
  An append to bytes of one's own in the walk, with where it went; a row of bytes that is owned. No condition.
-/
import Derived.Test.YtpididcghilbjaaShare
namespace Go.Proofs.Ytpididcghilbjaa
open Go.RowKit
section
variable {P : Program} {W0 : World} {Q : Exit → Act → World → Prop} {n : Nat} {gt : Nat → Option Nat} {unroll : Bool}
/-- Run to an append of bytes. -/
theorem go_appB (fuel : Nat) (hs : List (Nat × Nat × HintS)) (u s : Value) (t e : TypeId) (ts : List Tmp) (vs : List Value) (r : Tmp) (rows : List RowS) (tg : List (Nat × Nat)) (T : List K) (eqs : List (Value × Value)) (sems : List (Sem Value × Value)) {c : Cfg} {w : World} (B : BT P t e)
    (hW : Wst W0 c.m w)
    (he : ((atApp n (run P n gt unroll hs fuel c).1, ts.map (run P n gt unroll hs fuel c).1.fr, (run P n gt unroll hs fuel c).1.m.rows, callDst (run P n gt unroll hs fuel c).1, (run P n gt unroll hs fuel c).2.eqs, (run P n gt unroll hs fuel c).2.sems), (run P n gt unroll hs fuel c).2.blks.map (·.1)) =
      ((some (u, s, t, t), vs.map some, rows, some (r, T), eqs, sems), (run P n gt unroll hs fuel c).2.blks.map (·.2)))
    (h1 : Eqs eqs) (h2 : SemObs P c.m w sems)
    (hk : ∀ w', Wst W0 ⟨rows, w'.heap.size⟩ w' → Seg c.m w ⟨rows, w'.heap.size⟩ w' → ∃ bs ys, Own e w' u bs ∧ Rd w' s ys ∧ bs.length + ys.length ≤ 140737488351232 ∧
      ∀ v w2, Own e w2 v (bs ++ ys) → Keep (fun k => u.ownBlock = some k) w' w2 → (v.ownBlock = u.ownBlock ∨ v.ownBlock = some w'.heap.size) → Goal P Q n ⟨frOf (r :: ts) (v :: vs), tagL tg, ⟨rows, w2.heap.size⟩, T⟩ w2) : Goal P Q n c w := by
  simp only [Prod.mk.injEq] at he
  obtain ⟨⟨e1, e0, er, ed, e2, e3⟩, e4⟩ := he
  refine run_ok fuel hW (Seg.refl _ _) ⟨?_, all_of_maps e4, ?_⟩ fun w' hW' hS' => ?_
  · rw [e2]; exact h1.mem
  · rw [e3]; exact h2.mem
  · have em : (run P n gt unroll hs fuel c).1.m = ⟨rows, w'.heap.size⟩ := by rw [← er, hW'.size]
    rw [em] at hW' hS'
    obtain ⟨bs, ys, own, rd, hn, hg⟩ := hk w' hW' hS'
    obtain ⟨v, w2, hr, ho, hkp, hblk, _⟩ := run_append_b (P := P) (w := w') B 0 own rd hn
    have hr' : ∀ ty, (Builtin.append_ #[t, t] ty #[u, s]).run P w' = .ok v w2 := fun ty => hr
    exact app_ok e1 hr' (goal_at ed e0 (hg v w2 ho hkp hblk))
end
theorem Own.of_row {e : TypeId} {w : World} {b : Nat} {bs : List UInt8} (hg : w.heap[b]? = some (.cells (bvs bs).toArray e (0, 0))) (hm : bs.length ≤ maxLen) : Own e w (.slice (some ⟨b, 0, none⟩) bs.length bs.length) bs :=
  ⟨by simp [bvs_length], .inr ⟨b, bs.length, (bvs bs).toArray, rfl, Nat.zero_le _, hg, Nat.le_refl _, hm, by simp [bvs_length], by simp [← bvs_length bs]⟩⟩
end Go.Proofs.Ytpididcghilbjaa
