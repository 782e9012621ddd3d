/-
  Owned bytes: append of zeros, a byte written. No condition.
-/
import Derived.Test.YtpididcghilbjaaRow
import Derived.Lib.AppendZerosOnto
namespace Go.Proofs.Ytpididcghilbjaa
open Go.RowKit
section
variable {P : Program} {w : World} {v : Value} {bs : List UInt8}
theorem Own.set {e : TypeId} (h : Own e w v bs) {i : Nat} (hi : i < bs.length) (x : UInt8) : Own e (w.setCell (adr v i) (bv x)) v (bs.set i x) := by
  obtain ⟨g, cap, rfl⟩ := h.form (by omega)
  unfold Own at h ⊢
  have := World.ownsRow.stored h i (bv x)
  simp only [adr, blk, offs, Nat.zero_add]
  have e1 : bvs (bs.set i x) = (bvs bs).set i (bv x) := by simp [bvs, List.map_set]
  rw [e1, List.length_set]
  exact this.1
theorem Own.free {e : TypeId} (h : Own e w v bs) {i : Nat} (hi : i < bs.length) : w.frozen? (adr v i) = false := by
  obtain ⟨g, cap, rfl⟩ := h.form (by omega)
  unfold Own at h
  have := World.ownsRow.frozenAt h i
  simpa [adr, blk, offs] using this

theorem zeros_list (m : Nat) : (Builtin.zeroCells (Value.int .u8 0).cells m).toList = bvs (List.replicate m 0) := by
  apply List.ext_getElem
  · simp [Builtin.zeroCells, bvs, Value.cells]
  · intro i h1 h2
    simp [Builtin.zeroCells, bvs, Value.cells, Nat.mod_one]
theorem run_append_z {t tn e : TypeId} {kn : IntKind} (T : BT P t e) (htn : P.underlying tn = some (.int kn)) (ty : TypeId) {g n m : Nat} (o : Own e w (.slice (some ⟨g, 0, none⟩) n n) bs) (hn : n = bs.length) (hm : 0 < m) (hb : n + m ≤ 140737488351232) (k : IntKind) :
    ∃ v' w', (Builtin.append_ #[t, tn] ty #[.slice (some ⟨g, 0, none⟩) n n, .int k m]).run P w = .ok v' w' ∧ Own e w' v' (bs ++ List.replicate m 0) ∧ Keep No w w' ∧ v'.ownBlock = some w.heap.size := by
  obtain ⟨i, hi, hz1, hz2, hz3⟩ := T.info
  subst hn
  have hfit : Builtin.nextslicecap (bs.length + m) bs.length * i.bytes ≤ 281474976710656 := by
    have := growslice_fits (bytes := 1) (show bs.length < bs.length + m by omega) (by omega)
    rw [hz2]; omega
  have h := Lib.run_append_grow_zeros (P := P) w t tn ty e i (.int .u8 0) k kn T.sl htn hi hz3 (some ⟨g, 0, none⟩) bs.length bs.length (bvs bs) ?_ m hm (by omega) (by omega) (by omega) (by rw [hz2]; omega) hfit
  · have hge := grownCap_ge w (bs.length + m) bs.length e
    have hcm : grownCap w (bs.length + m) bs.length e ≤ maxLen := grownCap_le_maxLen w (bs.length + m) bs.length e (by simp only [maxLen]; omega)
    refine ⟨_, _, h, ⟨?_, .inr ⟨w.heap.size, _, _, ?_, Nat.zero_le _, heap_alloc_new w.drew _, ?_, hcm, ?_, ?_⟩⟩, ((Keep.refl _ _).drew).alloc _, rfl⟩
    · simp [bvs_length]
    · simp
    · simpa using hge
    · simp [Builtin.zeroCells, bvs_length, Value.cells]; omega
    · simp only [Array.toList_append, zeros_list, List.length_append, List.length_replicate, bvs_append]
      apply List.take_left'
      simp [bvs_length]
  · rw [hz1]
    refine run_firstCells_some w.drew 1 bs.length ⟨g, 0, none⟩ bs.length bs.length (bvs bs) (by simp [bvs_length]) (fun j v hj => ?_)
    have hl : j < bs.length := by
      rcases Nat.lt_or_ge j bs.length with h | h
      · exact h
      · rw [List.getElem?_eq_none (by simpa [bvs_length] using h)] at hj; cases hj
    rw [bvs_get hl] at hj
    have := o.rd.cell j hl
    cases hj
    rw [Addr_add_mk]
    simpa [blk, offs] using this

/-- 'append(s, make([]byte, m)...)' in a plain region's list. -/
theorem wpList_append_z {ops : Array Oper} {rest : List Oper} {o : Oper} {a : Act} {Q : Exit → Act → World → Prop} (hgd : o.guard = none) (s x : Operand) {t tn e : TypeId} {kn : IntKind} (T : BT P t e) (htn : P.underlying tn = some (.int kn))
    (ho : o.op = .call { callee := .builtin .append, args := #[s, x], argTypes := #[t, tn] }) {g n m : Nat} {k : IntKind} (hs : a.eval s = .slice (some ⟨g, 0, none⟩) n n) (own : Own e w (.slice (some ⟨g, 0, none⟩) n n) bs) (hn : n = bs.length) (hx : a.eval x = .int k m) (hm : 0 < m) (hb : n + m ≤ 140737488351232)
    (h : ∀ v' w', Own e w' v' (bs ++ List.replicate m 0) → Keep No w w' → v'.ownBlock = some w.heap.size → wpList P ops Q rest (a.put o.dst v') w') : wpList P ops Q (o :: rest) a w :=
  wpList_plain hgd fun _ hK => by
    obtain ⟨v', w', hr, h2, h3, h4⟩ := run_append_z (P := P) (w := w) T htn o.type own hn hm hb k
    unfold Oper.wp execOp
    simp only [ho, resolve, invoke, builtin, Sem.run_bind, Sem.run_pure, Result.andThen_ok, List.map_toArray, List.map_cons, List.map_nil, hs, hx, hr]
    exact hK _ _ (h v' w' h2 h3 h4)
end
end Go.Proofs.Ytpididcghilbjaa
