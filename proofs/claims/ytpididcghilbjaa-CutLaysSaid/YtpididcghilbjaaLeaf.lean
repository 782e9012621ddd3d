/-
  From the row's reading of a struct, or of a slice of structs, to the walk's words. No condition.
-/
import Derived.Test.YtpididcghilbjaaOpen
namespace Go.Proofs.Ytpididcghilbjaa
open Go.RowKit Go.ChangeShapes Go.WideShapes Go.ChangeAt

/-- The type of cell j of a value of type t, where that cell is a number, a bool, a string or a slice. -/
def leafAt (P : Program) : Nat → TypeId → Nat → Option TypeId
  | 0, _, _ => none
  | d + 1, t, j =>
    match P.underlying t with
    | some (.struct fs) => (fs.toList.find? fun f => decide (f.offset ≤ j ∧ j < f.offset + P.cellsOf f.type)).bind fun f => leafAt P d f.type (j - f.offset)
    | some (.array n e) => if j / P.cellsOf e < n ∧ 0 < P.cellsOf e then leafAt P d e (j % P.cellsOf e) else none
    | some (.int _) => if j = 0 then some t else none
    | some .bool => if j = 0 then some t else none
    | some .string => if j = 0 then some t else none
    | some (.slice _) => if j = 0 then some t else none
    | _ => none

section
variable {H : Type} {enc : TypeId × Value → H} {P : Program} {w : World} {base : Nat} {spare : Nat → Bool} {held : Bool}

theorem trod_one {t : TypeId} {cs : List Value} {f : Nat} {x : DataW H × List MemPlace} (h : DataW.trod enc P w base spare held f t cs = some x)
    (ht : (∃ k, P.underlying t = some (.int k)) ∨ P.underlying t = some .bool ∨ P.underlying t = some .string ∨ ∃ e, P.underlying t = some (.slice e)) : ∃ c, cs = [c] := by
  rcases ht with ⟨k, ht⟩ | ht | ht | ⟨e, ht⟩
  · obtain ⟨n, rfl, _⟩ := DataW.trod_int ht h; exact ⟨_, rfl⟩
  · obtain ⟨n, rfl, _⟩ := DataW.trod_bool ht h; exact ⟨_, rfl⟩
  · obtain ⟨n, rfl, _⟩ := DataW.trod_string ht h; exact ⟨_, rfl⟩
  · rcases DataW.trod_slice ht h with ⟨rfl, _⟩ | ⟨a, len, cap, _, _, _, _, rfl, _⟩ <;> exact ⟨_, rfl⟩

theorem trod_leaf : ∀ (d : Nat) {t t' : TypeId} {j : Nat} {cs : List Value} {f : Nat} {x : DataW H × List MemPlace},
    DataW.trod enc P w base spare held f t cs = some x → leafAt P d t j = some t' → ∃ f' y c, cs[j]? = some c ∧ DataW.trod enc P w base spare held f' t' [c] = some y
  | 0, _, _, _, _, _, _, _, hl => by simp [leafAt] at hl
  | d + 1, t, t', j, cs, f, x, h, hl => by
    unfold leafAt at hl
    split at hl
    · rename_i fs ht
      rw [Option.bind_eq_some_iff] at hl
      obtain ⟨fd, h1, h2⟩ := hl
      have hm := List.mem_of_find?_eq_some h1
      have hp := List.find?_some h1
      simp only [decide_eq_true_eq] at hp
      obtain ⟨xs, n, _, _, _, hlen, hall⟩ := DataW.trod_struct ht h
      obtain ⟨i, hi⟩ := List.mem_iff_getElem?.1 hm
      have hi' : fs[i]? = some fd := by simpa using hi
      have hi2 : i < fs.size := by
        rcases Nat.lt_or_ge i fs.size with h | h
        · exact h
        · rw [Array.getElem?_eq_none h] at hi'; cases hi'
      have h3 := hall i fd hi'
      rw [List.getElem?_eq_getElem (by omega : i < xs.length)] at h3
      obtain ⟨f', y, c, h4, h5⟩ := trod_leaf d h3 h2
      refine ⟨f', y, c, ?_, h5⟩
      rw [List.getElem?_take] at h4
      split at h4
      · rw [List.getElem?_drop] at h4
        rw [← h4]; congr 1; omega
      · cases h4
    · rename_i n e ht
      split at hl
      · rename_i hc
        obtain ⟨xs, m, _, _, _, hlen, hall⟩ := DataW.trod_array ht h
        have h3 := hall (j / P.cellsOf e) hc.1
        rw [List.getElem?_eq_getElem (by omega : j / P.cellsOf e < xs.length)] at h3
        obtain ⟨f', y, c, h4, h5⟩ := trod_leaf d h3 hl
        refine ⟨f', y, c, ?_, h5⟩
        rw [List.getElem?_take] at h4
        split at h4
        · rw [List.getElem?_drop] at h4
          rw [← h4]; congr 1
          have := Nat.div_add_mod j (P.cellsOf e)
          rw [Nat.mul_comm] at this
          omega
        · cases h4
      · cases hl
    all_goals first
      | (rename_i ht; split at hl
         · rename_i hj
           cases hl
           subst hj
           obtain ⟨c, rfl⟩ := trod_one h (by simp [ht])
           exact ⟨f, x, c, rfl, h⟩
         · cases hl)
      | cases hl

theorem leaf_int {t : TypeId} {k : IntKind} {f : Nat} {c : Value} {y : DataW H × List MemPlace} (ht : P.underlying t = some (.int k)) (h : DataW.trod enc P w base spare held f t [c] = some y) : ∃ n, c = .int k n ∧ (Lit.int k n).wf = true := by
  obtain ⟨n, h1, _, h2⟩ := DataW.trod_int ht h
  simp at h1
  exact ⟨n, h1, h2⟩
theorem leaf_bool {t : TypeId} {f : Nat} {c : Value} {y : DataW H × List MemPlace} (ht : P.underlying t = some .bool) (h : DataW.trod enc P w base spare held f t [c] = some y) : ∃ b, c = .bool b := by
  obtain ⟨n, h1, _⟩ := DataW.trod_bool ht h
  simp at h1
  exact ⟨n, h1⟩

/-- Cell j of a struct that came in is a number of kind k. -/
theorem cell_int {d : Nat} {t t' : TypeId} {k : IntKind} {j : Nat} {cs : List Value} {f : Nat} {x : DataW H × List MemPlace} (h : DataW.trod enc P w base spare held f t cs = some x)
    (hl : leafAt P d t j = some t') (ht : P.underlying t' = some (.int k)) : ∃ n, cs[j]? = some (.int k n) ∧ (Lit.int k n).wf = true := by
  obtain ⟨f', y, c, h1, h2⟩ := trod_leaf d h hl
  obtain ⟨n, rfl, h3⟩ := leaf_int ht h2
  exact ⟨n, h1, h3⟩
theorem cell_bool {d : Nat} {t t' : TypeId} {j : Nat} {cs : List Value} {f : Nat} {x : DataW H × List MemPlace} (h : DataW.trod enc P w base spare held f t cs = some x)
    (hl : leafAt P d t j = some t') (ht : P.underlying t' = some .bool) : ∃ b, cs[j]? = some (.bool b) := by
  obtain ⟨f', y, c, h1, h2⟩ := trod_leaf d h hl
  obtain ⟨n, rfl⟩ := leaf_bool ht h2
  exact ⟨n, h1⟩

theorem cells_get {a : Addr} {n : Nat} {cs : List Value} (h : w.cells? base a n = some cs) : base ≤ a.block ∧ cs.length = n ∧ ∀ j, j < n → w.cell? (a.add j) = cs[j]? := by
  unfold World.cells? at h
  split at h
  · rename_i hb
    exact ⟨hb, by simpa using mapM_some_length h, fun j hj => mapM_some_get h j j (by simp [hj])⟩
  · cases h

/-- A slice of structs that came in. -/
theorem open_row {t e : TypeId} {v : Value} {f s : Nat} {x : DataW H × List MemPlace} (ht : P.underlying t = some (.slice e)) (hs : P.cellsOf e = s) (h0 : 0 < s)
    (h : DataW.trod enc P w base spare held f t [v] = some x) :
    ∃ n c, Sl s w v n c ∧ ∀ i, i < n → ∃ f' y, DataW.trod enc P w base spare held f' e ((List.range s).map fun j => c (i * s + j)) = some y := by
  rcases DataW.trod_slice ht h with ⟨h1, _⟩ | ⟨a, len, cap, elems, rest, m, _, h1, _, hb, hl, hc, he, hall, _⟩
  · simp at h1
    subst h1
    exact ⟨0, fun _ => .bool false, ⟨⟨none, 0, rfl, Nat.le_refl _, Nat.zero_le _, fun _ => rfl, fun h => by omega⟩, fun j hj => by omega⟩, fun i hi => by omega⟩
  · simp at h1
    subst h1
    rw [hs] at hall
    have key : ∀ i, i < len → ∃ cs, w.cells? base (a.add (i * s)) s = some cs ∧ ∃ y, DataW.trod enc P w base spare held m e cs = some y := by
      intro i hi
      have := hall i hi
      rw [List.getElem?_eq_getElem (by omega : i < elems.length)] at this
      rw [Option.bind_eq_some_iff] at this
      obtain ⟨cs, h1, h2⟩ := this
      exact ⟨cs, h1, _, h2⟩
    have sp : 0 < len → a = ⟨a.block, a.off, none⟩ := fun hlen => by
      obtain ⟨cs, h1, _⟩ := key 0 hlen
      obtain ⟨_, h2, h3⟩ := cells_get h1
      have h4 := h3 0 h0
      rw [List.getElem?_eq_getElem (by omega : 0 < cs.length)] at h4
      have := spot_of_cell h4
      simp [Addr.add] at this
      cases a
      simp_all
    refine ⟨len, fun j => (w.cell? ⟨a.block, a.off + j, none⟩).getD (.bool false), ⟨⟨some a, cap, rfl, hl, hc, fun h => (by cases h), fun h => ⟨a.block, a.off, by rw [← sp h]⟩⟩, fun j hj => ?_⟩, fun i hi => ?_⟩
    · have hi : j / s < len := by rw [Nat.div_lt_iff_lt_mul h0]; exact hj
      have hm : j % s < s := Nat.mod_lt _ h0
      obtain ⟨cs, h1, _⟩ := key (j / s) hi
      obtain ⟨_, h2, h3⟩ := cells_get h1
      have h4 := h3 (j % s) hm
      rw [sp (Nat.lt_of_le_of_lt (Nat.zero_le _) hi), Addr_add_add, Addr_add_mk, show a.off + (j / s * s + j % s) = a.off + j by rw [Nat.div_add_mod']] at h4
      rw [List.getElem?_eq_getElem (by omega : j % s < cs.length)] at h4
      simp only [blk, offs, h4, Option.getD_some]
    · obtain ⟨cs, h1, y, hy⟩ := key i hi
      obtain ⟨_, h2, h3⟩ := cells_get h1
      refine ⟨m, y, ?_⟩
      rw [← hy]
      congr 1
      apply List.ext_getElem?
      intro j
      by_cases hj : j < s
      · have h4 := h3 j hj
        rw [sp (by omega), Addr_add_add, Addr_add_mk] at h4
        have h5 := h4
        rw [List.getElem?_eq_getElem (by omega : j < cs.length)] at h5
        simp [hj, h5]
      · rw [List.getElem?_eq_none (by simp; omega), List.getElem?_eq_none (by omega)]
end
end Go.Proofs.Ytpididcghilbjaa
