/-
  Whole rows (structs) stored, read as results, kept. No condition.
-/
import Derived.Test.YtpididcghilbjaaBase
import Derived.Laws.Rows
namespace Go.Proofs.Ytpididcghilbjaa
open Go.RowKit
theorem heap_lt {w : World} {b : Nat} {o : Obj} (h : w.heap[b]? = some o) : b < w.heap.size := by
  rcases Nat.lt_or_ge b w.heap.size with h1 | h1
  · exact h1
  · rw [Array.getElem?_eq_none h1] at h; cases h
theorem alloc_keeps {w : World} {b : Nat} {o : Obj} (h : w.heap[b]? = some o) (o' : Obj) : (w.alloc o').heap[b]? = some o := (heap_alloc_old w o' (heap_lt h)).trans h
theorem Keep.heap {S : Nat → Prop} {w w' : World} {b : Nat} {o : Obj} (k : Keep S w w') (h : w.heap[b]? = some o) (hn : ¬ S b) : w'.heap[b]? = some o := (k.block b (heap_lt h) hn).trans h
theorem Keep.row {S : Nat → Prop} {a w : World} (h : Keep S a w) {g : Nat} (hp : g < a.heap.size → S g) (cs : Array Value) : Keep S a (w.setRow g cs) :=
  h.trans' (T := One g) (Keep.setRow g cs) (fun i hi e => by cases e; exact hp hi)
section
variable {P : Program}
theorem run_store_row {W : World} {g : Nat} {old : Array Value} {t : TypeId} (hg : W.heap[g]? = some (.cells old t (0, 0))) (l : List Value) (hl : l.length = old.size) (h1 : (l.all fun v => v.oneCell') = true) :
    (storeCells ⟨g, 0, none⟩ l 0).run P W = .ok () (W.setRow g l.toArray) := by
  have := run_storeCells_from (P := P) g t l 0 old W hg (by omega) (fun v hv => List.all_eq_true.1 h1 v hv)
  simpa using this

theorem wpList_store_any {ops : Array Oper} {rest : List Oper} {o : Oper} {a : Act} {w : World} {Q : Exit → Act → World → Prop} (hgd : o.guard = none) {ty : TypeId} {x y : Operand} (ho : o.op = .store ty x y)
    {g : Nat} {cells : Array Value} (hx : a.eval x = .pointer (some ⟨g, 0, none⟩)) (hy : a.eval y = .agg cells)
    {t : TypeId} {old : Array Value} (hg : w.heap[g]? = some (.cells old t (0, 0))) {n : Nat} (hi : (P.info? ty).map (·.size) = some n) (hn : cells.size = n) (hold : old.size = n) (h1 : (cells.toList.all fun v => v.oneCell') = true)
    (h : wpList P ops Q rest (a.put o.dst undef) (w.setRow g cells)) : wpList P ops Q (o :: rest) a w :=
  wpList_plain hgd fun _ hK => wp_store_row ty x y ho g cells hx hy t old hg (by rw [hn]; exact hi) (by omega) (by simpa using h1) (hK _ _ h)

theorem run_var_row {W : World} {g : Nat} {t ty : TypeId} {cs : Array Value} {fr : Nat × Nat} {d : TypeDesc} (hg : W.heap[g]? = some (.cells cs t fr))
    (hu : P.underlying ty = some d) (hd : (match d with | .struct _ | .array _ _ => true | _ => false) = true) (hi : (P.info? ty).map (·.size) = some cs.size) : (loadVar ty ⟨g, 0, none⟩).run P W = .ok (.agg cs) W :=
  run_loadVar_row W g t ty cs fr d hg hu hd hi

theorem results_row_tmp {fn : Func} {p q : Tmp} {ty : TypeId} (h : fn.results = #[.cell p ty, .tmp q]) {tmps : Array Value} {W : World} {g : Nat} {t : TypeId} {cs : Array Value} {fr : Nat × Nat} {d : TypeDesc} {u : Value}
    (hp : tmps.getD p undef = .pointer (some ⟨g, 0, none⟩)) (hq : tmps.getD q undef = u) (hg : W.heap[g]? = some (.cells cs t fr))
    (hu : P.underlying ty = some d) (hd : (match d with | .struct _ | .array _ _ => true | _ => false) = true) (hi : (P.info? ty).map (·.size) = some cs.size) :
    (results fn tmps).run P W = .ok (.tuple #[.agg cs, u]) W := by
  subst hq
  have hp' : tmps[p]?.getD undef = .pointer (some ⟨g, 0, none⟩) := by simpa using hp
  simp [results, h, hp', asAddr, run_loadVar_row W g t ty cs fr d hg hu hd hi]
theorem results_row {fn : Func} {p : Tmp} {ty : TypeId} (h : fn.results = #[.cell p ty]) {tmps : Array Value} {W : World} {g : Nat} {t : TypeId} {cs : Array Value} {fr : Nat × Nat} {d : TypeDesc}
    (hp : tmps.getD p undef = .pointer (some ⟨g, 0, none⟩)) (hg : W.heap[g]? = some (.cells cs t fr))
    (hu : P.underlying ty = some d) (hd : (match d with | .struct _ | .array _ _ => true | _ => false) = true) (hi : (P.info? ty).map (·.size) = some cs.size) :
    (results fn tmps).run P W = .ok (.agg cs) W := results_cell_row h tmps W g t cs fr d hp hg hu hd hi
end
end Go.Proofs.Ytpididcghilbjaa
