/-
  Regions that draw their order and whose callees leave old blocks alone: one walk serves every order. And the equality of rows of numbers. No condition.
-/
import Derived.Test.YtpididcghilbjaaBase
import Derived.ChangeKeysEq
import Derived.Laws.StructEq
namespace Go.Proofs.Ytpididcghilbjaa
open Go.RowKit

/-- A world behind W in which W's blocks are as they were. -/
structure Aft (V : World) where
  W : World
  k : Keep No V W

instance {V : World} : Nonempty (Aft V) := ⟨⟨V, Keep.refl _ _⟩⟩

theorem Aft.cells {W : World} {b : Nat} {cs : Array Value} {t : TypeId} (g : W.heap[b]? = some (.cells cs t (0, 0))) (s : Aft W) (i : Nat) : s.W.cell? ⟨b, i, Option.none⟩ = cs[i]? := by
  have hl : b < W.heap.size := by
    rcases Nat.lt_or_ge b W.heap.size with h | h
    · exact h
    · rw [Array.getElem?_eq_none h] at g; cases g
  exact cells_of ((s.k.block b hl (fun h => h)).trans g) i
theorem Aft.cell {W : World} {a : Addr} {v : Value} (h : W.cell? a = some v) (s : Aft W) : s.W.cell? a = some v := s.k.cell h (fun h => h)

section
variable {P : Program}
theorem wp_region_later {id : Nat} {Q : Exit → Act → World → Prop} {a : Act} {W : World} {l : List Oper} (hm : P.follows .mixedOrders = true) (hB : Region.lexB .any l.toArray = true)
    (h : wpQuiet P l.toArray (fun w' => ∃ s : Aft W, w' = s.W) (fun a' => ∀ w', (∃ s : Aft W, w' = s.W) → Q .normal a' w') l a) : (Code.region id l.toArray true).wp P Q a W :=
  wp_region_quiet (C := fun w' => ∃ s : Aft W, w' = s.W) hm hB ⟨⟨_, (Keep.refl _ _).drew⟩, rfl⟩ (by simpa using h)

theorem Aft.call {f : FuncId} {args : Array Value} {W : World} {v : Value} (s : Aft W) (h : ∀ w1, Keep No W w1 → Calls P f args w1 fun e w2 => e = .returned v ∧ Keep No w1 w2) :
    Calls P f args s.W fun e w2 => e = .returned v ∧ ∃ s' : Aft W, w2 = s'.W :=
  (h s.W s.k).mono fun _ w2 ⟨h1, h2⟩ => ⟨h1, ⟨w2, s.k.trans h2⟩, rfl⟩

/-! ### rows of numbers, compared -/
theorem run_eqItems_ints (d : Nat) {e : TypeId} {k : IntKind} (he : P.underlying e = some (.int k)) (hc : P.cellsOf e = 1) (w : World) (xs ys : Array Value) (f g : Nat → Int) : ∀ (is : List Nat),
    (∀ i ∈ is, xs[i]? = some (.int k (f i)) ∧ ys[i]? = some (.int k (g i))) → (Op.eqItems (d + 1) e (P.cellsOf e) xs ys is).run P w = .ok (is.all fun i => f i == g i) w
  | [], _ => by simp [Op.eqItems]
  | i :: is, h => by
    obtain ⟨h1, h2⟩ := h i (by simp)
    have hp : P.plainKey e = true := by simp [Program.plainKey, he]
    have p1 := run_part_plain (P := P) w hp h1
    have p2 := run_part_plain (P := P) w hp h2
    have ih := run_eqItems_ints d he hc w xs ys f g is (fun j hj => h j (by simp [hj]))
    rw [hc] at ih ⊢
    simp only [Op.eqItems, Nat.mul_one, Sem.run_bind, p1, p2, Result.andThen_ok, run_equalIn_int w d e k k (f i) (g i) he]
    cases hb : f i == g i
    · simp [hb]
    · simp [hb, ih]

theorem run_equal_ints (d : Nat) {t e : TypeId} {n : Nat} {k : IntKind} {i : TypeInfo} (ht : P.underlying t = some (.array n e)) (hi : P.info? e = some i) (he : P.underlying e = some (.int k)) (hc : P.cellsOf e = 1) (w : World) (xs ys : Array Value) (f g : Nat → Int)
    (h : ∀ j, j < n → xs[j]? = some (.int k (f j)) ∧ ys[j]? = some (.int k (g j))) :
    (Op.equalIn (d + 2) t (.agg xs) (.agg ys)).run P w = .ok ((List.range n).all fun j => f j == g j) w := by
  rw [run_equalIn_array w (d + 1) xs ys ht hi]
  exact run_eqItems_ints d he hc w xs ys f g _ (fun j hj => h j (by simpa using hj))
end
end Go.Proofs.Ytpididcghilbjaa
