/-
  Words for byte rows, kept worlds and addresses, used by every walk of this seat. No condition.
-/
import Derived.Test.YtpididcghilbjaaRows
import Derived.WalkKit
import Derived.WalkSpells
import Derived.WalkLawsBesides
import Derived.Deep.QuietTactic
import Derived.BigQuiet
import Derived.Lib.SliceRun
import Derived.Maps.AppendAt
import Derived.Laws.OwnMore
import Derived.Laws.CopyRow
namespace Go.Proofs.Ytpididcghilbjaa
open Go.RowKit

/-! ### worlds -/
/-- From w to w' nothing has turned in the blocks that were there, but in those of S. -/
structure Keep (S : Nat → Prop) (w w' : World) : Prop where
  os : w'.os = w.os
  tape : w'.tape = w.tape
  output : w'.output = w.output
  size : w.heap.size ≤ w'.heap.size
  block : ∀ k, k < w.heap.size → ¬ S k → w'.heap[k]? = w.heap[k]?

def No : Nat → Prop := fun _ => False
def One (p : Nat) : Nat → Prop := fun k => k = p
/-- The blocks from B on. -/
def From (B : Nat) : Nat → Prop := fun k => B ≤ k

theorem Keep.refl (S : Nat → Prop) (w : World) : Keep S w w := ⟨rfl, rfl, rfl, Nat.le_refl _, fun _ _ _ => rfl⟩
theorem Keep.mono {S T : Nat → Prop} {w w' : World} (h : Keep S w w') (hs : ∀ k, k < w.heap.size → S k → T k) : Keep T w w' :=
  ⟨h.os, h.tape, h.output, h.size, fun k hk hn => h.block k hk (fun hS => hn (hs k hk hS))⟩
theorem Keep.trans {S : Nat → Prop} {a b c : World} (h : Keep S a b) (k : Keep S b c) : Keep S a c :=
  ⟨k.os.trans h.os, k.tape.trans h.tape, k.output.trans h.output, Nat.le_trans h.size k.size,
    fun i hi hn => (k.block i (Nat.lt_of_lt_of_le hi h.size) hn).trans (h.block i hi hn)⟩
/-- What was turned only in blocks that are new since a counts as nothing. -/
theorem Keep.trans' {S T : Nat → Prop} {a b c : World} (h : Keep S a b) (k : Keep T b c) (hs : ∀ i, i < a.heap.size → T i → S i) : Keep S a c :=
  ⟨k.os.trans h.os, k.tape.trans h.tape, k.output.trans h.output, Nat.le_trans h.size k.size,
    fun i hi hn => (k.block i (Nat.lt_of_lt_of_le hi h.size) (fun hT => hn (hs i hi hT))).trans (h.block i hi hn)⟩
theorem Keep.no {S : Nat → Prop} {w w' : World} (h : Keep No w w') : Keep S w w' := h.mono fun _ _ f => f.elim
theorem Keep.drew {S : Nat → Prop} {a w : World} (h : Keep S a w) : Keep S a w.drew := ⟨h.os, h.tape, h.output, h.size, h.block⟩
theorem Keep.drewN {S : Nat → Prop} {a w : World} (h : Keep S a w) (n : Nat) : Keep S a (w.drewN n) := ⟨h.os, h.tape, h.output, h.size, h.block⟩
theorem Keep.alloc {S : Nat → Prop} {a w : World} (h : Keep S a w) (o : Obj) : Keep S a (w.alloc o) :=
  h.trans' (T := No) ⟨rfl, rfl, rfl, by simp, fun k hk _ => Below.heap_alloc _ _ _ (by omega)⟩ (fun _ _ f => f.elim)
theorem Keep.setCell {S : Nat → Prop} {a w : World} (h : Keep S a w) {p : Addr} (hp : p.block < a.heap.size → S p.block) (u : Value) : Keep S a (w.setCell p u) :=
  h.trans' (T := One p.block) ⟨rfl, rfl, rfl, by simp [World.setCell], fun k hk hn => Below.heap_setCell _ _ _ _ hn⟩ (fun i hi e => by cases e; exact hp hi)
theorem Keep.set1 (w : World) (p o : Nat) (u : Value) : Keep (One p) w (w.setCell ⟨p, o, none⟩ u) := (Keep.refl (One p) w).setCell (p := ⟨p, o, none⟩) (fun _ => show p = p from rfl) u
theorem Keep.grown {S : Nat → Prop} {a w w' : World} {row : Option Nat} (h : Keep S a w) (hg : w.grownBy w' row) (hr : ∀ k, row = some k → k < a.heap.size → S k) : Keep S a w' :=
  h.trans' (T := fun k => row = some k) ⟨hg.os, hg.tape, hg.output, hg.size, fun k hk hn => hg.block k hk (fun e => hn e.symm)⟩ (fun i hi e => hr i e hi)
theorem Keep.cell {S : Nat → Prop} {w w' : World} (h : Keep S w w') {a : Addr} {v : Value} (hc : w.cell? a = some v) (hn : ¬ S a.block) : w'.cell? a = some v :=
  (World.cell?_of_block (h.block a.block (World.block_lt_of_cell? w a hc) hn)).trans hc
theorem Keep.cellLt {S : Nat → Prop} {w w' : World} (h : Keep S w w') {a : Addr} (hl : a.block < w.heap.size) (hn : ¬ S a.block) : w'.cell? a = w.cell? a :=
  World.cell?_of_block (h.block a.block hl hn)
theorem Keep.frozen {S : Nat → Prop} {w w' : World} (h : Keep S w w') {a : Addr} (hl : a.block < w.heap.size) (hn : ¬ S a.block) : w'.frozen? a = w.frozen? a :=
  World.frozen?_of_block (h.block a.block hl hn)
theorem Keep.below {B : Nat} {w w' : World} (h : Keep (From B) w w') (hB : B ≤ w.heap.size) : Below B w w' :=
  ⟨h.os, h.tape, h.output, h.size, fun k hk => h.block k (by omega) (by intro (f : B ≤ k); omega)⟩
theorem Keep.of_below {w w' : World} (h : Below w.heap.size w w') : Keep No w w' := ⟨h.os, h.tape, h.output, h.size, fun k hk _ => h.block k hk⟩

theorem World.size_setCell (w : World) (a : Addr) (u : Value) : (w.setCell a u).heap.size = w.heap.size := by simp [World.setCell]
theorem cell_new (w : World) (cs : Array Value) (t : TypeId) (o : Nat) : (w.alloc (.cells cs t)).cell? ⟨w.heap.size, o, none⟩ = cs[o]? := by
  have h := heap_alloc_new w (.cells cs t)
  simp only [World.cell?, h]
  simp
theorem heap_new1 (w : World) (a b : Obj) : ((w.alloc a).alloc b).heap[w.heap.size + 1]? = some b := by
  have h := heap_alloc_new (w.alloc a) b
  rwa [show (w.alloc a).heap.size = w.heap.size + 1 by simp] at h
theorem heap_new0 (w : World) (a b : Obj) : ((w.alloc a).alloc b).heap[w.heap.size]? = some a := by
  have h := heap_alloc_old (w.alloc a) b (r := w.heap.size) (by simp)
  rw [h]; exact heap_alloc_new w a
theorem cells_of {w : World} {g : Nat} {cs : Array Value} {t : TypeId} (h : w.heap[g]? = some (.cells cs t (0, 0))) (i : Nat) : w.cell? ⟨g, i, none⟩ = cs[i]? := by simp [World.cell?, h]
theorem free_of {w : World} {g : Nat} {cs : Array Value} {t : TypeId} (h : w.heap[g]? = some (.cells cs t (0, 0))) (i : Nat) : w.frozen? ⟨g, i, none⟩ = false := by simp [World.frozen?, h]
theorem frozen_new (w : World) (cs : Array Value) (t : TypeId) (o : Nat) : (w.alloc (.cells cs t)).frozen? ⟨w.heap.size, o, none⟩ = false := by
  have h := heap_alloc_new w (.cells cs t)
  simp only [World.frozen?, h]
  simp

/-! ### byte rows -/
abbrev bv (x : UInt8) : Value := .int .u8 (x.toNat : Int)
def byteAt (bs : List UInt8) (i : Nat) : UInt8 := bs.getD i 0
theorem byteAt_lt (bs : List UInt8) (i : Nat) : (byteAt bs i).toNat < 256 := (byteAt bs i).toNat_lt
theorem byteAt_eq {bs : List UInt8} {i : Nat} (h : i < bs.length) : byteAt bs i = bs[i] := by simp [byteAt, h]

/-- The address of a slice's element i (one cell an element). -/
def blk : Value → Nat | .slice (some a) _ _ => a.block | _ => 0
def offs : Value → Nat | .slice (some a) _ _ => a.off | _ => 0
abbrev adr (v : Value) (i : Nat) : Addr := ⟨blk v, offs v + i, none⟩

theorem Addr_add_add (b o i j : Nat) : (Addr.add (Addr.add ⟨b, o, none⟩ i) j) = Addr.add ⟨b, o, none⟩ (i + j) := by
  unfold Addr.add
  by_cases hi : i = 0 <;> by_cases hj : j = 0 <;> simp [hi, hj, Nat.add_assoc]
theorem Addr_add_mk (b o i : Nat) : (Addr.add ⟨b, o, none⟩ i) = ⟨b, o + i, none⟩ := by
  unfold Addr.add
  by_cases hi : i = 0 <;> simp [hi]

/-- The slice value v is n elements of s cells each; cell j of them holds c j. -/
structure Sl (s : Nat) (w : World) (v : Value) (n : Nat) (c : Nat → Value) : Prop where
  shape : ∃ ao cap, v = .slice ao n cap ∧ n ≤ cap ∧ cap ≤ maxLen ∧ (ao = none → cap = 0) ∧ (0 < n → ∃ b o, ao = some ⟨b, o, none⟩)
  cell : ∀ j, j < n * s → w.cell? ⟨blk v, offs v + j, none⟩ = some (c j)
/-- The slice value v reads in w as the bytes bs. -/
structure Rd (w : World) (v : Value) (bs : List UInt8) : Prop where
  shape : ∃ ao cap, v = .slice ao bs.length cap ∧ bs.length ≤ cap ∧ cap ≤ maxLen ∧ (ao = none → cap = 0) ∧ (0 < bs.length → ∃ b o, ao = some ⟨b, o, none⟩)
  cell : ∀ i, i < bs.length → w.cell? ⟨blk v, offs v + i, none⟩ = some (.int .u8 ((byteAt bs i).toNat : Int))

theorem Sl.block_eq {s n : Nat} {c : Nat → Value} {w : World} {v : Value} (h : Sl s w v n c) (hn : 0 < n) : v.ownBlock = some (blk v) := by
  obtain ⟨ao, cap, rfl, _, _, _, h4⟩ := h.shape
  obtain ⟨b, o, rfl⟩ := h4 hn
  simp [Value.ownBlock, blk]
theorem Sl.keep {s n : Nat} {c : Nat → Value} {S : Nat → Prop} {w w' : World} {v : Value} (h : Sl s w v n c) (k : Keep S w w') (hs : ∀ b, v.ownBlock = some b → ¬ S b) : Sl s w' v n c :=
  ⟨h.shape, fun j hj => k.cell (h.cell j hj) (hs _ (h.block_eq (by rcases Nat.eq_zero_or_pos n with h | h; (· subst h; simp at hj); (· exact h))))⟩
theorem Sl.keep0 {s n : Nat} {c : Nat → Value} {w w' : World} {v : Value} (h : Sl s w v n c) (k : Keep No w w') : Sl s w' v n c := h.keep k fun _ _ f => f.elim
theorem Rd.block_eq {w : World} {v : Value} {bs : List UInt8} (h : Rd w v bs) {i : Nat} (hi : i < bs.length) : v.ownBlock = some (blk v) := by
  obtain ⟨ao, cap, rfl, _, _, _, h4⟩ := h.shape
  obtain ⟨b, o, rfl⟩ := h4 (by omega)
  simp [Value.ownBlock, blk]

theorem Rd.form {w : World} {v : Value} {bs : List UInt8} (h : Rd w v bs) : ∃ ao n cap, v = .slice ao n cap := by
  obtain ⟨ao, cap, e, _⟩ := h.shape
  exact ⟨ao, _, cap, e⟩
theorem Rd.not_agg {w : World} {v : Value} {bs : List UInt8} (h : Rd w v bs) : ∀ cs, v = .agg cs → False := by
  obtain ⟨ao, cap, e, _⟩ := h.shape
  intro cs h2
  rw [e] at h2
  cases h2
theorem Rd.keep {S : Nat → Prop} {w w' : World} {v : Value} {bs : List UInt8} (h : Rd w v bs) (k : Keep S w w') (hs : ∀ b, v.ownBlock = some b → ¬ S b) : Rd w' v bs :=
  ⟨h.shape, fun i hi => k.cell (h.cell i hi) (hs _ (h.block_eq hi))⟩
theorem Rd.keep0 {w w' : World} {v : Value} {bs : List UInt8} (h : Rd w v bs) (k : Keep No w w') : Rd w' v bs := h.keep k fun _ _ f => f.elim
theorem Rd.drewN {w : World} {v : Value} {bs : List UInt8} (h : Rd w v bs) (n : Nat) : Rd (w.drewN n) v bs := h.keep0 ((Keep.refl _ _).drewN n)

/-- v lies in no block but those from B on. -/
def Since (B : Nat) (v : Value) : Prop := ∀ b, v.ownBlock = some b → B ≤ b
theorem Since.mono {B C : Nat} {v : Value} (h : Since C v) (hb : B ≤ C) : Since B v := fun b e => Nat.le_trans hb (h b e)
/-- v lies below B. -/
def Under (B : Nat) (v : Value) : Prop := ∀ b, v.ownBlock = some b → b < B

theorem Rd.nil (w : World) : Rd w (.slice none 0 0) [] := ⟨⟨none, 0, rfl, by simp, by simp [maxLen], by simp, by simp⟩, by simp⟩

/-- The slice v[l:h]. -/
def cutv (v : Value) (l h : Nat) : Value := match v with | .slice a _ c => .slice (if c = l then a else a.map (·.add l)) (h - l) (c - l) | x => x

theorem ownBlock_cutv (v : Value) (l h : Nat) : (cutv v l h).ownBlock = v.ownBlock := by
  unfold cutv Value.ownBlock
  cases v <;> try rfl
  rename_i a n c
  cases a with
  | none => simp
  | some a =>
    by_cases e : c = l
    · simp [e]
    · simp only [e, if_false, Option.map_some, Addr.add]
      split <;> rfl

theorem byteAt_slice (bs : List UInt8) (l h i : Nat) (hi : i < h - l) : byteAt ((bs.drop l).take (h - l)) i = byteAt bs (l + i) := by
  simp only [byteAt, List.getD_eq_getElem?_getD, List.getElem?_take, List.getElem?_drop, if_pos hi]

theorem Rd.cut {w : World} {v : Value} {bs : List UInt8} (r : Rd w v bs) {l h : Nat} (h1 : l ≤ h) (h2 : h ≤ bs.length) : Rd w (cutv v l h) ((bs.drop l).take (h - l)) := by
  have hlen : ((bs.drop l).take (h - l)).length = h - l := by simp; omega
  obtain ⟨ao, cap, rfl, hc, hm, hn, hb⟩ := r.shape
  refine ⟨⟨if cap = l then ao else ao.map (·.add l), cap - l, by simp [cutv, hlen], by rw [hlen]; omega, by omega, ?_, ?_⟩, ?_⟩
  · intro h0
    by_cases e : cap = l
    · omega
    · rw [if_neg e] at h0
      have := hn (by simpa using h0)
      omega
  · intro hpos
    rw [hlen] at hpos
    obtain ⟨b, o, rfl⟩ := hb (by omega)
    rw [if_neg (by omega)]
    exact ⟨b, o + l, by simp [Addr_add_mk]⟩
  · intro i hi
    rw [hlen] at hi
    obtain ⟨b, o, rfl⟩ := hb (by omega)
    rw [byteAt_slice _ _ _ _ hi]
    have := r.cell (l + i) (by omega)
    simpa [cutv, blk, offs, if_neg (show ¬ cap = l by omega), Addr_add_mk, Nat.add_assoc] using this

/-! ### operations on byte rows -/
section
variable {P : Program} {w' w : World} {v : Value} {bs : List UInt8}

theorem Rd.run_len (r : Rd w v bs) {t ty e : TypeId} (ht : P.underlying t = some (.slice e)) : (Builtin.len_ #[t] ty #[v]).run P w' = .ok (.int .i64 (bs.length : Int)) w' := by
  obtain ⟨ao, cap, rfl, _⟩ := r.shape
  simp [Builtin.len_, run_underlying ht, goInt]

theorem size_of {e : TypeId} {n : Nat} (hz : (P.info? e).map (·.size) = some n) : (sizeOf e).run P w' = .ok n w' := by
  cases hi : P.info? e with
  | none => simp [hi] at hz
  | some i => simp [hi] at hz; simp [sizeOf, typeInfo, hi, hz]

theorem Rd.run_at (r : Rd w v bs) {t e : TypeId} (ht : P.underlying t = some (.slice e)) (hz : (P.info? e).map (·.size) = some 1) {k : IntKind} {i : Int} (h0 : 0 ≤ i) (hi : i < (bs.length : Int)) :
    (Instr.indexAt t v (.int k i)).run P w' = .ok (.pointer (some (adr v i.toNat))) w' := by
  obtain ⟨ao, cap, rfl, _, _, _, hb⟩ := r.shape
  obtain ⟨b, o, rfl⟩ := hb (by omega)
  simp [Instr.indexAt, run_underlying ht, asIntOf, size_of hz, blk, offs, h0, hi, Addr_add_mk]

theorem Sl.run_len {s n : Nat} {c : Nat → Value} (r : Sl s w v n c) {t ty e : TypeId} (ht : P.underlying t = some (.slice e)) : (Builtin.len_ #[t] ty #[v]).run P w' = .ok (.int .i64 (n : Int)) w' := by
  obtain ⟨ao, cap, rfl, _⟩ := r.shape
  simp [Builtin.len_, run_underlying ht, goInt]
theorem Sl.run_at {s n : Nat} {c : Nat → Value} (r : Sl s w v n c) {t e : TypeId} (ht : P.underlying t = some (.slice e)) (hz : (P.info? e).map (·.size) = some s) {k : IntKind} {i : Int} (h0 : 0 ≤ i) (hi : i < (n : Int)) :
    (Instr.indexAt t v (.int k i)).run P w' = .ok (.pointer (some ⟨blk v, offs v + i.toNat * s, none⟩)) w' := by
  obtain ⟨ao, cap, rfl, _, _, _, hb⟩ := r.shape
  obtain ⟨b, o, rfl⟩ := hb (by omega)
  simp [Instr.indexAt, run_underlying ht, asIntOf, size_of hz, blk, offs, h0, hi, Addr_add_mk]

theorem run_bound (x : Nat) (y : Nat) (hy : x ≤ y) (k : IntKind) (c : BoundsCode) : (Instr.sliceBound (.int k (x : Int)) y c).run P w' = .ok x w' := by
  simp [Instr.sliceBound, asIntOf, hy]

theorem Rd.run_cut (r : Rd w v bs) {t e : TypeId} (ht : P.underlying t = some (.slice e)) (hz : (P.info? e).map (·.size) = some 1) {k k' : IntKind} {l h : Int} (h0 : 0 ≤ l) (h1 : l ≤ h) (h2 : h ≤ (bs.length : Int)) :
    (Instr.slice t v (some (.int k l)) (some (.int k' h)) none).run P w' = .ok (cutv v l.toNat h.toNat) w' := by
  obtain ⟨l, rfl⟩ := Int.eq_ofNat_of_zero_le h0
  obtain ⟨h, rfl⟩ := Int.eq_ofNat_of_zero_le (show 0 ≤ h by omega)
  obtain ⟨ao, cap, rfl, hc, _⟩ := r.shape
  simp only [Int.toNat_natCast] at *
  simp [Instr.slice, run_underlying ht, Instr.sliceBounds, run_bound l h (by omega), run_bound h cap (by omega), size_of hz, cutv]
theorem Rd.run_cutL (r : Rd w v bs) {t e : TypeId} (ht : P.underlying t = some (.slice e)) (hz : (P.info? e).map (·.size) = some 1) {k : IntKind} {l : Int} (h0 : 0 ≤ l) (h1 : l ≤ (bs.length : Int)) :
    (Instr.slice t v (some (.int k l)) none none).run P w' = .ok (cutv v l.toNat bs.length) w' := by
  obtain ⟨l, rfl⟩ := Int.eq_ofNat_of_zero_le h0
  obtain ⟨ao, cap, rfl, hc, _⟩ := r.shape
  simp only [Int.toNat_natCast] at *
  simp [Instr.slice, run_underlying ht, Instr.sliceBounds, run_bound l bs.length (by omega), size_of hz, cutv]
theorem Rd.run_cutH (r : Rd w v bs) {t e : TypeId} (ht : P.underlying t = some (.slice e)) (hz : (P.info? e).map (·.size) = some 1) {k' : IntKind} {h : Int} (h1 : 0 ≤ h) (h2 : h ≤ (bs.length : Int)) :
    (Instr.slice t v none (some (.int k' h)) none).run P w' = .ok (cutv v 0 h.toNat) w' := by
  obtain ⟨h, rfl⟩ := Int.eq_ofNat_of_zero_le h1
  obtain ⟨ao, cap, rfl, hc, _⟩ := r.shape
  simp only [Int.toNat_natCast] at *
  simp [Instr.slice, run_underlying ht, Instr.sliceBounds, run_bound h cap (by omega), size_of hz, cutv]
end

/-! ### the tests against nil, and append -/
def isNil : Value → Bool | .slice a _ _ => a.isNone | _ => false
section
variable {P : Program} {w' w : World} {v : Value} {bs : List UInt8}
@[go_sem] theorem run_eqGuard_slice (op : BinOp) (t : TypeId) (x y : Operand) (v : Value) (a : Option Addr) (n c : Nat) : (eqGuard op t x y v (.slice a n c)).run P w' = .ok () w' := by
  unfold eqGuard
  cases op <;> cases v <;> simp
theorem Rd.run_isnil (r : Rd w v bs) {t e : TypeId} (ht : P.underlying t = some (.slice e)) : (binOp .eql t v (.slice none 0 0)).run P w' = .ok (.bool (isNil v)) w' := by
  obtain ⟨ao, cap, rfl, _⟩ := r.shape
  exact Lib.run_eql_slice_nil w' t e ao _ cap 0 0 ht
theorem Rd.run_isnot (r : Rd w v bs) {t e : TypeId} (ht : P.underlying t = some (.slice e)) : (binOp .neq t v (.slice none 0 0)).run P w' = .ok (.bool (!isNil v)) w' := by
  obtain ⟨ao, cap, rfl, _⟩ := r.shape
  exact run_neq_slice_nil_any w' t e ao _ cap 0 0 ht
theorem Rd.of_nil (r : Rd w v bs) (h : isNil v = true) : v = .slice none 0 0 ∧ bs = [] := by
  obtain ⟨ao, cap, rfl, hc, _, hn, _⟩ := r.shape
  cases ao with
  | some a => simp [isNil] at h
  | none =>
    have := hn rfl
    subst this
    have hb : bs = [] := List.length_eq_zero_iff.1 (by omega)
    subst hb
    exact ⟨rfl, rfl⟩
theorem Rd.of_not_nil (r : Rd w v bs) (h : isNil v = false) : ∃ a cap, v = .slice (some a) bs.length cap := by
  obtain ⟨ao, cap, rfl, hc, _, hn, _⟩ := r.shape
  cases ao with
  | some a => exact ⟨a, cap, rfl⟩
  | none => simp [isNil] at h

theorem Rd.addr {a : Addr} {n cap : Nat} (r : Rd w (.slice (some a) n cap) bs) (h : 0 < bs.length) : ∃ b o, a = ⟨b, o, none⟩ := by
  obtain ⟨ao, cap', he, _, _, _, h4⟩ := r.shape
  obtain ⟨b, o, hb⟩ := h4 h
  cases he
  exact ⟨b, o, by simpa using hb⟩
/-- t is the type of slices of bytes, e that of bytes. -/
structure BT (P : Program) (t e : TypeId) : Prop where
  sl : P.underlying t = some (.slice e)
  el : P.underlying e = some (.int .u8)
  info : ∃ i, P.info? e = some i ∧ i.size = 1 ∧ i.bytes = 1 ∧ i.zero = some (.int .u8 0)

def bvs (bs : List UInt8) : List Value := bs.map fun x => .int .u8 (x.toNat : Int)
theorem bvs_length (bs : List UInt8) : (bvs bs).length = bs.length := by simp [bvs]
theorem bvs_append (xs ys : List UInt8) : bvs (xs ++ ys) = bvs xs ++ bvs ys := by simp [bvs]
theorem bvs_get {bs : List UInt8} {i : Nat} (h : i < bs.length) : (bvs bs)[i]? = some (.int .u8 ((byteAt bs i).toNat : Int)) := by simp [bvs, byteAt, h]

/-- v owns the bytes bs: it may be appended to. -/
def Own (e : TypeId) (w : World) (v : Value) (bs : List UInt8) : Prop := w.ownsRow 0 e 1 v bs.length (bvs bs)

theorem Own.nil (e : TypeId) (w : World) : Own e w (.slice none 0 0) [] := World.ownsRow_nil _ _ _ _

theorem Own.rd {e : TypeId} (h : Own e w v bs) : Rd w v bs := by
  obtain ⟨hl, h⟩ := h
  rcases h with ⟨rfl, h0⟩ | ⟨g, cap, cur, rfl, _, hg, hc, hm, hs, ht⟩
  · have : bs = [] := List.length_eq_zero_iff.1 h0
    subst this
    exact Rd.nil w
  · refine ⟨⟨some ⟨g, 0, none⟩, cap, rfl, hc, hm, by simp, fun _ => ⟨g, 0, rfl⟩⟩, fun i hi => ?_⟩
    simp only [blk, offs, Nat.zero_add]
    have h2 : cur.toList[i]? = some (.int .u8 ((byteAt bs i).toNat : Int)) := by
      have h3 : (cur.toList.take (bs.length * 1))[i]? = some (.int .u8 ((byteAt bs i).toNat : Int)) := by rw [ht]; exact bvs_get hi
      rw [List.getElem?_take] at h3
      simpa [hi] using h3
    simp only [World.cell?, hg]
    simpa using h2

theorem Own.lt {e : TypeId} (h : Own e w v bs) : Under w.heap.size v := by
  obtain ⟨hl, h⟩ := h
  intro b hb
  rcases h with ⟨rfl, _⟩ | ⟨g, cap, cur, rfl, _, hg, _⟩
  · simp [Value.ownBlock] at hb
  · simp [Value.ownBlock] at hb
    subst hb
    rcases Nat.lt_or_ge g w.heap.size with hlt | hge
    · exact hlt
    · rw [Array.getElem?_eq_none hge] at hg; cases hg

theorem Own.form {e : TypeId} (h : Own e w v bs) (hn : 0 < bs.length) : ∃ g cap, v = .slice (some ⟨g, 0, none⟩) bs.length cap := by
  obtain ⟨hl, h⟩ := h
  rcases h with ⟨_, h0⟩ | ⟨g, cap, cur, hv, _⟩
  · omega
  · exact ⟨g, cap, hv⟩

theorem Own.keep {e : TypeId} {S : Nat → Prop} (h : Own e w v bs) (k : Keep S w w') (hs : ∀ b, v.ownBlock = some b → ¬ S b) : Own e w' v bs := by
  obtain ⟨hl, h⟩ := h
  refine ⟨hl, ?_⟩
  rcases h with h | ⟨g, cap, cur, rfl, hb, hg, r⟩
  · exact .inl h
  · refine .inr ⟨g, cap, cur, rfl, hb, ?_, r⟩
    have hlt : g < w.heap.size := by
      rcases Nat.lt_or_ge g w.heap.size with hlt | hge
      · exact hlt
      · rw [Array.getElem?_eq_none hge] at hg; cases hg
    rw [k.block g hlt (hs g rfl)]; exact hg

theorem Own.made {e : TypeId} (w : World) (bs : List UInt8) (hm : bs.length ≤ maxLen) : Own e (w.alloc (.cells (bvs bs).toArray e)) (.slice (some ⟨w.heap.size, 0, none⟩) bs.length bs.length) bs :=
  ⟨by simp [bvs_length], .inr ⟨w.heap.size, bs.length, (bvs bs).toArray, rfl, Nat.zero_le _, heap_alloc_new w _, Nat.le_refl _, hm, by simp [bvs_length], by simp [← bvs_length bs]⟩⟩

/-- 'append(v, s...)'. -/
theorem run_append_b {t e : TypeId} (T : BT P t e) (ty : TypeId) {s : Value} {ys : List UInt8} (o : Own e w v bs) (r : Rd w s ys) (hn : bs.length + ys.length ≤ 140737488351232) :
    ∃ v' w', (Builtin.append_ #[t, t] ty #[v, s]).run P w = .ok v' w' ∧ Own e w' v' (bs ++ ys) ∧ Keep (fun k => v.ownBlock = some k) w w' ∧
      (v'.ownBlock = v.ownBlock ∨ v'.ownBlock = some w.heap.size) ∧ (isNil v' = true → isNil v = true ∧ ys = []) := by
  obtain ⟨i, hi, hz1, hz2, hz3⟩ := T.info
  cases hnil : isNil s with
  | true =>
    obtain ⟨rfl, rfl⟩ := r.of_nil hnil
    exact ⟨v, w, run_append_owned_none (P := P) (w := w) 0 t ty e i 1 T.sl hi v _ _ o, by simpa using o, Keep.refl _ _, .inl rfl, fun h => ⟨h, rfl⟩⟩
  | false =>
    obtain ⟨a, cap, rfl⟩ := r.of_not_nil hnil
    obtain ⟨v', w', hr, h2, h3, h4, h5⟩ := run_append_own_at (P := P) w 0 t ty e i (.int .u8 0) 1 1 T.sl hi hz3 hz1 hz2 rfl (by decide) v bs.length (bvs bs) o a ys.length cap (bvs ys)
      (by simp [bvs_length])
      (fun j u hj => by
        by_cases hjl : j < ys.length
        · rw [bvs_get hjl] at hj
          cases hj
          have := r.cell j hjl
          obtain ⟨b, o, hbo⟩ := r.addr (by omega)
          cases hbo
          simpa [blk, offs, Addr_add_mk] using this
        · rw [List.getElem?_eq_none (by simpa [bvs_length] using hjl)] at hj; cases hj)
      (by intro u hu; simp [bvs] at hu; obtain ⟨x, _, rfl⟩ := hu; rfl)
      (by simp only [maxLen]; omega) (by omega) (Nat.zero_le _)
    refine ⟨v', w', hr, by simpa [Own, bvs_append] using h2, ⟨h3.os, h3.tape, h3.output, h3.size, fun k hk hn => h3.block k hk (fun e => hn e.symm)⟩, h5, ?_⟩
    intro hv'
    obtain ⟨hl, hh⟩ := h2
    rcases hh with ⟨e1, e2⟩ | ⟨g, c', cur, e1, _⟩
    · obtain ⟨e3, e4⟩ := h4.1 e1
      exact ⟨by rw [e3]; rfl, List.length_eq_zero_iff.1 e4⟩
    · rw [e1] at hv'; simp [isNil] at hv'

theorem wp_append_b {o : Oper} {a : Act} {K : Act → World → Prop} {Q : Exit → Act → World → Prop} (s x : Operand) {t e : TypeId} (T : BT P t e)
    (ho : o.op = .call { callee := .builtin .append, args := #[s, x], argTypes := #[t, t] }) {sv : Value} {ys : List UInt8} (hs : a.eval s = v) (own : Own e w v bs) (hx : a.eval x = sv) (r : Rd w sv ys) (hn : bs.length + ys.length ≤ 140737488351232)
    (h : ∀ v' w', Own e w' v' (bs ++ ys) → Keep (fun k => v.ownBlock = some k) w w' → (v'.ownBlock = v.ownBlock ∨ v'.ownBlock = some w.heap.size) → (isNil v' = true → isNil v = true ∧ ys = []) → K (a.put o.dst v') w') : o.wp P a w K Q := by
  obtain ⟨v', w', hr, h2, h3, h4, h5⟩ := run_append_b (P := P) (w := w) T o.type own r hn
  unfold Oper.wp execOp
  simp only [ho, resolve, invoke, builtin, Sem.run_bind, Sem.run_pure, Result.andThen_ok, List.map_toArray, List.map_cons, List.map_nil, hs, hx, hr]
  exact h v' w' h2 h3 h4 h5

/-- The same at a step of a region that draws. -/
theorem step_append_b {ops : Array Oper} {o : Oper} {a : Act} {K : Act → World → Prop} {Q : Exit → Act → World → Prop} {E : Prop} (hgd : o.guard = none) (s x : Operand) {t e : TypeId} (T : BT P t e)
    (ho : o.op = .call { callee := .builtin .append, args := #[s, x], argTypes := #[t, t] }) {sv : Value} {ys : List UInt8} (hs : a.eval s = v) (own : Own e w v bs) (hx : a.eval x = sv) (r : Rd w sv ys) (hn : bs.length + ys.length ≤ 140737488351232)
    (h : ∀ v' w', Own e w' v' (bs ++ ys) → Keep (fun k => v.ownBlock = some k) w w' → (v'.ownBlock = v.ownBlock ∨ v'.ownBlock = some w.heap.size) → (isNil v' = true → isNil v = true ∧ ys = []) → K (a.put o.dst v') w') :
    if Region.wanted o (yielded ops a.tmps) = true then Oper.wp P o a w K Q else E := by
  have hw : Region.wanted o (yielded ops a.tmps) = true := by simp [Region.wanted, hgd]
  rw [if_pos hw]
  exact wp_append_b s x T ho hs own hx r hn h

/-- 'append(s, x...)' in a plain region's list. -/
theorem wpList_append_b {ops : Array Oper} {rest : List Oper} {o : Oper} {a : Act} {Q : Exit → Act → World → Prop} (hgd : o.guard = none) (s x : Operand) {t e : TypeId} (T : BT P t e)
    (ho : o.op = .call { callee := .builtin .append, args := #[s, x], argTypes := #[t, t] }) {sv : Value} {ys : List UInt8} (hs : a.eval s = v) (own : Own e w v bs) (hx : a.eval x = sv) (r : Rd w sv ys) (hn : bs.length + ys.length ≤ 140737488351232)
    (h : ∀ v' w', Own e w' v' (bs ++ ys) → Keep (fun k => v.ownBlock = some k) w w' → (v'.ownBlock = v.ownBlock ∨ v'.ownBlock = some w.heap.size) → (isNil v' = true → isNil v = true ∧ ys = []) → wpList P ops Q rest (a.put o.dst v') w') : wpList P ops Q (o :: rest) a w :=
  wpList_plain hgd fun _ hK => wp_append_b s x T ho hs own hx r hn fun v' w' h2 h3 h4 h5 => hK _ _ (h v' w' h2 h3 h4 h5)

/-- 'copy(dst, s)', dst a part of a row that is known whole, s no longer than dst. -/
theorem run_copy_b {t e : TypeId} (T : BT P t e) (ty : TypeId) {s : Value} {ys : List UInt8} {g o dl dc : Nat} {cur : Array Value} {tt : TypeId} (hg : w.heap[g]? = some (.cells cur tt (0, 0))) (r : Rd w s ys) (hle : ys.length ≤ dl) (hfit : o + ys.length ≤ cur.size) :
    (Builtin.copy_ #[t, t] ty #[.slice (some ⟨g, o, none⟩) dl dc, s]).run P w = .ok (.int .i64 (ys.length : Int)) (w.setRow g (cur.toList.take o ++ bvs ys ++ cur.toList.drop (o + ys.length)).toArray) := by
  obtain ⟨i, hi, hz1, hz2, hz3⟩ := T.info
  cases hnil : isNil s with
  | true =>
    obtain ⟨rfl, rfl⟩ := r.of_nil hnil
    rw [run_copy_nil P w t t ty e ⟨g, o, none⟩ dl dc T.sl (by simp [hi])]
    simp only [bvs, List.map_nil, List.append_nil, List.length_nil, Nat.add_zero, List.take_append_drop, Array.toArray_toList]
    rw [setRow_self w g cur tt (0, 0) hg]
    rfl
  | false =>
    obtain ⟨a, cap, rfl⟩ := r.of_not_nil hnil
    have := run_copy_row P w t t ty e g o dl dc a ys.length cap cur tt (bvs ys) T.sl (by simp [hi, hz1]) hg (by rw [bvs_length]; exact (Nat.min_eq_left hle).symm)
      (fun j u hj => by
        by_cases hjl : j < ys.length
        · rw [bvs_get hjl] at hj
          cases hj
          have := r.cell j hjl
          obtain ⟨b, o, hbo⟩ := r.addr (by omega)
          cases hbo
          simpa [blk, offs, Addr_add_mk] using this
        · rw [List.getElem?_eq_none (by simpa [bvs_length] using hjl)] at hj; cases hj)
      (by rw [bvs_length]; exact hfit)
      (by intro u hu; simp [bvs] at hu; obtain ⟨x, _, rfl⟩ := hu; rfl)
    simpa [bvs_length, goInt] using this
end
theorem Keep.setRow {w : World} (g : Nat) (cs : Array Value) : Keep (One g) w (w.setRow g cs) :=
  ⟨rfl, rfl, rfl, by simp [World.setRow], fun k hk hn => by
    simp only [World.setRow, Array.getElem?_modify]
    rw [if_neg (fun e => hn e.symm)]⟩

/-- The smaller of two numbers, kept shut for the walk. -/
def mn (a b : Nat) : Nat := if b < a then b else a
theorem mn_le_left (a b : Nat) : mn a b ≤ a := by unfold mn; split <;> omega
theorem mn_le_right (a b : Nat) : mn a b ≤ b := by unfold mn; split <;> omega
theorem mn_eq (a b : Nat) : mn a b = min a b := by unfold mn; split <;> omega
theorem run_mn {P : Program} {w : World} (ts : Array TypeId) (t : TypeId) (a b : Nat) : (Builtin.min_ ts t #[.int .i64 (a : Int), .int .i64 (b : Int)]).run P w = .ok (.int .i64 (mn a b : Nat)) w := by
  unfold mn
  simp [go_sem]
  by_cases h : b < a
  · simp [h]
  · simp [h]
end Go.Proofs.Ytpididcghilbjaa
