/-
  Words for byte rows, kept worlds and addresses, used by every walk of this seat. No condition.
-/
import Derived.Test.YtpnocepepihflaaRows
import Derived.WalkKit
import Derived.WalkSpells
import Derived.WalkLawsBesides
import Derived.Deep.QuietTactic
import Derived.BigQuiet
import Derived.Lib.SliceRun
import Derived.Maps.AppendAt
import Derived.Laws.OwnMore
import Derived.Laws.CopyRow
import Derived.ProofKit
import Derived.OpenShut
import Derived.ShutString
import Derived.ChangeOld
import Derived.Below
import Derived.Orders
import Derived.LoopN
namespace Go.Proofs.Ytpnocepepihflaa
open Go.RowKit

/-! ### worlds -/
/-- From w to w' nothing has turned in the blocks that were there, but in those of S. -/
structure Keep (S : Nat → Prop) (w w' : World) : Prop where
  os : w'.os = w.os
  tape : w'.tape = w.tape
  output : w'.output = w.output
  size : w.heap.size ≤ w'.heap.size
  block : ∀ k, k < w.heap.size → ¬ S k → w'.heap[k]? = w.heap[k]?

def No : Nat → Prop := fun _ => False
def One (p : Nat) : Nat → Prop := fun k => k = p
/-- The blocks from B on. -/
def From (B : Nat) : Nat → Prop := fun k => B ≤ k

theorem Keep.refl (S : Nat → Prop) (w : World) : Keep S w w := ⟨rfl, rfl, rfl, Nat.le_refl _, fun _ _ _ => rfl⟩
theorem Keep.mono {S T : Nat → Prop} {w w' : World} (h : Keep S w w') (hs : ∀ k, k < w.heap.size → S k → T k) : Keep T w w' :=
  ⟨h.os, h.tape, h.output, h.size, fun k hk hn => h.block k hk (fun hS => hn (hs k hk hS))⟩
theorem Keep.trans {S : Nat → Prop} {a b c : World} (h : Keep S a b) (k : Keep S b c) : Keep S a c :=
  ⟨k.os.trans h.os, k.tape.trans h.tape, k.output.trans h.output, Nat.le_trans h.size k.size,
    fun i hi hn => (k.block i (Nat.lt_of_lt_of_le hi h.size) hn).trans (h.block i hi hn)⟩
/-- What was turned only in blocks that are new since a counts as nothing. -/
theorem Keep.trans' {S T : Nat → Prop} {a b c : World} (h : Keep S a b) (k : Keep T b c) (hs : ∀ i, i < a.heap.size → T i → S i) : Keep S a c :=
  ⟨k.os.trans h.os, k.tape.trans h.tape, k.output.trans h.output, Nat.le_trans h.size k.size,
    fun i hi hn => (k.block i (Nat.lt_of_lt_of_le hi h.size) (fun hT => hn (hs i hi hT))).trans (h.block i hi hn)⟩
theorem Keep.no {S : Nat → Prop} {w w' : World} (h : Keep No w w') : Keep S w w' := h.mono fun _ _ f => f.elim
theorem Keep.drew {S : Nat → Prop} {a w : World} (h : Keep S a w) : Keep S a w.drew := ⟨h.os, h.tape, h.output, h.size, h.block⟩
theorem Keep.drewN {S : Nat → Prop} {a w : World} (h : Keep S a w) (n : Nat) : Keep S a (w.drewN n) := ⟨h.os, h.tape, h.output, h.size, h.block⟩
theorem Keep.alloc {S : Nat → Prop} {a w : World} (h : Keep S a w) (o : Obj) : Keep S a (w.alloc o) :=
  h.trans' (T := No) ⟨rfl, rfl, rfl, by simp, fun k hk _ => Below.heap_alloc _ _ _ (by omega)⟩ (fun _ _ f => f.elim)
theorem Keep.setCell {S : Nat → Prop} {a w : World} (h : Keep S a w) {p : Addr} (hp : p.block < a.heap.size → S p.block) (u : Value) : Keep S a (w.setCell p u) :=
  h.trans' (T := One p.block) ⟨rfl, rfl, rfl, by simp [World.setCell], fun k hk hn => Below.heap_setCell _ _ _ _ hn⟩ (fun i hi e => by cases e; exact hp hi)
theorem Keep.set1 (w : World) (p o : Nat) (u : Value) : Keep (One p) w (w.setCell ⟨p, o, none⟩ u) := (Keep.refl (One p) w).setCell (p := ⟨p, o, none⟩) (fun _ => show p = p from rfl) u
theorem Keep.grown {S : Nat → Prop} {a w w' : World} {row : Option Nat} (h : Keep S a w) (hg : w.grownBy w' row) (hr : ∀ k, row = some k → k < a.heap.size → S k) : Keep S a w' :=
  h.trans' (T := fun k => row = some k) ⟨hg.os, hg.tape, hg.output, hg.size, fun k hk hn => hg.block k hk (fun e => hn e.symm)⟩ (fun i hi e => hr i e hi)
theorem Keep.cell {S : Nat → Prop} {w w' : World} (h : Keep S w w') {a : Addr} {v : Value} (hc : w.cell? a = some v) (hn : ¬ S a.block) : w'.cell? a = some v :=
  (World.cell?_of_block (h.block a.block (World.block_lt_of_cell? w a hc) hn)).trans hc
theorem Keep.cellLt {S : Nat → Prop} {w w' : World} (h : Keep S w w') {a : Addr} (hl : a.block < w.heap.size) (hn : ¬ S a.block) : w'.cell? a = w.cell? a :=
  World.cell?_of_block (h.block a.block hl hn)
theorem Keep.frozen {S : Nat → Prop} {w w' : World} (h : Keep S w w') {a : Addr} (hl : a.block < w.heap.size) (hn : ¬ S a.block) : w'.frozen? a = w.frozen? a :=
  World.frozen?_of_block (h.block a.block hl hn)
theorem Keep.below {B : Nat} {w w' : World} (h : Keep (From B) w w') (hB : B ≤ w.heap.size) : Below B w w' :=
  ⟨h.os, h.tape, h.output, h.size, fun k hk => h.block k (by omega) (by intro (f : B ≤ k); omega)⟩
theorem Keep.of_below {w w' : World} (h : Below w.heap.size w w') : Keep No w w' := ⟨h.os, h.tape, h.output, h.size, fun k hk _ => h.block k hk⟩

theorem World.size_setCell (w : World) (a : Addr) (u : Value) : (w.setCell a u).heap.size = w.heap.size := by simp [World.setCell]
theorem cell_new (w : World) (cs : Array Value) (t : TypeId) (o : Nat) : (w.alloc (.cells cs t)).cell? ⟨w.heap.size, o, none⟩ = cs[o]? := by
  have h := heap_alloc_new w (.cells cs t)
  simp only [World.cell?, h]
  simp
theorem heap_new1 (w : World) (a b : Obj) : ((w.alloc a).alloc b).heap[w.heap.size + 1]? = some b := by
  have h := heap_alloc_new (w.alloc a) b
  rwa [show (w.alloc a).heap.size = w.heap.size + 1 by simp] at h
theorem heap_new0 (w : World) (a b : Obj) : ((w.alloc a).alloc b).heap[w.heap.size]? = some a := by
  have h := heap_alloc_old (w.alloc a) b (r := w.heap.size) (by simp)
  rw [h]; exact heap_alloc_new w a
theorem cells_of {w : World} {g : Nat} {cs : Array Value} {t : TypeId} (h : w.heap[g]? = some (.cells cs t (0, 0))) (i : Nat) : w.cell? ⟨g, i, none⟩ = cs[i]? := by simp [World.cell?, h]
theorem free_of {w : World} {g : Nat} {cs : Array Value} {t : TypeId} (h : w.heap[g]? = some (.cells cs t (0, 0))) (i : Nat) : w.frozen? ⟨g, i, none⟩ = false := by simp [World.frozen?, h]
theorem frozen_new (w : World) (cs : Array Value) (t : TypeId) (o : Nat) : (w.alloc (.cells cs t)).frozen? ⟨w.heap.size, o, none⟩ = false := by
  have h := heap_alloc_new w (.cells cs t)
  simp only [World.frozen?, h]
  simp

/-! ### byte rows -/
abbrev bv (x : UInt8) : Value := .int .u8 (x.toNat : Int)
def byteAt (bs : List UInt8) (i : Nat) : UInt8 := bs.getD i 0
theorem byteAt_lt (bs : List UInt8) (i : Nat) : (byteAt bs i).toNat < 256 := (byteAt bs i).toNat_lt
theorem byteAt_eq {bs : List UInt8} {i : Nat} (h : i < bs.length) : byteAt bs i = bs[i] := by simp [byteAt, h]

/-- The address of a slice's element i (one cell an element). -/
def blk : Value → Nat | .slice (some a) _ _ => a.block | _ => 0
def offs : Value → Nat | .slice (some a) _ _ => a.off | _ => 0
abbrev adr (v : Value) (i : Nat) : Addr := ⟨blk v, offs v + i, none⟩

theorem Addr_add_add (b o i j : Nat) : (Addr.add (Addr.add ⟨b, o, none⟩ i) j) = Addr.add ⟨b, o, none⟩ (i + j) := by
  unfold Addr.add
  by_cases hi : i = 0 <;> by_cases hj : j = 0 <;> simp [hi, hj, Nat.add_assoc]
theorem Addr_add_mk (b o i : Nat) : (Addr.add ⟨b, o, none⟩ i) = ⟨b, o + i, none⟩ := by
  unfold Addr.add
  by_cases hi : i = 0 <;> simp [hi]

/-- The slice value v is n elements of s cells each; cell j of them holds c j. -/
structure Sl (s : Nat) (w : World) (v : Value) (n : Nat) (c : Nat → Value) : Prop where
  shape : ∃ ao cap, v = .slice ao n cap ∧ n ≤ cap ∧ cap ≤ maxLen ∧ (ao = none → cap = 0) ∧ (0 < n → ∃ b o, ao = some ⟨b, o, none⟩)
  cell : ∀ j, j < n * s → w.cell? ⟨blk v, offs v + j, none⟩ = some (c j)
/-- The slice value v reads in w as the bytes bs. -/
structure Rd (w : World) (v : Value) (bs : List UInt8) : Prop where
  shape : ∃ ao cap, v = .slice ao bs.length cap ∧ bs.length ≤ cap ∧ cap ≤ maxLen ∧ (ao = none → cap = 0) ∧ (0 < bs.length → ∃ b o, ao = some ⟨b, o, none⟩)
  cell : ∀ i, i < bs.length → w.cell? ⟨blk v, offs v + i, none⟩ = some (.int .u8 ((byteAt bs i).toNat : Int))

theorem Sl.block_eq {s n : Nat} {c : Nat → Value} {w : World} {v : Value} (h : Sl s w v n c) (hn : 0 < n) : v.ownBlock = some (blk v) := by
  obtain ⟨ao, cap, rfl, _, _, _, h4⟩ := h.shape
  obtain ⟨b, o, rfl⟩ := h4 hn
  simp [Value.ownBlock, blk]
theorem Sl.keep {s n : Nat} {c : Nat → Value} {S : Nat → Prop} {w w' : World} {v : Value} (h : Sl s w v n c) (k : Keep S w w') (hs : ∀ b, v.ownBlock = some b → ¬ S b) : Sl s w' v n c :=
  ⟨h.shape, fun j hj => k.cell (h.cell j hj) (hs _ (h.block_eq (by rcases Nat.eq_zero_or_pos n with h | h; (· subst h; simp at hj); (· exact h))))⟩
theorem Sl.keep0 {s n : Nat} {c : Nat → Value} {w w' : World} {v : Value} (h : Sl s w v n c) (k : Keep No w w') : Sl s w' v n c := h.keep k fun _ _ f => f.elim
theorem Rd.block_eq {w : World} {v : Value} {bs : List UInt8} (h : Rd w v bs) {i : Nat} (hi : i < bs.length) : v.ownBlock = some (blk v) := by
  obtain ⟨ao, cap, rfl, _, _, _, h4⟩ := h.shape
  obtain ⟨b, o, rfl⟩ := h4 (by omega)
  simp [Value.ownBlock, blk]

theorem Rd.form {w : World} {v : Value} {bs : List UInt8} (h : Rd w v bs) : ∃ ao n cap, v = .slice ao n cap := by
  obtain ⟨ao, cap, e, _⟩ := h.shape
  exact ⟨ao, _, cap, e⟩
theorem Rd.not_agg {w : World} {v : Value} {bs : List UInt8} (h : Rd w v bs) : ∀ cs, v = .agg cs → False := by
  obtain ⟨ao, cap, e, _⟩ := h.shape
  intro cs h2
  rw [e] at h2
  cases h2
theorem Rd.keep {S : Nat → Prop} {w w' : World} {v : Value} {bs : List UInt8} (h : Rd w v bs) (k : Keep S w w') (hs : ∀ b, v.ownBlock = some b → ¬ S b) : Rd w' v bs :=
  ⟨h.shape, fun i hi => k.cell (h.cell i hi) (hs _ (h.block_eq hi))⟩
theorem Rd.keep0 {w w' : World} {v : Value} {bs : List UInt8} (h : Rd w v bs) (k : Keep No w w') : Rd w' v bs := h.keep k fun _ _ f => f.elim
theorem Rd.drewN {w : World} {v : Value} {bs : List UInt8} (h : Rd w v bs) (n : Nat) : Rd (w.drewN n) v bs := h.keep0 ((Keep.refl _ _).drewN n)

/-- v lies in no block but those from B on. -/
def Since (B : Nat) (v : Value) : Prop := ∀ b, v.ownBlock = some b → B ≤ b
theorem Since.mono {B C : Nat} {v : Value} (h : Since C v) (hb : B ≤ C) : Since B v := fun b e => Nat.le_trans hb (h b e)
/-- v lies below B. -/
def Under (B : Nat) (v : Value) : Prop := ∀ b, v.ownBlock = some b → b < B

theorem Rd.nil (w : World) : Rd w (.slice none 0 0) [] := ⟨⟨none, 0, rfl, by simp, by simp [maxLen], by simp, by simp⟩, by simp⟩

/-- The slice v[l:h]. -/
def cutv (v : Value) (l h : Nat) : Value := match v with | .slice a _ c => .slice (if c = l then a else a.map (·.add l)) (h - l) (c - l) | x => x

theorem ownBlock_cutv (v : Value) (l h : Nat) : (cutv v l h).ownBlock = v.ownBlock := by
  unfold cutv Value.ownBlock
  cases v <;> try rfl
  rename_i a n c
  cases a with
  | none => simp
  | some a =>
    by_cases e : c = l
    · simp [e]
    · simp only [e, if_false, Option.map_some, Addr.add]
      split <;> rfl

theorem byteAt_slice (bs : List UInt8) (l h i : Nat) (hi : i < h - l) : byteAt ((bs.drop l).take (h - l)) i = byteAt bs (l + i) := by
  simp only [byteAt, List.getD_eq_getElem?_getD, List.getElem?_take, List.getElem?_drop, if_pos hi]

theorem Rd.cut {w : World} {v : Value} {bs : List UInt8} (r : Rd w v bs) {l h : Nat} (h1 : l ≤ h) (h2 : h ≤ bs.length) : Rd w (cutv v l h) ((bs.drop l).take (h - l)) := by
  have hlen : ((bs.drop l).take (h - l)).length = h - l := by simp; omega
  obtain ⟨ao, cap, rfl, hc, hm, hn, hb⟩ := r.shape
  refine ⟨⟨if cap = l then ao else ao.map (·.add l), cap - l, by simp [cutv, hlen], by rw [hlen]; omega, by omega, ?_, ?_⟩, ?_⟩
  · intro h0
    by_cases e : cap = l
    · omega
    · rw [if_neg e] at h0
      have := hn (by simpa using h0)
      omega
  · intro hpos
    rw [hlen] at hpos
    obtain ⟨b, o, rfl⟩ := hb (by omega)
    rw [if_neg (by omega)]
    exact ⟨b, o + l, by simp [Addr_add_mk]⟩
  · intro i hi
    rw [hlen] at hi
    obtain ⟨b, o, rfl⟩ := hb (by omega)
    rw [byteAt_slice _ _ _ _ hi]
    have := r.cell (l + i) (by omega)
    simpa [cutv, blk, offs, if_neg (show ¬ cap = l by omega), Addr_add_mk, Nat.add_assoc] using this

/-! ### operations on byte rows -/
section
variable {P : Program} {w' w : World} {v : Value} {bs : List UInt8}

theorem Rd.run_len (r : Rd w v bs) {t ty e : TypeId} (ht : P.underlying t = some (.slice e)) : (Builtin.len_ #[t] ty #[v]).run P w' = .ok (.int .i64 (bs.length : Int)) w' := by
  obtain ⟨ao, cap, rfl, _⟩ := r.shape
  simp [Builtin.len_, run_underlying ht, goInt]

theorem size_of {e : TypeId} {n : Nat} (hz : (P.info? e).map (·.size) = some n) : (sizeOf e).run P w' = .ok n w' := by
  cases hi : P.info? e with
  | none => simp [hi] at hz
  | some i => simp [hi] at hz; simp [sizeOf, typeInfo, hi, hz]

theorem Rd.run_at (r : Rd w v bs) {t e : TypeId} (ht : P.underlying t = some (.slice e)) (hz : (P.info? e).map (·.size) = some 1) {k : IntKind} {i : Int} (h0 : 0 ≤ i) (hi : i < (bs.length : Int)) :
    (Instr.indexAt t v (.int k i)).run P w' = .ok (.pointer (some (adr v i.toNat))) w' := by
  obtain ⟨ao, cap, rfl, _, _, _, hb⟩ := r.shape
  obtain ⟨b, o, rfl⟩ := hb (by omega)
  simp [Instr.indexAt, run_underlying ht, asIntOf, size_of hz, blk, offs, h0, hi, Addr_add_mk]

theorem Sl.run_len {s n : Nat} {c : Nat → Value} (r : Sl s w v n c) {t ty e : TypeId} (ht : P.underlying t = some (.slice e)) : (Builtin.len_ #[t] ty #[v]).run P w' = .ok (.int .i64 (n : Int)) w' := by
  obtain ⟨ao, cap, rfl, _⟩ := r.shape
  simp [Builtin.len_, run_underlying ht, goInt]
theorem Sl.run_at {s n : Nat} {c : Nat → Value} (r : Sl s w v n c) {t e : TypeId} (ht : P.underlying t = some (.slice e)) (hz : (P.info? e).map (·.size) = some s) {k : IntKind} {i : Int} (h0 : 0 ≤ i) (hi : i < (n : Int)) :
    (Instr.indexAt t v (.int k i)).run P w' = .ok (.pointer (some ⟨blk v, offs v + i.toNat * s, none⟩)) w' := by
  obtain ⟨ao, cap, rfl, _, _, _, hb⟩ := r.shape
  obtain ⟨b, o, rfl⟩ := hb (by omega)
  simp [Instr.indexAt, run_underlying ht, asIntOf, size_of hz, blk, offs, h0, hi, Addr_add_mk]

theorem run_bound (x : Nat) (y : Nat) (hy : x ≤ y) (k : IntKind) (c : BoundsCode) : (Instr.sliceBound (.int k (x : Int)) y c).run P w' = .ok x w' := by
  simp [Instr.sliceBound, asIntOf, hy]

theorem Rd.run_cut (r : Rd w v bs) {t e : TypeId} (ht : P.underlying t = some (.slice e)) (hz : (P.info? e).map (·.size) = some 1) {k k' : IntKind} {l h : Int} (h0 : 0 ≤ l) (h1 : l ≤ h) (h2 : h ≤ (bs.length : Int)) :
    (Instr.slice t v (some (.int k l)) (some (.int k' h)) none).run P w' = .ok (cutv v l.toNat h.toNat) w' := by
  obtain ⟨l, rfl⟩ := Int.eq_ofNat_of_zero_le h0
  obtain ⟨h, rfl⟩ := Int.eq_ofNat_of_zero_le (show 0 ≤ h by omega)
  obtain ⟨ao, cap, rfl, hc, _⟩ := r.shape
  simp only [Int.toNat_natCast] at *
  simp [Instr.slice, run_underlying ht, Instr.sliceBounds, run_bound l h (by omega), run_bound h cap (by omega), size_of hz, cutv]
theorem Rd.run_cutL (r : Rd w v bs) {t e : TypeId} (ht : P.underlying t = some (.slice e)) (hz : (P.info? e).map (·.size) = some 1) {k : IntKind} {l : Int} (h0 : 0 ≤ l) (h1 : l ≤ (bs.length : Int)) :
    (Instr.slice t v (some (.int k l)) none none).run P w' = .ok (cutv v l.toNat bs.length) w' := by
  obtain ⟨l, rfl⟩ := Int.eq_ofNat_of_zero_le h0
  obtain ⟨ao, cap, rfl, hc, _⟩ := r.shape
  simp only [Int.toNat_natCast] at *
  simp [Instr.slice, run_underlying ht, Instr.sliceBounds, run_bound l bs.length (by omega), size_of hz, cutv]
theorem Rd.run_cutH (r : Rd w v bs) {t e : TypeId} (ht : P.underlying t = some (.slice e)) (hz : (P.info? e).map (·.size) = some 1) {k' : IntKind} {h : Int} (h1 : 0 ≤ h) (h2 : h ≤ (bs.length : Int)) :
    (Instr.slice t v none (some (.int k' h)) none).run P w' = .ok (cutv v 0 h.toNat) w' := by
  obtain ⟨h, rfl⟩ := Int.eq_ofNat_of_zero_le h1
  obtain ⟨ao, cap, rfl, hc, _⟩ := r.shape
  simp only [Int.toNat_natCast] at *
  simp [Instr.slice, run_underlying ht, Instr.sliceBounds, run_bound h cap (by omega), size_of hz, cutv]
end

/-! ### the tests against nil, and append -/
def isNil : Value → Bool | .slice a _ _ => a.isNone | _ => false
section
variable {P : Program} {w' w : World} {v : Value} {bs : List UInt8}
@[go_sem] theorem run_eqGuard_slice (op : BinOp) (t : TypeId) (x y : Operand) (v : Value) (a : Option Addr) (n c : Nat) : (eqGuard op t x y v (.slice a n c)).run P w' = .ok () w' := by
  unfold eqGuard
  cases op <;> cases v <;> simp
theorem Rd.run_isnil (r : Rd w v bs) {t e : TypeId} (ht : P.underlying t = some (.slice e)) : (binOp .eql t v (.slice none 0 0)).run P w' = .ok (.bool (isNil v)) w' := by
  obtain ⟨ao, cap, rfl, _⟩ := r.shape
  exact Lib.run_eql_slice_nil w' t e ao _ cap 0 0 ht
theorem Rd.run_isnot (r : Rd w v bs) {t e : TypeId} (ht : P.underlying t = some (.slice e)) : (binOp .neq t v (.slice none 0 0)).run P w' = .ok (.bool (!isNil v)) w' := by
  obtain ⟨ao, cap, rfl, _⟩ := r.shape
  exact run_neq_slice_nil_any w' t e ao _ cap 0 0 ht
theorem Rd.of_nil (r : Rd w v bs) (h : isNil v = true) : v = .slice none 0 0 ∧ bs = [] := by
  obtain ⟨ao, cap, rfl, hc, _, hn, _⟩ := r.shape
  cases ao with
  | some a => simp [isNil] at h
  | none =>
    have := hn rfl
    subst this
    have hb : bs = [] := List.length_eq_zero_iff.1 (by omega)
    subst hb
    exact ⟨rfl, rfl⟩
theorem Rd.of_not_nil (r : Rd w v bs) (h : isNil v = false) : ∃ a cap, v = .slice (some a) bs.length cap := by
  obtain ⟨ao, cap, rfl, hc, _, hn, _⟩ := r.shape
  cases ao with
  | some a => exact ⟨a, cap, rfl⟩
  | none => simp [isNil] at h

theorem Rd.addr {a : Addr} {n cap : Nat} (r : Rd w (.slice (some a) n cap) bs) (h : 0 < bs.length) : ∃ b o, a = ⟨b, o, none⟩ := by
  obtain ⟨ao, cap', he, _, _, _, h4⟩ := r.shape
  obtain ⟨b, o, hb⟩ := h4 h
  cases he
  exact ⟨b, o, by simpa using hb⟩
/-- t is the type of slices of bytes, e that of bytes. -/
structure BT (P : Program) (t e : TypeId) : Prop where
  sl : P.underlying t = some (.slice e)
  el : P.underlying e = some (.int .u8)
  info : ∃ i, P.info? e = some i ∧ i.size = 1 ∧ i.bytes = 1 ∧ i.zero = some (.int .u8 0)

def bvs (bs : List UInt8) : List Value := bs.map fun x => .int .u8 (x.toNat : Int)
theorem bvs_length (bs : List UInt8) : (bvs bs).length = bs.length := by simp [bvs]
theorem bvs_append (xs ys : List UInt8) : bvs (xs ++ ys) = bvs xs ++ bvs ys := by simp [bvs]
theorem bvs_get {bs : List UInt8} {i : Nat} (h : i < bs.length) : (bvs bs)[i]? = some (.int .u8 ((byteAt bs i).toNat : Int)) := by simp [bvs, byteAt, h]

/-- v owns the bytes bs: it may be appended to. -/
def Own (e : TypeId) (w : World) (v : Value) (bs : List UInt8) : Prop := w.ownsRow 0 e 1 v bs.length (bvs bs)

theorem Own.nil (e : TypeId) (w : World) : Own e w (.slice none 0 0) [] := World.ownsRow_nil _ _ _ _

theorem Own.rd {e : TypeId} (h : Own e w v bs) : Rd w v bs := by
  obtain ⟨hl, h⟩ := h
  rcases h with ⟨rfl, h0⟩ | ⟨g, cap, cur, rfl, _, hg, hc, hm, hs, ht⟩
  · have : bs = [] := List.length_eq_zero_iff.1 h0
    subst this
    exact Rd.nil w
  · refine ⟨⟨some ⟨g, 0, none⟩, cap, rfl, hc, hm, by simp, fun _ => ⟨g, 0, rfl⟩⟩, fun i hi => ?_⟩
    simp only [blk, offs, Nat.zero_add]
    have h2 : cur.toList[i]? = some (.int .u8 ((byteAt bs i).toNat : Int)) := by
      have h3 : (cur.toList.take (bs.length * 1))[i]? = some (.int .u8 ((byteAt bs i).toNat : Int)) := by rw [ht]; exact bvs_get hi
      rw [List.getElem?_take] at h3
      simpa [hi] using h3
    simp only [World.cell?, hg]
    simpa using h2

theorem Own.lt {e : TypeId} (h : Own e w v bs) : Under w.heap.size v := by
  obtain ⟨hl, h⟩ := h
  intro b hb
  rcases h with ⟨rfl, _⟩ | ⟨g, cap, cur, rfl, _, hg, _⟩
  · simp [Value.ownBlock] at hb
  · simp [Value.ownBlock] at hb
    subst hb
    rcases Nat.lt_or_ge g w.heap.size with hlt | hge
    · exact hlt
    · rw [Array.getElem?_eq_none hge] at hg; cases hg

theorem Own.form {e : TypeId} (h : Own e w v bs) (hn : 0 < bs.length) : ∃ g cap, v = .slice (some ⟨g, 0, none⟩) bs.length cap := by
  obtain ⟨hl, h⟩ := h
  rcases h with ⟨_, h0⟩ | ⟨g, cap, cur, hv, _⟩
  · omega
  · exact ⟨g, cap, hv⟩

theorem Own.keep {e : TypeId} {S : Nat → Prop} (h : Own e w v bs) (k : Keep S w w') (hs : ∀ b, v.ownBlock = some b → ¬ S b) : Own e w' v bs := by
  obtain ⟨hl, h⟩ := h
  refine ⟨hl, ?_⟩
  rcases h with h | ⟨g, cap, cur, rfl, hb, hg, r⟩
  · exact .inl h
  · refine .inr ⟨g, cap, cur, rfl, hb, ?_, r⟩
    have hlt : g < w.heap.size := by
      rcases Nat.lt_or_ge g w.heap.size with hlt | hge
      · exact hlt
      · rw [Array.getElem?_eq_none hge] at hg; cases hg
    rw [k.block g hlt (hs g rfl)]; exact hg

theorem Own.made {e : TypeId} (w : World) (bs : List UInt8) (hm : bs.length ≤ maxLen) : Own e (w.alloc (.cells (bvs bs).toArray e)) (.slice (some ⟨w.heap.size, 0, none⟩) bs.length bs.length) bs :=
  ⟨by simp [bvs_length], .inr ⟨w.heap.size, bs.length, (bvs bs).toArray, rfl, Nat.zero_le _, heap_alloc_new w _, Nat.le_refl _, hm, by simp [bvs_length], by simp [← bvs_length bs]⟩⟩

/-- 'append(v, s...)'. -/
theorem run_append_b {t e : TypeId} (T : BT P t e) (ty : TypeId) {s : Value} {ys : List UInt8} (o : Own e w v bs) (r : Rd w s ys) (hn : bs.length + ys.length ≤ 140737488351232) :
    ∃ v' w', (Builtin.append_ #[t, t] ty #[v, s]).run P w = .ok v' w' ∧ Own e w' v' (bs ++ ys) ∧ Keep (fun k => v.ownBlock = some k) w w' ∧
      (v'.ownBlock = v.ownBlock ∨ v'.ownBlock = some w.heap.size) ∧ (isNil v' = true → isNil v = true ∧ ys = []) := by
  obtain ⟨i, hi, hz1, hz2, hz3⟩ := T.info
  cases hnil : isNil s with
  | true =>
    obtain ⟨rfl, rfl⟩ := r.of_nil hnil
    exact ⟨v, w, run_append_owned_none (P := P) (w := w) 0 t ty e i 1 T.sl hi v _ _ o, by simpa using o, Keep.refl _ _, .inl rfl, fun h => ⟨h, rfl⟩⟩
  | false =>
    obtain ⟨a, cap, rfl⟩ := r.of_not_nil hnil
    obtain ⟨v', w', hr, h2, h3, h4, h5⟩ := run_append_own_at (P := P) w 0 t ty e i (.int .u8 0) 1 1 T.sl hi hz3 hz1 hz2 rfl (by decide) v bs.length (bvs bs) o a ys.length cap (bvs ys)
      (by simp [bvs_length])
      (fun j u hj => by
        by_cases hjl : j < ys.length
        · rw [bvs_get hjl] at hj
          cases hj
          have := r.cell j hjl
          obtain ⟨b, o, hbo⟩ := r.addr (by omega)
          cases hbo
          simpa [blk, offs, Addr_add_mk] using this
        · rw [List.getElem?_eq_none (by simpa [bvs_length] using hjl)] at hj; cases hj)
      (by intro u hu; simp [bvs] at hu; obtain ⟨x, _, rfl⟩ := hu; rfl)
      (by simp only [maxLen]; omega) (by omega) (Nat.zero_le _)
    refine ⟨v', w', hr, by simpa [Own, bvs_append] using h2, ⟨h3.os, h3.tape, h3.output, h3.size, fun k hk hn => h3.block k hk (fun e => hn e.symm)⟩, h5, ?_⟩
    intro hv'
    obtain ⟨hl, hh⟩ := h2
    rcases hh with ⟨e1, e2⟩ | ⟨g, c', cur, e1, _⟩
    · obtain ⟨e3, e4⟩ := h4.1 e1
      exact ⟨by rw [e3]; rfl, List.length_eq_zero_iff.1 e4⟩
    · rw [e1] at hv'; simp [isNil] at hv'

theorem wp_append_b {o : Oper} {a : Act} {K : Act → World → Prop} {Q : Exit → Act → World → Prop} (s x : Operand) {t e : TypeId} (T : BT P t e)
    (ho : o.op = .call { callee := .builtin .append, args := #[s, x], argTypes := #[t, t] }) {sv : Value} {ys : List UInt8} (hs : a.eval s = v) (own : Own e w v bs) (hx : a.eval x = sv) (r : Rd w sv ys) (hn : bs.length + ys.length ≤ 140737488351232)
    (h : ∀ v' w', Own e w' v' (bs ++ ys) → Keep (fun k => v.ownBlock = some k) w w' → (v'.ownBlock = v.ownBlock ∨ v'.ownBlock = some w.heap.size) → (isNil v' = true → isNil v = true ∧ ys = []) → K (a.put o.dst v') w') : o.wp P a w K Q := by
  obtain ⟨v', w', hr, h2, h3, h4, h5⟩ := run_append_b (P := P) (w := w) T o.type own r hn
  unfold Oper.wp execOp
  simp only [ho, resolve, invoke, builtin, Sem.run_bind, Sem.run_pure, Result.andThen_ok, List.map_toArray, List.map_cons, List.map_nil, hs, hx, hr]
  exact h v' w' h2 h3 h4 h5

/-- The same at a step of a region that draws. -/
theorem step_append_b {ops : Array Oper} {o : Oper} {a : Act} {K : Act → World → Prop} {Q : Exit → Act → World → Prop} {E : Prop} (hgd : o.guard = none) (s x : Operand) {t e : TypeId} (T : BT P t e)
    (ho : o.op = .call { callee := .builtin .append, args := #[s, x], argTypes := #[t, t] }) {sv : Value} {ys : List UInt8} (hs : a.eval s = v) (own : Own e w v bs) (hx : a.eval x = sv) (r : Rd w sv ys) (hn : bs.length + ys.length ≤ 140737488351232)
    (h : ∀ v' w', Own e w' v' (bs ++ ys) → Keep (fun k => v.ownBlock = some k) w w' → (v'.ownBlock = v.ownBlock ∨ v'.ownBlock = some w.heap.size) → (isNil v' = true → isNil v = true ∧ ys = []) → K (a.put o.dst v') w') :
    if Region.wanted o (yielded ops a.tmps) = true then Oper.wp P o a w K Q else E := by
  have hw : Region.wanted o (yielded ops a.tmps) = true := by simp [Region.wanted, hgd]
  rw [if_pos hw]
  exact wp_append_b s x T ho hs own hx r hn h

/-- 'append(s, x...)' in a plain region's list. -/
theorem wpList_append_b {ops : Array Oper} {rest : List Oper} {o : Oper} {a : Act} {Q : Exit → Act → World → Prop} (hgd : o.guard = none) (s x : Operand) {t e : TypeId} (T : BT P t e)
    (ho : o.op = .call { callee := .builtin .append, args := #[s, x], argTypes := #[t, t] }) {sv : Value} {ys : List UInt8} (hs : a.eval s = v) (own : Own e w v bs) (hx : a.eval x = sv) (r : Rd w sv ys) (hn : bs.length + ys.length ≤ 140737488351232)
    (h : ∀ v' w', Own e w' v' (bs ++ ys) → Keep (fun k => v.ownBlock = some k) w w' → (v'.ownBlock = v.ownBlock ∨ v'.ownBlock = some w.heap.size) → (isNil v' = true → isNil v = true ∧ ys = []) → wpList P ops Q rest (a.put o.dst v') w') : wpList P ops Q (o :: rest) a w :=
  wpList_plain hgd fun _ hK => wp_append_b s x T ho hs own hx r hn fun v' w' h2 h3 h4 h5 => hK _ _ (h v' w' h2 h3 h4 h5)

/-- 'copy(dst, s)', dst a part of a row that is known whole, s no longer than dst. -/
theorem run_copy_b {t e : TypeId} (T : BT P t e) (ty : TypeId) {s : Value} {ys : List UInt8} {g o dl dc : Nat} {cur : Array Value} {tt : TypeId} (hg : w.heap[g]? = some (.cells cur tt (0, 0))) (r : Rd w s ys) (hle : ys.length ≤ dl) (hfit : o + ys.length ≤ cur.size) :
    (Builtin.copy_ #[t, t] ty #[.slice (some ⟨g, o, none⟩) dl dc, s]).run P w = .ok (.int .i64 (ys.length : Int)) (w.setRow g (cur.toList.take o ++ bvs ys ++ cur.toList.drop (o + ys.length)).toArray) := by
  obtain ⟨i, hi, hz1, hz2, hz3⟩ := T.info
  cases hnil : isNil s with
  | true =>
    obtain ⟨rfl, rfl⟩ := r.of_nil hnil
    rw [run_copy_nil P w t t ty e ⟨g, o, none⟩ dl dc T.sl (by simp [hi])]
    simp only [bvs, List.map_nil, List.append_nil, List.length_nil, Nat.add_zero, List.take_append_drop, Array.toArray_toList]
    rw [setRow_self w g cur tt (0, 0) hg]
    rfl
  | false =>
    obtain ⟨a, cap, rfl⟩ := r.of_not_nil hnil
    have := run_copy_row P w t t ty e g o dl dc a ys.length cap cur tt (bvs ys) T.sl (by simp [hi, hz1]) hg (by rw [bvs_length]; exact (Nat.min_eq_left hle).symm)
      (fun j u hj => by
        by_cases hjl : j < ys.length
        · rw [bvs_get hjl] at hj
          cases hj
          have := r.cell j hjl
          obtain ⟨b, o, hbo⟩ := r.addr (by omega)
          cases hbo
          simpa [blk, offs, Addr_add_mk] using this
        · rw [List.getElem?_eq_none (by simpa [bvs_length] using hjl)] at hj; cases hj)
      (by rw [bvs_length]; exact hfit)
      (by intro u hu; simp [bvs] at hu; obtain ⟨x, _, rfl⟩ := hu; rfl)
    simpa [bvs_length, goInt] using this
end
theorem Keep.setRow {w : World} (g : Nat) (cs : Array Value) : Keep (One g) w (w.setRow g cs) :=
  ⟨rfl, rfl, rfl, by simp [World.setRow], fun k hk hn => by
    simp only [World.setRow, Array.getElem?_modify]
    rw [if_neg (fun e => hn e.symm)]⟩

/-- The smaller of two numbers, kept shut for the walk. -/
def mn (a b : Nat) : Nat := if b < a then b else a
theorem mn_le_left (a b : Nat) : mn a b ≤ a := by unfold mn; split <;> omega
theorem mn_le_right (a b : Nat) : mn a b ≤ b := by unfold mn; split <;> omega
theorem mn_eq (a b : Nat) : mn a b = min a b := by unfold mn; split <;> omega
theorem run_mn {P : Program} {w : World} (ts : Array TypeId) (t : TypeId) (a b : Nat) : (Builtin.min_ ts t #[.int .i64 (a : Int), .int .i64 (b : Int)]).run P w = .ok (.int .i64 (mn a b : Nat)) w := by
  unfold mn
  simp [go_sem]
  by_cases h : b < a
  · simp [h]
  · simp [h]
end Go.Proofs.Ytpnocepepihflaa
namespace Go.Proofs.Ytpnocepepihflaa
open Go.RowKit

theorem bt : BT Try.prog 22 5 where
  sl := Try.underlying22
  el := Try.underlying5
  info := by
    have h : (Try.prog.info? 5).map (fun i => (i.size, i.bytes, i.zero)) = some (1, 1, some (.int .u8 0)) := by kernel_rfl
    cases hi : Try.prog.info? 5 with
    | none => rw [hi] at h; cases h
    | some i => rw [hi] at h; simp at h; exact ⟨i, rfl, h.1, h.2.1, h.2.2⟩
theorem bsize : (Try.prog.info? 5).map (·.size) = some 1 := by kernel_rfl

/-- What a call that makes new bytes leaves. -/
structure Fresh (w : World) (bs : List UInt8) (v : Value) (w' : World) : Prop where
  own : Own 5 w' v bs
  keep : Keep No w w'
  since : Since w.heap.size v

theorem Fresh.rd {w w' : World} {bs : List UInt8} {v : Value} (h : Fresh w bs v w') : Rd w' v bs := h.own.rd

set_option maxHeartbeats 400000 in
theorem sclone_any (v : Value) (bs : List UInt8) (w : World) (r : Rd w v bs) (hn : bs.length ≤ 140737488351232) :
    Calls Try.prog 46 #[v] w fun e w' => ∃ v', e = .returned v' ∧ Fresh w bs v' w' ∧ isNil v' = isNil v := by
  cases hnil : isNil v with
  | true =>
    obtain ⟨rfl, rfl⟩ := r.of_nil hnil
    have hrun : ∀ wx, (binOp .eql 22 (.slice none 0 0) (.slice none 0 0)).run Try.prog wx = .ok (.bool true) wx := fun wx => r.run_isnil bt.sl
    go_enter Try.func46, Try.ntmps46
    go_wp2
    go_ret
    exact ⟨_, rfl, ⟨Own.nil _ _, Keep.refl _ _, by intro b h; simp [Value.ownBlock] at h⟩, rfl⟩
  | false =>
    have hrun : ∀ wx, (binOp .eql 22 v (.slice none 0 0)).run Try.prog wx = .ok (.bool false) wx := fun wx => by rw [← hnil]; exact r.run_isnil bt.sl
    go_enter Try.func46, Try.ntmps46
    go_wp2_with (at_builtin; refine wpList_append_b (v := .slice (some ⟨w.heap.size, 0, none⟩) 0 0) (sv := v) rfl _ _ bt rfl rfl (Own.made w [] (by simp [maxLen])) rfl (r.keep0 ((Keep.refl _ _).alloc _)) (by simpa using hn) ?_; intro v' w' hown hkeep hblk hnn)
    go_ret
    simp only [List.nil_append] at hown
    refine ⟨v', rfl, ⟨hown, ((Keep.refl No w).alloc (.cells #[] 5)).trans' hkeep (by intro i hi h; simp [Value.ownBlock] at h; omega), ?_⟩, ?_⟩
    · intro b hb
      rcases hblk with h | h <;> rw [h] at hb <;> simp [Value.ownBlock] at hb <;> omega
    · cases h : isNil v' with
      | false => rfl
      | true => have := (hnn h).1; simp [isNil] at this
end Go.Proofs.Ytpnocepepihflaa
namespace Go.Proofs.Ytpnocepepihflaa
open Go.RowKit Go.ChangeShapes Go.WideShapes Go.ChangeAt

theorem own : ownKnob Try.prog.godebug = none := by kernel_rfl
theorem laidOut : laidOutB Try.prog = true := by kernel_rfl

theorem Keep.to_below {w w' : World} (h : Keep No w w') : Below w.heap.size w w' := ⟨h.os, h.tape, h.output, h.size, fun k hk => h.block k hk (fun f => f)⟩

theorem wf_u8 {n : Int} (h : (Lit.int .u8 n).wf = true) : 0 ≤ n ∧ n < 256 := by
  have := bounds_u8 h
  omega
theorem byte_of_int {n : Int} (h : 0 ≤ n ∧ n < 256) : ((UInt8.ofNat n.toNat).toNat : Int) = n := by
  have h2 : n.toNat < 256 := by omega
  rw [UInt8.toNat_ofNat_of_lt' (by simpa using h2)]
  omega

theorem spot_of_cell {w : World} {x : Addr} {v : Value} (h : w.cell? x = some v) : x.spot = none := by
  unfold World.cell? at h
  split at h
  · split at h
    · cases h
    · rename_i hs; simpa using hs
  · cases h

/-- A slice of bytes that came in reads as a list of bytes. -/
theorem open_bytes {H : Type} {enc : TypeId × Value → H} {w : World} {t : TypeId} {a : Option Addr} {len cap m f : Nat} {cs : List Value} {x : DataW H × List MemPlace} {held : Bool}
    (ht : Try.prog.underlying t = some (.slice 5)) (hcs : cs = [.slice a len cap]) (hf : DataW.trod enc Try.prog w m (fun _ => true) held f t cs = some x) :
    ∃ bs, Rd w (.slice a len cap) bs ∧ bs.length = len := by
  subst hcs
  rcases open_ints ht Try.underlying5 (by kernel_rfl) hf with ⟨hcs, _⟩ | ⟨y, l, c, zs, hcs, _, hl, hm, hz, hx, hcell, hwz⟩
  · simp at hcs
    obtain ⟨rfl, rfl, rfl⟩ := hcs
    exact ⟨[], Rd.nil w, rfl⟩
  · simp at hcs
    obtain ⟨rfl, rfl, rfl⟩ := hcs
    have hz' : zs.length = cap := by simpa using hz
    have hb : ∀ i, i < zs.length → ((UInt8.ofNat (zs.getD i 0).toNat).toNat : Int) = zs.getD i 0 := fun i hi => byte_of_int (wf_u8 (hwz _ (by rw [List.getD_eq_getElem?_getD, List.getElem?_eq_getElem hi]; simp)))
    refine ⟨(zs.take len).map fun n => UInt8.ofNat n.toNat, ?_, by simp; omega⟩
    · have hlen : ((zs.take len).map fun n => UInt8.ofNat n.toNat).length = len := by simp; omega
      have sp : 0 < len → y = ⟨y.block, y.off, none⟩ := fun h => by
        have := spot_of_cell (hcell 0 (by omega))
        simp [Addr.add] at this
        cases y
        simp_all
      refine ⟨⟨some y, cap, by rw [hlen], by rw [hlen]; exact hl, hm, by simp, fun h => ⟨y.block, y.off, by rw [hlen] at h; rw [← sp h]⟩⟩, fun i hi => ?_⟩
      rw [hlen] at hi
      have h1 := hcell i (by omega)
      rw [sp (by omega), Addr_add_mk] at h1
      have h2 : byteAt ((zs.take len).map fun n => UInt8.ofNat n.toNat) i = UInt8.ofNat (zs.getD i 0).toNat := by
        simp only [byteAt, List.getD_eq_getElem?_getD, List.getElem?_map, List.getElem?_take, if_pos hi]
        rw [List.getElem?_eq_getElem (by omega : i < zs.length)]
        simp
      rw [h2, hb i (by omega)]
      exact h1
end Go.Proofs.Ytpnocepepihflaa
namespace Go.Proofs.Ytpnocepepihflaa
open Go.RowKit

/-- What is known of a slot: its value, or a property that later worlds keep. -/
inductive Sv where
  | is (v : Value)
  | such (p : World → Value → Prop) (m : ∀ w w' x, Keep No w w' → p w x → p w' x)
def Sv.ok : Sv → World → Value → Prop
  | .is v, _, x => x = v
  | .such p _, w, x => p w x
theorem Sv.ok_keep {s : Sv} {w w' : World} {x : Value} (h : s.ok w x) (k : Keep No w w') : s.ok w' x := by
  cases s with
  | is v => exact h
  | such p m => exact m w w' x k h

/-- What an operation comes to. -/
def OutOK (P : Program) (s : Sv) (w : World) : Result Next → Prop
  | .ok (.value v) w' => Keep No w w' ∧ s.ok w' v
  | .ok .skip w' => Keep No w w' ∧ s.ok w' undef
  | .ok (.enter f args) w' => Keep No w w' ∧ Calls P f args w' (fun e w'' => ∃ v, e = .returned v ∧ Keep No w' w'' ∧ s.ok w'' v)
  | _ => False

section
variable {P : Program}
theorem wp_of_out {o : Oper} {a : Act} {w : World} {K : Act → World → Prop} {Q : Exit → Act → World → Prop} {s : Sv} (h : OutOK P s w ((execOp a.eval o).run P w))
    (hk : ∀ v w', Keep No w w' → s.ok w' v → K (a.put o.dst v) w') : o.wp P a w K Q := by
  unfold Oper.wp
  generalize (execOp a.eval o).run P w = r at *
  cases r with
  | ok n w' =>
    cases n <;> simp only [OutOK] at h <;> simp only [Oper.upon]
    case value v => exact hk _ _ h.1 h.2
    case skip => exact hk _ _ h.1 h.2
    case enter f args =>
      refine h.2.mono ?_
      rintro e w'' ⟨v, rfl, h2, h3⟩
      exact hk _ _ (h.1.trans h2) h3
  | halt x w' => simp only [OutOK] at h

/-! ### which operation waits for which -/
def direct (ops : Array Oper) (i j : Nat) : Bool := match ops[i]? with | some o => o.after.any (fun e => Region.binds .any e && e.on == j) | none => false
def tmpsOf (o : Oper) : List Tmp := o.op.operands.toList.filterMap fun | .tmp t => some t | _ => none
def guardTmp (ops : Array Oper) (o : Oper) : List Tmp := match o.guard with | some (j, _) => ((ops[j]?).bind (·.dst)).toList | none => []
def selectFree (o : Oper) : Bool := match o.op with | .select _ _ => false | _ => true
def chkPair (ops : Array Oper) (o : Oper) (i : Nat) (o' : Oper) (j : Nat) : Bool :=
  match o'.dst with
  | none => true
  | some d => i == j || (o.dst != some d && (!(tmpsOf o ++ guardTmp ops o).contains d || (if j < i then direct ops i j else direct ops j i)))
def chk (ops : Array Oper) (n : Nat) : Bool :=
  ops.toList.zipIdx.all fun (o, i) =>
    (o.after.all fun e => !Region.binds .any e || decide (e.on < i)) && (match o.dst with | some d => decide (d < n) | none => true) &&
    (match o.guard with | none => true | some (j, _) => direct ops i j) && selectFree o && ops.toList.zipIdx.all fun (o', j) => chkPair ops o i o' j

structure Chk (ops : Array Oper) (n : Nat) : Prop where
  back : ∀ (i : Nat) o, ops[i]? = some o → ∀ e ∈ o.after, Region.binds .any e = true → e.on < i
  inb : ∀ (i : Nat) (o : Oper) d, ops[i]? = some o → o.dst = some d → d < n
  gd : ∀ (i : Nat) (o : Oper) j b, ops[i]? = some o → o.guard = some (j, b) → direct ops i j = true
  sel : ∀ (i : Nat) (o : Oper), ops[i]? = some o → ∀ cs b, o.op ≠ .select cs b
  one : ∀ (i j : Nat) (o o' : Oper) d, ops[i]? = some o → ops[j]? = some o' → o'.dst = some d → o.dst = some d → i = j
  read : ∀ (i j : Nat) (o o' : Oper) d, ops[i]? = some o → ops[j]? = some o' → o'.dst = some d → d ∈ tmpsOf o ++ guardTmp ops o → i ≠ j → (j < i ∧ direct ops i j = true) ∨ (i < j ∧ direct ops j i = true)

theorem mem_zipIdx_of {l : List Oper} {i : Nat} {o : Oper} (h : l[i]? = some o) : (o, i) ∈ l.zipIdx := by
  rw [List.mem_iff_getElem?]
  exact ⟨i, by simp [List.getElem?_zipIdx, h]⟩

theorem chk_spec {ops : Array Oper} {n : Nat} (h : chk ops n = true) : Chk ops n := by
  unfold chk at h
  rw [List.all_eq_true] at h
  have key : ∀ (i : Nat) o, ops[i]? = some o → _ := fun i o hi => h (o, i) (mem_zipIdx_of (by simpa using hi))
  simp only [Bool.and_eq_true] at key
  have pair : ∀ (i j : Nat) (o o' : Oper), ops[i]? = some o → ops[j]? = some o' → chkPair ops o i o' j = true := fun i j o o' hi hj => by
    have := (key i o hi).2
    rw [List.all_eq_true] at this
    exact this (o', j) (mem_zipIdx_of (by simpa using hj))
  refine ⟨?_, ?_, ?_, ?_, ?_, ?_⟩
  · intro i o hi e he hb
    have := (key i o hi).1.1.1.1
    rw [Array.all_eq_true'] at this
    have := this e he
    simpa [hb] using this
  · intro i o d hi hd
    have := (key i o hi).1.1.1.2
    simpa [hd] using this
  · intro i o j b hi hg
    have := (key i o hi).1.1.2
    simpa [hg] using this
  · intro i o hi cs b hsel
    have := (key i o hi).1.2
    simp [selectFree, hsel] at this
  · intro i j o o' d hi hj hd' hd
    have := pair i j o o' hi hj
    simp [chkPair, hd', hd] at this
    exact this
  · intro i j o o' d hi hj hd' hm hne
    have := pair i j o o' hi hj
    simp only [chkPair, hd', Bool.or_eq_true, Bool.and_eq_true, beq_iff_eq, hne, false_or, Bool.not_eq_true', List.contains_eq_mem, decide_eq_false_iff_not] at this
    rcases this.2 with h1 | h1
    · exact absurd hm h1
    · split at h1
      · exact .inl ⟨by assumption, h1⟩
      · exact .inr ⟨by omega, h1⟩

/-! ### frames -/
def putF (f : Tmp → Sv) (d : Option Tmp) (s : Sv) : Tmp → Sv := match d with | some d => fun t => if Nat.beq t d = true then s else f t | none => f
theorem putF_same (f : Tmp → Sv) (t : Tmp) (s : Sv) : putF f (some t) s t = s := by simp [putF]
theorem putF_other (f : Tmp → Sv) {d : Option Tmp} {t : Tmp} (h : d ≠ some t) (s : Sv) : putF f d s t = f t := by
  cases d with
  | none => rfl
  | some d =>
    have : ¬ t = d := fun e => h (by rw [e])
    simp [putF, Nat.beq_eq, this]
def frAt (ops : Array Oper) (sp : Nat → Sv) (f0 : Tmp → Sv) : Nat → Tmp → Sv
  | 0 => f0
  | i + 1 => putF (frAt ops sp f0 i) ((ops[i]?).bind (·.dst)) (sp i)
theorem frAt_old {ops : Array Oper} {sp : Nat → Sv} {f0 : Tmp → Sv} {t : Tmp} : ∀ (i : Nat), (∀ (j : Nat) (o : Oper), j < i → ops[j]? = some o → o.dst ≠ some t) → frAt ops sp f0 i t = f0 t
  | 0, _ => rfl
  | i + 1, h => by
    have ih := frAt_old (sp := sp) (f0 := f0) i (fun j o hj => h j o (by omega))
    rw [← ih]
    simp only [frAt]
    cases ho : ops[i]? with
    | none => rfl
    | some o => exact putF_other _ (h i o (by omega) ho) _
theorem frAt_new {ops : Array Oper} {sp : Nat → Sv} {f0 : Tmp → Sv} {t : Tmp} {j : Nat} {o : Oper} (hj : ops[j]? = some o) (hd : o.dst = some t) :
    ∀ (i : Nat), j < i → (∀ (k : Nat) (o' : Oper), k ≠ j → ops[k]? = some o' → o'.dst ≠ some t) → frAt ops sp f0 i t = sp j
  | 0, h, _ => by omega
  | i + 1, h, hk => by
    by_cases hji : j = i
    · subst hji
      simp only [frAt, hj, Option.bind_some, hd]
      exact putF_same _ _ _
    · have ih := frAt_new (sp := sp) (f0 := f0) hj hd i (by omega) hk
      rw [← ih]
      simp only [frAt]
      cases ho : ops[i]? with
      | none => rfl
      | some o' => exact putF_other _ (hk i o' (fun e => hji e.symm) ho) _

/-- Is operation o carried out? -/
def want (ops : Array Oper) (fr : Tmp → Sv) (o : Oper) : Option Bool :=
  match o.guard with
  | none => some true
  | some (j, b) => match (ops[j]?).bind (·.dst) with
    | some d => match fr d with
      | .is (.bool g) => some (g == b)
      | .is _ => some false
      | _ => none
    | none => none

/-- What is asked of operation i. -/
def Ob (P : Program) (w0 : World) (ops : Array Oper) (fr : Tmp → Sv) (s : Sv) (o : Oper) : Prop :=
  match want ops fr o with
  | some true => ∀ (a : Act) (w : World), Keep No w0 w → (∀ t ∈ tmpsOf o, (fr t).ok w (a.tmps.getD t undef)) → OutOK P s w ((execOp a.eval o).run P w)
  | some false => s = .is undef
  | none => False

def frameOf (a : Act) : Tmp → Sv := fun t => .is (a.tmps.getD t undef)

structure Inv (w0 : World) (ops : Array Oper) (sp : Nat → Sv) (a0 : Act) (listed : Array Bool) (a : Act) (w : World) : Prop where
  keep : Keep No w0 w
  defers : a.defers = a0.defers
  size : a.tmps.size = a0.tmps.size
  ls : listed.size = ops.size
  down : ∀ (i : Nat) o, ops[i]? = some o → listed.getD i false = true → ∀ e ∈ o.after, Region.binds .any e = true → listed.getD e.on false = true
  done : ∀ (i : Nat) (o : Oper) d, ops[i]? = some o → o.dst = some d → listed.getD i false = true → (sp i).ok w (a.tmps.getD d undef)
  old : ∀ t, (∀ (i : Nat) (o : Oper), ops[i]? = some o → o.dst = some t → listed.getD i false = false) → a.tmps.getD t undef = a0.tmps.getD t undef

theorem direct_listed {ops : Array Oper} {listed : Array Bool} {i j : Nat} {o : Oper} (hi : ops[i]? = some o) (h : direct ops i j = true) (hd : ∀ e ∈ o.after, Region.binds .any e = true → listed.getD e.on false = true) : listed.getD j false = true := by
  simp only [direct, hi, Array.any_eq_true'] at h
  obtain ⟨e, he, h2⟩ := h
  simp only [Bool.and_eq_true, beq_iff_eq] at h2
  rw [← h2.2]
  exact hd e he h2.1

/-- What op i reads, when it may come up. -/
theorem Inv.reads {f0 : Tmp → Sv} {w0 : World} {ops : Array Oper} {sp : Nat → Sv} {a0 a : Act} {listed : Array Bool} {w : World} (I : Inv w0 ops sp a0 listed a w) (C : Chk ops a0.tmps.size) (hf : ∀ t w, (f0 t).ok w (a0.tmps.getD t undef)) {i : Nat} {o : Oper} (hi : ops[i]? = some o)
    (hun : listed.getD i false = false) (hall : ∀ e ∈ o.after, Region.binds .any e = true → listed.getD e.on false = true) {t : Tmp} (ht : t ∈ tmpsOf o ++ guardTmp ops o) :
    ((frAt ops sp f0 i) t).ok w (a.tmps.getD t undef) := by
  by_cases hw : ∃ (j : Nat) (o' : Oper), ops[j]? = some o' ∧ o'.dst = some t ∧ j < i
  · obtain ⟨j, o', hj, hd, hlt⟩ := hw
    rw [frAt_new hj hd i hlt (fun k o'' hk ho'' hd'' => hk (C.one k j o'' o' t ho'' hj hd hd''))]
    refine I.done j o' t hj hd ?_
    rcases C.read i j o o' t hi hj hd ht (by omega) with h1 | h1
    · exact direct_listed hi h1.2 hall
    · omega
  · rw [frAt_old i (fun j o' hlt hj hd => hw ⟨j, o', hj, hd, hlt⟩)]
    rw [show a.tmps.getD t undef = a0.tmps.getD t undef from ?_]
    · exact hf t w
    refine I.old t fun j o' hj hd => ?_
    by_cases hji : j = i
    · rw [hji]; exact hun
    · rcases C.read i j o o' t hi hj hd ht (fun e => hji e.symm) with h1 | h1
      · exact absurd ⟨j, o', hj, hd, h1.1⟩ hw
      · cases hl : listed.getD j false with
        | false => rfl
        | true =>
          have := direct_listed hj h1.2 (I.down j o' hj hl)
          rw [hun] at this; cases this

theorem getD_set_self {l : Array Bool} {i : Nat} (h : i < l.size) (b : Bool) : (l.setIfInBounds i true).getD i b = true := by simp [h]
theorem getD_set_of {l : Array Bool} {i j : Nat} {b : Bool} (h : l.getD j b = true) : (l.setIfInBounds i true).getD j b = true := by
  by_cases hij : i = j
  · subst hij
    by_cases hs : i < l.size
    · exact getD_set_self hs b
    · simpa [Array.setIfInBounds, hs] using h
  · simpa [Array.getElem?_setIfInBounds_ne hij] using h

/-- Behind op i. -/
theorem Inv.step {w0 : World} {ops : Array Oper} {sp : Nat → Sv} {a0 a : Act} {listed : Array Bool} {w w' : World} (I : Inv w0 ops sp a0 listed a w) (C : Chk ops a0.tmps.size) {i : Nat} {o : Oper} (hi : ops[i]? = some o)
    (hall : ∀ e ∈ o.after, Region.binds .any e = true → listed.getD e.on false = true) (k : Keep No w w') {v : Value} (hv : (sp i).ok w' v) :
    Inv w0 ops sp a0 (listed.setIfInBounds i true) (a.put o.dst v) w' := by
  have hil : i < listed.size := by
    rw [I.ls]
    rcases Nat.lt_or_ge i ops.size with h | h
    · exact h
    · rw [Array.getElem?_eq_none h] at hi; cases hi
  have hput : ∀ t, o.dst ≠ some t → (a.put o.dst v).tmps.getD t undef = a.tmps.getD t undef := fun t ht => by
    unfold Act.put
    split
    · rename_i d hd
      have : d ≠ t := fun e => ht (by rw [hd, e])
      simp [Array.getElem?_setIfInBounds_ne this]
    · rfl
  refine ⟨I.keep.trans k, ?_, ?_, by simp [I.ls], ?_, ?_, ?_⟩
  · unfold Act.put; split <;> exact I.defers
  · unfold Act.put; split <;> simp [I.size]
  · intro j oj hj hl e he hb
    by_cases hji : j = i
    · subst hji
      rw [hi] at hj; cases hj
      exact getD_set_of (hall e he hb)
    · refine getD_set_of (I.down j oj hj ?_ e he hb)
      have hij : ¬ i = j := fun e => hji e.symm
      simpa [Array.getElem?_setIfInBounds_ne hij] using hl
  · intro j oj d hj hd hl
    by_cases hji : j = i
    · subst hji
      rw [hi] at hj; cases hj
      have hdl : d < a.tmps.size := by rw [I.size]; exact C.inb j o d hi hd
      have : (a.put o.dst v).tmps.getD d undef = v := by simp [Act.put, hd, hdl]
      rw [this]; exact hv
    · have hne : o.dst ≠ some d := fun e => hji (C.one j i oj o d hj hi e hd)
      rw [hput d hne]
      have hij : ¬ i = j := fun e => hji e.symm
      exact Sv.ok_keep (I.done j oj d hj hd (by simpa [Array.getElem?_setIfInBounds_ne hij] using hl)) k
  · intro t ht
    have hne : o.dst ≠ some t := fun e => by
      have := ht i o hi e
      rw [getD_set_self hil] at this; cases this
    rw [hput t hne]
    refine I.old t fun j oj hj hd => ?_
    cases hl : listed.getD j false with
    | false => rfl
    | true =>
      have := ht j oj hj hd
      rw [getD_set_of hl] at this; cases this

theorem wanted_of {ops : Array Oper} {fr : Tmp → Sv} {a : Act} {w : World} {o : Oper} {n : Nat} {b : Bool} (hw : want ops fr o = some b) (hn : a.tmps.size = n) (hin : ∀ (i : Nat) (o : Oper) d, ops[i]? = some o → o.dst = some d → d < n)
    (hr : ∀ t ∈ guardTmp ops o, (fr t).ok w (a.tmps.getD t undef)) : Region.wanted o (yielded ops a.tmps) = b := by
  unfold want at hw
  unfold Region.wanted
  split at hw
  · rename_i hg
    simp only [hg]
    exact Option.some.inj hw
  · rename_i j g hg
    simp only [hg]
    split at hw
    · rename_i d hd
      have hmem : d ∈ guardTmp ops o := by simp [guardTmp, hg, hd]
      have hok := hr d hmem
      rw [Option.bind_eq_some_iff] at hd
      obtain ⟨oj, hoj, hdj⟩ := hd
      have hdl : d < a.tmps.size := by rw [hn]; exact hin j oj d hoj hdj
      have hget : a.tmps[d]? = some (a.tmps.getD d undef) := by simp [hdl]
      have hy : yielded ops a.tmps j = match a.tmps.getD d undef with | .bool b => some b | _ => none := by
        unfold yielded
        simp only [hoj, Option.bind_some, hdj, hget]
        cases a.tmps.getD d undef <;> rfl
      rw [hy]
      split at hw
      · rename_i x hx
        rw [hx] at hok
        simp only [Sv.ok] at hok
        rw [hok]
        have := Option.some.inj hw
        subst this
        cases x <;> cases g <;> rfl
      · rename_i v hx hnb
        rw [hnb] at hok
        simp only [Sv.ok] at hok
        rw [hok]
        have := Option.some.inj hw
        subst this
        cases v <;> first | rfl | (rename_i bb; exact absurd rfl (hx bb))
      · cases hw
    · cases hw

def openOf (n : Nat) (listed : Array Bool) : List Nat := (List.range n).filter fun i => !listed.getD i true

theorem openOf_set {n i : Nat} {listed : Array Bool} (hs : listed.size = n) (hi : i < n) (hu : listed.getD i true = false) : (openOf n (listed.setIfInBounds i true)).length < (openOf n listed).length := by
  unfold openOf
  have hsub : ∀ l : List Nat, l.Nodup → i ∈ l → (l.filter fun j => !(listed.setIfInBounds i true).getD j true).length < (l.filter fun j => !listed.getD j true).length := by
    intro l
    induction l with
    | nil => intro _ h; cases h
    | cons x l ih =>
      intro hnd hmem
      have hle : ∀ l : List Nat, (l.filter fun j => !(listed.setIfInBounds i true).getD j true).length ≤ (l.filter fun j => !listed.getD j true).length := by
        intro l
        induction l with
        | nil => exact Nat.le_refl _
        | cons y l ih2 =>
          rw [List.filter_cons, List.filter_cons]
          cases hl : listed.getD y true with
          | true => rw [getD_set_of hl]; exact ih2
          | false =>
            rw [if_pos (show (!false) = true from rfl), List.length_cons]
            split
            · rw [List.length_cons]; omega
            · omega
      rw [List.nodup_cons] at hnd
      rw [List.filter_cons, List.filter_cons]
      rcases List.mem_cons.1 hmem with rfl | hm
      · rw [getD_set_self (by omega), hu]
        have := hle l
        rw [if_neg (show ¬ (!true) = true by decide), if_pos (show (!false) = true from rfl), List.length_cons]
        omega
      · have := ih hnd.2 hm
        cases hl : listed.getD x true with
        | true => rw [getD_set_of hl, if_neg (show ¬ (!true) = true by decide), if_neg (show ¬ (!true) = true by decide)]; exact this
        | false =>
          rw [if_pos (show (!false) = true from rfl), List.length_cons]
          split
          · rw [List.length_cons]; omega
          · omega
  exact hsub _ List.nodup_range (by simp [hi])

theorem getD_tf {l : Array Bool} {i : Nat} (h : i < l.size) : l.getD i true = l.getD i false := by simp [h]

/-- One that may come up there is, while one is open. -/
theorem ready_of_open {ops : Array Oper} {listed : Array Bool} {n : Nat} (C : Chk ops n) (hs : listed.size = ops.size) (h : Region.ready .any ops listed = []) : ∀ i, i < ops.size → listed.getD i false = true := by
  intro i
  induction i using Nat.strongRecOn with
  | _ i ih =>
    intro hi
    cases hl : listed.getD i false with
    | true => rfl
    | false =>
      have hoi : ops[i]? = some ops[i] := by simp [hi]
      have : i ∈ Region.ready .any ops listed := by
        rw [mem_ready]
        refine ⟨by rw [getD_tf (by omega)]; exact hl, _, hoi, fun e he hb => ?_⟩
        have := C.back i _ hoi e he hb
        exact ih e.on this (by omega)
      rw [h] at this; cases this

theorem wpAny_rel {f0 : Tmp → Sv} {ops : Array Oper} {Q : Exit → Act → World → Prop} {a0 : Act} {w0 : World} {sp : Nat → Sv} (C : Chk ops a0.tmps.size) (hf0 : ∀ t w, (f0 t).ok w (a0.tmps.getD t undef))
    (hob : ∀ (i : Nat) o, ops[i]? = some o → Ob P w0 ops (frAt ops sp f0 i) (sp i) o)
    (hQ : ∀ a w, Keep No w0 w → a.defers = a0.defers → a.tmps.size = a0.tmps.size → (∀ t, ((frAt ops sp f0 ops.size) t).ok w (a.tmps.getD t undef)) → Q .normal a w) :
    ∀ (fuel : Nat) (listed : Array Bool) (a : Act) (w : World), Inv w0 ops sp a0 listed a w → (openOf ops.size listed).length ≤ fuel → wpAny P .any ops Q fuel listed a w := by
  have fin : ∀ (listed : Array Bool) (a : Act) (w : World), Inv w0 ops sp a0 listed a w → Region.ready .any ops listed = [] → Q .normal a w := by
    intro listed a w I hr
    have hall := ready_of_open C I.ls hr
    refine hQ a w I.keep I.defers I.size fun t => ?_
    by_cases hw : ∃ (j : Nat) (o' : Oper), ops[j]? = some o' ∧ o'.dst = some t
    · obtain ⟨j, o', hj, hd⟩ := hw
      have hjl : j < ops.size := by
        rcases Nat.lt_or_ge j ops.size with h | h
        · exact h
        · rw [Array.getElem?_eq_none h] at hj; cases hj
      rw [frAt_new hj hd ops.size hjl (fun k o'' hk ho'' hd'' => hk (C.one k j o'' o' t ho'' hj hd hd''))]
      exact I.done j o' t hj hd (hall j hjl)
    · rw [frAt_old ops.size (fun j o' _ hj hd => hw ⟨j, o', hj, hd⟩)]
      rw [I.old t fun j o' hj hd => absurd ⟨j, o', hj, hd⟩ hw]
      exact hf0 t w
  intro fuel
  induction fuel with
  | zero =>
    intro listed a w I hf
    have hnil : openOf ops.size listed = [] := List.length_eq_zero_iff.1 (by omega)
    have hr : Region.ready .any ops listed = [] := by
      apply List.eq_nil_iff_forall_not_mem.2
      intro i hi
      have h1 := (mem_ready.1 hi).1
      obtain ⟨_, o, ho, _⟩ := mem_ready.1 hi
      have : i ∈ openOf ops.size listed := by
        have : i < ops.size := by
          rcases Nat.lt_or_ge i ops.size with h | h
          · exact h
          · rw [Array.getElem?_eq_none h] at ho; cases ho
        simp only [openOf, List.mem_filter, List.mem_range, Bool.not_eq_true']
        exact ⟨this, h1⟩
      rw [hnil] at this; cases this
    exact ⟨hr, fin listed a w I hr⟩
  | succ fuel ih =>
    intro listed a w I hf
    refine ⟨fin listed a w I, fun i hi => ?_⟩
    obtain ⟨hun, o, ho, hall⟩ := mem_ready.1 hi
    have hil : i < ops.size := by
      rcases Nat.lt_or_ge i ops.size with h | h
      · exact h
      · rw [Array.getElem?_eq_none h] at ho; cases ho
    have hun' : listed.getD i false = false := by rw [← getD_tf (by rw [I.ls]; exact hil)]; exact hun
    have hmore := openOf_set I.ls hil hun
    have hreads := fun t ht => I.reads C hf0 ho hun' hall (t := t) ht
    have hO := hob i o ho
    unfold Ob at hO
    unfold wpOp
    simp only [ho]
    cases hw : want ops (frAt ops sp f0 i) o with
    | none => rw [hw] at hO; exact hO.elim
    | some b =>
      have hwant := wanted_of (w := w) hw I.size C.inb (fun t ht => hreads t (List.mem_append.2 (.inr ht)))
      rw [hwant]
      cases b with
      | true =>
        rw [hw] at hO
        simp only [if_true]
        refine .inl (wp_of_out (hO a w I.keep (fun t ht => hreads t (List.mem_append.2 (.inl ht)))) fun v w' k hv => ?_)
        exact ih _ _ _ (I.step C ho hall k hv) (by omega)
      | false =>
        rw [hw] at hO
        simp only [Bool.false_eq_true, if_false]
        exact ih _ _ _ (I.step C ho hall (Keep.refl _ _) (v := undef) (by rw [hO]; rfl)) (by omega)

/-- A region that draws its order, or does not. -/
theorem region_rel {f0 : Tmp → Sv} {id : Nat} {ops : Array Oper} {Q : Exit → Act → World → Prop} {a0 : Act} {w0 : World} {sp : Nat → Sv} (hm : P.follows .mixedOrders = true) (hc : chk ops a0.tmps.size = true) (hf0 : ∀ t w, (f0 t).ok w (a0.tmps.getD t undef))
    (hob : ∀ (i : Nat) o, ops[i]? = some o → Ob P w0 ops (frAt ops sp f0 i) (sp i) o)
    (hQ : ∀ a w, Keep No w0 w → a.defers = a0.defers → a.tmps.size = a0.tmps.size → (∀ t, ((frAt ops sp f0 ops.size) t).ok w (a.tmps.getD t undef)) → Q .normal a w) :
    (Code.region id ops true).wp P Q a0 w0 := by
  refine wp_region_any hm (wpAny_rel (chk_spec hc) hf0 hob hQ _ _ _ _ ?_ ?_)
  · refine ⟨(Keep.refl _ _).drew, rfl, rfl, by simp, ?_, ?_, fun _ _ => rfl⟩
    · intro i o _ h
      simp [Array.getElem?_replicate] at h
      split at h <;> simp at h
    · intro i o d _ _ h
      simp [Array.getElem?_replicate] at h
      split at h <;> simp at h
  · unfold openOf
    exact Nat.le_trans (List.length_filter_le _ _) (by simp)
end
end Go.Proofs.Ytpnocepepihflaa
namespace Go.Proofs.Ytpnocepepihflaa
open Go.RowKit

section
variable {P : Program}
/-- A run that reads one known row at most: the value, and the blocks it read. -/
def aRun {α : Type} (P : Program) (r : Option (List Value)) : Sem α → Option (α × List Nat)
  | .pure a => some (a, [])
  | .load _ a k => match r with
    | none => none
    | some cs => match a.spot with
      | some _ => none
      | none => match cs[a.off]? with
        | none => none
        | some v => match aRun P r (k v) with
          | some (x, l) => some (x, a.block :: l)
          | none => none
  | .program k => aRun P r (k P)
  | .mark _ k => aRun P r k
  | _ => none

theorem aRun_none {α : Type} {w : World} : ∀ {s : Sem α} {x : α} {l : List Nat}, aRun P none s = some (x, l) → s.run P w = .ok x w := by
  intro s
  induction s <;> intro x l h <;> simp only [aRun] at h <;> first | (cases h; rfl) | (cases h; done) | skip
  case program k ih => simp only [Sem.run]; exact ih _ h
  case mark m k ih => simp only [Sem.run]; exact ih h

theorem aRun_some {α : Type} {w : World} {b : Nat} {cs : List Value} {t : TypeId} (hg : w.heap[b]? = some (.cells cs.toArray t (0, 0))) :
    ∀ {s : Sem α} {x : α} {l : List Nat}, aRun P (some cs) s = some (x, l) → (∀ c ∈ l, c = b) → s.run P w = .ok x w := by
  intro s
  induction s <;> intro x l h hl <;> simp only [aRun] at h <;> first | (cases h; rfl) | (cases h; done) | skip
  case load m a k ih =>
    split at h
    · cases h
    · rename_i hsp
      split at h
      · cases h
      · rename_i v hv
        split at h
        · rename_i y l' he
          cases h
          have hab : a.block = b := hl _ (by simp)
          have hc : w.cell? a = some v := by
            simp only [World.cell?, hab, hg, hsp]
            simpa using hv
          simp only [Sem.run, hc]
          exact ih v he (fun c hc => hl c (by simp [hc]))
        · cases h
  case program k ih => simp only [Sem.run]; exact ih _ h hl
  case mark m k ih => simp only [Sem.run]; exact ih h hl

def opSv (fr : Tmp → Sv) : Operand → Sv
  | .tmp t => fr t
  | .const v => .is v
  | .global g => .is (.pointer (some ⟨g, 0, none⟩))
  | .func f => .is (.func (.func f) #[] #[])
def toV : Sv → Value | .is v => v | .such _ _ => undef
def isIs : Sv → Bool | .is _ => true | .such _ _ => false

theorem opSv_eval {fr : Tmp → Sv} {a : Act} {w : World} {o : Oper} (h : ∀ t ∈ tmpsOf o, (fr t).ok w (a.tmps.getD t undef)) {x : Operand} (hx : x ∈ o.op.operands) : (opSv fr x).ok w (a.eval x) := by
  cases x with
  | tmp t => exact h t (List.mem_filterMap.2 ⟨.tmp t, by simpa using hx, rfl⟩)
  | const v => rfl
  | global g => rfl
  | func f => rfl
theorem toV_eval {fr : Tmp → Sv} {a : Act} {w : World} {o : Oper} (h : ∀ t ∈ tmpsOf o, (fr t).ok w (a.tmps.getD t undef)) (he : (tmpsOf o).all (fun t => isIs (fr t)) = true) {x : Operand} (hx : x ∈ o.op.operands) : a.eval x = toV (opSv fr x) := by
  have hok := opSv_eval h hx
  cases x with
  | tmp t =>
    have hm : t ∈ tmpsOf o := List.mem_filterMap.2 ⟨.tmp t, by simpa using hx, rfl⟩
    have := List.all_eq_true.1 he t hm
    simp only [opSv] at hok ⊢
    cases hs : fr t with
    | is v => rw [hs] at hok; exact hok
    | such p m => rw [hs] at this; cases this
  | const v => rfl
  | global g => rfl
  | func f => rfl

/-! ### calls -/
def callOk (P : Program) (f : FuncId) : Bool := match P.funcs[f]? with | some fn => !(fn.name == "runtime.NumGoroutine") && fn.body.isSome | none => false
theorem run_call {ρ : Operand → Value} {o : Oper} {f : FuncId} {args : Array Operand} {ts : Array TypeId} (ho : o.op = .call { callee := .value (.func f), args := args, argTypes := ts }) (hρ : ρ (.func f) = .func (.func f) #[] #[]) (hk : callOk P f = true) (w : World) :
    (execOp ρ o).run P w = .ok (.enter f (args.map ρ)) w := by
  unfold callOk at hk
  cases hf : P.funcs[f]? with
  | none => rw [hf] at hk; cases hk
  | some fn =>
    rw [hf] at hk
    simp only [Bool.and_eq_true, Bool.not_eq_true'] at hk
    obtain ⟨h1, h2⟩ := hk
    have h1' : ¬ fn.name = "runtime.NumGoroutine" := by simpa using h1
    have h3 : ¬ fn.body = none := by cases hb : fn.body <;> simp_all
    have hprog : ∀ w', Sem.run P program w' = .ok P w' := fun _ => rfl
    unfold execOp
    simp [ho, resolve, hρ, Deferred.ofValue, invoke, callFunc, hprog, hf, h1', h3]

def allOk : List Sv → World → List Value → Prop
  | [], _, [] => True
  | s :: l, w, v :: vs => s.ok w v ∧ allOk l w vs
  | _, _, _ => False
theorem allOk_map {fr : Tmp → Sv} {a : Act} {w : World} : ∀ (l : List Operand), (∀ x ∈ l, (opSv fr x).ok w (a.eval x)) → allOk (l.map (opSv fr)) w (l.map a.eval)
  | [], _ => trivial
  | x :: l, h => ⟨h x (by simp), allOk_map l fun y hy => h y (by simp [hy])⟩

/-- The inner run of an operation that a hint answers. -/
def semOf (ρ : Operand → Value) (o : Oper) : Option (Sem Value) :=
  match o.op with
  | .slice t x lo hi mx => some (Instr.sliceAt t (ρ x) (lo.map ρ) (hi.map ρ) (mx.map ρ))
  | .indexAddr t x ix => some (Instr.indexAt t (ρ x) (ρ ix))
  | .index t x ix => some (Instr.index t (ρ x) (ρ ix))
  | .convert s d x => some (convert s d (ρ x))
  | .sliceToArrayPointer arr x => some (Instr.arrayAt arr (ρ x))
  | .load t a => some (Instr.loadAt t (ρ a))
  | .binOp op t x y _ => some (do eqGuard op t x y (ρ x) (ρ y); binOp op t (ρ x) (ρ y))
  | .call { callee := .builtin .len, args := args, argTypes := ts } => some (Builtin.len_ ts o.type (args.map ρ))
  | .call { callee := .builtin .min, args := args, argTypes := ts } => some (Builtin.min_ ts o.type (args.map ρ))
  | .call { callee := .builtin .max, args := args, argTypes := ts } => some (Builtin.max_ ts o.type (args.map ρ))
  | _ => none
theorem semOf_run {ρ : Operand → Value} {o : Oper} {s : Sem Value} {v : Value} {w : World} (h : semOf ρ o = some s) (hr : s.run P w = .ok v w) : (execOp ρ o).run P w = .ok (.value v) w := by
  unfold semOf at h
  unfold execOp
  split at h <;> first | (cases h; done) | skip
  all_goals
    rename_i hop
    cases h
    simp only [hop, resolve, invoke, builtin, Sem.run_bind, Sem.run_pure, Result.andThen_ok] at hr ⊢
    rw [hr]
    rfl

/-! ### hints, and what is owed -/
inductive Hint where
  | is (v : Value)
  | call (s : Sv)
  | bin (v : Value)
  | by (s : Sv)
  | sem (v : Value)
structure Owed where
  eqs : List (Value × Value) := []
  blks : List (Nat × Nat) := []
  calls : List (FuncId × List Sv × Sv) := []
  bins : List (BinOp × TypeId × Value × Value × Value) := []
  bys : List (Op × TypeId × List (Tmp × Sv) × Sv) := []
  sems : List (Sem Value × Value) := []
def Owed.add (a b : Owed) : Owed := ⟨a.eqs ++ b.eqs, a.blks ++ b.blks, a.calls ++ b.calls, a.bins ++ b.bins, a.bys ++ b.bys, a.sems ++ b.sems⟩
def CallOb (P : Program) (w0 : World) (f : FuncId) (args : List Sv) (s : Sv) : Prop :=
  ∀ w vals, Keep No w0 w → allOk args w vals → Calls P f vals.toArray w (fun e w' => ∃ v, e = .returned v ∧ Keep No w w' ∧ s.ok w' v)
structure Paid (P : Program) (w0 : World) (o : Owed) : Prop where
  eqs : ∀ p ∈ o.eqs, p.1 = p.2
  blks : ∀ p ∈ o.blks, p.1 = p.2
  calls : ∀ p ∈ o.calls, CallOb P w0 p.1 p.2.1 p.2.2
  bins : ∀ p ∈ o.bins, ∀ w, Keep No w0 w → (binOp p.1 p.2.1 p.2.2.1 p.2.2.2.1).run P w = .ok p.2.2.2.2 w
  bys : ∀ p ∈ o.bys, ∀ (a : Act) (o : Oper) w, o.op = p.1 → o.type = p.2.1 → Keep No w0 w → (∀ q ∈ p.2.2.1, q.2.ok w (a.tmps.getD q.1 undef)) → OutOK P p.2.2.2 w ((execOp a.eval o).run P w)
  sems : ∀ p ∈ o.sems, ∀ w, Keep No w0 w → p.1.run P w = .ok p.2 w
theorem Paid.left {w0 : World} {a b : Owed} (h : Paid P w0 (a.add b)) : Paid P w0 a :=
  ⟨fun p hp => h.eqs p (List.mem_append.2 (.inl hp)), fun p hp => h.blks p (List.mem_append.2 (.inl hp)), fun p hp => h.calls p (List.mem_append.2 (.inl hp)), fun p hp => h.bins p (List.mem_append.2 (.inl hp)), fun p hp => h.bys p (List.mem_append.2 (.inl hp)), fun p hp => h.sems p (List.mem_append.2 (.inl hp))⟩
theorem Paid.right {w0 : World} {a b : Owed} (h : Paid P w0 (a.add b)) : Paid P w0 b :=
  ⟨fun p hp => h.eqs p (List.mem_append.2 (.inr hp)), fun p hp => h.blks p (List.mem_append.2 (.inr hp)), fun p hp => h.calls p (List.mem_append.2 (.inr hp)), fun p hp => h.bins p (List.mem_append.2 (.inr hp)), fun p hp => h.bys p (List.mem_append.2 (.inr hp)), fun p hp => h.sems p (List.mem_append.2 (.inr hp))⟩

/-- A known row: its block, its cells. -/
abbrev Row := Nat × List Value
def rowOf (rows : List Row) (tags : Tmp → Option Nat) (gt : Nat → Option Nat) : Op → Option Row
  | .load _ (.tmp t) => (tags t).bind fun k => rows[k]?
  | .load _ (.global g) => (gt g).bind fun k => rows[k]?
  | _ => none
def tagOf (tags : Tmp → Option Nat) (gt : Nat → Option Nat) : Op → Option Nat
  | .move (.tmp t) | .assign (.tmp t) | .nilCheck (.tmp t) | .fieldAddr _ (.tmp t) _ | .indexAddr _ (.tmp t) _ => tags t
  | .fieldAddr _ (.global g) _ | .indexAddr _ (.global g) _ => gt g
  | _ => none
def plain (P : Program) (rows : List Row) (tags : Tmp → Option Nat) (gt : Nat → Option Nat) (fr : Tmp → Sv) (o : Oper) : Option (Value × Owed) :=
  if (tmpsOf o).all (fun t => isIs (fr t)) then
    match rowOf rows tags gt o.op with
    | none => match aRun P none (execOp (fun x => toV (opSv fr x)) o) with
      | some (.value v, _) => some (v, {})
      | _ => none
    | some (b, cs) => match aRun P (some cs) (execOp (fun x => toV (opSv fr x)) o) with
      | some (.value v, l) => some (v, { blks := l.map fun c => (c, b) })
      | _ => none
  else none

def ev1 (P : Program) (ops : Array Oper) (rows : List Row) (gt : Nat → Option Nat) (fr : Tmp → Sv) (tags : Tmp → Option Nat) (h : Option Hint) (o : Oper) : Option (Sv × Owed) :=
  match want ops fr o with
  | none => none
  | some false => some (.is undef, {})
  | some true => match h with
    | none => match plain P rows tags gt fr o with
      | some (v, d) => some (.is v, d)
      | none => none
    | some (.is v') => match plain P rows tags gt fr o with
      | some (v, d) => some (.is v', d.add { eqs := [(v, v')] })
      | none => none
    | some (.call s) => match o.op with
      | .call { callee := .value (.func f), args := args, argTypes := _ } => if callOk P f then some (s, { calls := [(f, args.toList.map (opSv fr), s)] }) else none
      | _ => none
    | some (.bin v') => match o.op with
      | .binOp op t x y _ => if (tmpsOf o).all (fun t => isIs (fr t)) then
          match aRun P none (eqGuard op t x y (toV (opSv fr x)) (toV (opSv fr y))) with
          | some _ => some (.is v', { bins := [(op, t, toV (opSv fr x), toV (opSv fr y), v')] })
          | none => none
        else none
      | _ => none
    | some (.by s) => some (s, { bys := [(o.op, o.type, (tmpsOf o).map (fun t => (t, fr t)), s)] })
    | some (.sem v') => if (tmpsOf o).all (fun t => isIs (fr t)) then match semOf (fun x => toV (opSv fr x)) o with
        | some s => some (.is v', { sems := [(s, v')] })
        | none => none
      else none

/-- What the rows hold in w. -/
def Rows (w : World) (rows : List Row) : Prop := ∀ r ∈ rows, ∃ t, w.heap[r.1]? = some (.cells r.2.toArray t (0, 0))
theorem Rows.keep {w w' : World} {rows : List Row} (h : Rows w rows) (k : Keep No w w') : Rows w' rows := fun r hr => by
  obtain ⟨t, ht⟩ := h r hr
  refine ⟨t, (k.block r.1 ?_ (fun f => f)).trans ht⟩
  rcases Nat.lt_or_ge r.1 w.heap.size with h1 | h1
  · exact h1
  · rw [Array.getElem?_eq_none h1] at ht; cases ht

theorem rowOf_mem {rows : List Row} {tags : Tmp → Option Nat} {gt : Nat → Option Nat} {op : Op} {r : Row} (h : rowOf rows tags gt op = some r) : r ∈ rows := by
  unfold rowOf at h
  split at h
  · rw [Option.bind_eq_some_iff] at h; obtain ⟨k, _, h2⟩ := h; exact List.mem_of_getElem? h2
  · rw [Option.bind_eq_some_iff] at h; obtain ⟨k, _, h2⟩ := h; exact List.mem_of_getElem? h2
  · cases h

theorem plain_run {rows : List Row} {tags : Tmp → Option Nat} {gt : Nat → Option Nat} {fr : Tmp → Sv} {o : Oper} {v : Value} {d : Owed} {w0 w : World} (h : plain P rows tags gt fr o = some (v, d)) (hp : Paid P w0 d) (hr : Rows w rows)
    (hs : ∀ cs b, o.op ≠ .select cs b) {a : Act} (ha : ∀ t ∈ tmpsOf o, (fr t).ok w (a.tmps.getD t undef)) : (execOp a.eval o).run P w = .ok (.value v) w := by
  unfold plain at h
  split at h
  · rename_i he
    rw [execOp_congr o hs (fun x hx => toV_eval ha he hx)]
    split at h
    · split at h
      · rename_i he2
        cases h
        exact aRun_none he2
      · cases h
    · rename_i b cs hrow
      split at h
      · rename_i l he2
        cases h
        obtain ⟨t, ht⟩ := hr _ (rowOf_mem hrow)
        exact aRun_some ht he2 (fun c hc => hp.blks (c, b) (List.mem_map.2 ⟨c, hc, rfl⟩))
      · cases h
  · cases h

theorem ev1_ob {ops : Array Oper} {rows : List Row} {gt : Nat → Option Nat} {fr : Tmp → Sv} {tags : Tmp → Option Nat} {h : Option Hint} {o : Oper} {s : Sv} {d : Owed} {w0 : World} (he : ev1 P ops rows gt fr tags h o = some (s, d)) (hp : Paid P w0 d) (hr : Rows w0 rows)
    (hs : ∀ cs b, o.op ≠ .select cs b) : Ob P w0 ops fr s o := by
  unfold ev1 at he
  unfold Ob
  split at he
  · cases he
  · cases he; rename_i hw; rw [hw]
  · rename_i hw
    rw [hw]
    intro a w k ha
    split at he
    · split at he
      · rename_i v d' hpl
        cases he
        rw [plain_run hpl hp (hr.keep k) hs ha]
        exact ⟨Keep.refl _ _, rfl⟩
      · cases he
    · split at he
      · rename_i v d' hpl
        cases he
        rw [plain_run hpl hp.left (hr.keep k) hs ha]
        exact ⟨Keep.refl _ _, hp.right.eqs (v, _) (List.mem_singleton.2 rfl)⟩
      · cases he
    · split at he
      · rename_i s' f args ts hop
        split at he
        · rename_i hk
          cases he
          rw [run_call hop rfl hk]
          refine ⟨Keep.refl _ _, ?_⟩
          have hc := hp.calls (f, args.toList.map (opSv fr), s) (by simp) w (args.toList.map a.eval) k (allOk_map _ fun x hx => opSv_eval ha (by rw [hop]; simp [Op.operands, Call.operands]; exact .inr (by simpa using hx)))
          have e : (args.toList.map a.eval).toArray = args.map a.eval := by apply Array.ext'; simp
          rw [e] at hc
          exact hc
        · cases he
      · cases he
    · split at he
      · rename_i op t x y yt hop
        split at he
        · rename_i hall
          split at he
          · rename_i g hg
            cases he
            have h1 : a.eval x = toV (opSv fr x) := toV_eval ha hall (by rw [hop]; simp [Op.operands])
            have h2 : a.eval y = toV (opSv fr y) := toV_eval ha hall (by rw [hop]; simp [Op.operands])
            have h3 := hp.bins (op, t, toV (opSv fr x), toV (opSv fr y), _) (List.mem_singleton.2 rfl) w k
            have h4 : (eqGuard op t x y (toV (opSv fr x)) (toV (opSv fr y))).run P w = .ok g.1 w := aRun_none (l := g.2) hg
            unfold execOp
            simp only [hop, h1, h2, Sem.run_bind, h4, Result.andThen_ok, h3, Sem.run_pure]
            exact ⟨Keep.refl _ _, rfl⟩
          · cases he
        · cases he
      · cases he
    · cases he
      exact hp.bys (o.op, o.type, (tmpsOf o).map (fun t => (t, fr t)), s) (by simp) a o w rfl rfl k (fun q hq => by
        obtain ⟨t, ht, rfl⟩ := List.mem_map.1 hq
        exact ha t ht)
    · split at he
      · rename_i hall
        split at he
        · rename_i q hq
          cases he
          rw [execOp_congr o hs (fun x hx => toV_eval ha hall hx), semOf_run hq (hp.sems (q, _) (List.mem_singleton.2 rfl) w k)]
          exact ⟨Keep.refl _ _, rfl⟩
        · cases he
      · cases he

/-! ### a whole region -/
def hintAt (hs : List (Nat × Hint)) (i : Nat) : Option Hint := match hs with | [] => none | (j, h) :: l => if Nat.beq i j then some h else hintAt l i
def putT (f : Tmp → Option Nat) (d : Option Tmp) (s : Option Nat) : Tmp → Option Nat := match d with | some d => fun t => if Nat.beq t d = true then s else f t | none => f
def ev (P : Program) (ops : Array Oper) (rows : List Row) (gt : Nat → Option Nat) (hs : List (Nat × Hint)) : List Oper → Nat → (Tmp → Sv) → (Tmp → Option Nat) → Option ((Tmp → Sv) × Owed)
  | [], _, fr, _ => some (fr, {})
  | o :: l, i, fr, tags => match ev1 P ops rows gt fr tags (hintAt hs i) o with
    | none => none
    | some (s, d) => match ev P ops rows gt hs l (i + 1) (putF fr o.dst s) (putT tags o.dst (tagOf tags gt o.op)) with
      | none => none
      | some (fr', d') => some (fr', d.add d')

theorem ev_obs {ops : Array Oper} {rows : List Row} {gt : Nat → Option Nat} {hs : List (Nat × Hint)} {w0 : World} {f0 : Tmp → Sv} (hr : Rows w0 rows) (hsel : ∀ (i : Nat) (o : Oper), ops[i]? = some o → ∀ cs b, o.op ≠ .select cs b) :
    ∀ (l : List Oper) (i : Nat) (tags : Tmp → Option Nat) (sp : Nat → Sv) (fr' : Tmp → Sv) (d : Owed), (∀ j, l[j]? = ops[i + j]?) → ev P ops rows gt hs l i (frAt ops sp f0 i) tags = some (fr', d) → Paid P w0 d →
      ∃ sp' : Nat → Sv, (∀ j, j < i → sp' j = sp j) ∧ fr' = frAt ops sp' f0 (i + l.length) ∧ ∀ (j : Nat) o, i ≤ j → j < i + l.length → ops[j]? = some o → Ob P w0 ops (frAt ops sp' f0 j) (sp' j) o
  | [], i, tags, sp, fr', d, _, h, _ => by
    simp only [ev] at h
    cases h
    exact ⟨sp, fun _ _ => rfl, rfl, fun j o h1 h2 => by simp at h2; omega⟩
  | o :: l, i, tags, sp, fr', d, hl, h, hp => by
    simp only [ev] at h
    have h0 : ops[i]? = some o := by simpa using (hl 0).symm
    split at h
    · cases h
    · rename_i s d1 he
      split at h
      · cases h
      · rename_i fr2 d2 he2
        cases h
        have hob := ev1_ob he hp.left hr (hsel i o h0)
        have hcong : ∀ (sp2 : Nat → Sv) (k : Nat), (∀ j, j < k → sp2 j = sp j) → frAt ops sp2 f0 k = frAt ops sp f0 k := by
          intro sp2 k
          induction k with
          | zero => intro _; rfl
          | succ k ih => intro hk; simp only [frAt]; rw [ih (fun j hj => hk j (by omega)), hk k (by omega)]
        let sp1 : Nat → Sv := fun j => if j = i then s else sp j
        have hsp1 : ∀ j, j < i → sp1 j = sp j := fun j hj => by simp only [sp1]; rw [if_neg (by omega)]
        have hfr1 : frAt ops sp1 f0 (i + 1) = putF (frAt ops sp f0 i) o.dst s := by
          simp only [frAt, h0, Option.bind_some]
          rw [hcong sp1 i hsp1]
          simp only [sp1, if_true]
        rw [← hfr1] at he2
        obtain ⟨sp', h1, h2, h3⟩ := ev_obs hr hsel l (i + 1) _ sp1 fr' d2 (fun j => by have := hl (j + 1); simpa [Nat.add_assoc, Nat.add_comm 1 j] using this) he2 hp.right
        refine ⟨sp', fun j hj => (h1 j (by omega)).trans (hsp1 j hj), by rw [h2]; congr 1; simp; omega, fun j oj hj1 hj2 hoj => ?_⟩
        by_cases hji : j = i
        · subst hji
          rw [h0] at hoj; cases hoj
          rw [h1 j (by omega)]
          simp only [sp1, if_true]
          rw [show frAt ops sp' f0 j = frAt ops sp f0 j from by
            have : ∀ k, k ≤ j → frAt ops sp' f0 k = frAt ops sp f0 k := by
              intro k
              induction k with
              | zero => intro _; rfl
              | succ k ih => intro hk; simp only [frAt]; rw [ih (by omega), h1 k (by omega), hsp1 k (by omega)]
            exact this j (Nat.le_refl _)]
          exact hob
        · exact h3 j oj (by omega) (by simp at hj2; omega) hoj

/-- What is to be shown for each of the four lists. -/
def Eqs (l : List (Value × Value)) : Prop := match l with | [] => True | p :: l => p.1 = p.2 ∧ Eqs l
def CallObs (P : Program) (w0 : World) (l : List (FuncId × List Sv × Sv)) : Prop := match l with | [] => True | p :: l => CallOb P w0 p.1 p.2.1 p.2.2 ∧ CallObs P w0 l
def BinObs (P : Program) (w0 : World) (l : List (BinOp × TypeId × Value × Value × Value)) : Prop := match l with | [] => True | p :: l => (∀ w, Keep No w0 w → (binOp p.1 p.2.1 p.2.2.1 p.2.2.2.1).run P w = .ok p.2.2.2.2 w) ∧ BinObs P w0 l
def ByObs (P : Program) (w0 : World) (l : List (Op × TypeId × List (Tmp × Sv) × Sv)) : Prop := match l with
  | [] => True
  | p :: l => (∀ (a : Act) (o : Oper) w, o.op = p.1 → o.type = p.2.1 → Keep No w0 w → (∀ q ∈ p.2.2.1, q.2.ok w (a.tmps.getD q.1 undef)) → OutOK P p.2.2.2 w ((execOp a.eval o).run P w)) ∧ ByObs P w0 l
theorem Eqs.mem : ∀ {l : List (Value × Value)}, Eqs l → ∀ p ∈ l, p.1 = p.2
  | [], _, _, h => nomatch h
  | q :: l, h, p, hp => by rcases List.mem_cons.1 hp with rfl | hp; exact h.1; exact Eqs.mem h.2 p hp
theorem CallObs.mem {w0 : World} : ∀ {l : List (FuncId × List Sv × Sv)}, CallObs P w0 l → ∀ p ∈ l, CallOb P w0 p.1 p.2.1 p.2.2
  | [], _, _, h => nomatch h
  | q :: l, h, p, hp => by rcases List.mem_cons.1 hp with rfl | hp; exact h.1; exact CallObs.mem h.2 p hp
theorem BinObs.mem {w0 : World} : ∀ {l : List (BinOp × TypeId × Value × Value × Value)}, BinObs P w0 l → ∀ p ∈ l, ∀ w, Keep No w0 w → (binOp p.1 p.2.1 p.2.2.1 p.2.2.2.1).run P w = .ok p.2.2.2.2 w
  | [], _, _, h => nomatch h
  | q :: l, h, p, hp => by rcases List.mem_cons.1 hp with rfl | hp; exact h.1; exact BinObs.mem h.2 p hp
theorem ByObs.mem {w0 : World} : ∀ {l : List (Op × TypeId × List (Tmp × Sv) × Sv)}, ByObs P w0 l → ∀ p ∈ l, ∀ (a : Act) (o : Oper) w, o.op = p.1 → o.type = p.2.1 → Keep No w0 w → (∀ q ∈ p.2.2.1, q.2.ok w (a.tmps.getD q.1 undef)) → OutOK P p.2.2.2 w ((execOp a.eval o).run P w)
  | [], _, _, h => nomatch h
  | q :: l, h, p, hp => by rcases List.mem_cons.1 hp with rfl | hp; exact h.1; exact ByObs.mem h.2 p hp
def SemObsE (P : Program) (w0 : World) (l : List (Sem Value × Value)) : Prop := match l with | [] => True | p :: l => (∀ w, Keep No w0 w → p.1.run P w = .ok p.2 w) ∧ SemObsE P w0 l
theorem SemObsE.mem {w0 : World} : ∀ {l : List (Sem Value × Value)}, SemObsE P w0 l → ∀ p ∈ l, ∀ w, Keep No w0 w → p.1.run P w = .ok p.2 w
  | [], _, _, h => nomatch h
  | q :: l, h, p, hp => by rcases List.mem_cons.1 hp with rfl | hp; exact h.1; exact SemObsE.mem h.2 p hp
theorem all_of_maps : ∀ {l : List (Nat × Nat)}, l.map (·.1) = l.map (·.2) → ∀ p ∈ l, p.1 = p.2
  | [], _, _, h => nomatch h
  | q :: l, h, p, hp => by
    simp only [List.map_cons, List.cons.injEq] at h
    rcases List.mem_cons.1 hp with rfl | hp; exact h.1; exact all_of_maps h.2 p hp

/-- The region, reckoned: what is looked at behind it are the slots 'ts'. -/
theorem region_ev0 {f0 : Tmp → Sv} {id : Nat} {l : List Oper} {Q : Exit → Act → World → Prop} {a0 : Act} {w0 : World} (rows : List Row) (tags : Tmp → Option Nat) (gt : Nat → Option Nat) (hs : List (Nat × Hint)) (ts : List Tmp) (ss : List Sv)
    (eqs : List (Value × Value)) (calls : List (FuncId × List Sv × Sv)) (bins : List (BinOp × TypeId × Value × Value × Value)) (bys : List (Op × TypeId × List (Tmp × Sv) × Sv)) (sems : List (Sem Value × Value))
    (hm : P.follows .mixedOrders = true) (hc : chk l.toArray a0.tmps.size = true) (hf : ∀ t w, (f0 t).ok w (a0.tmps.getD t undef)) (hr : Rows w0 rows)
    (he : (ev P l.toArray rows gt hs l 0 f0 tags).map (fun r => (ts.map r.1, r.2.eqs, r.2.calls, r.2.bins, r.2.bys, r.2.sems)) = some (ss, eqs, calls, bins, bys, sems))
    (hb : (ev P l.toArray rows gt hs l 0 f0 tags).map (fun r => r.2.blks.map (·.1)) = (ev P l.toArray rows gt hs l 0 f0 tags).map (fun r => r.2.blks.map (·.2)))
    (h1 : Eqs eqs) (h2 : CallObs P w0 calls) (h3 : BinObs P w0 bins) (h4 : ByObs P w0 bys) (h5 : SemObsE P w0 sems)
    (hQ : ∀ a w, Keep No w0 w → a.defers = a0.defers → a.tmps.size = a0.tmps.size → allOk ss w (ts.map fun t => a.tmps.getD t undef) → Q .normal a w) :
    (Code.region id l.toArray true).wp P Q a0 w0 := by
  rw [Option.map_eq_some_iff] at he
  obtain ⟨⟨fr', d'⟩, he, e2⟩ := he
  cases e2
  rw [he] at hb
  have hp : Paid P w0 d' := ⟨h1.mem, all_of_maps (Option.some.inj hb), h2.mem, h3.mem, h4.mem, h5.mem⟩
  obtain ⟨sp, _, h2, h3⟩ := ev_obs (f0 := f0) hr (chk_spec hc).sel l 0 tags (fun _ => .is undef) fr' _ (by simp) he hp
  refine region_rel (sp := sp) hm hc hf (fun i o hi => h3 i o (Nat.zero_le _) ?_ hi) fun a w k hd hsz hall => hQ a w k hd hsz ?_
  · rcases Nat.lt_or_ge i l.length with h | h
    · omega
    · rw [Array.getElem?_eq_none (by simpa using h)] at hi; cases hi
  · subst h2
    have hall' : ∀ t, (frAt l.toArray sp f0 (0 + l.length) t).ok w (a.tmps.getD t undef) := by simpa using hall
    clear he h3 hQ hb
    generalize frAt l.toArray sp f0 (0 + l.length) = fr at *
    induction ts with
    | nil => trivial
    | cons t ts ih => exact ⟨hall' t, ih⟩

theorem region_ev {id : Nat} {l : List Oper} {Q : Exit → Act → World → Prop} {a0 : Act} {w0 : World} (rows : List Row) (tags : Tmp → Option Nat) (gt : Nat → Option Nat) (hs : List (Nat × Hint)) (ts : List Tmp) (ss : List Sv)
    (eqs : List (Value × Value)) (calls : List (FuncId × List Sv × Sv)) (bins : List (BinOp × TypeId × Value × Value × Value)) (bys : List (Op × TypeId × List (Tmp × Sv) × Sv))
    (hm : P.follows .mixedOrders = true) (hc : chk l.toArray a0.tmps.size = true) (hr : Rows w0 rows)
    (he : (ev P l.toArray rows gt hs l 0 (frameOf a0) tags).map (fun r => (ts.map r.1, r.2.eqs, r.2.calls, r.2.bins, r.2.bys, r.2.sems)) = some (ss, eqs, calls, bins, bys, []))
    (hb : (ev P l.toArray rows gt hs l 0 (frameOf a0) tags).map (fun r => r.2.blks.map (·.1)) = (ev P l.toArray rows gt hs l 0 (frameOf a0) tags).map (fun r => r.2.blks.map (·.2)))
    (h1 : Eqs eqs) (h2 : CallObs P w0 calls) (h3 : BinObs P w0 bins) (h4 : ByObs P w0 bys)
    (hQ : ∀ a w, Keep No w0 w → a.defers = a0.defers → a.tmps.size = a0.tmps.size → allOk ss w (ts.map fun t => a.tmps.getD t undef) → Q .normal a w) :
    (Code.region id l.toArray true).wp P Q a0 w0 := region_ev0 (f0 := frameOf a0) rows tags gt hs ts ss eqs calls bins bys [] hm hc (fun _ _ => rfl) hr he hb h1 h2 h3 h4 trivial hQ

/-- The rows, one by one. -/
def RowsL (w : World) : List Row → Prop | [] => True | r :: l => (∃ t, w.heap[r.1]? = some (.cells r.2.toArray t (0, 0))) ∧ RowsL w l
theorem RowsL.rows {w : World} : ∀ {l : List Row}, RowsL w l → Rows w l
  | [], _, _, h => nomatch h
  | q :: l, h, p, hp => by rcases List.mem_cons.1 hp with rfl | hp; exact h.1; exact RowsL.rows h.2 p hp
/-- Tags out of a list. -/
def tagL : List (Nat × Nat) → Tmp → Option Nat | [], _ => none | (t, k) :: l, x => if Nat.beq x t then some k else tagL l x

section
variable {w0 : World} {f : FuncId} {v : Value}
theorem CallOb.of0 (h : ∀ w, Keep No w0 w → Calls P f #[] w fun e w' => e = .returned v ∧ Keep No w w') : CallOb P w0 f [] (.is v) := by
  rintro w vals k ha
  match vals, ha with
  | [], _ => exact (h w k).mono fun e w' ⟨h1, h2⟩ => ⟨v, h1, h2, rfl⟩
theorem CallOb.of1 {a : Value} (h : ∀ w, Keep No w0 w → Calls P f #[a] w fun e w' => e = .returned v ∧ Keep No w w') : CallOb P w0 f [.is a] (.is v) := by
  rintro w vals k ha
  match vals, ha with
  | [x], hx => obtain rfl : x = a := hx.1; exact (h w k).mono fun e w' ⟨h1, h2⟩ => ⟨v, h1, h2, rfl⟩
theorem CallOb.of2 {a b : Value} (h : ∀ w, Keep No w0 w → Calls P f #[a, b] w fun e w' => e = .returned v ∧ Keep No w w') : CallOb P w0 f [.is a, .is b] (.is v) := by
  rintro w vals k ha
  match vals, ha with
  | [x, y], hx => obtain rfl : x = a := hx.1; obtain rfl : y = b := hx.2.1; exact (h w k).mono fun e w' ⟨h1, h2⟩ => ⟨v, h1, h2, rfl⟩
end
theorem ret_tmp {fn : Func} {R : Ending → World → Prop} {a : Act} {w : World} {v : Value} {t : Tmp} (hr : fn.results = #[.tmp t]) (hv : a.tmps.getD t undef = v) (hd : a.defers = []) (h : R (.returned v) w) : Code.ret.wp P (bodyPost P fn R) a w := by
  refine wp_ret (bodyPost_ret (v := v) ?_ hd h)
  subst hv
  exact results_tmp hr _ _ _
end
end Go.Proofs.Ytpnocepepihflaa
namespace Go.Proofs.Ytpnocepepihflaa
open Go.RowKit

structure RowS where
  b : Nat
  cs : List Value
  own : Bool
structure Mem where
  rows : List RowS
  nx : Nat
def Safe (m : Mem) (k : Nat) : Prop := k < m.nx ∧ ∀ r ∈ m.rows, r.own = true → r.b ≠ k
/-- What w holds, W0 being the world when the function began. -/
structure Wst (W0 : World) (m : Mem) (w : World) : Prop where
  size : w.heap.size = m.nx
  rows : ∀ r ∈ m.rows, ∃ t, w.heap[r.b]? = some (.cells r.cs.toArray t (0, 0))
  one : (m.rows.map (·.b)).Nodup
  own : ∀ r ∈ m.rows, r.own = true → W0.heap.size ≤ r.b
  keep : Keep No W0 w
/-- From m, w to m', w': what is safe is as it was. -/
structure Seg (m : Mem) (w : World) (m' : Mem) (w' : World) : Prop where
  le : m.nx ≤ m'.nx
  safe : ∀ k, Safe m k → Safe m' k
  same : ∀ k, Safe m k → w'.heap[k]? = w.heap[k]?
theorem Seg.refl (m : Mem) (w : World) : Seg m w m w := ⟨Nat.le_refl _, fun _ h => h, fun _ _ => rfl⟩
theorem Seg.trans {m m1 m2 : Mem} {w w1 w2 : World} (h : Seg m w m1 w1) (k : Seg m1 w1 m2 w2) : Seg m w m2 w2 :=
  ⟨Nat.le_trans h.le k.le, fun i hi => k.safe i (h.safe i hi), fun i hi => (k.same i (h.safe i hi)).trans (h.same i hi)⟩

def cellLike : Value → Bool | .agg _ => false | .tuple _ => false | _ => true

/-- A run over known rows: the value, the memory behind it, the blocks it took for the row's. -/
def gRun {α : Type} (P : Program) (k : Option Nat) : Sem α → Mem → Option (α × Mem × List (Nat × Nat))
  | .pure a, m => some (a, m, [])
  | .load _ a f, m => match k.bind (m.rows[·]?) with
    | none => none
    | some r => match a.spot with
      | some _ => none
      | none => match r.cs[a.off]? with
        | none => none
        | some v => match gRun P k (f v) m with
          | some (x, m', l) => some (x, m', (a.block, r.b) :: l)
          | none => none
  | .store _ a v f, m => match k with
    | none => none
    | some i => match m.rows[i]? with
      | none => none
      | some r => match a.spot with
        | some _ => none
        | none => if r.own && cellLike v && Nat.blt a.off r.cs.length then
            match gRun P k f { m with rows := m.rows.set i { r with cs := r.cs.set a.off v } } with
            | some (x, m', l) => some (x, m', (a.block, r.b) :: l)
            | none => none
          else none
  | .new o f, m => match o with
    | .cells c _ (0, 0) => gRun P k (f m.nx) { rows := m.rows ++ [⟨m.nx, c.toList, true⟩], nx := m.nx + 1 }
    | _ => none
  | .program f, m => gRun P k (f P) m
  | .mark _ f, m => gRun P k f m
  | _, _ => none

theorem block_of_row {w : World} {b : Nat} {o : Obj} (h : w.heap[b]? = some o) : b < w.heap.size := by
  rcases Nat.lt_or_ge b w.heap.size with h1 | h1
  · exact h1
  · rw [Array.getElem?_eq_none h1] at h; cases h

section
variable {P : Program} {W0 : World}

theorem Wst.alloc {m : Mem} {w : World} (h : Wst W0 m w) (c : Array Value) (t : TypeId) : Wst W0 { rows := m.rows ++ [⟨m.nx, c.toList, true⟩], nx := m.nx + 1 } (w.alloc (.cells c t)) ∧
    Seg m w { rows := m.rows ++ [⟨m.nx, c.toList, true⟩], nx := m.nx + 1 } (w.alloc (.cells c t)) := by
  have hlt : ∀ r ∈ m.rows, r.b < m.nx := fun r hr => by obtain ⟨t, ht⟩ := h.rows r hr; have := block_of_row ht; rw [h.size] at this; exact this
  refine ⟨⟨by simp [h.size], ?_, ?_, ?_, h.keep.alloc _⟩, ⟨by simp, ?_, ?_⟩⟩
  · intro r hr
    rcases List.mem_append.1 hr with hr | hr
    · obtain ⟨t', ht⟩ := h.rows r hr
      exact ⟨t', (heap_alloc_old w _ (block_of_row ht)).trans ht⟩
    · obtain rfl := List.mem_singleton.1 hr
      exact ⟨t, by rw [← h.size]; simpa using heap_alloc_new w (.cells c t)⟩
  · simp only [List.map_append, List.map_cons, List.map_nil]
    rw [List.nodup_append]
    refine ⟨h.one, by simp, ?_⟩
    intro a ha b hb
    obtain ⟨r, hr, rfl⟩ := List.mem_map.1 ha
    obtain rfl := List.mem_singleton.1 hb
    exact Nat.ne_of_lt (hlt r hr)
  · intro r hr ho
    rcases List.mem_append.1 hr with hr | hr
    · exact h.own r hr ho
    · obtain rfl := List.mem_singleton.1 hr
      show W0.heap.size ≤ m.nx
      rw [← h.size]; exact h.keep.size
  · rintro k ⟨h1, h2⟩
    refine ⟨Nat.lt_succ_of_lt h1, fun r hr ho => ?_⟩
    rcases List.mem_append.1 hr with hr | hr
    · exact h2 r hr ho
    · obtain rfl := List.mem_singleton.1 hr
      show m.nx ≠ k
      omega
  · rintro k ⟨h1, _⟩
    exact heap_alloc_old w _ (by rw [h.size]; exact h1)

theorem Wst.store {m : Mem} {w : World} (h : Wst W0 m w) {i : Nat} {r : RowS} (hi : m.rows[i]? = some r) (ho : r.own = true) (off : Nat) (v : Value) :
    Wst W0 { m with rows := m.rows.set i { r with cs := r.cs.set off v } } (w.setCell ⟨r.b, off, none⟩ v) ∧ Seg m w { m with rows := m.rows.set i { r with cs := r.cs.set off v } } (w.setCell ⟨r.b, off, none⟩ v) := by
  obtain ⟨hil, hie⟩ := List.getElem?_eq_some_iff.1 hi
  have hmap : ((m.rows.set i { r with cs := r.cs.set off v }).map (·.b)) = m.rows.map (·.b) := by
    apply List.ext_getElem?
    intro j
    simp only [List.getElem?_map, List.getElem?_set]
    split
    · rename_i hj
      subst hj
      simp [hil, hie]
    · rfl
  have hmem : ∀ q ∈ m.rows.set i { r with cs := r.cs.set off v }, ∃ q0 ∈ m.rows, q0.b = q.b ∧ q0.own = q.own := fun q hq => by
    obtain ⟨j, hj⟩ := List.mem_iff_getElem?.1 hq
    rw [List.getElem?_set] at hj
    split at hj
    · cases hj; exact ⟨r, List.mem_of_getElem? hi, rfl, rfl⟩
    · exact ⟨q, List.mem_of_getElem? hj, rfl, rfl⟩
  have hlt : ∀ r ∈ m.rows, r.b < m.nx := fun r hr => by obtain ⟨t, ht⟩ := h.rows r hr; have := block_of_row ht; rw [h.size] at this; exact this
  refine ⟨⟨by simp [h.size], ?_, ?_, ?_, ?_⟩, ⟨Nat.le_refl _, ?_, ?_⟩⟩
  · intro q hq
    obtain ⟨j, hj⟩ := List.mem_iff_getElem?.1 hq
    rw [List.getElem?_set] at hj
    split at hj
    · cases hj
      obtain ⟨t, ht⟩ := h.rows r (List.mem_of_getElem? hi)
      refine ⟨t, ?_⟩
      rw [heap_setCell_same w r.b off _ t v ht]
      simp
    · rename_i hne
      obtain ⟨t, ht⟩ := h.rows q (List.mem_of_getElem? hj)
      refine ⟨t, ?_⟩
      have hb : q.b ≠ r.b := fun e => hne (by
        have h1 : (m.rows.map (·.b))[j]? = some r.b := by rw [List.getElem?_map, hj, ← e]; rfl
        have h2 : (m.rows.map (·.b))[i]? = some r.b := by rw [List.getElem?_map, hi]; rfl
        exact (List.getElem?_inj (by simpa using hil) h.one).1 (h2.trans h1.symm))
      rw [heap_setCell_other w _ q.b v hb]
      exact ht
  · rw [hmap]; exact h.one
  · intro q hq hoq
    obtain ⟨q0, h1, h2, h3⟩ := hmem q hq
    rw [← h2]; exact h.own q0 h1 (by rw [h3]; exact hoq)
  · exact h.keep.setCell (p := ⟨r.b, off, none⟩) (fun hb => by have := h.own r (List.mem_of_getElem? hi) ho; exact absurd hb (Nat.not_lt.2 this)) v
  · rintro k ⟨h1, h2⟩
    refine ⟨h1, fun q hq hoq => ?_⟩
    obtain ⟨q0, h3, h4, h5⟩ := hmem q hq
    rw [← h4]; exact h2 q0 h3 (by rw [h5]; exact hoq)
  · rintro k ⟨h1, h2⟩
    exact heap_setCell_other w _ k v (fun e => h2 r (List.mem_of_getElem? hi) ho e.symm)

theorem gRun_ok {α : Type} {k : Option Nat} : ∀ {s : Sem α} {m : Mem} {w : World} {x : α} {m' : Mem} {l : List (Nat × Nat)}, Wst W0 m w → gRun P k s m = some (x, m', l) → (∀ p ∈ l, p.1 = p.2) →
    ∃ w', s.run P w = .ok x w' ∧ Wst W0 m' w' ∧ Seg m w m' w' := by
  intro s
  induction s <;> intro m w x m' l hW h hl <;> simp only [gRun] at h <;> first | (cases h; done) | skip
  case pure a => cases h; exact ⟨w, rfl, hW, Seg.refl _ _⟩
  case load md a f ih =>
    split at h
    · cases h
    · rename_i r hr
      split at h
      · cases h
      · rename_i hsp
        split at h
        · cases h
        · rename_i v hv
          split at h
          · rename_i y m1 l1 he
            cases h
            have hab : a.block = r.b := hl (a.block, r.b) (by simp)
            rw [Option.bind_eq_some_iff] at hr
            obtain ⟨i, _, hi⟩ := hr
            obtain ⟨t, ht⟩ := hW.rows r (List.mem_of_getElem? hi)
            have hc : w.cell? a = some v := by
              simp only [World.cell?, hab, ht, hsp]
              simpa using hv
            obtain ⟨w', h1, h2, h3⟩ := ih v hW he (fun p hp => hl p (by simp [hp]))
            exact ⟨w', by simp only [Sem.run, hc]; exact h1, h2, h3⟩
          · cases h
  case store md a v f ih =>
    split at h
    · cases h
    · rename_i i
      split at h
      · cases h
      · rename_i r hi
        split at h
        · cases h
        · rename_i hsp
          split at h
          · rename_i hc
            simp only [Bool.and_eq_true] at hc
            obtain ⟨⟨ho, hcl⟩, hlt⟩ := hc
            have hlt' : a.off < r.cs.length := by simpa [Nat.blt_eq] using hlt
            split at h
            · rename_i y m1 l1 he
              cases h
              have hab : a.block = r.b := hl (a.block, r.b) (by simp)
              have ha : a = ⟨r.b, a.off, none⟩ := by cases a; simp_all
              obtain ⟨t, ht⟩ := hW.rows r (List.mem_of_getElem? hi)
              have hcell : w.cell? a = some (r.cs[a.off]) := by
                simp only [World.cell?, hab, ht, hsp]
                simp [hlt']
              have hfz : w.frozen? a = false := by rw [ha]; simp [World.frozen?, ht]
              obtain ⟨hW1, hS1⟩ := hW.store hi ho a.off v
              obtain ⟨w', h1, h2, h3⟩ := ih hW1 he (fun p hp => hl p (by simp [hp]))
              refine ⟨w', ?_, h2, hS1.trans h3⟩
              rw [← ha] at h1
              cases v <;> simp only [cellLike, Bool.false_eq_true] at hcl <;> simp only [Sem.run, hcell, hfz, Bool.false_eq_true, if_false] <;> exact h1
            · cases h
          · cases h
  case new o f ih =>
    split at h
    · rename_i c t
      obtain ⟨hW1, hS1⟩ := hW.alloc c t
      obtain ⟨w', h1, h2, h3⟩ := ih m.nx hW1 h hl
      refine ⟨w', ?_, h2, hS1.trans h3⟩
      simp only [Sem.run]
      rw [hW.size]
      exact h1
    · cases h
  case program f ih =>
    obtain ⟨w', h1, h2, h3⟩ := ih P hW h hl
    exact ⟨w', by simp only [Sem.run]; exact h1, h2, h3⟩
  case mark md f ih =>
    obtain ⟨w', h1, h2, h3⟩ := ih hW h hl
    exact ⟨w', by simp only [Sem.run]; exact h1, h2, h3⟩

/-! ### the code that is left -/
inductive K where
  | code (c : Code)
  | ops (ops : Array Oper) (l : List Oper) (i id : Nat)
  | blk (id : Nat)
  | rnd (m : Nat) (c : Code)
  | inv (R : Act → World → Prop)
def KX (P : Program) (Q : Exit → Act → World → Prop) : List K → Exit → Act → World → Prop
  | [] => Q
  | .code c :: k => Exit.then (c.wp P (KX P Q k)) (KX P Q k)
  | .ops ops l _ _ :: k => Exit.then (wpList P ops (KX P Q k) l) (KX P Q k)
  | .blk id :: k => Exit.inBlock id (KX P Q k)
  | .rnd m c :: k => Exit.then (Code.rounds P c (KX P Q k) m) (KX P Q k)
  | .inv R :: k => Exit.then R (KX P Q k)
structure Cfg where
  fr : Tmp → Option Value
  tags : Tmp → Option Nat
  m : Mem
  todo : List K
/-- From here on the code comes to Q. -/
def Goal (P : Program) (Q : Exit → Act → World → Prop) (n : Nat) (c : Cfg) (w : World) : Prop :=
  ∀ a : Act, a.defers = [] → a.tmps.size = n → (∀ t v, c.fr t = some v → a.tmps.getD t undef = v) → KX P Q c.todo .normal a w

def opV (fr : Tmp → Option Value) : Operand → Option Value
  | .tmp t => fr t
  | .const v => some v
  | .global g => some (.pointer (some ⟨g, 0, none⟩))
  | .func f => some (.func (.func f) #[] #[])
def rho (fr : Tmp → Option Value) (x : Operand) : Value := match opV fr x with | some v => v | none => undef
def allV (fr : Tmp → Option Value) (o : Oper) : Bool := (tmpsOf o).all (fun t => (fr t).isSome)
theorem rho_eval {fr : Tmp → Option Value} {a : Act} {o : Oper} (ha : ∀ t v, fr t = some v → a.tmps.getD t undef = v) (he : allV fr o = true) {x : Operand} (hx : x ∈ o.op.operands) : a.eval x = rho fr x := by
  cases x with
  | tmp t =>
    have hm : t ∈ tmpsOf o := List.mem_filterMap.2 ⟨.tmp t, by simpa using hx, rfl⟩
    have := List.all_eq_true.1 he t hm
    cases hf : fr t with
    | none => rw [hf] at this; cases this
    | some v => simp only [rho, opV, hf]; exact ha t v hf
  | const v => rfl
  | global g => rfl
  | func f => rfl
theorem opV_eval {fr : Tmp → Option Value} {a : Act} {x : Operand} {v : Value} (ha : ∀ t v, fr t = some v → a.tmps.getD t undef = v) (h : opV fr x = some v) : a.eval x = v := by
  cases x with
  | tmp t => exact ha t v h
  | const u => exact Option.some.inj h
  | global g => exact Option.some.inj h
  | func f => exact Option.some.inj h
def wantV (ops : Array Oper) (fr : Tmp → Option Value) (o : Oper) : Option Bool :=
  match o.guard with
  | none => some true
  | some (j, b) => match (ops[j]?).bind (·.dst) with
    | some d => match fr d with
      | some (.bool g) => some (g == b)
      | some (.tuple ⟨[]⟩) => some false
      | _ => none
    | none => none
def putV (f : Tmp → Option Value) (d : Option Tmp) (s : Option Value) : Tmp → Option Value := match d with | some d => fun t => if Nat.beq t d = true then s else f t | none => f

inductive HintS where
  | is (v : Value)
  | sem (v : Value)
  | lose
  | stop
structure OwedS where
  eqs : List (Value × Value) := []
  blks : List (Nat × Nat) := []
  sems : List (Sem Value × Value) := []
def OwedS.add (a b : OwedS) : OwedS := ⟨a.eqs ++ b.eqs, a.blks ++ b.blks, a.sems ++ b.sems⟩
structure PaidS (P : Program) (m0 : Mem) (w0 : World) (o : OwedS) : Prop where
  eqs : ∀ p ∈ o.eqs, p.1 = p.2
  blks : ∀ p ∈ o.blks, p.1 = p.2
  sems : ∀ p ∈ o.sems, ∀ w, (∀ k, Safe m0 k → w.heap[k]? = w0.heap[k]?) → p.1.run P w = .ok p.2 w
theorem PaidS.left {m0 : Mem} {w0 : World} {a b : OwedS} (h : PaidS P m0 w0 (a.add b)) : PaidS P m0 w0 a :=
  ⟨fun p hp => h.eqs p (List.mem_append.2 (.inl hp)), fun p hp => h.blks p (List.mem_append.2 (.inl hp)), fun p hp => h.sems p (List.mem_append.2 (.inl hp))⟩
theorem PaidS.right {m0 : Mem} {w0 : World} {a b : OwedS} (h : PaidS P m0 w0 (a.add b)) : PaidS P m0 w0 b :=
  ⟨fun p hp => h.eqs p (List.mem_append.2 (.inr hp)), fun p hp => h.blks p (List.mem_append.2 (.inr hp)), fun p hp => h.sems p (List.mem_append.2 (.inr hp))⟩

def tagS (tags : Tmp → Option Nat) (gt : Nat → Option Nat) : Op → Option Nat
  | .load _ (.tmp t) | .store _ (.tmp t) _ => tags t
  | .load _ (.global g) | .store _ (.global g) _ => gt g
  | _ => none
def tagT (tags : Tmp → Option Nat) (gt : Nat → Option Nat) : Op → Option Nat
  | .move (.tmp t) | .assign (.tmp t) | .nilCheck (.tmp t) | .fieldAddr _ (.tmp t) _ | .indexAddr _ (.tmp t) _ | .slice _ (.tmp t) _ _ _ | .sliceToArrayPointer _ (.tmp t) => tags t
  | .fieldAddr _ (.global g) _ | .indexAddr _ (.global g) _ => gt g
  | _ => none
def dstOk (n : Nat) (o : Oper) : Bool := match o.dst with | some d => Nat.blt d n | none => true
/-- One operation. -/
def stepOp (P : Program) (n : Nat) (gt : Nat → Option Nat) (ops : Array Oper) (h : Option HintS) (o : Oper) (fr : Tmp → Option Value) (tags : Tmp → Option Nat) (m : Mem) : Option ((Tmp → Option Value) × (Tmp → Option Nat) × Mem × OwedS) :=
  if dstOk n o && selectFree o then
    match wantV ops fr o with
    | none => none
    | some false => some (putV fr o.dst (some undef), putT tags o.dst none, m, {})
    | some true => match h with
      | some .stop => none
      | some (.sem v') => if allV fr o then match semOf (rho fr) o with
          | some s => some (putV fr o.dst (some v'), putT tags o.dst (tagT tags gt o.op), m, { sems := [(s, v')] })
          | none => none
        else none
      | some .lose => if allV fr o then match gRun P (tagS tags gt o.op) (execOp (rho fr) o) m with
          | some (.value _, m', l) => some (putV fr o.dst none, putT tags o.dst none, m', { blks := l })
          | _ => none
        else none
      | some (.is v') => if allV fr o then match gRun P (tagS tags gt o.op) (execOp (rho fr) o) m with
          | some (.value v, m', l) => some (putV fr o.dst (some v'), putT tags o.dst (if m'.rows.length = m.rows.length then tagT tags gt o.op else some m.rows.length), m', { eqs := [(v, v')], blks := l })
          | _ => none
        else none
      | none => if allV fr o then match gRun P (tagS tags gt o.op) (execOp (rho fr) o) m with
          | some (.value v, m', l) => some (putV fr o.dst (some v), putT tags o.dst (if m'.rows.length = m.rows.length then tagT tags gt o.op else some m.rows.length), m', { blks := l })
          | some (.skip, m', l) => some (putV fr o.dst (some undef), putT tags o.dst none, m', { blks := l })
          | _ => none
        else none
  else none
def popTo (id : Nat) : List K → Option (List K)
  | [] => none
  | .blk id' :: k => if Nat.beq id id' then some k else popTo id k
  | _ :: k => popTo id k
/-- The first hint for that operation, and the hints that are left. -/
def hintS (hs : List (Nat × Nat × HintS)) (id i : Nat) : Option HintS × List (Nat × Nat × HintS) := match hs with
  | [] => (none, [])
  | (a, b, h) :: l => if Nat.beq a id && Nat.beq b i then (some h, l) else match hintS l id i with | (r, l') => (r, (a, b, h) :: l')
/-- One step of the walk; none: it stops here. -/
def step1 (P : Program) (n : Nat) (gt : Nat → Option Nat) (unroll : Bool) (hs : List (Nat × Nat × HintS)) (c : Cfg) : Option (Cfg × OwedS × List (Nat × Nat × HintS)) :=
  match c.todo with
  | .code .skip :: k => some ({ c with todo := k }, {}, hs)
  | .code (.seq x y) :: k => some ({ c with todo := .code x :: .code y :: k }, {}, hs)
  | .code (.cond x t e) :: k => match opV c.fr x with
    | some (.bool true) => some ({ c with todo := .code t :: k }, {}, hs)
    | some (.bool false) => some ({ c with todo := .code e :: k }, {}, hs)
    | _ => none
  | .code (.block id x) :: k => some ({ c with todo := .code x :: .blk id :: k }, {}, hs)
  | .blk _ :: k => some ({ c with todo := k }, {}, hs)
  | .code (.exit id) :: k => match popTo id k with
    | some k' => some ({ c with todo := k' }, {}, hs)
    | none => none
  | .code (.loop x) :: k => if unroll then some ({ c with todo := .code x :: .rnd 400 x :: k }, {}, hs) else none
  | .rnd (m + 1) x :: k => some ({ c with todo := .code x :: .rnd m x :: k }, {}, hs)
  | .code (.region id ops false) :: k => some ({ c with todo := .ops ops ops.toList 0 id :: k }, {}, hs)
  | .ops _ [] _ _ :: k => some ({ c with todo := k }, {}, hs)
  | .ops ops (o :: l) i id :: k => match stepOp P n gt ops (hintS hs id i).1 o c.fr c.tags c.m with
    | some (fr, tags, m, d) => some (⟨fr, tags, m, .ops ops l (i + 1) id :: k⟩, d, (hintS hs id i).2)
    | none => none
  | _ => none
def run (P : Program) (n : Nat) (gt : Nat → Option Nat) (unroll : Bool) : List (Nat × Nat × HintS) → Nat → Cfg → Cfg × OwedS
  | _, 0, c => (c, {})
  | hs, f + 1, c => match step1 P n gt unroll hs c with
    | none => (c, {})
    | some (c', d, hs') => match run P n gt unroll hs' f c' with
      | (c'', d') => (c'', d.add d')

variable {Q : Exit → Act → World → Prop} {n : Nat} {gt : Nat → Option Nat} {unroll : Bool} {hs : List (Nat × Nat × HintS)}

theorem putV_spec {fr : Tmp → Option Value} {a : Act} {o : Oper} (ha : ∀ t v, fr t = some v → a.tmps.getD t undef = v) (hn : a.tmps.size = n) (hd : dstOk n o = true) {s : Option Value} {u : Value} (hs : ∀ v, s = some v → u = v) :
    ∀ t v, putV fr o.dst s t = some v → (a.put o.dst u).tmps.getD t undef = v := by
  intro t v h
  unfold putV at h
  unfold Act.put
  cases hdst : o.dst with
  | none => rw [hdst] at h; exact ha t v h
  | some d =>
    rw [hdst] at h
    simp only [Nat.beq_eq] at h
    have hdl : d < a.tmps.size := by rw [hn]; simpa [dstOk, hdst, Nat.blt_eq] using hd
    split at h
    · rename_i e
      subst e
      simp [hdl, hs v h]
    · rename_i e
      have : ¬ d = t := fun h' => e h'.symm
      have := ha t v h
      simpa [Array.getElem?_setIfInBounds_ne ‹¬ d = t›] using this
theorem put_size (a : Act) (d : Option Tmp) (v : Value) : (a.put d v).tmps.size = a.tmps.size ∧ (a.put d v).defers = a.defers := by
  unfold Act.put; split <;> simp

theorem wantV_wanted {ops : Array Oper} {fr : Tmp → Option Value} {a : Act} {o : Oper} {b : Bool} (ha : ∀ t v, fr t = some v → a.tmps.getD t undef = v) (h : wantV ops fr o = some b) : Region.wanted o (yielded ops a.tmps) = b := by
  unfold wantV at h
  unfold Region.wanted
  split at h
  · rename_i hg; simp only [hg]; exact Option.some.inj h
  · rename_i j g hg
    simp only [hg]
    split at h
    · rename_i d hd
      split at h
      · rename_i x hx
        have h1 := ha d _ hx
        have h2 : a.tmps[d]? = some (.bool x) := by
          rw [Array.getD_eq_getD_getElem?] at h1
          cases ht : a.tmps[d]? with
          | none => rw [ht] at h1; simp [undef] at h1
          | some u => rw [ht] at h1; simpa using h1
        have hy : yielded ops a.tmps j = some x := by
          unfold yielded
          rw [hd]
          simp only [Option.bind_some, h2]
        rw [hy]
        have := Option.some.inj h
        subst this
        cases x <;> cases g <;> rfl
      · rename_i hx
        have h1 := ha d _ hx
        have hy : yielded ops a.tmps j = none := by
          unfold yielded
          rw [hd, Option.bind_some]
          rw [Array.getD_eq_getD_getElem?] at h1
          cases ht : a.tmps[d]? with
          | none => rfl
          | some u =>
            rw [ht] at h1
            obtain rfl : u = .tuple ⟨[]⟩ := by simpa using h1
            rfl
        rw [hy]
        have := Option.some.inj h
        subst this
        rfl
      · cases h
    · cases h

theorem stepOp_ok {ops : Array Oper} {h : Option HintS} {o : Oper} {l : List Oper} {fr fr' : Tmp → Option Value} {tags tags' : Tmp → Option Nat} {m m' m0 : Mem} {d : OwedS} {w w0 : World} {K' : Exit → Act → World → Prop}
    (he : stepOp P n gt ops h o fr tags m = some (fr', tags', m', d)) (hW : Wst W0 m w) (hS : Seg m0 w0 m w) (hp : PaidS P m0 w0 d)
    (hk : ∀ w', Wst W0 m' w' → Seg m w m' w' → ∀ a : Act, a.defers = [] → a.tmps.size = n → (∀ t v, fr' t = some v → a.tmps.getD t undef = v) → wpList P ops K' l a w') :
    ∀ a : Act, a.defers = [] → a.tmps.size = n → (∀ t v, fr t = some v → a.tmps.getD t undef = v) → wpList P ops K' (o :: l) a w := by
  intro a hd hn ha
  unfold stepOp at he
  split at he
  case isFalse => cases he
  rename_i hdc
  simp only [Bool.and_eq_true] at hdc
  obtain ⟨hdst, hsel⟩ := hdc
  have hsel' : ∀ cs b, o.op ≠ .select cs b := fun cs b h => by simp [selectFree, h] at hsel
  have fin : ∀ {s : Option Value} {u : Value} {w'}, (∀ v, s = some v → u = v) → fr' = putV fr o.dst s → Wst W0 m' w' → Seg m w m' w' → wpList P ops K' l (a.put o.dst u) w' := by
    intro s u w' hs hf h1 h2
    subst hf
    exact hk w' h1 h2 _ (by rw [(put_size a o.dst u).2]; exact hd) (by rw [(put_size a o.dst u).1]; exact hn) (putV_spec ha hn hdst hs)
  have oneV : ∀ {v : Value} {w' : World}, wantV ops fr o = some true → (execOp a.eval o).run P w = .ok (.value v) w' → wpList P ops K' l (a.put o.dst v) w' → wpList P ops K' (o :: l) a w := by
    intro v w' hw hr hx
    unfold wpList
    rw [wantV_wanted ha hw, if_pos rfl]
    refine .inl ?_
    unfold Oper.wp
    rw [hr]
    exact hx
  have oneS : ∀ {w' : World}, wantV ops fr o = some true → (execOp a.eval o).run P w = .ok .skip w' → wpList P ops K' l (a.put o.dst undef) w' → wpList P ops K' (o :: l) a w := by
    intro w' hw hr hx
    unfold wpList
    rw [wantV_wanted ha hw, if_pos rfl]
    refine .inl ?_
    unfold Oper.wp
    rw [hr]
    exact hx
  split at he
  · cases he
  · rename_i hw
    cases he
    unfold wpList
    rw [wantV_wanted ha hw]
    simp only [Bool.false_eq_true, if_false]
    exact fin (s := some undef) (fun v hv => Option.some.inj hv) rfl hW (Seg.refl _ _)
  · rename_i hw
    split at he
    · cases he
    · split at he
      · rename_i hall
        split at he
        · rename_i s hs
          cases he
          have hrun := hp.sems (s, _) (List.mem_singleton.2 rfl) w hS.same
          refine oneV hw (by rw [execOp_congr o hsel' (fun x hx => rho_eval ha hall hx)]; exact semOf_run hs hrun) ?_
          exact fin (fun v hv => Option.some.inj hv) rfl hW (Seg.refl _ _)
        · cases he
      · cases he
    · split at he
      · rename_i hall
        split at he
        · rename_i v m1 l1 hg
          cases he
          obtain ⟨w', h1, h2, h3⟩ := gRun_ok hW hg hp.blks
          refine oneV hw (by rw [execOp_congr o hsel' (fun x hx => rho_eval ha hall hx)]; exact h1) ?_
          exact fin (s := none) (fun v hv => by cases hv) rfl h2 h3
        · cases he
      · cases he
    · split at he
      · rename_i hall
        split at he
        · rename_i v m1 l1 hg
          cases he
          obtain ⟨w', h1, h2, h3⟩ := gRun_ok hW hg hp.blks
          refine oneV hw (by rw [execOp_congr o hsel' (fun x hx => rho_eval ha hall hx)]; exact h1) ?_
          exact fin (fun v hv => (hp.eqs (_, _) (List.mem_singleton.2 rfl)).trans (Option.some.inj hv)) rfl h2 h3
        · cases he
      · cases he
    · split at he
      · rename_i hall
        split at he
        · rename_i v m1 l1 hg
          cases he
          obtain ⟨w', h1, h2, h3⟩ := gRun_ok hW hg hp.blks
          refine oneV hw (by rw [execOp_congr o hsel' (fun x hx => rho_eval ha hall hx)]; exact h1) ?_
          exact fin (fun v hv => Option.some.inj hv) rfl h2 h3
        · rename_i m1 l1 hg
          cases he
          obtain ⟨w', h1, h2, h3⟩ := gRun_ok hW hg hp.blks
          refine oneS hw (by rw [execOp_congr o hsel' (fun x hx => rho_eval ha hall hx)]; exact h1) ?_
          exact fin (s := some undef) (fun v hv => Option.some.inj hv) rfl h2 h3
        · cases he
      · cases he

theorem KX_pop {id : Nat} {a : Act} {w : World} : ∀ {k k' : List K}, popTo id k = some k' → KX P Q k' .normal a w → KX P Q k (.exit id) a w
  | [], _, h, _ => by simp [popTo] at h
  | .code c :: k, k', h, hk => KX_pop (k := k) h hk
  | .ops a b i j :: k, k', h, hk => KX_pop (k := k) h hk
  | .rnd m c :: k, k', h, hk => KX_pop (k := k) h hk
  | .inv R :: k, k', h, hk => KX_pop (k := k) h hk
  | .blk id' :: k, k', h, hk => by
    simp only [popTo, Nat.beq_eq] at h
    simp only [KX, Exit.inBlock]
    split at h
    · rename_i e
      cases h
      rw [if_pos e]; exact hk
    · rename_i e
      rw [if_neg e]; exact KX_pop h hk

theorem step1_ok {c c' : Cfg} {d : OwedS} {m0 : Mem} {w w0 : World} {hs' : List (Nat × Nat × HintS)} (he : step1 P n gt unroll hs c = some (c', d, hs')) (hW : Wst W0 c.m w) (hS : Seg m0 w0 c.m w) (hp : PaidS P m0 w0 d)
    (hk : ∀ w', Wst W0 c'.m w' → Seg c.m w c'.m w' → Goal P Q n c' w') : Goal P Q n c w := by
  obtain ⟨fr, tags, m, todo⟩ := c
  unfold step1 at he
  simp only at he
  split at he
  · cases he; intro a hd hn ha; exact wp_skip (hk w hW (Seg.refl _ _) a hd hn ha)
  · cases he; intro a hd hn ha; exact wp_seq (hk w hW (Seg.refl _ _) a hd hn ha)
  · split at he
    · rename_i hv
      cases he; intro a hd hn ha
      exact wp_cond_true (opV_eval ha hv) (hk w hW (Seg.refl _ _) a hd hn ha)
    · rename_i hv
      cases he; intro a hd hn ha
      exact wp_cond_false (opV_eval ha hv) (hk w hW (Seg.refl _ _) a hd hn ha)
    · cases he
  · cases he; intro a hd hn ha; exact wp_block (hk w hW (Seg.refl _ _) a hd hn ha)
  · cases he; intro a hd hn ha; exact hk w hW (Seg.refl _ _) a hd hn ha
  · split at he
    · rename_i hpop
      cases he; intro a hd hn ha
      exact wp_exit (KX_pop hpop (hk w hW (Seg.refl _ _) a hd hn ha))
    · cases he
  · split at he
    · cases he; intro a hd hn ha
      exact wp_loop_rounds 401 (hk w hW (Seg.refl _ _) a hd hn ha)
    · cases he
  · cases he; intro a hd hn ha; exact hk w hW (Seg.refl _ _) a hd hn ha
  · cases he; intro a hd hn ha
    exact wp_region_list (hk w hW (Seg.refl _ _) a hd hn ha)
  · cases he; intro a hd hn ha; exact hk w hW (Seg.refl _ _) a hd hn ha
  · split at he
    · rename_i hst
      cases he
      intro a hd hn ha
      exact stepOp_ok hst hW hS hp (fun w' h1 h2 a hd hn ha => hk w' h1 h2 a hd hn ha) a hd hn ha
    · cases he
  · cases he

theorem run_ok {m0 : Mem} {w0 : World} : ∀ (f : Nat) {hs : List (Nat × Nat × HintS)} {c : Cfg} {w : World}, Wst W0 c.m w → Seg m0 w0 c.m w → PaidS P m0 w0 (run P n gt unroll hs f c).2 →
    (∀ w', Wst W0 (run P n gt unroll hs f c).1.m w' → Seg c.m w (run P n gt unroll hs f c).1.m w' → Goal P Q n (run P n gt unroll hs f c).1 w') → Goal P Q n c w
  | 0, hs, c, w, hW, _, _, hk => hk w hW (Seg.refl _ _)
  | f + 1, hs, c, w, hW, hS, hp, hk => by
    simp only [run] at hp hk
    cases he : step1 P n gt unroll hs c with
    | none => rw [he] at hk; exact hk w hW (Seg.refl _ _)
    | some cd =>
      obtain ⟨c', d, hs'⟩ := cd
      rw [he] at hp hk
      simp only at hp hk
      refine step1_ok he hW hS hp.left fun w1 hW1 hS1 => ?_
      exact run_ok f hW1 (hS.trans hS1) hp.right fun w' h1 h2 => hk w' h1 (hS1.trans h2)
end
end Go.Proofs.Ytpnocepepihflaa
namespace Go.Proofs.Ytpnocepepihflaa
open Go.RowKit

section
variable {P : Program} {W0 : World} {Q : Exit → Act → World → Prop} {n : Nat} {gt : Nat → Option Nat} {unroll : Bool}

/-- The frame at the begin. -/
def frArgs (args : List Value) (t : Tmp) : Option Value := some (args.getD t undef)
def start (args : List Value) (rows : List RowS) (nx : Nat) (body : Code) : Cfg := ⟨frArgs args, fun _ => none, ⟨rows, nx⟩, [.code body]⟩

/-- A function's body. -/
def bodyOf (fn : Func) : Code := fn.body.getD .skip
/-! Places in a body: what is left to do, found by a region's number (lp: what stands for the loops around it). -/
def seek (r : Nat) (lp : K) : Code → Option (List K)
  | .region id ops d => if Nat.beq id r then some [.code (.region id ops d)] else none
  | .seq a b => match seek r lp a with
    | some k => some (k ++ [.code b])
    | none => seek r lp b
  | .block id c => match seek r lp c with
    | some k => some (k ++ [.blk id])
    | none => none
  | .loop c => match seek r lp c with
    | some k => some (k ++ [lp])
    | none => none
  | .cond _ a b => match seek r lp a with
    | some k => some k
    | none => seek r lp b
  | _ => none
def seekLoop (r : Nat) (lp : K) : Code → Option (List K)
  | .loop c => match seekLoop r lp c with
    | some k => some (k ++ [lp])
    | none => match seek r lp c with
      | some _ => some [.code (.loop c)]
      | none => none
  | .seq a b => match seekLoop r lp a with
    | some k => some (k ++ [.code b])
    | none => seekLoop r lp b
  | .block id c => match seekLoop r lp c with
    | some k => some (k ++ [.blk id])
    | none => none
  | .cond _ a b => match seekLoop r lp a with
    | some k => some k
    | none => seekLoop r lp b
  | _ => none
/-- Ahead of region r. -/
def atR (c : Code) (r : Nat) (lp : K := .blk 0) : List K := (seek r lp c).getD []
/-- Behind region r. -/
def afterR (c : Code) (r : Nat) (lp : K := .blk 0) : List K := ((seek r lp c).getD []).tail
/-- In region r, behind its operation i. -/
def inR (c : Code) (r i : Nat) (lp : K := .blk 0) : List K := match (seek r lp c).getD [] with | .code (.region id ops _) :: k => .ops ops (ops.toList.drop (i + 1)) (i + 1) id :: k | _ => []
/-- In region r, ahead of its first operation (where the hint 'stop' at (r, 0) stops). -/
def opsR (c : Code) (r : Nat) (lp : K := .blk 0) : List K := match (seek r lp c).getD [] with | .code (.region id ops _) :: k => .ops ops ops.toList 0 id :: k | _ => []
/-- At the innermost loop that holds region r. -/
def atL (c : Code) (r : Nat) (lp : K := .blk 0) : List K := (seekLoop r lp c).getD []
theorem enter {f : FuncId} {fn : Func} {args : List Value} {w : World} {R : Ending → World → Prop} (hf : P.funcs[f]? = some fn) (hb : (fn.body.isSome, Nat.ble args.length fn.ntmps) = (true, true))
    (h : Goal P (bodyPost P fn R) fn.ntmps (start args [] w.heap.size (bodyOf fn)) w) : Calls P f args.toArray w R := by
  simp only [Prod.mk.injEq] at hb
  obtain ⟨hb, hn⟩ := hb
  cases hc : fn.body with
  | none => rw [hc] at hb; cases hb
  | some c =>
    have hbo : bodyOf fn = c := by simp [bodyOf, hc]
    rw [hbo] at h
    refine calls_of_wp hf hc (h _ rfl ?_ ?_)
    · have := Nat.le_of_ble_eq_true hn
      simp; omega
    · intro t v hv
      simp only [start, frArgs, Option.some.injEq] at hv
      rw [← hv]
      simp only [Array.getD_eq_getD_getElem?, Array.getElem?_append, List.getD_eq_getElem?_getD]
      split
      · simp
      · rename_i hl
        have : args[t]? = none := List.getElem?_eq_none (by simpa using hl)
        rw [this]
        cases h2 : (Array.replicate (fn.ntmps - args.toArray.size) undef)[t - args.toArray.size]? with
        | none => rfl
        | some u => rw [Array.getElem?_replicate] at h2; split at h2 <;> simp_all
theorem Wst.start (w : World) (rows : List RowS) (hr : ∀ r ∈ rows, r.own = false ∧ ∃ t, w.heap[r.b]? = some (.cells r.cs.toArray t (0, 0))) (h1 : (rows.map (·.b)).Nodup) : Wst w ⟨rows, w.heap.size⟩ w :=
  ⟨rfl, fun r h => (hr r h).2, h1, fun r h ho => (by rw [(hr r h).1] at ho; cases ho), Keep.refl _ _⟩
theorem Wst.start0 (w : World) : Wst w ⟨[], w.heap.size⟩ w := Wst.start w [] (fun _ h => nomatch h) List.nodup_nil

def SemObs (P : Program) (m0 : Mem) (w0 : World) (l : List (Sem Value × Value)) : Prop := match l with | [] => True | p :: l => (∀ w, (∀ k, Safe m0 k → w.heap[k]? = w0.heap[k]?) → p.1.run P w = .ok p.2 w) ∧ SemObs P m0 w0 l
theorem SemObs.of {m0 : Mem} {w0 : World} : ∀ {l : List (Sem Value × Value)}, (∀ p ∈ l, ∀ w, (∀ k, Safe m0 k → w.heap[k]? = w0.heap[k]?) → p.1.run P w = .ok p.2 w) → SemObs P m0 w0 l
  | [], _ => trivial
  | q :: l, h => ⟨h q (by simp), SemObs.of fun p hp => h p (by simp [hp])⟩
theorem SemObs.mem {m0 : Mem} {w0 : World} : ∀ {l : List (Sem Value × Value)}, SemObs P m0 w0 l → ∀ p ∈ l, ∀ w, (∀ k, Safe m0 k → w.heap[k]? = w0.heap[k]?) → p.1.run P w = .ok p.2 w
  | [], _, _, h => nomatch h
  | q :: l, h, p, hp => by rcases List.mem_cons.1 hp with rfl | hp; exact h.1; exact SemObs.mem h.2 p hp

/-- Is the walk at a call of a Go function? Which, with which arguments? -/
def atCall (P : Program) (n : Nat) (c : Cfg) : Option (FuncId × List Value) :=
  match c.todo with
  | .ops ops (o :: _) _ _ :: _ => match wantV ops c.fr o with
    | some true => if allV c.fr o && dstOk n o then match o.op with
        | .call { callee := .value (.func f), args := args, argTypes := _ } => if callOk P f then some (f, args.toList.map (rho c.fr)) else none
        | _ => none
      else none
    | _ => none
  | _ => none
/-- Behind that call. -/
def resume (c : Cfg) (v : Value) (nx : Nat) : Cfg :=
  match c.todo with
  | .ops ops (o :: l) i id :: k => ⟨putV c.fr o.dst (some v), putT c.tags o.dst none, ⟨c.m.rows, nx⟩, .ops ops l (i + 1) id :: k⟩
  | _ => c

theorem Wst.later {m : Mem} {w w' : World} (h : Wst W0 m w) (k : Keep No w w') : Wst W0 ⟨m.rows, w'.heap.size⟩ w' :=
  ⟨rfl, fun r hr => by obtain ⟨t, ht⟩ := h.rows r hr; exact ⟨t, (k.block r.b (block_of_row ht) (fun f => f)).trans ht⟩, h.one, h.own, h.keep.trans k⟩
theorem Seg.later {m : Mem} {w w' : World} (h : Wst W0 m w) (k : Keep No w w') : Seg m w ⟨m.rows, w'.heap.size⟩ w' := by
  have hs := k.size
  refine ⟨by rw [← h.size]; exact hs, fun i hi => ⟨?_, hi.2⟩, fun i hi => k.block i (by rw [h.size]; exact hi.1) (fun f => f)⟩
  have := hi.1
  rw [← h.size] at this
  show i < w'.heap.size
  omega
/-- What a callee has made is safe. -/
theorem safe_new {m : Mem} {w w' : World} (h : Wst W0 m w) {b : Nat} (h1 : w.heap.size ≤ b) (h2 : b < w'.heap.size) : Safe ⟨m.rows, w'.heap.size⟩ b :=
  ⟨h2, fun r hr _ => by obtain ⟨t, ht⟩ := h.rows r hr; have := block_of_row ht; omega⟩
theorem resume_m (c : Cfg) (v : Value) (nx : Nat) {x : FuncId × List Value} (h : atCall P n c = some x) : (resume c v nx).m = ⟨c.m.rows, nx⟩ := by
  unfold atCall at h
  unfold resume
  split at h
  · rfl
  · cases h

/-- Where the call's value goes, and what is left behind the call. -/
def callDst (c : Cfg) : Option (Tmp × List K) := match c.todo with | .ops ops (o :: l) i id :: k => o.dst.map fun d => (d, .ops ops l (i + 1) id :: k) | _ => none
theorem call_ok {c : Cfg} {w : World} {f : FuncId} {args : List Value} (ha : atCall P n c = some (f, args))
    (hc : Calls P f args.toArray w (fun e w' => ∃ v, e = .returned v ∧ Goal P Q n (resume c v w'.heap.size) w')) : Goal P Q n c w := by
  obtain ⟨fr, tags, m, todo⟩ := c
  unfold atCall at ha
  simp only at ha
  split at ha
  case h_2 => cases ha
  split at ha
  case h_2 => cases ha
  rename_i ops o l i id k _ hw
  split at ha
  case isFalse => cases ha
  rename_i hall
  simp only [Bool.and_eq_true] at hall
  split at ha
  case h_2 => cases ha
  rename_i f' xs ts hop
  split at ha
  case isFalse => cases ha
  rename_i hk
  cases ha
  intro a hd hn ha
  show wpList P ops (KX P Q k) (o :: l) a w
  have hsel : ∀ cs b, o.op ≠ .select cs b := fun cs b e => by rw [hop] at e; cases e
  unfold wpList
  rw [wantV_wanted ha hw, if_pos rfl]
  refine .inl ?_
  unfold Oper.wp
  rw [execOp_congr o hsel (fun x hx => rho_eval ha hall.1 hx), run_call hop rfl hk]
  have e1 : (xs.toList.map (rho fr)).toArray = xs.map (rho fr) := by apply Array.ext'; simp
  rw [e1] at hc
  refine Calls.mono hc ?_
  rintro e w' ⟨v, rfl, hg⟩
  have := hg (a.put o.dst v) (by rw [(put_size a o.dst v).2]; exact hd) (by rw [(put_size a o.dst v).1]; exact hn) (putV_spec ha hn hall.2 (fun u hu => Option.some.inj hu))
  exact this

/-- Run to the next call, and take its contract. -/
theorem go_call (fuel : Nat) (hs : List (Nat × Nat × HintS)) (f : FuncId) (args : List Value) (eqs : List (Value × Value)) (sems : List (Sem Value × Value)) {c : Cfg} {w : World}
    (hW : Wst W0 c.m w)
    (he : ((atCall P n (run P n gt unroll hs fuel c).1, (run P n gt unroll hs fuel c).2.eqs, (run P n gt unroll hs fuel c).2.sems), (run P n gt unroll hs fuel c).2.blks.map (·.1)) = ((some (f, args), eqs, sems), (run P n gt unroll hs fuel c).2.blks.map (·.2)))
    (h1 : Eqs eqs) (h2 : SemObs P c.m w sems)
    (hk : ∀ w', Wst W0 (run P n gt unroll hs fuel c).1.m w' → Seg c.m w (run P n gt unroll hs fuel c).1.m w' →
      Calls P f args.toArray w' (fun e w2 => ∃ v, e = .returned v ∧ Goal P Q n (resume (run P n gt unroll hs fuel c).1 v w2.heap.size) w2)) : Goal P Q n c w := by
  simp only [Prod.mk.injEq] at he
  obtain ⟨⟨e1, e2, e3⟩, e4⟩ := he
  refine run_ok fuel hW (Seg.refl _ _) ⟨?_, all_of_maps e4, ?_⟩ fun w' hW' hS' => call_ok e1 (hk w' hW' hS')
  · rw [e2]; exact h1.mem
  · rw [e3]; exact h2.mem

/-! ### a region that draws its order -/
def svOf (fr : Tmp → Option Value) (t : Tmp) : Sv := match fr t with | some v => .is v | none => .such (fun _ _ => True) (fun _ _ _ _ _ => trivial)
def atDrawn (c : Cfg) : Option (List Oper × List K) := match c.todo with | .code (.region _ ops true) :: k => some (ops.toList, k) | _ => none
def rowsOf (m : Mem) : List Row := m.rows.map fun r => (r.b, r.cs)
/-- The reckoned region, whole. -/
def evAt (P : Program) (n : Nat) (gt : Nat → Option Nat) (hs : List (Nat × Hint)) (ts : List Tmp) (c : Cfg) : Option (List Sv × List (Value × Value) × List (FuncId × List Sv × Sv) × List (BinOp × TypeId × Value × Value × Value) × List (Op × TypeId × List (Tmp × Sv) × Sv) × List (Sem Value × Value)) :=
  match atDrawn c with
  | some (l, _) => if chk l.toArray n && P.follows .mixedOrders then (ev P l.toArray (rowsOf c.m) gt hs l 0 (svOf c.fr) c.tags).map (fun r => (ts.map r.1, r.2.eqs, r.2.calls, r.2.bins, r.2.bys, r.2.sems)) else none
  | none => none
def evBlks (P : Program) (gt : Nat → Option Nat) (hs : List (Nat × Hint)) (c : Cfg) : Option (List (Nat × Nat)) :=
  match atDrawn c with
  | some (l, _) => (ev P l.toArray (rowsOf c.m) gt hs l 0 (svOf c.fr) c.tags).map (fun r => r.2.blks)
  | none => none
def frOf (ts : List Tmp) (vs : List Value) (t : Tmp) : Option Value := match ts, vs with | x :: xs, v :: vs => if Nat.beq t x then some v else frOf xs vs t | _, _ => none
/-- Behind that region: the slots looked at, with their values. -/
def behind (c : Cfg) (ts : List Tmp) (vs : List Value) (nx : Nat) : Cfg := ⟨frOf ts vs, c.tags, ⟨c.m.rows, nx⟩, match atDrawn c with | some (_, k) => k | none => c.todo⟩

theorem frOf_spec {a : Act} : ∀ {ts : List Tmp} {vs : List Value}, vs = ts.map (fun t => a.tmps.getD t undef) → ∀ t v, frOf ts vs t = some v → a.tmps.getD t undef = v
  | [], _, h, t, v, hf => by subst h; simp [frOf] at hf
  | x :: xs, vs, h, t, v, hf => by
    subst h
    simp only [List.map_cons, frOf, Nat.beq_eq] at hf
    split at hf
    · rename_i e; subst e; exact Option.some.inj hf
    · exact frOf_spec rfl t v hf

theorem drawn_ok {c : Cfg} {w : World} (hs : List (Nat × Hint)) (ts : List Tmp) (ss : List Sv) (eqs : List (Value × Value)) (calls : List (FuncId × List Sv × Sv)) (bins : List (BinOp × TypeId × Value × Value × Value)) (bys : List (Op × TypeId × List (Tmp × Sv) × Sv)) (semsE : List (Sem Value × Value))
    (hW : Wst W0 c.m w) (he : evAt P n gt hs ts c = some (ss, eqs, calls, bins, bys, semsE)) (hb : (evBlks P gt hs c).map (·.map (·.1)) = (evBlks P gt hs c).map (·.map (·.2)))
    (h1 : Eqs eqs) (h2 : CallObs P w calls) (h3 : BinObs P w bins) (h4 : ByObs P w bys) (h5 : SemObsE P w semsE)
    (hk : ∀ w' vs, Keep No w w' → allOk ss w' vs → Goal P Q n (behind c ts vs w'.heap.size) w') : Goal P Q n c w := by
  obtain ⟨fr, tags, m, todo⟩ := c
  intro a hd hn ha
  unfold evAt at he
  unfold evBlks at hb
  unfold behind at hk
  unfold atDrawn at he hb hk
  match todo, he, hb, hk with
  | .code (.region id ops true) :: k, he, hb, hk =>
    simp only at he hb hk
    split at he
    case isFalse => cases he
    rename_i hc
    simp only [Bool.and_eq_true] at hc
    show (Code.region id ops true).wp P (KX P Q k) a w
    have hops : (Code.region id ops true) = (Code.region id ops.toList.toArray true) := by simp
    rw [hops]
    refine region_ev0 (f0 := svOf fr) (rowsOf m) tags gt hs ts ss eqs calls bins bys semsE hc.2 (by rw [hn]; exact hc.1) ?_ ?_ he ?_ h1 h2 h3 h4 h5 ?_
    · intro t w'
      unfold svOf
      cases hf : fr t with
      | none => trivial
      | some v => exact ha t v hf
    · intro r hr
      obtain ⟨q, hq, rfl⟩ := List.mem_map.1 hr
      exact hW.rows q hq
    · rw [Option.map_map, Option.map_map] at hb
      exact hb
    · intro a' w' k' hd' hn' hok
      exact hk w' _ k' hok a' (by rw [hd', hd]) (by rw [hn', hn]) (frOf_spec rfl)

/-- Run to a region that draws its order, and cross it. -/
theorem go_drawn (fuel : Nat) (hs0 : List (Nat × Nat × HintS)) (eqs0 : List (Value × Value)) (sems : List (Sem Value × Value)) (hs : List (Nat × Hint)) (ts : List Tmp) (ss : List Sv) (eqs : List (Value × Value)) (calls : List (FuncId × List Sv × Sv))
    (bins : List (BinOp × TypeId × Value × Value × Value)) (bys : List (Op × TypeId × List (Tmp × Sv) × Sv)) (semsE : List (Sem Value × Value)) {c : Cfg} {w : World} (hW : Wst W0 c.m w)
    (he0 : (((run P n gt unroll hs0 fuel c).2.eqs, (run P n gt unroll hs0 fuel c).2.sems), (run P n gt unroll hs0 fuel c).2.blks.map (·.1)) = ((eqs0, sems), (run P n gt unroll hs0 fuel c).2.blks.map (·.2)))
    (he : evAt P n gt hs ts (run P n gt unroll hs0 fuel c).1 = some (ss, eqs, calls, bins, bys, semsE)) (hb : (evBlks P gt hs (run P n gt unroll hs0 fuel c).1).map (·.map (·.1)) = (evBlks P gt hs (run P n gt unroll hs0 fuel c).1).map (·.map (·.2)))
    (h01 : Eqs eqs0) (h02 : SemObs P c.m w sems) (h1 : Eqs eqs)
    (hk : ∀ w', Wst W0 (run P n gt unroll hs0 fuel c).1.m w' → Seg c.m w (run P n gt unroll hs0 fuel c).1.m w' → CallObs P w' calls ∧ BinObs P w' bins ∧ ByObs P w' bys ∧ SemObsE P w' semsE ∧
      ∀ w2 vs, Keep No w' w2 → allOk ss w2 vs → Goal P Q n (behind (run P n gt unroll hs0 fuel c).1 ts vs w2.heap.size) w2) : Goal P Q n c w := by
  simp only [Prod.mk.injEq] at he0
  obtain ⟨⟨e2, e3⟩, e4⟩ := he0
  refine run_ok fuel hW (Seg.refl _ _) ⟨?_, all_of_maps e4, ?_⟩ fun w' hW' hS' => ?_
  · rw [e2]; exact h01.mem
  · rw [e3]; exact h02.mem
  · obtain ⟨c1, c2, c3, c5, c4⟩ := hk w' hW' hS'
    exact drawn_ok hs ts ss eqs calls bins bys semsE hW' he hb h1 c1 c2 c3 c5 c4

theorem allOk_is {w : World} : ∀ {vs us : List Value}, allOk (vs.map .is) w us → us = vs
  | [], [], _ => rfl
  | [], _ :: _, h => h.elim
  | _ :: _, [], h => h.elim
  | v :: vs, u :: us, h => by
    have h1 : u = v := h.1
    rw [h1, allOk_is h.2]
/-- Cross a region all of whose results are known values: the state behind it is as it is written. -/
theorem go_drawn_is (fuel : Nat) (hs0 : List (Nat × Nat × HintS)) (eqs0 : List (Value × Value)) (sems0 : List (Sem Value × Value)) (hs : List (Nat × Hint)) (ts : List Tmp) (vs : List Value) (rows : List RowS) (tg : List (Nat × Nat)) (T : List K) (eqs : List (Value × Value)) (calls : List (FuncId × List Sv × Sv))
    (bins : List (BinOp × TypeId × Value × Value × Value)) (sems : List (Sem Value × Value)) {c : Cfg} {w : World} (hW : Wst W0 c.m w)
    (he0 : (((run P n gt unroll hs0 fuel c).2.eqs, (run P n gt unroll hs0 fuel c).2.sems, (run P n gt unroll hs0 fuel c).1.m.rows, (atDrawn (run P n gt unroll hs0 fuel c).1).map (·.2)), (run P n gt unroll hs0 fuel c).2.blks.map (·.1)) = ((eqs0, sems0, rows, some T), (run P n gt unroll hs0 fuel c).2.blks.map (·.2)))
    (he : evAt P n gt hs ts (run P n gt unroll hs0 fuel c).1 = some (vs.map .is, eqs, calls, bins, [], sems)) (hb : (evBlks P gt hs (run P n gt unroll hs0 fuel c).1).map (·.map (·.1)) = (evBlks P gt hs (run P n gt unroll hs0 fuel c).1).map (·.map (·.2)))
    (h01 : Eqs eqs0) (h02 : SemObs P c.m w sems0) (h1 : Eqs eqs)
    (hk : ∀ w', Wst W0 ⟨rows, w'.heap.size⟩ w' → Seg c.m w ⟨rows, w'.heap.size⟩ w' → CallObs P w' calls ∧ BinObs P w' bins ∧ SemObsE P w' sems ∧
      ∀ w2, Keep No w' w2 → Wst W0 ⟨rows, w2.heap.size⟩ w2 → Seg c.m w ⟨rows, w2.heap.size⟩ w2 → Goal P Q n ⟨frOf ts vs, tagL tg, ⟨rows, w2.heap.size⟩, T⟩ w2) : Goal P Q n c w := by
  have he0' := he0
  simp only [Prod.mk.injEq] at he0'
  obtain ⟨⟨e1, e2, er, et⟩, e4⟩ := he0'
  refine go_drawn fuel hs0 eqs0 sems0 hs ts (vs.map .is) eqs calls bins [] sems hW (by rw [e1, e2, e4]) he hb h01 h02 h1 fun w' hW' hS' => ?_
  have em : (run P n gt unroll hs0 fuel c).1.m = ⟨rows, w'.heap.size⟩ := by rw [← er, hW'.size]
  have hW2 := hW'
  have hS2 := hS'
  rw [em] at hW2 hS2
  obtain ⟨c1, c2, c3, c4⟩ := hk w' hW2 hS2
  refine ⟨c1, c2, trivial, c3, fun w2 us k hok => ?_⟩
  obtain rfl := allOk_is hok
  have h3 := c4 w2 k (hW2.later k) (hS2.trans (Seg.later hW2 k))
  intro a hd hn ha
  have h4 := h3 a hd hn ha
  unfold behind
  cases hx : atDrawn (run P n gt unroll hs0 fuel c).1 with
  | none => rw [hx] at et; cases et
  | some x =>
    obtain ⟨l, k'⟩ := x
    rw [hx] at et
    obtain rfl : k' = T := Option.some.inj et
    exact h4

/-! ### return -/
theorem KX_ret {a : Act} {w : World} : ∀ {k : List K}, Q .ret a w → KX P Q k .ret a w
  | [], h => h
  | .code _ :: k, h => KX_ret (k := k) h
  | .ops _ _ _ _ :: k, h => KX_ret (k := k) h
  | .blk _ :: k, h => KX_ret (k := k) h
  | .rnd _ _ :: k, h => KX_ret (k := k) h
  | .inv _ :: k, h => KX_ret (k := k) h

def resSem (tmps : Array Value) : ResultVar → Sem Value
  | .tmp t => pure (tmps.getD t undef)
  | .cell a t => do loadVar t (← asAddr (tmps.getD a undef))
theorem andThen_ok_of {α β γ : Type} {X : Result α} {Y : α → World → Result β} {f : β → World → Result γ} {v : β} {w' : World} (h : X.andThen Y = .ok v w') : X.andThen (fun a w => (Y a w).andThen f) = f v w' := by
  cases X <;> simp_all
theorem results_1 {fn : Func} {tmps : Array Value} {w : World} {r : ResultVar} {v : Value} (h : fn.results = #[r]) (h1 : (resSem tmps r).run P w = .ok v w) : (results fn tmps).run P w = .ok v w := by
  cases r <;> simp [resSem] at h1 <;> simp [results, h, h1]
theorem results_2 {fn : Func} {tmps : Array Value} {w : World} {r s : ResultVar} {v u : Value} (h : fn.results = #[r, s]) (h1 : (resSem tmps r).run P w = .ok v w) (h2 : (resSem tmps s).run P w = .ok u w) : (results fn tmps).run P w = .ok (.tuple #[v, u]) w := by
  cases r <;> cases s <;> simp [resSem] at h1 h2 <;> simp [results, h, h1, h2] <;> first | exact andThen_ok_of h2 | exact (andThen_ok_of h1).trans (andThen_ok_of h2) | exact andThen_ok_of h1
theorem results_3 {fn : Func} {tmps : Array Value} {w : World} {r s q : ResultVar} {v u x : Value} (h : fn.results = #[r, s, q]) (h1 : (resSem tmps r).run P w = .ok v w) (h2 : (resSem tmps s).run P w = .ok u w) (h3 : (resSem tmps q).run P w = .ok x w) : (results fn tmps).run P w = .ok (.tuple #[v, u, x]) w := by
  cases r <;> cases s <;> cases q <;> simp [resSem] at h1 h2 h3 <;> simp [results, h, h1, h2, h3] <;> first | exact andThen_ok_of h3 | exact andThen_ok_of h2 | exact andThen_ok_of h1 | exact (andThen_ok_of h2).trans (andThen_ok_of h3) | exact (andThen_ok_of h1).trans (andThen_ok_of h3) | exact (andThen_ok_of h1).trans (andThen_ok_of h2) | exact (andThen_ok_of h1).trans ((andThen_ok_of h2).trans (andThen_ok_of h3))

def resV (P : Program) (c : Cfg) : ResultVar → Option (Value × List (Nat × Nat))
  | .tmp t => (c.fr t).map fun v => (v, [])
  | .cell a t => match c.fr a with
    | some (.pointer (some ad)) => match (c.tags a).bind (c.m.rows[·]?) with
      | some r => match aRun P (some r.cs) (loadVar t ad) with
        | some (v, l) => some (v, l.map fun b => (b, r.b))
        | none => none
      | none => none
    | _ => none
theorem resV_ok {c : Cfg} {w : World} {a : Act} {r : ResultVar} {v : Value} {l : List (Nat × Nat)} (hW : Wst W0 c.m w) (ha : ∀ t v, c.fr t = some v → a.tmps.getD t undef = v) (h : resV P c r = some (v, l)) (hl : ∀ p ∈ l, p.1 = p.2) : (resSem a.tmps r).run P w = .ok v w := by
  cases r with
  | tmp t =>
    simp only [resV, Option.map_eq_some_iff] at h
    obtain ⟨u, h1, h2⟩ := h
    cases h2
    rw [← ha t _ h1]; rfl
  | cell p t =>
    simp only [resV] at h
    split at h
    · rename_i ad hp
      split at h
      · rename_i q hq
        split at h
        · rename_i u bl hr
          cases h
          rw [Option.bind_eq_some_iff] at hq
          obtain ⟨j, _, hj⟩ := hq
          obtain ⟨t', ht⟩ := hW.rows q (List.mem_of_getElem? hj)
          have hrun := aRun_some ht hr (fun c hc => hl (c, q.b) (List.mem_map.2 ⟨c, hc, rfl⟩))
          show (do loadVar t (← asAddr (a.tmps.getD p undef)) : Sem Value).run P w = _
          rw [ha p _ hp]
          simpa [asAddr] using hrun
        · cases h
      · cases h
    · cases h

/-- Is the walk at a return? What does it return? -/
def atRet (P : Program) (rs : List ResultVar) (c : Cfg) : Option (Value × List (Nat × Nat)) :=
  match c.todo with
  | .code .ret :: _ => match rs with
    | [r] => resV P c r
    | [r, s] => match resV P c r, resV P c s with
      | some (v, l), some (u, l') => some (.tuple #[v, u], l ++ l')
      | _, _ => none
    | [r, s, q] => match resV P c r, resV P c s, resV P c q with
      | some (v, l), some (u, l'), some (x, l2) => some (.tuple #[v, u, x], l ++ (l' ++ l2))
      | _, _, _ => none
    | _ => none
  | _ => none
theorem ret_ok {fn : Func} {R : Ending → World → Prop} {rs : List ResultVar} {c : Cfg} {w : World} {v : Value} {l : List (Nat × Nat)} (hW : Wst W0 c.m w) (hr : fn.results = rs.toArray) (h : atRet P rs c = some (v, l)) (hl : ∀ p ∈ l, p.1 = p.2) (hR : R (.returned v) w) : Goal P (bodyPost P fn R) n c w := by
  obtain ⟨fr, tags, m, todo⟩ := c
  intro a hd hn ha
  unfold atRet at h
  simp only at h
  split at h
  case h_2 => cases h
  refine wp_ret (KX_ret (bodyPost_ret (v := v) ?_ hd hR))
  split at h
  · exact results_1 hr (resV_ok hW ha h hl)
  · split at h
    · rename_i h1 h2
      cases h
      exact results_2 hr (resV_ok hW ha h1 (fun p hp => hl p (List.mem_append.2 (.inl hp)))) (resV_ok hW ha h2 (fun p hp => hl p (List.mem_append.2 (.inr hp))))
    · cases h
  · split at h
    · rename_i h1 h2 h3
      cases h
      exact results_3 hr (resV_ok hW ha h1 (fun p hp => hl p (List.mem_append.2 (.inl hp)))) (resV_ok hW ha h2 (fun p hp => hl p (List.mem_append.2 (.inr (List.mem_append.2 (.inl hp)))))) (resV_ok hW ha h3 (fun p hp => hl p (List.mem_append.2 (.inr (List.mem_append.2 (.inr hp))))))
    · cases h
  · cases h

/-- Run to the return. -/
theorem go_ret {fn : Func} {R : Ending → World → Prop} (fuel : Nat) (hs : List (Nat × Nat × HintS)) (rs : List ResultVar) (v : Value) (eqs : List (Value × Value)) (sems : List (Sem Value × Value)) {c : Cfg} {w : World} (hW : Wst W0 c.m w) (hr : fn.results = rs.toArray)
    (he : (((atRet P rs (run P n gt unroll hs fuel c).1).map (·.1), (run P n gt unroll hs fuel c).2.eqs, (run P n gt unroll hs fuel c).2.sems), (run P n gt unroll hs fuel c).2.blks.map (·.1), (atRet P rs (run P n gt unroll hs fuel c).1).map (·.2.map (·.1))) =
      ((some v, eqs, sems), (run P n gt unroll hs fuel c).2.blks.map (·.2), (atRet P rs (run P n gt unroll hs fuel c).1).map (·.2.map (·.2))))
    (h1 : Eqs eqs) (h2 : SemObs P c.m w sems)
    (hk : ∀ w', Wst W0 (run P n gt unroll hs fuel c).1.m w' → Seg c.m w (run P n gt unroll hs fuel c).1.m w' → R (.returned v) w') : Goal P (bodyPost P fn R) n c w := by
  simp only [Prod.mk.injEq] at he
  obtain ⟨⟨e1, e2, e3⟩, e4, e5⟩ := he
  refine run_ok fuel hW (Seg.refl _ _) ⟨?_, all_of_maps e4, ?_⟩ fun w' hW' hS' => ?_
  · rw [e2]; exact h1.mem
  · rw [e3]; exact h2.mem
  · cases hx : atRet P rs (run P n gt unroll hs fuel c).1 with
    | none => rw [hx] at e1; cases e1
    | some vl =>
      rw [hx] at e1 e5
      have e1' : vl.1 = v := Option.some.inj e1
      have e5' := Option.some.inj e5
      exact ret_ok hW' hr (v := v) (l := vl.2) (by rw [hx, ← e1']) (all_of_maps e5') (hk w' hW' hS')

/-! ### a loop by a measure -/
/-- The walk has come to the end of a round. -/
def agrees (n : Nat) (c : Cfg) (a : Act) : Prop := a.defers = [] ∧ a.tmps.size = n ∧ ∀ t v, c.fr t = some v → a.tmps.getD t undef = v
theorem inv_ok {c : Cfg} {w : World} {R : Act → World → Prop} {k : List K} (ht : c.todo = .inv R :: k) (h : ∀ a, agrees n c a → R a w) : Goal P Q n c w := by
  obtain ⟨fr, tags, m, todo⟩ := c
  simp only at ht
  subst ht
  intro a hd hn ha
  exact h a ⟨hd, hn, ha⟩

open Classical in
/-- A loop at c: L i w are its heads, J i what the world holds there; each round comes to a smaller i, or leaves the loop. -/
theorem loop_ok {x : Code} {k : List K} (L : Nat → World → Cfg) (J : Nat → World → Prop) (hL : ∀ i w, (L i w).todo = .code (.loop x) :: k)
    (round : ∀ i w, J i w → Goal P Q n { L i w with todo := .code x :: .inv (fun a' w' => ∃ j, j < i ∧ J j w' ∧ agrees n (L j w') a') :: k } w) (i0 : Nat) (w : World) (h0 : J i0 w) : Goal P Q n (L i0 w) w := by
  intro a hd hn ha
  rw [hL i0]
  show (Code.loop x).wp P (KX P Q k) a w
  have hex : ∀ (S : Nat → Prop), (∃ i, S i) → ∃ i, S i ∧ ∀ j, S j → i ≤ j := by
    intro S ⟨i, hi⟩
    induction i using Nat.strongRecOn with
    | _ i ih =>
      by_cases hm : ∃ j, j < i ∧ S j
      · obtain ⟨j, hj, hs⟩ := hm; exact ih j hj hs
      · exact ⟨i, hi, fun j hj => Nat.le_of_not_lt fun hlt => hm ⟨j, hlt, hj⟩⟩
  let S (a : Act) (w : World) (i : Nat) : Prop := J i w ∧ agrees n (L i w) a
  let μ (a : Act) (w : World) : Nat := if h : ∃ i, S a w i then Classical.choose (hex _ h) else 0
  have hμ : ∀ a w, (∃ i, S a w i) → S a w (μ a w) ∧ ∀ j, S a w j → μ a w ≤ j := fun a w h => by
    have := Classical.choose_spec (hex _ h)
    have e : μ a w = Classical.choose (hex _ h) := dif_pos h
    rw [e]; exact this
  refine wp_loop (fun a w => ∃ i, S a w i) μ ⟨i0, h0, hd, hn, ha⟩ fun a w hI => ?_
  obtain ⟨⟨hJ, hag⟩, _⟩ := hμ a w hI
  have := round (μ a w) w hJ a hag.1 hag.2.1 hag.2.2
  refine Code.wp_mono ?_ this
  intro e a' w' hq
  cases e with
  | normal =>
    obtain ⟨j, hj, hJj, hagj⟩ := hq
    have hS : S a' w' j := ⟨hJj, hagj⟩
    exact ⟨⟨j, hS⟩, Nat.lt_of_le_of_lt ((hμ a' w' ⟨j, hS⟩).2 j hS) hj⟩
  | _ => exact hq

def loopOf : List K → Code | .code (.loop x) :: _ => x | _ => .skip
def invOf (c : Cfg) : Act → World → Prop := match c.todo with | .inv R :: _ => R | _ => fun _ _ => False
theorem inv_of {c : Cfg} {w : World} (h : ∀ a, agrees n c a → invOf c a w) : Goal P Q n c w := by
  obtain ⟨fr, tags, m, todo⟩ := c
  intro a hd hn ha
  have := h a ⟨hd, hn, ha⟩
  unfold invOf at this
  simp only at this
  split at this
  · exact this
  · exact this.elim
/-- The slots ts hold vs. -/
def Slots (n : Nat) (ts : List Tmp) (vs : List Value) (a : Act) : Prop := a.defers = [] ∧ a.tmps.size = n ∧ ∀ t v, frOf ts vs t = some v → a.tmps.getD t undef = v
theorem frOf_of {fr : Tmp → Option Value} {a : Act} (ha : ∀ t v, fr t = some v → a.tmps.getD t undef = v) : ∀ {ts : List Tmp} {vs : List Value}, ts.map fr = vs.map some → ∀ t v, frOf ts vs t = some v → a.tmps.getD t undef = v
  | [], _, _, t, v, hf => by simp [frOf] at hf
  | x :: xs, [], h, t, v, hf => by simp at h
  | x :: xs, u :: us, h, t, v, hf => by
    simp only [List.map_cons, List.cons.injEq] at h
    simp only [frOf, Nat.beq_eq] at hf
    split at hf
    · rename_i e; subst e; exact (ha _ _ h.1).trans (Option.some.inj hf)
    · exact frOf_of ha h.2 t v hf
theorem frOf_fr {fr : Tmp → Option Value} : ∀ {ts : List Tmp} {vs : List Value}, ts.map fr = vs.map some → ∀ t v, frOf ts vs t = some v → fr t = some v
  | [], _, _, t, v, hf => by simp [frOf] at hf
  | x :: xs, [], h, t, v, hf => by simp at h
  | x :: xs, u :: us, h, t, v, hf => by
    simp only [List.map_cons, List.cons.injEq] at h
    simp only [frOf, Nat.beq_eq] at hf
    split at hf
    · rename_i e; subst e; rw [h.1]; exact hf
    · exact frOf_fr h.2 t v hf
/-- Run to the end of a round (or to where the walk stops: 'stop'). -/
theorem go_inv (fuel : Nat) (hs : List (Nat × Nat × HintS)) (ts : List Tmp) (vs : List Value) (rows : List RowS) (R : Act → World → Prop) (eqs : List (Value × Value)) (sems : List (Sem Value × Value)) {c : Cfg} {w : World} (hW : Wst W0 c.m w)
    (he : ((ts.map (run P n gt unroll hs fuel c).1.fr, (run P n gt unroll hs fuel c).1.m.rows, invOf (run P n gt unroll hs fuel c).1, (run P n gt unroll hs fuel c).2.eqs, (run P n gt unroll hs fuel c).2.sems), (run P n gt unroll hs fuel c).2.blks.map (·.1)) =
      ((vs.map some, rows, R, eqs, sems), (run P n gt unroll hs fuel c).2.blks.map (·.2)))
    (h1 : Eqs eqs) (h2 : SemObs P c.m w sems)
    (hk : ∀ w' a, Wst W0 ⟨rows, w'.heap.size⟩ w' → Seg c.m w ⟨rows, w'.heap.size⟩ w' → Slots n ts vs a → R a w') : Goal P Q n c w := by
  simp only [Prod.mk.injEq] at he
  obtain ⟨⟨e0, er, ei, e2, e3⟩, e4⟩ := he
  refine run_ok fuel hW (Seg.refl _ _) ⟨?_, all_of_maps e4, ?_⟩ fun w' hW' hS' => inv_of fun a ha => ?_
  · rw [e2]; exact h1.mem
  · rw [e3]; exact h2.mem
  · rw [ei]
    have em : (run P n gt unroll hs fuel c).1.m = ⟨rows, w'.heap.size⟩ := by rw [← er, hW'.size]
    rw [em] at hW' hS'
    exact hk w' a hW' hS' ⟨ha.1, ha.2.1, frOf_of ha.2.2 e0⟩

/-- Run to where the walk stops, keep the slots ts alone: the state is then as it is written. -/
theorem go_stop (fuel : Nat) (hs : List (Nat × Nat × HintS)) (ts : List Tmp) (vs : List Value) (rows : List RowS) (tg : List (Nat × Nat)) (T : List K) (eqs : List (Value × Value)) (sems : List (Sem Value × Value)) {c : Cfg} {w : World} (hW : Wst W0 c.m w)
    (he : ((ts.map (run P n gt unroll hs fuel c).1.fr, (run P n gt unroll hs fuel c).1.m.rows, (run P n gt unroll hs fuel c).1.todo, (run P n gt unroll hs fuel c).2.eqs, (run P n gt unroll hs fuel c).2.sems), (run P n gt unroll hs fuel c).2.blks.map (·.1)) =
      ((vs.map some, rows, T, eqs, sems), (run P n gt unroll hs fuel c).2.blks.map (·.2)))
    (h1 : Eqs eqs) (h2 : SemObs P c.m w sems)
    (hk : ∀ w', Wst W0 ⟨rows, w'.heap.size⟩ w' → Seg c.m w ⟨rows, w'.heap.size⟩ w' → Goal P Q n ⟨frOf ts vs, tagL tg, ⟨rows, w'.heap.size⟩, T⟩ w') : Goal P Q n c w := by
  simp only [Prod.mk.injEq] at he
  obtain ⟨⟨e0, er, et, e2, e3⟩, e4⟩ := he
  refine run_ok fuel hW (Seg.refl _ _) ⟨?_, all_of_maps e4, ?_⟩ fun w' hW' hS' => ?_
  · rw [e2]; exact h1.mem
  · rw [e3]; exact h2.mem
  · have em : (run P n gt unroll hs fuel c).1.m = ⟨rows, w'.heap.size⟩ := by rw [← er, hW'.size]
    rw [em] at hW' hS'
    intro a hd hn ha
    rw [et]
    exact hk w' hW' hS' a hd hn (frOf_of ha e0)

/-- Run to a call and take its contract; behind it the state is as it is written (r: the slot that the call's value goes to). -/
theorem go_call_is (fuel : Nat) (hs : List (Nat × Nat × HintS)) (f : FuncId) (args : List Value) (ts : List Tmp) (vs : List Value) (r : Tmp) (rows : List RowS) (tg : List (Nat × Nat)) (T : List K) (eqs : List (Value × Value)) (sems : List (Sem Value × Value)) {c : Cfg} {w : World}
    (hW : Wst W0 c.m w)
    (he : ((atCall P n (run P n gt unroll hs fuel c).1, ts.map (run P n gt unroll hs fuel c).1.fr, (run P n gt unroll hs fuel c).1.m.rows, callDst (run P n gt unroll hs fuel c).1, (run P n gt unroll hs fuel c).2.eqs, (run P n gt unroll hs fuel c).2.sems), (run P n gt unroll hs fuel c).2.blks.map (·.1)) =
      ((some (f, args), vs.map some, rows, some (r, T), eqs, sems), (run P n gt unroll hs fuel c).2.blks.map (·.2)))
    (h1 : Eqs eqs) (h2 : SemObs P c.m w sems)
    (hk : ∀ w', Wst W0 ⟨rows, w'.heap.size⟩ w' → Seg c.m w ⟨rows, w'.heap.size⟩ w' →
      Calls P f args.toArray w' (fun e w2 => ∃ v, e = .returned v ∧ Goal P Q n ⟨frOf (r :: ts) (v :: vs), tagL tg, ⟨rows, w2.heap.size⟩, T⟩ w2)) : Goal P Q n c w := by
  simp only [Prod.mk.injEq] at he
  obtain ⟨⟨e1, e0, er, ed, e2, e3⟩, e4⟩ := he
  refine run_ok fuel hW (Seg.refl _ _) ⟨?_, all_of_maps e4, ?_⟩ fun w' hW' hS' => call_ok e1 ?_
  · rw [e2]; exact h1.mem
  · rw [e3]; exact h2.mem
  · have em : (run P n gt unroll hs fuel c).1.m = ⟨rows, w'.heap.size⟩ := by rw [← er, hW'.size]
    rw [em] at hW' hS'
    refine (hk w' hW' hS').mono ?_
    rintro e w2 ⟨v, rfl, hg⟩
    refine ⟨v, rfl, ?_⟩
    generalize (run P n gt unroll hs fuel c).1 = c1 at *
    obtain ⟨fr, tags, m, todo⟩ := c1
    unfold callDst at ed
    simp only at ed
    match todo, ed with
    | .ops ops (o :: l) i id :: k, ed =>
      simp only [Option.map_eq_some_iff, Prod.mk.injEq] at ed
      obtain ⟨d, hd, rfl, rfl⟩ := ed
      intro a had hn ha
      refine hg a had hn fun t u hu => ?_
      simp only [frOf] at hu
      simp only [resume, putV, hd] at ha
      split at hu
      · rename_i he'
        have := ha t v (by simp [he'])
        rw [this]; exact Option.some.inj hu
      · rename_i he'
        have : fr t = some u ∨ True := .inr trivial
        have hfr : ∀ t' u', frOf ts vs t' = some u' → fr t' = some u' := frOf_fr e0
        exact ha t u (by simp [he', hfr t u hu])

/-! ### bytes under the walk -/
theorem Rd.blk_lt {w : World} {v : Value} {bs : List UInt8} (r : Rd w v bs) {b : Nat} (hb : v.ownBlock = some b) (hn : 0 < bs.length) : b < w.heap.size := by
  have h1 := r.block_eq (i := 0) hn
  rw [hb] at h1
  have h2 := r.cell 0 hn
  have := World.block_lt_of_cell? w _ h2
  rw [Option.some.inj h1]; exact this
/-- Bytes that were there when the function began read on, whatever the walk does. -/
theorem Rd.walk {w0 w1 w2 : World} {v : Value} {bs : List UInt8} {m : Mem} (r : Rd w0 v bs) (hW : Wst w0 m w1) (hs : ∀ k, Safe m k → w2.heap[k]? = w1.heap[k]?) : Rd w2 v bs := by
  refine ⟨r.shape, fun i hi => ?_⟩
  have r1 := r.keep0 hW.keep
  have hc := r1.cell i hi
  have hb := r.block_eq hi
  have hl := r.blk_lt hb (by omega)
  have hsafe : Safe m (blk v) := ⟨by have := hW.keep.size; rw [← hW.size]; omega, fun q hq ho => by have := hW.own q hq ho; omega⟩
  rw [← hc]
  exact World.cell?_of_block (hs _ hsafe)
/-- The same for bytes that a callee made. -/
theorem Rd.safe {w1 w2 : World} {v : Value} {bs : List UInt8} {m : Mem} (r : Rd w1 v bs) (hv : ∀ b, v.ownBlock = some b → Safe m b) (hs : ∀ k, Safe m k → w2.heap[k]? = w1.heap[k]?) : Rd w2 v bs := by
  refine ⟨r.shape, fun i hi => ?_⟩
  rw [← r.cell i hi]
  exact World.cell?_of_block (hs _ (hv _ (r.block_eq hi)))

/-! ### calls that write into blocks of their own, append -/
/-- What a callee may write into: no known row, nothing older than the function's begin. -/
def Loose (W0 : World) (m : Mem) (S : Nat → Prop) : Prop := ∀ k, S k → W0.heap.size ≤ k ∧ ∀ r ∈ m.rows, r.b ≠ k
theorem Wst.laterS {m : Mem} {w w' : World} {S : Nat → Prop} (h : Wst W0 m w) (k : Keep S w w') (hS : Loose W0 m S) : Wst W0 ⟨m.rows, w'.heap.size⟩ w' :=
  ⟨rfl, fun r hr => by obtain ⟨t, ht⟩ := h.rows r hr; exact ⟨t, (k.block r.b (block_of_row ht) (fun f => (hS r.b f).2 r hr rfl)).trans ht⟩, h.one, h.own,
    h.keep.trans' k (fun i hi f => absurd hi (Nat.not_lt.2 (hS i f).1))⟩
/-- What is safe stays safe; what the callee did not write into is as it was. -/
structure SegS (m : Mem) (w : World) (S : Nat → Prop) (m' : Mem) (w' : World) : Prop where
  safe : ∀ k, Safe m k → Safe m' k
  same : ∀ k, Safe m k → ¬ S k → w'.heap[k]? = w.heap[k]?
theorem SegS.later {m : Mem} {w w' : World} {S : Nat → Prop} (h : Wst W0 m w) (k : Keep S w w') : SegS m w S ⟨m.rows, w'.heap.size⟩ w' := by
  have hs := k.size
  refine ⟨fun i hi => ⟨?_, hi.2⟩, fun i hi hn => k.block i (by rw [h.size]; exact hi.1) hn⟩
  have := hi.1
  rw [← h.size] at this
  show i < w'.heap.size
  omega

/-- Is the walk at an append? Which slices, of which type? -/
def atApp (n : Nat) (c : Cfg) : Option (Value × Value × TypeId × TypeId) :=
  match c.todo with
  | .ops ops (o :: _) _ _ :: _ => match wantV ops c.fr o with
    | some true => if allV c.fr o && dstOk n o then match o.op with
        | .call { callee := .builtin .append, args := ⟨[x, y]⟩, argTypes := ⟨[t, t']⟩ } => some (rho c.fr x, rho c.fr y, t, t')
        | _ => none
      else none
    | _ => none
  | _ => none
theorem app_ok {c : Cfg} {w : World} {u s : Value} {t t' : TypeId} (ha : atApp n c = some (u, s, t, t')) {v : Value} {w' : World} (hr : ∀ ty, (Builtin.append_ #[t, t'] ty #[u, s]).run P w = .ok v w')
    (hg : Goal P Q n (resume c v w'.heap.size) w') : Goal P Q n c w := by
  obtain ⟨fr, tags, m, todo⟩ := c
  unfold atApp at ha
  simp only at ha
  split at ha
  case h_2 => cases ha
  split at ha
  case h_2 => cases ha
  rename_i ops o l i id k _ hw
  split at ha
  case isFalse => cases ha
  rename_i hall
  simp only [Bool.and_eq_true] at hall
  split at ha
  case h_2 => cases ha
  rename_i x y t1 t2 hop
  cases ha
  intro a hd hn ha
  show wpList P ops (KX P Q k) (o :: l) a w
  have hsel : ∀ cs b, o.op ≠ .select cs b := fun cs b e => by rw [hop] at e; cases e
  unfold wpList
  rw [wantV_wanted ha hw, if_pos rfl]
  refine .inl ?_
  unfold Oper.wp
  rw [execOp_congr o hsel (fun x hx => rho_eval ha hall.1 hx)]
  have hx : (execOp (fun x => rho fr x) o).run P w = .ok (.value v) w' := by
    unfold execOp
    simp only [hop, resolve, invoke, builtin, Sem.run_bind, Sem.run_pure, Result.andThen_ok, List.map_toArray, List.map_cons, List.map_nil, hr]
  rw [hx]
  exact hg (a.put o.dst v) (by rw [(put_size a o.dst v).2]; exact hd) (by rw [(put_size a o.dst v).1]; exact hn) (putV_spec ha hn hall.2 (fun u hu => Option.some.inj hu))

theorem goal_at {c1 : Cfg} {ts : List Tmp} {vs : List Value} {r : Tmp} {rows : List RowS} {tg : List (Nat × Nat)} {T : List K} {v : Value} {w : World} (ed : callDst c1 = some (r, T)) (e0 : ts.map c1.fr = vs.map some)
    (hg : Goal P Q n ⟨frOf (r :: ts) (v :: vs), tagL tg, ⟨rows, w.heap.size⟩, T⟩ w) : Goal P Q n (resume c1 v w.heap.size) w := by
  obtain ⟨fr, tags, m, todo⟩ := c1
  unfold callDst at ed
  simp only at ed
  match todo, ed with
  | .ops ops (o :: l) i id :: k, ed =>
    simp only [Option.map_eq_some_iff, Prod.mk.injEq] at ed
    obtain ⟨d, hd, rfl, rfl⟩ := ed
    intro a had hn ha
    refine hg a had hn fun t u hu => ?_
    simp only [frOf] at hu
    simp only [resume, putV, hd] at ha
    split at hu
    · rename_i he'
      have := ha t v (by simp [he'])
      rw [this]; exact Option.some.inj hu
    · rename_i he'
      have hfr : ∀ t' u', frOf ts vs t' = some u' → fr t' = some u' := frOf_fr e0
      exact ha t u (by simp [he', hfr t u hu])

/-- Run to an append. -/
theorem go_app (fuel : Nat) (hs : List (Nat × Nat × HintS)) (u s : Value) (t e : TypeId) (ts : List Tmp) (vs : List Value) (r : Tmp) (rows : List RowS) (tg : List (Nat × Nat)) (T : List K) (eqs : List (Value × Value)) (sems : List (Sem Value × Value)) {c : Cfg} {w : World} (B : BT P t e)
    (hW : Wst W0 c.m w)
    (he : ((atApp n (run P n gt unroll hs fuel c).1, ts.map (run P n gt unroll hs fuel c).1.fr, (run P n gt unroll hs fuel c).1.m.rows, callDst (run P n gt unroll hs fuel c).1, (run P n gt unroll hs fuel c).2.eqs, (run P n gt unroll hs fuel c).2.sems), (run P n gt unroll hs fuel c).2.blks.map (·.1)) =
      ((some (u, s, t, t), vs.map some, rows, some (r, T), eqs, sems), (run P n gt unroll hs fuel c).2.blks.map (·.2)))
    (h1 : Eqs eqs) (h2 : SemObs P c.m w sems)
    (hk : ∀ w', Wst W0 ⟨rows, w'.heap.size⟩ w' → Seg c.m w ⟨rows, w'.heap.size⟩ w' → ∃ bs ys, Own e w' u bs ∧ Rd w' s ys ∧ bs.length + ys.length ≤ 140737488351232 ∧ Loose W0 ⟨rows, w'.heap.size⟩ (fun k => u.ownBlock = some k) ∧
      ∀ v w2, Own e w2 v (bs ++ ys) → Keep (fun k => u.ownBlock = some k) w' w2 → Loose W0 ⟨rows, w2.heap.size⟩ (fun k => v.ownBlock = some k) → (∀ b, v.ownBlock = some b → b < w2.heap.size) → Wst W0 ⟨rows, w2.heap.size⟩ w2 →
        Goal P Q n ⟨frOf (r :: ts) (v :: vs), tagL tg, ⟨rows, w2.heap.size⟩, T⟩ w2) : Goal P Q n c w := by
  simp only [Prod.mk.injEq] at he
  obtain ⟨⟨e1, e0, er, ed, e2, e3⟩, e4⟩ := he
  refine run_ok fuel hW (Seg.refl _ _) ⟨?_, all_of_maps e4, ?_⟩ fun w' hW' hS' => ?_
  · rw [e2]; exact h1.mem
  · rw [e3]; exact h2.mem
  · have em : (run P n gt unroll hs fuel c).1.m = ⟨rows, w'.heap.size⟩ := by rw [← er, hW'.size]
    rw [em] at hW' hS'
    obtain ⟨bs, ys, own, rd, hn, hl, hg⟩ := hk w' hW' hS'
    obtain ⟨v, w2, hr, ho, hkp, hblk, _⟩ := run_append_b (P := P) (w := w') B 0 own rd hn
    have hr' : ∀ ty, (Builtin.append_ #[t, t] ty #[u, s]).run P w' = .ok v w2 := fun ty => hr
    refine app_ok e1 hr' (goal_at ed e0 (hg v w2 ho hkp ?_ ho.lt (hW'.laterS hkp hl)))
    intro k hb
    rcases hblk with h | h
    · rw [h] at hb; exact hl k hb
    · rw [h] at hb
      have hb' : w'.heap.size = k := Option.some.inj hb
      refine ⟨by rw [← hb']; exact hW'.keep.size, fun q hq e => ?_⟩
      obtain ⟨t', ht⟩ := hW'.rows q hq
      have := block_of_row ht
      omega
end
end Go.Proofs.Ytpnocepepihflaa
namespace Go.Proofs.Ytpnocepepihflaa
open Go.RowKit

/-- The object that the loud calls work on: its value, the blocks that it may write into. -/
structure Gh where
  live : Prop
  val : Value
  priv : Nat → Prop
/-- A step that may have written into the object. -/
structure Tr (g : Gh) (w : World) (g' : Gh) (w' : World) : Prop where
  keep : Keep g.priv w w'
  priv : ∀ k, g'.priv k → g.priv k ∨ w.heap.size ≤ k
  live : g.live → g'.live ∧ g'.val = g.val
theorem Tr.quiet {g : Gh} {w w' : World} (k : Keep No w w') : Tr g w g w' := ⟨k.no, fun _ h => .inl h, fun h => ⟨h, rfl⟩⟩
inductive Sm where
  | is (v : Value)
  | such (p : Gh → World → Value → Prop) (m : ∀ g w g' w' x, Tr g w g' w' → p g w x → p g' w' x)
def Sm.ok : Sm → Gh → World → Value → Prop
  | .is v, _, _, x => x = v
  | .such p _, g, w, x => p g w x
theorem Sm.ok_tr {s : Sm} {g g' : Gh} {w w' : World} {x : Value} (h : s.ok g w x) (k : Tr g w g' w') : s.ok g' w' x := by
  cases s with
  | is v => exact h
  | such p m => exact m g w g' w' x k h
/-- The blocks that may have turned since w0; they are there. -/
def Base (S0 : Nat → Prop) (w0 : World) (g : Gh) (w : World) : Prop := ∀ k, g.priv k → k < w.heap.size ∧ (k < w0.heap.size → S0 k)
theorem Base.mono {S0 : Nat → Prop} {w0 : World} {g : Gh} {w w' : World} (h : Base S0 w0 g w) (k : Keep No w w') : Base S0 w0 g w' := fun i hi => ⟨Nat.lt_of_lt_of_le (h i hi).1 k.size, (h i hi).2⟩

/-- What a quiet operation comes to. -/
def OutQ (P : Program) (s : Sm) (g : Gh) (w : World) : Result Next → Prop
  | .ok (.value v) w' => Keep No w w' ∧ s.ok g w' v
  | .ok .skip w' => Keep No w w' ∧ s.ok g w' undef
  | .ok (.enter f args) w' => Keep No w w' ∧ Calls P f args w' (fun e w'' => ∃ v, e = .returned v ∧ Keep No w' w'' ∧ s.ok g w'' v)
  | _ => False
/-- What a loud call comes to. -/
def OutL (P : Program) (S0 : Nat → Prop) (w0 : World) (D : Gh → World → Prop) (s : Sm) (g : Gh) (w : World) : Result Next → Prop
  | .ok (.enter f args) w' => w' = w ∧ Calls P f args w (fun e w'' => ∃ v g', e = .returned v ∧ Tr g w g' w'' ∧ Base S0 w0 g' w'' ∧ D g' w'' ∧ s.ok g' w'' v)
  | .ok (.value v) w' => ∃ g', Tr g w g' w' ∧ Base S0 w0 g' w' ∧ D g' w' ∧ s.ok g' w' v
  | .ok .skip w' => ∃ g', Tr g w g' w' ∧ Base S0 w0 g' w' ∧ D g' w' ∧ s.ok g' w' undef
  | _ => False

section
variable {P : Program} {S0 : Nat → Prop} {w0 : World}
theorem wp_of_outQ {o : Oper} {a : Act} {g : Gh} {w : World} {K : Act → World → Prop} {Q : Exit → Act → World → Prop} {s : Sm} (h : OutQ P s g w ((execOp a.eval o).run P w))
    (hk : ∀ v w', Keep No w w' → s.ok g w' v → K (a.put o.dst v) w') : o.wp P a w K Q := by
  unfold Oper.wp
  generalize (execOp a.eval o).run P w = r at *
  cases r with
  | ok n w' =>
    cases n <;> simp only [OutQ] at h <;> simp only [Oper.upon]
    case value v => exact hk _ _ h.1 h.2
    case skip => exact hk _ _ h.1 h.2
    case enter f args =>
      refine h.2.mono ?_
      rintro e w'' ⟨v, rfl, h2, h3⟩
      exact hk _ _ (h.1.trans h2) h3
  | halt x w' => simp only [OutQ] at h
theorem wp_of_outL {o : Oper} {a : Act} {g : Gh} {w : World} {D : Gh → World → Prop} {K : Act → World → Prop} {Q : Exit → Act → World → Prop} {s : Sm} (h : OutL P S0 w0 D s g w ((execOp a.eval o).run P w))
    (hk : ∀ v g' w', Tr g w g' w' → Base S0 w0 g' w' → D g' w' → s.ok g' w' v → K (a.put o.dst v) w') : o.wp P a w K Q := by
  unfold Oper.wp
  generalize (execOp a.eval o).run P w = r at *
  cases r with
  | ok n w' =>
    cases n <;> simp only [OutL] at h
    case value v =>
      obtain ⟨g', h1, h2, h3, h4⟩ := h
      simp only [Oper.upon]
      exact hk _ _ _ h1 h2 h3 h4
    case skip =>
      obtain ⟨g', h1, h2, h3, h4⟩ := h
      simp only [Oper.upon]
      exact hk _ _ _ h1 h2 h3 h4
    case enter f args =>
      obtain ⟨rfl, h⟩ := h
      simp only [Oper.upon]
      refine h.mono ?_
      rintro e w'' ⟨v, g', rfl, h1, h2, h3, h4⟩
      exact hk _ _ _ h1 h2 h3 h4
  | halt x w' => simp only [OutL] at h

def putM (f : Tmp → Sm) (d : Option Tmp) (s : Sm) : Tmp → Sm := match d with | some d => fun t => if Nat.beq t d = true then s else f t | none => f
theorem putM_same (f : Tmp → Sm) (t : Tmp) (s : Sm) : putM f (some t) s t = s := by simp [putM]
theorem putM_other (f : Tmp → Sm) {d : Option Tmp} {t : Tmp} (h : d ≠ some t) (s : Sm) : putM f d s t = f t := by
  cases d with
  | none => rfl
  | some d =>
    have : ¬ t = d := fun e => h (by rw [e])
    simp [putM, Nat.beq_eq, this]
def frM (ops : Array Oper) (sp : Nat → Sm) (f0 : Tmp → Sm) : Nat → Tmp → Sm
  | 0 => f0
  | i + 1 => putM (frM ops sp f0 i) ((ops[i]?).bind (·.dst)) (sp i)
theorem frM_old {ops : Array Oper} {sp : Nat → Sm} {f0 : Tmp → Sm} {t : Tmp} : ∀ (i : Nat), (∀ (j : Nat) (o : Oper), j < i → ops[j]? = some o → o.dst ≠ some t) → frM ops sp f0 i t = f0 t
  | 0, _ => rfl
  | i + 1, h => by
    have ih := frM_old (sp := sp) (f0 := f0) i (fun j o hj => h j o (by omega))
    rw [← ih]
    simp only [frM]
    cases ho : ops[i]? with
    | none => rfl
    | some o => exact putM_other _ (h i o (by omega) ho) _
theorem frM_new {ops : Array Oper} {sp : Nat → Sm} {f0 : Tmp → Sm} {t : Tmp} {j : Nat} {o : Oper} (hj : ops[j]? = some o) (hd : o.dst = some t) :
    ∀ (i : Nat), j < i → (∀ (k : Nat) (o' : Oper), k ≠ j → ops[k]? = some o' → o'.dst ≠ some t) → frM ops sp f0 i t = sp j
  | 0, h, _ => by omega
  | i + 1, h, hk => by
    by_cases hji : j = i
    · subst hji
      simp only [frM, hj, Option.bind_some, hd]
      exact putM_same _ _ _
    · have ih := frM_new (sp := sp) (f0 := f0) hj hd i (by omega) hk
      rw [← ih]
      simp only [frM]
      cases ho : ops[i]? with
      | none => rfl
      | some o' => exact putM_other _ (hk i o' (fun e => hji e.symm) ho) _

def wantM (ops : Array Oper) (fr : Tmp → Sm) (o : Oper) : Option Bool :=
  match o.guard with
  | none => some true
  | some (j, b) => match (ops[j]?).bind (·.dst) with
    | some d => match fr d with
      | .is (.bool g) => some (g == b)
      | .is _ => some false
      | _ => none
    | none => none

/-- What is asked of operation i; r: how many loud ones stand ahead of it. -/
def ObM (P : Program) (S0 : Nat → Prop) (w0 : World) (D : Nat → Gh → World → Prop) (ops : Array Oper) (fr : Tmp → Sm) (s : Sm) (loud : Bool) (lim : Nat → Bool) (r : Nat) (o : Oper) : Prop :=
  match wantM ops fr o with
  | some true => ∀ (a : Act) (g : Gh) (w : World), Keep S0 w0 w → Base S0 w0 g w → (∀ t ∈ tmpsOf o, (fr t).ok g w (a.tmps.getD t undef)) →
      if loud then D r g w → OutL P S0 w0 (D (r + 1)) s g w ((execOp a.eval o).run P w) else (∀ K, lim K = true → ∃ k, k ≤ K ∧ D k g w) → OutQ P s g w ((execOp a.eval o).run P w)
  | some false => s = .is undef ∧ loud = false
  | none => False

def rank (n : Nat) (loud : Nat → Bool) (i : Nat) : Nat := ((List.range n).filter fun j => loud j && decide (j < i)).length
def cnt (n : Nat) (loud : Nat → Bool) (listed : Array Bool) : Nat := ((List.range n).filter fun j => loud j && listed.getD j false).length
/-- Each loud one waits for all loud ones ahead of it. -/
def chain (ops : Array Oper) (loud : Nat → Bool) : Bool :=
  (List.range ops.size).all fun j => !loud j || (List.range j).all fun i => !loud i || (direct ops j i || (List.range j).any fun k => Nat.blt i k && loud k)

/-- Does the loud operation of rank K wait for operation i? -/
def limB (ops : Array Oper) (loud : Nat → Bool) (K i : Nat) : Bool :=
  (List.range ops.size).any fun f => loud f && (Nat.beq (rank ops.size loud f) K && (direct ops f i || (List.range ops.size).any fun k => direct ops f k && direct ops k i))
structure InvM (S0 : Nat → Prop) (w0 : World) (D : Nat → Gh → World → Prop) (ops : Array Oper) (sp : Nat → Sm) (loud : Nat → Bool) (a0 : Act) (listed : Array Bool) (a : Act) (g : Gh) (w : World) : Prop where
  keep : Keep S0 w0 w
  base : Base S0 w0 g w
  d : D (cnt ops.size loud listed) g w
  defers : a.defers = a0.defers
  size : a.tmps.size = a0.tmps.size
  ls : listed.size = ops.size
  down : ∀ (i : Nat) o, ops[i]? = some o → listed.getD i false = true → ∀ e ∈ o.after, Region.binds .any e = true → listed.getD e.on false = true
  done : ∀ (i : Nat) (o : Oper) d, ops[i]? = some o → o.dst = some d → listed.getD i false = true → (sp i).ok g w (a.tmps.getD d undef)
  old : ∀ t, (∀ (i : Nat) (o : Oper), ops[i]? = some o → o.dst = some t → listed.getD i false = false) → a.tmps.getD t undef = a0.tmps.getD t undef

theorem chain_spec {ops : Array Oper} {loud : Nat → Bool} (h : chain ops loud = true) {listed : Array Bool} (down : ∀ (i : Nat) o, ops[i]? = some o → listed.getD i false = true → ∀ e ∈ o.after, Region.binds .any e = true → listed.getD e.on false = true) :
    ∀ (j : Nat) (o : Oper), ops[j]? = some o → loud j = true → (∀ e ∈ o.after, Region.binds .any e = true → listed.getD e.on false = true) → ∀ i, i < j → loud i = true → listed.getD i false = true := by
  intro j o hj hlj hall i hij hli
  -- by induction on j - i: the nearest loud one ahead of j is direct
  have key : ∀ d i, j - i = d → i < j → loud i = true → listed.getD i false = true := by
    intro d
    induction d using Nat.strongRecOn with
    | _ d ih =>
      intro i hd hij hli
      have hjl : j < ops.size := by
        rcases Nat.lt_or_ge j ops.size with h | h
        · exact h
        · rw [Array.getElem?_eq_none h] at hj; cases hj
      have h1 := List.all_eq_true.1 h j (List.mem_range.2 hjl)
      simp only [hlj, Bool.not_true, Bool.false_or] at h1
      have h2 := List.all_eq_true.1 h1 i (List.mem_range.2 hij)
      simp only [hli, Bool.not_true, Bool.false_or, Bool.or_eq_true, List.any_eq_true, List.mem_range, Bool.and_eq_true, Nat.blt_eq] at h2
      rcases h2 with h2 | ⟨k, hk, hik, hlk⟩
      · exact direct_listed hj h2 hall
      · -- k is loud between i and j: listed; and i is ahead of k
        have hkl := ih (j - k) (by omega) k rfl hk hlk
        have hks : k < ops.size := by omega
        have hko : ops[k]? = some ops[k] := by simp [hks]
        -- the same for k in place of j
        have key2 : ∀ d2 k, k - i = d2 → i < k → k < j → loud k = true → listed.getD k false = true → listed.getD i false = true := by
          intro d2
          induction d2 using Nat.strongRecOn with
          | _ d2 ih2 =>
            intro k hd2 hik hkj hlk hkl
            have hks : k < ops.size := by omega
            have hko : ops[k]? = some ops[k] := by simp [hks]
            have g1 := List.all_eq_true.1 h k (List.mem_range.2 hks)
            simp only [hlk, Bool.not_true, Bool.false_or] at g1
            have g2 := List.all_eq_true.1 g1 i (List.mem_range.2 hik)
            simp only [hli, Bool.not_true, Bool.false_or, Bool.or_eq_true, List.any_eq_true, List.mem_range, Bool.and_eq_true, Nat.blt_eq] at g2
            rcases g2 with g2 | ⟨k2, hk2, hik2, hlk2⟩
            · exact direct_listed hko g2 (down k _ hko hkl)
            · exact ih2 (k2 - i) (by omega) k2 rfl hik2 (by omega) hlk2 (ih (j - k2) (by omega) k2 rfl (by omega) hlk2)
        exact key2 (k - i) k rfl hik hk hlk hkl
  exact key _ i rfl hij hli

theorem cnt_rank {ops : Array Oper} {loud : Nat → Bool} {listed : Array Bool} (hc : chain ops loud = true) (down : ∀ (i : Nat) o, ops[i]? = some o → listed.getD i false = true → ∀ e ∈ o.after, Region.binds .any e = true → listed.getD e.on false = true)
    {i : Nat} {o : Oper} (hi : ops[i]? = some o) (hl : loud i = true) (hun : listed.getD i false = false) (hall : ∀ e ∈ o.after, Region.binds .any e = true → listed.getD e.on false = true) : cnt ops.size loud listed = rank ops.size loud i := by
  unfold cnt rank
  congr 1
  apply List.filter_congr
  intro j hj
  have hjs := List.mem_range.1 hj
  cases hlj : loud j with
  | false => rfl
  | true =>
    simp only [Bool.true_and]
    by_cases hji : j < i
    · rw [chain_spec hc down i o hi hl hall j hji hlj, decide_eq_true hji]
    · rw [decide_eq_false hji]
      by_cases e : j = i
      · subst e; exact hun
      · cases hx : listed.getD j false with
        | false => rfl
        | true =>
          have hjo : ops[j]? = some ops[j] := by simp [hjs]
          have := chain_spec hc down j _ hjo hlj (down j _ hjo hx) i (by omega) hl
          rw [hun] at this; cases this
theorem cnt_quiet {n : Nat} {loud : Nat → Bool} {listed : Array Bool} {i : Nat} (hl : loud i = false) : cnt n loud (listed.setIfInBounds i true) = cnt n loud listed := by
  unfold cnt
  congr 1
  apply List.filter_congr
  intro j _
  by_cases e : j = i
  · subst e; simp [hl]
  · have : ¬ i = j := fun h => e h.symm
    simp [Array.getElem?_setIfInBounds_ne this]
theorem cnt_loud {n : Nat} {loud : Nat → Bool} {listed : Array Bool} {i : Nat} (hs : listed.size = n) (hi : i < n) (hl : loud i = true) (hun : listed.getD i false = false) : cnt n loud (listed.setIfInBounds i true) = cnt n loud listed + 1 := by
  unfold cnt
  have : ∀ l : List Nat, l.Nodup → i ∈ l → (l.filter fun j => loud j && (listed.setIfInBounds i true).getD j false).length = (l.filter fun j => loud j && listed.getD j false).length + 1 := by
    intro l
    induction l with
    | nil => intro _ h; cases h
    | cons x l ih =>
      intro hnd hmem
      rw [List.nodup_cons] at hnd
      have heq : ∀ l : List Nat, i ∉ l → (l.filter fun j => loud j && (listed.setIfInBounds i true).getD j false) = (l.filter fun j => loud j && listed.getD j false) := by
        intro l hni
        apply List.filter_congr
        intro j hj
        have : ¬ i = j := fun e => hni (e ▸ hj)
        simp [Array.getElem?_setIfInBounds_ne this]
      rw [List.filter_cons, List.filter_cons]
      rcases List.mem_cons.1 hmem with rfl | hm
      · rw [heq l hnd.1, hl, hun, getD_set_self (by omega)]
        simp
      · have hne : ¬ i = x := fun e => hnd.1 (e ▸ hm)
        have hx : (listed.setIfInBounds i true).getD x false = listed.getD x false := by simp [Array.getElem?_setIfInBounds_ne hne]
        rw [hx]
        have := ih hnd.2 hm
        split
        · rw [List.length_cons, List.length_cons, this]
        · exact this
  exact this _ List.nodup_range (List.mem_range.2 hi)

theorem lim_spec {ops : Array Oper} {loud : Nat → Bool} (hch : chain ops loud = true) {listed : Array Bool} (hls : listed.size = ops.size) (down : ∀ (i : Nat) o, ops[i]? = some o → listed.getD i false = true → ∀ e ∈ o.after, Region.binds .any e = true → listed.getD e.on false = true)
    {i K : Nat} (he : limB ops loud K i = true) (hun : listed.getD i false = false) : cnt ops.size loud listed ≤ K := by
  have hops : ∀ j, listed.getD j false = true → ∃ o, ops[j]? = some o := fun j hj => by
    rcases Nat.lt_or_ge j ops.size with h | h
    · exact ⟨ops[j], by simp [h]⟩
    · rw [Array.getD_eq_getD_getElem?, Array.getElem?_eq_none (by omega)] at hj; cases hj
  obtain ⟨f, hf, h1⟩ := List.any_eq_true.1 he
  simp only [Bool.and_eq_true, Nat.beq_eq, Bool.or_eq_true, List.any_eq_true, List.mem_range] at h1
  obtain ⟨hlf, hr, hdep⟩ := h1
  have hnf : ¬ listed.getD f false = true := fun hl => by
    obtain ⟨of, hof⟩ := hops f hl
    have : listed.getD i false = true := by
      rcases hdep with h2 | ⟨k, _, h2, h3⟩
      · exact direct_listed hof h2 (down f of hof hl)
      · have hk := direct_listed hof h2 (down f of hof hl)
        obtain ⟨ok, hok⟩ := hops k hk
        exact direct_listed hok h3 (down k ok hok hk)
    rw [hun] at this; cases this
  rw [← hr]
  unfold cnt rank
  refine List.Sublist.length_le ?_
  have hsub : ∀ l : List Nat, ((l.filter fun j => loud j && listed.getD j false)).Sublist (l.filter fun j => loud j && decide (j < f)) := fun l => by
    induction l with
    | nil => exact List.Sublist.slnil
    | cons x l ih =>
      rw [List.filter_cons, List.filter_cons]
      by_cases hx : (loud x && listed.getD x false) = true
      · have hlx : loud x = true := by simp only [Bool.and_eq_true] at hx; exact hx.1
        have hdx : listed.getD x false = true := by simp only [Bool.and_eq_true] at hx; exact hx.2
        have hxf : x < f := by
          rcases Nat.lt_trichotomy x f with h | h | h
          · exact h
          · exact absurd (h ▸ hdx) hnf
          · obtain ⟨ox, hox⟩ := hops x hdx
            exact absurd (chain_spec hch down x ox hox hlx (down x ox hox hdx) f h hlf) hnf
        rw [if_pos hx, if_pos (by rw [hlx, decide_eq_true hxf]; rfl)]
        exact ih.cons_cons x
      · rw [if_neg hx]
        split
        · exact ih.cons x
        · exact ih
  exact hsub _

/-- What op i reads, when it may come up. -/
theorem InvM.reads {D : Nat → Gh → World → Prop} {loud : Nat → Bool} {f0 : Tmp → Sm} {ops : Array Oper} {sp : Nat → Sm} {a0 a : Act} {listed : Array Bool} {g : Gh} {w : World} (I : InvM S0 w0 D ops sp loud a0 listed a g w) (C : Chk ops a0.tmps.size) (hf : ∀ t g w, (f0 t).ok g w (a0.tmps.getD t undef)) {i : Nat} {o : Oper} (hi : ops[i]? = some o)
    (hun : listed.getD i false = false) (hall : ∀ e ∈ o.after, Region.binds .any e = true → listed.getD e.on false = true) {t : Tmp} (ht : t ∈ tmpsOf o ++ guardTmp ops o) :
    ((frM ops sp f0 i) t).ok g w (a.tmps.getD t undef) := by
  by_cases hw : ∃ (j : Nat) (o' : Oper), ops[j]? = some o' ∧ o'.dst = some t ∧ j < i
  · obtain ⟨j, o', hj, hd, hlt⟩ := hw
    rw [frM_new hj hd i hlt (fun k o'' hk ho'' hd'' => hk (C.one k j o'' o' t ho'' hj hd hd''))]
    refine I.done j o' t hj hd ?_
    rcases C.read i j o o' t hi hj hd ht (by omega) with h1 | h1
    · exact direct_listed hi h1.2 hall
    · omega
  · rw [frM_old i (fun j o' hlt hj hd => hw ⟨j, o', hj, hd, hlt⟩)]
    rw [show a.tmps.getD t undef = a0.tmps.getD t undef from ?_]
    · exact hf t g w
    refine I.old t fun j o' hj hd => ?_
    by_cases hji : j = i
    · rw [hji]; exact hun
    · rcases C.read i j o o' t hi hj hd ht (fun e => hji e.symm) with h1 | h1
      · exact absurd ⟨j, o', hj, hd, h1.1⟩ hw
      · cases hl : listed.getD j false with
        | false => rfl
        | true =>
          have := direct_listed hj h1.2 (I.down j o' hj hl)
          rw [hun] at this; cases this

/-- Behind op i. -/
theorem InvM.step {D : Nat → Gh → World → Prop} {loud : Nat → Bool} {ops : Array Oper} {sp : Nat → Sm} {a0 a : Act} {listed : Array Bool} {g g' : Gh} {w w' : World} (I : InvM S0 w0 D ops sp loud a0 listed a g w) (C : Chk ops a0.tmps.size) {i : Nat} {o : Oper} (hi : ops[i]? = some o)
    (hall : ∀ e ∈ o.after, Region.binds .any e = true → listed.getD e.on false = true) (k : Tr g w g' w') (hb : Base S0 w0 g' w') (hd : D (cnt ops.size loud (listed.setIfInBounds i true)) g' w') {v : Value} (hv : (sp i).ok g' w' v) :
    InvM S0 w0 D ops sp loud a0 (listed.setIfInBounds i true) (a.put o.dst v) g' w' := by
  have hil : i < listed.size := by
    rw [I.ls]
    rcases Nat.lt_or_ge i ops.size with h | h
    · exact h
    · rw [Array.getElem?_eq_none h] at hi; cases hi
  have hput : ∀ t, o.dst ≠ some t → (a.put o.dst v).tmps.getD t undef = a.tmps.getD t undef := fun t ht => by
    unfold Act.put
    split
    · rename_i d hd
      have : d ≠ t := fun e => ht (by rw [hd, e])
      simp [Array.getElem?_setIfInBounds_ne this]
    · rfl
  refine ⟨I.keep.trans' k.keep (fun i hi hp => (I.base i hp).2 hi), hb, hd, ?_, ?_, by simp [I.ls], ?_, ?_, ?_⟩
  · unfold Act.put; split <;> exact I.defers
  · unfold Act.put; split <;> simp [I.size]
  · intro j oj hj hl e he hb
    by_cases hji : j = i
    · subst hji
      rw [hi] at hj; cases hj
      exact getD_set_of (hall e he hb)
    · refine getD_set_of (I.down j oj hj ?_ e he hb)
      have hij : ¬ i = j := fun e => hji e.symm
      simpa [Array.getElem?_setIfInBounds_ne hij] using hl
  · intro j oj d hj hd hl
    by_cases hji : j = i
    · subst hji
      rw [hi] at hj; cases hj
      have hdl : d < a.tmps.size := by rw [I.size]; exact C.inb j o d hi hd
      have : (a.put o.dst v).tmps.getD d undef = v := by simp [Act.put, hd, hdl]
      rw [this]; exact hv
    · have hne : o.dst ≠ some d := fun e => hji (C.one j i oj o d hj hi e hd)
      rw [hput d hne]
      have hij : ¬ i = j := fun e => hji e.symm
      exact Sm.ok_tr (I.done j oj d hj hd (by simpa [Array.getElem?_setIfInBounds_ne hij] using hl)) k
  · intro t ht
    have hne : o.dst ≠ some t := fun e => by
      have := ht i o hi e
      rw [getD_set_self hil] at this; cases this
    rw [hput t hne]
    refine I.old t fun j oj hj hd => ?_
    cases hl : listed.getD j false with
    | false => rfl
    | true =>
      have := ht j oj hj hd
      rw [getD_set_of hl] at this; cases this

theorem wantedM_of {ops : Array Oper} {fr : Tmp → Sm} {a : Act} {g0 : Gh} {w : World} {o : Oper} {n : Nat} {b : Bool} (hw : wantM ops fr o = some b) (hn : a.tmps.size = n) (hin : ∀ (i : Nat) (o : Oper) d, ops[i]? = some o → o.dst = some d → d < n)
    (hr : ∀ t ∈ guardTmp ops o, (fr t).ok g0 w (a.tmps.getD t undef)) : Region.wanted o (yielded ops a.tmps) = b := by
  unfold wantM at hw
  unfold Region.wanted
  split at hw
  · rename_i hg
    simp only [hg]
    exact Option.some.inj hw
  · rename_i j g hg
    simp only [hg]
    split at hw
    · rename_i d hd
      have hmem : d ∈ guardTmp ops o := by simp [guardTmp, hg, hd]
      have hok := hr d hmem
      rw [Option.bind_eq_some_iff] at hd
      obtain ⟨oj, hoj, hdj⟩ := hd
      have hdl : d < a.tmps.size := by rw [hn]; exact hin j oj d hoj hdj
      have hget : a.tmps[d]? = some (a.tmps.getD d undef) := by simp [hdl]
      have hy : yielded ops a.tmps j = match a.tmps.getD d undef with | .bool b => some b | _ => none := by
        unfold yielded
        simp only [hoj, Option.bind_some, hdj, hget]
        cases a.tmps.getD d undef <;> rfl
      rw [hy]
      split at hw
      · rename_i x hx
        rw [hx] at hok
        simp only [Sm.ok] at hok
        rw [hok]
        have := Option.some.inj hw
        subst this
        cases x <;> cases g <;> rfl
      · rename_i v hx hnb
        rw [hnb] at hok
        simp only [Sm.ok] at hok
        rw [hok]
        have := Option.some.inj hw
        subst this
        cases v <;> first | rfl | (rename_i bb; exact absurd rfl (hx bb))
      · cases hw
    · cases hw

theorem wpAny_relM {D : Nat → Gh → World → Prop} {loud : Nat → Bool} {f0 : Tmp → Sm} {ops : Array Oper} {Q : Exit → Act → World → Prop} {a0 : Act} {sp : Nat → Sm} (hch : chain ops loud = true) (hD : ∀ k g w w', Keep No w w' → D k g w → D k g w') (C : Chk ops a0.tmps.size) (hf0 : ∀ t g w, (f0 t).ok g w (a0.tmps.getD t undef))
    (hob : ∀ (i : Nat) o, ops[i]? = some o → ObM P S0 w0 D ops (frM ops sp f0 i) (sp i) (loud i) (fun K => limB ops loud K i) (rank ops.size loud i) o)
    (hQ : ∀ a g w, Keep S0 w0 w → Base S0 w0 g w → D (rank ops.size loud ops.size) g w → a.defers = a0.defers → a.tmps.size = a0.tmps.size → (∀ t, (frM ops sp f0 ops.size t).ok g w (a.tmps.getD t undef)) → Q .normal a w) :
    ∀ (fuel : Nat) (listed : Array Bool) (a : Act) (g : Gh) (w : World), InvM S0 w0 D ops sp loud a0 listed a g w → (openOf ops.size listed).length ≤ fuel → wpAny P .any ops Q fuel listed a w := by
  have fin : ∀ (listed : Array Bool) (a : Act) (g : Gh) (w : World), InvM S0 w0 D ops sp loud a0 listed a g w → Region.ready .any ops listed = [] → Q .normal a w := by
    intro listed a g w I hr
    have hall := ready_of_open C I.ls hr
    have hcnt : cnt ops.size loud listed = rank ops.size loud ops.size := by
      unfold cnt rank
      congr 1
      apply List.filter_congr
      intro j hj
      have hjs := List.mem_range.1 hj
      rw [hall j hjs, decide_eq_true hjs]
    refine hQ a g w I.keep I.base (hcnt ▸ I.d) I.defers I.size fun t => ?_
    by_cases hw : ∃ (j : Nat) (o' : Oper), ops[j]? = some o' ∧ o'.dst = some t
    · obtain ⟨j, o', hj, hd⟩ := hw
      have hjl : j < ops.size := by
        rcases Nat.lt_or_ge j ops.size with h | h
        · exact h
        · rw [Array.getElem?_eq_none h] at hj; cases hj
      rw [frM_new hj hd ops.size hjl (fun k o'' hk ho'' hd'' => hk (C.one k j o'' o' t ho'' hj hd hd''))]
      exact I.done j o' t hj hd (hall j hjl)
    · rw [frM_old ops.size (fun j o' _ hj hd => hw ⟨j, o', hj, hd⟩)]
      rw [I.old t fun j o' hj hd => absurd ⟨j, o', hj, hd⟩ hw]
      exact hf0 t g w
  intro fuel
  induction fuel with
  | zero =>
    intro listed a g w I hf
    have hnil : openOf ops.size listed = [] := List.length_eq_zero_iff.1 (by omega)
    have hr : Region.ready .any ops listed = [] := by
      apply List.eq_nil_iff_forall_not_mem.2
      intro i hi
      have h1 := (mem_ready.1 hi).1
      obtain ⟨_, o, ho, _⟩ := mem_ready.1 hi
      have : i ∈ openOf ops.size listed := by
        have : i < ops.size := by
          rcases Nat.lt_or_ge i ops.size with h | h
          · exact h
          · rw [Array.getElem?_eq_none h] at ho; cases ho
        simp only [openOf, List.mem_filter, List.mem_range, Bool.not_eq_true']
        exact ⟨this, h1⟩
      rw [hnil] at this; cases this
    exact ⟨hr, fin listed a g w I hr⟩
  | succ fuel ih =>
    intro listed a g w I hf
    refine ⟨fin listed a g w I, fun i hi => ?_⟩
    obtain ⟨hun, o, ho, hall⟩ := mem_ready.1 hi
    have hil : i < ops.size := by
      rcases Nat.lt_or_ge i ops.size with h | h
      · exact h
      · rw [Array.getElem?_eq_none h] at ho; cases ho
    have hun' : listed.getD i false = false := by rw [← getD_tf (by rw [I.ls]; exact hil)]; exact hun
    have hmore := openOf_set I.ls hil hun
    have hreads := fun t ht => I.reads C hf0 ho hun' hall (t := t) ht
    have hO := hob i o ho
    unfold ObM at hO
    unfold wpOp
    simp only [ho]
    cases hw : wantM ops (frM ops sp f0 i) o with
    | none => rw [hw] at hO; exact hO.elim
    | some b =>
      have hwant := wantedM_of (g0 := g) (w := w) hw I.size C.inb (fun t ht => hreads t (List.mem_append.2 (.inr ht)))
      rw [hwant]
      cases b with
      | true =>
        rw [hw] at hO
        simp only [if_true]
        have hO' := hO a g w I.keep I.base (fun t ht => hreads t (List.mem_append.2 (.inl ht)))
        cases hl : loud i with
        | true =>
          rw [hl] at hO'
          simp only [if_true] at hO'
          have hcr := cnt_rank hch I.down ho hl hun' hall
          refine .inl (wp_of_outL (hO' (hcr ▸ I.d)) fun v g' w' htr hb hd hv => ?_)
          exact ih _ _ g' _ (I.step C ho hall htr hb (by rw [cnt_loud I.ls hil hl hun', hcr]; exact hd) hv) (by omega)
        | false =>
          rw [hl] at hO'
          simp only [Bool.false_eq_true, if_false] at hO'
          have hE : ∀ K, limB ops loud K i = true → ∃ k, k ≤ K ∧ D k g w := fun K he => ⟨_, lim_spec hch I.ls I.down he hun', I.d⟩
          refine .inl (wp_of_outQ (hO' hE) fun v w' k hv => ?_)
          exact ih _ _ g _ (I.step C ho hall (Tr.quiet k) (I.base.mono k) (by rw [cnt_quiet hl]; exact hD _ _ _ _ k I.d) hv) (by omega)
      | false =>
        rw [hw] at hO
        simp only [Bool.false_eq_true, if_false]
        exact ih _ _ g _ (I.step C ho hall (Tr.quiet (Keep.refl _ _)) I.base (by rw [cnt_quiet hO.2]; exact I.d) (v := undef) (by rw [hO.1]; rfl)) (by omega)

/-- A region that draws its order, with loud calls. -/
theorem region_relM {D : Nat → Gh → World → Prop} {loud : Nat → Bool} {f0 : Tmp → Sm} {id : Nat} {ops : Array Oper} {Q : Exit → Act → World → Prop} {a0 : Act} {sp : Nat → Sm} {g0 : Gh} (hm : P.follows .mixedOrders = true) (hc : chk ops a0.tmps.size = true) (hch : chain ops loud = true)
    (hD : ∀ k g w w', Keep No w w' → D k g w → D k g w') (hf : ∀ t g w, (f0 t).ok g w (a0.tmps.getD t undef)) (hb0 : Base S0 w0 g0 w0) (hd0 : D 0 g0 w0)
    (hob : ∀ (i : Nat) o, ops[i]? = some o → ObM P S0 w0 D ops (frM ops sp f0 i) (sp i) (loud i) (fun K => limB ops loud K i) (rank ops.size loud i) o)
    (hQ : ∀ a g w, Keep S0 w0 w → Base S0 w0 g w → D (rank ops.size loud ops.size) g w → a.defers = a0.defers → a.tmps.size = a0.tmps.size → (∀ t, (frM ops sp f0 ops.size t).ok g w (a.tmps.getD t undef)) → Q .normal a w) :
    (Code.region id ops true).wp P Q a0 w0 := by
  have hz : cnt ops.size loud (Array.replicate ops.size false) = 0 := by
    unfold cnt
    rw [List.length_eq_zero_iff, List.filter_eq_nil_iff]
    intro j hj h
    simp [Array.getElem?_replicate] at h
    obtain ⟨_, h⟩ := h
    split at h <;> simp at h
  refine wp_region_any hm (wpAny_relM hch hD (chk_spec hc) hf hob hQ _ _ _ g0 _ ?_ ?_)
  · refine ⟨(Keep.refl _ _).drew, hb0.mono (Keep.refl _ _).drew, by rw [hz]; exact hD _ _ _ _ (Keep.refl _ _).drew hd0, rfl, rfl, by simp, ?_, ?_, fun _ _ => rfl⟩
    · intro i o _ h
      simp [Array.getElem?_replicate] at h
      split at h <;> simp at h
    · intro i o d _ _ h
      simp [Array.getElem?_replicate] at h
      split at h <;> simp at h
  · unfold openOf
    exact Nat.le_trans (List.length_filter_le _ _) (by simp)
end
end Go.Proofs.Ytpnocepepihflaa
namespace Go.Proofs.Ytpnocepepihflaa
open Go.RowKit

section
variable {P : Program} {S0 : Nat → Prop} {w0 : World}
def toSv : Sm → Sv | .is v => .is v | .such _ _ => .such (fun _ _ => True) (fun _ _ _ _ _ => trivial)
theorem toSv_ok {s : Sm} {g : Gh} {w : World} {x : Value} (h : s.ok g w x) : (toSv s).ok w x := by
  cases s with
  | is v => exact h
  | such p m => trivial
def opSm (fr : Tmp → Sm) : Operand → Sm
  | .tmp t => fr t
  | .const v => .is v
  | .global g => .is (.pointer (some ⟨g, 0, none⟩))
  | .func f => .is (.func (.func f) #[] #[])
theorem opSm_eval {fr : Tmp → Sm} {a : Act} {g : Gh} {w : World} {o : Oper} (h : ∀ t ∈ tmpsOf o, (fr t).ok g w (a.tmps.getD t undef)) {x : Operand} (hx : x ∈ o.op.operands) : (opSm fr x).ok g w (a.eval x) := by
  cases x with
  | tmp t => exact h t (List.mem_filterMap.2 ⟨.tmp t, by simpa using hx, rfl⟩)
  | const v => rfl
  | global g => rfl
  | func f => rfl
def allOkM : List Sm → Gh → World → List Value → Prop
  | [], _, _, [] => True
  | s :: l, g, w, v :: vs => s.ok g w v ∧ allOkM l g w vs
  | _, _, _, _ => False
theorem allOkM_map {fr : Tmp → Sm} {a : Act} {g : Gh} {w : World} : ∀ (l : List Operand), (∀ x ∈ l, (opSm fr x).ok g w (a.eval x)) → allOkM (l.map (opSm fr)) g w (l.map a.eval)
  | [], _ => trivial
  | x :: l, h => ⟨h x (by simp), allOkM_map l fun y hy => h y (by simp [hy])⟩

inductive HintM where
  | is (v : Value)
  | bin (v : Value)
  | sem (v : Value)
  | call (s : Sm)
  | loud (s : Sm)
  | act (s : Sm)
  | by (s : Sm)
  | new (s : Sm)
  | early (s : Sm)
  | mid (K : Nat) (s : Sm)
def isLoud : Option HintM → Bool | some (.loud _) | some (.act _) => true | _ => false
/-- Owed for a comparison, an inner run, a call, a loud call, any operation. -/
def SemM (P : Program) (S0 : Nat → Prop) (w0 : World) (s : Sem Value) (v : Value) : Prop := ∀ w, Keep S0 w0 w → s.run P w = .ok v w
def CallM (P : Program) (S0 : Nat → Prop) (w0 : World) (f : FuncId) (args : List Sm) (s : Sm) : Prop :=
  ∀ g w vals, Keep S0 w0 w → Base S0 w0 g w → allOkM args g w vals → Calls P f vals.toArray w (fun e w' => ∃ v, e = .returned v ∧ Keep No w w' ∧ s.ok g w' v)
def LoudM (P : Program) (S0 : Nat → Prop) (w0 : World) (D : Nat → Gh → World → Prop) (r : Nat) (f : FuncId) (args : List Sm) (s : Sm) : Prop :=
  ∀ g w vals, Keep S0 w0 w → Base S0 w0 g w → D r g w → allOkM args g w vals → Calls P f vals.toArray w (fun e w' => ∃ v g', e = .returned v ∧ Tr g w g' w' ∧ Base S0 w0 g' w' ∧ D (r + 1) g' w' ∧ s.ok g' w' v)
/-- Owed for a loud operation that is no call. -/
def ActM (P : Program) (S0 : Nat → Prop) (w0 : World) (D : Nat → Gh → World → Prop) (r : Nat) (op : Op) (ty : TypeId) (reads : List (Tmp × Sm)) (s : Sm) : Prop :=
  ∀ (a : Act) (o : Oper) (g : Gh) w, o.op = op → o.type = ty → Keep S0 w0 w → Base S0 w0 g w → D r g w → (∀ q ∈ reads, q.2.ok g w (a.tmps.getD q.1 undef)) → OutL P S0 w0 (D (r + 1)) s g w ((execOp a.eval o).run P w)
def ByM (P : Program) (S0 : Nat → Prop) (w0 : World) (op : Op) (ty : TypeId) (reads : List (Tmp × Sm)) (s : Sm) : Prop :=
  ∀ (a : Act) (o : Oper) (g : Gh) w, o.op = op → o.type = ty → Keep S0 w0 w → Base S0 w0 g w → (∀ q ∈ reads, q.2.ok g w (a.tmps.getD q.1 undef)) → OutQ P s g w ((execOp a.eval o).run P w)

/-- Owed for an operation that stands ahead of the first loud one. -/
def EarlyM (P : Program) (S0 : Nat → Prop) (w0 : World) (D : Nat → Gh → World → Prop) (op : Op) (ty : TypeId) (reads : List (Tmp × Sm)) (s : Sm) : Prop :=
  ∀ (a : Act) (o : Oper) (g : Gh) w, o.op = op → o.type = ty → Keep S0 w0 w → Base S0 w0 g w → D 0 g w → (∀ q ∈ reads, q.2.ok g w (a.tmps.getD q.1 undef)) → OutQ P s g w ((execOp a.eval o).run P w)

/-- Owed for an operation that the loud one of rank K waits for. -/
def MidM (P : Program) (S0 : Nat → Prop) (w0 : World) (D : Nat → Gh → World → Prop) (K : Nat) (op : Op) (ty : TypeId) (reads : List (Tmp × Sm)) (s : Sm) : Prop :=
  ∀ (a : Act) (o : Oper) (g : Gh) w (k : Nat), o.op = op → o.type = ty → Keep S0 w0 w → Base S0 w0 g w → k ≤ K → D k g w → (∀ q ∈ reads, q.2.ok g w (a.tmps.getD q.1 undef)) → OutQ P s g w ((execOp a.eval o).run P w)

/-- The inner run of an operation that makes memory. -/
def semNew (ρ : Operand → Value) (o : Oper) : Option (Sem Value) :=
  match o.op with
  | .buildSlice t len parts => some (Instr.buildSlice t len (parts.map fun (i, x) => (i, ρ x)))
  | .box e x => some (Instr.box e (ρ x))
  | .alloc e => some (Instr.alloc e true (.tuple #[]))
  | _ => none
theorem semNew_run {ρ : Operand → Value} {o : Oper} {s : Sem Value} {v : Value} {w w' : World} (h : semNew ρ o = some s) (hr : s.run P w = .ok v w') : (execOp ρ o).run P w = .ok (.value v) w' := by
  unfold semNew at h
  unfold execOp
  split at h <;> first | (cases h; done) | skip
  all_goals
    rename_i hop
    cases h
    simp only [hop, Sem.run_bind, Sem.run_pure]
    rw [hr]
    rfl
def NewM (P : Program) (S0 : Nat → Prop) (w0 : World) (q : Sem Value) (s : Sm) : Prop := ∀ g w, Keep S0 w0 w → Base S0 w0 g w → ∃ v w', q.run P w = .ok v w' ∧ Keep No w w' ∧ s.ok g w' v

def evM1 (P : Program) (S0 : Nat → Prop) (w0 : World) (D : Nat → Gh → World → Prop) (ops : Array Oper) (rows : List Row) (gt : Nat → Option Nat) (fr : Tmp → Sm) (tags : Tmp → Option Nat) (h : Option HintM) (r : Nat) (ear : Nat → Bool) (o : Oper) : Option (Sm × Prop × List (Nat × Nat)) :=
  match wantM ops fr o with
  | none => none
  | some false => if isLoud h then none else some (.is undef, True, [])
  | some true => match h with
    | none => match plain P rows tags gt (fun t => toSv (fr t)) o with
      | some (v, d) => some (.is v, True, d.blks)
      | none => none
    | some (.is v') => match plain P rows tags gt (fun t => toSv (fr t)) o with
      | some (v, d) => some (.is v', v = v', d.blks)
      | none => none
    | some (.sem v') => if (tmpsOf o).all (fun t => isIs (toSv (fr t))) then match semOf (fun x => toV (opSv (fun t => toSv (fr t)) x)) o with
        | some s => some (.is v', SemM P S0 w0 s v', [])
        | none => none
      else none
    | some (.bin v') => match o.op with
      | .binOp op t x y _ => if (tmpsOf o).all (fun t => isIs (toSv (fr t))) then
          match aRun P none (eqGuard op t x y (toV (opSv (fun t => toSv (fr t)) x)) (toV (opSv (fun t => toSv (fr t)) y))) with
          | some _ => some (.is v', SemM P S0 w0 (binOp op t (toV (opSv (fun t => toSv (fr t)) x)) (toV (opSv (fun t => toSv (fr t)) y))) v', [])
          | none => none
        else none
      | _ => none
    | some (.call s) => match o.op with
      | .call { callee := .value (.func f), args := args, argTypes := _ } => if callOk P f then some (s, CallM P S0 w0 f (args.toList.map (opSm fr)) s, []) else none
      | _ => none
    | some (.loud s) => match o.op with
      | .call { callee := .value (.func f), args := args, argTypes := _ } => if callOk P f then some (s, LoudM P S0 w0 D r f (args.toList.map (opSm fr)) s, []) else none
      | _ => none
    | some (.act s) => some (s, ActM P S0 w0 D r o.op o.type ((tmpsOf o).map (fun t => (t, fr t))) s, [])
    | some (.by s) => some (s, ByM P S0 w0 o.op o.type ((tmpsOf o).map (fun t => (t, fr t))) s, [])
    | some (.new s) => if (tmpsOf o).all (fun t => isIs (toSv (fr t))) then match semNew (fun x => toV (opSv (fun t => toSv (fr t)) x)) o with
        | some q => some (s, NewM P S0 w0 q s, [])
        | none => none
      else none
    | some (.early s) => if ear 0 then some (s, EarlyM P S0 w0 D o.op o.type ((tmpsOf o).map (fun t => (t, fr t))) s, []) else none
    | some (.mid K s) => if ear K then some (s, MidM P S0 w0 D K o.op o.type ((tmpsOf o).map (fun t => (t, fr t))) s, []) else none

theorem evM1_ob {D : Nat → Gh → World → Prop} {ops : Array Oper} {rows : List Row} {gt : Nat → Option Nat} {fr : Tmp → Sm} {tags : Tmp → Option Nat} {h : Option HintM} {r : Nat} {ear : Nat → Bool} {o : Oper} {s : Sm} {p : Prop} {bl : List (Nat × Nat)}
    (he : evM1 P S0 w0 D ops rows gt fr tags h r ear o = some (s, p, bl)) (hp : p) (hb : ∀ q ∈ bl, q.1 = q.2) (hr : ∀ w, Keep S0 w0 w → Rows w rows) (hs : ∀ cs b, o.op ≠ .select cs b) : ObM P S0 w0 D ops fr s (isLoud h) ear r o := by
  unfold evM1 at he
  unfold ObM
  have paid : ∀ {d : Owed}, bl = d.blks → Paid P w0 { blks := d.blks } := fun e => ⟨(by intro _ h; cases h), fun q hq => hb q (by rw [e]; exact hq), (by intro _ h; cases h), (by intro _ h; cases h), (by intro _ h; cases h), (by intro _ h; cases h)⟩
  have prun : ∀ {v : Value} {d : Owed}, plain P rows tags gt (fun t => toSv (fr t)) o = some (v, d) → bl = d.blks → ∀ {a : Act} {g : Gh} {w : World}, Keep S0 w0 w → (∀ t ∈ tmpsOf o, (fr t).ok g w (a.tmps.getD t undef)) → (execOp a.eval o).run P w = .ok (.value v) w := by
    intro v d hpl hbl a g w k ha
    have hd : d = { blks := d.blks } := by
      unfold plain at hpl
      split at hpl
      · split at hpl
        · split at hpl <;> cases hpl; rfl
        · split at hpl <;> cases hpl; rfl
      · cases hpl
    rw [hd] at hpl
    exact plain_run hpl (paid hbl) (hr w k) hs (fun t ht => toSv_ok (ha t ht))
  split at he
  · cases he
  · split at he
    · cases he
    · rename_i hw hl
      cases he
      rw [hw]
      exact ⟨rfl, by simpa using hl⟩
  · rename_i hw
    rw [hw]
    intro a g w k hbase ha
    have hav : ∀ t ∈ tmpsOf o, (toSv (fr t)).ok w (a.tmps.getD t undef) := fun t ht => toSv_ok (ha t ht)
    split at he
    · split at he
      · rename_i v d hpl
        cases he
        simp only [isLoud, Bool.false_eq_true, if_false]
        intro _
        rw [prun hpl rfl k ha]
        exact ⟨Keep.refl _ _, rfl⟩
      · cases he
    · split at he
      · rename_i v d hpl
        cases he
        simp only [isLoud, Bool.false_eq_true, if_false]
        intro _
        rw [prun hpl rfl k ha]
        exact ⟨Keep.refl _ _, hp⟩
      · cases he
    · split at he
      · rename_i hall
        split at he
        · rename_i q hq
          cases he
          simp only [isLoud, Bool.false_eq_true, if_false]
          intro _
          rw [execOp_congr o hs (fun x hx => toV_eval hav hall hx), semOf_run hq (hp w k)]
          exact ⟨Keep.refl _ _, rfl⟩
        · cases he
      · cases he
    · split at he
      · rename_i op t x y yt hop
        split at he
        · rename_i hall
          split at he
          · rename_i gg hg
            cases he
            simp only [isLoud, Bool.false_eq_true, if_false]
            intro _
            have h1 : a.eval x = toV (opSv (fun t => toSv (fr t)) x) := toV_eval hav hall (by rw [hop]; simp [Op.operands])
            have h2 : a.eval y = toV (opSv (fun t => toSv (fr t)) y) := toV_eval hav hall (by rw [hop]; simp [Op.operands])
            have h3 := hp w k
            have h4 : (eqGuard op t x y (toV (opSv (fun t => toSv (fr t)) x)) (toV (opSv (fun t => toSv (fr t)) y))).run P w = .ok gg.1 w := aRun_none (l := gg.2) hg
            unfold execOp
            simp only [hop, h1, h2, Sem.run_bind, h4, Result.andThen_ok, h3, Sem.run_pure]
            exact ⟨Keep.refl _ _, rfl⟩
          · cases he
        · cases he
      · cases he
    · split at he
      · rename_i f args ts hop
        split at he
        · rename_i hk
          cases he
          simp only [isLoud, Bool.false_eq_true, if_false]
          intro _
          rw [run_call hop rfl hk]
          refine ⟨Keep.refl _ _, ?_⟩
          have hc := hp g w (args.toList.map a.eval) k hbase (allOkM_map _ fun x hx => opSm_eval ha (by rw [hop]; simp [Op.operands, Call.operands]; exact .inr (by simpa using hx)))
          have e : (args.toList.map a.eval).toArray = args.map a.eval := by apply Array.ext'; simp
          rw [e] at hc
          exact hc
        · cases he
      · cases he
    · split at he
      · rename_i f args ts hop
        split at he
        · rename_i hk
          cases he
          simp only [isLoud, if_true]
          intro hd
          rw [run_call hop rfl hk]
          refine ⟨rfl, ?_⟩
          have hc := hp g w (args.toList.map a.eval) k hbase hd (allOkM_map _ fun x hx => opSm_eval ha (by rw [hop]; simp [Op.operands, Call.operands]; exact .inr (by simpa using hx)))
          have e : (args.toList.map a.eval).toArray = args.map a.eval := by apply Array.ext'; simp
          rw [e] at hc
          exact hc
        · cases he
      · cases he
    · cases he
      simp only [isLoud, if_true]
      intro hd
      exact hp a o g w rfl rfl k hbase hd (fun q hq => by
        obtain ⟨t, ht, rfl⟩ := List.mem_map.1 hq
        exact ha t ht)
    · cases he
      simp only [isLoud, Bool.false_eq_true, if_false]
      intro _
      exact hp a o g w rfl rfl k hbase (fun q hq => by
        obtain ⟨t, ht, rfl⟩ := List.mem_map.1 hq
        exact ha t ht)
    · split at he
      · rename_i hall
        split at he
        · rename_i q hq
          cases he
          simp only [isLoud, Bool.false_eq_true, if_false]
          intro _
          obtain ⟨v, w', h1, h2, h3⟩ := hp g w k hbase
          rw [execOp_congr o hs (fun x hx => toV_eval hav hall hx), semNew_run hq h1]
          exact ⟨h2, h3⟩
        · cases he
      · cases he
    · split at he
      · rename_i hear
        cases he
        simp only [isLoud, Bool.false_eq_true, if_false]
        intro hE
        obtain ⟨k0, hk0, hd0⟩ := hE 0 hear
        obtain rfl : k0 = 0 := by omega
        exact hp a o g w rfl rfl k hbase hd0 (fun q hq => by
          obtain ⟨t, ht, rfl⟩ := List.mem_map.1 hq
          exact ha t ht)
      · cases he
    · split at he
      · rename_i hear
        cases he
        simp only [isLoud, Bool.false_eq_true, if_false]
        intro hE
        obtain ⟨k0, hk0, hd0⟩ := hE _ hear
        exact hp a o g w k0 rfl rfl k hbase hk0 hd0 (fun q hq => by
          obtain ⟨t, ht, rfl⟩ := List.mem_map.1 hq
          exact ha t ht)
      · cases he

def hintM (hs : List (Nat × HintM)) (i : Nat) : Option HintM := match hs with | [] => none | (j, h) :: l => if Nat.beq i j then some h else hintM l i
def evM (P : Program) (S0 : Nat → Prop) (w0 : World) (D : Nat → Gh → World → Prop) (ops : Array Oper) (rows : List Row) (gt : Nat → Option Nat) (hs : List (Nat × HintM)) : List Oper → Nat → Nat → (Tmp → Sm) → (Tmp → Option Nat) → Option ((Tmp → Sm) × Prop × List (Nat × Nat))
  | [], _, _, fr, _ => some (fr, True, [])
  | o :: l, i, r, fr, tags => match evM1 P S0 w0 D ops rows gt fr tags (hintM hs i) r (fun K => limB ops (fun i => isLoud (hintM hs i)) K i) o with
    | none => none
    | some (s, p, bl) => match evM P S0 w0 D ops rows gt hs l (i + 1) (if isLoud (hintM hs i) then r + 1 else r) (putM fr o.dst s) (putT tags o.dst (tagOf tags gt o.op)) with
      | none => none
      | some (fr', p', bl') => some (fr', p ∧ p', bl ++ bl')

/-- How many loud ones stand ahead of i. -/
def rankH (hs : List (Nat × HintM)) : Nat → Nat | 0 => 0 | i + 1 => if isLoud (hintM hs i) then rankH hs i + 1 else rankH hs i
theorem rank_eq {hs : List (Nat × HintM)} {n : Nat} : ∀ {i : Nat}, i ≤ n → rank n (fun j => isLoud (hintM hs j)) i = rankH hs i := by
  intro i hi
  have e : ∀ n, i ≤ n → ((List.range n).filter fun j => isLoud (hintM hs j) && decide (j < i)) = (List.range i).filter fun j => isLoud (hintM hs j) := by
    intro n
    induction n with
    | zero => intro h; obtain rfl : i = 0 := by omega
              rfl
    | succ n ih =>
      intro h
      rw [List.range_succ, List.filter_append]
      by_cases hin : i = n + 1
      · subst hin
        rw [List.range_succ, List.filter_append]
        congr 1
        · apply List.filter_congr
          intro j hj
          have := List.mem_range.1 hj
          simp [show j < n + 1 by omega]
        · simp [List.filter_cons]
      · rw [ih (by omega)]
        simp [show ¬ n < i by omega]
  have c : ∀ i, ((List.range i).filter fun j => isLoud (hintM hs j)).length = rankH hs i := by
    intro i
    induction i with
    | zero => rfl
    | succ i ih =>
      rw [List.range_succ, List.filter_append, List.length_append, ih]
      simp only [rankH, List.filter_cons, List.filter_nil]
      split <;> simp
  unfold rank
  rw [e n hi, c]

theorem evM_obs {D : Nat → Gh → World → Prop} {ops : Array Oper} {rows : List Row} {gt : Nat → Option Nat} {hs : List (Nat × HintM)} {f0 : Tmp → Sm} (hr : ∀ w, Keep S0 w0 w → Rows w rows) (hsel : ∀ (i : Nat) (o : Oper), ops[i]? = some o → ∀ cs b, o.op ≠ .select cs b) :
    ∀ (l : List Oper) (i : Nat) (tags : Tmp → Option Nat) (sp : Nat → Sm) (fr' : Tmp → Sm) (p : Prop) (bl : List (Nat × Nat)), (∀ j, l[j]? = ops[i + j]?) → evM P S0 w0 D ops rows gt hs l i (rankH hs i) (frM ops sp f0 i) tags = some (fr', p, bl) → p → (∀ q ∈ bl, q.1 = q.2) →
      ∃ sp' : Nat → Sm, (∀ j, j < i → sp' j = sp j) ∧ fr' = frM ops sp' f0 (i + l.length) ∧ ∀ (j : Nat) o, i ≤ j → j < i + l.length → ops[j]? = some o → ObM P S0 w0 D ops (frM ops sp' f0 j) (sp' j) (isLoud (hintM hs j)) (fun K => limB ops (fun i => isLoud (hintM hs i)) K j) (rankH hs j) o
  | [], i, tags, sp, fr', p, bl, _, h, _, _ => by
    simp only [evM] at h
    cases h
    exact ⟨sp, fun _ _ => rfl, rfl, fun j o h1 h2 => by simp at h2; omega⟩
  | o :: l, i, tags, sp, fr', p, bl, hl, h, hp, hb => by
    simp only [evM] at h
    have h0 : ops[i]? = some o := by simpa using (hl 0).symm
    split at h
    · cases h
    · rename_i s p1 bl1 he
      split at h
      · cases h
      · rename_i fr2 p2 bl2 he2
        cases h
        have hob := evM1_ob he hp.1 (fun q hq => hb q (List.mem_append.2 (.inl hq))) hr (hsel i o h0)
        have hcong : ∀ (sp2 : Nat → Sm) (k : Nat), (∀ j, j < k → sp2 j = sp j) → frM ops sp2 f0 k = frM ops sp f0 k := by
          intro sp2 k
          induction k with
          | zero => intro _; rfl
          | succ k ih => intro hk; simp only [frM]; rw [ih (fun j hj => hk j (by omega)), hk k (by omega)]
        let sp1 : Nat → Sm := fun j => if j = i then s else sp j
        have hsp1 : ∀ j, j < i → sp1 j = sp j := fun j hj => by simp only [sp1]; rw [if_neg (by omega)]
        have hfr1 : frM ops sp1 f0 (i + 1) = putM (frM ops sp f0 i) o.dst s := by
          simp only [frM, h0, Option.bind_some]
          rw [hcong sp1 i hsp1]
          simp only [sp1, if_true]
        rw [← hfr1] at he2
        obtain ⟨sp', h1, h2, h3⟩ := evM_obs hr hsel l (i + 1) _ sp1 fr' p2 bl2 (fun j => by have := hl (j + 1); simpa [Nat.add_assoc, Nat.add_comm 1 j] using this) he2 hp.2 (fun q hq => hb q (List.mem_append.2 (.inr hq)))
        refine ⟨sp', fun j hj => (h1 j (by omega)).trans (hsp1 j hj), by rw [h2]; congr 1; simp; omega, fun j oj hj1 hj2 hoj => ?_⟩
        by_cases hji : j = i
        · subst hji
          rw [h0] at hoj; cases hoj
          rw [h1 j (by omega)]
          simp only [sp1, if_true]
          rw [show frM ops sp' f0 j = frM ops sp f0 j from by
            have : ∀ k, k ≤ j → frM ops sp' f0 k = frM ops sp f0 k := by
              intro k
              induction k with
              | zero => intro _; rfl
              | succ k ih => intro hk; simp only [frM]; rw [ih (by omega), h1 k (by omega), hsp1 k (by omega)]
            exact this j (Nat.le_refl _)]
          exact hob
        · exact h3 j oj (by omega) (by simp at hj2; omega) hoj

/-- The region, reckoned. -/
theorem region_evM {D : Nat → Gh → World → Prop} {f0 : Tmp → Sm} {id : Nat} {l : List Oper} {Q : Exit → Act → World → Prop} {a0 : Act} {g0 : Gh} (rows : List Row) (tags : Tmp → Option Nat) (gt : Nat → Option Nat) (hs : List (Nat × HintM)) (ts : List Tmp) (ss : List Sm) (p : Prop)
    (hm : P.follows .mixedOrders = true) (hc : chk l.toArray a0.tmps.size = true) (hch : chain l.toArray (fun i => isLoud (hintM hs i)) = true) (hD : ∀ k g w w', Keep No w w' → D k g w → D k g w')
    (hf : ∀ t g w, (f0 t).ok g w (a0.tmps.getD t undef)) (hb0 : Base S0 w0 g0 w0) (hd0 : D 0 g0 w0) (hr : ∀ w, Keep S0 w0 w → Rows w rows)
    (he : (evM P S0 w0 D l.toArray rows gt hs l 0 0 f0 tags).map (fun r => (ts.map r.1, r.2.1)) = some (ss, p))
    (hb : (evM P S0 w0 D l.toArray rows gt hs l 0 0 f0 tags).map (fun r => r.2.2.map (·.1)) = (evM P S0 w0 D l.toArray rows gt hs l 0 0 f0 tags).map (fun r => r.2.2.map (·.2)))
    (hp : p)
    (hQ : ∀ a g w, Keep S0 w0 w → Base S0 w0 g w → D (rankH hs l.length) g w → a.defers = a0.defers → a.tmps.size = a0.tmps.size → allOkM ss g w (ts.map fun t => a.tmps.getD t undef) → Q .normal a w) :
    (Code.region id l.toArray true).wp P Q a0 w0 := by
  rw [Option.map_eq_some_iff] at he
  obtain ⟨⟨fr', p', bl⟩, he, e2⟩ := he
  cases e2
  rw [he] at hb
  obtain ⟨sp, _, h2, h3⟩ := evM_obs (f0 := f0) hr (chk_spec hc).sel l 0 tags (fun _ => .is undef) fr' _ bl (by simp) he hp (all_of_maps (Option.some.inj hb))
  refine region_relM (sp := sp) (loud := fun i => isLoud (hintM hs i)) hm hc hch hD hf hb0 hd0 (fun i o hi => ?_) fun a g w k hbase hd hdf hsz hall => ?_
  · have hil : i < l.length := by
      rcases Nat.lt_or_ge i l.length with h | h
      · exact h
      · rw [Array.getElem?_eq_none (by simpa using h)] at hi; cases hi
    rw [rank_eq (by simpa using Nat.le_of_lt hil)]
    exact h3 i o (Nat.zero_le _) (by omega) hi
  · refine hQ a g w k hbase ?_ hdf hsz ?_
    · rw [rank_eq (Nat.le_refl _)] at hd; simpa using hd
    · subst h2
      have hall' : ∀ t, (frM l.toArray sp f0 (0 + l.length) t).ok g w (a.tmps.getD t undef) := by simpa using hall
      clear he h3 hQ hb hp
      generalize frM l.toArray sp f0 (0 + l.length) = fr at *
      induction ts with
      | nil => trivial
      | cons t ts ih => exact ⟨hall' t, ih⟩

/-! ### in the walk -/
variable {W0 : World} {Q : Exit → Act → World → Prop} {n : Nat} {gt : Nat → Option Nat} {unroll : Bool}
def smOf (fr : Tmp → Option Value) (t : Tmp) : Sm := match fr t with | some v => .is v | none => .such (fun _ _ _ => True) (fun _ _ _ _ _ _ _ => trivial)
def evMAt (P : Program) (S0 : Nat → Prop) (w0 : World) (D : Nat → Gh → World → Prop) (n : Nat) (gt : Nat → Option Nat) (hs : List (Nat × HintM)) (ts : List Tmp) (c : Cfg) : Option (List Sm × Prop × Nat) :=
  match atDrawn c with
  | some (l, _) => if chk l.toArray n && P.follows .mixedOrders && chain l.toArray (fun i => isLoud (hintM hs i)) then (evM P S0 w0 D l.toArray (rowsOf c.m) gt hs l 0 0 (smOf c.fr) c.tags).map (fun r => (ts.map r.1, r.2.1, rankH hs l.length)) else none
  | none => none
def evMBlks (P : Program) (S0 : Nat → Prop) (w0 : World) (D : Nat → Gh → World → Prop) (gt : Nat → Option Nat) (hs : List (Nat × HintM)) (c : Cfg) : Option (List (Nat × Nat)) :=
  match atDrawn c with
  | some (l, _) => (evM P S0 w0 D l.toArray (rowsOf c.m) gt hs l 0 0 (smOf c.fr) c.tags).map (fun r => r.2.2)
  | none => none

theorem drawnM_ok {c : Cfg} {w : World} {D : Nat → Gh → World → Prop} {g0 : Gh} (hs : List (Nat × HintM)) (ts : List Tmp) (ss : List Sm) (p : Prop) (kn : Nat) (T : List K)
    (hW : Wst W0 c.m w) (hL : Loose W0 c.m S0) (hT : (atDrawn c).map (·.2) = some T) (he : evMAt P S0 w D n gt hs ts c = some (ss, p, kn)) (hb : (evMBlks P S0 w D gt hs c).map (·.map (·.1)) = (evMBlks P S0 w D gt hs c).map (·.map (·.2)))
    (hD : ∀ k g w w', Keep No w w' → D k g w → D k g w') (hb0 : Base S0 w g0 w) (hd0 : D 0 g0 w) (hp : p)
    (hk : ∀ g w' vs, Keep S0 w w' → Base S0 w g w' → D kn g w' → allOkM ss g w' vs → Goal P Q n ⟨frOf ts vs, c.tags, ⟨c.m.rows, w'.heap.size⟩, T⟩ w') : Goal P Q n c w := by
  obtain ⟨fr, tags, m, todo⟩ := c
  intro a hd hn ha
  unfold evMAt at he
  unfold evMBlks at hb
  unfold atDrawn at he hb hT
  match todo, he, hb, hT, hk with
  | .code (.region id ops true) :: k, he, hb, hT, hk =>
    simp only at he hb hT hk
    obtain rfl : k = T := Option.some.inj hT
    split at he
    case isFalse => cases he
    rename_i hc
    simp only [Bool.and_eq_true] at hc
    show (Code.region id ops true).wp P (KX P Q k) a w
    have hops : (Code.region id ops true) = (Code.region id ops.toList.toArray true) := by simp
    rw [hops]
    rw [Option.map_eq_some_iff] at he
    obtain ⟨r, he, e2⟩ := he
    simp only [Prod.mk.injEq] at e2
    obtain ⟨e3, e4, e5⟩ := e2
    refine region_evM (D := D) (f0 := smOf fr) (g0 := g0) (rowsOf m) tags gt hs ts ss p hc.1.2 (by rw [hn]; exact hc.1.1) hc.2 hD ?_ hb0 hd0 ?_ (by rw [he, Option.map_some, e3, e4]) ?_ hp ?_
    · intro t g w'
      unfold smOf
      cases hf : fr t with
      | none => trivial
      | some v => exact ha t v hf
    · intro w' k' q hq
      obtain ⟨x, hx, rfl⟩ := List.mem_map.1 hq
      exact (hW.laterS k' hL).rows x hx
    · rw [Option.map_map, Option.map_map] at hb
      exact hb
    · intro a' g w' k' hbase hd' hdf hsz hok
      rw [e5] at hd'
      exact hk g w' _ k' hbase hd' hok a' (by rw [hdf, hd]) (by rw [hsz, hn]) (frOf_spec rfl)
end
end Go.Proofs.Ytpnocepepihflaa
