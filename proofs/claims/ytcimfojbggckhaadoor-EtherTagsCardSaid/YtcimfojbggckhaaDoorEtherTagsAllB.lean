/-
  Helpers for walks: bytes in rows, rows forgotten, calls owed. No condition.
-/
import Derived.Test.YtcimfojbggckhaaDoorEtherTagsAllA
import Derived.IntWalk
import Derived.Deep.MidRow
import Derived.Test.YtcimfojbggckhaaDoorTie
import Derived.LaidMore
import Derived.Lay
import Derived.SevenTiedAt
import Derived.Stop.Joined
import Derived.ChangeKeysEq
import Derived.Laws.StructEq
import Derived.ArgAppend
import Derived.StillTailTactics
import Derived.Lib.Hide
namespace Go.Proofs.YtcimfojbggckhaaDoor
open Go.RowKit
section
variable {w : World} {v : Value} {bs : List UInt8}
theorem Rd.sem_at (r : Rd w v bs) {i : Nat} (hi : i < bs.length) (wx : World) : (Instr.indexAt 26 v (.int .i64 (i : Int))).run Tryd.prog wx = .ok (.pointer (some (adr v i))) wx := by
  have := r.run_at (P := Tryd.prog) (w' := wx) bt.sl bsize (k := .i64) (i := (i : Int)) (by omega) (by omega)
  simpa using this
theorem Rd.sem_ld (r : Rd w v bs) {i : Nat} (hi : i < bs.length) : (Instr.loadAt 5 (.pointer (some (adr v i)))).run Tryd.prog w = .ok (bv (byteAt bs i)) w := by
  have hc := r.cell i hi
  have hu := run_underlying (P := Tryd.prog) (w := w) Tryd.underlying5
  simp [Instr.loadAt, Instr.sureAddr, loadVar, isAgg, hu, load, Sem.run, hc]

theorem Rd.sem_cutH (r : Rd w v bs) {k : Nat} (h : k ≤ bs.length) (wx : World) : (Instr.sliceAt 26 v Option.none (some (.int .i64 (k : Int))) Option.none).run Tryd.prog wx = .ok (cutv v 0 k) wx := by
  have := r.run_cutH (P := Tryd.prog) (w' := wx) bt.sl bsize (k' := .i64) (h := (k : Int)) (by omega) (by omega)
  unfold Instr.sliceAt
  simp only [Sem.run_bind, run_underlying (P := Tryd.prog) Tryd.underlying26, Result.andThen_ok]
  simpa using this

theorem Rd.sem_cutL (r : Rd w v bs) {k : Nat} (h : k ≤ bs.length) (wx : World) : (Instr.sliceAt 26 v (some (.int .i64 (k : Int))) Option.none Option.none).run Tryd.prog wx = .ok (cutv v k bs.length) wx := by
  have := r.run_cutL (P := Tryd.prog) (w' := wx) bt.sl bsize (k := .i64) (l := (k : Int)) (by omega) (by omega)
  unfold Instr.sliceAt
  simp only [Sem.run_bind, run_underlying (P := Tryd.prog) Tryd.underlying26, Result.andThen_ok]
  simpa using this

end
theorem Rd.sem_cut {w : World} {v : Value} {bs : List UInt8} (r : Rd w v bs) {k h : Nat} (h1 : k ≤ h) (h2 : h ≤ bs.length) (wx : World) : (Instr.sliceAt 26 v (some (.int .i64 (k : Int))) (some (.int .i64 (h : Int))) Option.none).run Tryd.prog wx = .ok (cutv v k h) wx := by
  obtain ⟨ao, cap, rfl, hc, _⟩ := r.shape
  simp [Instr.sliceAt, Instr.slice, run_underlying bt.sl, Instr.sliceBounds, run_bound k h h1, run_bound h cap (by omega), size_of bsize, cutv]
theorem Own.same {e : TypeId} {w w' : World} {v : Value} {bs : List UInt8} (h : Own e w v bs) (hs : ∀ b, v.ownBlock = some b → w'.heap[b]? = w.heap[b]?) : Own e w' v bs := by
  obtain ⟨hl, h⟩ := h
  refine ⟨hl, ?_⟩
  rcases h with h | ⟨g, cap, cur, rfl, hb, hg, r⟩
  · exact .inl h
  · exact .inr ⟨g, cap, cur, rfl, hb, (hs g rfl).trans hg, r⟩
theorem by_assign {P : Program} {S0 : Nat → Prop} {w0 : World} {t : Tmp} {ty : TypeId} {s : Sm} : ByM P S0 w0 (.assign (.tmp t)) ty [(t, s)] s := by
  intro a o g w ho hty k hb hr
  have h := hr (t, s) (by simp)
  unfold execOp
  rw [ho]
  exact ⟨Keep.refl _ _, h⟩
theorem Rd.of_row {W0 w : World} {m : Mem} (hW : Wst W0 m w) {b off : Nat} {cs : List Value} {ow : Bool} (hr : ⟨b, cs, ow⟩ ∈ m.rows) {bs : List UInt8} (n : Nat) (hl : bs.length = n) (hn : n ≤ maxLen) (hc : ∀ i, i < bs.length → cs[off + i]? = some (bv (byteAt bs i))) : Rd w (.slice (some ⟨b, off, none⟩) n n) bs := by
  subst hl
  obtain ⟨t, ht⟩ := hW.rows _ hr
  refine ⟨⟨_, bs.length, rfl, Nat.le_refl _, hn, by simp, fun _ => ⟨_, _, rfl⟩⟩, fun i hi => ?_⟩
  simp only [blk, offs, World.cell?, ht]
  simpa using hc i hi
theorem Own.walk {e : TypeId} {W0 w w' : World} {rows : List RowS} {m' : Mem} {v : Value} {bs : List UInt8} (h : Own e w v bs) (hl : Loose W0 ⟨rows, w.heap.size⟩ (fun k => v.ownBlock = some k)) (hS : Seg ⟨rows, w.heap.size⟩ w m' w') (ho : ∀ r ∈ m'.rows, r.own = true) :
    Own e w' v bs ∧ Loose W0 m' (fun k => v.ownBlock = some k) := by
  have hs : ∀ b, v.ownBlock = some b → Safe ⟨rows, w.heap.size⟩ b := fun b hb => ⟨h.lt b hb, fun r hr _ => (hl b hb).2 r hr⟩
  exact ⟨h.same fun b hb => hS.same b (hs b hb), fun k hk => ⟨(hl k hk).1, fun r hr => (hS.safe k (hs k hk)).2 r hr (ho r hr)⟩⟩
theorem loose_nil {W0 : World} {m : Mem} : Loose W0 m (fun k => (Value.slice Option.none 0 0).ownBlock = some k) := fun k hk => by cases hk

theorem quo_nat (a b : Nat) : Int.tdiv (a : Int) (b : Int) = ((a / b : Nat) : Int) := by
  rw [Int.tdiv_eq_ediv_of_nonneg (by omega)]; rfl
theorem rem_nat (a b : Nat) : Int.tmod (a : Int) (b : Int) = ((a % b : Nat) : Int) := by
  rw [Int.tmod_eq_emod_of_nonneg (by omega)]; rfl

theorem Rd.of_rowc {W0 w : World} {m : Mem} (hW : Wst W0 m w) {b cap : Nat} {rest : List Value} {ow : Bool} {bs : List UInt8} (hr : ⟨b, bvs bs ++ rest, ow⟩ ∈ m.rows) (n : Nat) (hl : bs.length = n) (hc : n ≤ cap) (hn : cap ≤ maxLen) : Rd w (.slice (some ⟨b, 0, none⟩) n cap) bs := by
  subst hl
  obtain ⟨t, ht⟩ := hW.rows _ hr
  refine ⟨⟨_, cap, rfl, hc, hn, by simp, fun _ => ⟨_, _, rfl⟩⟩, fun i hi => ?_⟩
  simp only [blk, offs, Nat.zero_add, World.cell?, ht]
  have hi' : i < (bvs bs).length := by rw [bvs_length]; exact hi
  have := bvs_get hi
  simpa [List.getElem?_append_left hi'] using this
theorem Own.row {e : TypeId} {w : World} {v : Value} {bs : List UInt8} (h : Own e w v bs) (hb : bs.length ≠ 0) :
    ∃ g cap rest, v = .slice (some ⟨g, 0, none⟩) bs.length cap ∧ w.heap[g]? = some (.cells (bvs bs ++ rest).toArray e (0, 0)) ∧ bs.length ≤ cap ∧ cap ≤ maxLen := by
  obtain ⟨_, h⟩ := h
  rcases h with ⟨_, h0⟩ | ⟨g, cap, cur, rfl, _, hg, hc, hm, _, ht⟩
  · exact absurd h0 hb
  · refine ⟨g, cap, cur.toList.drop (bs.length * 1), rfl, ?_, hc, hm⟩
    rw [← ht, List.take_append_drop]
    simpa using hg
theorem Wst.fewer {W0 w : World} {rows more : List RowS} {nx : Nat} (h : Wst W0 ⟨rows ++ more, nx⟩ w) : Wst W0 ⟨rows, nx⟩ w := by
  refine ⟨h.size, fun r hr => h.rows r (List.mem_append.2 (.inl hr)), ?_, fun r hr => h.own r (List.mem_append.2 (.inl hr)), h.keep⟩
  have := h.one
  simp only [List.map_append] at this
  exact (List.nodup_append.1 this).1

theorem Keep.same {S : Nat → Prop} {w w' : World} (h : w = w') : Keep S w w' := h ▸ Keep.refl _ _
theorem CallOb.rd1 {P : Program} {w0 : World} {f : FuncId} {a : Value} {bs : List UInt8} (h : ∀ w, Keep No w0 w → Calls P f #[a] w fun e w' => ∃ v, e = .returned v ∧ Keep No w w' ∧ Rd w' v bs) : CallOb P w0 f [.is a] (rdS bs) := by
  rintro w vals k ha
  match vals, ha with
  | [x], hx => obtain rfl : x = a := hx.1; exact h w k
theorem bequal_ob {w0 : World} {xs : List UInt8} : CallOb Tryd.prog w0 33 [rdS xs, rdS xs] (.is (.bool true)) := by
  rintro w vals k ha
  match vals, ha with
  | [x, y], hx => exact (bequal_any hx.1 hx.2.1).mono fun e w' ⟨h1, h2⟩ => ⟨_, h1, h2 ▸ Keep.refl _ _, by simp [Sv.ok]⟩
abbrev bn (bs : List UInt8) (i : Nat) : Int := ((byteAt bs i).toNat : Int)
theorem bn_lt (bs : List UInt8) (i : Nat) : 0 ≤ bn bs i ∧ bn bs i < 256 := by have := byteAt_lt bs i; show (0 : Int) ≤ ((byteAt bs i).toNat : Int) ∧ ((byteAt bs i).toNat : Int) < 256; omega
theorem i64_small {x : Int} (h0 : 0 ≤ x) (h1 : x < 4294967296) : IntKind.i64.wrap x = x := IntWalk.i64_in _ (by omega)
/-- A loop whose heads are not numbered: they get smaller by a measure. -/
theorem loop_okT {P : Program} {Q : Exit → Act → World → Prop} {n : Nat} {ι : Type} {x : Code} {k : List K} (μ : ι → Nat) (L : ι → World → Cfg) (J : ι → World → Prop) (hL : ∀ i w, (L i w).todo = .code (.loop x) :: k)
    (round : ∀ i w, J i w → Goal P Q n { L i w with todo := .code x :: .inv (fun a' w' => ∃ j, μ j < μ i ∧ J j w' ∧ agrees n (L j w') a') :: k } w) (i0 : ι) (w : World) (h0 : J i0 w) : Goal P Q n (L i0 w) w := by
  intro a hd hn ha
  rw [hL i0]
  show (Code.loop x).wp P (KX P Q k) a w
  have hex : ∀ (S : Nat → Prop), (∃ i, S i) → ∃ i, S i ∧ ∀ j, S j → i ≤ j := by
    intro S ⟨i, hi⟩
    induction i using Nat.strongRecOn with
    | _ i ih =>
      by_cases hm : ∃ j, j < i ∧ S j
      · obtain ⟨j, hj, hs⟩ := hm; exact ih j hj hs
      · exact ⟨i, hi, fun j hj => Nat.le_of_not_lt fun hlt => hm ⟨j, hlt, hj⟩⟩
  let S (a : Act) (w : World) (m : Nat) : Prop := ∃ i, μ i = m ∧ J i w ∧ agrees n (L i w) a
  let ν (a : Act) (w : World) : Nat := open Classical in if h : ∃ m, S a w m then Classical.choose (hex _ h) else 0
  have hν : ∀ a w, (∃ m, S a w m) → S a w (ν a w) ∧ ∀ j, S a w j → ν a w ≤ j := fun a w h => by
    have := Classical.choose_spec (hex _ h)
    have e : ν a w = Classical.choose (hex _ h) := dif_pos h
    rw [e]; exact this
  refine wp_loop (fun a w => ∃ m, S a w m) ν ⟨μ i0, i0, rfl, h0, hd, hn, ha⟩ fun a w hI => ?_
  obtain ⟨⟨i, hi, hJ, hag⟩, _⟩ := hν a w hI
  have := round i w hJ a hag.1 hag.2.1 hag.2.2
  refine Code.wp_mono ?_ this
  intro e a' w' hq
  cases e with
  | normal =>
    obtain ⟨j, hj, hJj, hagj⟩ := hq
    have hS : S a' w' (μ j) := ⟨j, rfl, hJj, hagj⟩
    exact ⟨⟨μ j, hS⟩, Nat.lt_of_le_of_lt ((hν a' w' ⟨μ j, hS⟩).2 _ hS) (hi ▸ hj)⟩
  | _ => exact hq

def Apart (rows : List RowS) (v : Value) : Prop := ∀ b, v.ownBlock = some b → ∀ r ∈ rows, r.b ≠ b
theorem apart_safe {rows : List RowS} {w' : World} {v : Value} {bs : List UInt8} (hap : Apart rows v) (ho : Own 5 w' v bs) : ∀ b, v.ownBlock = some b → Safe ⟨rows, w'.heap.size⟩ b := fun b hb => ⟨ho.lt b hb, fun r hr _ => hap b hb r hr⟩
end Go.Proofs.YtcimfojbggckhaaDoor
namespace Go.Proofs.YtcimfojbggckhaaDoor
open Go.RowKit

/-- The cells of a tag. -/
def tgA (k p : Int) (d : Bool) (v : Int) : Array Value := #[.int .u16 k, .int .u8 p, .bool d, .int .u16 v]
def or16 (a b : Int) : Int := IntKind.u16.wrap ((BitVec.ofInt 16 a ||| BitVec.ofInt 16 b).toNat : Int)
def and16 (a b : Int) : Int := IntKind.u16.wrap ((BitVec.ofInt 16 a &&& BitVec.ofInt 16 b).toNat : Int)
def wordR (p : Int) (d : Bool) (v : Int) : Int := if d then or16 (or16 (IntKind.u16.wrap (IntKind.u16.wrap p * 2 ^ 13)) v) 4096 else or16 (IntKind.u16.wrap (IntKind.u16.wrap p * 2 ^ 13)) v
theorem word_any (w : World) (k p v : Int) (d : Bool) : Calls Tryd.prog 55 #[.agg (tgA k p d v)] w fun x w' => x = .returned (.int .u16 (wordR p d v)) ∧ Keep No w w' := by
  refine enter (args := [.agg (tgA k p d v)]) Tryd.func55 (by kernel_rfl) ?_
  cases d with
  | true => exact go_ret (gt := fun _ => Option.none) (unroll := true) 60 [] [.tmp 2] (.int .u16 (wordR p true v)) [] [] (Wst.start0 w) Tryd.results55 (by kernel_rfl) trivial trivial (fun w' hW _ => ⟨rfl, hW.keep⟩)
  | false => exact go_ret (gt := fun _ => Option.none) (unroll := true) 60 [] [.tmp 2] (.int .u16 (wordR p false v)) [] [] (Wst.start0 w) Tryd.results55 (by kernel_rfl) trivial trivial (fun w' hW _ => ⟨rfl, hW.keep⟩)
def ofR (k x : Int) : Array Value := tgA k (IntKind.u8.wrap (Int.fdiv x (2 ^ 13))) (and16 (Int.fdiv x (2 ^ 12)) 1 == 1) (and16 x 4095)
theorem tagof_any (w : World) (k : Int) (x : Nat) : Calls Tryd.prog 54 #[.int .u16 k, .int .u16 x] w fun e w' => e = .returned (.agg (ofR k x)) ∧ Keep No w w' := by
  refine enter (args := [.int .u16 k, .int .u16 x]) Tryd.func54 (by kernel_rfl) ?_
  exact go_ret (gt := fun _ => Option.none) (unroll := true) 60 [] [.cell 4 57] (.agg (ofR k x)) [] [] (Wst.start0 w) Tryd.results54 (by kernel_rfl) trivial trivial (fun w' hW _ => ⟨rfl, hW.keep⟩)
def broughtR (k p : Int) (d : Bool) (v : Int) : Array Value := tgA (if Int.tmod k 2 == 0 then 34984 else 33024) (Int.tmod p 8) d (Int.tmod v 4096)
theorem brought_any (w : World) (k p v : Int) (d : Bool) : Calls Tryd.prog 38 #[.agg (tgA k p d v)] w fun x w' => x = .returned (.agg (broughtR k p d v)) ∧ Keep No w w' := by
  refine enter (args := [.agg (tgA k p d v)]) Tryd.func38 (by kernel_rfl) ?_
  unfold broughtR
  cases h : (Int.tmod k 2 == 0) with
  | true => exact go_ret (gt := fun _ => Option.none) (unroll := true) 60 [(1, 3, .is (.bool true))] [.cell 2 57] (.agg (tgA 34984 (Int.tmod p 8) d (Int.tmod v 4096))) [(.bool (Int.tmod k 2 == 0), .bool true)] [] (Wst.start0 w) Tryd.results38 (by kernel_rfl) ⟨by rw [h], trivial⟩ trivial (fun w' hW _ => ⟨rfl, hW.keep⟩)
  | false => exact go_ret (gt := fun _ => Option.none) (unroll := true) 60 [(1, 3, .is (.bool false))] [.cell 2 57] (.agg (tgA 33024 (Int.tmod p 8) d (Int.tmod v 4096))) [(.bool (Int.tmod k 2 == 0), .bool false)] [] (Wst.start0 w) Tryd.results38 (by kernel_rfl) ⟨by rw [h], trivial⟩ trivial (fun w' hW _ => ⟨rfl, hW.keep⟩)
end Go.Proofs.YtcimfojbggckhaaDoor
namespace Go.Proofs.YtcimfojbggckhaaDoor
open Go.RowKit

/-- A tag. -/
structure Tg where
  k : Nat
  p : Nat
  d : Bool
  v : Nat
abbrev Tg.a (t : Tg) : Array Value := tgA t.k t.p t.d t.v
def csT (l : List Tg) : List Value := l.flatMap fun t => t.a.toList
theorem csT_length (l : List Tg) : (csT l).length = l.length * 4 := by
  induction l with
  | nil => rfl
  | cons t l ih =>
    have h4 : (Tg.a t).toList.length = 4 := rfl
    have : csT (t :: l) = t.a.toList ++ csT l := rfl
    rw [this, List.length_append, ih, List.length_cons]
    omega
theorem csT_append (l m : List Tg) : csT (l ++ m) = csT l ++ csT m := by simp [csT]
theorem csT_get : ∀ {l : List Tg} {i j : Nat} (hi : i < l.length), j < 4 → (csT l)[i * 4 + j]? = (l[i]).a.toList[j]?
  | t :: l, 0, j, _, hj => by
    simp only [csT, List.flatMap_cons, Nat.zero_mul, Nat.zero_add, List.getElem_cons_zero]
    rw [List.getElem?_append_left (by simpa [tgA] using hj)]
  | t :: l, i + 1, j, hi, hj => by
    have h4 : (Tg.a t).toList.length = 4 := rfl
    have ih := csT_get (l := l) (i := i) (j := j) (by simpa using hi) hj
    simp only [csT, List.flatMap_cons, List.getElem_cons_succ] at *
    rw [List.getElem?_append_right (by omega), ← ih]
    congr 1
    omega
theorem csT_one : ∀ (l : List Tg), ∀ u ∈ csT l, u.oneCell' = true := by
  intro l u hu
  simp only [csT, List.mem_flatMap] at hu
  obtain ⟨t, _, hu⟩ := hu
  simp [tgA] at hu
  rcases hu with rfl | rfl | rfl | rfl <;> rfl

/-- The slice v[l:h] of elements of s cells. -/
def cuts (s : Nat) (v : Value) (l h : Nat) : Value := match v with | .slice a _ c => .slice (if c = l then a else a.map (·.add (l * s))) (h - l) (c - l) | x => x
/-- v reads in w as the tags l. -/
def Rt (w : World) (v : Value) (l : List Tg) : Prop := Sl 4 w v l.length fun j => (csT l).getD j undef
/-- v owns the tags l: it may be appended to. -/
def Ot (e : TypeId) (w : World) (v : Value) (l : List Tg) : Prop := w.ownsRow 0 e 4 v l.length (csT l)
/-- t is the type of slices of e; e is a struct of four cells. -/
structure ET (P : Program) (t e : TypeId) : Prop where
  sl : P.underlying t = some (.slice e)
  st : ∃ d, P.underlying e = some d ∧ d.isRow = true
  info : ∃ i z, P.info? e = some i ∧ i.size = 4 ∧ i.bytes = 6 ∧ i.zero = some z ∧ z.cells.size = 4

section
variable {P : Program} {w w' : World} {v s : Value} {l ys : List Tg} {t e : TypeId}
theorem ET.size (T : ET P t e) : (P.info? e).map (·.size) = some 4 := by
  obtain ⟨i, z, h1, h2, _⟩ := T.info
  rw [h1, Option.map_some, h2]
theorem Rt.cellAt (r : Rt w v l) {i j : Nat} (hi : i < l.length) (hj : j < 4) : ∃ u, (l[i]).a.toList[j]? = some u ∧ w.cell? ⟨blk v, offs v + i * 4 + j, none⟩ = some u := by
  have h := r.cell (i * 4 + j) (by omega)
  have h5 : j < (Tg.a l[i]).toList.length := hj
  have h1 := csT_get (l := l) hi hj
  refine ⟨_, List.getElem?_eq_getElem h5, ?_⟩
  rw [Nat.add_assoc, h, List.getD_eq_getElem?_getD, h1, List.getElem?_eq_getElem h5]
  rfl
theorem Rt.nil (w : World) : Rt w (.slice none 0 0) [] := ⟨⟨none, 0, rfl, by simp, by simp [maxLen], by simp, by simp⟩, by simp⟩
theorem Rt.keep0 (r : Rt w v l) (k : Keep No w w') : Rt w' v l := Sl.keep0 r k
theorem Rt.keep {S : Nat → Prop} (r : Rt w v l) (k : Keep S w w') (hs : ∀ b, v.ownBlock = some b → ¬ S b) : Rt w' v l := Sl.keep r k hs
theorem Rt.blk_lt (r : Rt w v l) {b : Nat} (hb : v.ownBlock = some b) (hn : 0 < l.length) : b < w.heap.size := by
  have h1 := r.block_eq hn
  rw [hb] at h1
  obtain ⟨u, _, h2⟩ := r.cellAt (i := 0) (j := 0) hn (by omega)
  have := World.block_lt_of_cell? w _ h2
  rw [Option.some.inj h1]; exact this
/-- Tags that were there when the function began read on. -/
theorem Rt.same (r : Rt w v l) (hs : ∀ b, v.ownBlock = some b → 0 < l.length → w'.heap[b]? = w.heap[b]?) : Rt w' v l := by
  refine ⟨r.shape, fun j hj => ?_⟩
  have hn : 0 < l.length := by omega
  rw [← r.cell j hj]
  exact World.cell?_of_block (hs _ (r.block_eq hn) hn)
theorem Rt.safe {m : Mem} (r : Rt w v l) (hv : ∀ b, v.ownBlock = some b → Safe m b) (hs : ∀ k, Safe m k → w'.heap[k]? = w.heap[k]?) : Rt w' v l := r.same fun b hb _ => hs b (hv b hb)
theorem Rt.walk {w0 w1 w2 : World} {m : Mem} (r : Rt w0 v l) (hW : Wst w0 m w1) (hs : ∀ k, Safe m k → w2.heap[k]? = w1.heap[k]?) : Rt w2 v l := by
  have r1 := r.keep0 hW.keep
  refine r1.same fun b hb hn => hs b ?_
  have hl := r.blk_lt hb hn
  exact ⟨by have := hW.keep.size; rw [← hW.size]; omega, fun q hq ho => by have := hW.own q hq ho; omega⟩
theorem Rt.sem_len (r : Rt w v l) (T : ET P t e) {ty : TypeId} (wx : World) : (Builtin.len_ #[t] ty #[v]).run P wx = .ok (.int .i64 (l.length : Int)) wx := r.run_len T.sl
/-- Where tag i lies. -/
abbrev adt (v : Value) (i : Nat) : Addr := ⟨blk v, offs v + i * 4, none⟩
theorem Rt.sem_at (r : Rt w v l) (T : ET P t e) {i : Nat} (hi : i < l.length) (wx : World) : (Instr.indexAt t v (.int .i64 (i : Int))).run P wx = .ok (.pointer (some (adt v i))) wx := by
  have := r.run_at (P := P) (w' := wx) T.sl T.size (k := .i64) (i := (i : Int)) (by omega) (by omega)
  simpa using this
theorem Rt.sem_ld (r : Rt w v l) (T : ET P t e) {i : Nat} (hi : i < l.length) : (Instr.loadAt e (.pointer (some (adt v i)))).run P w = .ok (.agg (l[i]).a) w := by
  obtain ⟨d, h1, h2⟩ := T.st
  have := run_loadAt_mid (P := P) w (blk v) (offs v + i * 4) e (l[i]).a.toList d (fun j u hj => by
    have h4 : (Tg.a l[i]).toList.length = 4 := rfl
    have hj4 : j < 4 := by
      rcases Nat.lt_or_ge j 4 with h | h
      · exact h
      · rw [List.getElem?_eq_none (by omega)] at hj; cases hj
    obtain ⟨u', e1, e2⟩ := r.cellAt hi hj4
    rw [hj] at e1
    rw [e2, ← e1]) h1 h2 (by rw [T.size]; rfl)
  simpa using this
theorem Rt.cut (r : Rt w v l) {a h : Nat} (h1 : a ≤ h) (h2 : h ≤ l.length) : Rt w (cuts 4 v a h) ((l.drop a).take (h - a)) := by
  have hlen : ((l.drop a).take (h - a)).length = h - a := by simp; omega
  obtain ⟨ao, cap, rfl, hc, hm, hn, hb⟩ := r.shape
  refine ⟨⟨if cap = a then ao else ao.map (·.add (a * 4)), cap - a, by simp [cuts, hlen], by rw [hlen]; omega, by omega, ?_, ?_⟩, ?_⟩
  · intro h0
    by_cases e : cap = a
    · omega
    · rw [if_neg e] at h0
      have := hn (by simpa using h0)
      omega
  · intro hpos
    rw [hlen] at hpos
    obtain ⟨b, o, rfl⟩ := hb (by omega)
    rw [if_neg (by omega)]
    exact ⟨b, o + a * 4, by simp [Addr_add_mk]⟩
  · intro j hj
    rw [hlen] at hj
    obtain ⟨b, o, rfl⟩ := hb (by omega)
    have hi : j / 4 < ((l.drop a).take (h - a)).length := by omega
    have hi' : a + j / 4 < l.length := by omega
    have e1 := csT_get (l := (l.drop a).take (h - a)) hi (j := j % 4) (by omega)
    have e2 := csT_get (l := l) hi' (j := j % 4) (by omega)
    rw [show j / 4 * 4 + j % 4 = j by omega] at e1
    have e3 : ((l.drop a).take (h - a))[j / 4] = l[a + j / 4] := by simp
    rw [e3, ← e2] at e1
    have := r.cell ((a + j / 4) * 4 + j % 4) (by omega)
    rw [show (a + j / 4) * 4 + j % 4 = a * 4 + j by omega] at this e1
    rw [List.getD_eq_getElem?_getD, e1, ← List.getD_eq_getElem?_getD, ← this]
    simp only [cuts, if_neg (show ¬ cap = a by omega), Option.map_some, Addr_add_mk, blk, offs, Nat.add_assoc]
theorem Rt.sem_cutL (r : Rt w v l) (T : ET P t e) {a : Nat} (h1 : a ≤ l.length) (wx : World) : (Instr.sliceAt t v (some (.int .i64 (a : Int))) none none).run P wx = .ok (cuts 4 v a l.length) wx := by
  obtain ⟨d, hd, hr⟩ := T.st
  obtain ⟨ao, cap, rfl, hc, _⟩ := r.shape
  simp [Instr.sliceAt, Instr.slice, run_underlying T.sl, Instr.sliceBounds, run_bound a l.length (by omega), size_of T.size, cuts]
theorem Rt.not_agg (r : Rt w v l) : ∀ cs, v = .agg cs → False := by
  obtain ⟨ao, cap, e, _⟩ := r.shape
  intro cs h2
  rw [e] at h2
  cases h2
theorem ownBlock_cuts (s : Nat) (v : Value) (l h : Nat) : (cuts s v l h).ownBlock = v.ownBlock := by
  unfold cuts Value.ownBlock
  cases v <;> try rfl
  rename_i a n c
  cases a with
  | none => simp
  | some a =>
    by_cases e : c = l
    · simp [e]
    · simp only [e, if_false, Option.map_some, Addr.add]
      split <;> rfl

theorem Ot.nil (e : TypeId) (w : World) : Ot e w (.slice none 0 0) [] := World.ownsRow_nil _ _ _ _
theorem Ot.rt (h : Ot e w v l) : Rt w v l := by
  obtain ⟨hl, h⟩ := h
  rcases h with ⟨rfl, h0⟩ | ⟨g, cap, cur, rfl, _, hg, hc, hm, hs, ht⟩
  · have : l = [] := List.length_eq_zero_iff.1 h0
    subst this
    exact Rt.nil w
  · refine ⟨⟨some ⟨g, 0, none⟩, cap, rfl, hc, hm, by simp, fun _ => ⟨g, 0, rfl⟩⟩, fun i hi => ?_⟩
    simp only [blk, offs, Nat.zero_add]
    have h2 : cur.toList[i]? = some ((csT l).getD i undef) := by
      have h3 : (cur.toList.take (l.length * 4))[i]? = some ((csT l).getD i undef) := by rw [ht, List.getElem?_eq_getElem (by rw [csT_length]; exact hi), List.getD_eq_getElem?_getD, List.getElem?_eq_getElem (by rw [csT_length]; exact hi)]; rfl
      rw [List.getElem?_take] at h3
      simpa [hi] using h3
    simp only [World.cell?, hg]
    simpa using h2
theorem Ot.lt (h : Ot e w v l) : Under w.heap.size v := by
  obtain ⟨hl, h⟩ := h
  intro b hb
  rcases h with ⟨rfl, _⟩ | ⟨g, cap, cur, rfl, _, hg, _⟩
  · simp [Value.ownBlock] at hb
  · simp [Value.ownBlock] at hb
    subst hb
    exact block_of_row hg
theorem Ot.same (h : Ot e w v l) (hs : ∀ b, v.ownBlock = some b → w'.heap[b]? = w.heap[b]?) : Ot e w' v l := by
  obtain ⟨hl, h⟩ := h
  refine ⟨hl, ?_⟩
  rcases h with h | ⟨g, cap, cur, rfl, hb, hg, r⟩
  · exact .inl h
  · exact .inr ⟨g, cap, cur, rfl, hb, by rw [hs g rfl]; exact hg, r⟩
theorem Ot.keep {S : Nat → Prop} (h : Ot e w v l) (k : Keep S w w') (hs : ∀ b, v.ownBlock = some b → ¬ S b) : Ot e w' v l := h.same fun b hb => k.block b (h.lt b hb) (hs b hb)
theorem Ot.keep0 (h : Ot e w v l) (k : Keep No w w') : Ot e w' v l := h.keep k fun _ _ f => f
/-- A row whose cells are tags is owned. -/
theorem Ot.of_row {b : Nat} {cs : List Value} (hg : w.heap[b]? = some (.cells cs.toArray e (0, 0))) (hcs : cs = csT l) (hm : l.length ≤ maxLen) : Ot e w (.slice (some ⟨b, 0, none⟩) l.length l.length) l := by
  subst hcs
  refine ⟨csT_length l, .inr ⟨b, l.length, (csT l).toArray, rfl, Nat.zero_le _, hg, Nat.le_refl _, hm, by simpa using csT_length l, ?_⟩⟩
  simp only [List.take_of_length_le, csT_length, Nat.le_refl]
theorem Rt.of_row {b : Nat} {cs : List Value} {ty : TypeId} (hg : w.heap[b]? = some (.cells cs.toArray ty (0, 0))) (hcs : cs = csT l) (hm : l.length ≤ maxLen) : Rt w (.slice (some ⟨b, 0, none⟩) l.length l.length) l := by
  subst hcs
  refine ⟨⟨_, l.length, rfl, Nat.le_refl _, hm, by simp, fun _ => ⟨b, 0, rfl⟩⟩, fun i hi => ?_⟩
  simp only [blk, offs, Nat.zero_add, World.cell?, hg]
  rw [List.getD_eq_getElem?_getD]
  have : i < (csT l).length := by rw [csT_length]; exact hi
  simp [this]

/-- 'append(v, s...)'. -/
theorem run_append_t (T : ET P t e) (o : Ot e w v l) (r : Rt w s ys) (hn : l.length + ys.length ≤ 1099511627776) :
    ∃ v' w', (∀ ty, (Builtin.append_ #[t, t] ty #[v, s]).run P w = .ok v' w') ∧ Ot e w' v' (l ++ ys) ∧ Keep (fun k => v.ownBlock = some k) w w' ∧ (v'.ownBlock = v.ownBlock ∨ v'.ownBlock = some w.heap.size) := by
  obtain ⟨i, z, hi, hz1, hz2, hz3, hz4⟩ := T.info
  obtain ⟨ao, cap, rfl, _, _, hnl, hso⟩ := r.shape
  cases ao with
  | none =>
    have hc0 := hnl rfl
    have hy : ys.length = 0 := by
      rcases Nat.eq_zero_or_pos ys.length with h | h
      · exact h
      · obtain ⟨b, o, h⟩ := hso h; cases h
    have hy' : ys = [] := List.length_eq_zero_iff.1 hy
    subst hy' hc0
    exact ⟨v, w, fun ty => run_append_owned_none (P := P) (w := w) 0 t ty e i 4 T.sl hi v _ _ o, by simpa using o, Keep.refl _ _, .inl rfl⟩
  | some a =>
    have key := fun ty => run_append_own_at (P := P) w 0 t ty e i z 4 6 T.sl hi hz3 hz1 hz2 hz4 (by decide) v l.length (csT l) o a ys.length cap (csT ys)
      (csT_length ys)
      (fun j u hj => by
        by_cases hjl : j < ys.length * 4
        · obtain ⟨b, o, hbo⟩ := hso (by omega)
          cases hbo
          have := r.cell j hjl
          rw [List.getD_eq_getElem?_getD, hj] at this
          simpa [blk, offs, Addr_add_mk] using this
        · rw [List.getElem?_eq_none (by rw [csT_length]; omega)] at hj; cases hj)
      (csT_one ys) (by simp only [maxLen]; omega) (by omega) (Nat.zero_le _)
    obtain ⟨v', w', hr, h2, h3, _, h5⟩ := key 0
    refine ⟨v', w', fun ty => hr, by simpa [Ot, csT_append] using h2, ⟨h3.os, h3.tape, h3.output, h3.size, fun k hk hn => h3.block k hk (fun e => hn e.symm)⟩, h5⟩
end

section
variable {P : Program} {W0 : World} {Q : Exit → Act → World → Prop} {n : Nat} {gt : Nat → Option Nat} {unroll : Bool}
/-- Run to an append; what it comes to is owed. -/
theorem go_appX (fuel : Nat) (hs : List (Nat × Nat × HintS)) (u s : Value) (t : TypeId) (ts : List Tmp) (vs : List Value) (r : Tmp) (rows : List RowS) (tg : List (Nat × Nat)) (T : List K) (eqs : List (Value × Value)) (sems : List (Sem Value × Value)) {c : Cfg} {w : World}
    (hW : Wst W0 c.m w)
    (he : ((atApp n (run P n gt unroll hs fuel c).1, ts.map (run P n gt unroll hs fuel c).1.fr, (run P n gt unroll hs fuel c).1.m.rows, callDst (run P n gt unroll hs fuel c).1, (run P n gt unroll hs fuel c).2.eqs, (run P n gt unroll hs fuel c).2.sems), (run P n gt unroll hs fuel c).2.blks.map (·.1)) =
      ((some (u, s, t, t), vs.map some, rows, some (r, T), eqs, sems), (run P n gt unroll hs fuel c).2.blks.map (·.2)))
    (h1 : Eqs eqs) (h2 : SemObs P c.m w sems)
    (hk : ∀ w', Wst W0 ⟨rows, w'.heap.size⟩ w' → Seg c.m w ⟨rows, w'.heap.size⟩ w' → ∃ v w2, (∀ ty, (Builtin.append_ #[t, t] ty #[u, s]).run P w' = .ok v w2) ∧ Goal P Q n ⟨frOf (r :: ts) (v :: vs), tagL tg, ⟨rows, w2.heap.size⟩, T⟩ w2) : Goal P Q n c w := by
  simp only [Prod.mk.injEq] at he
  obtain ⟨⟨e1, e0, er, ed, e2, e3⟩, e4⟩ := he
  refine run_ok fuel hW (Seg.refl _ _) ⟨?_, all_of_maps e4, ?_⟩ fun w' hW' hS' => ?_
  · rw [e2]; exact h1.mem
  · rw [e3]; exact h2.mem
  · have em : (run P n gt unroll hs fuel c).1.m = ⟨rows, w'.heap.size⟩ := by rw [← er, hW'.size]
    rw [em] at hW' hS'
    obtain ⟨v, w2, hr, hg⟩ := hk w' hW' hS'
    exact app_ok e1 hr (goal_at ed e0 hg)
end
end Go.Proofs.YtcimfojbggckhaaDoor
namespace Go.Proofs.YtcimfojbggckhaaDoor
open Go.RowKit

/-- v reads as the numbers ks. -/
def Ks (w : World) (v : Value) (ks : List Int) : Prop := Sl 1 w v ks.length fun i => .int .u16 (ks.getD i 0)
section
variable {w : World} {v : Value} {ks : List Int}
theorem Ks.keep0 {w' : World} (r : Ks w v ks) (k : Keep No w w') : Ks w' v ks := Sl.keep0 r k
theorem Ks.sem_len (r : Ks w v ks) (wx : World) : (Builtin.len_ #[89] 3 #[v]).run Tryd.prog wx = .ok (.int .i64 (ks.length : Int)) wx := Sl.run_len r Tryd.underlying89
theorem Ks.sem_at (r : Ks w v ks) {i : Nat} (hi : i < ks.length) (wx : World) : (Instr.indexAt 89 v (.int .i64 (i : Int))).run Tryd.prog wx = .ok (.pointer (some (adr v i))) wx := by
  have := Sl.run_at (P := Tryd.prog) (w' := wx) r Tryd.underlying89 (show (Tryd.prog.info? 55).map (·.size) = some 1 by kernel_rfl) (k := .i64) (i := (i : Int)) (by omega) (by omega)
  simpa using this
theorem Ks.sem_ld (r : Ks w v ks) {i : Nat} (hi : i < ks.length) : (Instr.loadAt 55 (.pointer (some (adr v i)))).run Tryd.prog w = .ok (.int .u16 (ks.getD i 0)) w := by
  have hc := r.cell i (by omega)
  have hu := run_underlying (P := Tryd.prog) (w := w) Tryd.underlying55
  simp [Instr.loadAt, Instr.sureAddr, loadVar, isAgg, hu, load, Sem.run, hc]
def idxR (ks : List Int) (k : Int) : Int := match ks with
  | [a] => if k == a then 0 else -1
  | [a, b] => if k == a then 0 else if k == b then 1 else -1
  | _ => 0
noncomputable abbrev ixF : Func := Tryd.f65
theorem index1 {a : Int} (r : Ks w v [a]) (k : Int) : Calls Tryd.prog 65 #[v, .int .u16 k] w fun x w' => x = .returned (.int .i64 (idxR [a] k)) ∧ Keep No w w' := by
  refine enter (args := [v, .int .u16 k]) Tryd.func65 (by kernel_rfl) ?_
  unfold idxR
  have rk : ∀ wx, (∀ k, Safe ⟨[], w.heap.size⟩ k → wx.heap[k]? = w.heap[k]?) → Ks wx v [a] := fun wx h => ⟨r.shape, fun j hj => by
    have hc := r.cell j hj
    rw [← hc]
    exact World.cell?_of_block (h _ ⟨World.block_lt_of_cell? w _ hc, fun _ h => nomatch h⟩)⟩
  cases h : (k == a) with
  | true =>
    exact go_ret (gt := fun _ => Option.none) (unroll := true) 60 [(1, 1, .sem (.int .i64 1)), (4, 3, .sem (.pointer (some (adr v 0)))), (4, 4, .sem (.int .u16 a)), (4, 5, .is (.bool true))] [.tmp 4] (.int .i64 0)
      [(.bool (k == a), .bool true)] [(Builtin.len_ #[89] 3 #[v], .int .i64 1), (Instr.indexAt 89 v (.int .i64 0), .pointer (some (adr v 0))), (Instr.loadAt 55 (.pointer (some (adr v 0))), .int .u16 a)]
      (Wst.start0 w) Tryd.results65 (by kernel_rfl) ⟨by rw [h], trivial⟩ ⟨fun wx _ => r.sem_len wx, fun wx _ => r.sem_at (i := 0) (by simp) wx, fun wx hx => (rk wx hx).sem_ld (i := 0) (by simp), trivial⟩ (fun w' hW _ => ⟨by simp only [h]; rfl, hW.keep⟩)
  | false =>
    exact go_ret (gt := fun _ => Option.none) (unroll := true) 60 [(1, 1, .sem (.int .i64 1)), (4, 3, .sem (.pointer (some (adr v 0)))), (4, 4, .sem (.int .u16 a)), (4, 5, .is (.bool false))] [.tmp 4] (.int .i64 (-1))
      [(.bool (k == a), .bool false)] [(Builtin.len_ #[89] 3 #[v], .int .i64 1), (Instr.indexAt 89 v (.int .i64 0), .pointer (some (adr v 0))), (Instr.loadAt 55 (.pointer (some (adr v 0))), .int .u16 a)]
      (Wst.start0 w) Tryd.results65 (by kernel_rfl) ⟨by rw [h], trivial⟩ ⟨fun wx _ => r.sem_len wx, fun wx _ => r.sem_at (i := 0) (by simp) wx, fun wx hx => (rk wx hx).sem_ld (i := 0) (by simp), trivial⟩ (fun w' hW _ => ⟨by simp only [h]; rfl, hW.keep⟩)
theorem index2 {a b : Int} (r : Ks w v [a, b]) (k : Int) : Calls Tryd.prog 65 #[v, .int .u16 k] w fun x w' => x = .returned (.int .i64 (idxR [a, b] k)) ∧ Keep No w w' := by
  refine enter (args := [v, .int .u16 k]) Tryd.func65 (by kernel_rfl) ?_
  unfold idxR
  have rk : ∀ wx, (∀ k, Safe ⟨[], w.heap.size⟩ k → wx.heap[k]? = w.heap[k]?) → Ks wx v [a, b] := fun wx h => ⟨r.shape, fun j hj => by
    have hc := r.cell j hj
    rw [← hc]
    exact World.cell?_of_block (h _ ⟨World.block_lt_of_cell? w _ hc, fun _ h => nomatch h⟩)⟩
  cases h : (k == a) with
  | true =>
    exact go_ret (gt := fun _ => Option.none) (unroll := true) 60 [(1, 1, .sem (.int .i64 2)), (4, 3, .sem (.pointer (some (adr v 0)))), (4, 4, .sem (.int .u16 a)), (4, 5, .is (.bool true))] [.tmp 4] (.int .i64 0)
      [(.bool (k == a), .bool true)] [(Builtin.len_ #[89] 3 #[v], .int .i64 2), (Instr.indexAt 89 v (.int .i64 0), .pointer (some (adr v 0))), (Instr.loadAt 55 (.pointer (some (adr v 0))), .int .u16 a)]
      (Wst.start0 w) Tryd.results65 (by kernel_rfl) ⟨by rw [h], trivial⟩ ⟨fun wx _ => r.sem_len wx, fun wx _ => r.sem_at (i := 0) (by simp) wx, fun wx hx => (rk wx hx).sem_ld (i := 0) (by simp), trivial⟩ (fun w' hW _ => ⟨by simp only [h]; rfl, hW.keep⟩)
  | false =>
    cases h2 : (k == b) with
    | true =>
      exact go_ret (gt := fun _ => Option.none) (unroll := true) 200 [(1, 1, .sem (.int .i64 2)), (4, 3, .sem (.pointer (some (adr v 0)))), (4, 4, .sem (.int .u16 a)), (4, 5, .is (.bool false)), (4, 3, .sem (.pointer (some (adr v 1)))), (4, 4, .sem (.int .u16 b)), (4, 5, .is (.bool true))] [.tmp 4] (.int .i64 1)
        [(.bool (k == a), .bool false), (.bool (k == b), .bool true)] [(Builtin.len_ #[89] 3 #[v], .int .i64 2), (Instr.indexAt 89 v (.int .i64 0), .pointer (some (adr v 0))), (Instr.loadAt 55 (.pointer (some (adr v 0))), .int .u16 a), (Instr.indexAt 89 v (.int .i64 1), .pointer (some (adr v 1))), (Instr.loadAt 55 (.pointer (some (adr v 1))), .int .u16 b)]
        (Wst.start0 w) Tryd.results65 (by kernel_rfl) ⟨by rw [h], by rw [h2], trivial⟩ ⟨fun wx _ => r.sem_len wx, fun wx _ => r.sem_at (i := 0) (by simp) wx, fun wx hx => (rk wx hx).sem_ld (i := 0) (by simp), fun wx _ => r.sem_at (i := 1) (by simp) wx, fun wx hx => (rk wx hx).sem_ld (i := 1) (by simp), trivial⟩ (fun w' hW _ => ⟨by simp only [h, h2]; rfl, hW.keep⟩)
    | false =>
      exact go_ret (gt := fun _ => Option.none) (unroll := true) 200 [(1, 1, .sem (.int .i64 2)), (4, 3, .sem (.pointer (some (adr v 0)))), (4, 4, .sem (.int .u16 a)), (4, 5, .is (.bool false)), (4, 3, .sem (.pointer (some (adr v 1)))), (4, 4, .sem (.int .u16 b)), (4, 5, .is (.bool false))] [.tmp 4] (.int .i64 (-1))
        [(.bool (k == a), .bool false), (.bool (k == b), .bool false)] [(Builtin.len_ #[89] 3 #[v], .int .i64 2), (Instr.indexAt 89 v (.int .i64 0), .pointer (some (adr v 0))), (Instr.loadAt 55 (.pointer (some (adr v 0))), .int .u16 a), (Instr.indexAt 89 v (.int .i64 1), .pointer (some (adr v 1))), (Instr.loadAt 55 (.pointer (some (adr v 1))), .int .u16 b)]
        (Wst.start0 w) Tryd.results65 (by kernel_rfl) ⟨by rw [h], by rw [h2], trivial⟩ ⟨fun wx _ => r.sem_len wx, fun wx _ => r.sem_at (i := 0) (by simp) wx, fun wx hx => (rk wx hx).sem_ld (i := 0) (by simp), fun wx _ => r.sem_at (i := 1) (by simp) wx, fun wx hx => (rk wx hx).sem_ld (i := 1) (by simp), trivial⟩ (fun w' hW _ => ⟨by simp only [h, h2]; rfl, hW.keep⟩)
/-- The kinds that may stand behind so many. -/
def kindsL : Nat → List Int | 0 => [34984, 33024] | 1 => [33024] | _ => []
theorem contains_any {i : Nat} (hi : i < 2) (r : Ks w v (kindsL i)) (k : Int) : Calls Tryd.prog 50 #[v, .int .u16 k] w fun x w' => x = .returned (.bool ((kindsL i).contains k)) ∧ Keep No w w' := by
  have hix : ∀ w1, Keep No w w1 → Calls Tryd.prog 65 #[v, .int .u16 k] w1 fun x w' => x = .returned (.int .i64 (idxR (kindsL i) k)) ∧ Keep No w1 w' := fun w1 kp => by
    match i, hi, r with
    | 0, _, r => exact index2 (r.keep0 kp) k
    | 1, _, r => exact index1 (r.keep0 kp) k
  have hb : decide (idxR (kindsL i) k ≥ 0) = (kindsL i).contains k := by
    match i, hi with
    | 0, _ =>
      simp only [kindsL, idxR, List.contains_cons, List.contains_nil, Bool.or_false]
      cases (k == 34984) <;> cases (k == 33024) <;> simp
    | 1, _ =>
      simp only [kindsL, idxR, List.contains_cons, List.contains_nil, Bool.or_false]
      cases (k == 33024) <;> simp
  generalize idxR (kindsL i) k = n at *
  refine enter (args := [v, .int .u16 k]) Tryd.func50 (by kernel_rfl) ?_
  refine go_call_is (gt := fun _ => Option.none) (unroll := true) 60 [] 65 [v, .int .u16 k] [] [] 7 [] [] (inR (bodyOf Tryd.f50) 1 2) [] [] (Wst.start0 w) (by kernel_rfl) trivial trivial ?_
  intro w1 hW1 _
  refine (hix w1 hW1.keep).mono ?_
  rintro x w2 ⟨rfl, k2⟩
  refine ⟨_, rfl, ?_⟩
  exact go_ret (gt := fun _ => Option.none) (unroll := true) 60 [(1, 3, .is (.bool ((kindsL i).contains k)))] [.tmp 4] (.bool ((kindsL i).contains k)) [(.bool (decide (n ≥ 0)), .bool ((kindsL i).contains k))] [] (hW1.later k2) Tryd.results50 (by kernel_rfl) ⟨congrArg Value.bool hb, trivial⟩ trivial (fun w' hW _ => ⟨rfl, hW.keep⟩)
end

/-- The kinds, as they were laid. -/
def Kh (w : World) : Prop := ∃ v0 v1, w.cell? ⟨0, 0, none⟩ = some v0 ∧ w.cell? ⟨0, 1, none⟩ = some v1 ∧ Ks w v0 (kindsL 0) ∧ Ks w v1 (kindsL 1)
theorem Kh.keep0 {w w' : World} (h : Kh w) (k : Keep No w w') : Kh w' := by
  obtain ⟨v0, v1, c0, c1, k0, k1⟩ := h
  exact ⟨v0, v1, k.cell c0 (fun f => f), k.cell c1 (fun f => f), k0.keep0 k, k1.keep0 k⟩
theorem sem_ldk {w : World} {i : Nat} {v : Value} (hc : w.cell? ⟨0, i, none⟩ = some v) : (Instr.loadAt 89 (.pointer (some ⟨0, i, none⟩))).run Tryd.prog w = .ok v w := by
  have hu := run_underlying (P := Tryd.prog) (w := w) Tryd.underlying89
  simp [Instr.loadAt, Instr.sureAddr, loadVar, isAgg, hu, load, Sem.run, hc]
def mayT (t : Tg) : Bool := (kindsL 0).contains (t.k : Int) && decide ((t.p : Int) < 8) && decide ((t.v : Int) ≤ 4095)
theorem maytag_any {w : World} (hk : Kh w) (t : Tg) : Calls Tryd.prog 27 #[.agg t.a] w fun x w' => x = .returned (.bool (mayT t)) ∧ Keep No w w' := by
  obtain ⟨v0, v1, c0, c1, k0, k1⟩ := hk
  obtain ⟨k, p, d, x⟩ := t
  refine enter (args := [.agg (tgA k p d x)]) Tryd.func27 (by kernel_rfl) ?_
  refine go_call_is (gt := fun _ => Option.none) (unroll := true) 60 [(1, 1, .sem v0)] 50 [v0, .int .u16 k] [1] [.pointer (some ⟨w.heap.size, 0, none⟩)] 7 [⟨w.heap.size, (tgA k p d x).toList, true⟩] [(1, 0)] (inR (bodyOf Tryd.f27) 1 4) []
    [(Instr.loadAt 89 (.pointer (some ⟨0, 0, none⟩)), v0)] (Wst.start0 w) (by kernel_rfl) trivial ⟨fun wx hx => sem_ldk ?_, trivial⟩ ?_
  · rw [← c0]
    exact World.cell?_of_block (hx _ ⟨World.block_lt_of_cell? w _ c0, fun _ h => nomatch h⟩)
  intro w1 hW1 _
  refine (contains_any (i := 0) (by omega) (k0.keep0 hW1.keep) k).mono ?_
  rintro e w2 ⟨rfl, k2⟩
  refine ⟨_, rfl, ?_⟩
  unfold mayT
  simp only
  have hW2 := hW1.later k2
  cases (kindsL 0).contains k with
  | false => exact go_ret (gt := fun _ => Option.none) (unroll := true) 60 [] [.tmp 2] (.bool false) [] [] hW2 Tryd.results27 (by kernel_rfl) trivial trivial (fun w' hW _ => ⟨rfl, hW.keep⟩)
  | true =>
    cases hp : decide ((p : Int) < 8) with
    | false => exact go_ret (gt := fun _ => Option.none) (unroll := true) 60 [(1, 8, .is (.bool false))] [.tmp 2] (.bool false) [(.bool (decide ((p : Int) < 8)), .bool false)] [] hW2 Tryd.results27 (by kernel_rfl) ⟨by rw [hp], trivial⟩ trivial (fun w' hW _ => ⟨rfl, hW.keep⟩)
    | true => exact go_ret (gt := fun _ => Option.none) (unroll := true) 60 [(1, 8, .is (.bool true))] [.tmp 2] (.bool (decide ((x : Int) ≤ 4095))) [(.bool (decide ((p : Int) < 8)), .bool true)] [] hW2 Tryd.results27 (by kernel_rfl) ⟨by rw [hp], trivial⟩ trivial (fun w' hW _ => ⟨by simp, hW.keep⟩)

theorem ett : ET Tryd.prog 24 57 where
  sl := Tryd.underlying24
  st := ⟨_, Tryd.underlying57, rfl⟩
  info := by
    have h : (Tryd.prog.info? 57).map (fun i => (i.size, i.bytes, i.zero)) = some (4, 6, some (.agg (tgA 0 0 false 0))) := by kernel_rfl
    cases hi : Tryd.prog.info? 57 with
    | none => rw [hi] at h; cases h
    | some i => rw [hi] at h; simp at h; exact ⟨i, .agg (tgA 0 0 false 0), rfl, h.1, h.2.1, h.2.2, rfl⟩

def mayFrom : Nat → List Tg → Bool | _, [] => true | i, t :: l => decide (i < 2) && mayT t && (kindsL i).contains (t.k : Int) && mayFrom (i + 1) l
def mayL (l : List Tg) : Bool := mayFrom 0 l
noncomputable abbrev mC : Code := bodyOf Tryd.f22
noncomputable abbrev mN : Nat := Tryd.f22.ntmps
abbrev mQ (w : World) (l : List Tg) : Ending → World → Prop := fun x w' => x = .returned (.bool (mayL l)) ∧ Keep No w w'
noncomputable def myL (v : Value) (n j : Nat) (w' : World) : Cfg := ⟨frOf [5, 6, 7] [v, .int .i64 (n : Int), .int .i64 ((n - j : Nat) : Int)], tagL [], ⟨[], w'.heap.size⟩, atL mC 2⟩
def myJ (w : World) (l : List Tg) (j : Nat) (w' : World) : Prop := j ≤ l.length ∧ Wst w ⟨[], w'.heap.size⟩ w' ∧ mayL l = mayFrom (l.length - j) (l.drop (l.length - j))
noncomputable def myR (w : World) (v : Value) (l : List Tg) (j : Nat) : Act → World → Prop := fun a' w' => ∃ j', j' < j ∧ myJ w l j' w' ∧ agrees mN (myL v l.length j' w') a'
section
variable {w : World} {v : Value} {l : List Tg}
theorem may_round (r : Rt w v l) (hk : Kh w) (j : Nat) (w' : World) (hJ : myJ w l (j + 1) w') :
    Goal Tryd.prog (bodyPost Tryd.prog Tryd.f22 (mQ w l)) mN { myL v l.length (j + 1) w' with todo := .code (loopOf (atL mC 2)) :: .inv (myR w v l (j + 1)) :: (atL mC 2).tail } w' := by
  obtain ⟨hj, hW, hm⟩ := hJ
  unfold myL
  have hi : l.length - (j + 1) < l.length := by omega
  have hnext : l.length - (j + 1) + 1 = l.length - j := by omega
  generalize hI : l.length - (j + 1) = i at *
  have hc : (i : Int) < (l.length : Int) := by omega
  rw [List.drop_eq_getElem_cons hi] at hm
  have r' := r.keep0 hW.keep
  have hld : ∀ wx, (∀ k, Safe ⟨[], w'.heap.size⟩ k → wx.heap[k]? = w'.heap[k]?) → Rt wx v l := fun wx hx => r.walk hW hx
  have sl : SemObs Tryd.prog ⟨[], w'.heap.size⟩ w' [(Instr.indexAt 24 v (.int .i64 (i : Int)), .pointer (some (adt v i))), (Instr.loadAt 57 (.pointer (some (adt v i))), .agg (l[i]).a)] :=
    ⟨fun wx _ => r.sem_at ett hi wx, fun wx hx => (hld wx hx).sem_ld ett hi, trivial⟩
  generalize l[i] = t at *
  obtain ⟨k, p, d, x⟩ := t
  obtain ⟨v0, v1, c0, c1, k0, k1⟩ := hk.keep0 hW.keep
  refine go_stop (gt := fun _ => Option.none) (unroll := false) 60 [(2, 0, .is (.bool true)), (3, 1, .sem (.pointer (some (adt v i)))), (3, 2, .sem (.agg (tgA k p d x)))] [3, 4, 5, 6, 7] [.int .i64 (i : Int), .pointer (some ⟨w'.heap.size, 0, Option.none⟩), v, .int .i64 (l.length : Int), .int .i64 (i : Int)]
    [⟨w'.heap.size, (tgA k p d x).toList, true⟩] [(4, 0)] (atR mC 4 (.inv (myR w v l (j + 1)))) [(.bool (decide ((i : Int) < (l.length : Int))), .bool true)]
    [(Instr.indexAt 24 v (.int .i64 (i : Int)), .pointer (some (adt v i))), (Instr.loadAt 57 (.pointer (some (adt v i))), .agg (tgA k p d x))] hW (by kernel_rfl) ⟨congrArg Value.bool (by simpa using hc), trivial⟩ sl ?_
  intro w1 hW1 hS1
  have hs1 : ∀ {a : Addr} {u : Value}, w'.cell? a = some u → (∃ b o, a = ⟨b, o, none⟩) → w1.cell? a = some u := fun {a u} hc _ => by
    rw [← hc]
    exact World.cell?_of_block (hS1.same _ ⟨World.block_lt_of_cell? w' _ hc, fun _ h => nomatch h⟩)
  have hkk : ∀ {u : Value} {ks : List Int}, Ks w' u ks → Ks w1 u ks := fun r => ⟨r.shape, fun j hj => hs1 (r.cell j hj) ⟨_, _, rfl⟩⟩
  have c0 := hs1 c0 ⟨_, _, rfl⟩
  have c1 := hs1 c1 ⟨_, _, rfl⟩
  have k0 := hkk k0
  have k1 := hkk k1
  have hk1 : Kh w1 := ⟨v0, v1, c0, c1, k0, k1⟩
  have cm : CallOb Tryd.prog w1 27 [.is (.agg (tgA k p d x))] (.is (.bool (mayT ⟨k, p, d, x⟩))) := CallOb.of1 fun w8 kp => maytag_any (hk1.keep0 kp) ⟨k, p, d, x⟩
  by_cases h2 : 2 ≤ i
  · have e2 : decide ((i : Int) ≥ 2) = true := by simp; omega
    refine drawn_ok (gt := fun _ => Option.none) [(1, .is (.bool true))] [27] [.is (.bool true)] [(.bool (decide ((i : Int) ≥ 2)), .bool true)] [] [] [] [] hW1 (by kernel_rfl) (by kernel_rfl) ⟨congrArg Value.bool e2, trivial⟩ trivial trivial trivial trivial ?_
    intro w2 vs k2 hv
    match vs, hv with
    | [y], hy =>
    obtain rfl : y = .bool true := hy.1
    refine go_ret (gt := fun _ => Option.none) (unroll := false) 60 [] [.tmp 2] (.bool false) [] [] (hW1.later k2) Tryd.results22 (by kernel_rfl) trivial trivial (fun w9 hW9 _ => ⟨?_, hW9.keep⟩)
    rw [hm]
    simp [mayFrom, show ¬ i < 2 by omega]
  by_cases i0 : i = 0
  · subst i0
    have ck : CallOb Tryd.prog w1 50 [.is v0, .is (.int .u16 k)] (.is (.bool ((kindsL 0).contains k))) := by
      rintro w8 vals kp ha
      match vals, ha with
      | [y, z], hy =>
        obtain rfl : y = _ := hy.1
        obtain rfl : z = _ := hy.2.1
        exact (contains_any (i := 0) (by omega) (k0.keep0 kp) k).mono fun e w9 ⟨h1, h2⟩ => ⟨_, h1, h2, rfl⟩
    have sk : SemObsE Tryd.prog w1 [(Instr.loadAt 89 (.pointer (some ⟨0, 0, none⟩)), v0)] := ⟨fun w8 kp => sem_ldk (kp.cell c0 (fun f => f)), trivial⟩
    generalize hma : mayT ⟨k, p, d, x⟩ = b at *
    generalize hco : (kindsL 0).contains k = b' at *
    cases b with
    | false =>
      refine drawn_ok (gt := fun _ => Option.none) [(4, .call (.is (.bool false)))] [27] [.is (.bool true)] [] [(27, [.is (.agg (tgA k p d x))], .is (.bool false))] [] [] [] hW1 (by kernel_rfl) (by kernel_rfl) trivial ⟨cm, trivial⟩ trivial trivial trivial ?_
      intro w2 vs k2 hv
      match vs, hv with
      | [y], hy =>
      obtain rfl : y = .bool true := hy.1
      refine go_ret (gt := fun _ => Option.none) (unroll := false) 60 [] [.tmp 2] (.bool false) [] [] (hW1.later k2) Tryd.results22 (by kernel_rfl) trivial trivial (fun w9 hW9 _ => ⟨?_, hW9.keep⟩)
      rw [hm]
      simp [mayFrom, hma]
    | true =>
    cases b' with
    | false =>
      refine drawn_ok (gt := fun _ => Option.none) [(4, .call (.is (.bool true))), (10, .sem v0), (13, .call (.is (.bool false)))] [27] [.is (.bool true)] [] [(27, [.is (.agg (tgA k p d x))], .is (.bool true)), (50, [.is v0, .is (.int .u16 k)], .is (.bool false))] [] []
        [(Instr.loadAt 89 (.pointer (some ⟨0, 0, none⟩)), v0)] hW1 (by kernel_rfl) (by kernel_rfl) trivial ⟨cm, ck, trivial⟩ trivial trivial sk ?_
      intro w2 vs k2 hv
      match vs, hv with
      | [y], hy =>
      obtain rfl : y = .bool true := hy.1
      refine go_ret (gt := fun _ => Option.none) (unroll := false) 60 [] [.tmp 2] (.bool false) [] [] (hW1.later k2) Tryd.results22 (by kernel_rfl) trivial trivial (fun w9 hW9 _ => ⟨?_, hW9.keep⟩)
      rw [hm]
      simp only [mayFrom, hco, Bool.and_false, Bool.false_and]
    | true =>
      refine drawn_ok (gt := fun _ => Option.none) [(4, .call (.is (.bool true))), (10, .sem v0), (13, .call (.is (.bool true)))] [27, 5, 6, 7] [.is (.bool false), .is v, .is (.int .i64 (l.length : Int)), .is (.int .i64 (0 : Int))] [] [(27, [.is (.agg (tgA k p d x))], .is (.bool true)), (50, [.is v0, .is (.int .u16 k)], .is (.bool true))] [] []
        [(Instr.loadAt 89 (.pointer (some ⟨0, 0, none⟩)), v0)] hW1 (by kernel_rfl) (by kernel_rfl) trivial ⟨cm, ck, trivial⟩ trivial trivial sk ?_
      intro w2 vs k2 hv
      obtain rfl := allOk_is (vs := [.bool false, v, .int .i64 (l.length : Int), .int .i64 (0 : Int)]) hv
      refine go_inv (gt := fun _ => Option.none) (unroll := false) 60 [] [5, 6, 7] [v, .int .i64 (l.length : Int), .int .i64 (1 : Int)] [⟨w'.heap.size, (tgA k p d x).toList, true⟩] (myR w v l (j + 1)) [] [] (hW1.later k2) (by kernel_rfl) trivial trivial ?_
      intro w5 a hW5 hS5 hs
      refine ⟨j, by omega, ⟨by omega, hW5.fewer (rows := []), ?_⟩, ?_⟩
      · rw [hm, ← hnext]
        show (decide (0 < 2) && mayT ⟨k, p, d, x⟩ && (kindsL 0).contains k && _) = _
        rw [hma, hco]
        rfl
      · unfold myL
        rw [← hnext]
        exact hs
  · obtain rfl : i = 1 := by omega
    have ck : CallOb Tryd.prog w1 50 [.is v1, .is (.int .u16 k)] (.is (.bool ((kindsL 1).contains k))) := by
      rintro w8 vals kp ha
      match vals, ha with
      | [y, z], hy =>
        obtain rfl : y = _ := hy.1
        obtain rfl : z = _ := hy.2.1
        exact (contains_any (i := 1) (by omega) (k1.keep0 kp) k).mono fun e w9 ⟨h1, h2⟩ => ⟨_, h1, h2, rfl⟩
    have sk : SemObsE Tryd.prog w1 [(Instr.loadAt 89 (.pointer (some ⟨0, 1, none⟩)), v1)] := ⟨fun w8 kp => sem_ldk (kp.cell c1 (fun f => f)), trivial⟩
    generalize hma : mayT ⟨k, p, d, x⟩ = b at *
    generalize hco : (kindsL 1).contains k = b' at *
    cases b with
    | false =>
      refine drawn_ok (gt := fun _ => Option.none) [(4, .call (.is (.bool false)))] [27] [.is (.bool true)] [] [(27, [.is (.agg (tgA k p d x))], .is (.bool false))] [] [] [] hW1 (by kernel_rfl) (by kernel_rfl) trivial ⟨cm, trivial⟩ trivial trivial trivial ?_
      intro w2 vs k2 hv
      match vs, hv with
      | [y], hy =>
      obtain rfl : y = .bool true := hy.1
      refine go_ret (gt := fun _ => Option.none) (unroll := false) 60 [] [.tmp 2] (.bool false) [] [] (hW1.later k2) Tryd.results22 (by kernel_rfl) trivial trivial (fun w9 hW9 _ => ⟨?_, hW9.keep⟩)
      rw [hm]
      simp [mayFrom, hma]
    | true =>
    cases b' with
    | false =>
      refine drawn_ok (gt := fun _ => Option.none) [(4, .call (.is (.bool true))), (10, .sem v1), (13, .call (.is (.bool false)))] [27] [.is (.bool true)] [] [(27, [.is (.agg (tgA k p d x))], .is (.bool true)), (50, [.is v1, .is (.int .u16 k)], .is (.bool false))] [] []
        [(Instr.loadAt 89 (.pointer (some ⟨0, 1, none⟩)), v1)] hW1 (by kernel_rfl) (by kernel_rfl) trivial ⟨cm, ck, trivial⟩ trivial trivial sk ?_
      intro w2 vs k2 hv
      match vs, hv with
      | [y], hy =>
      obtain rfl : y = .bool true := hy.1
      refine go_ret (gt := fun _ => Option.none) (unroll := false) 60 [] [.tmp 2] (.bool false) [] [] (hW1.later k2) Tryd.results22 (by kernel_rfl) trivial trivial (fun w9 hW9 _ => ⟨?_, hW9.keep⟩)
      rw [hm]
      simp only [mayFrom, hco, Bool.and_false, Bool.false_and]
    | true =>
      refine drawn_ok (gt := fun _ => Option.none) [(4, .call (.is (.bool true))), (10, .sem v1), (13, .call (.is (.bool true)))] [27, 5, 6, 7] [.is (.bool false), .is v, .is (.int .i64 (l.length : Int)), .is (.int .i64 (1 : Int))] [] [(27, [.is (.agg (tgA k p d x))], .is (.bool true)), (50, [.is v1, .is (.int .u16 k)], .is (.bool true))] [] []
        [(Instr.loadAt 89 (.pointer (some ⟨0, 1, none⟩)), v1)] hW1 (by kernel_rfl) (by kernel_rfl) trivial ⟨cm, ck, trivial⟩ trivial trivial sk ?_
      intro w2 vs k2 hv
      obtain rfl := allOk_is (vs := [.bool false, v, .int .i64 (l.length : Int), .int .i64 (1 : Int)]) hv
      refine go_inv (gt := fun _ => Option.none) (unroll := false) 60 [] [5, 6, 7] [v, .int .i64 (l.length : Int), .int .i64 (2 : Int)] [⟨w'.heap.size, (tgA k p d x).toList, true⟩] (myR w v l (j + 1)) [] [] (hW1.later k2) (by kernel_rfl) trivial trivial ?_
      intro w5 a hW5 hS5 hs
      refine ⟨j, by omega, ⟨by omega, hW5.fewer (rows := []), ?_⟩, ?_⟩
      · rw [hm, ← hnext]
        show (decide (1 < 2) && mayT ⟨k, p, d, x⟩ && (kindsL 1).contains k && _) = _
        rw [hma, hco]
        rfl
      · unfold myL
        rw [← hnext]
        exact hs
theorem may_any (r : Rt w v l) (hk : Kh w) : Calls Tryd.prog 22 #[v] w (mQ w l) := by
  refine enter (args := [v]) Tryd.func22 (by kernel_rfl) ?_
  refine go_stop (gt := fun _ => Option.none) (unroll := false) 60 [(1, 1, .sem (.int .i64 (l.length : Int)))] [5, 6, 7] [v, .int .i64 (l.length : Int), .int .i64 0] [] [] (atL mC 2) [] [(Builtin.len_ #[24] 3 #[v], .int .i64 (l.length : Int))]
    (Wst.start0 w) (by kernel_rfl) trivial ⟨fun wx _ => r.sem_len ett (ty := 3) wx, trivial⟩ ?_
  intro w1 hW1 _
  have key := loop_ok (P := Tryd.prog) (Q := bodyPost Tryd.prog Tryd.f22 (mQ w l)) (n := mN) (x := loopOf (atL mC 2)) (k := (atL mC 2).tail) (myL v l.length) (myJ w l) (fun _ _ => by kernel_rfl) ?_ l.length w1 ⟨Nat.le_refl _, hW1, by simp [mayL]⟩
  · unfold myL at key
    rw [Nat.sub_self] at key
    exact key
  intro j w' hJ
  cases j with
  | succ j => exact may_round r hk j w' hJ
  | zero =>
  obtain ⟨_, hW, hm⟩ := hJ
  rw [Nat.sub_zero, List.drop_length] at hm
  unfold myL
  refine go_ret (gt := fun _ => Option.none) (unroll := false) 60 [(2, 0, .is (.bool false))] [.tmp 2] (.bool true) [(.bool (decide (((l.length - 0 : Nat) : Int) < (l.length : Int))), .bool false)] [] hW Tryd.results22 (by kernel_rfl) ⟨congrArg Value.bool (by simp), trivial⟩ trivial (fun w9 hW9 _ => ⟨by rw [hm]; rfl, hW9.keep⟩)
end
end Go.Proofs.YtcimfojbggckhaaDoor
namespace Go.Proofs.YtcimfojbggckhaaDoor
open Go.RowKit Go.ChangeShapes Go.WideShapes Go.ChangeAt

theorem lits_inj {H : Type} {k : IntKind} : ∀ {a b : List Int}, (lits k a : List (DataW H)) = lits k b → a = b
  | [], [], _ => rfl
  | [], _ :: _, h => by simp [lits] at h
  | _ :: _, [], h => by simp [lits] at h
  | x :: a, y :: b, h => by
    simp only [lits, List.map_cons, List.cons.injEq] at h
    obtain ⟨h1, h2⟩ := h
    have h3 : x = y := by simpa using h1
    rw [h3, lits_inj (k := k) h2]
theorem ks_of {H : Type} {enc : TypeId × Value → H} {W : World} {base : Nat} {spare : Nat → Bool} {held : Bool} {f : Nat} {cs : List Value} {x : DataW H × List MemPlace} {ks : List Int} {rest : List (DataW H)}
    (h : DataW.trod enc Tryd.prog W base spare held f 89 cs = some x) (hx : x.1 = .slice (lits .u16 ks) rest) (hne : 0 < ks.length) : ∃ v, cs = [v] ∧ Ks W v ks := by
  rcases open_ints Tryd.underlying89 Tryd.underlying55 (by kernel_rfl) h with ⟨_, rfl⟩ | ⟨a, len, cap, zs, hcs, hb, hl, hm, hz, rfl, hcell, _⟩
  · cases hx
  · simp only [DataW.slice.injEq] at hx
    have e : zs.take len = ks := lits_inj hx.1
    have hzl : len ≤ zs.length := by rw [hz]; split <;> omega
    have hlen : ks.length = len := by rw [← e, List.length_take]; omega
    have sp : a = ⟨a.block, a.off, none⟩ := by
      have := spot_of_cell (hcell 0 (by omega))
      simp [Addr.add] at this
      cases a
      simp_all
    refine ⟨_, hcs, ⟨⟨some a, cap, by rw [hlen], by omega, hm, by simp, fun _ => ⟨a.block, a.off, by rw [← sp]⟩⟩, fun j hj => ?_⟩⟩
    have h1 := hcell j (by omega)
    rw [sp, Addr_add_mk] at h1
    have h2 : ks.getD j 0 = zs.getD j 0 := by
      rw [← e, List.getD_eq_getElem?_getD, List.getElem?_take, if_pos (by omega), ← List.getD_eq_getElem?_getD]
    rw [h2]
    exact h1
theorem kh_of_laid {W : World} (h : laidMetH Tryd.prog Rows.tagReadsRow.laid W) : Kh W := by
  rw [MakeChecks.laidMetH_plain _ _ _ (by kernel_rfl)] at h
  obtain ⟨ps, ⟨g, t, cs, fuel, p, q, hg, ht, hv, hd, _, _⟩, _, _⟩ := h
  obtain rfl := Option.some.inj ((show Tryd.prog.globalNamed "toll/tag.kinds" = some 0 by kernel_rfl).symm.trans hg)
  obtain rfl := Option.some.inj ((show (Tryd.prog.globals[0]?).map (·.type) = some 90 by kernel_rfl).symm.trans ht)
  obtain ⟨xs, m, _, ex, _, hl, hel⟩ := DataW.trod_array Tryd.underlying90 hd
  have c5 : Tryd.prog.cellsOf 89 = 1 := by kernel_rfl
  have e3 : (xs.map (·.1)) = [.slice (lits .u16 [34984, 33024]) [], .slice (lits .u16 [33024]) []] := (DataW.agg.inj (Prod.mk.inj ex).1).symm
  have hE := fun r hr => hel r hr
  rw [c5] at hE
  have key : ∀ r, r < 2 → ∀ ks : List Int, (xs.map (·.1))[r]? = some (.slice (lits .u16 ks) []) → 0 < ks.length → ∃ v, W.cell? ⟨0, r, none⟩ = some v ∧ Ks W v ks := fun r hr ks hk hn => by
    have h1 := hE r hr
    rw [Nat.mul_one, List.getElem?_eq_getElem (by omega)] at h1
    rw [List.getElem?_map, List.getElem?_eq_getElem (by omega : r < xs.length), Option.map_some] at hk
    obtain ⟨v, e1, e2⟩ := ks_of h1 (Option.some.inj hk) hn
    refine ⟨v, ?_, e2⟩
    rw [World.var?_cell hg hv r]
    have h0 : ((cs.toList.drop r).take 1)[0]? = some v := by rw [e1]; rfl
    simpa using h0
  obtain ⟨v0, a1, a2⟩ := key 0 (by omega) [34984, 33024] (by rw [e3]; rfl) (by decide)
  obtain ⟨v1, b1, b2⟩ := key 1 (by omega) [33024] (by rw [e3]; rfl) (by decide)
  exact ⟨v0, v1, a1, b1, a2, b2⟩
/-- A tag whose numbers are of their kinds. -/
def Tg.wf (t : Tg) : Prop := t.k < 65536 ∧ t.p < 256 ∧ t.v < 65536
theorem tg_of {H : Type} {enc : TypeId × Value → H} {w : World} {base : Nat} {spare : Nat → Bool} {held : Bool} {cs : List Value} {f : Nat} {x : DataW H × List MemPlace} (hl : cs.length = 4)
    (h : DataW.trod enc Tryd.prog w base spare held f 57 cs = some x) : ∃ t : Tg, cs = t.a.toList ∧ t.wf := by
  obtain ⟨k, e0, w0⟩ := cell_int (d := 3) (j := 0) h (t' := 55) (by kernel_rfl) Tryd.underlying55
  obtain ⟨p, e1, w1⟩ := cell_int (d := 3) (j := 1) h (t' := 5) (by kernel_rfl) Tryd.underlying5
  obtain ⟨d, e2⟩ := cell_bool (d := 3) (j := 2) h (t' := 4) (by kernel_rfl) Tryd.underlying4
  obtain ⟨v, e3, w3⟩ := cell_int (d := 3) (j := 3) h (t' := 55) (by kernel_rfl) Tryd.underlying55
  have b0 := bounds_u16 w0
  have b1 := wf_u8 w1
  have b3 := bounds_u16 w3
  obtain ⟨k, rfl⟩ := Int.eq_ofNat_of_zero_le b0.1
  obtain ⟨p, rfl⟩ := Int.eq_ofNat_of_zero_le b1.1
  obtain ⟨v, rfl⟩ := Int.eq_ofNat_of_zero_le b3.1
  refine ⟨⟨k, p, d, v⟩, ?_, by show k < 65536; omega, by show p < 256; omega, by show v < 65536; omega⟩
  match cs, hl, e0, e1, e2, e3 with
  | [c0, c1, c2, c3], _, e0, e1, e2, e3 =>
    simp at e0 e1 e2 e3
    subst e0 e1 e2 e3
    rfl
/-- A tag that came in. -/
theorem open_tg {H : Type} {enc : TypeId × Value → H} {w : World} {base : Nat} {spare : Nat → Bool} {held : Bool} {cs : Array Value} {f : Nat} {x : DataW H × List MemPlace} (hs : cs.size = Tryd.prog.cellsOf 57)
    (h : DataW.trod enc Tryd.prog w base spare held f 57 cs.toList = some x) : ∃ t : Tg, cs = t.a ∧ t.wf := by
  obtain ⟨t, h1, h2⟩ := tg_of (by rw [Array.length_toList, hs]; kernel_rfl) h
  exact ⟨t, Array.ext' h1, h2⟩
theorem okWide_row {P : Program} {w : World} {r : Reach} {base : Nat} {t : TypeId} {v : Value} {d : TypeDesc} (ht : P.underlying t = some d) (hd : (match d with | .struct _ | .array _ _ => true | _ => false) = true) (h : Value.okWide P w r base t v) : ∃ cs, v = .agg cs ∧ cs.size = P.cellsOf t := by
  unfold Value.okWide at h
  rw [ht] at h
  cases d <;> simp at hd
  · obtain ⟨cs, h1, h2, _⟩ := h; exact ⟨cs, h1, h2⟩
  · obtain ⟨cs, h1, h2, _⟩ := h; exact ⟨cs, h1, h2⟩
end Go.Proofs.YtcimfojbggckhaaDoor
namespace Go.Proofs.YtcimfojbggckhaaDoor
open Go.RowKit

/-- A world behind W in which W's blocks are as they were. -/
structure Aft (V : World) where
  W : World
  k : Keep No V W

instance {V : World} : Nonempty (Aft V) := ⟨⟨V, Keep.refl _ _⟩⟩

theorem Aft.cells {W : World} {b : Nat} {cs : Array Value} {t : TypeId} (g : W.heap[b]? = some (.cells cs t (0, 0))) (s : Aft W) (i : Nat) : s.W.cell? ⟨b, i, Option.none⟩ = cs[i]? := by
  have hl : b < W.heap.size := by
    rcases Nat.lt_or_ge b W.heap.size with h | h
    · exact h
    · rw [Array.getElem?_eq_none h] at g; cases g
  exact cells_of ((s.k.block b hl (fun h => h)).trans g) i
theorem Aft.cell {W : World} {a : Addr} {v : Value} (h : W.cell? a = some v) (s : Aft W) : s.W.cell? a = some v := s.k.cell h (fun h => h)

section
variable {P : Program}
theorem wp_region_later {id : Nat} {Q : Exit → Act → World → Prop} {a : Act} {W : World} {l : List Oper} (hm : P.follows .mixedOrders = true) (hB : Region.lexB .any l.toArray = true)
    (h : wpQuiet P l.toArray (fun w' => ∃ s : Aft W, w' = s.W) (fun a' => ∀ w', (∃ s : Aft W, w' = s.W) → Q .normal a' w') l a) : (Code.region id l.toArray true).wp P Q a W :=
  wp_region_quiet (C := fun w' => ∃ s : Aft W, w' = s.W) hm hB ⟨⟨_, (Keep.refl _ _).drew⟩, rfl⟩ (by simpa using h)

theorem Aft.call {f : FuncId} {args : Array Value} {W : World} {v : Value} (s : Aft W) (h : ∀ w1, Keep No W w1 → Calls P f args w1 fun e w2 => e = .returned v ∧ Keep No w1 w2) :
    Calls P f args s.W fun e w2 => e = .returned v ∧ ∃ s' : Aft W, w2 = s'.W :=
  (h s.W s.k).mono fun _ w2 ⟨h1, h2⟩ => ⟨h1, ⟨w2, s.k.trans h2⟩, rfl⟩

/-! ### rows of numbers, compared -/
theorem run_eqItems_ints (d : Nat) {e : TypeId} {k : IntKind} (he : P.underlying e = some (.int k)) (hc : P.cellsOf e = 1) (w : World) (xs ys : Array Value) (f g : Nat → Int) : ∀ (is : List Nat),
    (∀ i ∈ is, xs[i]? = some (.int k (f i)) ∧ ys[i]? = some (.int k (g i))) → (Op.eqItems (d + 1) e (P.cellsOf e) xs ys is).run P w = .ok (is.all fun i => f i == g i) w
  | [], _ => by simp [Op.eqItems]
  | i :: is, h => by
    obtain ⟨h1, h2⟩ := h i (by simp)
    have hp : P.plainKey e = true := by simp [Program.plainKey, he]
    have p1 := run_part_plain (P := P) w hp h1
    have p2 := run_part_plain (P := P) w hp h2
    have ih := run_eqItems_ints d he hc w xs ys f g is (fun j hj => h j (by simp [hj]))
    rw [hc] at ih ⊢
    simp only [Op.eqItems, Nat.mul_one, Sem.run_bind, p1, p2, Result.andThen_ok, run_equalIn_int w d e k k (f i) (g i) he]
    cases hb : f i == g i
    · simp [hb]
    · simp [hb, ih]

theorem run_equal_ints (d : Nat) {t e : TypeId} {n : Nat} {k : IntKind} {i : TypeInfo} (ht : P.underlying t = some (.array n e)) (hi : P.info? e = some i) (he : P.underlying e = some (.int k)) (hc : P.cellsOf e = 1) (w : World) (xs ys : Array Value) (f g : Nat → Int)
    (h : ∀ j, j < n → xs[j]? = some (.int k (f j)) ∧ ys[j]? = some (.int k (g j))) :
    (Op.equalIn (d + 2) t (.agg xs) (.agg ys)).run P w = .ok ((List.range n).all fun j => f j == g j) w := by
  rw [run_equalIn_array w (d + 1) xs ys ht hi]
  exact run_eqItems_ints d he hc w xs ys f g _ (fun j hj => h j (by simpa using hj))
end
end Go.Proofs.YtcimfojbggckhaaDoor
namespace Go.Proofs.YtcimfojbggckhaaDoor
open Go.RowKit

/-- A tag's second half. -/
def wordN (t : Tg) : Nat := t.p * 8192 + ((if t.d then 4096 else 0) + t.v)
/-- The tag of a kind and a second half. -/
def tgN (k n : Nat) : Tg := ⟨k, n / 8192, n / 4096 % 2 == 1, n % 4096⟩
theorem wordN_lt {t : Tg} (hp : t.p < 8) (hv : t.v ≤ 4095) : wordN t < 65536 := by unfold wordN; split <;> omega
theorem tgN_word {t : Tg} (hp : t.p < 8) (hv : t.v ≤ 4095) : tgN t.k (wordN t) = t := by
  obtain ⟨k, p, d, v⟩ := t
  simp only at hp hv
  cases d
  · have e : wordN ⟨k, p, false, v⟩ = p * 8192 + v := by simp [wordN]
    simp only [tgN, e, Tg.mk.injEq, true_and]
    exact ⟨by omega, by simp; omega, by omega⟩
  · have e : wordN ⟨k, p, true, v⟩ = p * 8192 + (4096 + v) := by simp [wordN]
    simp only [tgN, e, Tg.mk.injEq, true_and]
    exact ⟨by omega, by simp; omega, by omega⟩
theorem u16_nat {n : Nat} (h : n < 65536) : IntKind.u16.wrap (n : Int) = (n : Int) := IntWalk.u16_in _ (by omega)
theorem or16_nat {a b : Nat} (ha : a < 65536) (hb : b < 65536) : or16 a b = ((a ||| b : Nat) : Int) := by
  unfold or16
  rw [BitVec.toNat_or]
  have e1 : (BitVec.ofInt 16 (a : Int)).toNat = a := by simp; omega
  have e2 : (BitVec.ofInt 16 (b : Int)).toNat = b := by simp; omega
  rw [e1, e2]
  exact u16_nat (Nat.or_lt_two_pow (n := 16) ha hb)
theorem and16_nat {a b : Nat} (ha : a < 65536) (hb : b < 65536) : and16 a b = ((a &&& b : Nat) : Int) := by
  unfold and16
  rw [BitVec.toNat_and]
  have e1 : (BitVec.ofInt 16 (a : Int)).toNat = a := by simp; omega
  have e2 : (BitVec.ofInt 16 (b : Int)).toNat = b := by simp; omega
  rw [e1, e2]
  exact u16_nat (Nat.lt_of_le_of_lt Nat.and_le_left ha)
theorem wordR_nat {t : Tg} (hp : t.p < 8) (hv : t.v ≤ 4095) : wordR t.p t.d t.v = (wordN t : Int) := by
  obtain ⟨k, p, d, v⟩ := t
  simp only at hp hv
  have e0 : IntKind.u16.wrap (IntKind.u16.wrap (p : Int) * 2 ^ 13) = ((p * 8192 : Nat) : Int) := by
    rw [u16_nat (by omega), show ((p : Int) * 2 ^ 13) = ((p * 8192 : Nat) : Int) from by rw [Int.natCast_mul]; rfl, u16_nat (by omega)]
  have e1 : or16 ((p * 8192 : Nat) : Int) (v : Int) = ((p * 8192 + v : Nat) : Int) := by
    rw [or16_nat (by omega) (by omega)]
    have := Nat.shiftLeft_add_eq_or_of_lt (i := 13) (show v < 2 ^ 13 by omega) p
    rw [Nat.shiftLeft_eq] at this
    rw [show p * 8192 ||| v = p * 8192 + v from this.symm]
  cases d
  · simp only [wordR, Bool.false_eq_true, if_false, e0, e1, wordN, Nat.zero_add]
  · have e2 : or16 ((p * 8192 + v : Nat) : Int) 4096 = ((p * 8192 + (4096 + v) : Nat) : Int) := by
      rw [show (4096 : Int) = ((4096 : Nat) : Int) from rfl, or16_nat (by omega) (by omega)]
      have h1 := Nat.shiftLeft_add_eq_or_of_lt (i := 13) (show v < 2 ^ 13 by omega) p
      have h2 := Nat.shiftLeft_add_eq_or_of_lt (i := 12) (show v < 2 ^ 12 by omega) 1
      have h3 := Nat.shiftLeft_add_eq_or_of_lt (i := 13) (show 4096 + v < 2 ^ 13 by omega) p
      rw [Nat.shiftLeft_eq] at h1 h2 h3
      have h4 : p * 8192 + v = p * 8192 ||| v := h1
      have h5 : 4096 + v = 4096 ||| v := by simpa using h2
      have h6 : p * 8192 + (4096 + v) = p * 8192 ||| (4096 + v) := h3
      rw [h6, h4, h5, Nat.or_assoc, Nat.or_comm v 4096]
    simp only [wordR, if_true, e0, e1, wordN]
    exact e2
theorem ofR_nat {k n : Nat} (hn : n < 65536) : ofR k n = (tgN k n).a := by
  have e1 : Int.fdiv (n : Int) (2 ^ 13) = ((n / 8192 : Nat) : Int) := by
    rw [Int.fdiv_eq_ediv_of_nonneg _ (by decide)]; rfl
  have e2 : Int.fdiv (n : Int) (2 ^ 12) = ((n / 4096 : Nat) : Int) := by
    rw [Int.fdiv_eq_ediv_of_nonneg _ (by decide)]; rfl
  have e3 : and16 ((n / 4096 : Nat) : Int) 1 = ((n / 4096 % 2 : Nat) : Int) := by
    rw [show (1 : Int) = ((1 : Nat) : Int) from rfl, and16_nat (by omega) (by omega)]
    have := Nat.and_two_pow_sub_one_eq_mod (n / 4096) 1
    rw [show n / 4096 &&& 1 = n / 4096 % 2 from this]
  have e4 : and16 (n : Int) 4095 = ((n % 4096 : Nat) : Int) := by
    rw [show (4095 : Int) = ((4095 : Nat) : Int) from rfl, and16_nat (by omega) (by omega)]
    have := Nat.and_two_pow_sub_one_eq_mod n 12
    rw [show n &&& 4095 = n % 4096 from this]
  have e5 : IntKind.u8.wrap ((n / 8192 : Nat) : Int) = ((n / 8192 : Nat) : Int) := IntWalk.u8_in _ (by omega)
  unfold ofR Tg.a tgN
  rw [e1, e2, e3, e4, e5]
  have e6 : (((n / 4096 % 2 : Nat) : Int) == 1) = (n / 4096 % 2 == 1) := by
    have : n / 4096 % 2 = 0 ∨ n / 4096 % 2 = 1 := by omega
    rcases this with h | h <;> rw [h] <;> rfl
  rw [e6]

section
variable (w : World)
theorem eq_tg (t : Tg) : (Op.equalIn 10000 57 (.agg t.a) (.agg t.a)).run Tryd.prog w = .ok true w := by
  simp [go_sem, Op.eqFields, tgA]
theorem eq_rtg (t : Tg) : (Op.equalIn 10000 72 (.agg t.a) (.agg t.a)).run Tryd.prog w = .ok true w := by
  simp [go_sem, Op.eqFields, tgA]
theorem neq_tg (x y : Operand) (t : Tg) : (do eqGuard .neq 57 x y (.agg t.a) (.agg t.a); binOp .neq 57 (.agg t.a) (.agg t.a) : Sem Value).run Tryd.prog w = .ok (.bool false) w := by
  have h4 : (eqGuard .neq 57 x y (.agg t.a) (.agg t.a)).run Tryd.prog w = .ok () w := aRun_none (l := []) (by kernel_rfl)
  simp only [Sem.run_bind, h4, Result.andThen_ok]
  rw [run_neq_struct, eq_tg]
  simp
theorem nbin_tg (t : Tg) : (binOp .neq 57 (.agg t.a) (.agg t.a) : Sem Value).run Tryd.prog w = .ok (.bool false) w := by
  rw [run_neq_struct, eq_tg]
  simp
theorem ebin_tg (t : Tg) : (binOp .eql 57 (.agg t.a) (.agg t.a) : Sem Value).run Tryd.prog w = .ok (.bool true) w := by
  rw [run_eql_struct, eq_tg]
  simp
theorem nbin_rtg (t : Tg) : (binOp .neq 72 (.agg t.a) (.agg t.a) : Sem Value).run Tryd.prog w = .ok (.bool false) w := by
  rw [run_neq_struct, eq_rtg]
  simp
end
end Go.Proofs.YtcimfojbggckhaaDoor
namespace Go.Proofs.YtcimfojbggckhaaDoor
open Go.RowKit

theorem ertt : ET Tryd.prog 30 72 where
  sl := Tryd.underlying30
  st := ⟨_, Tryd.underlying72, rfl⟩
  info := by
    have h : (Tryd.prog.info? 72).map (fun i => (i.size, i.bytes, i.zero)) = some (4, 6, some (.agg (tgA 0 0 false 0))) := by kernel_rfl
    cases hi : Tryd.prog.info? 72 with
    | none => rw [hi] at h; cases h
    | some i => rw [hi] at h; simp at h; exact ⟨i, .agg (tgA 0 0 false 0), rfl, h.1, h.2.1, h.2.2, rfl⟩
theorem Rt.len_max {w : World} {v : Value} {l : List Tg} (r : Rt w v l) : l.length ≤ 9223372036854775807 := by
  obtain ⟨ao, cap, _, h1, h2, _⟩ := r.shape
  simp only [maxLen] at h2
  omega

noncomputable abbrev teqC : Code := bodyOf Tryd.f40
noncomputable abbrev teqN : Nat := Tryd.f40.ntmps
abbrev teqQ (w : World) : Ending → World → Prop := fun x w' => x = .returned (.bool true) ∧ Keep No w w'
noncomputable def teqL (u v : Value) (n j : Nat) (w' : World) : Cfg := ⟨frOf [0, 1, 12, 13] [u, v, .int .i64 (n : Int), .int .i64 ((n - j : Nat) : Int)], tagL [], ⟨[], w'.heap.size⟩, atL teqC 4⟩
def teqJ (w : World) (n j : Nat) (w' : World) : Prop := j ≤ n ∧ Wst w ⟨[], w'.heap.size⟩ w'
noncomputable def teqR (w : World) (u v : Value) (n j : Nat) : Act → World → Prop := fun a' w' => ∃ j', j' < j ∧ teqJ w n j' w' ∧ agrees teqN (teqL u v n j' w') a'
theorem teq_any {w : World} {u v : Value} {l : List Tg} (ru : Rt w u l) (rv : Rt w v l) : Calls Tryd.prog 40 #[u, v] w (teqQ w) := by
  refine enter (args := [u, v]) Tryd.func40 (by kernel_rfl) ?_
  have hne : ((l.length : Int) != (l.length : Int)) = false := by simp
  refine go_stop (gt := fun _ => Option.none) (unroll := false) 60 [(1, 1, .sem (.int .i64 (l.length : Int))), (1, 3, .sem (.int .i64 (l.length : Int))), (1, 4, .is (.bool false)), (3, 1, .sem (.int .i64 (l.length : Int)))] [0, 1, 12, 13] [u, v, .int .i64 (l.length : Int), .int .i64 0] [] [] (atL teqC 4)
    [(.bool ((l.length : Int) != (l.length : Int)), .bool false)] [(Builtin.len_ #[24] 3 #[u], .int .i64 (l.length : Int)), (Builtin.len_ #[24] 3 #[v], .int .i64 (l.length : Int)), (Builtin.len_ #[24] 3 #[u], .int .i64 (l.length : Int))]
    (Wst.start0 w) (by kernel_rfl) ⟨congrArg Value.bool hne, trivial⟩ ⟨fun wx _ => ru.sem_len ett (ty := 3) wx, fun wx _ => rv.sem_len ett (ty := 3) wx, fun wx _ => ru.sem_len ett (ty := 3) wx, trivial⟩ ?_
  intro w1 hW1 _
  have key := loop_ok (P := Tryd.prog) (Q := bodyPost Tryd.prog Tryd.f40 (teqQ w)) (n := teqN) (x := loopOf (atL teqC 4)) (k := (atL teqC 4).tail) (teqL u v l.length) (teqJ w l.length) (fun _ _ => by kernel_rfl) ?_ l.length w1 ⟨Nat.le_refl _, hW1⟩
  · unfold teqL at key
    rw [Nat.sub_self] at key
    exact key
  intro j w' hJ
  cases j with
  | zero =>
    obtain ⟨_, hW⟩ := hJ
    unfold teqL
    exact go_ret (gt := fun _ => Option.none) (unroll := false) 60 [(4, 0, .is (.bool false))] [.tmp 4] (.bool true) [(.bool (decide (((l.length - 0 : Nat) : Int) < (l.length : Int))), .bool false)] [] hW Tryd.results40 (by kernel_rfl) ⟨congrArg Value.bool (by simp), trivial⟩ trivial (fun w9 hW9 _ => ⟨rfl, hW9.keep⟩)
  | succ j =>
    obtain ⟨hj, hW⟩ := hJ
    show Goal Tryd.prog (bodyPost Tryd.prog Tryd.f40 (teqQ w)) teqN { teqL u v l.length (j + 1) w' with todo := .code (loopOf (atL teqC 4)) :: .inv (teqR w u v l.length (j + 1)) :: (atL teqC 4).tail } w'
    unfold teqL
    have hi : l.length - (j + 1) < l.length := by omega
    have hnext : l.length - (j + 1) + 1 = l.length - j := by omega
    generalize hI : l.length - (j + 1) = i at *
    have hc : (i : Int) < (l.length : Int) := by omega
    have hu : ∀ wx, Keep No w' wx → Rt wx u l := fun wx k => ru.keep0 (hW.keep.trans k)
    have hv : ∀ wx, Keep No w' wx → Rt wx v l := fun wx k => rv.keep0 (hW.keep.trans k)
    have hai : ∃ t, l[i] = t := ⟨_, rfl⟩
    obtain ⟨t, ht⟩ := hai
    refine go_drawn_is (gt := fun _ => Option.none) (unroll := false) 60 [(4, 0, .is (.bool true))] [(.bool (decide ((i : Int) < (l.length : Int))), .bool true)] []
      [(2, .sem (.pointer (some (adt u i)))), (3, .sem (.agg t.a)), (6, .sem (.pointer (some (adt v i)))), (7, .sem (.agg t.a)), (8, .bin (.bool false))]
      [24, 0, 1, 12, 13] [.bool false, u, v, .int .i64 (l.length : Int), .int .i64 (i : Int)] [] [] (afterR teqC 6 (.inv (teqR w u v l.length (j + 1)))) [] [] [(.neq, 57, .agg t.a, .agg t.a, .bool false)]
      [(Instr.indexAt 24 u (.int .i64 (i : Int)), .pointer (some (adt u i))), (Instr.loadAt 57 (.pointer (some (adt u i))), .agg t.a), (Instr.indexAt 24 v (.int .i64 (i : Int)), .pointer (some (adt v i))), (Instr.loadAt 57 (.pointer (some (adt v i))), .agg t.a)]
      hW (by kernel_rfl) (by kernel_rfl) (by kernel_rfl) ⟨congrArg Value.bool (by simpa using hc), trivial⟩ trivial trivial ?_
    intro w1 hW1 _
    have k1 : Keep No w w1 := hW1.keep
    refine ⟨trivial, ⟨fun w2 _ => nbin_tg w2 t, trivial⟩, ⟨fun w2 k => ru.sem_at ett hi w2, fun w2 k => by rw [← ht]; exact (ru.keep0 (k1.trans k)).sem_ld ett hi, fun w2 k => rv.sem_at ett hi w2, fun w2 k => by rw [← ht]; exact (rv.keep0 (k1.trans k)).sem_ld ett hi, trivial⟩, ?_⟩
    intro w2 k2 hW2 _
    refine go_inv (gt := fun _ => Option.none) (unroll := false) 60 [(8, 0, .is (.int .i64 ((i + 1 : Nat) : Int)))] [0, 1, 12, 13] [u, v, .int .i64 (l.length : Int), .int .i64 ((i + 1 : Nat) : Int)] [] (teqR w u v l.length (j + 1)) [(.int .i64 (IntKind.i64.wrap ((i : Int) + 1)), .int .i64 ((i + 1 : Nat) : Int))] [] hW2 (by kernel_rfl)
      ⟨congrArg (Value.int .i64) (by rw [IntWalk.i64_in _ (by have := ru.len_max; omega)]; omega), trivial⟩ trivial ?_
    intro w5 a hW5 hS5 hs
    refine ⟨j, by omega, ⟨by omega, hW5⟩, ?_⟩
    unfold teqL
    rw [← hnext]
    exact hs

noncomputable abbrev reqC : Code := bodyOf Tryd.f36
noncomputable abbrev reqN : Nat := Tryd.f36.ntmps
abbrev reqQ (w : World) : Ending → World → Prop := fun x w' => x = .returned (.bool true) ∧ Keep No w w'
noncomputable def reqL (u v : Value) (n j : Nat) (w' : World) : Cfg := ⟨frOf [0, 1, 12, 13] [u, v, .int .i64 (n : Int), .int .i64 ((n - j : Nat) : Int)], tagL [], ⟨[], w'.heap.size⟩, atL reqC 4⟩
def reqJ (w : World) (n j : Nat) (w' : World) : Prop := j ≤ n ∧ Wst w ⟨[], w'.heap.size⟩ w'
noncomputable def reqR (w : World) (u v : Value) (n j : Nat) : Act → World → Prop := fun a' w' => ∃ j', j' < j ∧ reqJ w n j' w' ∧ agrees reqN (reqL u v n j' w') a'
theorem req_any {w : World} {u v : Value} {l : List Tg} (ru : Rt w u l) (rv : Rt w v l) : Calls Tryd.prog 36 #[u, v] w (reqQ w) := by
  refine enter (args := [u, v]) Tryd.func36 (by kernel_rfl) ?_
  have hne : ((l.length : Int) != (l.length : Int)) = false := by simp
  refine go_stop (gt := fun _ => Option.none) (unroll := false) 60 [(1, 1, .sem (.int .i64 (l.length : Int))), (1, 3, .sem (.int .i64 (l.length : Int))), (1, 4, .is (.bool false)), (3, 1, .sem (.int .i64 (l.length : Int)))] [0, 1, 12, 13] [u, v, .int .i64 (l.length : Int), .int .i64 0] [] [] (atL reqC 4)
    [(.bool ((l.length : Int) != (l.length : Int)), .bool false)] [(Builtin.len_ #[30] 3 #[u], .int .i64 (l.length : Int)), (Builtin.len_ #[30] 3 #[v], .int .i64 (l.length : Int)), (Builtin.len_ #[30] 3 #[u], .int .i64 (l.length : Int))]
    (Wst.start0 w) (by kernel_rfl) ⟨congrArg Value.bool hne, trivial⟩ ⟨fun wx _ => ru.sem_len ertt (ty := 3) wx, fun wx _ => rv.sem_len ertt (ty := 3) wx, fun wx _ => ru.sem_len ertt (ty := 3) wx, trivial⟩ ?_
  intro w1 hW1 _
  have key := loop_ok (P := Tryd.prog) (Q := bodyPost Tryd.prog Tryd.f36 (reqQ w)) (n := reqN) (x := loopOf (atL reqC 4)) (k := (atL reqC 4).tail) (reqL u v l.length) (reqJ w l.length) (fun _ _ => by kernel_rfl) ?_ l.length w1 ⟨Nat.le_refl _, hW1⟩
  · unfold reqL at key
    rw [Nat.sub_self] at key
    exact key
  intro j w' hJ
  cases j with
  | zero =>
    obtain ⟨_, hW⟩ := hJ
    unfold reqL
    exact go_ret (gt := fun _ => Option.none) (unroll := false) 60 [(4, 0, .is (.bool false))] [.tmp 4] (.bool true) [(.bool (decide (((l.length - 0 : Nat) : Int) < (l.length : Int))), .bool false)] [] hW Tryd.results36 (by kernel_rfl) ⟨congrArg Value.bool (by simp), trivial⟩ trivial (fun w9 hW9 _ => ⟨rfl, hW9.keep⟩)
  | succ j =>
    obtain ⟨hj, hW⟩ := hJ
    show Goal Tryd.prog (bodyPost Tryd.prog Tryd.f36 (reqQ w)) reqN { reqL u v l.length (j + 1) w' with todo := .code (loopOf (atL reqC 4)) :: .inv (reqR w u v l.length (j + 1)) :: (atL reqC 4).tail } w'
    unfold reqL
    have hi : l.length - (j + 1) < l.length := by omega
    have hnext : l.length - (j + 1) + 1 = l.length - j := by omega
    generalize hI : l.length - (j + 1) = i at *
    have hc : (i : Int) < (l.length : Int) := by omega
    have hu : ∀ wx, Keep No w' wx → Rt wx u l := fun wx k => ru.keep0 (hW.keep.trans k)
    have hv : ∀ wx, Keep No w' wx → Rt wx v l := fun wx k => rv.keep0 (hW.keep.trans k)
    have hai : ∃ t, l[i] = t := ⟨_, rfl⟩
    obtain ⟨t, ht⟩ := hai
    refine go_drawn_is (gt := fun _ => Option.none) (unroll := false) 60 [(4, 0, .is (.bool true))] [(.bool (decide ((i : Int) < (l.length : Int))), .bool true)] []
      [(2, .sem (.pointer (some (adt u i)))), (3, .sem (.agg t.a)), (6, .sem (.pointer (some (adt v i)))), (7, .sem (.agg t.a)), (8, .bin (.bool false))]
      [24, 0, 1, 12, 13] [.bool false, u, v, .int .i64 (l.length : Int), .int .i64 (i : Int)] [] [] (afterR reqC 6 (.inv (reqR w u v l.length (j + 1)))) [] [] [(.neq, 72, .agg t.a, .agg t.a, .bool false)]
      [(Instr.indexAt 30 u (.int .i64 (i : Int)), .pointer (some (adt u i))), (Instr.loadAt 72 (.pointer (some (adt u i))), .agg t.a), (Instr.indexAt 30 v (.int .i64 (i : Int)), .pointer (some (adt v i))), (Instr.loadAt 72 (.pointer (some (adt v i))), .agg t.a)]
      hW (by kernel_rfl) (by kernel_rfl) (by kernel_rfl) ⟨congrArg Value.bool (by simpa using hc), trivial⟩ trivial trivial ?_
    intro w1 hW1 _
    have k1 : Keep No w w1 := hW1.keep
    refine ⟨trivial, ⟨fun w2 _ => nbin_rtg w2 t, trivial⟩, ⟨fun w2 k => ru.sem_at ertt hi w2, fun w2 k => by rw [← ht]; exact (ru.keep0 (k1.trans k)).sem_ld ertt hi, fun w2 k => rv.sem_at ertt hi w2, fun w2 k => by rw [← ht]; exact (rv.keep0 (k1.trans k)).sem_ld ertt hi, trivial⟩, ?_⟩
    intro w2 k2 hW2 _
    refine go_inv (gt := fun _ => Option.none) (unroll := false) 60 [(8, 0, .is (.int .i64 ((i + 1 : Nat) : Int)))] [0, 1, 12, 13] [u, v, .int .i64 (l.length : Int), .int .i64 ((i + 1 : Nat) : Int)] [] (reqR w u v l.length (j + 1)) [(.int .i64 (IntKind.i64.wrap ((i : Int) + 1)), .int .i64 ((i + 1 : Nat) : Int))] [] hW2 (by kernel_rfl)
      ⟨congrArg (Value.int .i64) (by rw [IntWalk.i64_in _ (by have := ru.len_max; omega)]; omega), trivial⟩ trivial ?_
    intro w5 a hW5 hS5 hs
    refine ⟨j, by omega, ⟨by omega, hW5⟩, ?_⟩
    unfold reqL
    rw [← hnext]
    exact hs
end Go.Proofs.YtcimfojbggckhaaDoor
namespace Go.Proofs.YtcimfojbggckhaaDoor
open Go.RowKit

/-- What a call that makes new tags leaves. -/
structure FreshT (e : TypeId) (w : World) (l : List Tg) (v : Value) (w' : World) : Prop where
  own : Ot e w' v l
  keep : Keep No w w'
  since : Since w.heap.size v
section
variable {P : Program} {W0 w : World} {rows : List RowS} {v s : Value} {l ys : List Tg} {t e : TypeId}
theorem Ot.walk {m' : Mem} {w' : World} (h : Ot e w v l) (hl : Loose W0 ⟨rows, w.heap.size⟩ (fun k => v.ownBlock = some k)) (hS : Seg ⟨rows, w.heap.size⟩ w m' w') : Ot e w' v l :=
  h.same fun b hb => hS.same b ⟨h.lt b hb, fun r hr _ => (hl b hb).2 r hr⟩
theorem app_t (T : ET P t e) (o : Ot e w v l) (r : Rt w s ys) (hn : l.length + ys.length ≤ 1099511627776) (hl : Loose W0 ⟨rows, w.heap.size⟩ (fun k => v.ownBlock = some k)) (hW : Wst W0 ⟨rows, w.heap.size⟩ w) :
    ∃ v' w', (∀ ty, (Builtin.append_ #[t, t] ty #[v, s]).run P w = .ok v' w') ∧ Ot e w' v' (l ++ ys) ∧ Wst W0 ⟨rows, w'.heap.size⟩ w' ∧ Loose W0 ⟨rows, w'.heap.size⟩ (fun k => v'.ownBlock = some k) ∧ Keep (fun k => v.ownBlock = some k) w w' := by
  obtain ⟨v', w', h1, h2, h3, h4⟩ := run_append_t T o r hn
  refine ⟨v', w', h1, h2, hW.laterS h3 hl, fun k hk => ?_, h3⟩
  rcases h4 with h | h
  · rw [h] at hk; exact hl k hk
  · rw [h] at hk
    obtain rfl := Option.some.inj hk
    exact ⟨hW.keep.size, fun q hq e => by
      obtain ⟨t', ht⟩ := hW.rows q hq
      have := block_of_row ht
      omega⟩
/-- Tags that were made since w and can be read. -/
structure FreshR (w : World) (l : List Tg) (v : Value) (w' : World) : Prop where
  rt : Rt w' v l
  keep : Keep No w w'
  since : Since w.heap.size v
  lt : Under w'.heap.size v
theorem FreshT.r {w' : World} (h : FreshT e w l v w') : FreshR w l v w' := ⟨h.own.rt, h.keep, h.since, h.own.lt⟩
/-- What was made reads on. -/
theorem FreshR.walk {m' : Mem} {w1 w' : World} (h : FreshR w l v w1) (hr : ∀ r ∈ rows, r.own = true → ∀ b, v.ownBlock = some b → r.b ≠ b) (hS : Seg ⟨rows, w1.heap.size⟩ w1 m' w') : Rt w' v l :=
  h.rt.same fun b hb _ => hS.same b ⟨h.lt b hb, fun r hr' ho => hr r hr' ho b hb⟩
/-- 'append' onto a slice without room. -/
theorem run_append_full (T : ET P t e) {b : Nat} (hb : b < w.heap.size) (hu : Rt w (.slice (some ⟨b, 0, none⟩) l.length l.length) l) (r : Rt w s ys) (hn : l.length + ys.length ≤ 1099511627776) :
    ∃ v' w', (∀ ty, (Builtin.append_ #[t, t] ty #[.slice (some ⟨b, 0, none⟩) l.length l.length, s]).run P w = .ok v' w') ∧ Rt w' v' (l ++ ys) ∧ Keep No w w' ∧ (∀ k, v'.ownBlock = some k → k = b ∨ w.heap.size ≤ k) ∧ Under w'.heap.size v' := by
  obtain ⟨i, z, hi, hz1, hz2, hz3, hz4⟩ := T.info
  obtain ⟨ao, cap, rfl, _, _, hnl, hso⟩ := r.shape
  have hub : Under w.heap.size (.slice (some ⟨b, 0, none⟩) l.length l.length) := fun b' h => by
    obtain rfl : b = b' := by simpa [Value.ownBlock] using h
    exact hb
  cases ao with
  | none =>
    have hc0 := hnl rfl
    have hy : ys.length = 0 := by
      rcases Nat.eq_zero_or_pos ys.length with h | h
      · exact h
      · obtain ⟨b, o, h⟩ := hso h; cases h
    have hy' : ys = [] := List.length_eq_zero_iff.1 hy
    subst hy' hc0
    refine ⟨_, w, fun ty => ?_, by simpa using hu, Keep.refl _ _, fun k h => .inl (by simpa [Value.ownBlock] using h.symm), hub⟩
    simp [Builtin.append_, run_underlying T.sl, sizeOf, typeInfo, hi, Builtin.lenOf, Builtin.firstCells, storeCells]
  | some a =>
    have hnews : ∀ j u, (csT ys)[j]? = some u → w.cell? (a.add j) = some u := fun j u hj => by
      by_cases hjl : j < ys.length * 4
      · obtain ⟨b, o, hbo⟩ := hso (by omega)
        cases hbo
        have := r.cell j hjl
        rw [List.getD_eq_getElem?_getD, hj] at this
        simpa [blk, offs, Addr_add_mk] using this
      · rw [List.getElem?_eq_none (by rw [csT_length]; omega)] at hj; cases hj
    rcases Nat.eq_zero_or_pos ys.length with hy | hy
    · have hy' : ys = [] := List.length_eq_zero_iff.1 hy
      subst hy'
      refine ⟨_, w, fun ty => ?_, by simpa using hu, Keep.refl _ _, fun k h => .inl (by simpa [Value.ownBlock] using h.symm), hub⟩
      have := run_append_room_cells (P := P) w t ty e i T.sl hi b 0 l.length l.length a 0 cap [] (by simp) (by simp) (by simp) (by omega) (by simp) (by simp)
      simpa [World.setCells] using this
    · have key := fun ty => run_append_arg_grows (P := P) w t ty e i z 4 6 T.sl hi hz3 hz1 hz2 hz4 (by decide) ⟨b, 0, none⟩ l.length l.length (csT l) (csT_length l)
        (fun j u hj => by
          by_cases hjl : j < l.length * 4
          · have := hu.cell j hjl
            rw [List.getD_eq_getElem?_getD, hj] at this
            simpa [blk, offs, Addr_add_mk] using this
          · rw [List.getElem?_eq_none (by rw [csT_length]; omega)] at hj; cases hj)
        a ys.length cap (csT ys) (csT_length ys) hnews (by omega) (by simp only [maxLen]; omega) (by omega)
      obtain ⟨v', w', hr, h2, h3⟩ := key 0
      have ho : Ot e w' v' (l ++ ys) := by
        obtain ⟨q1, q2⟩ := h2
        unfold Ot
        rw [List.length_append, csT_append]
        refine ⟨q1, ?_⟩
        rcases q2 with q2 | ⟨g, cp, cur, e1, e2, e3, e4⟩
        · exact .inl q2
        · exact .inr ⟨g, cp, cur, e1, Nat.zero_le _, e3, e4⟩
      refine ⟨v', w', fun ty => hr, ho.rt, ⟨h3.os, h3.tape, h3.output, h3.size, fun k hk hn => h3.block k hk (fun e => by cases e)⟩, fun k hk => ?_, ho.lt⟩
      obtain ⟨q1, q2⟩ := h2
      rcases q2 with ⟨_, q2⟩ | ⟨g, cp, cur, e1, e2, e3, e4, e5, e6, e7⟩
      · omega
      · rw [e1] at hk
        obtain rfl : g = k := by simpa [Value.ownBlock] using hk
        exact .inr e2
theorem Since.loose {nx : Nat} (h : Since W0.heap.size v) (hr : ∀ b, v.ownBlock = some b → ∀ r ∈ rows, r.b ≠ b) : Loose W0 ⟨rows, nx⟩ (fun k => v.ownBlock = some k) := fun k hk => ⟨h k hk, hr k hk⟩
end

noncomputable abbrev ofC : Code := bodyOf Tryd.f37
noncomputable abbrev ofN : Nat := Tryd.f37.ntmps
abbrev ofQ (w : World) (l : List Tg) : Ending → World → Prop := fun x w' => ∃ v, x = .returned v ∧ FreshT 72 w l v w'
noncomputable def ofL (v : Value) (n : Nat) (i : Nat × Value) (w' : World) : Cfg := ⟨frOf [3, 6, 7, 8] [i.2, v, .int .i64 (n : Int), .int .i64 ((n - i.1 : Nat) : Int)], tagL [], ⟨[], w'.heap.size⟩, atL ofC 3⟩
def ofJ (w : World) (l : List Tg) (i : Nat × Value) (w' : World) : Prop := i.1 ≤ l.length ∧ Wst w ⟨[], w'.heap.size⟩ w' ∧ Ot 72 w' i.2 (l.take (l.length - i.1)) ∧ Since w.heap.size i.2
noncomputable def ofRd (w : World) (v : Value) (l : List Tg) (i : Nat × Value) : Act → World → Prop := fun a' w' => ∃ j, j.1 < i.1 ∧ ofJ w l j w' ∧ agrees ofN (ofL v l.length j w') a'
theorem lawof_any {w : World} {v : Value} {l : List Tg} (r : Rt w v l) (hl : l.length ≤ 1000000) : Calls Tryd.prog 37 #[v] w (ofQ w l) := by
  refine enter (args := [v]) Tryd.func37 (by kernel_rfl) ?_
  refine go_stop (gt := fun _ => Option.none) (unroll := false) 60 [(2, 1, .sem (.int .i64 (l.length : Int)))] [3, 6, 7, 8] [.slice none 0 0, v, .int .i64 (l.length : Int), .int .i64 0] [] [] (atL ofC 3) [] [(Builtin.len_ #[24] 3 #[v], .int .i64 (l.length : Int))]
    (Wst.start0 w) (by kernel_rfl) trivial ⟨fun wx _ => r.sem_len ett (ty := 3) wx, trivial⟩ ?_
  intro w1 hW1 _
  have key := loop_okT (P := Tryd.prog) (Q := bodyPost Tryd.prog Tryd.f37 (ofQ w l)) (n := ofN) (x := loopOf (atL ofC 3)) (k := (atL ofC 3).tail) (fun i : Nat × Value => i.1) (ofL v l.length) (ofJ w l) (fun _ _ => by kernel_rfl) ?_ (l.length, .slice none 0 0) w1
    ⟨Nat.le_refl _, hW1, by simpa using Ot.nil _ _, fun b hb => by simp [Value.ownBlock] at hb⟩
  · unfold ofL at key
    rw [Nat.sub_self] at key
    exact key
  rintro ⟨j, vo⟩ w' hJ
  obtain ⟨hj, hW, ho, hsi⟩ := hJ
  simp only at hj ho hsi
  cases j with
  | zero =>
    rw [Nat.sub_zero, List.take_length] at ho
    unfold ofL
    refine go_ret (gt := fun _ => Option.none) (unroll := false) 60 [(3, 0, .is (.bool false))] [.tmp 2] vo [(.bool (decide (((l.length - 0 : Nat) : Int) < (l.length : Int))), .bool false)] [] hW Tryd.results37 (by kernel_rfl) ⟨congrArg Value.bool (by simp), trivial⟩ trivial (fun w9 hW9 hS9 => ⟨vo, rfl, ?_, hW9.keep, hsi⟩)
    exact ho.walk (rows := []) (W0 := w) (hsi.loose (fun _ _ _ h => nomatch h)) hS9
  | succ j =>
    show Goal Tryd.prog (bodyPost Tryd.prog Tryd.f37 (ofQ w l)) ofN { ofL v l.length (j + 1, vo) w' with todo := .code (loopOf (atL ofC 3)) :: .inv (ofRd w v l (j + 1, vo)) :: (atL ofC 3).tail } w'
    unfold ofL
    simp only
    have hi : l.length - (j + 1) < l.length := by omega
    have hnext : l.length - (j + 1) + 1 = l.length - j := by omega
    generalize hI : l.length - (j + 1) = i at *
    have hc : (i : Int) < (l.length : Int) := by omega
    obtain ⟨t, ht⟩ : ∃ t, l[i] = t := ⟨_, rfl⟩
    have hld : ∀ wx, (∀ k, Safe ⟨[], w'.heap.size⟩ k → wx.heap[k]? = w'.heap[k]?) → Rt wx v l := fun wx hx => r.walk hW hx
    have sl : SemObs Tryd.prog ⟨[], w'.heap.size⟩ w' [(Instr.indexAt 24 v (.int .i64 (i : Int)), .pointer (some (adt v i))), (Instr.loadAt 57 (.pointer (some (adt v i))), .agg t.a)] :=
      ⟨fun wx _ => r.sem_at ett hi wx, fun wx hx => by rw [← ht]; exact (hld wx hx).sem_ld ett hi, trivial⟩
    refine go_appX (gt := fun _ => Option.none) (unroll := false) 60 [(3, 0, .is (.bool true)), (4, 0, .sem (.pointer (some (adt v i)))), (4, 1, .sem (.agg t.a)), (5, 3, .stop)] vo (.slice (some ⟨w'.heap.size + 1, 0, none⟩) 1 1) 30
      [6, 7, 8] [v, .int .i64 (l.length : Int), .int .i64 (i : Int)] 15 [⟨w'.heap.size, t.a.toList, true⟩, ⟨w'.heap.size + 1, t.a.toList, true⟩] [] (inR ofC 5 3 (.inv (ofRd w v l (j + 1, vo))))
      [(.bool (decide ((i : Int) < (l.length : Int))), .bool true)] [(Instr.indexAt 24 v (.int .i64 (i : Int)), .pointer (some (adt v i))), (Instr.loadAt 57 (.pointer (some (adt v i))), .agg t.a)]
      hW (by kernel_rfl) ⟨congrArg Value.bool (by simpa using hc), trivial⟩ sl ?_
    intro w1 hW1 hS1
    have ho1 := ho.walk (rows := []) (W0 := w) (hsi.loose (fun _ _ _ h => nomatch h)) hS1
    obtain ⟨tt, hrow⟩ := hW1.rows ⟨w'.heap.size + 1, t.a.toList, true⟩ (by simp)
    have r1 : Rt w1 (.slice (some ⟨w'.heap.size + 1, 0, none⟩) 1 1) [t] := Rt.of_row (l := [t]) hrow (by simp [csT]) (by simp [maxLen])
    have hlo : Loose w ⟨[⟨w'.heap.size, t.a.toList, true⟩, ⟨w'.heap.size + 1, t.a.toList, true⟩], w1.heap.size⟩ (fun k => vo.ownBlock = some k) := hsi.loose fun b hb q hq => by
      have := ho.lt b hb
      rcases List.mem_cons.1 hq with rfl | hq
      · show w'.heap.size ≠ b; omega
      · obtain rfl := List.mem_singleton.1 hq
        show w'.heap.size + 1 ≠ b; omega
    obtain ⟨vn, w2, ha, ho2, hW2, hl2, _⟩ := app_t ertt ho1 r1 (by simp; omega) hlo hW1
    refine ⟨vn, w2, ha, ?_⟩
    refine go_inv (gt := fun _ => Option.none) (unroll := false) 60 [(6, 0, .is (.int .i64 ((i + 1 : Nat) : Int)))] [3, 6, 7, 8] [vn, v, .int .i64 (l.length : Int), .int .i64 ((i + 1 : Nat) : Int)] [⟨w'.heap.size, t.a.toList, true⟩, ⟨w'.heap.size + 1, t.a.toList, true⟩] (ofRd w v l (j + 1, vo)) [(.int .i64 (IntKind.i64.wrap ((i : Int) + 1)), .int .i64 ((i + 1 : Nat) : Int))] [] hW2 (by kernel_rfl)
      ⟨congrArg (Value.int .i64) (by rw [IntWalk.i64_in _ (by omega)]; omega), trivial⟩ trivial ?_
    intro w5 a hW5 hS5 hs
    refine ⟨(j, vn), by simp, ⟨by omega, hW5.fewer (rows := []), ?_, fun b hb => (hl2 b hb).1⟩, ?_⟩
    · have := ho2.walk hl2 hS5
      rw [← hnext, List.take_succ_eq_append_getElem hi, ht]
      exact this
    · unfold ofL
      simp only
      rw [← hnext]
      exact hs

theorem isnil_t {w : World} {v : Value} {l : List Tg} (r : Rt w v l) (wx : World) : (do eqGuard .eql 24 (.tmp 3) (.const (.slice none 0 0)) v (.slice none 0 0); binOp .eql 24 v (.slice none 0 0) : Sem Value).run Tryd.prog wx = .ok (.bool (isNil v)) wx := by
  obtain ⟨ao, cap, rfl, _⟩ := r.shape
  simp only [Sem.run_bind, run_eqGuard_slice, Result.andThen_ok]
  exact Lib.run_eql_slice_nil wx 24 57 ao _ cap 0 0 ett.sl
abbrev tcQ (w : World) (l : List Tg) : Ending → World → Prop := fun x w' => ∃ v, x = .returned v ∧ FreshR w l v w'
theorem tclone_any {w : World} {v : Value} {l : List Tg} (r : Rt w v l) (hl : l.length ≤ 1000000) : Calls Tryd.prog 58 #[v] w (tcQ w l) := by
  have hn := isnil_t r
  refine enter (args := [v]) Tryd.func58 (by kernel_rfl) ?_
  cases h : isNil v with
  | true =>
    rw [h] at hn
    have hle : l = [] := by
      obtain ⟨ao, cap, rfl, hc, _, hn, hs⟩ := r.shape
      cases ao with
      | some a => simp [isNil] at h
      | none => exact List.length_eq_zero_iff.1 (by have := hn rfl; omega)
    subst hle
    exact go_ret (gt := fun _ => Option.none) (unroll := false) 60 [(1, 1, .sem (.bool true))] [.tmp 2] (.slice none 0 0) [] [((do eqGuard .eql 24 (.tmp 3) (.const (.slice none 0 0)) v (.slice none 0 0); binOp .eql 24 v (.slice none 0 0) : Sem Value), .bool true)] (Wst.start0 w) Tryd.results58 (by kernel_rfl) trivial ⟨fun wx _ => hn wx, trivial⟩
      (fun w9 hW9 _ => ⟨_, rfl, Rt.nil _, hW9.keep, fun b hb => by simp [Value.ownBlock] at hb, fun b hb => by simp [Value.ownBlock] at hb⟩)
  | false =>
    rw [h] at hn
    refine go_appX (gt := fun _ => Option.none) (unroll := false) 60 [(1, 1, .sem (.bool false)), (3, 2, .stop)] (.slice (some ⟨w.heap.size, 0, none⟩) 0 0) v 24 [] [] 7 [⟨w.heap.size, [], true⟩] [] (inR (bodyOf Tryd.f58) 3 2)
      [] [((do eqGuard .eql 24 (.tmp 3) (.const (.slice none 0 0)) v (.slice none 0 0); binOp .eql 24 v (.slice none 0 0) : Sem Value), .bool false)] (Wst.start0 w) (by kernel_rfl) trivial ⟨fun wx _ => hn wx, trivial⟩ ?_
    intro w1 hW1 _
    have hW1' : Wst w ⟨[], w1.heap.size⟩ w1 := hW1.fewer (rows := []) (more := [⟨w.heap.size, [], true⟩])
    obtain ⟨tt, hrow⟩ := hW1.rows ⟨w.heap.size, [], true⟩ (by simp)
    have u1 : Rt w1 (.slice (some ⟨w.heap.size, 0, none⟩) 0 0) [] := Rt.of_row (l := []) hrow rfl (by simp)
    obtain ⟨vn, w2, ha, ho2, k2, hb2, hl2⟩ := run_append_full ett (l := []) (block_of_row hrow) u1 (r.keep0 hW1.keep) (by simp; omega)
    have hW2 := hW1'.later k2
    have hsi : Since w.heap.size vn := fun b hb => by
      rcases hb2 b hb with rfl | h
      · exact Nat.le_refl _
      · exact Nat.le_trans hW1.keep.size h
    refine ⟨vn, w2, ha, ?_⟩
    refine Goal.re (tags := tagL []) (m := ⟨[], w2.heap.size⟩) ?_
    exact go_ret (gt := fun _ => Option.none) (unroll := false) 60 [] [.tmp 2] vn [] [] hW2 Tryd.results58 (by kernel_rfl) trivial trivial (fun w9 hW9 hS9 => ⟨vn, rfl, (ho2.same fun b hb _ => hS9.same b ⟨hl2 b hb, fun _ h => nomatch h⟩), hW9.keep, hsi, fun b hb => by have := hl2 b hb; have := hS9.le; rw [hW9.size]; exact Nat.lt_of_lt_of_le (hl2 b hb) hS9.le⟩)
end Go.Proofs.YtcimfojbggckhaaDoor
namespace Go.Proofs.YtcimfojbggckhaaDoor
open Go.RowKit

/-- At block p lies a cutter of the bytes bs (the slice sv), of which at_ were taken, with the error e. -/
structure Cu (w : World) (p : Nat) (sv : Value) (bs : List UInt8) (at_ : Nat) (e : Int) : Prop where
  c0 : w.cell? ⟨p, 0, none⟩ = some sv
  c1 : w.cell? ⟨p, 1, none⟩ = some (.int .i64 (at_ : Int))
  c2 : w.cell? ⟨p, 2, none⟩ = some (.int .i64 e)
  c3 : w.cell? ⟨p, 3, none⟩ = some (.bool true)
  fz : ∀ o, w.frozen? ⟨p, o, none⟩ = false
  rd : Rd w sv bs
  apart : sv.ownBlock ≠ some p
  under : Under w.heap.size sv
  le : at_ ≤ bs.length
  big : bs.length ≤ 140737488351232

theorem Cu.lt {w : World} {p : Nat} {sv : Value} {bs : List UInt8} {at_ : Nat} {e : Int} (h : Cu w p sv bs at_ e) : p < w.heap.size := World.block_lt_of_cell? w _ h.c0

theorem Cu.keep {S : Nat → Prop} {w w' : World} {p : Nat} {sv : Value} {bs : List UInt8} {at_ : Nat} {e : Int} (h : Cu w p sv bs at_ e) (k : Keep S w w') (hp : ¬ S p) (hs : ∀ b, sv.ownBlock = some b → ¬ S b) : Cu w' p sv bs at_ e where
  c0 := k.cell h.c0 hp
  c1 := k.cell h.c1 hp
  c2 := k.cell h.c2 hp
  c3 := k.cell h.c3 hp
  fz := fun o => (k.frozen (a := ⟨p, o, none⟩) h.lt hp).trans (h.fz o)
  rd := h.rd.keep k hs
  apart := h.apart
  under := fun b hb => Nat.lt_of_lt_of_le (h.under b hb) k.size
  le := h.le
  big := h.big
theorem Cu.keep0 {w w' : World} {p : Nat} {sv : Value} {bs : List UInt8} {at_ : Nat} {e : Int} (h : Cu w p sv bs at_ e) (k : Keep No w w') : Cu w' p sv bs at_ e := h.keep k (fun f => f) (fun _ _ f => f)

theorem Cu.setAt {w : World} {p : Nat} {sv : Value} {bs : List UInt8} {at_ : Nat} {e : Int} (h : Cu w p sv bs at_ e) (n : Nat) (hn : n ≤ bs.length) : Cu (w.setCell ⟨p, 1, none⟩ (.int .i64 (n : Int))) p sv bs n e where
  c0 := by rw [World.cell?_setCell_other _ _ _ _ (by simp)]; exact h.c0
  c1 := by rw [World.cell?_setCell_same _ _ _ h.c1]
  c2 := by rw [World.cell?_setCell_other _ _ _ _ (by simp)]; exact h.c2
  c3 := by rw [World.cell?_setCell_other _ _ _ _ (by simp)]; exact h.c3
  fz := fun o => by rw [World.frozen?_setCell]; exact h.fz o
  rd := h.rd.keep (Keep.set1 _ _ _ _) (fun b hb hS => h.apart (by rw [hb, show b = p from hS]))
  apart := h.apart
  under := fun b hb => by rw [World.size_setCell]; exact h.under b hb
  le := hn
  big := h.big
theorem Cu.setErr {w : World} {p : Nat} {sv : Value} {bs : List UInt8} {at_ : Nat} {e : Int} (h : Cu w p sv bs at_ e) (n : Int) : Cu (w.setCell ⟨p, 2, none⟩ (.int .i64 n)) p sv bs at_ n where
  c0 := by rw [World.cell?_setCell_other _ _ _ _ (by simp)]; exact h.c0
  c1 := by rw [World.cell?_setCell_other _ _ _ _ (by simp)]; exact h.c1
  c2 := by rw [World.cell?_setCell_same _ _ _ h.c2]
  c3 := by rw [World.cell?_setCell_other _ _ _ _ (by simp)]; exact h.c3
  fz := fun o => by rw [World.frozen?_setCell]; exact h.fz o
  rd := h.rd.keep (Keep.set1 _ _ _ _) (fun b hb hS => h.apart (by rw [hb, show b = p from hS]))
  apart := h.apart
  under := fun b hb => by rw [World.size_setCell]; exact h.under b hb
  le := h.le
  big := h.big

section
variable {w : World} {p : Nat} {sv : Value} {bs : List UInt8} {at_ : Nat} {e : Int}

set_option maxHeartbeats 400000 in
theorem cnone_any (h : w.cell? ⟨p, 3, Option.none⟩ = some (.bool true)) :
    Calls Tryd.prog 73 #[.pointer (some ⟨p, 0, Option.none⟩)] w fun e w' => e = .returned (.bool false) ∧ w = w' := by
  go_enter Tryd.func73, Tryd.ntmps73
  go_wp2
  go_ret
  exact ⟨rfl, rfl⟩

set_option maxHeartbeats 400000 in
theorem err_any (h : Cu w p sv bs at_ e) :
    Calls Tryd.prog 70 #[.pointer (some ⟨p, 0, Option.none⟩)] w fun x w' => x = .returned (.int .i64 e) ∧ w = w' := by
  have h2 := h.c2
  go_enter Tryd.func70, Tryd.ntmps70
  go_wp2_with (go_at_call 73; refine (cnone_any h.c3).mono ?_; rintro e w' ⟨rfl, rfl⟩)
  go_ret
  exact ⟨rfl, rfl⟩

def leftR (bs : List UInt8) (at_ : Nat) (e : Int) : Nat := if e = 0 then bs.length - at_ else 0

set_option maxHeartbeats 400000 in
theorem left_any (h : Cu w p sv bs at_ e) :
    Calls Tryd.prog 72 #[.pointer (some ⟨p, 0, Option.none⟩)] w fun x w' => x = .returned (.int .i64 (leftR bs at_ e : Nat)) ∧ ∃ n, w' = w.drewN n := by
  have hle := h.le
  have hbig := h.big
  by_cases he : e = 0
  · have hb : (e != 0) = false := by simp [he]
    have h0 := h.c0
    have h1 := h.c1
    have hlen : ∀ wx, (Builtin.len_ #[26] 3 #[sv]).run Tryd.prog wx = .ok (.int .i64 (bs.length : Int)) wx := fun wx => h.rd.run_len bt.sl
    have HE := Lib.hid he
    clear he
    go_enter Tryd.func72, Tryd.ntmps72
    go_wp2_with (go_at_call 70; refine (err_any h).mono ?_; rintro x w' ⟨rfl, rfl⟩)
    go_quiet (fail)
    go_wp2
    go_ret
    refine ⟨?_, _, rfl⟩
    rw [leftR, if_pos HE.out, Int.ofNat_sub hle]; rfl
  · have hb : (e != 0) = true := by simp [he]
    go_enter Tryd.func72, Tryd.ntmps72
    go_wp2_with (go_at_call 70; refine (err_any h).mono ?_; rintro x w' ⟨rfl, rfl⟩)
    go_ret
    exact ⟨by rw [leftR, if_neg he]; rfl, 0, rfl⟩

def failR (e n : Int) : Int := if e = 0 then n else e

set_option maxHeartbeats 400000 in
theorem fail_any (h : Cu w p sv bs at_ e) (n : Int) :
    Calls Tryd.prog 71 #[.pointer (some ⟨p, 0, Option.none⟩), .int .i64 n] w fun x w' => x = .returned (.tuple #[]) ∧ Cu w' p sv bs at_ (failR e n) ∧ Keep (One p) w w' := by
  have h2 := h.c2
  have hf := h.fz 2
  by_cases he : e = 0
  · subst he
    go_enter Tryd.func71, Tryd.ntmps71
    go_wp2_with (go_at_call 73; refine (cnone_any h.c3).mono ?_; rintro e w' ⟨rfl, rfl⟩)
    go_end0
    exact ⟨rfl, h.setErr n, Keep.set1 _ _ _ _⟩
  · have hb : (e == 0) = false := by simp [he]
    go_enter Tryd.func71, Tryd.ntmps71
    go_wp2_with (go_at_call 73; refine (cnone_any h.c3).mono ?_; rintro e w' ⟨rfl, rfl⟩)
    go_end0
    refine ⟨rfl, ?_, Keep.refl _ _⟩
    rw [failR, if_neg he]; exact h

/-- What Take(n) leaves: the bytes, how many were taken, the error. -/
def takeB (bs : List UInt8) (at_ : Nat) (e n : Int) : List UInt8 := if e = 0 ∧ 0 ≤ n ∧ n ≤ (bs.length - at_ : Nat) then (bs.drop at_).take n.toNat else []
def takeA (bs : List UInt8) (at_ : Nat) (e n : Int) : Nat := if e = 0 ∧ 0 ≤ n ∧ n ≤ (bs.length - at_ : Nat) then at_ + n.toNat else at_
def takeE (bs : List UInt8) (at_ : Nat) (e n : Int) : Int := if e = 0 then (if n < 0 then 1 else if (bs.length - at_ : Nat) < n then 4 else 0) else e

/-- What a call that makes new bytes and works on the cutter at p leaves. -/
structure Took (w : World) (p : Nat) (sv : Value) (bs : List UInt8) (at' : Nat) (e' : Int) (out : List UInt8) (v : Value) (w' : World) : Prop where
  own : Own 5 w' v out
  since : Since w.heap.size v
  cu : Cu w' p sv bs at' e'
  keep : Keep (One p) w w'

theorem Took.none {w' : World} {at' : Nat} {e' : Int} (hc : Cu w' p sv bs at' e') (k : Keep (One p) w w') : Took w p sv bs at' e' [] (.slice Option.none 0 0) w' :=
  ⟨Own.nil _ _, by intro b hb; simp [Value.ownBlock] at hb, hc, k⟩
theorem Took.rd {w' : World} {at' : Nat} {e' : Int} {out : List UInt8} {v : Value} (h : Took w p sv bs at' e' out v w') : Rd w' v out := h.own.rd

set_option maxRecDepth 4000 in
set_option maxHeartbeats 1000000 in
theorem take_any (h : Cu w p sv bs at_ e) (n : Int) :
    Calls Tryd.prog 69 #[.pointer (some ⟨p, 0, Option.none⟩), .int .i64 n] w fun x w' => ∃ v, x = .returned v ∧ Took w p sv bs (takeA bs at_ e n) (takeE bs at_ e n) (takeB bs at_ e n) v w' := by
  have hle := h.le
  have hbig := h.big
  by_cases he : e = 0
  · have hb : (e != 0) = false := by simp [he]
    by_cases hneg : n < 0
    · have e1 : takeA bs at_ e n = at_ := if_neg (by omega)
      have e2 : takeE bs at_ e n = 1 := by rw [takeE, if_pos he, if_pos hneg]
      have e3 : takeB bs at_ e n = [] := if_neg (by omega)
      rw [e1, e2, e3]
      have e4 : failR e 1 = 1 := if_pos he
      have E4 := Lib.hid e4
      clear he e1 e2 e3 e4
      go_enter Tryd.func69, Tryd.ntmps69
      go_wp2_with (first | (go_at_call 70; refine (err_any h).mono ?_; rintro x w' ⟨rfl, rfl⟩) | (go_at_call 71; refine (fail_any h 1).mono ?_; rintro x w1 ⟨rfl, hc, hk⟩))
      go_ret
      rw [E4.out] at hc
      exact ⟨_, rfl, Took.none hc hk⟩
    · by_cases hbig : (bs.length - at_ : Nat) < n
      · have e1 : takeA bs at_ e n = at_ := if_neg (by omega)
        have e2 : takeE bs at_ e n = 4 := by rw [takeE, if_pos he, if_neg hneg, if_pos hbig]
        have e3 : takeB bs at_ e n = [] := if_neg (by omega)
        rw [e1, e2, e3]
        have e4 : failR e 4 = 4 := if_pos he
        have E4 := Lib.hid e4
        have e5 : leftR bs at_ e = bs.length - at_ := if_pos he
        have hlt : (leftR bs at_ e : Int) < n := by rw [e5]; exact hbig
        clear he e1 e2 e3 e4 e5 hbig
        go_enter Tryd.func69, Tryd.ntmps69
        go_wp2_with (first | (go_at_call 70; refine (err_any h).mono ?_; rintro x w' ⟨rfl, rfl⟩) | (go_at_call 72; refine (left_any h).mono ?_; rintro x w1 ⟨rfl, nd, rfl⟩) | (go_at_call 71; refine (fail_any (h.keep0 ((Keep.refl _ _).drewN _)) 4).mono ?_; rintro x w1 ⟨rfl, hc, hk⟩))
        go_ret
        rw [E4.out] at hc
        exact ⟨_, rfl, Took.none hc (((Keep.refl _ _).drewN _).trans hk)⟩
      · obtain ⟨m, rfl⟩ := Int.eq_ofNat_of_zero_le (show 0 ≤ n by omega)
        have hm : at_ + m ≤ bs.length := by simp at hbig; omega
        have e1 : takeA bs at_ e (m : Int) = at_ + m := by rw [takeA, if_pos (by omega)]; simp
        have e2 : takeE bs at_ e (m : Int) = e := by rw [takeE, if_pos he, if_neg (by omega), if_neg (by omega)]; exact he.symm
        have e3 : takeB bs at_ e (m : Int) = (bs.drop at_).take m := by rw [takeB, if_pos (by omega)]; simp
        rw [e1, e2, e3]
        have e5 : leftR bs at_ e = bs.length - at_ := if_pos he
        have hlt : ¬ (leftR bs at_ e : Int) < (m : Int) := by rw [e5]; simp at hbig; omega
        have h1 := h.c1
        have hf := h.fz 1
        clear he e1 e2 e3 e5 hbig hneg
        go_enter Tryd.func69, Tryd.ntmps69
        go_wp2_with (first | (go_at_call 70; refine (err_any h).mono ?_; rintro x w' ⟨rfl, rfl⟩) | (go_at_call 72; refine (left_any h).mono ?_; rintro x w1 ⟨rfl, nd, rfl⟩))
        have hcu : Cu ((w.drewN nd).setCell ⟨p, 1, Option.none⟩ (.int .i64 ((at_ : Int) + (m : Int)))) p sv bs (at_ + m) e := by
          have := (h.keep0 ((Keep.refl _ _).drewN nd)).setAt (at_ + m) hm
          simpa using this
        have hk : Keep (One p) w ((w.drewN nd).setCell ⟨p, 1, Option.none⟩ (.int .i64 ((at_ : Int) + (m : Int)))) := (Keep.refl (One p) w).drewN nd |>.trans (Keep.set1 _ _ _ _)
        generalize (w.drewN nd).setCell ⟨p, 1, Option.none⟩ (.int .i64 ((at_ : Int) + (m : Int))) = W at *
        have g0 := hcu.c0
        have g1 : W.cell? ⟨p, 1, Option.none⟩ = some (.int .i64 ((at_ : Int) + (m : Int))) := by have := hcu.c1; simpa using this
        have hsub : IntKind.i64.wrap (at_ : Int) = (at_ : Int) := IntWalk.i64_in _ (by omega)
        have hcut : ∀ wx, (Instr.slice 26 sv (some (.int .i64 (at_ : Int))) (some (.int .i64 ((at_ : Int) + (m : Int)))) Option.none).run Tryd.prog wx = .ok (cutv sv at_ (at_ + m)) wx := fun wx => by
          have := hcu.rd.run_cut (P := Tryd.prog) (w' := wx) bt.sl bsize (k := .i64) (k' := .i64) (l := (at_ : Int)) (h := (at_ : Int) + (m : Int)) (by omega) (by omega) (by omega)
          rw [this]
          rfl
        go_still_tail 15, (by kernel_rfl)
        change wpList _ _ _ _ _ W.drew
        have hr : Rd W.drew (cutv sv at_ (at_ + m)) ((bs.drop at_).take m) := by
          have := (hcu.rd.drewN 1).cut (l := at_) (h := at_ + m) (by omega) (by omega)
          rw [Nat.add_sub_cancel_left] at this
          exact this
        go_wp2_with (go_at_call 48; refine (sclone_any _ _ _ hr (by simp; omega)).mono ?_; rintro x w2 ⟨v, rfl, hfr, _⟩)
        go_ret
        have hs : W.heap.size = W.drew.heap.size := rfl
        exact ⟨v, rfl, hfr.own, hfr.since.mono hk.size, (hcu.keep0 ((Keep.refl _ _).drewN 1)).keep0 hfr.keep, (hk.trans ((Keep.refl _ _).drewN 1)).trans hfr.keep.no⟩
  · have hb : (e != 0) = true := by simp [he]
    have e1 : takeA bs at_ e n = at_ := if_neg (by simp [he])
    have e2 : takeE bs at_ e n = e := if_neg he
    have e3 : takeB bs at_ e n = [] := if_neg (by simp [he])
    rw [e1, e2, e3]
    clear e1 e2 e3 he
    go_enter Tryd.func69, Tryd.ntmps69
    go_wp2_with (first | (go_at_call 70; refine (err_any h).mono ?_; rintro x w' ⟨rfl, rfl⟩))
    go_ret
    exact ⟨_, rfl, Took.none h (Keep.refl _ _)⟩

set_option maxHeartbeats 1000000 in
theorem new_any {v : Value} (r : Rd w v bs) (hn : bs.length ≤ 140737488351232) :
    Calls Tryd.prog 60 #[v] w fun x w' => ∃ p sv, x = .returned (.pointer (some ⟨p, 0, Option.none⟩)) ∧ Cu w' p sv bs 0 0 ∧ Keep No w w' ∧ w.heap.size ≤ p ∧ Since w.heap.size sv := by
  go_enter Tryd.func60, Tryd.ntmps60
  go_wp2_with (go_at_call 48; refine (sclone_any _ _ _ r hn).mono ?_; rintro x w1 ⟨v', rfl, hfr, _⟩; obtain ⟨ao, cap, rfl, hx⟩ := hfr.rd.shape; clear hx)
  go_ret
  have hap : (Value.slice ao bs.length cap).ownBlock ≠ some w1.heap.size := by
    intro hb
    obtain ⟨hl, h0⟩ := hfr.own
    rcases h0 with ⟨h0, _⟩ | ⟨g, c, cur, h0, _, hg, _⟩
    · rw [h0] at hb; simp [Value.ownBlock] at hb
    · rw [h0] at hb; simp [Value.ownBlock] at hb; subst hb; simp at hg
  refine ⟨w1.heap.size, .slice ao bs.length cap, rfl, ⟨?_, ?_, ?_, ?_, ?_, hfr.rd.keep0 ((Keep.refl _ _).alloc _), hap, fun b hb => by have := hfr.own.lt b hb; simp; omega, Nat.zero_le _, hn⟩, hfr.keep.alloc _, hfr.keep.size, hfr.since⟩
  · exact cell_new _ _ _ _
  · exact cell_new _ _ _ _
  · exact cell_new _ _ _ _
  · exact cell_new _ _ _ _
  · exact fun o => frozen_new _ _ _ _

end
end Go.Proofs.YtcimfojbggckhaaDoor
namespace Go.Proofs.YtcimfojbggckhaaDoor
open Go.RowKit
section
variable {W0 w w' : World} {p : Nat} {sv : Value} {bs : List UInt8} {at_ : Nat} {e : Int} {rows : List RowS} {m' : Mem}
theorem Cu.same (h : Cu w p sv bs at_ e) (hle : w.heap.size ≤ w'.heap.size) (hp : w'.heap[p]? = w.heap[p]?) (hs : ∀ b, sv.ownBlock = some b → w'.heap[b]? = w.heap[b]?) : Cu w' p sv bs at_ e where
  c0 := (World.cell?_of_block hp).trans h.c0
  c1 := (World.cell?_of_block hp).trans h.c1
  c2 := (World.cell?_of_block hp).trans h.c2
  c3 := (World.cell?_of_block hp).trans h.c3
  fz := fun o => (World.frozen?_of_block (a := ⟨p, o, none⟩) hp).trans (h.fz o)
  rd := ⟨h.rd.shape, fun i hi => by rw [← h.rd.cell i hi]; exact World.cell?_of_block (hs _ (h.rd.block_eq hi))⟩
  apart := h.apart
  under := fun b hb => Nat.lt_of_lt_of_le (h.under b hb) hle
  le := h.le
  big := h.big
theorem Pd.same (h : Pd w p sv bs) (hp : w'.heap[p]? = w.heap[p]?) (hs : ∀ b, sv.ownBlock = some b → w'.heap[b]? = w.heap[b]?) : Pd w' p sv bs where
  c0 := (World.cell?_of_block hp).trans h.c0
  c1 := (World.cell?_of_block hp).trans h.c1
  fz := fun o => (World.frozen?_of_block (a := ⟨p, o, none⟩) hp).trans (h.fz o)
  own := h.own.same hs
  apart := h.apart
/-- Through a stretch of the walk: the cutter's blocks are none of the rows. -/
theorem Cu.walk (h : Cu w p sv bs at_ e) (hr : ∀ r ∈ rows, r.own = true → r.b ≠ p ∧ sv.ownBlock ≠ some r.b) (hS : Seg ⟨rows, w.heap.size⟩ w m' w') (hW : Wst W0 m' w') : Cu w' p sv bs at_ e :=
  h.same (by have := hS.le; rw [hW.size]; exact this) (hS.same p ⟨h.lt, fun r hm ho => (hr r hm ho).1⟩) (fun b hb => hS.same b ⟨h.under b hb, fun r hm ho e => (hr r hm ho).2 (by rw [e]; exact hb)⟩)
theorem Pd.walk (h : Pd w p sv bs) (hr : ∀ r ∈ rows, r.own = true → r.b ≠ p ∧ sv.ownBlock ≠ some r.b) (hS : Seg ⟨rows, w.heap.size⟩ w m' w') : Pd w' p sv bs :=
  h.same (hS.same p ⟨h.lt, fun r hm ho => (hr r hm ho).1⟩) (fun b hb => hS.same b ⟨h.own.lt b hb, fun r hm ho e => (hr r hm ho).2 (by rw [e]; exact hb)⟩)
end
end Go.Proofs.YtcimfojbggckhaaDoor
namespace Go.Proofs.YtcimfojbggckhaaDoor
open Go.RowKit

/-- Behind k calls the pad at p holds B k. -/
def PadE (B : Nat → List UInt8) (p : Nat) (sv0 : Value) (w0 : World) : Nat → Gh → World → Prop := fun k g w => g.live ∧ g.val = .pointer (some ⟨p, 0, none⟩) ∧ ∃ sv, Pd w p sv (B k) ∧ g.priv = Foot p sv ∧ Later w0.heap.size sv0 sv
theorem PadE.keep {B : Nat → List UInt8} {p : Nat} {sv0 : Value} {w0 : World} : ∀ (k : Nat) (g : Gh) (w w' : World), Keep No w w' → PadE B p sv0 w0 k g w → PadE B p sv0 w0 k g w' :=
  fun _ _ _ _ kp ⟨h1, h2, sv, h3, h4, h5⟩ => ⟨h1, h2, sv, h3.keep0 kp, h4, h5⟩
def gE (p : Nat) (sv : Value) : Gh := ⟨True, .pointer (some ⟨p, 0, none⟩), Foot p sv⟩
section
variable {w0 : World} {B : Nat → List UInt8} {p : Nat} {sv0 : Value}
theorem gE_base {bs : List UInt8} (h : Pd w0 p sv0 bs) : Base (Foot p sv0) w0 (gE p sv0) w0 := fun k hk => by
  refine ⟨?_, fun _ => hk⟩
  rcases hk with rfl | hk
  · exact h.lt
  · exact h.own.lt k hk
theorem gE_D (h : Pd w0 p sv0 (B 0)) : PadE B p sv0 w0 0 (gE p sv0) w0 := ⟨trivial, rfl, sv0, h, rfl, Later.refl _ _⟩
theorem padE_step {g : Gh} {w w' : World} {sv sv' : Value} {bs : List UInt8} (hg : g.priv = Foot p sv) (hv : g.val = .pointer (some ⟨p, 0, none⟩)) (hb : Base (Foot p sv0) w0 g w) (h0 : w0.heap.size ≤ w.heap.size)
    (hl0 : Later w0.heap.size sv0 sv) (hpd : Pd w' p sv' bs) (hk : Keep (Foot p sv) w w') (hlat : Later w.heap.size sv sv') :
    Tr g w (gE p sv') w' ∧ Base (Foot p sv0) w0 (gE p sv') w' ∧ Later w0.heap.size sv0 sv' := by
  have hl' : Later w0.heap.size sv0 sv' := hl0.trans hlat h0
  refine ⟨⟨by rw [hg]; exact hk, ?_, fun _ => ⟨trivial, hv.symm⟩⟩, ?_, hl'⟩
  · rintro k (rfl | hk')
    · rw [hg]; exact .inl (.inl rfl)
    · rcases hlat with h | h
      · rw [hg]; exact .inl (.inr (by rw [← h]; exact hk'))
      · exact .inr (h k hk')
  · rintro k (rfl | hk')
    · exact ⟨hpd.lt, fun _ => .inl rfl⟩
    · refine ⟨hpd.own.lt k hk', fun h => ?_⟩
      rcases hl' with q | q
      · exact .inr (by rw [← q]; exact hk')
      · exact absurd h (Nat.not_lt.2 (q k hk'))
theorem loud_twoE {r : Nat} {xs : List Nat} (hB : B (r + 1) = B r ++ xs.flatMap bytes2) (hn : (B r).length + 2 * xs.length ≤ 1099511627776) (hx : ∀ i, i < xs.length → xs.getD i 0 < 65536) :
    LoudM Tryd.prog (Foot p sv0) w0 (PadE B p sv0 w0) r 56 [.is (.pointer (some ⟨p, 0, none⟩)), rowS 1 xs.length (fun i => .int .u16 (xs.getD i 0 : Nat))] padS := by
  intro g w vals hk hb hd ha
  match vals, ha with
  | [x, y], ha =>
    obtain ⟨hx', ⟨hy, hyb⟩, _⟩ := ha
    obtain ⟨_, hv, sv, hpd, hg, hla⟩ := hd
    have hx2 : x = .pointer (some ⟨p, 0, none⟩) := hx'
    rw [hx2]
    refine (ptwo_any hpd hy hx (fun b h => by have := (hyb b h).2; rwa [hg] at this) hn).mono ?_
    rintro e w' ⟨sv', rfl, hpd', k, hlat⟩
    obtain ⟨h1, h2, h3⟩ := padE_step hg hv hb hk.size hla hpd' k hlat
    exact ⟨_, _, rfl, h1, h2, ⟨trivial, rfl, sv', by rw [hB]; exact hpd', rfl, h3⟩, trivial, rfl⟩
theorem loud_byteE {r : Nat} {v : Value} {ys : List UInt8} (hB : B (r + 1) = B r ++ ys) (hn : (B r).length + ys.length ≤ 1099511627776) (hr : ∀ w, Keep (Foot p sv0) w0 w → Rd w v ys) :
    LoudM Tryd.prog (Foot p sv0) w0 (PadE B p sv0 w0) r 66 [.is (.pointer (some ⟨p, 0, none⟩)), .is v] padS := by
  intro g w vals hk hb hd ha
  match vals, ha with
  | [x, y], ha =>
    obtain ⟨hx, hy, _⟩ := ha
    have hx' : x = .pointer (some ⟨p, 0, none⟩) := hx
    have hy' : y = v := hy
    obtain ⟨_, hv, sv, hpd, hg, hla⟩ := hd
    rw [hx', hy']
    refine (pbyte_any hpd (hr w hk) hn).mono ?_
    rintro e w' ⟨sv', rfl, hpd', k, hlat⟩
    obtain ⟨h1, h2, h3⟩ := padE_step hg hv hb hk.size hla hpd' k hlat
    exact ⟨_, _, rfl, h1, h2, ⟨trivial, rfl, sv', by rw [hB]; exact hpd', rfl, h3⟩, trivial, rfl⟩
end
end Go.Proofs.YtcimfojbggckhaaDoor
namespace Go.Proofs.YtcimfojbggckhaaDoor
open Go.RowKit

/-- A tag's bytes. -/
def bytesT (t : Tg) : List UInt8 := bytes2 t.k ++ bytes2 (wordN t)
theorem bytesT_len (t : Tg) : (bytesT t).length = 4 := rfl
def bytesL (l : List Tg) : List UInt8 := l.flatMap bytesT
theorem bytesL_len (l : List Tg) : (bytesL l).length = 4 * l.length := by
  induction l with
  | nil => rfl
  | cons t l ih => simp only [bytesL, List.flatMap_cons, List.length_append, bytesT_len, List.length_cons] at *; omega
/-- What Bytes tells. -/
def bytesB (l : List Tg) : List UInt8 := if l.all mayT then bytesL l else []
theorem mayT_spec {t : Tg} (h : mayT t = true) : t.k < 65536 ∧ t.p < 8 ∧ t.v ≤ 4095 := by
  simp only [mayT, kindsL, List.contains_cons, List.contains_nil, Bool.or_false, Bool.and_eq_true, Bool.or_eq_true, beq_iff_eq, decide_eq_true_eq] at h
  omega
theorem allOkM_is {g : Gh} {w : World} : ∀ {vs us : List Value}, allOkM (vs.map .is) g w us → us = vs
  | [], [], _ => rfl
  | [], _ :: _, h => h.elim
  | _ :: _, [], h => h.elim
  | v :: vs, u :: us, h => by
    have h1 : u = v := h.1
    rw [h1, allOkM_is h.2]
noncomputable abbrev tbC : Code := bodyOf Tryd.f29
noncomputable abbrev tbN : Nat := Tryd.f29.ntmps
abbrev tbQ (w : World) (l : List Tg) : Ending → World → Prop := fun x w' => ∃ v, x = .returned v ∧ Fresh w (bytesB l) v w'
noncomputable def tbL (v : Value) (p n : Nat) (i : Nat × Value) (w' : World) : Cfg := ⟨frOf [3, 7, 8, 9] [.pointer (some ⟨p, 0, none⟩), v, .int .i64 (n : Int), .int .i64 ((n - i.1 : Nat) : Int)], tagL [], ⟨[], w'.heap.size⟩, atL tbC 3⟩
structure TbJ (w : World) (p : Nat) (l : List Tg) (i : Nat × Value) (w' : World) : Prop where
  le : i.1 ≤ l.length
  W : Wst w ⟨[], w'.heap.size⟩ w'
  pd : Pd w' p i.2 (bytesL (l.take (l.length - i.1)))
  hp : w.heap.size ≤ p
  si : Since w.heap.size i.2
  all : (l.take (l.length - i.1)).all mayT = true
noncomputable def tbR (w : World) (v : Value) (p : Nat) (l : List Tg) (i : Nat × Value) : Act → World → Prop := fun a' w' => ∃ j : Nat × Value, j.1 < i.1 ∧ TbJ w p l j w' ∧ agrees tbN (tbL v p l.length j w') a'
section
variable {w : World} {v : Value} {l : List Tg} {p : Nat}
theorem loose_foot {W0 : World} {m : Mem} {sv : Value} (hp : W0.heap.size ≤ p) (hs : Since W0.heap.size sv) (hr : ∀ r ∈ m.rows, r.b ≠ p ∧ sv.ownBlock ≠ some r.b) : Loose W0 m (Foot p sv) := by
  rintro k (rfl | hk)
  · exact ⟨hp, fun r h => (hr r h).1⟩
  · exact ⟨hs k hk, fun r h e => (hr r h).2 (by rw [e]; exact hk)⟩
theorem since_later {n m : Nat} {sv sv' : Value} (hs : Since n sv) (h : Later m sv sv') (hm : n ≤ m) : Since n sv' := by
  rcases h with h | h
  · intro b hb; rw [h] at hb; exact hs b hb
  · exact h.mono hm
set_option maxRecDepth 4000 in
theorem tb_round (r : Rt w v l) (hk : Kh w) (hn : l.length ≤ 1000000) (i : Nat × Value) (w' : World) (hJ : TbJ w p l i w') (j : Nat) (hj : i.1 = j + 1) :
    Goal Tryd.prog (bodyPost Tryd.prog Tryd.f29 (tbQ w l)) tbN { tbL v p l.length i w' with todo := .code (loopOf (atL tbC 3)) :: .inv (tbR w v p l i) :: (atL tbC 3).tail } w' := by
  obtain ⟨hle, hW, hpd, hp, hsi, hall⟩ := hJ
  unfold tbL
  rw [hj] at hpd hall hle ⊢
  have hi : l.length - (j + 1) < l.length := by omega
  have hnext : l.length - (j + 1) + 1 = l.length - j := by omega
  generalize hI : l.length - (j + 1) = n at *
  have hc : (n : Int) < (l.length : Int) := by omega
  obtain ⟨t, ht⟩ : ∃ t, l[n] = t := ⟨_, rfl⟩
  have hld : ∀ wx, (∀ k, Safe ⟨[], w'.heap.size⟩ k → wx.heap[k]? = w'.heap[k]?) → Rt wx v l := fun wx hx => r.walk hW hx
  have sl : SemObs Tryd.prog ⟨[], w'.heap.size⟩ w' [(Instr.indexAt 24 v (.int .i64 (n : Int)), .pointer (some (adt v n))), (Instr.loadAt 57 (.pointer (some (adt v n))), .agg t.a)] :=
    ⟨fun wx _ => r.sem_at ett hi wx, fun wx hx => by rw [← ht]; exact (hld wx hx).sem_ld ett hi, trivial⟩
  refine go_stop (gt := fun _ => Option.none) (unroll := false) 60 [(3, 0, .is (.bool true)), (4, 0, .sem (.pointer (some (adt v n)))), (4, 1, .sem (.agg t.a))] [3, 5, 7, 8, 9] [.pointer (some ⟨p, 0, none⟩), .pointer (some ⟨w'.heap.size, 0, Option.none⟩), v, .int .i64 (l.length : Int), .int .i64 (n : Int)]
    [⟨w'.heap.size, t.a.toList, true⟩] [(5, 0)] (atR tbC 5 (.inv (tbR w v p l i))) [(.bool (decide ((n : Int) < (l.length : Int))), .bool true)]
    [(Instr.indexAt 24 v (.int .i64 (n : Int)), .pointer (some (adt v n))), (Instr.loadAt 57 (.pointer (some (adt v n))), .agg t.a)] hW (by kernel_rfl) ⟨congrArg Value.bool (by simpa using hc), trivial⟩ sl ?_
  intro w1 hW1 hS1
  have pd1 := hpd.walk (rows := []) (fun _ h => nomatch h) hS1
  have hk1 := hk.keep0 hW1.keep
  have cm : CallOb Tryd.prog w1 27 [.is (.agg t.a)] (.is (.bool (mayT t))) := CallOb.of1 fun w8 kp => maytag_any (hk1.keep0 kp) t
  cases hma : mayT t with
  | false =>
    rw [hma] at cm
    refine drawn_ok (gt := fun _ => Option.none) [(1, .call (.is (.bool false)))] [24] [.is (.bool true)] [] [(27, [.is (.agg t.a)], .is (.bool false))] [] [] [] hW1 (by kernel_rfl) (by kernel_rfl) trivial ⟨cm, trivial⟩ trivial trivial trivial ?_
    intro w2 vs k2 hv
    obtain rfl := allOk_is (vs := [.bool true]) hv
    refine go_ret (gt := fun _ => Option.none) (unroll := false) 60 [] [.tmp 2] (.slice none 0 0) [] [] (hW1.later k2) Tryd.results29 (by kernel_rfl) trivial trivial (fun w9 hW9 _ => ⟨_, rfl, ?_⟩)
    have : l.all mayT = false := by
      rw [List.all_eq_false]
      exact ⟨t, by rw [← ht]; exact List.getElem_mem hi, by simp [hma]⟩
    rw [bytesB, this]
    exact ⟨Own.nil _ _, hW9.keep, fun b hb => by simp [Value.ownBlock] at hb⟩
  | true =>
    rw [hma] at cm
    obtain ⟨m1, m2, m3⟩ := mayT_spec hma
    have hw16 := wordN_lt m2 m3
    have cw : CallOb Tryd.prog w1 55 [.is (.agg t.a)] (.is (.int .u16 (wordN t : Nat))) := CallOb.of1 fun w8 kp => (word_any w8 t.k t.p t.v t.d).mono fun e w9 ⟨h1, h2⟩ => ⟨by rw [h1, wordR_nat m2 m3], h2⟩
    have co : CallOb Tryd.prog w1 54 [.is (.int .u16 t.k), .is (.int .u16 (wordN t : Nat))] (.is (.agg t.a)) := by
      rintro w8 vals kp ha
      match vals, ha with
      | [y, z], hy =>
        obtain rfl : y = _ := hy.1
        obtain rfl : z = _ := hy.2.1
        exact (tagof_any w8 t.k (wordN t)).mono fun e w9 ⟨h1, h2⟩ => ⟨_, h1, h2, by rw [ofR_nat hw16, tgN_word m2 m3]; rfl⟩
    refine drawn_ok (gt := fun _ => Option.none) [(1, .call (.is (.bool true))), (7, .call (.is (.int .u16 (wordN t : Nat)))), (8, .call (.is (.agg t.a))), (10, .bin (.bool false))] [24, 3, 5, 7, 8, 9] [.is (.bool false), .is (.pointer (some ⟨p, 0, none⟩)), .is (.pointer (some ⟨w'.heap.size, 0, Option.none⟩)), .is v, .is (.int .i64 (l.length : Int)), .is (.int .i64 (n : Int))] []
      [(27, [.is (.agg t.a)], .is (.bool true)), (55, [.is (.agg t.a)], .is (.int .u16 (wordN t : Nat))), (54, [.is (.int .u16 t.k), .is (.int .u16 (wordN t : Nat))], .is (.agg t.a))] [(.neq, 57, .agg t.a, .agg t.a, .bool false)] [] []
      hW1 (by kernel_rfl) (by kernel_rfl) trivial ⟨cm, cw, co, trivial⟩ ⟨fun w8 _ => nbin_tg w8 t, trivial⟩ trivial trivial ?_
    intro w2 vs k2 hv
    obtain rfl := allOk_is (vs := [.bool false, .pointer (some ⟨p, 0, none⟩), .pointer (some ⟨w'.heap.size, 0, Option.none⟩), v, .int .i64 (l.length : Int), .int .i64 (n : Int)]) hv
    have hW2 := hW1.later k2
    have pd2 := pd1.keep0 k2
    refine go_stop (gt := fun _ => Option.none) (unroll := false) 60 [] [3, 5, 7, 8, 9] [.pointer (some ⟨p, 0, none⟩), .pointer (some ⟨w'.heap.size, 0, Option.none⟩), v, .int .i64 (l.length : Int), .int .i64 (n : Int)]
      [⟨w'.heap.size, t.a.toList, true⟩] [(5, 0)] (atR tbC 7 (.inv (tbR w v p l i))) [] [] hW2 (by kernel_rfl) trivial trivial ?_
    intro w3 hW3 hS3
    have hne : ∀ r ∈ ([⟨w'.heap.size, t.a.toList, true⟩] : List RowS), r.b ≠ p ∧ i.2.ownBlock ≠ some r.b := fun q hq => by
      obtain rfl := List.mem_singleton.1 hq
      exact ⟨by have := hpd.lt; show w'.heap.size ≠ p; omega, fun h => by have := hpd.own.lt _ h; simp at this⟩
    have pd3 := pd2.walk (rows := [⟨w'.heap.size, t.a.toList, true⟩]) (fun q hq _ => hne q hq) hS3
    refine drawnM_ok (S0 := Foot p i.2) (gt := fun _ => Option.none) (D := PadE (fun k => if k = 0 then bytesL (l.take n) else bytesL (l.take n) ++ [t.k, wordN t].flatMap bytes2) p i.2 w3) (g0 := gE p i.2)
      [(4, .call (.is (.int .u16 (wordN t : Nat)))), (5, .new (rowS 1 [t.k, wordN t].length (fun i => .int .u16 (([t.k, wordN t] : List Nat).getD i 0 : Nat)))), (6, .loud padS)]
      [3, 7, 8, 9] [.is (.pointer (some ⟨p, 0, none⟩)), .is v, .is (.int .i64 (l.length : Int)), .is (.int .i64 (n : Int))]
      (True ∧ True ∧ True ∧ True ∧ CallM Tryd.prog (Foot p i.2) w3 55 [.is (.agg t.a)] (.is (.int .u16 (wordN t : Nat))) ∧
        NewM Tryd.prog (Foot p i.2) w3 (Instr.buildSlice 89 2 #[(0, .int .u16 t.k), (1, .int .u16 (wordN t : Nat))]) (rowS 1 [t.k, wordN t].length (fun i => .int .u16 (([t.k, wordN t] : List Nat).getD i 0 : Nat))) ∧
        LoudM Tryd.prog (Foot p i.2) w3 (PadE (fun k => if k = 0 then bytesL (l.take n) else bytesL (l.take n) ++ [t.k, wordN t].flatMap bytes2) p i.2 w3) 0 56 [.is (.pointer (some ⟨p, 0, none⟩)), rowS 1 [t.k, wordN t].length (fun i => .int .u16 (([t.k, wordN t] : List Nat).getD i 0 : Nat))] padS ∧ True)
      1 (afterR tbC 7 (.inv (tbR w v p l i))) hW3 (loose_foot hp hsi hne) (by kernel_rfl) (by kernel_rfl) (by kernel_rfl) PadE.keep (gE_base pd3) (gE_D pd3)
      ⟨trivial, trivial, trivial, trivial, ?_, new_row (cs := [.int .u16 t.k, .int .u16 (wordN t : Nat)]) (by simp [maxLen]) (fun _ => by kernel_rfl) (fun j hj => ?_), loud_twoE rfl ?_ ?_, trivial⟩ ?_
    · intro g wx vals k hbase hv
      match vals, hv with
      | [x], hx => obtain rfl : x = _ := hx.1; exact (word_any wx t.k t.p t.v t.d).mono fun e w9 ⟨h1, h2⟩ => ⟨_, h1, h2, by rw [wordR_nat m2 m3]; rfl⟩
    · have : j = 0 ∨ j = 1 := by simp at hj; omega
      rcases this with rfl | rfl <;> rfl
    · have := bytesL_len (l.take n)
      rw [List.length_take] at this
      simp only [if_true, List.length_cons, List.length_nil]
      omega
    · intro i hi
      have : i = 0 ∨ i = 1 := by simp at hi; omega
      rcases this with rfl | rfl
      · exact m1
      · exact hw16
    intro g w4 vs k4 _ hd hok
    obtain rfl := allOkM_is (vs := [.pointer (some ⟨p, 0, none⟩), v, .int .i64 (l.length : Int), .int .i64 (n : Int)]) hok
    obtain ⟨_, _, sv, pd4, _, hla⟩ := hd
    have hW4 := hW3.laterS k4 (loose_foot hp hsi hne)
    have hsi4 : Since w.heap.size sv := since_later hsi hla hW3.keep.size
    have hne4 : ∀ r ∈ ([⟨w'.heap.size, t.a.toList, true⟩] : List RowS), r.b ≠ p ∧ sv.ownBlock ≠ some r.b := fun q hq => by
      refine ⟨(hne q hq).1, fun h => ?_⟩
      rcases hla with e | e
      · rw [e] at h; exact (hne q hq).2 h
      · have h3 := e _ h
        obtain ⟨t', ht'⟩ := hW3.rows q hq
        have := block_of_row ht'
        omega
    refine go_inv (gt := fun _ => Option.none) (unroll := false) 60 [(8, 0, .is (.int .i64 ((n + 1 : Nat) : Int)))] [3, 7, 8, 9] [.pointer (some ⟨p, 0, none⟩), v, .int .i64 (l.length : Int), .int .i64 ((n + 1 : Nat) : Int)] [⟨w'.heap.size, t.a.toList, true⟩] (tbR w v p l i) [(.int .i64 (IntKind.i64.wrap ((n : Int) + 1)), .int .i64 ((n + 1 : Nat) : Int))] [] hW4 (by kernel_rfl)
      ⟨congrArg (Value.int .i64) (by rw [IntWalk.i64_in _ (by omega)]; omega), trivial⟩ trivial ?_
    intro w5 a hW5 hS5 hs
    refine ⟨(j, sv), by rw [hj]; exact Nat.lt_succ_self j, ⟨by omega, hW5.fewer (rows := []), ?_, hp, hsi4, ?_⟩, ?_⟩
    · have := pd4.walk (rows := [⟨w'.heap.size, t.a.toList, true⟩]) (fun q hq _ => hne4 q hq) hS5
      simp only [Nat.one_ne_zero, if_false] at this
      rw [← hnext, List.take_succ_eq_append_getElem hi, ht]
      simp only [bytesL, List.flatMap_append, List.flatMap_cons, List.flatMap_nil, List.append_nil, bytesT] at this ⊢
      exact this
    · rw [← hnext, List.take_succ_eq_append_getElem hi, ht, List.all_append, hall]
      simp [hma]
    · unfold tbL
      rw [← hnext]
      exact hs
theorem tagbytes_any (r : Rt w v l) (hk : Kh w) (hn : l.length ≤ 1000000) : Calls Tryd.prog 29 #[v] w (tbQ w l) := by
  refine enter (args := [v]) Tryd.func29 (by kernel_rfl) ?_
  refine go_call_is (gt := fun _ => Option.none) (unroll := false) 60 [] 53 [] [0] [v] 6 [] [] (inR tbC 1 0) [] [] (Wst.start0 w) (by kernel_rfl) trivial trivial ?_
  intro w1 hW1 _
  refine (lay_any w1).mono ?_
  rintro x w2 ⟨p, rfl, hpd, k2, hp⟩
  refine ⟨_, rfl, ?_⟩
  refine go_stop (gt := fun _ => Option.none) (unroll := false) 60 [(2, 1, .sem (.int .i64 (l.length : Int)))] [3, 7, 8, 9] [.pointer (some ⟨p, 0, none⟩), v, .int .i64 (l.length : Int), .int .i64 0] [] [] (atL tbC 3) [] [(Builtin.len_ #[24] 3 #[v], .int .i64 (l.length : Int))]
    (hW1.later k2) (by kernel_rfl) trivial ⟨fun wx _ => r.sem_len ett (ty := 3) wx, trivial⟩ ?_
  intro w3 hW3 hS3
  have pd3 := hpd.walk (rows := []) (fun _ h => nomatch h) hS3
  have key := loop_okT (P := Tryd.prog) (Q := bodyPost Tryd.prog Tryd.f29 (tbQ w l)) (n := tbN) (x := loopOf (atL tbC 3)) (k := (atL tbC 3).tail) (fun i : Nat × Value => i.1) (tbL v p l.length) (TbJ w p l) (fun _ _ => by kernel_rfl) ?_ (l.length, .slice none 0 0) w3
    ⟨Nat.le_refl _, hW3, by simpa [bytesL] using pd3, Nat.le_trans hW1.keep.size hp, fun b hb => by simp [Value.ownBlock] at hb, by simp⟩
  · unfold tbL at key
    rw [Nat.sub_self] at key
    exact key
  rintro ⟨j, sv⟩ w' hJ
  cases j with
  | succ j => exact tb_round r hk hn (j + 1, sv) w' hJ j rfl
  | zero =>
    obtain ⟨hle, hW, hpd, hp, hsi, hall⟩ := hJ
    simp only [Nat.sub_zero, List.take_length] at hpd hall
    unfold tbL
    refine go_call_is (gt := fun _ => Option.none) (unroll := false) 60 [(3, 0, .is (.bool false))] 57 [.pointer (some ⟨p, 0, none⟩)] [] [] 34 [] [] (inR tbC 9 1) [(.bool (decide (((l.length - 0 : Nat) : Int) < (l.length : Int))), .bool false)] [] hW (by kernel_rfl) ⟨congrArg Value.bool (by simp), trivial⟩ trivial ?_
    intro w4 hW4 hS4
    have pd4 := hpd.walk (rows := []) (fun _ h => nomatch h) hS4
    refine (done_any pd4 (by rw [bytesL_len]; omega)).mono ?_
    rintro x w5 ⟨u, rfl, fr⟩
    refine ⟨_, rfl, ?_⟩
    refine go_ret (gt := fun _ => Option.none) (unroll := false) 60 [] [.tmp 2] u [] [] (hW4.later fr.keep) Tryd.results29 (by kernel_rfl) trivial trivial (fun w9 hW9 hS9 => ⟨u, rfl, ?_, hW9.keep, fr.since.mono hW4.keep.size⟩)
    rw [bytesB, hall]
    exact fr.own.same fun b hb => hS9.same b ⟨fr.own.lt b hb, fun _ h => nomatch h⟩
/-- One tag's bytes. -/
theorem tbytes_any (t : Tg) (hk : Kh w) : Calls Tryd.prog 28 #[.agg t.a] w (tbQ w [t]) := by
  refine enter (args := [.agg t.a]) Tryd.func28 (by kernel_rfl) ?_
  refine go_call_is (gt := fun _ => Option.none) (unroll := false) 60 [] 29 [.slice (some ⟨w.heap.size + 1, 0, none⟩) 1 1] [] [] 5 [⟨w.heap.size, t.a.toList, true⟩, ⟨w.heap.size + 1, t.a.toList, true⟩] [] (inR (bodyOf Tryd.f28) 1 2) [] [] (Wst.start0 w) (by kernel_rfl) trivial trivial ?_
  intro w1 hW1 _
  obtain ⟨tt, hrow⟩ := hW1.rows ⟨w.heap.size + 1, t.a.toList, true⟩ (by simp)
  have r1 : Rt w1 (.slice (some ⟨w.heap.size + 1, 0, none⟩) 1 1) [t] := Rt.of_row (l := [t]) hrow (by simp [csT]) (by simp [maxLen])
  refine (tagbytes_any r1 (hk.keep0 hW1.keep) (by simp)).mono ?_
  rintro x w2 ⟨u, rfl, fr⟩
  refine ⟨_, rfl, ?_⟩
  have hW2 : Wst w ⟨[], w2.heap.size⟩ w2 := (hW1.later fr.keep).fewer (rows := [])
  refine Goal.re (tags := tagL []) (m := ⟨[], w2.heap.size⟩) ?_
  exact go_ret (gt := fun _ => Option.none) (unroll := false) 60 [] [.tmp 2] u [] [] hW2 Tryd.results28 (by kernel_rfl) trivial trivial (fun w9 hW9 hS9 => ⟨u, rfl, fr.own.same fun b hb => hS9.same b ⟨fr.own.lt b hb, fun _ h => nomatch h⟩, hW9.keep, fr.since.mono hW1.keep.size⟩)
end
end Go.Proofs.YtcimfojbggckhaaDoor
namespace Go.Proofs.YtcimfojbggckhaaDoor
open Go.RowKit

theorem Under.mono {n m : Nat} {v : Value} (h : Under n v) (hm : n ≤ m) : Under m v := fun b hb => Nat.lt_of_lt_of_le (h b hb) hm
abbrev pT (b : Nat) : Value := .pointer (some ⟨b, 0, none⟩)
/-- v lies in none of the rows' blocks. -/
def Ap (rows : List RowS) (v : Value) : Prop := ∀ b, v.ownBlock = some b → ∀ r ∈ rows, r.b ≠ b
theorem Ap.nil (v : Value) : Ap [] v := fun _ _ _ h => nomatch h
theorem Ap.add {rows more : List RowS} {v : Value} {n : Nat} (h : Ap rows v) (hl : Under n v) (hm : ∀ r ∈ more, n ≤ r.b) : Ap (rows ++ more) v := fun b hb r hr => by
  rcases List.mem_append.1 hr with hr | hr
  · exact h b hb r hr
  · have := hm r hr
    have := hl b hb
    omega
theorem Ap.fresh {W0 w : World} {rows : List RowS} {v : Value} (hW : Wst W0 ⟨rows, w.heap.size⟩ w) (hs : Since w.heap.size v) : Ap rows v := fun b hb r hr => by
  obtain ⟨t, ht⟩ := hW.rows r hr
  have := block_of_row ht
  have := hs b hb
  omega
theorem Ap.fewer {rows more : List RowS} {v : Value} (h : Ap (rows ++ more) v) : Ap rows v := fun b hb r hr => h b hb r (List.mem_append.2 (.inl hr))
structure HdB (rows : List RowS) (w : World) (v : Value) (bs : List UInt8) : Prop where
  rd : Rd w v bs
  lt : Under w.heap.size v
  ap : Ap rows v
section
variable {W0 w w' : World} {rows : List RowS} {v : Value} {bs : List UInt8}
theorem HdB.pass (more : List RowS) (h : HdB rows w v bs) (hS : Seg ⟨rows, w.heap.size⟩ w ⟨rows ++ more, w'.heap.size⟩ w') (hm : ∀ r ∈ more, w.heap.size ≤ r.b) : HdB (rows ++ more) w' v bs :=
  ⟨h.rd.safe (fun b hb => ⟨h.lt b hb, fun r hr _ => h.ap b hb r hr⟩) hS.same, h.lt.mono hS.le, h.ap.add h.lt hm⟩
theorem HdB.pass0 (h : HdB rows w v bs) (hS : Seg ⟨rows, w.heap.size⟩ w ⟨rows, w'.heap.size⟩ w') : HdB rows w' v bs :=
  ⟨h.rd.safe (fun b hb => ⟨h.lt b hb, fun r hr _ => h.ap b hb r hr⟩) hS.same, h.lt.mono hS.le, h.ap⟩
theorem HdB.call (h : HdB rows w v bs) (k : Keep No w w') : HdB rows w' v bs := ⟨h.rd.keep0 k, h.lt.mono k.size, h.ap⟩
theorem HdB.fewer {more : List RowS} (h : HdB (rows ++ more) w v bs) : HdB rows w v bs := ⟨h.rd, h.lt, h.ap.fewer⟩
theorem HdB.none (h : HdB rows w v bs) : HdB [] w v bs := ⟨h.rd, h.lt, Ap.nil _⟩
theorem Fresh.hd (f : Fresh w bs v w') (hW : Wst W0 ⟨rows, w.heap.size⟩ w) : HdB rows w' v bs := ⟨f.own.rd, f.own.lt, Ap.fresh hW f.since⟩
end
end Go.Proofs.YtcimfojbggckhaaDoor
namespace Go.Proofs.YtcimfojbggckhaaDoor
open Go.RowKit

section
variable {W0 w w' : World} {v : Value} {l : List Tg} {rows : List RowS} {m' : Mem}
theorem Rt.pass (h : Rt w v l) (hlt : Under w.heap.size v) (hap : ∀ b, v.ownBlock = some b → ∀ r ∈ rows, r.b ≠ b) (hS : Seg ⟨rows, w.heap.size⟩ w m' w') (hW : Wst W0 m' w') : Rt w' v l ∧ Under w'.heap.size v :=
  ⟨h.same fun b hb _ => hS.same b ⟨hlt b hb, fun r hr _ => hap b hb r hr⟩, fun b hb => by have := hS.le; have := hlt b hb; rw [hW.size]; exact Nat.lt_of_lt_of_le (hlt b hb) hS.le⟩
end
/-- What Push tells. -/
def pushR (l : List Tg) (t : Tg) : List Tg × Nat := if !mayL l || !mayT t then ([], 1) else if l.length = 2 then ([], 7) else if !mayL (t :: l) then ([], 1) else (t :: l, 0)
noncomputable abbrev puC : Code := bodyOf Tryd.f26
abbrev puQ (w : World) (l : List Tg) (t : Tg) : Ending → World → Prop := fun x w' => ∃ v', x = .returned (.tuple #[v', .int .i64 ((pushR l t).2 : Nat)]) ∧ FreshR w (pushR l t).1 v' w'
theorem FreshR.nil {w w' : World} (k : Keep No w w') : FreshR w [] (.slice none 0 0) w' := ⟨Rt.nil _, k, fun b hb => by simp [Value.ownBlock] at hb, fun b hb => by simp [Value.ownBlock] at hb⟩
theorem push_any {w : World} {v : Value} {l : List Tg} (r : Rt w v l) (hl : l.length ≤ 1000000) (t : Tg) (hk : Kh w) : Calls Tryd.prog 26 #[v, .agg t.a] w (puQ w l t) := by
  refine enter (args := [v, .agg t.a]) Tryd.func26 (by kernel_rfl) ?_
  refine go_appX (gt := fun _ => Option.none) (unroll := false) 60 [(1, 3, .stop)] (.slice (some ⟨w.heap.size + 1, 0, none⟩) 1 1) v 24 [0, 3] [v, .pointer (some ⟨w.heap.size, 0, none⟩)] 10 [⟨w.heap.size, t.a.toList, true⟩, ⟨w.heap.size + 1, t.a.toList, true⟩] [(3, 0)] (inR puC 1 3) [] [] (Wst.start0 w) (by kernel_rfl) trivial trivial ?_
  intro w1 hW1 _
  obtain ⟨tt, hrow⟩ := hW1.rows ⟨w.heap.size + 1, t.a.toList, true⟩ (by simp)
  obtain ⟨vn, w2, ha, rn, k2, hb2, hl2⟩ := run_append_full ett (l := [t]) (block_of_row hrow) (Rt.of_row (l := [t]) hrow (by simp [csT]) (by simp [maxLen])) (r.keep0 hW1.keep) (by simp; omega)
  refine ⟨vn, w2, ha, ?_⟩
  refine Goal.re (tags := tagL [(3, 0)]) (m := ⟨[⟨w.heap.size, t.a.toList, true⟩], w2.heap.size⟩) ?_
  have hW2 := (hW1.fewer (rows := [⟨w.heap.size, t.a.toList, true⟩]) (more := [⟨w.heap.size + 1, t.a.toList, true⟩])).later k2
  have h01 : w.heap.size + 1 < w1.heap.size := block_of_row hrow
  have hb2 : ∀ k, vn.ownBlock = some k → k = w.heap.size + 1 ∨ w1.heap.size ≤ k := hb2
  have hap : ∀ b, vn.ownBlock = some b → ∀ q ∈ ([⟨w.heap.size, t.a.toList, true⟩] : List RowS), q.b ≠ b := fun b hb q hq => by
    obtain rfl := List.mem_singleton.1 hq
    show w.heap.size ≠ b
    rcases hb2 b hb with h | h <;> omega
  have hsn : Since w.heap.size vn := fun b hb => by rcases hb2 b hb with h | h <;> omega
  refine go_call_is (gt := fun _ => Option.none) (unroll := false) 60 [] 22 [v] [0, 3, 6] [v, .pointer (some ⟨w.heap.size, 0, none⟩), vn] 13 [⟨w.heap.size, t.a.toList, true⟩] [(3, 0)] (inR puC 2 1) [] [] hW2 (by kernel_rfl) trivial trivial ?_
  intro w3 hW3 hS3
  obtain ⟨r3, l3⟩ := rn.pass hl2 hap hS3 hW3
  refine (may_any (r.keep0 hW3.keep) (hk.keep0 hW3.keep)).mono ?_
  rintro x w4 ⟨rfl, k4⟩
  refine ⟨_, rfl, ?_⟩
  have hW4 := hW3.later k4
  have r4 := r3.keep0 k4
  have l4 := l3.mono k4.size
  cases hm : mayL l with
  | false =>
    have e : pushR l t = ([], 1) := by simp [pushR, hm]
    exact go_ret (gt := fun _ => Option.none) (unroll := false) 60 [] [.tmp 4, .tmp 5] (.tuple #[.slice none 0 0, .int .i64 1]) [] [] hW4 Tryd.results26 (by kernel_rfl) trivial trivial (fun w9 hW9 _ => ⟨_, by rw [e]; rfl, by rw [e]; exact FreshR.nil hW9.keep⟩)
  | true =>
  refine go_call_is (gt := fun _ => Option.none) (unroll := false) 60 [] 27 [.agg t.a] [0, 6, 15] [v, vn, .bool false] 17 [⟨w.heap.size, t.a.toList, true⟩] [] (inR puC 2 5) [] [] hW4 (by kernel_rfl) trivial trivial ?_
  intro w5 hW5 hS5
  obtain ⟨r5, l5⟩ := r4.pass l4 hap hS5 hW5
  refine (maytag_any (hk.keep0 hW5.keep) t).mono ?_
  rintro x w6 ⟨rfl, k6⟩
  refine ⟨_, rfl, ?_⟩
  have hW6 := hW5.later k6
  have r6 := r5.keep0 k6
  have l6 := l5.mono k6.size
  cases hmt : mayT t with
  | false =>
    have e : pushR l t = ([], 1) := by simp [pushR, hmt]
    exact go_ret (gt := fun _ => Option.none) (unroll := false) 60 [] [.tmp 4, .tmp 5] (.tuple #[.slice none 0 0, .int .i64 1]) [] [] hW6 Tryd.results26 (by kernel_rfl) trivial trivial (fun w9 hW9 _ => ⟨_, by rw [e]; rfl, by rw [e]; exact FreshR.nil hW9.keep⟩)
  | true =>
  by_cases h2 : l.length = 2
  · have e : pushR l t = ([], 7) := by simp [pushR, hm, hmt, h2]
    exact go_ret (gt := fun _ => Option.none) (unroll := false) 60 [(4, 1, .sem (.int .i64 (l.length : Int))), (4, 2, .is (.bool true))] [.tmp 4, .tmp 5] (.tuple #[.slice none 0 0, .int .i64 7]) [(.bool ((l.length : Int) == 2), .bool true)] [(Builtin.len_ #[24] 3 #[v], .int .i64 (l.length : Int))] hW6 Tryd.results26 (by kernel_rfl)
      ⟨congrArg Value.bool (by simp; omega), trivial⟩ ⟨fun wx _ => r.sem_len ett (ty := 3) wx, trivial⟩ (fun w9 hW9 _ => ⟨_, by rw [e]; rfl, by rw [e]; exact FreshR.nil hW9.keep⟩)
  refine go_call_is (gt := fun _ => Option.none) (unroll := false) 60 [(4, 1, .sem (.int .i64 (l.length : Int))), (4, 2, .is (.bool false))] 22 [vn] [6] [vn] 26 [⟨w.heap.size, t.a.toList, true⟩] [] (inR puC 6 1) [(.bool ((l.length : Int) == 2), .bool false)] [(Builtin.len_ #[24] 3 #[v], .int .i64 (l.length : Int))] hW6 (by kernel_rfl)
    ⟨congrArg Value.bool (by simp; omega), trivial⟩ ⟨fun wx _ => r.sem_len ett (ty := 3) wx, trivial⟩ ?_
  intro w7 hW7 hS7
  obtain ⟨r7, l7⟩ := r6.pass l6 hap hS7 hW7
  refine (may_any r7 (hk.keep0 hW7.keep)).mono ?_
  rintro x w8 ⟨rfl, k8⟩
  refine ⟨_, rfl, ?_⟩
  have hW8 := hW7.later k8
  have r8 := r7.keep0 k8
  have l8 := l7.mono k8.size
  cases hm2 : mayL ([t] ++ l) with
  | false =>
    have e : pushR l t = ([], 1) := by simp only [pushR, hm, hmt, h2, show mayL (t :: l) = false from hm2]; rfl
    exact go_ret (gt := fun _ => Option.none) (unroll := false) 60 [] [.tmp 4, .tmp 5] (.tuple #[.slice none 0 0, .int .i64 1]) [] [] hW8 Tryd.results26 (by kernel_rfl) trivial trivial (fun w9 hW9 _ => ⟨_, by rw [e]; rfl, by rw [e]; exact FreshR.nil hW9.keep⟩)
  | true =>
    have e : pushR l t = (t :: l, 0) := by simp only [pushR, hm, hmt, h2, show mayL (t :: l) = true from hm2]; rfl
    refine go_ret (gt := fun _ => Option.none) (unroll := false) 60 [] [.tmp 4, .tmp 5] (.tuple #[vn, .int .i64 0]) [] [] hW8 Tryd.results26 (by kernel_rfl) trivial trivial (fun w9 hW9 hS9 => ⟨_, by rw [e]; rfl, ?_⟩)
    obtain ⟨r9, l9⟩ := r8.pass l8 hap hS9 hW9
    rw [e]
    exact ⟨r9, hW9.keep, hsn, l9⟩

theorem plain_any (w : World) (n : Nat) : Calls Tryd.prog 30 #[.int .u16 n] w fun x w' => x = .returned (.agg (Tg.mk 33024 0 false n).a) ∧ Keep No w w' := by
  refine enter (args := [.int .u16 n]) Tryd.func30 (by kernel_rfl) ?_
  exact go_ret (gt := fun _ => Option.none) (unroll := true) 60 [] [.cell 2 57] (.agg (Tg.mk 33024 0 false n).a) [] [] (Wst.start0 w) Tryd.results30 (by kernel_rfl) trivial trivial (fun w' hW _ => ⟨rfl, hW.keep⟩)

/-! ### Pop -/
/-- A row that is known, stored into within a region. -/
def RowK (b : Nat) (cs0 cs1 : List Value) : Nat → Gh → World → Prop := fun k g w => g.priv = One b ∧ ∃ t, w.heap[b]? = some (.cells (if k = 0 then cs0 else cs1).toArray t (0, 0))
theorem RowK.keep {b : Nat} {cs0 cs1 : List Value} : ∀ (k : Nat) (g : Gh) (w w' : World), Keep No w w' → RowK b cs0 cs1 k g w → RowK b cs0 cs1 k g w' :=
  fun _ _ _ _ kp ⟨h1, t, h2⟩ => ⟨h1, t, (kp.block b (block_of_row h2) (fun f => f)).trans h2⟩
theorem act_storeK {P : Program} {W w0 : World} {b : Nat} {cs0 cs1 : List Value} {e ty : TypeId} {p v : Tmp} {V : Value} (hK : ∀ w, Keep (One b) w0 w → Keep No W w) (hb0 : W.heap.size ≤ b) (l : List (Nat × Nat)) (hl : ∀ q ∈ l, q.1 = q.2)
    (hq : ∀ nx, gRun P (some 0) (Instr.storeAt e (.pointer (some ⟨b, 0, none⟩)) V) ⟨[⟨b, cs0, true⟩], nx⟩ = some ((), ⟨[⟨b, cs1, true⟩], nx⟩, l)) :
    ActM P (One b) w0 (RowK b cs0 cs1) 0 (.store e (.tmp p) (.tmp v)) ty [(p, .is (.pointer (some ⟨b, 0, none⟩))), (v, .is V)] (.is undef) := by
  intro a o g w ho _ hk hb hd hr
  obtain ⟨hp, t, hrow⟩ := hd
  simp only [if_true] at hrow
  have e1 : a.tmps.getD p undef = .pointer (some ⟨b, 0, none⟩) := hr (p, .is (.pointer (some ⟨b, 0, none⟩))) (by simp)
  have e2 : a.tmps.getD v undef = V := hr (v, .is V) (by simp)
  have hW : Wst W ⟨[⟨b, cs0, true⟩], w.heap.size⟩ w := ⟨rfl, fun r hr => by obtain rfl := List.mem_singleton.1 hr; exact ⟨t, hrow⟩, by simp, fun r hr _ => by obtain rfl := List.mem_singleton.1 hr; exact hb0, hK w hk⟩
  obtain ⟨w', h1, h2, h3⟩ := gRun_ok hW (hq w.heap.size) hl
  have he : (execOp a.eval o).run P w = .ok .skip w' := by
    unfold execOp
    simp only [ho, Sem.run_bind, Sem.run_pure]
    rw [show a.eval (.tmp p) = .pointer (some ⟨b, 0, none⟩) from e1, show a.eval (.tmp v) = V from e2, h1]; rfl
  rw [he]
  obtain ⟨t', ht⟩ := h2.rows _ (List.mem_singleton.2 rfl)
  have hk0 := hK w hk
  refine ⟨g, ⟨⟨h2.keep.os.trans hk0.os.symm, h2.keep.tape.trans hk0.tape.symm, h2.keep.output.trans hk0.output.symm, by rw [h2.size]; exact Nat.le_refl _, fun k hkl hn => h3.same k ⟨hkl, fun r hr _ => ?_⟩⟩, fun k h => .inl h, fun h => ⟨h, rfl⟩⟩, ?_, ⟨hp, t', ht⟩, rfl⟩
  · obtain rfl := List.mem_singleton.1 hr
    intro e
    exact hn (by rw [hp]; exact e.symm)
  · intro k h
    exact ⟨by have := (hb k h).1; rw [h2.size]; exact this, (hb k h).2⟩
/-- A new slice of tags. -/
def frS (N : Nat) (l : List Tg) : Sm := .such (fun g w x => Rt w x l ∧ Since N x ∧ ∀ b, x.ownBlock = some b → b < w.heap.size ∧ ¬ g.priv b)
  (fun g w g' w' x k h => ⟨h.1.keep k.keep (fun b hb => (h.2.2 b hb).2), h.2.1, fun b hb => ⟨Nat.lt_of_lt_of_le (h.2.2 b hb).1 k.keep.size, fun hp => by
    rcases k.priv b hp with h1 | h1
    · exact (h.2.2 b hb).2 h1
    · have := (h.2.2 b hb).1; omega⟩⟩)
def t0 : Tg := ⟨0, 0, false, 0⟩
/-- What Pop tells. -/
def popR (l : List Tg) : Tg × List Tg × Nat := if !mayL l then (t0, [], 1) else match l with | [] => (t0, [], 6) | t :: l => (t, l, 0)
noncomputable abbrev poC : Code := bodyOf Tryd.f31
abbrev poQ (w : World) (l : List Tg) : Ending → World → Prop := fun x w' => ∃ v', x = .returned (.tuple #[.agg (popR l).1.a, v', .int .i64 ((popR l).2.2 : Nat)]) ∧ FreshR w (popR l).2.1 v' w'
theorem pop_any {w : World} {v : Value} {l : List Tg} (r : Rt w v l) (hl : l.length ≤ 1000000) (hk : Kh w) : Calls Tryd.prog 31 #[v] w (poQ w l) := by
  refine enter (args := [v]) Tryd.func31 (by kernel_rfl) ?_
  refine go_call_is (gt := fun _ => Option.none) (unroll := false) 60 [] 22 [v] [0, 2] [v, .pointer (some ⟨w.heap.size, 0, none⟩)] 7 [⟨w.heap.size, t0.a.toList, true⟩] [(2, 0)] (inR poC 1 1) [] [] (Wst.start0 w) (by kernel_rfl) trivial trivial ?_
  intro w1 hW1 _
  refine (may_any (r.keep0 hW1.keep) (hk.keep0 hW1.keep)).mono ?_
  rintro x w2 ⟨rfl, k2⟩
  refine ⟨_, rfl, ?_⟩
  have hW2 := hW1.later k2
  cases hm : mayL l with
  | false =>
    have e : popR l = (t0, [], 1) := by simp [popR, hm]
    exact go_ret (gt := fun _ => Option.none) (unroll := false) 60 [] [.cell 2 57, .tmp 3, .tmp 4] (.tuple #[.agg t0.a, .slice none 0 0, .int .i64 1]) [] [] hW2 Tryd.results31 (by kernel_rfl) trivial trivial (fun w9 hW9 _ => ⟨_, by rw [e]; rfl, by rw [e]; exact FreshR.nil hW9.keep⟩)
  | true =>
  match l, r, hl, hm with
  | [], r, _, hm =>
    have e : popR [] = (t0, [], 6) := rfl
    exact go_ret (gt := fun _ => Option.none) (unroll := false) 60 [(3, 1, .sem (.int .i64 0))] [.cell 2 57, .tmp 3, .tmp 4] (.tuple #[.agg t0.a, .slice none 0 0, .int .i64 6]) [] [(Builtin.len_ #[24] 3 #[v], .int .i64 0)] hW2 Tryd.results31 (by kernel_rfl)
      trivial ⟨fun wx _ => r.sem_len ett (ty := 3) wx, trivial⟩ (fun w9 hW9 _ => ⟨_, by rw [e]; rfl, by rw [e]; exact FreshR.nil hW9.keep⟩)
  | t :: l, r, hl, hm =>
    have e : popR (t :: l) = (t, l, 0) := by simp [popR, hm]
    have hcut : (((t :: l).drop 1).take ((t :: l).length - 1)) = l := by simp
    refine go_stop (gt := fun _ => Option.none) (unroll := false) 60 [(3, 1, .sem (.int .i64 ((t :: l).length : Int))), (3, 2, .is (.bool false))] [0, 2] [v, .pointer (some ⟨w.heap.size, 0, none⟩)] [⟨w.heap.size, t0.a.toList, true⟩] [] (atR poC 5) [(.bool (((t :: l).length : Int) == 0), .bool false)] [(Builtin.len_ #[24] 3 #[v], .int .i64 ((t :: l).length : Int))] hW2 (by kernel_rfl)
      ⟨congrArg Value.bool (by simp; omega), trivial⟩ ⟨fun wx _ => r.sem_len ett (ty := 3) wx, trivial⟩ ?_
    intro w3 hW3 _
    obtain ⟨tt, hrow⟩ := hW3.rows ⟨w.heap.size, t0.a.toList, true⟩ (by simp)
    have hW3' : Wst w ⟨[], w3.heap.size⟩ w3 := hW3.fewer (rows := []) (more := [⟨w.heap.size, t0.a.toList, true⟩])
    have hKN : ∀ wx, Keep (One w.heap.size) w3 wx → Keep No w wx := fun wx k => hW3.keep.trans' k (fun i hi h => by rw [show i = w.heap.size from h] at hi; omega)
    have r3 : ∀ wx, Keep (One w.heap.size) w3 wx → Rt wx v (t :: l) := fun wx k => r.keep0 (hKN wx k)
    refine Goal.re (tags := tagL []) (m := ⟨[], w3.heap.size⟩) ?_
    refine drawnM_ok (S0 := One w.heap.size) (gt := fun _ => Option.none) (D := RowK w.heap.size t0.a.toList t.a.toList) (g0 := ⟨False, undef, One w.heap.size⟩)
      [(1, .sem (.pointer (some (adt v 0)))), (2, .sem (.agg t.a)), (4, .sem (cuts 4 v 1 (t :: l).length)), (5, .call (frS w.heap.size l)), (6, .act (.is undef)), (7, .by (frS w.heap.size l))]
      [2, 3, 4] [.is (.pointer (some ⟨w.heap.size, 0, none⟩)), frS w.heap.size l, .is (.int .i64 0)]
      (True ∧ SemM Tryd.prog (One w.heap.size) w3 (Instr.indexAt 24 v (.int .i64 0)) (.pointer (some (adt v 0))) ∧ SemM Tryd.prog (One w.heap.size) w3 (Instr.loadAt 57 (.pointer (some (adt v 0)))) (.agg t.a) ∧ True ∧
        SemM Tryd.prog (One w.heap.size) w3 (Instr.sliceAt 24 v (some (.int .i64 1)) Option.none Option.none) (cuts 4 v 1 (t :: l).length) ∧
        CallM Tryd.prog (One w.heap.size) w3 58 [.is (cuts 4 v 1 (t :: l).length)] (frS w.heap.size l) ∧
        ActM Tryd.prog (One w.heap.size) w3 (RowK w.heap.size t0.a.toList t.a.toList) 0 (.store 57 (.tmp 2) (.tmp 17)) 0 [(2, .is (.pointer (some ⟨w.heap.size, 0, none⟩))), (17, .is (.agg t.a))] (.is undef) ∧
        ByM Tryd.prog (One w.heap.size) w3 (.assign (.tmp 20)) 24 [(20, frS w.heap.size l)] (frS w.heap.size l) ∧ True ∧ True)
      1 (afterR poC 5) hW3' (fun k hk => ⟨Nat.le_of_eq (Eq.symm hk), fun _ h => nomatch h⟩) (by kernel_rfl) (by kernel_rfl) (by kernel_rfl) RowK.keep (fun k h => ⟨by rw [show k = w.heap.size from h]; exact block_of_row hrow, fun _ => h⟩) ⟨rfl, tt, hrow⟩
      ⟨trivial, fun wx k => r.sem_at ett (i := 0) (by simp) wx, fun wx k => (r3 wx k).sem_ld ett (i := 0) (by simp), trivial, fun wx k => r.sem_cutL ett (a := 1) (by simp) wx, ?_, act_storeK hKN (Nat.le_refl _) (List.replicate 4 (w.heap.size, w.heap.size)) (fun q hq => by rw [List.eq_of_mem_replicate hq]) (fun nx => by kernel_rfl), by_assign, trivial, trivial⟩ ?_
    · intro g wx vals k hbase hv
      match vals, hv with
      | [x], hx =>
        obtain rfl : x = _ := hx.1
        have rc := (r3 wx k).cut (a := 1) (h := (t :: l).length) (by simp) (Nat.le_refl _)
        rw [hcut] at rc
        refine (tclone_any rc (by simp at hl; omega)).mono ?_
        rintro e w9 ⟨u, rfl, fr⟩
        refine ⟨u, rfl, fr.keep, fr.rt, fr.since.mono (hKN wx k).size, fun b hb => ⟨fr.lt b hb, fun hp => ?_⟩⟩
        have := (hbase b hp).1
        have := fr.since b hb
        omega
    intro g w4 vs k4 hbase hd hok
    match vs, hok with
    | [x1, x2, x3], hx =>
    obtain ⟨h1, ⟨h2, h3, h4⟩, h5, _⟩ : x1 = _ ∧ (Rt w4 x2 l ∧ Since w.heap.size x2 ∧ ∀ b, x2.ownBlock = some b → b < w4.heap.size ∧ ¬ g.priv b) ∧ x3 = _ ∧ True := hx
    subst h1 h5
    obtain ⟨hp, t', hrow'⟩ := hd
    simp only [Nat.one_ne_zero, if_false] at hrow'
    have hW4 : Wst w ⟨[] ++ [⟨w.heap.size, t.a.toList, true⟩], w4.heap.size⟩ w4 := (hW3'.laterS k4 (fun k hk => ⟨Nat.le_of_eq (Eq.symm hk), fun _ h => nomatch h⟩)).addRow hrow' (Nat.le_refl _) (fun _ h => nomatch h)
    refine Goal.re (tags := tagL [(2, 0)]) (m := ⟨[⟨w.heap.size, t.a.toList, true⟩], w4.heap.size⟩) ?_
    refine go_ret (gt := fun _ => Option.none) (unroll := false) 60 [] [.cell 2 57, .tmp 3, .tmp 4] (.tuple #[.agg t.a, x2, .int .i64 0]) [] [] hW4 Tryd.results31 (by kernel_rfl) trivial trivial (fun w9 hW9 hS9 => ⟨_, by rw [e]; rfl, ?_⟩)
    obtain ⟨r9, l9⟩ := h2.pass (rows := [⟨w.heap.size, t.a.toList, true⟩]) (fun b hb => (h4 b hb).1) (fun b hb q hq => by
      obtain rfl := List.mem_singleton.1 hq
      intro h
      exact (h4 b hb).2 (by rw [hp]; exact h.symm)) hS9 hW9
    rw [e]
    exact ⟨r9, hW9.keep, h3, l9⟩
end Go.Proofs.YtcimfojbggckhaaDoor
namespace Go.Proofs.YtcimfojbggckhaaDoor
open Go.RowKit

/-- The number of bytes, the highest first. -/
def be (l : List UInt8) : Nat := l.foldl (fun n x => n * 256 + x.toNat) 0
theorem be_snoc (l : List UInt8) (x : UInt8) : be (l ++ [x]) = be l * 256 + x.toNat := by simp [be]
theorem be_lt_aux : ∀ (l : List UInt8) (a m : Nat), a < m → l.foldl (fun n x => n * 256 + x.toNat) a < m * 256 ^ l.length
  | [], a, m, h => by simpa using h
  | x :: l, a, m, h => by
    have hx := x.toNat_lt
    have := be_lt_aux l (a * 256 + x.toNat) (m * 256) (by omega)
    simp only [List.foldl_cons, List.length_cons, Nat.pow_succ']
    rw [← Nat.mul_assoc]; exact this
theorem be_lt (l : List UInt8) : be l < 256 ^ l.length := by simpa [be] using be_lt_aux l 0 1 (by omega)
theorem be_small {l : List UInt8} {n : Nat} (h : l.length ≤ n) : be l < 256 ^ n := Nat.lt_of_lt_of_le (be_lt l) (Nat.pow_le_pow_right (by omega) h)
theorem take_snoc {l : List UInt8} {k : Nat} (h : k < l.length) : l.take (k + 1) = l.take k ++ [byteAt l k] := by
  rw [List.take_succ_eq_append_getElem h, byteAt_eq h]

theorem or32 (A x : Nat) (hA : A < 16777216) (hx : x < 256) : bits BinOp.or IntKind.u32 ((A : Int) * 256) (x : Int) = ((A * 256 + x : Nat) : Int) := by
  have e : A * 256 + x = A * 256 ||| x := by
    have := Nat.shiftLeft_add_eq_or_of_lt (i := 8) (b := x) (by omega) A
    simpa [Nat.shiftLeft_eq] using this
  have h1 : (BitVec.ofInt 32 ((A : Int) * 256)).toNat = A * 256 := by
    rw [show (A : Int) * 256 = ((A * 256 : Nat) : Int) from rfl, BitVec.ofInt_natCast, BitVec.toNat_ofNat]; exact Nat.mod_eq_of_lt (by omega)
  have h2 : (BitVec.ofInt 32 (x : Int)).toNat = x := by
    rw [BitVec.ofInt_natCast, BitVec.toNat_ofNat]; exact Nat.mod_eq_of_lt (by omega)
  show IntKind.u32.wrap ((BitVec.ofInt 32 ((A : Int) * 256) ||| BitVec.ofInt 32 (x : Int)).toNat : Int) = _
  rw [BitVec.toNat_or, h1, h2, ← e, IntKind.wrap_u32]
  omega

end Go.Proofs.YtcimfojbggckhaaDoor
namespace Go.Proofs.YtcimfojbggckhaaDoor
open Go.RowKit
section
variable {w : World} {p : Nat} {sv : Value} {bs : List UInt8} {at_ : Nat} {e : Int}
set_option maxHeartbeats 1000000 in
theorem number16_any (h : Cu w p sv bs at_ e) (n : Int) (hn : n ≤ 2) :
    Calls Tryd.prog 68 #[.pointer (some ⟨p, 0, Option.none⟩), .int .i64 n] w fun x w' => x = .returned (.int .u16 (be (takeB bs at_ e n) : Nat)) ∧ Cu w' p sv bs (takeA bs at_ e n) (takeE bs at_ e n) ∧ Keep (One p) w w' := by
  go_enter Tryd.func68, Tryd.ntmps68
  have hlen : (takeB bs at_ e n).length ≤ 2 := by
    unfold takeB; split
    · simp; omega
    · simp
  generalize hout : takeB bs at_ e n = out at *
  have HOUT := Lib.hid hout
  clear hout
  go_wp2_with (go_at_call 69; refine (take_any h n).mono ?_; rintro x w1 ⟨v', rfl, hc, hk, hcu, hkp⟩; rw [HOUT.out] at hc; have r := hc.rd; have hl : ∀ wx, (Builtin.len_ #[26] 3 #[v']).run Tryd.prog wx = .ok (.int .i64 (out.length : Int)) wx := fun wx => r.run_len bt.sl)
  go_loop [5, 12] (fun s i => ∃ k : Nat, k ≤ out.length ∧ i = .int .i64 k ∧ s = .int .u32 (be (out.take k) : Nat)) (fun _ i => out.length - (intOf i).toNat)
  case atStart => exact ⟨0, Nat.zero_le _, rfl, rfl⟩
  case round =>
    obtain ⟨k, hk', rfl, rfl⟩ := hrel
    by_cases hlt : k < out.length
    · have hat : ∀ wx, (Instr.indexAt 26 v' (.int .i64 (k : Int))).run Tryd.prog wx = .ok (.pointer (some (adr v' k))) wx := fun wx => by
        have := r.run_at (P := Tryd.prog) (w' := wx) bt.sl bsize (k := .i64) (i := (k : Int)) (by omega) (by omega)
        simpa using this
      have hcell := r.cell k hlt
      have hx := byteAt_lt out k
      have hs := be_snoc (out.take k) (byteAt out k)
      rw [← take_snoc hlt] at hs
      have HS := Lib.hid hs
      have hb : be (out.take k) < 16777216 := be_small (n := 3) (by simp; omega)
      clear hs
      generalize be (out.take k) = A at *
      generalize (byteAt out k).toNat = x at *
      go_wp2
      go_round
      case rel =>
        refine ⟨k + 1, by omega, by go_num, ?_⟩
        rw [HS.out, or32 A x hb hx]
      case measure => simp [intOf]; omega
    · have hke : k = out.length := by omega
      subst hke
      rw [List.take_length]
      have hlt : be out < 65536 := be_small (n := 2) hlen
      go_wp2
      go_ret
      exact ⟨rfl, hcu, hkp⟩

set_option maxHeartbeats 1000000 in
theorem two_any (h : Cu w p sv bs at_ e) :
    Calls Tryd.prog 61 #[.pointer (some ⟨p, 0, Option.none⟩)] w fun x w' => x = .returned (.int .u16 (be (takeB bs at_ e 2) : Nat)) ∧ Cu w' p sv bs (takeA bs at_ e 2) (takeE bs at_ e 2) ∧ Keep (One p) w w' := by
  go_enter Tryd.func61, Tryd.ntmps61
  go_wp2_with (go_at_call 68; refine (number16_any h 2 (by omega)).mono ?_; rintro x w1 ⟨rfl, hcu, hkp⟩)
  go_ret
  exact ⟨rfl, hcu, hkp⟩
end
end Go.Proofs.YtcimfojbggckhaaDoor
namespace Go.Proofs.YtcimfojbggckhaaDoor
open Go.RowKit

/-- Do bytes begin with a kind that may stand behind so many? -/
def begB (cs : List UInt8) (n : Nat) : Bool := decide (2 ≤ cs.length) && (decide (n < 2) && (kindsL n).contains ((be (cs.take 2) : Nat) : Int))
def begK (cs : List UInt8) (n : Nat) : Nat := if 2 ≤ cs.length ∧ n < 2 then be (cs.take 2) else 0
abbrev bgQ (w : World) (cs : List UInt8) (n : Nat) : Ending → World → Prop := fun x w' => x = .returned (.tuple #[.int .u16 (begK cs n), .bool (begB cs n)]) ∧ Keep No w w'
noncomputable abbrev bgC : Code := bodyOf Tryd.f59
section
variable {w : World} {v : Value} {cs : List UInt8}
theorem kh_walk {w0 w1 w2 : World} {m : Mem} (h : Kh w0) (hW : Wst w0 m w1) (hs : ∀ k, Safe m k → w2.heap[k]? = w1.heap[k]?) : Kh w2 := by
  obtain ⟨v0, v1, c0, c1, k0, k1⟩ := h.keep0 hW.keep
  have hx := h
  obtain ⟨u0, u1, d0, d1, l0, l1⟩ := hx
  have hlt : ∀ b, b < w0.heap.size → Safe m b := fun b hb => ⟨by have := hW.keep.size; rw [← hW.size]; omega, fun q hq ho => by have := hW.own q hq ho; omega⟩
  have hc : ∀ {a : Addr} {u : Value}, w0.cell? a = some u → w2.cell? a = some u := fun {a u} hc => by
    rw [← hW.keep.cell hc (fun f => f)]
    exact World.cell?_of_block (hs _ (hlt _ (World.block_lt_of_cell? w0 _ hc)))
  exact ⟨u0, u1, hc d0, hc d1, ⟨l0.shape, fun j hj => hc (l0.cell j hj)⟩, ⟨l1.shape, fun j hj => hc (l1.cell j hj)⟩⟩
theorem begins0 (r : Rd w v cs) (h2 : 2 ≤ cs.length) (hl : cs.length ≤ 1099511627776) (hk : Kh w) : Calls Tryd.prog 59 #[v, .int .i64 0] w (bgQ w cs 0) := by
  have e1 : begK cs 0 = be (cs.take 2) := if_pos ⟨h2, by omega⟩
  have e2 : begB cs 0 = (kindsL 0).contains ((be (cs.take 2) : Nat) : Int) := by simp only [begB, decide_eq_true h2, Bool.true_and]; rfl
  refine enter (args := [v, .int .i64 0]) Tryd.func59 (by kernel_rfl) ?_
  refine go_call_is (gt := fun _ => Option.none) (unroll := true) 60 [(1, 1, .sem (.int .i64 (cs.length : Int))), (1, 2, .is (.bool false)), (3, 1, .sem (cutv v 0 2))] 60 [cutv v 0 2] [1] [.int .i64 0] 16 [] [] (inR bgC 3 2)
    [(.bool (decide ((cs.length : Int) < 2)), .bool false)] [(Builtin.len_ #[26] 3 #[v], .int .i64 (cs.length : Int)), (Instr.sliceAt 26 v Option.none (some (.int .i64 2)) Option.none, cutv v 0 2)]
    (Wst.start0 w) (by kernel_rfl) ⟨congrArg Value.bool (by simp; omega), trivial⟩ ⟨fun wx _ => r.run_len (ty := 3) bt.sl, fun wx _ => r.sem_cutH (k := 2) h2 wx, trivial⟩ ?_
  intro w1 hW1 _
  have r1 : Rd w1 (cutv v 0 2) (cs.take 2) := by simpa using ((r.keep0 hW1.keep).cut (l := 0) (h := 2) (Nat.zero_le _) h2)
  refine (new_any r1 (by simp; omega)).mono ?_
  rintro x w2 ⟨p, sv, rfl, hcu, k2, hp, hsv⟩
  refine ⟨_, rfl, ?_⟩
  have hW2 := hW1.later k2
  refine go_call_is (gt := fun _ => Option.none) (unroll := true) 60 [] 61 [.pointer (some ⟨p, 0, none⟩)] [1] [.int .i64 0] 17 [] [] (inR bgC 3 3) [] [] hW2 (by kernel_rfl) trivial trivial ?_
  intro w3 hW3 hS3
  have hcu3 : Cu w3 p sv (cs.take 2) 0 0 := hcu.walk (rows := []) (fun _ h => nomatch h) hS3 hW3
  refine (two_any hcu3).mono ?_
  rintro x w4 ⟨rfl, _, k4⟩
  refine ⟨_, rfl, ?_⟩
  have e3 : takeB (cs.take 2) 0 0 2 = cs.take 2 := by
    rw [takeB, if_pos ⟨rfl, by omega, by simp; omega⟩]
    simp [List.take_take]
  rw [e3]
  have hW4 := hW3.laterS k4 (fun k hk => ⟨by rw [show k = p from hk]; exact Nat.le_trans hW1.keep.size hp, fun _ h => nomatch h⟩)
  obtain ⟨v0, v1, c0, c1, k0, k1⟩ := hk.keep0 hW4.keep
  refine go_call_is (gt := fun _ => Option.none) (unroll := true) 60 [(4, 3, .sem v0)] 50 [v0, .int .u16 (be (cs.take 2) : Nat)] [18] [.int .u16 (be (cs.take 2) : Nat)] 23 [] [] (inR bgC 4 5) []
    [(Instr.loadAt 89 (.pointer (some ⟨0, 0, none⟩)), v0)] hW4 (by kernel_rfl) trivial ⟨fun wx hx => sem_ldk ?_, trivial⟩ ?_
  · rw [← c0]
    exact World.cell?_of_block (hx _ ⟨World.block_lt_of_cell? w4 _ c0, fun _ h => nomatch h⟩)
  intro w5 hW5 hS5
  have kx : Ks w5 v0 (kindsL 0) := ⟨k0.shape, fun j hj => by
    have hc := k0.cell j hj
    rw [← hc]
    exact World.cell?_of_block (hS5.same _ ⟨World.block_lt_of_cell? w4 _ hc, fun _ h => nomatch h⟩)⟩
  refine (contains_any (i := 0) (by omega) kx _).mono ?_
  rintro x w6 ⟨rfl, k6⟩
  refine ⟨_, rfl, ?_⟩
  rw [← e2]
  exact go_ret (gt := fun _ => Option.none) (unroll := true) 60 [] [.tmp 4, .tmp 5] (.tuple #[.int .u16 (be (cs.take 2) : Nat), .bool (begB cs 0)]) [] [] (hW5.later k6) Tryd.results59 (by kernel_rfl) trivial trivial (fun w9 hW9 _ => ⟨by rw [e1], hW9.keep⟩)
theorem begins1 (r : Rd w v cs) (h2 : 2 ≤ cs.length) (hl : cs.length ≤ 1099511627776) (hk : Kh w) : Calls Tryd.prog 59 #[v, .int .i64 1] w (bgQ w cs 1) := by
  have e1 : begK cs 1 = be (cs.take 2) := if_pos ⟨h2, by omega⟩
  have e2 : begB cs 1 = (kindsL 1).contains ((be (cs.take 2) : Nat) : Int) := by simp only [begB, decide_eq_true h2, Bool.true_and]; rfl
  refine enter (args := [v, .int .i64 1]) Tryd.func59 (by kernel_rfl) ?_
  refine go_call_is (gt := fun _ => Option.none) (unroll := true) 60 [(1, 1, .sem (.int .i64 (cs.length : Int))), (1, 2, .is (.bool false)), (3, 1, .sem (cutv v 0 2))] 60 [cutv v 0 2] [1] [.int .i64 1] 16 [] [] (inR bgC 3 2)
    [(.bool (decide ((cs.length : Int) < 2)), .bool false)] [(Builtin.len_ #[26] 3 #[v], .int .i64 (cs.length : Int)), (Instr.sliceAt 26 v Option.none (some (.int .i64 2)) Option.none, cutv v 0 2)]
    (Wst.start0 w) (by kernel_rfl) ⟨congrArg Value.bool (by simp; omega), trivial⟩ ⟨fun wx _ => r.run_len (ty := 3) bt.sl, fun wx _ => r.sem_cutH (k := 2) h2 wx, trivial⟩ ?_
  intro w1 hW1 _
  have r1 : Rd w1 (cutv v 0 2) (cs.take 2) := by simpa using ((r.keep0 hW1.keep).cut (l := 0) (h := 2) (Nat.zero_le _) h2)
  refine (new_any r1 (by simp; omega)).mono ?_
  rintro x w2 ⟨p, sv, rfl, hcu, k2, hp, hsv⟩
  refine ⟨_, rfl, ?_⟩
  have hW2 := hW1.later k2
  refine go_call_is (gt := fun _ => Option.none) (unroll := true) 60 [] 61 [.pointer (some ⟨p, 0, none⟩)] [1] [.int .i64 1] 17 [] [] (inR bgC 3 3) [] [] hW2 (by kernel_rfl) trivial trivial ?_
  intro w3 hW3 hS3
  have hcu3 : Cu w3 p sv (cs.take 2) 0 0 := hcu.walk (rows := []) (fun _ h => nomatch h) hS3 hW3
  refine (two_any hcu3).mono ?_
  rintro x w4 ⟨rfl, _, k4⟩
  refine ⟨_, rfl, ?_⟩
  have e3 : takeB (cs.take 2) 0 0 2 = cs.take 2 := by
    rw [takeB, if_pos ⟨rfl, by omega, by simp; omega⟩]
    simp [List.take_take]
  rw [e3]
  have hW4 := hW3.laterS k4 (fun k hk => ⟨by rw [show k = p from hk]; exact Nat.le_trans hW1.keep.size hp, fun _ h => nomatch h⟩)
  obtain ⟨v0, v1, c0, c1, k0, k1⟩ := hk.keep0 hW4.keep
  refine go_call_is (gt := fun _ => Option.none) (unroll := true) 60 [(4, 3, .sem v1)] 50 [v1, .int .u16 (be (cs.take 2) : Nat)] [18] [.int .u16 (be (cs.take 2) : Nat)] 23 [] [] (inR bgC 4 5) []
    [(Instr.loadAt 89 (.pointer (some ⟨0, 1, none⟩)), v1)] hW4 (by kernel_rfl) trivial ⟨fun wx hx => sem_ldk ?_, trivial⟩ ?_
  · rw [← c1]
    exact World.cell?_of_block (hx _ ⟨World.block_lt_of_cell? w4 _ c1, fun _ h => nomatch h⟩)
  intro w5 hW5 hS5
  have kx : Ks w5 v1 (kindsL 1) := ⟨k1.shape, fun j hj => by
    have hc := k1.cell j hj
    rw [← hc]
    exact World.cell?_of_block (hS5.same _ ⟨World.block_lt_of_cell? w4 _ hc, fun _ h => nomatch h⟩)⟩
  refine (contains_any (i := 1) (by omega) kx _).mono ?_
  rintro x w6 ⟨rfl, k6⟩
  refine ⟨_, rfl, ?_⟩
  rw [← e2]
  exact go_ret (gt := fun _ => Option.none) (unroll := true) 60 [] [.tmp 4, .tmp 5] (.tuple #[.int .u16 (be (cs.take 2) : Nat), .bool (begB cs 1)]) [] [] (hW5.later k6) Tryd.results59 (by kernel_rfl) trivial trivial (fun w9 hW9 _ => ⟨by rw [e1], hW9.keep⟩)
theorem begins_any (r : Rd w v cs) {n : Nat} (hn : n ≤ 2) (hl : cs.length ≤ 1099511627776) (hk : Kh w) : Calls Tryd.prog 59 #[v, .int .i64 (n : Int)] w (bgQ w cs n) := by
  by_cases h2 : 2 ≤ cs.length
  · match n, hn with
    | 0, _ => exact begins0 r h2 hl hk
    | 1, _ => exact begins1 r h2 hl hk
    | 2, _ =>
      have e1 : begK cs 2 = 0 := if_neg (by omega)
      have e2 : begB cs 2 = false := by simp [begB]
      refine enter (args := [v, .int .i64 2]) Tryd.func59 (by kernel_rfl) ?_
      refine go_ret (gt := fun _ => Option.none) (unroll := true) 60 [(1, 1, .sem (.int .i64 (cs.length : Int))), (1, 2, .is (.bool false))] [.tmp 4, .tmp 5] (.tuple #[.int .u16 0, .bool false])
        [(.bool (decide ((cs.length : Int) < 2)), .bool false)] [(Builtin.len_ #[26] 3 #[v], .int .i64 (cs.length : Int))] (Wst.start0 w) Tryd.results59 (by kernel_rfl)
        ⟨congrArg Value.bool (by simp; omega), trivial⟩ ⟨fun wx _ => r.run_len (ty := 3) bt.sl, trivial⟩ (fun w9 hW9 _ => ⟨by rw [e1, e2]; rfl, hW9.keep⟩)
  · have e1 : begK cs n = 0 := if_neg (by omega)
    have e2 : begB cs n = false := by simp [begB, h2]
    refine enter (args := [v, .int .i64 (n : Int)]) Tryd.func59 (by kernel_rfl) ?_
    refine go_ret (gt := fun _ => Option.none) (unroll := true) 60 [(1, 1, .sem (.int .i64 (cs.length : Int))), (1, 2, .is (.bool true))] [.tmp 4, .tmp 5] (.tuple #[.int .u16 0, .bool false])
      [(.bool (decide ((cs.length : Int) < 2)), .bool true)] [(Builtin.len_ #[26] 3 #[v], .int .i64 (cs.length : Int))] (Wst.start0 w) Tryd.results59 (by kernel_rfl)
      ⟨congrArg Value.bool (by simp; omega), trivial⟩ ⟨fun wx _ => r.run_len (ty := 3) bt.sl, trivial⟩ (fun w9 hW9 _ => ⟨by rw [e1, e2]; rfl, hW9.keep⟩)
end
end Go.Proofs.YtcimfojbggckhaaDoor
namespace Go.Proofs.YtcimfojbggckhaaDoor
open Go.RowKit

/-- A stack that is read behind others. -/
def readT : Nat → List Tg → List UInt8 → List Tg × List UInt8 × Nat
  | 0, l, b => (l, b, 0)
  | f + 1, l, b => if begB b l.length then if b.length < 4 then ([], [], 4) else readT f (l ++ [tgN (be (b.take 2)) (be ((b.drop 2).take 2))]) (b.drop 4) else (l, b, 0)

/-- What an append of tags leaves. -/
def appS (e : TypeId) (N : Nat) (l : List Tg) : Sm := .such (fun g w x => Ot e w x l ∧ Since N x ∧ ∀ b, x.ownBlock = some b → ¬ g.priv b)
  (fun g w g' w' x k h => ⟨h.1.keep k.keep h.2.2, h.2.1, fun b hb hp => by
    rcases k.priv b hp with h1 | h1
    · exact h.2.2 b hb h1
    · have := h.1.lt b hb; omega⟩)
/-- In the region: the cutter, the tags so far. -/
def RdD (e : TypeId) (vl : Value) (l : List Tg) (c2 : List UInt8) (w0 : World) : Nat → Gh → World → Prop
  | 0, g, w => ¬ g.live ∧ g.priv = (fun k => vl.ownBlock = some k) ∧ Ot e w vl l
  | 1, g, w => g.live ∧ ∃ p sv, g.val = .pointer (some ⟨p, 0, none⟩) ∧ Cu w p sv c2 0 0 ∧ g.priv = (fun k => vl.ownBlock = some k ∨ k = p) ∧ w0.heap.size ≤ p ∧ Ot e w vl l
  | 2, g, w => ∃ p, w0.heap.size ≤ p ∧ p < w.heap.size ∧ g.priv = (fun k => vl.ownBlock = some k ∨ k = p) ∧ Ot e w vl l
  | 3, g, w => ∃ p, w0.heap.size ≤ p ∧ p < w.heap.size ∧ g.priv = (fun k => vl.ownBlock = some k ∨ k = p) ∧ Ot e w vl l
  | _, _, _ => True
theorem RdD.keep {e : TypeId} {vl : Value} {l : List Tg} {c2 : List UInt8} {w0 : World} : ∀ (k : Nat) (g : Gh) (w w' : World), Keep No w w' → RdD e vl l c2 w0 k g w → RdD e vl l c2 w0 k g w'
  | 0, _, _, _, k, ⟨h1, h2, h3⟩ => ⟨h1, h2, h3.keep0 k⟩
  | 1, _, _, _, k, ⟨h1, p, sv, h2, h3, h4, h5, h6⟩ => ⟨h1, p, sv, h2, h3.keep0 k, h4, h5, h6.keep0 k⟩
  | 2, _, _, _, k, ⟨p, h1, h2, h3, h4⟩ => ⟨p, h1, Nat.lt_of_lt_of_le h2 k.size, h3, h4.keep0 k⟩
  | 3, _, _, _, k, ⟨p, h1, h2, h3, h4⟩ => ⟨p, h1, Nat.lt_of_lt_of_le h2 k.size, h3, h4.keep0 k⟩
  | _ + 4, _, _, _, _, _ => trivial
section
variable {w0 : World} {vl : Value} {l : List Tg} {c2 : List UInt8}
theorem rd_new {e : TypeId} {u : Value} (hn : c2.length ≤ 1099511627776) (hr : ∀ w, Keep (fun k => vl.ownBlock = some k) w0 w → Rd w u c2) :
    LoudM Tryd.prog (fun k => vl.ownBlock = some k) w0 (RdD e vl l c2 w0) 0 60 [.is u] padS := by
  intro g w vals hk hb hd ha
  match vals, ha with
  | [x], ha =>
    obtain rfl : x = u := ha.1
    obtain ⟨hl, hp, ho⟩ := hd
    refine (new_any (hr w hk) (by omega)).mono ?_
    rintro y w' ⟨p, sv, rfl, hcu, k, hpw, hsv⟩
    have h0 := hk.size
    refine ⟨_, ⟨True, .pointer (some ⟨p, 0, none⟩), fun k => vl.ownBlock = some k ∨ k = p⟩, rfl, ⟨k.no, ?_, fun h => absurd h hl⟩, ?_, ⟨trivial, p, sv, rfl, hcu, rfl, by omega, ho.keep0 k⟩, trivial, rfl⟩
    · rintro q (h | rfl)
      · exact .inl (by rw [hp]; exact h)
      · exact .inr hpw
    · rintro q (h | rfl)
      · exact ⟨Nat.lt_of_lt_of_le (ho.lt q h) k.size, fun _ => h⟩
      · exact ⟨hcu.lt, fun h => absurd h (by omega)⟩
theorem rd_two {e : TypeId} (h2 : c2.length = 2) (hvl : Under w0.heap.size vl) :
    LoudM Tryd.prog (fun k => vl.ownBlock = some k) w0 (RdD e vl l c2 w0) 1 61 [padS] (.is (.int .u16 (be c2 : Nat))) := by
  intro g w vals hk hb hd ha
  match vals, ha with
  | [x], ha =>
    obtain ⟨hlive, p, sv, hv, hcu, hp, hpw, ho⟩ := hd
    obtain ⟨⟨_, hx⟩, _⟩ := ha
    rw [hx, hv]
    refine (two_any hcu).mono ?_
    rintro y w' ⟨rfl, hcu', k⟩
    have e3 : takeB c2 0 0 2 = c2 := by
      rw [takeB, if_pos ⟨rfl, by omega, by rw [h2]; decide⟩]
      simp [← h2]
    rw [e3]
    have hne : ∀ b, vl.ownBlock = some b → ¬ One p b := fun b hb h => by have := hvl b hb; rw [show b = p from h] at this; omega
    refine ⟨_, g, rfl, ⟨k.mono fun q _ h => by rw [hp]; exact .inr h, fun q h => .inl h, fun h => ⟨h, rfl⟩⟩, fun q h => ⟨Nat.lt_of_lt_of_le (hb q h).1 k.size, (hb q h).2⟩, ⟨p, hpw, hcu'.lt, hp, ho.keep k hne⟩, rfl⟩
theorem rd_of {e : TypeId} {kd n : Nat} (hn : n < 65536) :
    LoudM Tryd.prog (fun k => vl.ownBlock = some k) w0 (RdD e vl l c2 w0) 2 54 [.is (.int .u16 kd), .is (.int .u16 n)] (.is (.agg (tgN kd n).a)) := by
  intro g w vals hk hb hd ha
  match vals, ha with
  | [x, y], ha =>
    obtain rfl : x = _ := ha.1
    obtain rfl : y = _ := ha.2.1
    refine (tagof_any w kd n).mono ?_
    rintro z w' ⟨rfl, k⟩
    obtain ⟨p, h1, h2, h3, h4⟩ := hd
    exact ⟨_, g, rfl, Tr.quiet k, hb.mono k, ⟨p, h1, Nat.lt_of_lt_of_le h2 k.size, h3, h4.keep0 k⟩, by rw [ofR_nat hn]; rfl⟩
theorem rd_app {P : Program} {t e : TypeId} {N : Nat} (T : ET P t e) {x y : Tmp} {tg : Tg} (hvl : Under w0.heap.size vl) (hN : N ≤ w0.heap.size) (hs : Since N vl) (hl : l.length ≤ 1000000) (ty : TypeId) :
    ActM P (fun k => vl.ownBlock = some k) w0 (RdD e vl l c2 w0) 3 (.call { callee := .builtin .append, args := #[.tmp x, .tmp y], argTypes := #[t, t] }) ty [(x, .is vl), (y, rowS 4 1 fun j => (csT [tg]).getD j undef)] (appS e N (l ++ [tg])) := by
  intro a o g w ho hty hk hb hd hr
  obtain ⟨p, h1, h2, h3, h4⟩ := hd
  have ex : a.tmps.getD x undef = vl := hr (x, .is vl) (by simp)
  have ey := hr (y, rowS 4 1 fun j => (csT [tg]).getD j undef) (by simp)
  obtain ⟨rt, _⟩ := ey
  have rt' : Rt w (a.tmps.getD y undef) [tg] := rt
  obtain ⟨v', w', hrun, ho', k', hbl⟩ := run_append_t T h4 rt' (by simp; omega)
  have he : (execOp a.eval o).run P w = .ok (.value v') w' := by
    unfold execOp
    simp only [ho, resolve, invoke, builtin, Sem.run_bind, Sem.run_pure, Result.andThen_ok, List.map_toArray, List.map_cons, List.map_nil]
    rw [show a.eval (.tmp x) = vl from ex, show a.eval (.tmp y) = a.tmps.getD y undef from rfl, hrun]
    rfl
  rw [he]
  refine ⟨⟨g.live, g.val, fun k => k = p⟩, ⟨k'.mono fun q _ h => by rw [h3]; exact .inl h, ?_, fun h => ⟨h, rfl⟩⟩, ?_, trivial, ho', ?_, ?_⟩
  · rintro q rfl
    rw [h3]
    exact .inl (.inr rfl)
  · rintro q rfl
    exact ⟨Nat.lt_of_lt_of_le h2 k'.size, fun h => absurd h (by omega)⟩
  · intro b hb'
    rcases hbl with h | h <;> rw [h] at hb'
    · exact hs b hb'
    · have := hk.size
      obtain rfl := Option.some.inj hb'
      omega
  · intro b hb' hp
    have hp' : b = p := hp
    subst hp'
    rcases hbl with h | h <;> rw [h] at hb'
    · have := hvl b hb'
      omega
    · obtain h' := Option.some.inj hb'
      omega
end

noncomputable abbrev rdC : Code := bodyOf Tryd.f32
noncomputable abbrev rdN : Nat := Tryd.f32.ntmps
/-- What Read tells. -/
structure ReadR (w : World) (bs : List UInt8) (v u : Value) (w' : World) : Prop where
  rt : Rt w' v (readT 3 [] bs).1
  rd : Rd w' u (readT 3 [] bs).2.1
  keep : Keep No w w'
  sv : Since w.heap.size v
  su : Since w.heap.size u
  lv : Under w'.heap.size v
  lu : Under w'.heap.size u
abbrev rdQ (w : World) (bs : List UInt8) : Ending → World → Prop := fun x w' => ∃ v u, x = .returned (.tuple #[v, u, .int .i64 ((readT 3 [] bs).2.2 : Nat)]) ∧ ReadR w bs v u w'
structure RdI where
  vb : Value
  cs : List UInt8
  vl : Value
  l : List Tg
noncomputable def rdLp (i : RdI) (w' : World) : Cfg := ⟨frOf [0, 2] [i.vb, i.vl], tagL [], ⟨[], w'.heap.size⟩, atL rdC 1⟩
structure RdJ (w : World) (bs : List UInt8) (i : RdI) (w' : World) : Prop where
  W : Wst w ⟨[], w'.heap.size⟩ w'
  l2 : i.l.length ≤ 2
  ot : Ot 57 w' i.vl i.l
  si : Since w.heap.size i.vl
  rd : Rd w i.vb i.cs
  len : i.cs.length ≤ 1099511627776
  eq : readT 3 [] bs = readT (3 - i.l.length) i.l i.cs
noncomputable def rdR (w : World) (bs : List UInt8) (i : RdI) : Act → World → Prop := fun a' w' => ∃ j : RdI, 2 - j.l.length < 2 - i.l.length ∧ RdJ w bs j w' ∧ agrees rdN (rdLp j w') a'
theorem since_loose {W0 : World} {m : Mem} {v : Value} (h : Since W0.heap.size v) (hm : m.rows = []) : Loose W0 m (fun k => v.ownBlock = some k) := fun k hk => ⟨h k hk, fun r hr => by rw [hm] at hr; cases hr⟩
set_option maxRecDepth 4000 in
theorem read_round {w : World} {bs : List UInt8} (hk : Kh w) (i : RdI) (w' : World) (hJ : RdJ w bs i w') :
    Goal Tryd.prog (bodyPost Tryd.prog Tryd.f32 (rdQ w bs)) rdN { rdLp i w' with todo := .code (loopOf (atL rdC 1)) :: .inv (rdR w bs i) :: (atL rdC 1).tail } w' := by
  obtain ⟨hW, hl2, hot, hsi, hrd, hlen, heq⟩ := hJ
  unfold rdLp
  obtain ⟨f, hf⟩ : ∃ f, 3 - i.l.length = f + 1 := ⟨2 - i.l.length, by omega⟩
  have hst : readT (f + 1) i.l i.cs = (if begB i.cs i.l.length then if i.cs.length < 4 then ([], [], 4) else readT f (i.l ++ [tgN (be (i.cs.take 2)) (be ((i.cs.drop 2).take 2))]) (i.cs.drop 4) else (i.l, i.cs, 0)) := rfl
  rw [hf, hst] at heq
  refine go_call_is (gt := fun _ => Option.none) (unroll := false) 60 [(1, 2, .sem (.int .i64 (i.l.length : Int)))] 59 [i.vb, .int .i64 (i.l.length : Int)] [0, 2] [i.vb, i.vl] 11 [] [] (inR rdC 1 3 (.inv (rdR w bs i))) []
    [(Builtin.len_ #[24] 3 #[i.vl], .int .i64 (i.l.length : Int))] hW (by kernel_rfl) trivial ⟨fun wx _ => hot.rt.sem_len ett (ty := 3) wx, trivial⟩ ?_
  intro w1 hW1 hS1
  have ot1 := hot.walk (rows := []) (since_loose hsi rfl) hS1
  refine (begins_any (hrd.keep0 hW1.keep) hl2 hlen (hk.keep0 hW1.keep)).mono ?_
  rintro x w2 ⟨rfl, k2⟩
  refine ⟨_, rfl, ?_⟩
  have hW2 := hW1.later k2
  have ot2 := ot1.keep0 k2
  cases hb : begB i.cs i.l.length with
  | false =>
    rw [hb] at heq
    simp only [Bool.false_eq_true, if_false] at heq
    refine go_call_is (gt := fun _ => Option.none) (unroll := false) 60 [] 48 [i.vb] [16] [i.vl] 18 [] [] (inR rdC 3 2 (.inv (rdR w bs i))) [] [] hW2 (by kernel_rfl) trivial trivial ?_
    intro w3 hW3 hS3
    have ot3 := ot2.walk (rows := []) (since_loose hsi rfl) hS3
    refine (sclone_any _ _ _ (hrd.keep0 hW3.keep) (by omega)).mono ?_
    rintro x w4 ⟨u, rfl, fr, _⟩
    refine ⟨_, rfl, ?_⟩
    have ot4 := ot3.keep0 fr.keep
    refine go_ret (gt := fun _ => Option.none) (unroll := false) 60 [] [.tmp 2, .tmp 3, .tmp 4] (.tuple #[i.vl, u, .int .i64 0]) [] [] (hW3.later fr.keep) Tryd.results32 (by kernel_rfl) trivial trivial ?_
    intro w9 hW9 hS9
    have hsu : Since w.heap.size u := fr.since.mono hW3.keep.size
    refine ⟨i.vl, u, by rw [heq]; rfl, by rw [heq]; exact (ot4.walk (rows := []) (since_loose hsi rfl) hS9).rt, ?_, hW9.keep, hsi, hsu, (ot4.walk (rows := []) (since_loose hsi rfl) hS9).lt, ?_⟩
    · rw [heq]
      exact (fr.own.same fun b hb => hS9.same b ⟨fr.own.lt b hb, fun _ h => nomatch h⟩).rd
    · exact (fr.own.same fun b hb => hS9.same b ⟨fr.own.lt b hb, fun _ h => nomatch h⟩).lt
  | true =>
    have h2 : 2 ≤ i.cs.length ∧ i.l.length < 2 := by
      simp only [begB, Bool.and_eq_true, decide_eq_true_eq] at hb
      exact ⟨hb.1, hb.2.1⟩
    rw [show begK i.cs i.l.length = be (i.cs.take 2) from if_pos h2]
    rw [hb, if_pos rfl] at heq
    by_cases h4 : i.cs.length < 4
    · rw [if_pos h4] at heq
      refine go_ret (gt := fun _ => Option.none) (unroll := false) 60 [(4, 1, .sem (.int .i64 (i.cs.length : Int))), (4, 2, .is (.bool true))] [.tmp 2, .tmp 3, .tmp 4] (.tuple #[.slice none 0 0, .slice none 0 0, .int .i64 4]) [(.bool (decide ((i.cs.length : Int) < 4)), .bool true)] [(Builtin.len_ #[26] 3 #[i.vb], .int .i64 (i.cs.length : Int))] hW2 Tryd.results32 (by kernel_rfl)
        ⟨congrArg Value.bool (by simp; omega), trivial⟩ ⟨fun wx _ => hrd.run_len (ty := 3) bt.sl, trivial⟩ ?_
      intro w9 hW9 _
      exact ⟨_, _, by rw [heq]; rfl, by rw [heq]; exact Rt.nil _, by rw [heq]; exact Rd.nil _, hW9.keep, fun b h => by simp [Value.ownBlock] at h, fun b h => by simp [Value.ownBlock] at h, fun b h => by simp [Value.ownBlock] at h, fun b h => by simp [Value.ownBlock] at h⟩
    · rw [if_neg h4] at heq
      refine go_stop (gt := fun _ => Option.none) (unroll := false) 60 [(4, 1, .sem (.int .i64 (i.cs.length : Int))), (4, 2, .is (.bool false))] [0, 2, 5] [i.vb, i.vl, .int .u16 (be (i.cs.take 2) : Nat)] [] [] (atR rdC 6 (.inv (rdR w bs i))) [(.bool (decide ((i.cs.length : Int) < 4)), .bool false)] [(Builtin.len_ #[26] 3 #[i.vb], .int .i64 (i.cs.length : Int))] hW2 (by kernel_rfl)
        ⟨congrArg Value.bool (by simp; omega), trivial⟩ ⟨fun wx _ => hrd.run_len (ty := 3) bt.sl, trivial⟩ ?_
      intro w3 hW3 hS3
      have ot3 := ot2.walk (rows := []) (since_loose hsi rfl) hS3
      have c2l : ((i.cs.drop 2).take 2).length = 2 := by simp; omega
      have hn2 : be ((i.cs.drop 2).take 2) < 65536 := be_small (n := 2) (by omega)
      have hu : ∀ wx, Keep (fun k => i.vl.ownBlock = some k) w3 wx → Rd wx i.vb i.cs := fun wx k => (hrd.keep0 hW3.keep).keep k fun b hb hb' => by
        have q1 := hrd.blk_lt hb (by omega)
        have q2 := hsi b hb'
        omega
      have hc2 : ∀ wx, Keep (fun k => i.vl.ownBlock = some k) w3 wx → Rd wx (cutv i.vb 2 4) ((i.cs.drop 2).take 2) := fun wx k => (hu wx k).cut (l := 2) (h := 4) (by omega) (by omega)
      generalize hK : be (i.cs.take 2) = kd at *
      generalize hC : (i.cs.drop 2).take 2 = c2 at *
      generalize hN : be c2 = nn at *
      refine drawnM_ok (S0 := fun k => i.vl.ownBlock = some k) (gt := fun _ => Option.none) (D := RdD 57 i.vl i.l c2 w3) (g0 := ⟨False, undef, fun k => i.vl.ownBlock = some k⟩)
        [(3, .sem (cutv i.vb 2 4)), (4, .loud padS), (5, .loud (.is (.int .u16 nn))), (6, .loud (.is (.agg (tgN kd nn).a))), (7, .new (rowS 4 1 fun j => (csT [tgN kd nn]).getD j undef)), (8, .act (appS 57 w.heap.size (i.l ++ [tgN kd nn]))), (10, .sem (cutv i.vb 4 i.cs.length)), (11, .by (appS 57 w.heap.size (i.l ++ [tgN kd nn])))]
        [0, 2] [.is (cutv i.vb 4 i.cs.length), appS 57 w.heap.size (i.l ++ [tgN kd nn])]
        (True ∧ True ∧ True ∧ SemM Tryd.prog (fun k => i.vl.ownBlock = some k) w3 (Instr.sliceAt 26 i.vb (some (.int .i64 2)) (some (.int .i64 4)) Option.none) (cutv i.vb 2 4) ∧
          LoudM Tryd.prog (fun k => i.vl.ownBlock = some k) w3 (RdD 57 i.vl i.l c2 w3) 0 60 [.is (cutv i.vb 2 4)] padS ∧
          LoudM Tryd.prog (fun k => i.vl.ownBlock = some k) w3 (RdD 57 i.vl i.l c2 w3) 1 61 [padS] (.is (.int .u16 nn)) ∧
          LoudM Tryd.prog (fun k => i.vl.ownBlock = some k) w3 (RdD 57 i.vl i.l c2 w3) 2 54 [.is (.int .u16 kd), .is (.int .u16 nn)] (.is (.agg (tgN kd nn).a)) ∧
          NewM Tryd.prog (fun k => i.vl.ownBlock = some k) w3 (Instr.buildSlice 24 1 #[(0, .agg (tgN kd nn).a)]) (rowS 4 1 fun j => (csT [tgN kd nn]).getD j undef) ∧
          ActM Tryd.prog (fun k => i.vl.ownBlock = some k) w3 (RdD 57 i.vl i.l c2 w3) 3 (.call { callee := .builtin .append, args := #[.tmp 22, .tmp 29], argTypes := #[24, 24] }) 24 [(22, .is i.vl), (29, rowS 4 1 fun j => (csT [tgN kd nn]).getD j undef)] (appS 57 w.heap.size (i.l ++ [tgN kd nn])) ∧
          True ∧ SemM Tryd.prog (fun k => i.vl.ownBlock = some k) w3 (Instr.sliceAt 26 i.vb (some (.int .i64 4)) Option.none Option.none) (cutv i.vb 4 i.cs.length) ∧
          ByM Tryd.prog (fun k => i.vl.ownBlock = some k) w3 (.assign (.tmp 30)) 24 [(30, appS 57 w.heap.size (i.l ++ [tgN kd nn]))] (appS 57 w.heap.size (i.l ++ [tgN kd nn])) ∧ True ∧ True)
        4 (afterR rdC 6 (.inv (rdR w bs i))) hW3 (since_loose hsi rfl) (by kernel_rfl) (by kernel_rfl) (by kernel_rfl) RdD.keep (fun k h => ⟨ot3.lt k h, fun _ => h⟩) ⟨fun h => h, rfl, ot3⟩
        ⟨trivial, trivial, trivial, fun wx k => ?_, rd_new (by omega) hc2, hN ▸ rd_two c2l ot3.lt, rd_of hn2, new_row (cs := (tgN kd nn).a.toList) (by simp [maxLen]) (fun _ => by kernel_rfl) (fun j hj => ?_), rd_app ett ot3.lt hW3.keep.size hsi (by omega) _, trivial, fun wx k => (hu wx k).sem_cutL (k := 4) (by omega) wx, by_assign, trivial, trivial⟩ ?_
      · exact (hu wx k).sem_cut (k := 2) (h := 4) (by omega) (by omega) wx
      · have : j = 0 ∨ j = 1 ∨ j = 2 ∨ j = 3 := by omega
        rcases this with rfl | rfl | rfl | rfl <;> rfl
      intro g w4 vs k4 _ _ hok
      match vs, hok with
      | [x, y], hx =>
      obtain ⟨rfl, ⟨h5, h6, _⟩, _⟩ := hx
      refine go_inv (gt := fun _ => Option.none) (unroll := false) 60 [] [0, 2] [cutv i.vb 4 i.cs.length, y] [] (rdR w bs i) [] [] (hW3.laterS k4 (since_loose hsi rfl)) (by kernel_rfl) trivial trivial ?_
      intro w5 a hW5 hS5 hs
      refine ⟨⟨cutv i.vb 4 i.cs.length, i.cs.drop 4, y, i.l ++ [tgN kd nn]⟩, by simp; omega, ⟨hW5, by simp; omega, h5.walk (rows := []) (since_loose h6 rfl) hS5, h6, ?_, by simp; omega, ?_⟩, hs⟩
      · have := hrd.cut (l := 4) (h := i.cs.length) (by omega) (Nat.le_refl _)
        rwa [List.take_of_length_le (by simp)] at this
      · rw [heq]
        simp only [List.length_append, List.length_singleton]
        congr 1
        omega
theorem read_any {w : World} {v : Value} {bs : List UInt8} (r : Rd w v bs) (hl : bs.length ≤ 1099511627776) (hk : Kh w) : Calls Tryd.prog 32 #[v] w (rdQ w bs) := by
  refine enter (args := [v]) Tryd.func32 (by kernel_rfl) ?_
  refine go_stop (gt := fun _ => Option.none) (unroll := false) 60 [] [0, 2] [v, .slice none 0 0] [] [] (atL rdC 1) [] [] (Wst.start0 w) (by kernel_rfl) trivial trivial ?_
  intro w1 hW1 _
  exact loop_okT (P := Tryd.prog) (Q := bodyPost Tryd.prog Tryd.f32 (rdQ w bs)) (n := rdN) (x := loopOf (atL rdC 1)) (k := (atL rdC 1).tail) (fun i : RdI => 2 - i.l.length) rdLp (RdJ w bs) (fun _ _ => by kernel_rfl) (fun i w' hJ => read_round hk i w' hJ) ⟨v, bs, .slice none 0 0, []⟩ w1
    ⟨hW1, by simp, Ot.nil _ _, fun b hb => by simp [Value.ownBlock] at hb, r, hl, rfl⟩
end Go.Proofs.YtcimfojbggckhaaDoor
namespace Go.Proofs.YtcimfojbggckhaaDoor
open Go.RowKit

def wkB : List UInt8 := [136, 168, 0, 5, 129, 0, 0, 7, 129, 0]
def wkT : Tg := ⟨33024, 5, true, 100⟩
def wkL : List Tg := [⟨34984, 0, false, 5⟩, ⟨33024, 0, false, 7⟩]
theorem wk_read : readT 3 [] wkB = (wkL, [129, 0], 0) := by kernel_rfl
theorem wk_bytes : bytesB [wkT] = [129, 0, 176, 100] := by kernel_rfl
theorem wk_push : pushR [⟨34984, 0, false, 1⟩] ⟨34984, 0, false, 2⟩ = ([], 1) := by kernel_rfl
section
variable {w : World} {v : Value} {l : List Tg}
theorem Rt.sem_ldv (r : Rt w v l) {i : Nat} (hi : i < l.length) : (Instr.loadAt 55 (.pointer (some ⟨blk v, offs v + i * 4 + 3, none⟩))).run Tryd.prog w = .ok (.int .u16 ((l[i]).v : Nat)) w := by
  obtain ⟨u, h1, h2⟩ := r.cellAt hi (j := 3) (by omega)
  have hu : u = .int .u16 ((l[i]).v : Nat) := by simpa [tgA] using h1.symm
  subst hu
  have hu := run_underlying (P := Tryd.prog) (w := w) Tryd.underlying55
  simp [Instr.loadAt, Instr.sureAddr, loadVar, isAgg, hu, load, Sem.run, h2]
end
noncomputable abbrev wkC : Code := bodyOf Tryd.f34
set_option maxRecDepth 4000 in
theorem wakes3_any (w : World) (hk : Kh w) : Calls Tryd.prog 34 #[] w fun x w' => x = .returned (.bool true) ∧ Keep No w w' := by
  refine enter (args := []) Tryd.func34 (by kernel_rfl) ?_
  refine go_call_is (gt := fun _ => Option.none) (unroll := true) 60 [] 32 [.slice (some ⟨w.heap.size + 1, 0, none⟩) 10 10] [1] [.pointer (some ⟨w.heap.size, 0, none⟩)] 10 [⟨w.heap.size, wkT.a.toList, true⟩, ⟨w.heap.size + 1, bvs wkB, true⟩] [(1, 0)] (inR wkC 2 1) [] [] (Wst.start0 w) (by kernel_rfl) trivial trivial ?_
  intro w1 hW1 _
  have rb : Rd w1 (.slice (some ⟨w.heap.size + 1, 0, none⟩) 10 10) wkB := Rd.of_row (b := w.heap.size + 1) (off := 0) (ow := true) (cs := bvs wkB) hW1 (by simp) 10 rfl (by decide) (fun i hi => by rw [Nat.zero_add]; exact bvs_get hi)
  refine (read_any rb (by decide) (hk.keep0 hW1.keep)).mono ?_
  rintro x w2 ⟨vl, u, rfl, rr⟩
  rw [wk_read]
  refine ⟨_, rfl, ?_⟩
  have hW2 := (hW1.fewer (rows := [⟨w.heap.size, wkT.a.toList, true⟩]) (more := [⟨w.heap.size + 1, bvs wkB, true⟩])).later rr.keep
  have rt2 : Rt w2 vl wkL := by have := rr.rt; rwa [wk_read] at this
  have rd2 : Rd w2 u [129, 0] := by have := rr.rd; rwa [wk_read] at this
  have lv := rr.lv
  have sv := rr.sv
  have lu := rr.lu
  have su := rr.su
  have h01 : w.heap.size < w1.heap.size := by
    obtain ⟨t', ht⟩ := hW1.rows ⟨w.heap.size, wkT.a.toList, true⟩ (by simp)
    exact block_of_row ht
  clear rr
  refine Goal.re (tags := tagL [(1, 0)]) (m := ⟨[⟨w.heap.size, wkT.a.toList, true⟩], w2.heap.size⟩) ?_
  refine go_call_is (gt := fun _ => Option.none) (unroll := true) 60 [] 26 [.slice (some ⟨w2.heap.size, 0, none⟩) 1 1, .agg (Tg.mk 34984 0 false 2).a] [1, 2, 3, 4] [.pointer (some ⟨w.heap.size, 0, none⟩), vl, u, .int .i64 0] 18
    [⟨w.heap.size, wkT.a.toList, true⟩, ⟨w2.heap.size, (Tg.mk 34984 0 false 1).a.toList, true⟩] [(1, 0)] (inR wkC 3 3) [] [] hW2 (by kernel_rfl) trivial trivial ?_
  intro w3 hW3 hS3
  have ap2 : ∀ {z : Value}, Since w1.heap.size z → ∀ b, z.ownBlock = some b → ∀ q ∈ ([⟨w.heap.size, wkT.a.toList, true⟩] : List RowS), q.b ≠ b := fun hs b hb q hq => by
    obtain rfl := List.mem_singleton.1 hq
    have := hs b hb
    show w.heap.size ≠ b
    omega
  obtain ⟨rt3, lv3⟩ := rt2.pass lv (ap2 sv) hS3 hW3
  have rd3 : Rd w3 u [129, 0] := rd2.safe (fun b hb => ⟨lu b hb, fun q hq _ => ap2 su b hb q hq⟩) hS3.same
  have lu3 : Under w3.heap.size u := lu.mono (by have := hS3.le; rw [← hW3.size] at this; exact this)
  obtain ⟨tt, hrow⟩ := hW3.rows ⟨w2.heap.size, (Tg.mk 34984 0 false 1).a.toList, true⟩ (by simp)
  refine (push_any (l := [⟨34984, 0, false, 1⟩]) (Rt.of_row (l := [⟨34984, 0, false, 1⟩]) hrow (by simp [csT]) (by simp [maxLen])) (by simp) ⟨34984, 0, false, 2⟩ (hk.keep0 hW3.keep)).mono ?_
  rintro x w4 ⟨pv, rfl, fp⟩
  rw [wk_push]
  refine ⟨_, rfl, ?_⟩
  have hW4 := (hW3.fewer (rows := [⟨w.heap.size, wkT.a.toList, true⟩]) (more := [⟨w2.heap.size, (Tg.mk 34984 0 false 1).a.toList, true⟩])).later fp.keep
  have rt4 := rt3.keep0 fp.keep
  have rd4 := rd3.keep0 fp.keep
  have lv4 := lv3.mono fp.keep.size
  have lu4 := lu3.mono fp.keep.size
  refine Goal.re (tags := tagL [(1, 0)]) (m := ⟨[⟨w.heap.size, wkT.a.toList, true⟩], w4.heap.size⟩) ?_
  refine go_call_is (gt := fun _ => Option.none) (unroll := true) 60 [] 28 [.agg wkT.a] [2, 3, 4, 6] [vl, u, .int .i64 0, .int .i64 1] 22 [⟨w.heap.size, wkT.a.toList, true⟩] [] (inR wkC 4 1) [] [] hW4 (by kernel_rfl) trivial trivial ?_
  intro w5 hW5 hS5
  obtain ⟨rt5, lv5⟩ := rt4.pass lv4 (ap2 sv) hS5 hW5
  have rd5 : Rd w5 u [129, 0] := rd4.safe (fun b hb => ⟨lu4 b hb, fun q hq _ => ap2 su b hb q hq⟩) hS5.same
  have lu5 : Under w5.heap.size u := lu4.mono (by have := hS5.le; rw [← hW5.size] at this; exact this)
  refine (tbytes_any wkT (hk.keep0 hW5.keep)).mono ?_
  rintro x w6 ⟨tb, rfl, ft⟩
  refine ⟨_, rfl, ?_⟩
  have hW6 := hW5.later ft.keep
  have rt6 := rt5.keep0 ft.keep
  have rd6 := rd5.keep0 ft.keep
  have lv6 := lv5.mono ft.keep.size
  have lu6 := lu5.mono ft.keep.size
  have h06 : w.heap.size < w5.heap.size := by
    obtain ⟨t', ht⟩ := hW5.rows ⟨w.heap.size, wkT.a.toList, true⟩ (by simp)
    exact block_of_row ht
  refine go_call_is (gt := fun _ => Option.none) (unroll := true) 60 [] 33 [tb, .slice (some ⟨w6.heap.size, 0, none⟩) 4 4] [2, 3, 4, 6] [vl, u, .int .i64 0, .int .i64 1] 24 [⟨w.heap.size, wkT.a.toList, true⟩, ⟨w6.heap.size, bvs [129, 0, 176, 100], true⟩] [] (inR wkC 4 3) [] [] hW6 (by kernel_rfl) trivial trivial ?_
  intro w7 hW7 hS7
  obtain ⟨rt7, lv7⟩ := rt6.pass lv6 (ap2 sv) hS7 hW7
  have rd7 : Rd w7 u [129, 0] := rd6.safe (fun b hb => ⟨lu6 b hb, fun q hq _ => ap2 su b hb q hq⟩) hS7.same
  have lu7 : Under w7.heap.size u := lu6.mono (by have := hS7.le; rw [← hW7.size] at this; exact this)
  have rtb : Rd w7 tb [129, 0, 176, 100] := by
    have h := ft.own
    rw [wk_bytes] at h
    exact h.rd.safe (fun b hb => ⟨h.lt b hb, fun q hq _ => by
      obtain rfl := List.mem_singleton.1 hq
      have := ft.since b hb
      show w.heap.size ≠ b
      omega⟩) hS7.same
  have rq : Rd w7 (.slice (some ⟨w6.heap.size, 0, none⟩) 4 4) [129, 0, 176, 100] := Rd.of_row (b := w6.heap.size) (off := 0) (ow := true) (cs := bvs [129, 0, 176, 100]) hW7 (by simp) 4 rfl (by decide) (fun i hi => by rw [Nat.zero_add]; exact bvs_get hi)
  refine (bequal_any rtb rq).mono ?_
  rintro x w8 ⟨rfl, rfl⟩
  refine ⟨_, rfl, ?_⟩
  simp only [BEq.rfl]
  have hq2 : ∀ {z : Value}, Since w1.heap.size z → Under w6.heap.size z → ∀ b, z.ownBlock = some b → ∀ q ∈ ([⟨w.heap.size, wkT.a.toList, true⟩, ⟨w6.heap.size, bvs [129, 0, 176, 100], true⟩] : List RowS), q.b ≠ b := fun hs hl b hb q hq => by
    have h1 := hs b hb
    have h2 := hl b hb
    rcases List.mem_cons.1 hq with rfl | hq
    · show w.heap.size ≠ b; omega
    · obtain rfl := List.mem_singleton.1 hq
      show w6.heap.size ≠ b; omega
  have hrx : ∀ wx, (∀ k, Safe ⟨[⟨w.heap.size, wkT.a.toList, true⟩, ⟨w6.heap.size, bvs [129, 0, 176, 100], true⟩], w7.heap.size⟩ k → wx.heap[k]? = w7.heap[k]?) → Rt wx vl wkL := fun wx hx => rt7.same fun b hb _ => hx b ⟨lv7 b hb, fun q hq _ => hq2 sv lv6 b hb q hq⟩
  refine go_call_is (gt := fun _ => Option.none) (unroll := true) 100 [(4, 10, .sem (.int .i64 2)), (4, 15, .sem (.pointer (some (adt vl 0)))), (4, 17, .sem (.int .u16 5)), (4, 22, .sem (.pointer (some (adt vl 1)))), (4, 24, .sem (.int .u16 7))] 33 [u, .slice (some ⟨w7.heap.size, 0, none⟩) 2 2] [6, 48] [.int .i64 1, .bool true] 51
    [⟨w.heap.size, wkT.a.toList, true⟩, ⟨w6.heap.size, bvs [129, 0, 176, 100], true⟩, ⟨w7.heap.size, bvs [129, 0], true⟩] [] (inR wkC 4 30) []
    [(Builtin.len_ #[24] 3 #[vl], .int .i64 2), (Instr.indexAt 24 vl (.int .i64 0), .pointer (some (adt vl 0))), (Instr.loadAt 55 (.pointer (some ⟨blk vl, offs vl + 0 * 4 + 3, none⟩)), .int .u16 5), (Instr.indexAt 24 vl (.int .i64 1), .pointer (some (adt vl 1))), (Instr.loadAt 55 (.pointer (some ⟨blk vl, offs vl + 1 * 4 + 3, none⟩)), .int .u16 7)]
    hW7 (by kernel_rfl) trivial ⟨fun wx _ => rt7.sem_len ett (ty := 3) wx, fun wx _ => rt7.sem_at ett (i := 0) (by decide) wx, fun wx hx => ?_, fun wx _ => rt7.sem_at ett (i := 1) (by decide) wx, fun wx hx => ?_, trivial⟩ ?_
  · exact (hrx wx hx).sem_ldv (i := 0) (by decide)
  · exact (hrx wx hx).sem_ldv (i := 1) (by decide)
  intro w9 hW9 hS9
  have rd9 : Rd w9 u [129, 0] := rd7.safe (fun b hb => ⟨lu7 b hb, fun q hq _ => hq2 su lu6 b hb q hq⟩) hS9.same
  have rq9 : Rd w9 (.slice (some ⟨w7.heap.size, 0, none⟩) 2 2) [129, 0] := Rd.of_row (b := w7.heap.size) (off := 0) (ow := true) (cs := bvs [129, 0]) hW9 (by simp) 2 rfl (by decide) (fun i hi => by rw [Nat.zero_add]; exact bvs_get hi)
  refine (bequal_any rd9 rq9).mono ?_
  rintro x wa ⟨rfl, rfl⟩
  refine ⟨_, rfl, ?_⟩
  simp only [BEq.rfl]
  exact go_ret (gt := fun _ => Option.none) (unroll := true) 60 [] [.tmp 0] (.bool true) [] [] hW9 Tryd.results34 (by kernel_rfl) trivial trivial (fun w9 hW9 _ => ⟨rfl, hW9.keep⟩)
end Go.Proofs.YtcimfojbggckhaaDoor
namespace Go.Proofs.YtcimfojbggckhaaDoor
open Go.RowKit

structure Hd (rows : List RowS) (w : World) (v : Value) (l : List Tg) : Prop where
  rt : Rt w v l
  lt : Under w.heap.size v
  ap : Ap rows v
section
variable {W0 w w' : World} {rows : List RowS} {v : Value} {l : List Tg}
theorem Hd.pass (more : List RowS) (h : Hd rows w v l) (hS : Seg ⟨rows, w.heap.size⟩ w ⟨rows ++ more, w'.heap.size⟩ w') (hm : ∀ r ∈ more, w.heap.size ≤ r.b) : Hd (rows ++ more) w' v l :=
  ⟨h.rt.same fun b hb _ => hS.same b ⟨h.lt b hb, fun r hr _ => h.ap b hb r hr⟩, h.lt.mono hS.le, h.ap.add h.lt hm⟩
theorem Hd.pass0 (h : Hd rows w v l) (hS : Seg ⟨rows, w.heap.size⟩ w ⟨rows, w'.heap.size⟩ w') : Hd rows w' v l :=
  ⟨h.rt.same fun b hb _ => hS.same b ⟨h.lt b hb, fun r hr _ => h.ap b hb r hr⟩, h.lt.mono hS.le, h.ap⟩
theorem Hd.call (h : Hd rows w v l) (k : Keep No w w') : Hd rows w' v l := ⟨h.rt.keep0 k, h.lt.mono k.size, h.ap⟩
theorem Hd.fewer {more : List RowS} (h : Hd (rows ++ more) w v l) : Hd rows w v l := ⟨h.rt, h.lt, h.ap.fewer⟩
theorem Hd.none (h : Hd rows w v l) : Hd [] w v l := ⟨h.rt, h.lt, Ap.nil _⟩
theorem FreshR.hd (f : FreshR w l v w') (hW : Wst W0 ⟨rows, w.heap.size⟩ w) : Hd rows w' v l := ⟨f.rt, f.lt, Ap.fresh hW f.since⟩
theorem Hd.semld (h : Hd rows w v l) {P : Program} {t e : TypeId} (T : ET P t e) {i : Nat} (hi : i < l.length) (wx : World) (hx : ∀ k, Safe ⟨rows, w.heap.size⟩ k → wx.heap[k]? = w.heap[k]?) : (Instr.loadAt e (.pointer (some (adt v i)))).run P wx = .ok (.agg (l[i]).a) wx :=
  (h.rt.same fun b hb _ => hx b ⟨h.lt b hb, fun r hr _ => h.ap b hb r hr⟩).sem_ld T hi
end

/-! ### rows that a region turns -/
def RowsK (S : Nat → Prop) (bs : Nat → List (Nat × List Value)) : Nat → Gh → World → Prop := fun k g w => g.priv = S ∧ ∀ q ∈ bs k, ∃ t, w.heap[q.1]? = some (.cells q.2.toArray t (0, 0))
theorem RowsK.keep {S : Nat → Prop} {bs : Nat → List (Nat × List Value)} : ∀ (k : Nat) (g : Gh) (w w' : World), Keep No w w' → RowsK S bs k g w → RowsK S bs k g w' :=
  fun _ _ _ _ kp ⟨h1, h2⟩ => ⟨h1, fun q hq => by obtain ⟨t, ht⟩ := h2 q hq; exact ⟨t, (kp.block _ (block_of_row ht) (fun f => f)).trans ht⟩⟩
section
variable {P : Program} {S : Nat → Prop} {W w0 : World} {bs : Nat → List (Nat × List Value)}
theorem early_loadR {b : Nat} {cs : List Value} {e ty : TypeId} {p : Tmp} {V : Value} (hm : (b, cs) ∈ bs 0) (l : List (Nat × Nat)) (hl : ∀ q ∈ l, q.1 = q.2)
    (hq : ∀ nx, gRun P (some 0) (Instr.loadAt e (.pointer (some ⟨b, 0, none⟩))) ⟨[⟨b, cs, false⟩], nx⟩ = some (V, ⟨[⟨b, cs, false⟩], nx⟩, l)) :
    EarlyM P S w0 (RowsK S bs) (.load e (.tmp p)) ty [(p, .is (.pointer (some ⟨b, 0, none⟩)))] (.is V) := by
  intro a o g w ho _ hk hb hd hr
  obtain ⟨hp, hrows⟩ := hd
  obtain ⟨t, hrow⟩ := hrows _ hm
  have e1 : a.tmps.getD p undef = .pointer (some ⟨b, 0, none⟩) := hr (p, .is (.pointer (some ⟨b, 0, none⟩))) (by simp)
  have hW : Wst w ⟨[⟨b, cs, false⟩], w.heap.size⟩ w := Wst.start w _ (fun r hr => by obtain rfl := List.mem_singleton.1 hr; exact ⟨rfl, t, hrow⟩) (by simp)
  obtain ⟨w', h1, h2, h3⟩ := gRun_ok hW (hq w.heap.size) hl
  have he : (execOp a.eval o).run P w = .ok (.value V) w' := by
    unfold execOp
    simp only [ho, Sem.run_bind, Sem.run_pure]
    rw [show a.eval (.tmp p) = .pointer (some ⟨b, 0, none⟩) from e1, h1]; rfl
  rw [he]
  exact ⟨h2.keep, rfl⟩
theorem act_storeR {b r : Nat} {cs0 cs1 : List Value} {e ty : TypeId} {p v : Tmp} {V : Value} (hK : ∀ w, Keep S w0 w → Keep No W w) (hb0 : W.heap.size ≤ b) (hS : S b) (hm : (b, cs0) ∈ bs r) (hn : ∀ q ∈ bs (r + 1), q = (b, cs1) ∨ (q ∈ bs r ∧ q.1 ≠ b)) (l : List (Nat × Nat)) (hl : ∀ q ∈ l, q.1 = q.2)
    (hq : ∀ nx, gRun P (some 0) (Instr.storeAt e (.pointer (some ⟨b, 0, none⟩)) V) ⟨[⟨b, cs0, true⟩], nx⟩ = some ((), ⟨[⟨b, cs1, true⟩], nx⟩, l)) :
    ActM P S w0 (RowsK S bs) r (.store e (.tmp p) (.tmp v)) ty [(p, .is (.pointer (some ⟨b, 0, none⟩))), (v, .is V)] (.is undef) := by
  intro a o g w ho _ hk hb hd hr
  obtain ⟨hp, hrows⟩ := hd
  obtain ⟨t, hrow⟩ := hrows _ hm
  have e1 : a.tmps.getD p undef = .pointer (some ⟨b, 0, none⟩) := hr (p, .is (.pointer (some ⟨b, 0, none⟩))) (by simp)
  have e2 : a.tmps.getD v undef = V := hr (v, .is V) (by simp)
  have hW : Wst W ⟨[⟨b, cs0, true⟩], w.heap.size⟩ w := ⟨rfl, fun r hr => by obtain rfl := List.mem_singleton.1 hr; exact ⟨t, hrow⟩, by simp, fun r hr _ => by obtain rfl := List.mem_singleton.1 hr; exact hb0, hK w hk⟩
  obtain ⟨w', h1, h2, h3⟩ := gRun_ok hW (hq w.heap.size) hl
  have he : (execOp a.eval o).run P w = .ok .skip w' := by
    unfold execOp
    simp only [ho, Sem.run_bind, Sem.run_pure]
    rw [show a.eval (.tmp p) = .pointer (some ⟨b, 0, none⟩) from e1, show a.eval (.tmp v) = V from e2, h1]; rfl
  rw [he]
  obtain ⟨t', ht⟩ := h2.rows _ (List.mem_singleton.2 rfl)
  have hk0 := hK w hk
  have hsame : ∀ k, k < w.heap.size → k ≠ b → w'.heap[k]? = w.heap[k]? := fun k hkl hn => h3.same k ⟨hkl, fun r hr _ => by obtain rfl := List.mem_singleton.1 hr; exact fun e => hn e.symm⟩
  refine ⟨g, ⟨⟨h2.keep.os.trans hk0.os.symm, h2.keep.tape.trans hk0.tape.symm, h2.keep.output.trans hk0.output.symm, by rw [h2.size]; exact Nat.le_refl _, fun k hkl hn => hsame k hkl fun e => hn (by rw [hp, e]; exact hS)⟩, fun k h => .inl h, fun h => ⟨h, rfl⟩⟩, ?_, ⟨hp, fun q hq => ?_⟩, rfl⟩
  · intro k h
    exact ⟨by have := (hb k h).1; rw [h2.size]; exact this, (hb k h).2⟩
  · rcases hn q hq with rfl | ⟨h, hne⟩
    · exact ⟨t', ht⟩
    · obtain ⟨t2, ht2⟩ := hrows q h
      exact ⟨t2, (hsame q.1 (block_of_row ht2) hne).trans ht2⟩
end
end Go.Proofs.YtcimfojbggckhaaDoor
namespace Go.Proofs.YtcimfojbggckhaaDoor
open Go.RowKit

theorem be_two {cs : List UInt8} {k : Nat} (h : k + 2 ≤ cs.length) : be ((cs.drop k).take 2) = 256 * (byteAt cs k).toNat + (byteAt cs (k + 1)).toNat := by
  have e0 : cs.drop k = byteAt cs k :: cs.drop (k + 1) := by rw [byteAt_eq (by omega), List.drop_eq_getElem_cons (by omega)]
  have e1 : cs.drop (k + 1) = byteAt cs (k + 1) :: cs.drop (k + 2) := by rw [byteAt_eq (by omega), List.drop_eq_getElem_cons (by omega)]
  rw [e0, e1]
  simp [be]
  omega
noncomputable abbrev rrC : Code := bodyOf Tryd.f35
noncomputable abbrev rrN : Nat := Tryd.f35.ntmps
structure ReadRR (w : World) (v0 : Value) (bs : List UInt8) (v u : Value) (w' : World) : Prop where
  rt : Rt w' v (readT 3 [] bs).1
  rd : ∀ wx, Rd wx v0 bs → Rd wx u (readT 3 [] bs).2.1
  keep : Keep No w w'
  sv : Since w.heap.size v
  lv : Under w'.heap.size v
abbrev rrQ (w : World) (v0 : Value) (bs : List UInt8) : Ending → World → Prop := fun x w' => ∃ v u, x = .returned (.tuple #[v, u, .int .i64 ((readT 3 [] bs).2.2 : Nat)]) ∧ ReadRR w v0 bs v u w'
noncomputable def rrLp (i : RdI) (w' : World) : Cfg := ⟨frOf [0, 5] [i.vb, i.vl], tagL [], ⟨[], w'.heap.size⟩, atL rrC 2⟩
structure RrJ (w : World) (v0 : Value) (bs : List UInt8) (i : RdI) (w' : World) : Prop where
  W : Wst w ⟨[], w'.heap.size⟩ w'
  l2 : i.l.length ≤ 2
  ot : Ot 72 w' i.vl i.l
  si : Since w.heap.size i.vl
  rd : ∀ wx, Rd wx v0 bs → Rd wx i.vb i.cs
  len : i.cs.length ≤ 1099511627776
  eq : readT 3 [] bs = readT (3 - i.l.length) i.l i.cs
noncomputable def rrR (w : World) (v0 : Value) (bs : List UInt8) (i : RdI) : Act → World → Prop := fun a' w' => ∃ j : RdI, 2 - j.l.length < 2 - i.l.length ∧ RrJ w v0 bs j w' ∧ agrees rrN (rrLp j w') a'
section
variable {w : World} {bs : List UInt8} {v0 : Value}
theorem rr_end {i : RdI} {w3 w9 : World} {m9 : Mem} (hot : Ot 72 w3 i.vl i.l) (hsi : Since w.heap.size i.vl) (hrd : ∀ wx, Rd wx v0 bs → Rd wx i.vb i.cs) (heq : readT 3 [] bs = (i.l, i.cs, 0)) (hW9 : Wst w m9 w9) (hS9 : Seg ⟨[], w3.heap.size⟩ w3 m9 w9) :
    rrQ w v0 bs (.returned (.tuple #[i.vl, i.vb, .int .i64 0])) w9 := by
  have h := hot.walk (rows := []) (since_loose hsi rfl) hS9
  exact ⟨i.vl, i.vb, by rw [heq]; rfl, by rw [heq]; exact h.rt, by rw [heq]; exact hrd, hW9.keep, hsi, h.lt⟩
/-- When the reference stops. -/
def rrBrk (k n : Nat) : Bool := ((k : Int) != 33024) && (((k : Int) != 34984) || ((n : Int) == 1))
theorem begB_ref {cs : List UInt8} {n : Nat} (h2 : 2 ≤ cs.length) (hn : n < 2) : begB cs n = !rrBrk (be (cs.take 2)) n := by
  have e : begB cs n = (kindsL n).contains ((be (cs.take 2) : Nat) : Int) := by simp [begB, h2, hn]
  rw [e]
  unfold rrBrk
  generalize ((be (cs.take 2) : Nat) : Int) = k at *
  match n, hn with
  | 0, _ =>
    simp only [kindsL, List.contains_cons, List.contains_nil, Bool.or_false]
    by_cases h1 : k = 34984
    · subst h1; rfl
    · by_cases h2 : k = 33024
      · subst h2; rfl
      · simp only [bne, beq_eq_false_iff_ne.2 h1, beq_eq_false_iff_ne.2 h2]; rfl
  | 1, _ =>
    simp only [kindsL, List.contains_cons, List.contains_nil, Bool.or_false]
    by_cases h2 : k = 33024
    · subst h2; rfl
    · simp only [bne, beq_eq_false_iff_ne.2 h2]; cases (k == 34984) <;> rfl
set_option maxRecDepth 4000 in
theorem rr_tail (i : RdI) {f : Nat} (hf : 3 - i.l.length = f + 1) (hl : i.l.length < 2) (h2 : 2 ≤ i.cs.length) (hsi : Since w.heap.size i.vl) (r0 : Rd w v0 bs) (hrd' : ∀ wx, Rd wx v0 bs → Rd wx i.vb i.cs) (hlen : i.cs.length ≤ 1099511627776)
    (heq : readT 3 [] bs = (if i.cs.length < 4 then ([], [], 4) else readT f (i.l ++ [tgN (be (i.cs.take 2)) (be ((i.cs.drop 2).take 2))]) (i.cs.drop 4))) {w2 : World} (hW2 : Wst w ⟨[], w2.heap.size⟩ w2) (ot2 : Ot 72 w2 i.vl i.l) :
    Goal Tryd.prog (bodyPost Tryd.prog Tryd.f35 (rrQ w v0 bs)) rrN ⟨frOf [0, 5, 6] [i.vb, i.vl, .int .i64 (be (i.cs.take 2) : Nat)], tagL [], ⟨[], w2.heap.size⟩, opsR rrC 5 (.inv (rrR w v0 bs i))⟩ w2 := by
  have hrd := hrd' w r0
  have sb : ∀ wx : World, (Builtin.len_ #[26] 3 #[i.vb]).run Tryd.prog wx = .ok (.int .i64 (i.cs.length : Int)) wx := fun wx => hrd.run_len (ty := 3) bt.sl
  by_cases h4 : i.cs.length < 4
  · rw [if_pos h4] at heq
    refine go_ret (gt := fun _ => Option.none) (unroll := false) 60 [(5, 1, .sem (.int .i64 (i.cs.length : Int))), (5, 2, .is (.bool true))] [.tmp 2, .tmp 3, .tmp 4] (.tuple #[.slice none 0 0, .slice none 0 0, .int .i64 4]) [(.bool (decide ((i.cs.length : Int) < 4)), .bool true)] [(Builtin.len_ #[26] 3 #[i.vb], .int .i64 (i.cs.length : Int))] hW2 Tryd.results35 (by kernel_rfl)
      ⟨congrArg Value.bool (by simp; omega), trivial⟩ ⟨fun wx _ => sb wx, trivial⟩ ?_
    intro w9 hW9 _
    exact ⟨_, _, by rw [heq]; rfl, by rw [heq]; exact Rt.nil _, by rw [heq]; exact fun _ _ => Rd.nil _, hW9.keep, fun b h => by simp [Value.ownBlock] at h, fun b h => by simp [Value.ownBlock] at h⟩
  · rw [if_neg h4] at heq
    have hk2 : be ((i.cs.drop 2).take 2) = 256 * (byteAt i.cs 2).toNat + (byteAt i.cs 3).toNat := be_two (k := 2) (by omega)
    have hkd : be (i.cs.take 2) < 65536 := be_small (n := 2) (by simp; omega)
    have b0 := byteAt_lt i.cs 2
    have b1 := byteAt_lt i.cs 3
    generalize hN : be ((i.cs.drop 2).take 2) = nn at *
    generalize hK : be (i.cs.take 2) = kd at *
    have hk2' : 256 * bn i.cs 2 + bn i.cs 3 = (nn : Int) := by simp only [bn]; omega
    have hnn : nn < 65536 := by omega
    refine go_drawn_is (gt := fun _ => Option.none) (unroll := false) 60 [(5, 1, .sem (.int .i64 (i.cs.length : Int))), (5, 2, .is (.bool false))]
      [(.bool (decide ((i.cs.length : Int) < 4)), .bool false)] [(Builtin.len_ #[26] 3 #[i.vb], .int .i64 (i.cs.length : Int))]
      [(1, .sem (.pointer (some (adr i.vb 2)))), (2, .sem (bv (byteAt i.cs 2))), (3, .is (.int .i64 (bn i.cs 2))), (4, .is (.int .i64 (256 * bn i.cs 2))), (6, .sem (.pointer (some (adr i.vb 3)))), (7, .sem (bv (byteAt i.cs 3))), (8, .is (.int .i64 (bn i.cs 3))), (9, .is (.int .i64 (nn : Int)))]
      [0, 5, 6, 7] [i.vb, i.vl, .int .i64 (kd : Int), .int .i64 (nn : Int)] [] [] (afterR rrC 7 (.inv (rrR w v0 bs i)))
      [(.int .i64 (IntKind.i64.wrap (bn i.cs 2)), .int .i64 (bn i.cs 2)), (.int .i64 (IntKind.i64.wrap (256 * bn i.cs 2)), .int .i64 (256 * bn i.cs 2)), (.int .i64 (IntKind.i64.wrap (bn i.cs 3)), .int .i64 (bn i.cs 3)), (.int .i64 (IntKind.i64.wrap (256 * bn i.cs 2 + bn i.cs 3)), .int .i64 (nn : Int))] [] []
      [(Instr.indexAt 26 i.vb (.int .i64 2), .pointer (some (adr i.vb 2))), (Instr.loadAt 5 (.pointer (some (adr i.vb 2))), bv (byteAt i.cs 2)), (Instr.indexAt 26 i.vb (.int .i64 3), .pointer (some (adr i.vb 3))), (Instr.loadAt 5 (.pointer (some (adr i.vb 3))), bv (byteAt i.cs 3))]
      hW2 (by kernel_rfl) (by kernel_rfl) (by kernel_rfl) ⟨congrArg Value.bool (by simp; omega), trivial⟩ ⟨fun wx _ => sb wx, trivial⟩
      ⟨congrArg (Value.int .i64) (i64_small (bn_lt _ _).1 (by have := bn_lt i.cs 2; omega)), congrArg (Value.int .i64) (i64_small (by have := bn_lt i.cs 2; omega) (by have := bn_lt i.cs 2; omega)), congrArg (Value.int .i64) (i64_small (bn_lt _ _).1 (by have := bn_lt i.cs 3; omega)), congrArg (Value.int .i64) (by rw [hk2']; exact i64_small (by omega) (by omega)), trivial⟩ ?_
    intro w3 hW3 hS3
    have r3 : ∀ wx, Keep No w3 wx → Rd wx i.vb i.cs := fun wx k => hrd.keep0 (hW3.keep.trans k)
    refine ⟨trivial, trivial, ⟨fun wx k => hrd.sem_at (i := 2) (by omega) wx, fun wx k => (r3 wx k).sem_ld (i := 2) (by omega), fun wx k => hrd.sem_at (i := 3) (by omega) wx, fun wx k => (r3 wx k).sem_ld (i := 3) (by omega), trivial⟩, ?_⟩
    intro w4 k4 hW4 hS4
    have ot4 := ot2.walk (rows := []) (since_loose hsi rfl) hS4
    refine go_appX (gt := fun _ => Option.none) (unroll := false) 80 [(8, 2, .is (.int .u16 (kd : Int))), (8, 4, .is (.int .i64 ((nn / 8192 : Nat) : Int))), (8, 5, .is (.int .u8 ((nn / 8192 : Nat) : Int))), (8, 7, .is (.int .i64 ((nn / 4096 : Nat) : Int))), (8, 8, .is (.int .i64 ((nn / 4096 % 2 : Nat) : Int))), (8, 9, .is (.bool (nn / 4096 % 2 == 1))), (8, 11, .is (.int .i64 ((nn % 4096 : Nat) : Int))), (8, 12, .is (.int .u16 ((nn % 4096 : Nat) : Int))), (8, 15, .stop)]
      i.vl (.slice (some ⟨w4.heap.size, 0, none⟩) 1 1) 30 [0] [i.vb] 65 [⟨w4.heap.size, (tgN kd nn).a.toList, true⟩] [] (inR rrC 8 15 (.inv (rrR w v0 bs i)))
      [(.int .u16 (IntKind.u16.wrap (kd : Int)), .int .u16 (kd : Int)), (.int .i64 (IntKind.i64.wrap (Int.tdiv (nn : Int) 8192)), .int .i64 ((nn / 8192 : Nat) : Int)), (.int .u8 (IntKind.u8.wrap ((nn / 8192 : Nat) : Int)), .int .u8 ((nn / 8192 : Nat) : Int)), (.int .i64 (IntKind.i64.wrap (Int.tdiv (nn : Int) 4096)), .int .i64 ((nn / 4096 : Nat) : Int)),
        (.int .i64 (Int.tmod ((nn / 4096 : Nat) : Int) 2), .int .i64 ((nn / 4096 % 2 : Nat) : Int)), (.bool (((nn / 4096 % 2 : Nat) : Int) == 1), .bool (nn / 4096 % 2 == 1)), (.int .i64 (Int.tmod (nn : Int) 4096), .int .i64 ((nn % 4096 : Nat) : Int)), (.int .u16 (IntKind.u16.wrap ((nn % 4096 : Nat) : Int)), .int .u16 ((nn % 4096 : Nat) : Int))] []
      hW4 (by kernel_rfl) ⟨congrArg (Value.int .u16) (u16_nat hkd), ?_, congrArg (Value.int .u8) (IntWalk.u8_in _ (by omega)), ?_, congrArg (Value.int .i64) (rem_nat _ 2), ?_, congrArg (Value.int .i64) (rem_nat _ 4096), congrArg (Value.int .u16) (u16_nat (by omega)), trivial⟩ trivial ?_
    · apply congrArg (Value.int .i64)
      rw [show Int.tdiv (nn : Int) 8192 = ((nn / 8192 : Nat) : Int) from quo_nat nn 8192]
      exact i64_small (by omega) (by omega)
    · apply congrArg (Value.int .i64)
      rw [show Int.tdiv (nn : Int) 4096 = ((nn / 4096 : Nat) : Int) from quo_nat nn 4096]
      exact i64_small (by omega) (by omega)
    · apply congrArg Value.bool
      have : nn / 4096 % 2 = 0 ∨ nn / 4096 % 2 = 1 := by omega
      rcases this with h | h <;> rw [h] <;> rfl
    intro w5 hW5 hS5
    have ot5 := ot4.walk (rows := []) (since_loose hsi rfl) hS5
    obtain ⟨tt, hrow⟩ := hW5.rows ⟨w4.heap.size, (tgN kd nn).a.toList, true⟩ (by simp)
    have r5 : Rt w5 (.slice (some ⟨w4.heap.size, 0, none⟩) 1 1) [tgN kd nn] := Rt.of_row (l := [tgN kd nn]) hrow (by simp [csT]) (by simp [maxLen])
    have hlo : Loose w ⟨[⟨w4.heap.size, (tgN kd nn).a.toList, true⟩], w5.heap.size⟩ (fun k => i.vl.ownBlock = some k) := hsi.loose fun b hb q hq => by
      have := ot4.lt b hb
      obtain rfl := List.mem_singleton.1 hq
      show w4.heap.size ≠ b; omega
    obtain ⟨vn, w6, ha, ho6, hW6, hl6, _⟩ := app_t ertt ot5 r5 (by simp; omega) hlo hW5
    refine ⟨vn, w6, ha, ?_⟩
    refine go_inv (gt := fun _ => Option.none) (unroll := false) 60 [(9, 1, .sem (cutv i.vb 4 i.cs.length))] [0, 5] [cutv i.vb 4 i.cs.length, vn] [⟨w4.heap.size, (tgN kd nn).a.toList, true⟩] (rrR w v0 bs i) [] [(Instr.sliceAt 26 i.vb (some (.int .i64 4)) Option.none Option.none, cutv i.vb 4 i.cs.length)] hW6 (by kernel_rfl)
      trivial ⟨fun wx _ => hrd.sem_cutL (k := 4) (by omega) wx, trivial⟩ ?_
    intro w7 a hW7 hS7 hs
    have hsn : Since w.heap.size vn := fun b hb => (hl6 b hb).1
    refine ⟨⟨cutv i.vb 4 i.cs.length, i.cs.drop 4, vn, i.l ++ [tgN kd nn]⟩, by simp; omega, ⟨hW7.fewer (rows := []), by simp; omega, ho6.walk hl6 hS7, hsn, ?_, by simp; omega, ?_⟩, hs⟩
    · intro wx hx
      have := (hrd' wx hx).cut (l := 4) (h := i.cs.length) (by omega) (Nat.le_refl _)
      rwa [List.take_of_length_le (by simp)] at this
    · rw [heq]
      simp only [List.length_append, List.length_singleton]
      congr 1
      omega
set_option maxRecDepth 4000 in
theorem rr_round (r0 : Rd w v0 bs) (i : RdI) (w' : World) (hJ : RrJ w v0 bs i w') :
    Goal Tryd.prog (bodyPost Tryd.prog Tryd.f35 (rrQ w v0 bs)) rrN { rrLp i w' with todo := .code (loopOf (atL rrC 2)) :: .inv (rrR w v0 bs i) :: (atL rrC 2).tail } w' := by
  obtain ⟨hW, hl2, hot, hsi, hrd', hlen, heq⟩ := hJ
  have hrd := hrd' w r0
  unfold rrLp
  obtain ⟨f, hf⟩ : ∃ f, 3 - i.l.length = f + 1 := ⟨2 - i.l.length, by omega⟩
  have hst : readT (f + 1) i.l i.cs = (if begB i.cs i.l.length then if i.cs.length < 4 then ([], [], 4) else readT f (i.l ++ [tgN (be (i.cs.take 2)) (be ((i.cs.drop 2).take 2))]) (i.cs.drop 4) else (i.l, i.cs, 0)) := rfl
  rw [hf, hst] at heq
  have sl : ∀ wx : World, (Builtin.len_ #[30] 3 #[i.vl]).run Tryd.prog wx = .ok (.int .i64 (i.l.length : Int)) wx := fun wx => hot.rt.sem_len ertt (ty := 3) wx
  have sb : ∀ wx : World, (Builtin.len_ #[26] 3 #[i.vb]).run Tryd.prog wx = .ok (.int .i64 (i.cs.length : Int)) wx := fun wx => hrd.run_len (ty := 3) bt.sl
  by_cases hl : i.l.length < 2
  · by_cases h2 : 2 ≤ i.cs.length
    · have r' : ∀ wx, Keep No w' wx → Rd wx i.vb i.cs := fun wx k => hrd.keep0 (hW.keep.trans k)
      have hk2 := be_two (cs := i.cs) (k := 0) (by omega)
      rw [List.drop_zero, Nat.zero_add] at hk2
      have b0 := byteAt_lt i.cs 0
      have b1 := byteAt_lt i.cs 1
      have hbeg := begB_ref h2 hl
      generalize hK : be (i.cs.take 2) = kd at *
      have hk2' : 256 * bn i.cs 0 + bn i.cs 1 = (kd : Int) := by simp only [bn]; omega
      refine go_drawn_is (gt := fun _ => Option.none) (unroll := false) 60 [(2, 1, .sem (.int .i64 (i.l.length : Int))), (2, 2, .is (.bool true)), (2, 5, .sem (.int .i64 (i.cs.length : Int))), (2, 6, .is (.bool true))]
        [(.bool (decide ((i.l.length : Int) < 2)), .bool true), (.bool (decide ((i.cs.length : Int) ≥ 2)), .bool true)] [(Builtin.len_ #[30] 3 #[i.vl], .int .i64 (i.l.length : Int)), (Builtin.len_ #[26] 3 #[i.vb], .int .i64 (i.cs.length : Int))]
        [(1, .sem (.pointer (some (adr i.vb 0)))), (2, .sem (bv (byteAt i.cs 0))), (3, .is (.int .i64 (bn i.cs 0))), (4, .is (.int .i64 (256 * bn i.cs 0))), (6, .sem (.pointer (some (adr i.vb 1)))), (7, .sem (bv (byteAt i.cs 1))), (8, .is (.int .i64 (bn i.cs 1))), (9, .is (.int .i64 (kd : Int)))]
        [0, 5, 6] [i.vb, i.vl, .int .i64 (kd : Int)] [] [] (afterR rrC 3 (.inv (rrR w v0 bs i)))
        [(.int .i64 (IntKind.i64.wrap (bn i.cs 0)), .int .i64 (bn i.cs 0)), (.int .i64 (IntKind.i64.wrap (256 * bn i.cs 0)), .int .i64 (256 * bn i.cs 0)), (.int .i64 (IntKind.i64.wrap (bn i.cs 1)), .int .i64 (bn i.cs 1)), (.int .i64 (IntKind.i64.wrap (256 * bn i.cs 0 + bn i.cs 1)), .int .i64 (kd : Int))] [] []
        [(Instr.indexAt 26 i.vb (.int .i64 0), .pointer (some (adr i.vb 0))), (Instr.loadAt 5 (.pointer (some (adr i.vb 0))), bv (byteAt i.cs 0)), (Instr.indexAt 26 i.vb (.int .i64 1), .pointer (some (adr i.vb 1))), (Instr.loadAt 5 (.pointer (some (adr i.vb 1))), bv (byteAt i.cs 1))]
        hW (by kernel_rfl) (by kernel_rfl) (by kernel_rfl) ⟨congrArg Value.bool (by simp; omega), congrArg Value.bool (by simp; omega), trivial⟩ ⟨fun wx _ => sl wx, fun wx _ => sb wx, trivial⟩
        ⟨congrArg (Value.int .i64) (i64_small (bn_lt _ _).1 (by have := bn_lt i.cs 0; omega)), congrArg (Value.int .i64) (i64_small (by have := bn_lt i.cs 0; omega) (by have := bn_lt i.cs 0; omega)), congrArg (Value.int .i64) (i64_small (bn_lt _ _).1 (by have := bn_lt i.cs 1; omega)), congrArg (Value.int .i64) (by rw [hk2']; exact i64_small (by omega) (by have := bn_lt i.cs 0; have := bn_lt i.cs 1; omega)), trivial⟩ ?_
      intro w1 hW1 hS1
      have r1 : ∀ wx, Keep No w1 wx → Rd wx i.vb i.cs := fun wx k => hrd.keep0 (hW1.keep.trans k)
      refine ⟨trivial, trivial, ⟨fun wx k => hrd.sem_at (i := 0) (by omega) wx, fun wx k => (r1 wx k).sem_ld (i := 0) (by omega), fun wx k => hrd.sem_at (i := 1) (by omega) wx, fun wx k => (r1 wx k).sem_ld (i := 1) (by omega), trivial⟩, ?_⟩
      intro w2 k2 hW2 hS2
      have ot2 := hot.walk (rows := []) (since_loose hsi rfl) hS2
      have fin : rrBrk kd i.l.length = true → readT 3 [] bs = (i.l, i.cs, 0) := fun h => by
        rw [hbeg, h] at heq
        exact heq
      have goo : rrBrk kd i.l.length = false → readT 3 [] bs = (if i.cs.length < 4 then ([], [], 4) else readT f (i.l ++ [tgN kd (be ((i.cs.drop 2).take 2))]) (i.cs.drop 4)) := fun h => by
        rw [hbeg, h] at heq
        exact heq
      clear heq hbeg
      cases hX : ((kd : Int) != 33024) with
      | false =>
        refine go_stop (gt := fun _ => Option.none) (unroll := false) 60 [(4, 1, .is (.bool false)), (5, 0, .stop)] [0, 5, 6] [i.vb, i.vl, .int .i64 (kd : Int)] [] [] (opsR rrC 5 (.inv (rrR w v0 bs i))) [(.bool ((kd : Int) != 33024), .bool false)] [] hW2 (by kernel_rfl) ⟨congrArg Value.bool hX, trivial⟩ trivial ?_
        intro w3 hW3 hS3
        have ot3 := ot2.walk (rows := []) (since_loose hsi rfl) hS3
        have h := goo (by rw [rrBrk, hX]; rfl)
        subst hK
        exact rr_tail i hf hl h2 hsi r0 hrd' hlen h hW3 ot3
      | true =>
      cases hY : ((kd : Int) != 34984) with
      | true =>
        have h := fin (by rw [rrBrk, hX, hY]; rfl)
        exact go_ret (gt := fun _ => Option.none) (unroll := false) 60 [(4, 1, .is (.bool true)), (4, 4, .is (.bool true))] [.tmp 2, .tmp 3, .tmp 4] (.tuple #[i.vl, i.vb, .int .i64 0])
          [(.bool ((kd : Int) != 33024), .bool true), (.bool ((kd : Int) != 34984), .bool true)] [] hW2 Tryd.results35 (by kernel_rfl) ⟨congrArg Value.bool hX, congrArg Value.bool hY, trivial⟩ trivial (fun w9 hW9 hS9 => rr_end ot2 hsi hrd' h hW9 hS9)
      | false =>
      cases hZ : ((i.l.length : Int) == 1) with
      | true =>
        have h := fin (by rw [rrBrk, hX, hY, hZ]; rfl)
        exact go_ret (gt := fun _ => Option.none) (unroll := false) 60 [(4, 1, .is (.bool true)), (4, 4, .is (.bool false)), (4, 7, .sem (.int .i64 (i.l.length : Int))), (4, 8, .is (.bool true))] [.tmp 2, .tmp 3, .tmp 4] (.tuple #[i.vl, i.vb, .int .i64 0])
          [(.bool ((kd : Int) != 33024), .bool true), (.bool ((kd : Int) != 34984), .bool false), (.bool ((i.l.length : Int) == 1), .bool true)] [(Builtin.len_ #[30] 3 #[i.vl], .int .i64 (i.l.length : Int))] hW2 Tryd.results35 (by kernel_rfl)
          ⟨congrArg Value.bool hX, congrArg Value.bool hY, congrArg Value.bool hZ, trivial⟩ ⟨fun wx _ => sl wx, trivial⟩ (fun w9 hW9 hS9 => rr_end ot2 hsi hrd' h hW9 hS9)
      | false =>
        refine go_stop (gt := fun _ => Option.none) (unroll := false) 60 [(4, 1, .is (.bool true)), (4, 4, .is (.bool false)), (4, 7, .sem (.int .i64 (i.l.length : Int))), (4, 8, .is (.bool false)), (5, 0, .stop)] [0, 5, 6] [i.vb, i.vl, .int .i64 (kd : Int)] [] [] (opsR rrC 5 (.inv (rrR w v0 bs i)))
          [(.bool ((kd : Int) != 33024), .bool true), (.bool ((kd : Int) != 34984), .bool false), (.bool ((i.l.length : Int) == 1), .bool false)] [(Builtin.len_ #[30] 3 #[i.vl], .int .i64 (i.l.length : Int))] hW2 (by kernel_rfl) ⟨congrArg Value.bool hX, congrArg Value.bool hY, congrArg Value.bool hZ, trivial⟩ ⟨fun wx _ => sl wx, trivial⟩ ?_
        intro w3 hW3 hS3
        have ot3 := ot2.walk (rows := []) (since_loose hsi rfl) hS3
        have h := goo (by rw [rrBrk, hX, hY, hZ]; rfl)
        subst hK
        exact rr_tail i hf hl h2 hsi r0 hrd' hlen h hW3 ot3
    · rw [show begB i.cs i.l.length = false by simp [begB, h2]] at heq
      exact go_ret (gt := fun _ => Option.none) (unroll := false) 60 [(2, 1, .sem (.int .i64 (i.l.length : Int))), (2, 2, .is (.bool true)), (2, 5, .sem (.int .i64 (i.cs.length : Int))), (2, 6, .is (.bool false))] [.tmp 2, .tmp 3, .tmp 4] (.tuple #[i.vl, i.vb, .int .i64 0])
        [(.bool (decide ((i.l.length : Int) < 2)), .bool true), (.bool (decide ((i.cs.length : Int) ≥ 2)), .bool false)] [(Builtin.len_ #[30] 3 #[i.vl], .int .i64 (i.l.length : Int)), (Builtin.len_ #[26] 3 #[i.vb], .int .i64 (i.cs.length : Int))]
        hW Tryd.results35 (by kernel_rfl) ⟨congrArg Value.bool (by simp; omega), congrArg Value.bool (by simp; omega), trivial⟩ ⟨fun wx _ => sl wx, fun wx _ => sb wx, trivial⟩ (fun w9 hW9 hS9 => rr_end hot hsi hrd' heq hW9 hS9)
  · rw [show begB i.cs i.l.length = false by simp [begB, hl]] at heq
    exact go_ret (gt := fun _ => Option.none) (unroll := false) 60 [(2, 1, .sem (.int .i64 (i.l.length : Int))), (2, 2, .is (.bool false))] [.tmp 2, .tmp 3, .tmp 4] (.tuple #[i.vl, i.vb, .int .i64 0])
      [(.bool (decide ((i.l.length : Int) < 2)), .bool false)] [(Builtin.len_ #[30] 3 #[i.vl], .int .i64 (i.l.length : Int))]
      hW Tryd.results35 (by kernel_rfl) ⟨congrArg Value.bool (by simp; omega), trivial⟩ ⟨fun wx _ => sl wx, trivial⟩ (fun w9 hW9 hS9 => rr_end hot hsi hrd' heq hW9 hS9)
theorem refread_any {v : Value} (r : Rd w v bs) (hl : bs.length ≤ 1099511627776) : Calls Tryd.prog 35 #[v] w (rrQ w v bs) := by
  refine enter (args := [v]) Tryd.func35 (by kernel_rfl) ?_
  refine go_stop (gt := fun _ => Option.none) (unroll := false) 60 [] [0, 5] [v, .slice none 0 0] [] [] (atL rrC 2) [] [] (Wst.start0 w) (by kernel_rfl) trivial trivial ?_
  intro w1 hW1 _
  exact loop_okT (P := Tryd.prog) (Q := bodyPost Tryd.prog Tryd.f35 (rrQ w v bs)) (n := rrN) (x := loopOf (atL rrC 2)) (k := (atL rrC 2).tail) (fun i : RdI => 2 - i.l.length) rrLp (RrJ w v bs) (fun _ _ => by kernel_rfl) (fun i w' hJ => rr_round r i w' hJ) ⟨v, bs, .slice none 0 0, []⟩ w1
    ⟨hW1, by simp, Ot.nil _ _, fun b hb => by simp [Value.ownBlock] at hb, fun _ h => h, hl, rfl⟩
end
end Go.Proofs.YtcimfojbggckhaaDoor
namespace Go.Proofs.YtcimfojbggckhaaDoor
open Go.RowKit

/-- A frame's cells. -/
structure Fr where
  dst : List UInt8
  src : List UInt8
  tags : Value
  kind : Int
  typ : Int
  llc : List UInt8
  oui : List UInt8
  body : Value
  rest : Value
def Fr.a (f : Fr) : Array Value := #[bv (byteAt f.dst 0), bv (byteAt f.dst 1), bv (byteAt f.dst 2), bv (byteAt f.dst 3), bv (byteAt f.dst 4), bv (byteAt f.dst 5),
  bv (byteAt f.src 0), bv (byteAt f.src 1), bv (byteAt f.src 2), bv (byteAt f.src 3), bv (byteAt f.src 4), bv (byteAt f.src 5), f.tags, .int .i64 f.kind, .int .i64 f.typ,
  bv (byteAt f.llc 0), bv (byteAt f.llc 1), bv (byteAt f.llc 2), bv (byteAt f.oui 0), bv (byteAt f.oui 1), bv (byteAt f.oui 2), f.body, f.rest]
def nilV : Value := .slice none 0 0
def fr0 : Fr := ⟨[], [], nilV, 0, 0, [], [], nilV, nilV⟩
/-- What a frame tells. -/
structure Fc where
  dst : List UInt8
  src : List UInt8
  tags : List Tg
  kind : Nat
  typ : Nat
  llc : List UInt8
  oui : List UInt8
  body : List UInt8
  rest : List UInt8
def fc0 : Fc := ⟨[], [], [], 0, 0, [], [], [], []⟩
structure FrIs (w : World) (f : Fr) (c : Fc) : Prop where
  dst : ∀ i, byteAt f.dst i = byteAt c.dst i
  src : ∀ i, byteAt f.src i = byteAt c.src i
  tags : Rt w f.tags c.tags
  kind : f.kind = c.kind
  typ : f.typ = c.typ
  llc : ∀ i, byteAt f.llc i = byteAt c.llc i
  oui : ∀ i, byteAt f.oui i = byteAt c.oui i
  body : Rd w f.body c.body
  rest : Rd w f.rest c.rest
theorem FrIs.zero (w : World) : FrIs w fr0 fc0 := ⟨fun _ => rfl, fun _ => rfl, Rt.nil _, rfl, rfl, fun _ => rfl, fun _ => rfl, Rd.nil _, Rd.nil _⟩
def sapL : List UInt8 := [170, 170, 3]
def isSap (l : List UInt8) : Bool := byteAt l 0 == 170 && (byteAt l 1 == 170 && byteAt l 2 == 3)
/-- What follows a type or a length n, of bytes: the error; kind, type, llc, oui, body, rest. -/
structure Cy where
  e : Nat
  kind : Nat
  typ : Nat
  llc : List UInt8
  oui : List UInt8
  body : List UInt8
  rest : List UInt8
def carryR (n : Nat) (cs : List UInt8) : Cy :=
  if 1536 ≤ n then ⟨0, 1, n, [], [], cs, []⟩
  else if 1500 < n then ⟨5, 0, 0, [], [], [], []⟩
  else if cs.length < n then ⟨4, 0, 0, [], [], [], []⟩
  else if n < 3 then ⟨5, 0, 0, [], [], [], []⟩
  else if isSap (cs.take 3) = false then ⟨0, 2, 0, cs.take 3, [], (cs.take n).drop 3, cs.drop n⟩
  else if n < 8 then ⟨5, 0, 0, [], [], [], []⟩
  else ⟨0, 3, be ((cs.drop 6).take 2), cs.take 3, (cs.drop 3).take 3, (cs.take n).drop 8, cs.drop n⟩
/-- What Get tells. -/
def frameR (bs : List UInt8) : Fc × Nat :=
  if 65535 < bs.length then (fc0, 3)
  else if bs.length < 12 then (fc0, 4)
  else match readT 3 [] (bs.drop 12) with
    | (l, r, e) => if e ≠ 0 then (fc0, e) else if r.length < 2 then (fc0, 4)
      else match carryR (be (r.take 2)) (r.drop 2) with
        | c => if c.e ≠ 0 then (fc0, c.e) else (⟨bs.take 6, (bs.drop 6).take 6, l, c.kind, c.typ, c.llc, c.oui, c.body, c.rest⟩, 0)

section
variable {w : World} {v : Value} {cs : List UInt8}
/-- An array that is read of bytes. -/
theorem Rd.sem_arr (r : Rd w v cs) {t : TypeId} {n : Nat} {e : TypeId} (ht : Tryd.prog.underlying t = some (.array n e)) (hn : n ≤ cs.length) (h0 : 0 < n) (wx : World) : (Instr.arrayAt t v).run Tryd.prog wx = .ok (.pointer (some (adr v 0))) wx := by
  obtain ⟨ao, cap, rfl, _, _, _, hb⟩ := r.shape
  obtain ⟨b, o, rfl⟩ := hb (by omega)
  have hn' : ¬ cs.length < n := by omega
  simp only [Instr.arrayAt, run_underlying ht, Sem.run_bind, Result.andThen_ok]
  simp [hn', blk, offs]
theorem Rd.sem_ldn (r : Rd w v cs) {t : TypeId} {n : Nat} {e : TypeId} (ht : Tryd.prog.underlying t = some (.array n e)) (hi : (Tryd.prog.info? t).map (·.size) = some n) (hn : n ≤ cs.length) :
    (Instr.loadAt t (.pointer (some (adr v 0)))).run Tryd.prog w = .ok (.agg ((List.range n).map fun i => bv (byteAt cs i)).toArray) w := by
  have := run_loadAt_mid (P := Tryd.prog) w (blk v) (offs v + 0) t ((List.range n).map fun i => bv (byteAt cs i)) (.array n e) (fun j u hj => by
    have hj' : j < n := by
      rcases Nat.lt_or_ge j n with h | h
      · exact h
      · rw [List.getElem?_eq_none (by simpa using h)] at hj; cases hj
    have hc := r.cell j (by omega)
    rw [List.getElem?_map, List.getElem?_range hj'] at hj
    rw [Nat.add_zero, hc, ← hj]
    rfl) ht rfl (by rw [hi]; simp)
  exact this
end
end Go.Proofs.YtcimfojbggckhaaDoor
namespace Go.Proofs.YtcimfojbggckhaaDoor
open Go.RowKit

def or64 (a b : Int) : Int := IntKind.i64.wrap ((BitVec.ofInt 64 a ||| BitVec.ofInt 64 b).toNat : Int)
theorem or64_byte {a b : Nat} (ha : a < 256) (hb : b < 256) : or64 ((256 * a : Nat) : Int) (b : Int) = ((256 * a + b : Nat) : Int) := by
  unfold or64
  rw [BitVec.toNat_or]
  have e1 : (BitVec.ofInt 64 ((256 * a : Nat) : Int)).toNat = 256 * a := by simp; omega
  have e2 : (BitVec.ofInt 64 (b : Int)).toNat = b := by simp; omega
  rw [e1, e2]
  have := Nat.shiftLeft_add_eq_or_of_lt (i := 8) (show b < 2 ^ 8 by omega) a
  rw [Nat.shiftLeft_eq] at this
  rw [show 256 * a ||| b = 256 * a + b by rw [Nat.mul_comm 256 a]; exact this.symm]
  exact i64_small (by omega) (by omega)
section
variable {w : World} {v : Value} {cs : List UInt8}
theorem word_of (r : Rd w v cs) (h2 : 2 ≤ cs.length) : Calls Tryd.prog 52 #[v] w fun x w' => x = .returned (.int .i64 (be (cs.take 2) : Nat)) ∧ Keep No w w' := by
  have hk2 := be_two (cs := cs) (k := 0) (by omega)
  rw [List.drop_zero, Nat.zero_add] at hk2
  have b0 := byteAt_lt cs 0
  have b1 := byteAt_lt cs 1
  refine enter (args := [v]) Tryd.func52 (by kernel_rfl) ?_
  refine go_drawn_is (gt := fun _ => none) (unroll := true) 20 [] [] []
    [(1, .sem (.pointer (some (adr v 0)))), (2, .sem (bv (byteAt cs 0))), (3, .is (.int .i64 (bn cs 0))), (4, .is (.int .i64 ((256 * (byteAt cs 0).toNat : Nat) : Int))), (6, .sem (.pointer (some (adr v 1)))), (7, .sem (bv (byteAt cs 1))), (8, .is (.int .i64 (bn cs 1))), (9, .is (.int .i64 (be (cs.take 2) : Nat)))]
    [2] [.int .i64 (be (cs.take 2) : Nat)] [] [] (afterR (bodyOf Tryd.f52) 1)
    [(.int .i64 (IntKind.i64.wrap (bn cs 0)), .int .i64 (bn cs 0)), (.int .i64 (IntKind.i64.wrap (bn cs 0 * 2 ^ 8)), .int .i64 ((256 * (byteAt cs 0).toNat : Nat) : Int)), (.int .i64 (IntKind.i64.wrap (bn cs 1)), .int .i64 (bn cs 1)), (.int .i64 (or64 ((256 * (byteAt cs 0).toNat : Nat) : Int) (bn cs 1)), .int .i64 (be (cs.take 2) : Nat))] [] []
    [(Instr.indexAt 26 v (.int .i64 0), .pointer (some (adr v 0))), (Instr.loadAt 5 (.pointer (some (adr v 0))), bv (byteAt cs 0)), (Instr.indexAt 26 v (.int .i64 1), .pointer (some (adr v 1))), (Instr.loadAt 5 (.pointer (some (adr v 1))), bv (byteAt cs 1))]
    (Wst.start0 w) (by kernel_rfl) (by kernel_rfl) (by kernel_rfl) trivial trivial
    ⟨congrArg (Value.int .i64) (i64_small (bn_lt _ _).1 (by have := bn_lt cs 0; omega)), congrArg (Value.int .i64) ?_, congrArg (Value.int .i64) (i64_small (bn_lt _ _).1 (by have := bn_lt cs 1; omega)), congrArg (Value.int .i64) ?_, trivial⟩ ?_
  · rw [show bn cs 0 * 2 ^ 8 = ((256 * (byteAt cs 0).toNat : Nat) : Int) by simp only [bn]; omega]
    exact i64_small (by omega) (by omega)
  · rw [hk2]
    exact or64_byte b0 b1
  intro w1 hW1 _
  have r1 : ∀ wx, Keep No w1 wx → Rd wx v cs := fun wx k => r.keep0 (hW1.keep.trans k)
  refine ⟨trivial, trivial, ⟨fun wx k => r.sem_at (i := 0) (by omega) wx, fun wx k => (r1 wx k).sem_ld (i := 0) (by omega), fun wx k => r.sem_at (i := 1) (by omega) wx, fun wx k => (r1 wx k).sem_ld (i := 1) (by omega), trivial⟩, ?_⟩
  intro w2 k2 hW2 _
  exact go_ret (gt := fun _ => none) (unroll := true) 20 [] [.tmp 2] (.int .i64 (be (cs.take 2) : Nat)) [] [] hW2 Tryd.results52 (by kernel_rfl) trivial trivial (fun w3 hW3 _ => ⟨rfl, hW3.keep⟩)
end
end Go.Proofs.YtcimfojbggckhaaDoor
namespace Go.Proofs.YtcimfojbggckhaaDoor
open Go.RowKit
section
variable {P : Program} {W0 : World} {n : Nat} {gt : Nat → Option Nat} {unroll : Bool}
/-- Run to the return; the rows behind it are written. -/
theorem go_retM {fn : Func} {R : Ending → World → Prop} (fuel : Nat) (hs : List (Nat × Nat × HintS)) (rs : List ResultVar) (v : Value) (rows : List RowS) (eqs : List (Value × Value)) (sems : List (Sem Value × Value)) {c : Cfg} {w : World} (hW : Wst W0 c.m w) (hr : fn.results = rs.toArray)
    (he : (((atRet P rs (run P n gt unroll hs fuel c).1).map (·.1), (run P n gt unroll hs fuel c).2.eqs, (run P n gt unroll hs fuel c).2.sems), (run P n gt unroll hs fuel c).2.blks.map (·.1), (atRet P rs (run P n gt unroll hs fuel c).1).map (·.2.map (·.1))) =
      ((some v, eqs, sems), (run P n gt unroll hs fuel c).2.blks.map (·.2), (atRet P rs (run P n gt unroll hs fuel c).1).map (·.2.map (·.2))))
    (hm : (run P n gt unroll hs fuel c).1.m.rows = rows)
    (h1 : Eqs eqs) (h2 : SemObs P c.m w sems)
    (hk : ∀ w', Wst W0 ⟨rows, w'.heap.size⟩ w' → Seg c.m w ⟨rows, w'.heap.size⟩ w' → R (.returned v) w') : Goal P (bodyPost P fn R) n c w := by
  refine go_ret fuel hs rs v eqs sems hW hr he h1 h2 fun w' hW' hS' => ?_
  have em : (run P n gt unroll hs fuel c).1.m = ⟨rows, w'.heap.size⟩ := by rw [← hm, hW'.size]
  rw [em] at hW' hS'
  exact hk w' hW' hS'
end
end Go.Proofs.YtcimfojbggckhaaDoor
namespace Go.Proofs.YtcimfojbggckhaaDoor
open Go.RowKit
section
variable {P : Program} {W w : World} {b off : Nat} {cs0 cs1 : List Value} {e : TypeId} {p : Tmp} {V : Value}
theorem store_step {y : Operand} {a : Act} {o : Oper} {t : TypeId} (ho : o.op = .store e (.tmp p) y) (e1 : a.tmps.getD p undef = .pointer (some ⟨b, off, none⟩)) (e2 : a.eval y = V) (hrow : w.heap[b]? = some (.cells cs0.toArray t (0, 0))) (hk0 : Keep No W w) (hb0 : W.heap.size ≤ b)
    (l : List (Nat × Nat)) (hl : ∀ q ∈ l, q.1 = q.2) (hq : ∀ nx, gRun P (some 0) (Instr.storeAt e (.pointer (some ⟨b, off, none⟩)) V) ⟨[⟨b, cs0, true⟩], nx⟩ = some ((), ⟨[⟨b, cs1, true⟩], nx⟩, l)) :
    ∃ w' t', (execOp a.eval o).run P w = .ok .skip w' ∧ Keep (One b) w w' ∧ w'.heap.size = w.heap.size ∧ w'.heap[b]? = some (.cells cs1.toArray t' (0, 0)) := by
  have hW : Wst W ⟨[⟨b, cs0, true⟩], w.heap.size⟩ w := ⟨rfl, fun r hr => by obtain rfl := List.mem_singleton.1 hr; exact ⟨t, hrow⟩, by simp, fun r hr _ => by obtain rfl := List.mem_singleton.1 hr; exact hb0, hk0⟩
  obtain ⟨w', h1, h2, h3⟩ := gRun_ok hW (hq w.heap.size) hl
  obtain ⟨t', ht⟩ := h2.rows _ (List.mem_singleton.2 rfl)
  refine ⟨w', t', ?_, ⟨h2.keep.os.trans hk0.os.symm, h2.keep.tape.trans hk0.tape.symm, h2.keep.output.trans hk0.output.symm, by rw [h2.size]; exact Nat.le_refl _, fun k hkl hn => h3.same k ⟨hkl, fun r hr _ => by obtain rfl := List.mem_singleton.1 hr; exact fun e => hn e.symm⟩⟩, h2.size, ht⟩
  unfold execOp
  simp only [ho, Sem.run_bind, Sem.run_pure]
  rw [show a.eval (.tmp p) = .pointer (some ⟨b, off, none⟩) from e1, e2, h1]; rfl
theorem load_step {a : Act} {o : Oper} {t : TypeId} (ho : o.op = .load e (.tmp p)) (e1 : a.tmps.getD p undef = .pointer (some ⟨b, off, none⟩)) (hrow : w.heap[b]? = some (.cells cs0.toArray t (0, 0)))
    (l : List (Nat × Nat)) (hl : ∀ q ∈ l, q.1 = q.2) (hq : ∀ nx, gRun P (some 0) (Instr.loadAt e (.pointer (some ⟨b, off, none⟩))) ⟨[⟨b, cs0, false⟩], nx⟩ = some (V, ⟨[⟨b, cs0, false⟩], nx⟩, l)) :
    ∃ w', (execOp a.eval o).run P w = .ok (.value V) w' ∧ Keep No w w' := by
  have hW : Wst w ⟨[⟨b, cs0, false⟩], w.heap.size⟩ w := Wst.start w _ (fun r hr => by obtain rfl := List.mem_singleton.1 hr; exact ⟨rfl, t, hrow⟩) (by simp)
  obtain ⟨w', h1, h2, h3⟩ := gRun_ok hW (hq w.heap.size) hl
  refine ⟨w', ?_, h2.keep⟩
  unfold execOp
  simp only [ho, Sem.run_bind, Sem.run_pure]
  rw [show a.eval (.tmp p) = .pointer (some ⟨b, off, none⟩) from e1, h1]; rfl
end
/-- A load ahead of the stores. -/
theorem early_loadO {P : Program} {S0 : Nat → Prop} {w0 : World} {D : Nat → Gh → World → Prop} {b off : Nat} {cs : List Value} {e ty : TypeId} {p : Tmp} {V : Value} (hD : ∀ g w, D 0 g w → ∃ t, w.heap[b]? = some (.cells cs.toArray t (0, 0))) (l : List (Nat × Nat)) (hl : ∀ q ∈ l, q.1 = q.2)
    (hq : ∀ nx, gRun P (some 0) (Instr.loadAt e (.pointer (some ⟨b, off, none⟩))) ⟨[⟨b, cs, false⟩], nx⟩ = some (V, ⟨[⟨b, cs, false⟩], nx⟩, l)) :
    EarlyM P S0 w0 D (.load e (.tmp p)) ty [(p, .is (.pointer (some ⟨b, off, none⟩)))] (.is V) := by
  intro a o g w ho _ hk hb hd hr
  obtain ⟨t, hrow⟩ := hD g w hd
  obtain ⟨w', h1, h2⟩ := load_step ho (hr (p, .is (.pointer (some ⟨b, off, none⟩))) (by simp)) hrow l hl hq
  rw [h1]
  exact ⟨h2, rfl⟩
end Go.Proofs.YtcimfojbggckhaaDoor
namespace Go.Proofs.YtcimfojbggckhaaDoor
open Go.RowKit

/-- The LLC of SNAP, as it was laid. -/
def Sh (w : World) : Prop := ∀ i, i < 3 → w.cell? ⟨1, i, none⟩ = some (bv (byteAt sapL i))
theorem Sh.keep0 {w w' : World} (h : Sh w) (k : Keep No w w') : Sh w' := fun i hi => k.cell (h i hi) (fun f => f)
abbrev a3 (l : List UInt8) : Value := .agg #[bv (byteAt l 0), bv (byteAt l 1), bv (byteAt l 2)]
theorem Sh.sem_ld {w : World} (h : Sh w) : (Instr.loadAt 25 (.pointer (some ⟨1, 0, none⟩))).run Tryd.prog w = .ok (a3 sapL) w := by
  have := run_loadAt_mid (P := Tryd.prog) w 1 0 25 [bv (byteAt sapL 0), bv (byteAt sapL 1), bv (byteAt sapL 2)] _ (fun j u hj => by
    match j, hj with
    | 0, hj => cases hj; exact h 0 (by omega)
    | 1, hj => cases hj; exact h 1 (by omega)
    | 2, hj => cases hj; exact h 2 (by omega)) Tryd.underlying25 rfl (by kernel_rfl)
  exact this
theorem eq_a3 (w : World) (a b : List UInt8) : (Op.equalIn 10000 25 (a3 a) (a3 b)).run Tryd.prog w = .ok (byteAt a 0 == byteAt b 0 && (byteAt a 1 == byteAt b 1 && byteAt a 2 == byteAt b 2)) w := by
  obtain ⟨i, hi, _⟩ := bt.info
  have := run_equal_ints (P := Tryd.prog) 9998 Tryd.underlying25 hi Tryd.underlying5 (by kernel_rfl) w #[bv (byteAt a 0), bv (byteAt a 1), bv (byteAt a 2)] #[bv (byteAt b 0), bv (byteAt b 1), bv (byteAt b 2)] (bn a) (bn b) (fun j hj => by
    have : j = 0 ∨ j = 1 ∨ j = 2 := by omega
    rcases this with rfl | rfl | rfl <;> exact ⟨rfl, rfl⟩)
  rw [this]
  have e : ∀ i, (bn a i == bn b i) = (byteAt a i == byteAt b i) := fun i => by
    rw [Bool.eq_iff_iff, beq_iff_eq, beq_iff_eq]
    constructor
    · intro h
      exact UInt8.toNat_inj.1 (by simp only [bn] at h; omega)
    · intro h
      simp only [bn, h]
  simp [List.range_succ, e]
noncomputable abbrev caC : Code := bodyOf Tryd.f51
noncomputable abbrev caN : Nat := Tryd.f51.ntmps
/-- The frame behind carry. -/
structure CaF (w : World) (dst src : List UInt8) (tg : Value) (c : Cy) (f : Fr) (w' : World) : Prop where
  dst : f.dst = dst
  src : f.src = src
  tags : f.tags = tg
  kind : f.kind = c.kind
  typ : f.typ = c.typ
  llc : ∀ i, byteAt f.llc i = byteAt c.llc i
  oui : ∀ i, byteAt f.oui i = byteAt c.oui i
  body : Rd w' f.body c.body
  rest : Rd w' f.rest c.rest
  sb : Since w.heap.size f.body
  sr : Since w.heap.size f.rest
  lb : Under w'.heap.size f.body
  lr : Under w'.heap.size f.rest
abbrev caQ (W w : World) (p : Nat) (dst src : List UInt8) (tg : Value) (n : Nat) (cs : List UInt8) : Ending → World → Prop := fun x w' => x = .returned (.int .i64 ((carryR n cs).e : Nat)) ∧ ∃ f : Fr, Wst W ⟨[⟨p, f.a.toList, true⟩], w'.heap.size⟩ w' ∧ Keep (One p) w w' ∧ ((carryR n cs).e = 0 → CaF w dst src tg (carryR n cs) f w')
theorem nilV_since (n : Nat) : Since n nilV := fun b hb => by simp [nilV, Value.ownBlock] at hb
theorem nilV_under (n : Nat) : Under n nilV := fun b hb => by simp [nilV, Value.ownBlock] at hb
section
variable {W w : World} {p n : Nat} {dst src : List UInt8} {tg v : Value} {cs : List UInt8}
theorem keep_row {w' : World} {x y : List Value} (hW : Wst W ⟨[⟨p, x, true⟩], w.heap.size⟩ w) (hW' : Wst W ⟨[⟨p, y, true⟩], w'.heap.size⟩ w') (hS : Seg ⟨[⟨p, x, true⟩], w.heap.size⟩ w ⟨[⟨p, y, true⟩], w'.heap.size⟩ w') : Keep (One p) w w' :=
  ⟨hW'.keep.os.trans hW.keep.os.symm, hW'.keep.tape.trans hW.keep.tape.symm, hW'.keep.output.trans hW.keep.output.symm, hS.le, fun k hk hn => hS.same k ⟨hk, fun r hr _ e => hn (by obtain rfl := List.mem_singleton.1 hr; exact e.symm)⟩⟩
abbrev cf0 (dst src : List UInt8) (tg : Value) : Fr := ⟨dst, src, tg, 0, 0, [], [], nilV, nilV⟩
abbrev caRow (p : Nat) (f : Fr) : List RowS := [⟨p, f.a.toList, true⟩]
theorem HdB.keep1 {f : Fr} {w' : World} (h : HdB (caRow p f) w v cs) (k : Keep (One p) w w') : Rd w' v cs := h.rd.keep k fun b hb hp => h.ap b hb ⟨p, f.a.toList, true⟩ (by simp) hp.symm
theorem HdB.hx {rows : List RowS} {w' : World} (h : HdB rows w v cs) (hx : ∀ k, Safe ⟨rows, w.heap.size⟩ k → w'.heap[k]? = w.heap[k]?) : Rd w' v cs := h.rd.safe (fun b hb => ⟨h.lt b hb, fun r hr _ => h.ap b hb r hr⟩) hx
theorem ca_fail {e : Nat} {w' : World} {f : Fr} (he : (carryR n cs).e = e) (h0 : e ≠ 0) (hW' : Wst W ⟨caRow p f, w'.heap.size⟩ w') (k : Keep (One p) w w') : caQ W w p dst src tg n cs (.returned (.int .i64 (e : Int))) w' :=
  ⟨by rw [he], f, hW', k, fun h => absurd (he.symm.trans h) h0⟩
set_option maxRecDepth 4000 in
theorem carry_two (hW : Wst W ⟨caRow p (cf0 dst src tg), w.heap.size⟩ w) (r : HdB (caRow p (cf0 dst src tg)) w v cs) (hl : cs.length ≤ 1099511627776) (h : 1536 ≤ n) :
    Calls Tryd.prog 51 #[pT p, .int .i64 (n : Int), v] w (caQ W w p dst src tg n cs) := by
  have ec : carryR n cs = ⟨0, 1, n, [], [], cs, []⟩ := if_pos h
  refine enter (args := [pT p, .int .i64 (n : Int), v]) Tryd.func51 (by kernel_rfl) ?_
  refine Goal.re (tags := tagL [(0, 0)]) (m := ⟨caRow p (cf0 dst src tg), w.heap.size⟩) ?_
  refine go_call_is (gt := fun _ => Option.none) (unroll := false) 60 [(1, 1, .is (.bool true))] 48 [v] [10, 11, 12, 13] [pT p, pT p, pT p, .int .i64 (n : Int)] 15 (caRow p (cf0 dst src tg)) [(10, 0), (11, 0), (12, 0)] (inR caC 2 5) [(.bool (decide ((n : Int) ≥ 1536)), .bool true)] [] hW (by kernel_rfl) ⟨congrArg Value.bool (by simp; omega), trivial⟩ trivial ?_
  intro w1 hW1 hS1
  have k1 := keep_row hW hW1 hS1
  refine (sclone_any _ _ _ (r.keep1 k1) (by omega)).mono ?_
  rintro e w2 ⟨vb, rfl, fr, _⟩
  refine ⟨_, rfl, ?_⟩
  have hW2 := hW1.later fr.keep
  have HB : HdB (caRow p (cf0 dst src tg)) w2 vb cs := fr.hd hW1
  have hsb := fr.since
  have k2 : Keep (One p) w w2 := k1.trans fr.keep.no
  clear fr
  obtain ⟨ao, nn, cap, rfl⟩ := HB.rd.form
  refine go_retM (gt := fun _ => Option.none) (unroll := false) 60 [] [.tmp 6] (.int .i64 0) (caRow p ⟨dst, src, tg, 1, n, [], [], .slice ao nn cap, nilV⟩) [] [] hW2 Tryd.results51 (by kernel_rfl) (by kernel_rfl) trivial trivial ?_
  intro w3 hW3 hS3
  have k3 : Keep (One p) w w3 := k2.trans (keep_row hW2 hW3 hS3)
  refine ⟨by rw [ec]; rfl, _, hW3, k3, fun _ => ?_⟩
  rw [ec]
  have hs : ∀ b, (Value.slice ao nn cap).ownBlock = some b → Safe ⟨caRow p (cf0 dst src tg), w2.heap.size⟩ b := fun b hb => ⟨HB.lt b hb, fun q hq _ => HB.ap b hb q hq⟩
  exact ⟨rfl, rfl, rfl, rfl, rfl, fun _ => rfl, fun _ => rfl, HB.rd.safe hs hS3.same, Rd.nil _, hsb.mono k1.size, nilV_since _, HB.lt.mono hS3.le, nilV_under _⟩
/-- No frame. -/
theorem carry_no (hW : Wst W ⟨caRow p (cf0 dst src tg), w.heap.size⟩ w) (r : HdB (caRow p (cf0 dst src tg)) w v cs) (h : n < 1536) (hn : 1500 < n ∨ cs.length < n ∨ n < 3) :
    Calls Tryd.prog 51 #[pT p, .int .i64 (n : Int), v] w (caQ W w p dst src tg n cs) := by
  refine enter (args := [pT p, .int .i64 (n : Int), v]) Tryd.func51 (by kernel_rfl) ?_
  refine Goal.re (tags := tagL [(0, 0)]) (m := ⟨caRow p (cf0 dst src tg), w.heap.size⟩) ?_
  have sb : ∀ wx : World, (Builtin.len_ #[26] 3 #[v]).run Tryd.prog wx = .ok (.int .i64 (cs.length : Int)) wx := fun wx => r.rd.run_len (ty := 3) bt.sl
  by_cases h1 : 1500 < n
  · refine go_retM (gt := fun _ => Option.none) (unroll := false) 60 [(1, 1, .is (.bool false)), (4, 1, .is (.bool true))] [.tmp 6] (.int .i64 5) (caRow p (cf0 dst src tg)) [(.bool (decide ((n : Int) ≥ 1536)), .bool false), (.bool (decide ((n : Int) > 1500)), .bool true)] [] hW Tryd.results51 (by kernel_rfl) (by kernel_rfl) ⟨congrArg Value.bool (by simp; omega), congrArg Value.bool (by simp; omega), trivial⟩ trivial ?_
    intro w3 hW3 hS3
    exact ca_fail (e := 5) (by rw [carryR, if_neg (by omega), if_pos h1]) (by omega) hW3 (keep_row hW hW3 hS3)
  by_cases h2 : cs.length < n
  · refine go_retM (gt := fun _ => Option.none) (unroll := false) 60 [(1, 1, .is (.bool false)), (4, 1, .is (.bool false)), (6, 2, .sem (.int .i64 (cs.length : Int))), (6, 3, .is (.bool true))] [.tmp 6] (.int .i64 4) (caRow p (cf0 dst src tg)) [(.bool (decide ((n : Int) ≥ 1536)), .bool false), (.bool (decide ((n : Int) > 1500)), .bool false), (.bool (decide ((n : Int) > (cs.length : Int))), .bool true)] [(Builtin.len_ #[26] 3 #[v], .int .i64 (cs.length : Int))] hW Tryd.results51 (by kernel_rfl) (by kernel_rfl)
      ⟨congrArg Value.bool (by simp; omega), congrArg Value.bool (by simp; omega), congrArg Value.bool (by simp; omega), trivial⟩ ⟨fun wx _ => sb wx, trivial⟩ ?_
    intro w3 hW3 hS3
    exact ca_fail (e := 4) (by rw [carryR, if_neg (by omega), if_neg h1, if_pos h2]) (by omega) hW3 (keep_row hW hW3 hS3)
  have h3 : n < 3 := by omega
  refine go_retM (gt := fun _ => Option.none) (unroll := false) 60 [(1, 1, .is (.bool false)), (4, 1, .is (.bool false)), (6, 2, .sem (.int .i64 (cs.length : Int))), (6, 3, .is (.bool false)), (8, 1, .is (.bool true))] [.tmp 6] (.int .i64 5) (caRow p (cf0 dst src tg)) [(.bool (decide ((n : Int) ≥ 1536)), .bool false), (.bool (decide ((n : Int) > 1500)), .bool false), (.bool (decide ((n : Int) > (cs.length : Int))), .bool false), (.bool (decide ((n : Int) < 3)), .bool true)] [(Builtin.len_ #[26] 3 #[v], .int .i64 (cs.length : Int))] hW Tryd.results51 (by kernel_rfl) (by kernel_rfl)
    ⟨congrArg Value.bool (by simp; omega), congrArg Value.bool (by simp; omega), congrArg Value.bool (by simp; omega), congrArg Value.bool (by simp; omega), trivial⟩ ⟨fun wx _ => sb wx, trivial⟩ ?_
  intro w3 hW3 hS3
  exact ca_fail (e := 5) (by rw [carryR, if_neg (by omega), if_neg h1, if_neg h2, if_pos h3]) (by omega) hW3 (keep_row hW hW3 hS3)
end
end Go.Proofs.YtcimfojbggckhaaDoor
namespace Go.Proofs.YtcimfojbggckhaaDoor
open Go.RowKit Go.ChangeShapes Go.WideShapes Go.ChangeAt

theorem lay_of_laid {W : World} (h : laidMetH Tryd.prog Rows.etherGetsRow.laid W) : Kh W ∧ Sh W := by
  rw [MakeChecks.laidMetH_plain _ _ _ (by kernel_rfl)] at h
  obtain ⟨ps, ⟨g, t, cs, fuel, p, q, hg, ht, hv, hd, ⟨g2, t2, cs2, fuel2, p2, q2, hg2, ht2, hv2, hd2, _, _⟩, _⟩, _, _⟩ := h
  obtain rfl := Option.some.inj ((show Tryd.prog.globalNamed "toll/tag.kinds" = some 0 by kernel_rfl).symm.trans hg)
  obtain rfl := Option.some.inj ((show (Tryd.prog.globals[0]?).map (·.type) = some 90 by kernel_rfl).symm.trans ht)
  obtain rfl := Option.some.inj ((show Tryd.prog.globalNamed "toll/ether.sap" = some 1 by kernel_rfl).symm.trans hg2)
  obtain rfl := Option.some.inj ((show (Tryd.prog.globals[1]?).map (·.type) = some 25 by kernel_rfl).symm.trans ht2)
  constructor
  · obtain ⟨xs, m, _, ex, _, hl, hel⟩ := DataW.trod_array Tryd.underlying90 hd
    have c5 : Tryd.prog.cellsOf 89 = 1 := by kernel_rfl
    have e3 : (xs.map (·.1)) = [.slice (lits .u16 [34984, 33024]) [], .slice (lits .u16 [33024]) []] := (DataW.agg.inj (Prod.mk.inj ex).1).symm
    have hE := fun r hr => hel r hr
    rw [c5] at hE
    have key : ∀ r, r < 2 → ∀ ks : List Int, (xs.map (·.1))[r]? = some (.slice (lits .u16 ks) []) → 0 < ks.length → ∃ v, W.cell? ⟨0, r, none⟩ = some v ∧ Ks W v ks := fun r hr ks hk hn => by
      have h1 := hE r hr
      rw [Nat.mul_one, List.getElem?_eq_getElem (by omega)] at h1
      rw [List.getElem?_map, List.getElem?_eq_getElem (by omega : r < xs.length), Option.map_some] at hk
      obtain ⟨v, e1, e2⟩ := ks_of h1 (Option.some.inj hk) hn
      refine ⟨v, ?_, e2⟩
      rw [World.var?_cell hg hv r]
      have h0 : ((cs.toList.drop r).take 1)[0]? = some v := by rw [e1]; rfl
      simpa using h0
    obtain ⟨v0, a1, a2⟩ := key 0 (by omega) [34984, 33024] (by rw [e3]; rfl) (by decide)
    obtain ⟨v1, b1, b2⟩ := key 1 (by omega) [33024] (by rw [e3]; rfl) (by decide)
    exact ⟨v0, v1, a1, b1, a2, b2⟩
  · obtain ⟨xs, m, _, ex, _, hl, hel⟩ := DataW.trod_array Tryd.underlying25 hd2
    have c5 : Tryd.prog.cellsOf 5 = 1 := by kernel_rfl
    have e3 : (xs.map (·.1)) = [.lit (.int .u8 170), .lit (.int .u8 170), .lit (.int .u8 3)] := (DataW.agg.inj (Prod.mk.inj ex).1).symm
    have hE := fun r hr => hel r hr
    rw [c5] at hE
    have key : ∀ r, r < 3 → ∀ k : Int, (xs.map (·.1))[r]? = some (.lit (.int .u8 k)) → W.cell? ⟨1, r, none⟩ = some (.int .u8 k) := fun r hr k hk => by
      have h1 := hE r hr
      rw [Nat.mul_one, List.getElem?_eq_getElem (by omega)] at h1
      rw [List.getElem?_map, List.getElem?_eq_getElem (by omega : r < xs.length), Option.map_some] at hk
      obtain ⟨n, e1, e2, _⟩ := DataW.trod_int Tryd.underlying5 h1
      rw [e2] at hk
      simp only [Option.some.injEq, DataW.lit.injEq, Lit.int.injEq, true_and] at hk
      subst hk
      rw [World.var?_cell hg2 hv2 r]
      have h0 : ((cs2.toList.drop r).take 1)[0]? = some (.int .u8 n) := by rw [e1]; rfl
      simpa using h0
    intro i hi
    have : i = 0 ∨ i = 1 ∨ i = 2 := by omega
    rcases this with rfl | rfl | rfl
    · exact key 0 (by omega) 170 (by rw [e3]; rfl)
    · exact key 1 (by omega) 170 (by rw [e3]; rfl)
    · exact key 2 (by omega) 3 (by rw [e3]; rfl)
end Go.Proofs.YtcimfojbggckhaaDoor
