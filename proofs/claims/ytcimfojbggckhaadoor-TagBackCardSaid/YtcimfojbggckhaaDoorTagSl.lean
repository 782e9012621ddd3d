/-
  Slices of tags: read, owned, appended to, cut. No condition.
-/
import Derived.Test.YtcimfojbggckhaaDoorShare
import Derived.Test.YtcimfojbggckhaaDoorTag1
import Derived.Deep.MidRow
namespace Go.Proofs.YtcimfojbggckhaaDoor
open Go.RowKit

/-- A tag. -/
structure Tg where
  k : Nat
  p : Nat
  d : Bool
  v : Nat
abbrev Tg.a (t : Tg) : Array Value := tgA t.k t.p t.d t.v
def csT (l : List Tg) : List Value := l.flatMap fun t => t.a.toList
theorem csT_length (l : List Tg) : (csT l).length = l.length * 4 := by
  induction l with
  | nil => rfl
  | cons t l ih =>
    have h4 : (Tg.a t).toList.length = 4 := rfl
    have : csT (t :: l) = t.a.toList ++ csT l := rfl
    rw [this, List.length_append, ih, List.length_cons]
    omega
theorem csT_append (l m : List Tg) : csT (l ++ m) = csT l ++ csT m := by simp [csT]
theorem csT_get : ∀ {l : List Tg} {i j : Nat} (hi : i < l.length), j < 4 → (csT l)[i * 4 + j]? = (l[i]).a.toList[j]?
  | t :: l, 0, j, _, hj => by
    simp only [csT, List.flatMap_cons, Nat.zero_mul, Nat.zero_add, List.getElem_cons_zero]
    rw [List.getElem?_append_left (by simpa [tgA] using hj)]
  | t :: l, i + 1, j, hi, hj => by
    have h4 : (Tg.a t).toList.length = 4 := rfl
    have ih := csT_get (l := l) (i := i) (j := j) (by simpa using hi) hj
    simp only [csT, List.flatMap_cons, List.getElem_cons_succ] at *
    rw [List.getElem?_append_right (by omega), ← ih]
    congr 1
    omega
theorem csT_one : ∀ (l : List Tg), ∀ u ∈ csT l, u.oneCell' = true := by
  intro l u hu
  simp only [csT, List.mem_flatMap] at hu
  obtain ⟨t, _, hu⟩ := hu
  simp [tgA] at hu
  rcases hu with rfl | rfl | rfl | rfl <;> rfl

/-- The slice v[l:h] of elements of s cells. -/
def cuts (s : Nat) (v : Value) (l h : Nat) : Value := match v with | .slice a _ c => .slice (if c = l then a else a.map (·.add (l * s))) (h - l) (c - l) | x => x
/-- v reads in w as the tags l. -/
def Rt (w : World) (v : Value) (l : List Tg) : Prop := Sl 4 w v l.length fun j => (csT l).getD j undef
/-- v owns the tags l: it may be appended to. -/
def Ot (e : TypeId) (w : World) (v : Value) (l : List Tg) : Prop := w.ownsRow 0 e 4 v l.length (csT l)
/-- t is the type of slices of e; e is a struct of four cells. -/
structure ET (P : Program) (t e : TypeId) : Prop where
  sl : P.underlying t = some (.slice e)
  st : ∃ d, P.underlying e = some d ∧ d.isRow = true
  info : ∃ i z, P.info? e = some i ∧ i.size = 4 ∧ i.bytes = 6 ∧ i.zero = some z ∧ z.cells.size = 4

section
variable {P : Program} {w w' : World} {v s : Value} {l ys : List Tg} {t e : TypeId}
theorem ET.size (T : ET P t e) : (P.info? e).map (·.size) = some 4 := by
  obtain ⟨i, z, h1, h2, _⟩ := T.info
  rw [h1, Option.map_some, h2]
theorem Rt.cellAt (r : Rt w v l) {i j : Nat} (hi : i < l.length) (hj : j < 4) : ∃ u, (l[i]).a.toList[j]? = some u ∧ w.cell? ⟨blk v, offs v + i * 4 + j, none⟩ = some u := by
  have h := r.cell (i * 4 + j) (by omega)
  have h5 : j < (Tg.a l[i]).toList.length := hj
  have h1 := csT_get (l := l) hi hj
  refine ⟨_, List.getElem?_eq_getElem h5, ?_⟩
  rw [Nat.add_assoc, h, List.getD_eq_getElem?_getD, h1, List.getElem?_eq_getElem h5]
  rfl
theorem Rt.nil (w : World) : Rt w (.slice none 0 0) [] := ⟨⟨none, 0, rfl, by simp, by simp [maxLen], by simp, by simp⟩, by simp⟩
theorem Rt.keep0 (r : Rt w v l) (k : Keep No w w') : Rt w' v l := Sl.keep0 r k
theorem Rt.keep {S : Nat → Prop} (r : Rt w v l) (k : Keep S w w') (hs : ∀ b, v.ownBlock = some b → ¬ S b) : Rt w' v l := Sl.keep r k hs
theorem Rt.blk_lt (r : Rt w v l) {b : Nat} (hb : v.ownBlock = some b) (hn : 0 < l.length) : b < w.heap.size := by
  have h1 := r.block_eq hn
  rw [hb] at h1
  obtain ⟨u, _, h2⟩ := r.cellAt (i := 0) (j := 0) hn (by omega)
  have := World.block_lt_of_cell? w _ h2
  rw [Option.some.inj h1]; exact this
/-- Tags that were there when the function began read on. -/
theorem Rt.same (r : Rt w v l) (hs : ∀ b, v.ownBlock = some b → 0 < l.length → w'.heap[b]? = w.heap[b]?) : Rt w' v l := by
  refine ⟨r.shape, fun j hj => ?_⟩
  have hn : 0 < l.length := by omega
  rw [← r.cell j hj]
  exact World.cell?_of_block (hs _ (r.block_eq hn) hn)
theorem Rt.safe {m : Mem} (r : Rt w v l) (hv : ∀ b, v.ownBlock = some b → Safe m b) (hs : ∀ k, Safe m k → w'.heap[k]? = w.heap[k]?) : Rt w' v l := r.same fun b hb _ => hs b (hv b hb)
theorem Rt.walk {w0 w1 w2 : World} {m : Mem} (r : Rt w0 v l) (hW : Wst w0 m w1) (hs : ∀ k, Safe m k → w2.heap[k]? = w1.heap[k]?) : Rt w2 v l := by
  have r1 := r.keep0 hW.keep
  refine r1.same fun b hb hn => hs b ?_
  have hl := r.blk_lt hb hn
  exact ⟨by have := hW.keep.size; rw [← hW.size]; omega, fun q hq ho => by have := hW.own q hq ho; omega⟩
theorem Rt.sem_len (r : Rt w v l) (T : ET P t e) {ty : TypeId} (wx : World) : (Builtin.len_ #[t] ty #[v]).run P wx = .ok (.int .i64 (l.length : Int)) wx := r.run_len T.sl
/-- Where tag i lies. -/
abbrev adt (v : Value) (i : Nat) : Addr := ⟨blk v, offs v + i * 4, none⟩
theorem Rt.sem_at (r : Rt w v l) (T : ET P t e) {i : Nat} (hi : i < l.length) (wx : World) : (Instr.indexAt t v (.int .i64 (i : Int))).run P wx = .ok (.pointer (some (adt v i))) wx := by
  have := r.run_at (P := P) (w' := wx) T.sl T.size (k := .i64) (i := (i : Int)) (by omega) (by omega)
  simpa using this
theorem Rt.sem_ld (r : Rt w v l) (T : ET P t e) {i : Nat} (hi : i < l.length) : (Instr.loadAt e (.pointer (some (adt v i)))).run P w = .ok (.agg (l[i]).a) w := by
  obtain ⟨d, h1, h2⟩ := T.st
  have := run_loadAt_mid (P := P) w (blk v) (offs v + i * 4) e (l[i]).a.toList d (fun j u hj => by
    have h4 : (Tg.a l[i]).toList.length = 4 := rfl
    have hj4 : j < 4 := by
      rcases Nat.lt_or_ge j 4 with h | h
      · exact h
      · rw [List.getElem?_eq_none (by omega)] at hj; cases hj
    obtain ⟨u', e1, e2⟩ := r.cellAt hi hj4
    rw [hj] at e1
    rw [e2, ← e1]) h1 h2 (by rw [T.size]; rfl)
  simpa using this
theorem Rt.cut (r : Rt w v l) {a h : Nat} (h1 : a ≤ h) (h2 : h ≤ l.length) : Rt w (cuts 4 v a h) ((l.drop a).take (h - a)) := by
  have hlen : ((l.drop a).take (h - a)).length = h - a := by simp; omega
  obtain ⟨ao, cap, rfl, hc, hm, hn, hb⟩ := r.shape
  refine ⟨⟨if cap = a then ao else ao.map (·.add (a * 4)), cap - a, by simp [cuts, hlen], by rw [hlen]; omega, by omega, ?_, ?_⟩, ?_⟩
  · intro h0
    by_cases e : cap = a
    · omega
    · rw [if_neg e] at h0
      have := hn (by simpa using h0)
      omega
  · intro hpos
    rw [hlen] at hpos
    obtain ⟨b, o, rfl⟩ := hb (by omega)
    rw [if_neg (by omega)]
    exact ⟨b, o + a * 4, by simp [Addr_add_mk]⟩
  · intro j hj
    rw [hlen] at hj
    obtain ⟨b, o, rfl⟩ := hb (by omega)
    have hi : j / 4 < ((l.drop a).take (h - a)).length := by omega
    have hi' : a + j / 4 < l.length := by omega
    have e1 := csT_get (l := (l.drop a).take (h - a)) hi (j := j % 4) (by omega)
    have e2 := csT_get (l := l) hi' (j := j % 4) (by omega)
    rw [show j / 4 * 4 + j % 4 = j by omega] at e1
    have e3 : ((l.drop a).take (h - a))[j / 4] = l[a + j / 4] := by simp
    rw [e3, ← e2] at e1
    have := r.cell ((a + j / 4) * 4 + j % 4) (by omega)
    rw [show (a + j / 4) * 4 + j % 4 = a * 4 + j by omega] at this e1
    rw [List.getD_eq_getElem?_getD, e1, ← List.getD_eq_getElem?_getD, ← this]
    simp only [cuts, if_neg (show ¬ cap = a by omega), Option.map_some, Addr_add_mk, blk, offs, Nat.add_assoc]
theorem Rt.sem_cutL (r : Rt w v l) (T : ET P t e) {a : Nat} (h1 : a ≤ l.length) (wx : World) : (Instr.sliceAt t v (some (.int .i64 (a : Int))) none none).run P wx = .ok (cuts 4 v a l.length) wx := by
  obtain ⟨d, hd, hr⟩ := T.st
  obtain ⟨ao, cap, rfl, hc, _⟩ := r.shape
  simp [Instr.sliceAt, Instr.slice, run_underlying T.sl, Instr.sliceBounds, run_bound a l.length (by omega), size_of T.size, cuts]
theorem Rt.not_agg (r : Rt w v l) : ∀ cs, v = .agg cs → False := by
  obtain ⟨ao, cap, e, _⟩ := r.shape
  intro cs h2
  rw [e] at h2
  cases h2
theorem ownBlock_cuts (s : Nat) (v : Value) (l h : Nat) : (cuts s v l h).ownBlock = v.ownBlock := by
  unfold cuts Value.ownBlock
  cases v <;> try rfl
  rename_i a n c
  cases a with
  | none => simp
  | some a =>
    by_cases e : c = l
    · simp [e]
    · simp only [e, if_false, Option.map_some, Addr.add]
      split <;> rfl

theorem Ot.nil (e : TypeId) (w : World) : Ot e w (.slice none 0 0) [] := World.ownsRow_nil _ _ _ _
theorem Ot.rt (h : Ot e w v l) : Rt w v l := by
  obtain ⟨hl, h⟩ := h
  rcases h with ⟨rfl, h0⟩ | ⟨g, cap, cur, rfl, _, hg, hc, hm, hs, ht⟩
  · have : l = [] := List.length_eq_zero_iff.1 h0
    subst this
    exact Rt.nil w
  · refine ⟨⟨some ⟨g, 0, none⟩, cap, rfl, hc, hm, by simp, fun _ => ⟨g, 0, rfl⟩⟩, fun i hi => ?_⟩
    simp only [blk, offs, Nat.zero_add]
    have h2 : cur.toList[i]? = some ((csT l).getD i undef) := by
      have h3 : (cur.toList.take (l.length * 4))[i]? = some ((csT l).getD i undef) := by rw [ht, List.getElem?_eq_getElem (by rw [csT_length]; exact hi), List.getD_eq_getElem?_getD, List.getElem?_eq_getElem (by rw [csT_length]; exact hi)]; rfl
      rw [List.getElem?_take] at h3
      simpa [hi] using h3
    simp only [World.cell?, hg]
    simpa using h2
theorem Ot.lt (h : Ot e w v l) : Under w.heap.size v := by
  obtain ⟨hl, h⟩ := h
  intro b hb
  rcases h with ⟨rfl, _⟩ | ⟨g, cap, cur, rfl, _, hg, _⟩
  · simp [Value.ownBlock] at hb
  · simp [Value.ownBlock] at hb
    subst hb
    exact block_of_row hg
theorem Ot.same (h : Ot e w v l) (hs : ∀ b, v.ownBlock = some b → w'.heap[b]? = w.heap[b]?) : Ot e w' v l := by
  obtain ⟨hl, h⟩ := h
  refine ⟨hl, ?_⟩
  rcases h with h | ⟨g, cap, cur, rfl, hb, hg, r⟩
  · exact .inl h
  · exact .inr ⟨g, cap, cur, rfl, hb, by rw [hs g rfl]; exact hg, r⟩
theorem Ot.keep {S : Nat → Prop} (h : Ot e w v l) (k : Keep S w w') (hs : ∀ b, v.ownBlock = some b → ¬ S b) : Ot e w' v l := h.same fun b hb => k.block b (h.lt b hb) (hs b hb)
theorem Ot.keep0 (h : Ot e w v l) (k : Keep No w w') : Ot e w' v l := h.keep k fun _ _ f => f
/-- A row whose cells are tags is owned. -/
theorem Ot.of_row {b : Nat} {cs : List Value} (hg : w.heap[b]? = some (.cells cs.toArray e (0, 0))) (hcs : cs = csT l) (hm : l.length ≤ maxLen) : Ot e w (.slice (some ⟨b, 0, none⟩) l.length l.length) l := by
  subst hcs
  refine ⟨csT_length l, .inr ⟨b, l.length, (csT l).toArray, rfl, Nat.zero_le _, hg, Nat.le_refl _, hm, by simpa using csT_length l, ?_⟩⟩
  simp only [List.take_of_length_le, csT_length, Nat.le_refl]
theorem Rt.of_row {b : Nat} {cs : List Value} {ty : TypeId} (hg : w.heap[b]? = some (.cells cs.toArray ty (0, 0))) (hcs : cs = csT l) (hm : l.length ≤ maxLen) : Rt w (.slice (some ⟨b, 0, none⟩) l.length l.length) l := by
  subst hcs
  refine ⟨⟨_, l.length, rfl, Nat.le_refl _, hm, by simp, fun _ => ⟨b, 0, rfl⟩⟩, fun i hi => ?_⟩
  simp only [blk, offs, Nat.zero_add, World.cell?, hg]
  rw [List.getD_eq_getElem?_getD]
  have : i < (csT l).length := by rw [csT_length]; exact hi
  simp [this]

/-- 'append(v, s...)'. -/
theorem run_append_t (T : ET P t e) (o : Ot e w v l) (r : Rt w s ys) (hn : l.length + ys.length ≤ 1099511627776) :
    ∃ v' w', (∀ ty, (Builtin.append_ #[t, t] ty #[v, s]).run P w = .ok v' w') ∧ Ot e w' v' (l ++ ys) ∧ Keep (fun k => v.ownBlock = some k) w w' ∧ (v'.ownBlock = v.ownBlock ∨ v'.ownBlock = some w.heap.size) := by
  obtain ⟨i, z, hi, hz1, hz2, hz3, hz4⟩ := T.info
  obtain ⟨ao, cap, rfl, _, _, hnl, hso⟩ := r.shape
  cases ao with
  | none =>
    have hc0 := hnl rfl
    have hy : ys.length = 0 := by
      rcases Nat.eq_zero_or_pos ys.length with h | h
      · exact h
      · obtain ⟨b, o, h⟩ := hso h; cases h
    have hy' : ys = [] := List.length_eq_zero_iff.1 hy
    subst hy' hc0
    exact ⟨v, w, fun ty => run_append_owned_none (P := P) (w := w) 0 t ty e i 4 T.sl hi v _ _ o, by simpa using o, Keep.refl _ _, .inl rfl⟩
  | some a =>
    have key := fun ty => run_append_own_at (P := P) w 0 t ty e i z 4 6 T.sl hi hz3 hz1 hz2 hz4 (by decide) v l.length (csT l) o a ys.length cap (csT ys)
      (csT_length ys)
      (fun j u hj => by
        by_cases hjl : j < ys.length * 4
        · obtain ⟨b, o, hbo⟩ := hso (by omega)
          cases hbo
          have := r.cell j hjl
          rw [List.getD_eq_getElem?_getD, hj] at this
          simpa [blk, offs, Addr_add_mk] using this
        · rw [List.getElem?_eq_none (by rw [csT_length]; omega)] at hj; cases hj)
      (csT_one ys) (by simp only [maxLen]; omega) (by omega) (Nat.zero_le _)
    obtain ⟨v', w', hr, h2, h3, _, h5⟩ := key 0
    refine ⟨v', w', fun ty => hr, by simpa [Ot, csT_append] using h2, ⟨h3.os, h3.tape, h3.output, h3.size, fun k hk hn => h3.block k hk (fun e => hn e.symm)⟩, h5⟩
end

section
variable {P : Program} {W0 : World} {Q : Exit → Act → World → Prop} {n : Nat} {gt : Nat → Option Nat} {unroll : Bool}
/-- Run to an append; what it comes to is owed. -/
theorem go_appX (fuel : Nat) (hs : List (Nat × Nat × HintS)) (u s : Value) (t : TypeId) (ts : List Tmp) (vs : List Value) (r : Tmp) (rows : List RowS) (tg : List (Nat × Nat)) (T : List K) (eqs : List (Value × Value)) (sems : List (Sem Value × Value)) {c : Cfg} {w : World}
    (hW : Wst W0 c.m w)
    (he : ((atApp n (run P n gt unroll hs fuel c).1, ts.map (run P n gt unroll hs fuel c).1.fr, (run P n gt unroll hs fuel c).1.m.rows, callDst (run P n gt unroll hs fuel c).1, (run P n gt unroll hs fuel c).2.eqs, (run P n gt unroll hs fuel c).2.sems), (run P n gt unroll hs fuel c).2.blks.map (·.1)) =
      ((some (u, s, t, t), vs.map some, rows, some (r, T), eqs, sems), (run P n gt unroll hs fuel c).2.blks.map (·.2)))
    (h1 : Eqs eqs) (h2 : SemObs P c.m w sems)
    (hk : ∀ w', Wst W0 ⟨rows, w'.heap.size⟩ w' → Seg c.m w ⟨rows, w'.heap.size⟩ w' → ∃ v w2, (∀ ty, (Builtin.append_ #[t, t] ty #[u, s]).run P w' = .ok v w2) ∧ Goal P Q n ⟨frOf (r :: ts) (v :: vs), tagL tg, ⟨rows, w2.heap.size⟩, T⟩ w2) : Goal P Q n c w := by
  simp only [Prod.mk.injEq] at he
  obtain ⟨⟨e1, e0, er, ed, e2, e3⟩, e4⟩ := he
  refine run_ok fuel hW (Seg.refl _ _) ⟨?_, all_of_maps e4, ?_⟩ fun w' hW' hS' => ?_
  · rw [e2]; exact h1.mem
  · rw [e3]; exact h2.mem
  · have em : (run P n gt unroll hs fuel c).1.m = ⟨rows, w'.heap.size⟩ := by rw [← er, hW'.size]
    rw [em] at hW' hS'
    obtain ⟨v, w2, hr, hg⟩ := hk w' hW' hS'
    exact app_ok e1 hr (goal_at ed e0 hg)
end
end Go.Proofs.YtcimfojbggckhaaDoor
