/-
  tolllaw03's of, slices.Clone of tags. Condition: at most 2^40 tags.
-/
import Derived.Test.YtcimfojbggckhaaDoorTagEq
import Derived.ArgAppend
namespace Go.Proofs.YtcimfojbggckhaaDoor
open Go.RowKit

/-- What a call that makes new tags leaves. -/
structure FreshT (e : TypeId) (w : World) (l : List Tg) (v : Value) (w' : World) : Prop where
  own : Ot e w' v l
  keep : Keep No w w'
  since : Since w.heap.size v
section
variable {P : Program} {W0 w : World} {rows : List RowS} {v s : Value} {l ys : List Tg} {t e : TypeId}
theorem Ot.walk {m' : Mem} {w' : World} (h : Ot e w v l) (hl : Loose W0 ⟨rows, w.heap.size⟩ (fun k => v.ownBlock = some k)) (hS : Seg ⟨rows, w.heap.size⟩ w m' w') : Ot e w' v l :=
  h.same fun b hb => hS.same b ⟨h.lt b hb, fun r hr _ => (hl b hb).2 r hr⟩
theorem app_t (T : ET P t e) (o : Ot e w v l) (r : Rt w s ys) (hn : l.length + ys.length ≤ 1099511627776) (hl : Loose W0 ⟨rows, w.heap.size⟩ (fun k => v.ownBlock = some k)) (hW : Wst W0 ⟨rows, w.heap.size⟩ w) :
    ∃ v' w', (∀ ty, (Builtin.append_ #[t, t] ty #[v, s]).run P w = .ok v' w') ∧ Ot e w' v' (l ++ ys) ∧ Wst W0 ⟨rows, w'.heap.size⟩ w' ∧ Loose W0 ⟨rows, w'.heap.size⟩ (fun k => v'.ownBlock = some k) ∧ Keep (fun k => v.ownBlock = some k) w w' := by
  obtain ⟨v', w', h1, h2, h3, h4⟩ := run_append_t T o r hn
  refine ⟨v', w', h1, h2, hW.laterS h3 hl, fun k hk => ?_, h3⟩
  rcases h4 with h | h
  · rw [h] at hk; exact hl k hk
  · rw [h] at hk
    obtain rfl := Option.some.inj hk
    exact ⟨hW.keep.size, fun q hq e => by
      obtain ⟨t', ht⟩ := hW.rows q hq
      have := block_of_row ht
      omega⟩
/-- Tags that were made since w and can be read. -/
structure FreshR (w : World) (l : List Tg) (v : Value) (w' : World) : Prop where
  rt : Rt w' v l
  keep : Keep No w w'
  since : Since w.heap.size v
  lt : Under w'.heap.size v
theorem FreshT.r {w' : World} (h : FreshT e w l v w') : FreshR w l v w' := ⟨h.own.rt, h.keep, h.since, h.own.lt⟩
/-- What was made reads on. -/
theorem FreshR.walk {m' : Mem} {w1 w' : World} (h : FreshR w l v w1) (hr : ∀ r ∈ rows, r.own = true → ∀ b, v.ownBlock = some b → r.b ≠ b) (hS : Seg ⟨rows, w1.heap.size⟩ w1 m' w') : Rt w' v l :=
  h.rt.same fun b hb _ => hS.same b ⟨h.lt b hb, fun r hr' ho => hr r hr' ho b hb⟩
/-- 'append' onto a slice without room. -/
theorem run_append_full (T : ET P t e) {b : Nat} (hb : b < w.heap.size) (hu : Rt w (.slice (some ⟨b, 0, none⟩) l.length l.length) l) (r : Rt w s ys) (hn : l.length + ys.length ≤ 1099511627776) :
    ∃ v' w', (∀ ty, (Builtin.append_ #[t, t] ty #[.slice (some ⟨b, 0, none⟩) l.length l.length, s]).run P w = .ok v' w') ∧ Rt w' v' (l ++ ys) ∧ Keep No w w' ∧ (∀ k, v'.ownBlock = some k → k = b ∨ w.heap.size ≤ k) ∧ Under w'.heap.size v' := by
  obtain ⟨i, z, hi, hz1, hz2, hz3, hz4⟩ := T.info
  obtain ⟨ao, cap, rfl, _, _, hnl, hso⟩ := r.shape
  have hub : Under w.heap.size (.slice (some ⟨b, 0, none⟩) l.length l.length) := fun b' h => by
    obtain rfl : b = b' := by simpa [Value.ownBlock] using h
    exact hb
  cases ao with
  | none =>
    have hc0 := hnl rfl
    have hy : ys.length = 0 := by
      rcases Nat.eq_zero_or_pos ys.length with h | h
      · exact h
      · obtain ⟨b, o, h⟩ := hso h; cases h
    have hy' : ys = [] := List.length_eq_zero_iff.1 hy
    subst hy' hc0
    refine ⟨_, w, fun ty => ?_, by simpa using hu, Keep.refl _ _, fun k h => .inl (by simpa [Value.ownBlock] using h.symm), hub⟩
    simp [Builtin.append_, run_underlying T.sl, sizeOf, typeInfo, hi, Builtin.lenOf, Builtin.firstCells, storeCells]
  | some a =>
    have hnews : ∀ j u, (csT ys)[j]? = some u → w.cell? (a.add j) = some u := fun j u hj => by
      by_cases hjl : j < ys.length * 4
      · obtain ⟨b, o, hbo⟩ := hso (by omega)
        cases hbo
        have := r.cell j hjl
        rw [List.getD_eq_getElem?_getD, hj] at this
        simpa [blk, offs, Addr_add_mk] using this
      · rw [List.getElem?_eq_none (by rw [csT_length]; omega)] at hj; cases hj
    rcases Nat.eq_zero_or_pos ys.length with hy | hy
    · have hy' : ys = [] := List.length_eq_zero_iff.1 hy
      subst hy'
      refine ⟨_, w, fun ty => ?_, by simpa using hu, Keep.refl _ _, fun k h => .inl (by simpa [Value.ownBlock] using h.symm), hub⟩
      have := run_append_room_cells (P := P) w t ty e i T.sl hi b 0 l.length l.length a 0 cap [] (by simp) (by simp) (by simp) (by omega) (by simp) (by simp)
      simpa [World.setCells] using this
    · have key := fun ty => run_append_arg_grows (P := P) w t ty e i z 4 6 T.sl hi hz3 hz1 hz2 hz4 (by decide) ⟨b, 0, none⟩ l.length l.length (csT l) (csT_length l)
        (fun j u hj => by
          by_cases hjl : j < l.length * 4
          · have := hu.cell j hjl
            rw [List.getD_eq_getElem?_getD, hj] at this
            simpa [blk, offs, Addr_add_mk] using this
          · rw [List.getElem?_eq_none (by rw [csT_length]; omega)] at hj; cases hj)
        a ys.length cap (csT ys) (csT_length ys) hnews (by omega) (by simp only [maxLen]; omega) (by omega)
      obtain ⟨v', w', hr, h2, h3⟩ := key 0
      have ho : Ot e w' v' (l ++ ys) := by
        obtain ⟨q1, q2⟩ := h2
        unfold Ot
        rw [List.length_append, csT_append]
        refine ⟨q1, ?_⟩
        rcases q2 with q2 | ⟨g, cp, cur, e1, e2, e3, e4⟩
        · exact .inl q2
        · exact .inr ⟨g, cp, cur, e1, Nat.zero_le _, e3, e4⟩
      refine ⟨v', w', fun ty => hr, ho.rt, ⟨h3.os, h3.tape, h3.output, h3.size, fun k hk hn => h3.block k hk (fun e => by cases e)⟩, fun k hk => ?_, ho.lt⟩
      obtain ⟨q1, q2⟩ := h2
      rcases q2 with ⟨_, q2⟩ | ⟨g, cp, cur, e1, e2, e3, e4, e5, e6, e7⟩
      · omega
      · rw [e1] at hk
        obtain rfl : g = k := by simpa [Value.ownBlock] using hk
        exact .inr e2
theorem Since.loose {nx : Nat} (h : Since W0.heap.size v) (hr : ∀ b, v.ownBlock = some b → ∀ r ∈ rows, r.b ≠ b) : Loose W0 ⟨rows, nx⟩ (fun k => v.ownBlock = some k) := fun k hk => ⟨h k hk, hr k hk⟩
end

noncomputable abbrev ofC : Code := bodyOf Tryd.f37
noncomputable abbrev ofN : Nat := Tryd.f37.ntmps
abbrev ofQ (w : World) (l : List Tg) : Ending → World → Prop := fun x w' => ∃ v, x = .returned v ∧ FreshT 72 w l v w'
noncomputable def ofL (v : Value) (n : Nat) (i : Nat × Value) (w' : World) : Cfg := ⟨frOf [3, 6, 7, 8] [i.2, v, .int .i64 (n : Int), .int .i64 ((n - i.1 : Nat) : Int)], tagL [], ⟨[], w'.heap.size⟩, atL ofC 3⟩
def ofJ (w : World) (l : List Tg) (i : Nat × Value) (w' : World) : Prop := i.1 ≤ l.length ∧ Wst w ⟨[], w'.heap.size⟩ w' ∧ Ot 72 w' i.2 (l.take (l.length - i.1)) ∧ Since w.heap.size i.2
noncomputable def ofRd (w : World) (v : Value) (l : List Tg) (i : Nat × Value) : Act → World → Prop := fun a' w' => ∃ j, j.1 < i.1 ∧ ofJ w l j w' ∧ agrees ofN (ofL v l.length j w') a'
theorem lawof_any {w : World} {v : Value} {l : List Tg} (r : Rt w v l) (hl : l.length ≤ 1000000) : Calls Tryd.prog 37 #[v] w (ofQ w l) := by
  refine enter (args := [v]) Tryd.func37 (by kernel_rfl) ?_
  refine go_stop (gt := fun _ => Option.none) (unroll := false) 60 [(2, 1, .sem (.int .i64 (l.length : Int)))] [3, 6, 7, 8] [.slice none 0 0, v, .int .i64 (l.length : Int), .int .i64 0] [] [] (atL ofC 3) [] [(Builtin.len_ #[24] 3 #[v], .int .i64 (l.length : Int))]
    (Wst.start0 w) (by kernel_rfl) trivial ⟨fun wx _ => r.sem_len ett (ty := 3) wx, trivial⟩ ?_
  intro w1 hW1 _
  have key := loop_okT (P := Tryd.prog) (Q := bodyPost Tryd.prog Tryd.f37 (ofQ w l)) (n := ofN) (x := loopOf (atL ofC 3)) (k := (atL ofC 3).tail) (fun i : Nat × Value => i.1) (ofL v l.length) (ofJ w l) (fun _ _ => by kernel_rfl) ?_ (l.length, .slice none 0 0) w1
    ⟨Nat.le_refl _, hW1, by simpa using Ot.nil _ _, fun b hb => by simp [Value.ownBlock] at hb⟩
  · unfold ofL at key
    rw [Nat.sub_self] at key
    exact key
  rintro ⟨j, vo⟩ w' hJ
  obtain ⟨hj, hW, ho, hsi⟩ := hJ
  simp only at hj ho hsi
  cases j with
  | zero =>
    rw [Nat.sub_zero, List.take_length] at ho
    unfold ofL
    refine go_ret (gt := fun _ => Option.none) (unroll := false) 60 [(3, 0, .is (.bool false))] [.tmp 2] vo [(.bool (decide (((l.length - 0 : Nat) : Int) < (l.length : Int))), .bool false)] [] hW Tryd.results37 (by kernel_rfl) ⟨congrArg Value.bool (by simp), trivial⟩ trivial (fun w9 hW9 hS9 => ⟨vo, rfl, ?_, hW9.keep, hsi⟩)
    exact ho.walk (rows := []) (W0 := w) (hsi.loose (fun _ _ _ h => nomatch h)) hS9
  | succ j =>
    show Goal Tryd.prog (bodyPost Tryd.prog Tryd.f37 (ofQ w l)) ofN { ofL v l.length (j + 1, vo) w' with todo := .code (loopOf (atL ofC 3)) :: .inv (ofRd w v l (j + 1, vo)) :: (atL ofC 3).tail } w'
    unfold ofL
    simp only
    have hi : l.length - (j + 1) < l.length := by omega
    have hnext : l.length - (j + 1) + 1 = l.length - j := by omega
    generalize hI : l.length - (j + 1) = i at *
    have hc : (i : Int) < (l.length : Int) := by omega
    obtain ⟨t, ht⟩ : ∃ t, l[i] = t := ⟨_, rfl⟩
    have hld : ∀ wx, (∀ k, Safe ⟨[], w'.heap.size⟩ k → wx.heap[k]? = w'.heap[k]?) → Rt wx v l := fun wx hx => r.walk hW hx
    have sl : SemObs Tryd.prog ⟨[], w'.heap.size⟩ w' [(Instr.indexAt 24 v (.int .i64 (i : Int)), .pointer (some (adt v i))), (Instr.loadAt 57 (.pointer (some (adt v i))), .agg t.a)] :=
      ⟨fun wx _ => r.sem_at ett hi wx, fun wx hx => by rw [← ht]; exact (hld wx hx).sem_ld ett hi, trivial⟩
    refine go_appX (gt := fun _ => Option.none) (unroll := false) 60 [(3, 0, .is (.bool true)), (4, 0, .sem (.pointer (some (adt v i)))), (4, 1, .sem (.agg t.a)), (5, 3, .stop)] vo (.slice (some ⟨w'.heap.size + 1, 0, none⟩) 1 1) 30
      [6, 7, 8] [v, .int .i64 (l.length : Int), .int .i64 (i : Int)] 15 [⟨w'.heap.size, t.a.toList, true⟩, ⟨w'.heap.size + 1, t.a.toList, true⟩] [] (inR ofC 5 3 (.inv (ofRd w v l (j + 1, vo))))
      [(.bool (decide ((i : Int) < (l.length : Int))), .bool true)] [(Instr.indexAt 24 v (.int .i64 (i : Int)), .pointer (some (adt v i))), (Instr.loadAt 57 (.pointer (some (adt v i))), .agg t.a)]
      hW (by kernel_rfl) ⟨congrArg Value.bool (by simpa using hc), trivial⟩ sl ?_
    intro w1 hW1 hS1
    have ho1 := ho.walk (rows := []) (W0 := w) (hsi.loose (fun _ _ _ h => nomatch h)) hS1
    obtain ⟨tt, hrow⟩ := hW1.rows ⟨w'.heap.size + 1, t.a.toList, true⟩ (by simp)
    have r1 : Rt w1 (.slice (some ⟨w'.heap.size + 1, 0, none⟩) 1 1) [t] := Rt.of_row (l := [t]) hrow (by simp [csT]) (by simp [maxLen])
    have hlo : Loose w ⟨[⟨w'.heap.size, t.a.toList, true⟩, ⟨w'.heap.size + 1, t.a.toList, true⟩], w1.heap.size⟩ (fun k => vo.ownBlock = some k) := hsi.loose fun b hb q hq => by
      have := ho.lt b hb
      rcases List.mem_cons.1 hq with rfl | hq
      · show w'.heap.size ≠ b; omega
      · obtain rfl := List.mem_singleton.1 hq
        show w'.heap.size + 1 ≠ b; omega
    obtain ⟨vn, w2, ha, ho2, hW2, hl2, _⟩ := app_t ertt ho1 r1 (by simp; omega) hlo hW1
    refine ⟨vn, w2, ha, ?_⟩
    refine go_inv (gt := fun _ => Option.none) (unroll := false) 60 [(6, 0, .is (.int .i64 ((i + 1 : Nat) : Int)))] [3, 6, 7, 8] [vn, v, .int .i64 (l.length : Int), .int .i64 ((i + 1 : Nat) : Int)] [⟨w'.heap.size, t.a.toList, true⟩, ⟨w'.heap.size + 1, t.a.toList, true⟩] (ofRd w v l (j + 1, vo)) [(.int .i64 (IntKind.i64.wrap ((i : Int) + 1)), .int .i64 ((i + 1 : Nat) : Int))] [] hW2 (by kernel_rfl)
      ⟨congrArg (Value.int .i64) (by rw [IntWalk.i64_in _ (by omega)]; omega), trivial⟩ trivial ?_
    intro w5 a hW5 hS5 hs
    refine ⟨(j, vn), by simp, ⟨by omega, hW5.fewer (rows := []), ?_, fun b hb => (hl2 b hb).1⟩, ?_⟩
    · have := ho2.walk hl2 hS5
      rw [← hnext, List.take_succ_eq_append_getElem hi, ht]
      exact this
    · unfold ofL
      simp only
      rw [← hnext]
      exact hs

theorem isnil_t {w : World} {v : Value} {l : List Tg} (r : Rt w v l) (wx : World) : (do eqGuard .eql 24 (.tmp 3) (.const (.slice none 0 0)) v (.slice none 0 0); binOp .eql 24 v (.slice none 0 0) : Sem Value).run Tryd.prog wx = .ok (.bool (isNil v)) wx := by
  obtain ⟨ao, cap, rfl, _⟩ := r.shape
  simp only [Sem.run_bind, run_eqGuard_slice, Result.andThen_ok]
  exact Lib.run_eql_slice_nil wx 24 57 ao _ cap 0 0 ett.sl
abbrev tcQ (w : World) (l : List Tg) : Ending → World → Prop := fun x w' => ∃ v, x = .returned v ∧ FreshR w l v w'
theorem tclone_any {w : World} {v : Value} {l : List Tg} (r : Rt w v l) (hl : l.length ≤ 1000000) : Calls Tryd.prog 58 #[v] w (tcQ w l) := by
  have hn := isnil_t r
  refine enter (args := [v]) Tryd.func58 (by kernel_rfl) ?_
  cases h : isNil v with
  | true =>
    rw [h] at hn
    have hle : l = [] := by
      obtain ⟨ao, cap, rfl, hc, _, hn, hs⟩ := r.shape
      cases ao with
      | some a => simp [isNil] at h
      | none => exact List.length_eq_zero_iff.1 (by have := hn rfl; omega)
    subst hle
    exact go_ret (gt := fun _ => Option.none) (unroll := false) 60 [(1, 1, .sem (.bool true))] [.tmp 2] (.slice none 0 0) [] [((do eqGuard .eql 24 (.tmp 3) (.const (.slice none 0 0)) v (.slice none 0 0); binOp .eql 24 v (.slice none 0 0) : Sem Value), .bool true)] (Wst.start0 w) Tryd.results58 (by kernel_rfl) trivial ⟨fun wx _ => hn wx, trivial⟩
      (fun w9 hW9 _ => ⟨_, rfl, Rt.nil _, hW9.keep, fun b hb => by simp [Value.ownBlock] at hb, fun b hb => by simp [Value.ownBlock] at hb⟩)
  | false =>
    rw [h] at hn
    refine go_appX (gt := fun _ => Option.none) (unroll := false) 60 [(1, 1, .sem (.bool false)), (3, 2, .stop)] (.slice (some ⟨w.heap.size, 0, none⟩) 0 0) v 24 [] [] 7 [⟨w.heap.size, [], true⟩] [] (inR (bodyOf Tryd.f58) 3 2)
      [] [((do eqGuard .eql 24 (.tmp 3) (.const (.slice none 0 0)) v (.slice none 0 0); binOp .eql 24 v (.slice none 0 0) : Sem Value), .bool false)] (Wst.start0 w) (by kernel_rfl) trivial ⟨fun wx _ => hn wx, trivial⟩ ?_
    intro w1 hW1 _
    have hW1' : Wst w ⟨[], w1.heap.size⟩ w1 := hW1.fewer (rows := []) (more := [⟨w.heap.size, [], true⟩])
    obtain ⟨tt, hrow⟩ := hW1.rows ⟨w.heap.size, [], true⟩ (by simp)
    have u1 : Rt w1 (.slice (some ⟨w.heap.size, 0, none⟩) 0 0) [] := Rt.of_row (l := []) hrow rfl (by simp)
    obtain ⟨vn, w2, ha, ho2, k2, hb2, hl2⟩ := run_append_full ett (l := []) (block_of_row hrow) u1 (r.keep0 hW1.keep) (by simp; omega)
    have hW2 := hW1'.later k2
    have hsi : Since w.heap.size vn := fun b hb => by
      rcases hb2 b hb with rfl | h
      · exact Nat.le_refl _
      · exact Nat.le_trans hW1.keep.size h
    refine ⟨vn, w2, ha, ?_⟩
    refine Goal.re (tags := tagL []) (m := ⟨[], w2.heap.size⟩) ?_
    exact go_ret (gt := fun _ => Option.none) (unroll := false) 60 [] [.tmp 2] vn [] [] hW2 Tryd.results58 (by kernel_rfl) trivial trivial (fun w9 hW9 hS9 => ⟨vn, rfl, (ho2.same fun b hb _ => hS9.same b ⟨hl2 b hb, fun _ h => nomatch h⟩), hW9.keep, hsi, fun b hb => by have := hl2 b hb; have := hS9.le; rw [hW9.size]; exact Nat.lt_of_lt_of_le (hl2 b hb) hS9.le⟩)
end Go.Proofs.YtcimfojbggckhaaDoor
