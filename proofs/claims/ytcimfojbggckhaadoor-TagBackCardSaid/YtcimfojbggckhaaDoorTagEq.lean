/-
  slices.Equal of the same tags; tolllaw03's of; slices.Clone of tags. No condition.
-/
import Derived.Test.YtcimfojbggckhaaDoorTagWord
namespace Go.Proofs.YtcimfojbggckhaaDoor
open Go.RowKit

/-- A loop whose heads are not numbered: they get smaller by a measure. -/
theorem loop_okT {P : Program} {Q : Exit → Act → World → Prop} {n : Nat} {ι : Type} {x : Code} {k : List K} (μ : ι → Nat) (L : ι → World → Cfg) (J : ι → World → Prop) (hL : ∀ i w, (L i w).todo = .code (.loop x) :: k)
    (round : ∀ i w, J i w → Goal P Q n { L i w with todo := .code x :: .inv (fun a' w' => ∃ j, μ j < μ i ∧ J j w' ∧ agrees n (L j w') a') :: k } w) (i0 : ι) (w : World) (h0 : J i0 w) : Goal P Q n (L i0 w) w := by
  intro a hd hn ha
  rw [hL i0]
  show (Code.loop x).wp P (KX P Q k) a w
  have hex : ∀ (S : Nat → Prop), (∃ i, S i) → ∃ i, S i ∧ ∀ j, S j → i ≤ j := by
    intro S ⟨i, hi⟩
    induction i using Nat.strongRecOn with
    | _ i ih =>
      by_cases hm : ∃ j, j < i ∧ S j
      · obtain ⟨j, hj, hs⟩ := hm; exact ih j hj hs
      · exact ⟨i, hi, fun j hj => Nat.le_of_not_lt fun hlt => hm ⟨j, hlt, hj⟩⟩
  let S (a : Act) (w : World) (m : Nat) : Prop := ∃ i, μ i = m ∧ J i w ∧ agrees n (L i w) a
  let ν (a : Act) (w : World) : Nat := open Classical in if h : ∃ m, S a w m then Classical.choose (hex _ h) else 0
  have hν : ∀ a w, (∃ m, S a w m) → S a w (ν a w) ∧ ∀ j, S a w j → ν a w ≤ j := fun a w h => by
    have := Classical.choose_spec (hex _ h)
    have e : ν a w = Classical.choose (hex _ h) := dif_pos h
    rw [e]; exact this
  refine wp_loop (fun a w => ∃ m, S a w m) ν ⟨μ i0, i0, rfl, h0, hd, hn, ha⟩ fun a w hI => ?_
  obtain ⟨⟨i, hi, hJ, hag⟩, _⟩ := hν a w hI
  have := round i w hJ a hag.1 hag.2.1 hag.2.2
  refine Code.wp_mono ?_ this
  intro e a' w' hq
  cases e with
  | normal =>
    obtain ⟨j, hj, hJj, hagj⟩ := hq
    have hS : S a' w' (μ j) := ⟨j, rfl, hJj, hagj⟩
    exact ⟨⟨μ j, hS⟩, Nat.lt_of_le_of_lt ((hν a' w' ⟨μ j, hS⟩).2 _ hS) (hi ▸ hj)⟩
  | _ => exact hq

theorem ertt : ET Tryd.prog 30 72 where
  sl := Tryd.underlying30
  st := ⟨_, Tryd.underlying72, rfl⟩
  info := by
    have h : (Tryd.prog.info? 72).map (fun i => (i.size, i.bytes, i.zero)) = some (4, 6, some (.agg (tgA 0 0 false 0))) := by kernel_rfl
    cases hi : Tryd.prog.info? 72 with
    | none => rw [hi] at h; cases h
    | some i => rw [hi] at h; simp at h; exact ⟨i, .agg (tgA 0 0 false 0), rfl, h.1, h.2.1, h.2.2, rfl⟩
theorem Rt.len_max {w : World} {v : Value} {l : List Tg} (r : Rt w v l) : l.length ≤ 9223372036854775807 := by
  obtain ⟨ao, cap, _, h1, h2, _⟩ := r.shape
  simp only [maxLen] at h2
  omega

noncomputable abbrev teqC : Code := bodyOf Tryd.f40
noncomputable abbrev teqN : Nat := Tryd.f40.ntmps
abbrev teqQ (w : World) : Ending → World → Prop := fun x w' => x = .returned (.bool true) ∧ Keep No w w'
noncomputable def teqL (u v : Value) (n j : Nat) (w' : World) : Cfg := ⟨frOf [0, 1, 12, 13] [u, v, .int .i64 (n : Int), .int .i64 ((n - j : Nat) : Int)], tagL [], ⟨[], w'.heap.size⟩, atL teqC 4⟩
def teqJ (w : World) (n j : Nat) (w' : World) : Prop := j ≤ n ∧ Wst w ⟨[], w'.heap.size⟩ w'
noncomputable def teqR (w : World) (u v : Value) (n j : Nat) : Act → World → Prop := fun a' w' => ∃ j', j' < j ∧ teqJ w n j' w' ∧ agrees teqN (teqL u v n j' w') a'
theorem teq_any {w : World} {u v : Value} {l : List Tg} (ru : Rt w u l) (rv : Rt w v l) : Calls Tryd.prog 40 #[u, v] w (teqQ w) := by
  refine enter (args := [u, v]) Tryd.func40 (by kernel_rfl) ?_
  have hne : ((l.length : Int) != (l.length : Int)) = false := by simp
  refine go_stop (gt := fun _ => Option.none) (unroll := false) 60 [(1, 1, .sem (.int .i64 (l.length : Int))), (1, 3, .sem (.int .i64 (l.length : Int))), (1, 4, .is (.bool false)), (3, 1, .sem (.int .i64 (l.length : Int)))] [0, 1, 12, 13] [u, v, .int .i64 (l.length : Int), .int .i64 0] [] [] (atL teqC 4)
    [(.bool ((l.length : Int) != (l.length : Int)), .bool false)] [(Builtin.len_ #[24] 3 #[u], .int .i64 (l.length : Int)), (Builtin.len_ #[24] 3 #[v], .int .i64 (l.length : Int)), (Builtin.len_ #[24] 3 #[u], .int .i64 (l.length : Int))]
    (Wst.start0 w) (by kernel_rfl) ⟨congrArg Value.bool hne, trivial⟩ ⟨fun wx _ => ru.sem_len ett (ty := 3) wx, fun wx _ => rv.sem_len ett (ty := 3) wx, fun wx _ => ru.sem_len ett (ty := 3) wx, trivial⟩ ?_
  intro w1 hW1 _
  have key := loop_ok (P := Tryd.prog) (Q := bodyPost Tryd.prog Tryd.f40 (teqQ w)) (n := teqN) (x := loopOf (atL teqC 4)) (k := (atL teqC 4).tail) (teqL u v l.length) (teqJ w l.length) (fun _ _ => by kernel_rfl) ?_ l.length w1 ⟨Nat.le_refl _, hW1⟩
  · unfold teqL at key
    rw [Nat.sub_self] at key
    exact key
  intro j w' hJ
  cases j with
  | zero =>
    obtain ⟨_, hW⟩ := hJ
    unfold teqL
    exact go_ret (gt := fun _ => Option.none) (unroll := false) 60 [(4, 0, .is (.bool false))] [.tmp 4] (.bool true) [(.bool (decide (((l.length - 0 : Nat) : Int) < (l.length : Int))), .bool false)] [] hW Tryd.results40 (by kernel_rfl) ⟨congrArg Value.bool (by simp), trivial⟩ trivial (fun w9 hW9 _ => ⟨rfl, hW9.keep⟩)
  | succ j =>
    obtain ⟨hj, hW⟩ := hJ
    show Goal Tryd.prog (bodyPost Tryd.prog Tryd.f40 (teqQ w)) teqN { teqL u v l.length (j + 1) w' with todo := .code (loopOf (atL teqC 4)) :: .inv (teqR w u v l.length (j + 1)) :: (atL teqC 4).tail } w'
    unfold teqL
    have hi : l.length - (j + 1) < l.length := by omega
    have hnext : l.length - (j + 1) + 1 = l.length - j := by omega
    generalize hI : l.length - (j + 1) = i at *
    have hc : (i : Int) < (l.length : Int) := by omega
    have hu : ∀ wx, Keep No w' wx → Rt wx u l := fun wx k => ru.keep0 (hW.keep.trans k)
    have hv : ∀ wx, Keep No w' wx → Rt wx v l := fun wx k => rv.keep0 (hW.keep.trans k)
    have hai : ∃ t, l[i] = t := ⟨_, rfl⟩
    obtain ⟨t, ht⟩ := hai
    refine go_drawn_is (gt := fun _ => Option.none) (unroll := false) 60 [(4, 0, .is (.bool true))] [(.bool (decide ((i : Int) < (l.length : Int))), .bool true)] []
      [(2, .sem (.pointer (some (adt u i)))), (3, .sem (.agg t.a)), (6, .sem (.pointer (some (adt v i)))), (7, .sem (.agg t.a)), (8, .bin (.bool false))]
      [24, 0, 1, 12, 13] [.bool false, u, v, .int .i64 (l.length : Int), .int .i64 (i : Int)] [] [] (afterR teqC 6 (.inv (teqR w u v l.length (j + 1)))) [] [] [(.neq, 57, .agg t.a, .agg t.a, .bool false)]
      [(Instr.indexAt 24 u (.int .i64 (i : Int)), .pointer (some (adt u i))), (Instr.loadAt 57 (.pointer (some (adt u i))), .agg t.a), (Instr.indexAt 24 v (.int .i64 (i : Int)), .pointer (some (adt v i))), (Instr.loadAt 57 (.pointer (some (adt v i))), .agg t.a)]
      hW (by kernel_rfl) (by kernel_rfl) (by kernel_rfl) ⟨congrArg Value.bool (by simpa using hc), trivial⟩ trivial trivial ?_
    intro w1 hW1 _
    have k1 : Keep No w w1 := hW1.keep
    refine ⟨trivial, ⟨fun w2 _ => nbin_tg w2 t, trivial⟩, ⟨fun w2 k => ru.sem_at ett hi w2, fun w2 k => by rw [← ht]; exact (ru.keep0 (k1.trans k)).sem_ld ett hi, fun w2 k => rv.sem_at ett hi w2, fun w2 k => by rw [← ht]; exact (rv.keep0 (k1.trans k)).sem_ld ett hi, trivial⟩, ?_⟩
    intro w2 k2 hW2 _
    refine go_inv (gt := fun _ => Option.none) (unroll := false) 60 [(8, 0, .is (.int .i64 ((i + 1 : Nat) : Int)))] [0, 1, 12, 13] [u, v, .int .i64 (l.length : Int), .int .i64 ((i + 1 : Nat) : Int)] [] (teqR w u v l.length (j + 1)) [(.int .i64 (IntKind.i64.wrap ((i : Int) + 1)), .int .i64 ((i + 1 : Nat) : Int))] [] hW2 (by kernel_rfl)
      ⟨congrArg (Value.int .i64) (by rw [IntWalk.i64_in _ (by have := ru.len_max; omega)]; omega), trivial⟩ trivial ?_
    intro w5 a hW5 hS5 hs
    refine ⟨j, by omega, ⟨by omega, hW5⟩, ?_⟩
    unfold teqL
    rw [← hnext]
    exact hs

noncomputable abbrev reqC : Code := bodyOf Tryd.f36
noncomputable abbrev reqN : Nat := Tryd.f36.ntmps
abbrev reqQ (w : World) : Ending → World → Prop := fun x w' => x = .returned (.bool true) ∧ Keep No w w'
noncomputable def reqL (u v : Value) (n j : Nat) (w' : World) : Cfg := ⟨frOf [0, 1, 12, 13] [u, v, .int .i64 (n : Int), .int .i64 ((n - j : Nat) : Int)], tagL [], ⟨[], w'.heap.size⟩, atL reqC 4⟩
def reqJ (w : World) (n j : Nat) (w' : World) : Prop := j ≤ n ∧ Wst w ⟨[], w'.heap.size⟩ w'
noncomputable def reqR (w : World) (u v : Value) (n j : Nat) : Act → World → Prop := fun a' w' => ∃ j', j' < j ∧ reqJ w n j' w' ∧ agrees reqN (reqL u v n j' w') a'
theorem req_any {w : World} {u v : Value} {l : List Tg} (ru : Rt w u l) (rv : Rt w v l) : Calls Tryd.prog 36 #[u, v] w (reqQ w) := by
  refine enter (args := [u, v]) Tryd.func36 (by kernel_rfl) ?_
  have hne : ((l.length : Int) != (l.length : Int)) = false := by simp
  refine go_stop (gt := fun _ => Option.none) (unroll := false) 60 [(1, 1, .sem (.int .i64 (l.length : Int))), (1, 3, .sem (.int .i64 (l.length : Int))), (1, 4, .is (.bool false)), (3, 1, .sem (.int .i64 (l.length : Int)))] [0, 1, 12, 13] [u, v, .int .i64 (l.length : Int), .int .i64 0] [] [] (atL reqC 4)
    [(.bool ((l.length : Int) != (l.length : Int)), .bool false)] [(Builtin.len_ #[30] 3 #[u], .int .i64 (l.length : Int)), (Builtin.len_ #[30] 3 #[v], .int .i64 (l.length : Int)), (Builtin.len_ #[30] 3 #[u], .int .i64 (l.length : Int))]
    (Wst.start0 w) (by kernel_rfl) ⟨congrArg Value.bool hne, trivial⟩ ⟨fun wx _ => ru.sem_len ertt (ty := 3) wx, fun wx _ => rv.sem_len ertt (ty := 3) wx, fun wx _ => ru.sem_len ertt (ty := 3) wx, trivial⟩ ?_
  intro w1 hW1 _
  have key := loop_ok (P := Tryd.prog) (Q := bodyPost Tryd.prog Tryd.f36 (reqQ w)) (n := reqN) (x := loopOf (atL reqC 4)) (k := (atL reqC 4).tail) (reqL u v l.length) (reqJ w l.length) (fun _ _ => by kernel_rfl) ?_ l.length w1 ⟨Nat.le_refl _, hW1⟩
  · unfold reqL at key
    rw [Nat.sub_self] at key
    exact key
  intro j w' hJ
  cases j with
  | zero =>
    obtain ⟨_, hW⟩ := hJ
    unfold reqL
    exact go_ret (gt := fun _ => Option.none) (unroll := false) 60 [(4, 0, .is (.bool false))] [.tmp 4] (.bool true) [(.bool (decide (((l.length - 0 : Nat) : Int) < (l.length : Int))), .bool false)] [] hW Tryd.results36 (by kernel_rfl) ⟨congrArg Value.bool (by simp), trivial⟩ trivial (fun w9 hW9 _ => ⟨rfl, hW9.keep⟩)
  | succ j =>
    obtain ⟨hj, hW⟩ := hJ
    show Goal Tryd.prog (bodyPost Tryd.prog Tryd.f36 (reqQ w)) reqN { reqL u v l.length (j + 1) w' with todo := .code (loopOf (atL reqC 4)) :: .inv (reqR w u v l.length (j + 1)) :: (atL reqC 4).tail } w'
    unfold reqL
    have hi : l.length - (j + 1) < l.length := by omega
    have hnext : l.length - (j + 1) + 1 = l.length - j := by omega
    generalize hI : l.length - (j + 1) = i at *
    have hc : (i : Int) < (l.length : Int) := by omega
    have hu : ∀ wx, Keep No w' wx → Rt wx u l := fun wx k => ru.keep0 (hW.keep.trans k)
    have hv : ∀ wx, Keep No w' wx → Rt wx v l := fun wx k => rv.keep0 (hW.keep.trans k)
    have hai : ∃ t, l[i] = t := ⟨_, rfl⟩
    obtain ⟨t, ht⟩ := hai
    refine go_drawn_is (gt := fun _ => Option.none) (unroll := false) 60 [(4, 0, .is (.bool true))] [(.bool (decide ((i : Int) < (l.length : Int))), .bool true)] []
      [(2, .sem (.pointer (some (adt u i)))), (3, .sem (.agg t.a)), (6, .sem (.pointer (some (adt v i)))), (7, .sem (.agg t.a)), (8, .bin (.bool false))]
      [24, 0, 1, 12, 13] [.bool false, u, v, .int .i64 (l.length : Int), .int .i64 (i : Int)] [] [] (afterR reqC 6 (.inv (reqR w u v l.length (j + 1)))) [] [] [(.neq, 72, .agg t.a, .agg t.a, .bool false)]
      [(Instr.indexAt 30 u (.int .i64 (i : Int)), .pointer (some (adt u i))), (Instr.loadAt 72 (.pointer (some (adt u i))), .agg t.a), (Instr.indexAt 30 v (.int .i64 (i : Int)), .pointer (some (adt v i))), (Instr.loadAt 72 (.pointer (some (adt v i))), .agg t.a)]
      hW (by kernel_rfl) (by kernel_rfl) (by kernel_rfl) ⟨congrArg Value.bool (by simpa using hc), trivial⟩ trivial trivial ?_
    intro w1 hW1 _
    have k1 : Keep No w w1 := hW1.keep
    refine ⟨trivial, ⟨fun w2 _ => nbin_rtg w2 t, trivial⟩, ⟨fun w2 k => ru.sem_at ertt hi w2, fun w2 k => by rw [← ht]; exact (ru.keep0 (k1.trans k)).sem_ld ertt hi, fun w2 k => rv.sem_at ertt hi w2, fun w2 k => by rw [← ht]; exact (rv.keep0 (k1.trans k)).sem_ld ertt hi, trivial⟩, ?_⟩
    intro w2 k2 hW2 _
    refine go_inv (gt := fun _ => Option.none) (unroll := false) 60 [(8, 0, .is (.int .i64 ((i + 1 : Nat) : Int)))] [0, 1, 12, 13] [u, v, .int .i64 (l.length : Int), .int .i64 ((i + 1 : Nat) : Int)] [] (reqR w u v l.length (j + 1)) [(.int .i64 (IntKind.i64.wrap ((i : Int) + 1)), .int .i64 ((i + 1 : Nat) : Int))] [] hW2 (by kernel_rfl)
      ⟨congrArg (Value.int .i64) (by rw [IntWalk.i64_in _ (by have := ru.len_max; omega)]; omega), trivial⟩ trivial ?_
    intro w5 a hW5 hS5 hs
    refine ⟨j, by omega, ⟨by omega, hW5⟩, ?_⟩
    unfold reqL
    rw [← hnext]
    exact hs
end Go.Proofs.YtcimfojbggckhaaDoor
