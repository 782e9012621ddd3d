/-
  tolllaw03's TagPushes, walked. Condition: the kinds are as they were laid; the numbers are of their kinds.
-/
import Derived.Test.YtcimfojbggckhaaDoorHd
namespace Go.Proofs.YtcimfojbggckhaaDoor
open Go.RowKit

/-- brought. -/
def broT (t : Tg) : Tg := ⟨if t.k % 2 = 0 then 34984 else 33024, t.p % 8, t.d, t.v % 4096⟩
theorem brought_tg (w : World) (t : Tg) : Calls Tryd.prog 38 #[.agg t.a] w fun x w' => x = .returned (.agg (broT t).a) ∧ Keep No w w' := by
  refine (brought_any w t.k t.p t.v t.d).mono fun e w' ⟨h1, h2⟩ => ⟨?_, h2⟩
  rw [h1]
  have e1 : Int.tmod (t.k : Int) 2 = ((t.k % 2 : Nat) : Int) := rem_nat t.k 2
  have e2 : Int.tmod (t.p : Int) 8 = ((t.p % 8 : Nat) : Int) := rem_nat t.p 8
  have e3 : Int.tmod (t.v : Int) 4096 = ((t.v % 4096 : Nat) : Int) := rem_nat t.v 4096
  unfold broughtR broT Tg.a
  rw [e1, e2, e3]
  by_cases h : t.k % 2 = 0
  · simp [h]
  · have : ¬ (((t.k % 2 : Nat) : Int) == 0) = true := by simp; omega
    rw [if_neg this]
    simp only [h, if_false]
    rfl
theorem may_bro (t : Tg) : mayT (broT t) = true := by
  have h1 : t.p % 8 < 8 := Nat.mod_lt _ (by omega)
  have h2 : t.v % 4096 < 4096 := Nat.mod_lt _ (by omega)
  have h3 : (kindsL 0).contains ((broT t).k : Int) = true := by
    unfold broT
    simp only
    split <;> decide
  simp only [mayT, h3, Bool.true_and, Bool.and_eq_true, decide_eq_true_eq]
  simp only [broT]
  omega
noncomputable abbrev tpC : Code := bodyOf Tryd.f9
noncomputable abbrev tpN : Nat := Tryd.f9.ntmps
def tpBs (h : Nat) (x y x' y' : Tg) : Nat → List (Nat × List Value)
  | 0 => [(h, x.a.toList), (h + 1, y.a.toList)]
  | 1 => [(h, x'.a.toList), (h + 1, y.a.toList)]
  | _ => [(h, x'.a.toList), (h + 1, y'.a.toList)]
def tpS (h : Nat) : Nat → Prop := fun k => k = h ∨ k = h + 1
abbrev tpQ (w : World) : Ending → World → Prop := fun x w' => x = .returned (.bool true) ∧ Keep No w w'
abbrev tpRows (h : Nat) (x y : Tg) : List RowS := [⟨h, x.a.toList, true⟩, ⟨h + 1, y.a.toList, true⟩]
section
variable {w : World}
/-- Up to the brought tags. -/
theorem tp_head (x y : Tg) (hk : ∀ w2, Wst w ⟨tpRows w.heap.size (broT x) (broT y), w2.heap.size⟩ w2 → Goal Tryd.prog (bodyPost Tryd.prog Tryd.f9 (tpQ w)) tpN ⟨frOf [2, 3] [.pointer (some ⟨w.heap.size, 0, none⟩), .pointer (some ⟨w.heap.size + 1, 0, none⟩)], tagL [(2, 0), (3, 1)], ⟨tpRows w.heap.size (broT x) (broT y), w2.heap.size⟩, afterR tpC 1⟩ w2) :
    Calls Tryd.prog 9 #[.agg x.a, .agg y.a] w (tpQ w) := by
  refine enter (args := [.agg x.a, .agg y.a]) Tryd.func9 (by kernel_rfl) ?_
  refine go_stop (gt := fun _ => Option.none) (unroll := false) 60 [] [2, 3] [.pointer (some ⟨w.heap.size, 0, none⟩), .pointer (some ⟨w.heap.size + 1, 0, none⟩)] (tpRows w.heap.size x y) [] (atR tpC 1) [] [] (Wst.start0 w) (by kernel_rfl) trivial trivial ?_
  intro w1 hW1 _
  obtain ⟨t1, hr1⟩ := hW1.rows ⟨w.heap.size, x.a.toList, true⟩ (by simp)
  obtain ⟨t2, hr2⟩ := hW1.rows ⟨w.heap.size + 1, y.a.toList, true⟩ (by simp)
  have hW1' : Wst w ⟨[], w1.heap.size⟩ w1 := hW1.fewer (rows := []) (more := tpRows w.heap.size x y)
  have hlo : ∀ k, tpS w.heap.size k → w.heap.size ≤ k := fun k hk => by rcases hk with rfl | rfl <;> omega
  have hKN : ∀ wx, Keep (tpS w.heap.size) w1 wx → Keep No w wx := fun wx k => hW1.keep.trans' k (fun i hi h => by have := hlo i h; omega)
  have hSl : ∀ k, tpS w.heap.size k → k < w1.heap.size := fun k hk => by
    have q1 := block_of_row hr1
    have q2 := block_of_row hr2
    rcases hk with rfl | rfl
    · exact q1
    · exact q2
  refine Goal.re (tags := tagL []) (m := ⟨[], w1.heap.size⟩) ?_
  refine drawnM_ok (S0 := tpS w.heap.size) (gt := fun _ => Option.none) (D := RowsK (tpS w.heap.size) (tpBs w.heap.size x y (broT x) (broT y))) (g0 := ⟨False, undef, tpS w.heap.size⟩)
    [(0, .early (.is (.agg x.a))), (1, .call (.is (.agg (broT x).a))), (2, .early (.is (.agg y.a))), (3, .call (.is (.agg (broT y).a))), (4, .act (.is undef)), (5, .act (.is undef))] [2, 3] [.is (.pointer (some ⟨w.heap.size, 0, none⟩)), .is (.pointer (some ⟨w.heap.size + 1, 0, none⟩))]
    (EarlyM Tryd.prog (tpS w.heap.size) w1 (RowsK (tpS w.heap.size) (tpBs w.heap.size x y (broT x) (broT y))) (.load 57 (.tmp 2)) 57 [(2, .is (.pointer (some ⟨w.heap.size, 0, none⟩)))] (.is (.agg x.a)) ∧
      CallM Tryd.prog (tpS w.heap.size) w1 38 [.is (.agg x.a)] (.is (.agg (broT x).a)) ∧
      EarlyM Tryd.prog (tpS w.heap.size) w1 (RowsK (tpS w.heap.size) (tpBs w.heap.size x y (broT x) (broT y))) (.load 57 (.tmp 3)) 57 [(3, .is (.pointer (some ⟨w.heap.size + 1, 0, none⟩)))] (.is (.agg y.a)) ∧
      CallM Tryd.prog (tpS w.heap.size) w1 38 [.is (.agg y.a)] (.is (.agg (broT y).a)) ∧
      ActM Tryd.prog (tpS w.heap.size) w1 (RowsK (tpS w.heap.size) (tpBs w.heap.size x y (broT x) (broT y))) 0 (.store 57 (.tmp 2) (.tmp 22)) 0 [(2, .is (.pointer (some ⟨w.heap.size, 0, none⟩))), (22, .is (.agg (broT x).a))] (.is undef) ∧
      ActM Tryd.prog (tpS w.heap.size) w1 (RowsK (tpS w.heap.size) (tpBs w.heap.size x y (broT x) (broT y))) 1 (.store 57 (.tmp 3) (.tmp 24)) 0 [(3, .is (.pointer (some ⟨w.heap.size + 1, 0, none⟩))), (24, .is (.agg (broT y).a))] (.is undef) ∧ True)
    2 (afterR tpC 1) hW1' (fun k hk => ⟨hlo k hk, fun _ h => nomatch h⟩) (by kernel_rfl) (by kernel_rfl) (by kernel_rfl) RowsK.keep (fun k h => ⟨hSl k h, fun _ => h⟩)
    ⟨rfl, fun q hq => by
      rcases List.mem_cons.1 hq with rfl | hq
      · exact ⟨t1, hr1⟩
      · obtain rfl := List.mem_singleton.1 hq
        exact ⟨t2, hr2⟩⟩
    ⟨early_loadR (b := w.heap.size) (cs := x.a.toList) (by simp [tpBs]) (List.replicate 4 (w.heap.size, w.heap.size)) (fun q hq => by rw [List.eq_of_mem_replicate hq]) (fun nx => by kernel_rfl), ?_,
      early_loadR (b := w.heap.size + 1) (cs := y.a.toList) (by simp [tpBs]) (List.replicate 4 (w.heap.size + 1, w.heap.size + 1)) (fun q hq => by rw [List.eq_of_mem_replicate hq]) (fun nx => by kernel_rfl), ?_,
      act_storeR (cs0 := x.a.toList) (cs1 := (broT x).a.toList) hKN (Nat.le_refl _) (.inl rfl) (by simp [tpBs]) (fun q hq => ?_) (List.replicate 4 (w.heap.size, w.heap.size)) (fun q hq => by rw [List.eq_of_mem_replicate hq]) (fun nx => by kernel_rfl),
      act_storeR (cs0 := y.a.toList) (cs1 := (broT y).a.toList) hKN (Nat.le_succ _) (.inr rfl) (by simp [tpBs]) (fun q hq => ?_) (List.replicate 4 (w.heap.size + 1, w.heap.size + 1)) (fun q hq => by rw [List.eq_of_mem_replicate hq]) (fun nx => by kernel_rfl), trivial⟩ ?_
  · intro g wx vals k hbase hv
    match vals, hv with
    | [z], hz => obtain rfl : z = _ := hz.1; exact (brought_tg wx x).mono fun e w9 ⟨h1, h2⟩ => ⟨_, h1, h2, rfl⟩
  · intro g wx vals k hbase hv
    match vals, hv with
    | [z], hz => obtain rfl : z = _ := hz.1; exact (brought_tg wx y).mono fun e w9 ⟨h1, h2⟩ => ⟨_, h1, h2, rfl⟩
  · rcases List.mem_cons.1 hq with rfl | hq
    · exact .inl rfl
    · obtain rfl := List.mem_singleton.1 hq
      exact .inr ⟨by simp [tpBs], by simp⟩
  · rcases List.mem_cons.1 hq with rfl | hq
    · exact .inr ⟨by simp [tpBs], by simp⟩
    · obtain rfl := List.mem_singleton.1 hq
      exact .inl rfl
  intro g w2 vs k2 _ hd hok
  obtain rfl := allOkM_is (vs := [.pointer (some ⟨w.heap.size, 0, none⟩), .pointer (some ⟨w.heap.size + 1, 0, none⟩)]) hok
  obtain ⟨_, hrows⟩ := hd
  obtain ⟨s1, q1⟩ := hrows (w.heap.size, (broT x).a.toList) (by simp [tpBs])
  obtain ⟨s2, q2⟩ := hrows (w.heap.size + 1, (broT y).a.toList) (by simp [tpBs])
  have hW2 := hW1'.laterS k2 (fun k hk => ⟨hlo k hk, fun _ h => nomatch h⟩)
  have hW2b : Wst w ⟨[⟨w.heap.size, (broT x).a.toList, true⟩], w2.heap.size⟩ w2 := hW2.addRow q1 (Nat.le_refl _) (fun _ h => nomatch h)
  have hW2c : Wst w ⟨tpRows w.heap.size (broT x) (broT y), w2.heap.size⟩ w2 := hW2b.addRow q2 (Nat.le_succ _) (fun r hr => by obtain rfl := List.mem_singleton.1 hr; show w.heap.size ≠ w.heap.size + 1; omega)
  exact Goal.re (hk w2 hW2c)
end
theorem eeq_tg (w : World) (x y : Operand) (t : Tg) : (do eqGuard .eql 57 x y (.agg t.a) (.agg t.a); binOp .eql 57 (.agg t.a) (.agg t.a) : Sem Value).run Tryd.prog w = .ok (.bool true) w := by
  have h4 : (eqGuard .eql 57 x y (.agg t.a) (.agg t.a)).run Tryd.prog w = .ok () w := aRun_none (l := []) (by kernel_rfl)
  simp only [Sem.run_bind, h4, Result.andThen_ok]
  exact ebin_tg w t
theorem may_k {t : Tg} (h : mayT t = true) : (kindsL 0).contains (t.k : Int) = true := by
  simp only [mayT, Bool.and_eq_true] at h
  exact h.1.1
theorem mayL_one {t : Tg} (h : mayT t = true) : mayL [t] = true := by simp only [mayL, mayFrom, h, may_k h]; rfl
theorem push_nil {t : Tg} (h : mayT t = true) : pushR [] t = ([t], 0) := by simp only [pushR, h, mayL_one h]; rfl
theorem mayL_two {x y : Tg} (hx : mayT x = true) (hy : mayT y = true) (hk : y.k = 33024) : mayL [x, y] = true := by simp only [mayL, mayFrom, hx, hy, may_k hx, hk]; rfl
theorem mayL_two_no {x y : Tg} (hk : y.k = 34984) : mayL [x, y] = false := by
  have : (kindsL 1).contains ((34984 : Nat) : Int) = false := by decide
  simp only [mayL, mayFrom, hk, this, Bool.and_false, Bool.false_and]
theorem push_one {x y : Tg} (hx : mayT x = true) (hy : mayT y = true) (hk : y.k = 33024) : pushR [y] x = ([x, y], 0) := by simp only [pushR, hx, mayL_one hy, mayL_two hx hy hk]; rfl
theorem push_one_no {x y : Tg} (hx : mayT x = true) (hy : mayT y = true) (hk : y.k = 34984) : pushR [y] x = ([], 1) := by simp only [pushR, hx, mayL_one hy, mayL_two_no hk]; rfl
theorem push_two {x y z : Tg} (hx : mayT x = true) (hz : mayT z = true) (hy : mayT y = true) (hk : y.k = 33024) : pushR [x, y] z = ([], 7) := by simp only [pushR, hz, mayL_two hx hy hk]; rfl
theorem pop_two {x y : Tg} (hx : mayT x = true) (hy : mayT y = true) (hk : y.k = 33024) : popR [x, y] = (x, [y], 0) := by simp only [popR, mayL_two hx hy hk]; rfl
theorem pop_one {y : Tg} (hy : mayT y = true) : popR [y] = (y, [], 0) := by simp only [popR, mayL_one hy]; rfl
section
variable {w : World}
abbrev pT (b : Nat) : Value := .pointer (some ⟨b, 0, none⟩)
set_option maxRecDepth 4000 in
theorem tp_rest (x : Tg) (p v : Nat) (d b : Bool) (hx : mayT x = true) (hy : mayT ⟨if b then 33024 else 34984, p, d, v⟩ = true) (hk : Kh w) (w2 : World) (hW2 : Wst w ⟨tpRows w.heap.size x ⟨if b then 33024 else 34984, p, d, v⟩, w2.heap.size⟩ w2) :
    Goal Tryd.prog (bodyPost Tryd.prog Tryd.f9 (tpQ w)) tpN ⟨frOf [2, 3] [pT w.heap.size, pT (w.heap.size + 1)], tagL [(2, 0), (3, 1)], ⟨tpRows w.heap.size x ⟨if b then 33024 else 34984, p, d, v⟩, w2.heap.size⟩, afterR tpC 1⟩ w2 := by
  generalize hyy : Tg.mk (if b then 33024 else 34984) p d v = y at *
  refine go_call_is (gt := fun _ => Option.none) (unroll := false) 60 [] 26 [.slice none 0 0, .agg y.a] [2, 3] [pT w.heap.size, pT (w.heap.size + 1)] 27 (tpRows w.heap.size x y) [(2, 0), (3, 1)] (inR tpC 2 1) [] [] hW2 (by kernel_rfl) trivial trivial ?_
  intro w3 hW3 _
  refine (push_any (l := []) (Rt.nil _) (by simp) y (hk.keep0 hW3.keep)).mono ?_
  rintro e w4 ⟨v1, rfl, f1⟩
  rw [push_nil hy] at f1 ⊢
  refine ⟨_, rfl, ?_⟩
  have hW4 := hW3.later f1.keep
  have H1 := f1.hd hW3
  refine go_call_is (gt := fun _ => Option.none) (unroll := false) 60 [] 26 [v1, .agg x.a] [2, 3, 5, 6] [pT w.heap.size, pT (w.heap.size + 1), v1, .int .i64 0] 33 (tpRows w.heap.size x y) [(2, 0), (3, 1)] (inR tpC 3 2) [] [] hW4 (by kernel_rfl) trivial trivial ?_
  intro w5 hW5 hS5
  have H1 := H1.pass0 hS5
  refine (push_any H1.rt (by simp) x (hk.keep0 hW5.keep)).mono ?_
  rintro e w6 ⟨v2, rfl, f2⟩
  have hW6 := hW5.later f2.keep
  have H1 := H1.call f2.keep
  have H2 := f2.hd hW5
  refine ⟨_, rfl, ?_⟩
  cases b with
  | false =>
    have hyk : y.k = 34984 := by rw [← hyy]; rfl
    rw [push_one_no hx hy hyk]
    subst hyy
    simp only [Bool.false_eq_true, if_false] at *
    refine go_call_is (gt := fun _ => Option.none) (unroll := false) 80 [] 40 [v1, .slice (some ⟨w6.heap.size, 0, none⟩) 1 1] [8, 9, 41] [.int .i64 1, .bool false, .bool false] 45 (tpRows w.heap.size x ⟨34984, p, d, v⟩ ++ [⟨w6.heap.size, (Tg.mk 34984 p d v).a.toList, true⟩]) [] (inR tpC 5 6) [] [] hW6 (by kernel_rfl) trivial trivial ?_
    intro w7 hW7 hS7
    have H1 := H1.pass [⟨w6.heap.size, (Tg.mk 34984 p d v).a.toList, true⟩] hS7 (fun r hr => by obtain rfl := List.mem_singleton.1 hr; exact Nat.le_refl _)
    obtain ⟨tt, hrow⟩ := hW7.rows ⟨w6.heap.size, (Tg.mk 34984 p d v).a.toList, true⟩ (by simp)
    refine (teq_any H1.rt (Rt.of_row (l := [Tg.mk 34984 p d v]) hrow (by simp [csT]) (by simp [maxLen]))).mono ?_
    rintro e w8 ⟨rfl, k8⟩
    refine ⟨_, rfl, ?_⟩
    refine go_call_is (gt := fun _ => Option.none) (unroll := false) 80 [] 34 [] [] [] 64 (tpRows w.heap.size x ⟨34984, p, d, v⟩ ++ [⟨w6.heap.size, (Tg.mk 34984 p d v).a.toList, true⟩]) [] (inR tpC 8 0) [] [] (hW7.later k8) (by kernel_rfl) trivial trivial ?_
    intro w9 hW9 _
    refine (wakes3_any w9 (hk.keep0 hW9.keep)).mono ?_
    rintro e wa ⟨rfl, ka⟩
    refine ⟨_, rfl, ?_⟩
    exact go_ret (gt := fun _ => Option.none) (unroll := false) 60 [] [.tmp 4] (.bool true) [] [] (hW9.later ka) Tryd.results9 (by kernel_rfl) trivial trivial (fun w9 hW9 _ => ⟨rfl, hW9.keep⟩)
  | true =>
    have hyk : y.k = 33024 := by rw [← hyy]; rfl
    rw [push_one hx hy hyk] at H2 ⊢
    subst hyy
    simp only [if_true] at *
    clear hyk
    generalize hY : Tg.mk 33024 p d v = y at *
    have hyk : y.k = 33024 := by rw [← hY]
    refine go_call_is (gt := fun _ => Option.none) (unroll := false) 80 [(4, 2, .is (.bool true))] 40 [v1, .slice (some ⟨w6.heap.size, 0, none⟩) 1 1] [2, 3, 5, 7, 8, 9, 41] [pT w.heap.size, pT (w.heap.size + 1), v1, v2, .int .i64 0, .bool true, .bool false] 45 (tpRows w.heap.size x y ++ [⟨w6.heap.size, y.a.toList, true⟩]) [(2, 0), (3, 1)] (inR tpC 5 6) [(.bool ((y.k : Int) == 33024), .bool true)] [] hW6 (by kernel_rfl) ⟨by rw [hyk]; rfl, trivial⟩ trivial ?_
    intro w7 hW7 hS7
    have H1 := H1.pass [⟨w6.heap.size, y.a.toList, true⟩] hS7 (fun r hr => by obtain rfl := List.mem_singleton.1 hr; exact Nat.le_refl _)
    have H2 := H2.pass [⟨w6.heap.size, y.a.toList, true⟩] hS7 (fun r hr => by obtain rfl := List.mem_singleton.1 hr; exact Nat.le_refl _)
    obtain ⟨tt, hrow⟩ := hW7.rows ⟨w6.heap.size, y.a.toList, true⟩ (by simp)
    refine (teq_any H1.rt (Rt.of_row (l := [y]) hrow (by simp [csT]) (by simp [maxLen]))).mono ?_
    rintro e w8 ⟨rfl, k8⟩
    refine ⟨_, rfl, ?_⟩
    have hW8 : Wst w ⟨tpRows w.heap.size x y, w8.heap.size⟩ w8 := (hW7.later k8).fewer (rows := tpRows w.heap.size x y)
    have H1 := (H1.call k8).fewer
    have H2 := (H2.call k8).fewer
    refine Goal.re (tags := tagL [(2, 0), (3, 1)]) (m := ⟨tpRows w.heap.size x y, w8.heap.size⟩) ?_
    refine go_call_is (gt := fun _ => Option.none) (unroll := false) 80 [] 26 [v2, .agg x.a] [2, 5, 7] [pT w.heap.size, v1, v2] 68 (tpRows w.heap.size x y) [(2, 0)] (inR tpC 9 2) [] [] hW8 (by kernel_rfl) trivial trivial ?_
    intro w9 hW9 hS9
    have H1 := H1.pass0 hS9
    have H2 := H2.pass0 hS9
    refine (push_any H2.rt (by simp) x (hk.keep0 hW9.keep)).mono ?_
    rintro e wa ⟨v3, rfl, f3⟩
    rw [push_two hx hx hy hyk]
    refine ⟨_, rfl, ?_⟩
    have hWa := hW9.later f3.keep
    have H1 := H1.call f3.keep
    have H2 := H2.call f3.keep
    refine go_call_is (gt := fun _ => Option.none) (unroll := false) 80 [] 31 [v2] [2, 5, 11] [pT w.heap.size, v1, .int .i64 7] 73 (tpRows w.heap.size x y) [(2, 0)] (inR tpC 10 1) [] [] hWa (by kernel_rfl) trivial trivial ?_
    intro wb hWb hSb
    have H1 := H1.pass0 hSb
    have H2 := H2.pass0 hSb
    refine (pop_any H2.rt (by simp) (hk.keep0 hWb.keep)).mono ?_
    rintro e wc ⟨v4, rfl, f4⟩
    rw [pop_two hx hy hyk] at f4 ⊢
    refine ⟨_, rfl, ?_⟩
    have hWc := hWb.later f4.keep
    have H1 := H1.call f4.keep
    have H4 := f4.hd hWb
    refine go_call_is (gt := fun _ => Option.none) (unroll := false) 80 [] 31 [v4] [2, 5, 11, 12, 13, 14] [pT w.heap.size, v1, .int .i64 7, pT wc.heap.size, v4, .int .i64 0] 79 (tpRows w.heap.size x y ++ [⟨wc.heap.size, x.a.toList, true⟩]) [(2, 0), (12, 2)] (inR tpC 11 1) [] [] hWc (by kernel_rfl) trivial trivial ?_
    intro wd hWd hSd
    have H1 := H1.pass [⟨wc.heap.size, x.a.toList, true⟩] hSd (fun r hr => by obtain rfl := List.mem_singleton.1 hr; exact Nat.le_refl _)
    have H4 := H4.pass [⟨wc.heap.size, x.a.toList, true⟩] hSd (fun r hr => by obtain rfl := List.mem_singleton.1 hr; exact Nat.le_refl _)
    refine (pop_any H4.rt (by simp) (hk.keep0 hWd.keep)).mono ?_
    rintro e we ⟨v5, rfl, f5⟩
    rw [pop_one hy] at f5 ⊢
    refine ⟨_, rfl, ?_⟩
    have hWe := hWd.later f5.keep
    have H1 := H1.call f5.keep
    have H4 := H4.call f5.keep
    have H5 := f5.hd hWd
    refine go_call_is (gt := fun _ => Option.none) (unroll := false) 80 [] 31 [v5] [2, 5, 11, 12, 13, 14, 16, 17] [pT w.heap.size, v1, .int .i64 7, pT wc.heap.size, v4, .int .i64 0, v5, .int .i64 0] 85 (tpRows w.heap.size x y ++ [⟨wc.heap.size, x.a.toList, true⟩] ++ [⟨we.heap.size, y.a.toList, true⟩]) [(2, 0), (12, 2)] (inR tpC 12 1) [] [] hWe (by kernel_rfl) trivial trivial ?_
    intro wf hWf hSf
    have H1 := H1.pass [⟨we.heap.size, y.a.toList, true⟩] hSf (fun r hr => by obtain rfl := List.mem_singleton.1 hr; exact Nat.le_refl _)
    have H4 := H4.pass [⟨we.heap.size, y.a.toList, true⟩] hSf (fun r hr => by obtain rfl := List.mem_singleton.1 hr; exact Nat.le_refl _)
    have H5 := H5.pass [⟨we.heap.size, y.a.toList, true⟩] hSf (fun r hr => by obtain rfl := List.mem_singleton.1 hr; exact Nat.le_refl _)
    refine (pop_any H5.rt (by simp) (hk.keep0 hWf.keep)).mono ?_
    rintro e wg ⟨v6, rfl, f6⟩
    rw [show popR [] = (t0, [], 6) from rfl] at f6 ⊢
    refine ⟨_, rfl, ?_⟩
    have hWg := hWf.later f6.keep
    have H1 := H1.call f6.keep
    have H4 := H4.call f6.keep
    refine go_call_is (gt := fun _ => Option.none) (unroll := false) 80 [(13, 9, .sem (.bool true))] 40 [v4, v1] [16, 17, 20, 100] [v5, .int .i64 0, .int .i64 6, .bool true] 103 (tpRows w.heap.size x y ++ [⟨wc.heap.size, x.a.toList, true⟩] ++ [⟨we.heap.size, y.a.toList, true⟩] ++ [⟨wg.heap.size, t0.a.toList, true⟩]) [] (inR tpC 13 14) []
      [((do eqGuard .eql 57 (.tmp 96) (.tmp 97) (.agg x.a) (.agg x.a); binOp .eql 57 (.agg x.a) (.agg x.a) : Sem Value), .bool true)] hWg (by kernel_rfl) trivial ⟨fun wx _ => eeq_tg wx _ _ x, trivial⟩ ?_
    intro wh hWh hSh
    have H1 := H1.pass [⟨wg.heap.size, t0.a.toList, true⟩] hSh (fun r hr => by obtain rfl := List.mem_singleton.1 hr; exact Nat.le_refl _)
    have H4 := H4.pass [⟨wg.heap.size, t0.a.toList, true⟩] hSh (fun r hr => by obtain rfl := List.mem_singleton.1 hr; exact Nat.le_refl _)
    refine (teq_any H4.rt H1.rt).mono ?_
    rintro e wi ⟨rfl, ki⟩
    refine ⟨_, rfl, ?_⟩
    refine go_call_is (gt := fun _ => Option.none) (unroll := false) 80 [(13, 22, .sem (.int .i64 0))] 34 [] [118] [.bool true] 119 (tpRows w.heap.size x y ++ [⟨wc.heap.size, x.a.toList, true⟩] ++ [⟨we.heap.size, y.a.toList, true⟩] ++ [⟨wg.heap.size, t0.a.toList, true⟩]) [] (inR tpC 13 30) [] [(Builtin.len_ #[24] 3 #[v5], .int .i64 0)] (hWh.later ki) (by kernel_rfl) trivial ⟨fun wx _ => H5.rt.sem_len ett (ty := 3) wx, trivial⟩ ?_
    intro wj hWj _
    refine (wakes3_any wj (hk.keep0 hWj.keep)).mono ?_
    rintro e wk ⟨rfl, kk⟩
    refine ⟨_, rfl, ?_⟩
    exact go_ret (gt := fun _ => Option.none) (unroll := false) 60 [] [.tmp 4] (.bool true) [] [] (hWj.later kk) Tryd.results9 (by kernel_rfl) trivial trivial (fun w9 hW9 _ => ⟨rfl, hW9.keep⟩)
theorem tagpushes_walk (x y : Tg) (hk : Kh w) : Calls Tryd.prog 9 #[.agg x.a, .agg y.a] w (tpQ w) := by
  refine tp_head x y fun w2 hW2 => ?_
  have hy := may_bro y
  have hb : broT y = ⟨if (decide (y.k % 2 = 1)) then 33024 else 34984, y.p % 8, y.d, y.v % 4096⟩ := by
    unfold broT
    by_cases h : y.k % 2 = 0
    · have h1 : ¬ y.k % 2 = 1 := by omega
      simp [h]
    · have h1 : y.k % 2 = 1 := by omega
      simp [h1]
  rw [hb] at hy hW2 ⊢
  exact tp_rest (broT x) _ _ _ _ (may_bro x) hy hk w2 hW2
end
end Go.Proofs.YtcimfojbggckhaaDoor
