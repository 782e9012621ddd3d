/-
  tolllaw03's TagBack, walked. Condition: the kinds are as they were laid; the numbers are of their kinds.
-/
import Derived.Test.YtcimfojbggckhaaDoorTagLaw
namespace Go.Proofs.YtcimfojbggckhaaDoor
open Go.RowKit

noncomputable abbrev tcC : Code := bodyOf Tryd.f8
noncomputable abbrev tcN : Nat := Tryd.f8.ntmps
abbrev tcW (w : World) : Ending → World → Prop := fun x w' => x = .returned (.bool true) ∧ Keep No w w'
abbrev sT (b n : Nat) : Value := .slice (some ⟨b, 0, none⟩) n n
abbrev bkSl (n : Nat) : List Value := [.slice none 0 0, sT n 1, sT (n + 1) 1, sT (n + 2) 2]
abbrev bkRows (h n : Nat) (x y : Tg) : List RowS := [⟨h, x.a.toList, true⟩, ⟨h + 1, y.a.toList, true⟩, ⟨n, x.a.toList, true⟩, ⟨n + 1, y.a.toList, true⟩, ⟨n + 2, x.a.toList ++ y.a.toList, true⟩, ⟨n + 3, bkSl n, true⟩]
theorem bk_at {h n : Nat} {x y : Tg} (hx : mayT x = true) (hy : mayT y = true) (hk : y.k = 33024) : ∀ i : Nat, i < 4 → ∃ vl l, Stk l ∧ (bkSl n)[i]? = some vl ∧
    (∀ wx, (Instr.indexAt 75 (sT (n + 3) 4) (.int .i64 (i : Int))).run Tryd.prog wx = .ok (.pointer (some ⟨n + 3, i, none⟩)) wx) ∧ ∀ {W0 wx : World} {m : Mem}, Wst W0 m wx → (∀ r ∈ bkRows h n x y, r ∈ m.rows) → Rt wx vl l := by
  intro i hi
  match i, hi with
  | 0, _ => exact ⟨_, [], .nil, rfl, fun wx => aRun_none (l := []) (by kernel_rfl), fun _ _ => Rt.nil _⟩
  | 1, _ => exact ⟨_, [x], .one hx, rfl, fun wx => aRun_none (l := []) (by kernel_rfl), fun hW hm => by
      obtain ⟨t, ht⟩ := hW.rows ⟨n, x.a.toList, true⟩ (hm _ (by simp))
      exact Rt.of_row (l := [x]) ht (by simp [csT]) (by simp [maxLen])⟩
  | 2, _ => exact ⟨_, [y], .one hy, rfl, fun wx => aRun_none (l := []) (by kernel_rfl), fun hW hm => by
      obtain ⟨t, ht⟩ := hW.rows ⟨n + 1, y.a.toList, true⟩ (hm _ (by simp))
      exact Rt.of_row (l := [y]) ht (by simp [csT]) (by simp [maxLen])⟩
  | 3, _ => exact ⟨_, [x, y], .two hx hy hk, rfl, fun wx => aRun_none (l := []) (by kernel_rfl), fun hW hm => by
      obtain ⟨t, ht⟩ := hW.rows ⟨n + 2, x.a.toList ++ y.a.toList, true⟩ (hm _ (by simp))
      exact Rt.of_row (l := [x, y]) ht (by simp [csT]) (by simp [maxLen])⟩
theorem sem_lds {w : World} {b i : Nat} {v : Value} (hc : w.cell? ⟨b, i, none⟩ = some v) : (Instr.loadAt 24 (.pointer (some ⟨b, i, none⟩))).run Tryd.prog w = .ok v w := by
  have hu := run_underlying (P := Tryd.prog) (w := w) Tryd.underlying24
  simp [Instr.loadAt, Instr.sureAddr, loadVar, isAgg, hu, load, Sem.run, hc]
/-- begins, as the law says it. -/
def begW (cs : List UInt8) (n : Nat) : Bool := decide (2 ≤ cs.length) && ((((bn cs 0) == 129) && ((bn cs 1) == 0)) || (((bn cs 0) == 136) && (((bn cs 1) == 168) && ((n : Int) == 0))))
theorem begW_begB {cs : List UInt8} {n : Nat} (hn : n < 2) (h : begW cs n = false) : begB cs n = false := by
  by_cases h2 : 2 ≤ cs.length
  · have e := be_two (cs := cs) (k := 0) (by omega)
    rw [List.drop_zero, Nat.zero_add] at e
    have b0 := byteAt_lt cs 0
    have b1 := byteAt_lt cs 1
    simp only [begW, decide_eq_true h2, Bool.true_and, bn] at h
    simp only [begB, decide_eq_true h2, decide_eq_true hn, Bool.true_and, e]
    generalize (byteAt cs 0).toNat = p at *
    generalize (byteAt cs 1).toNat = q at *
    rw [Bool.eq_false_iff] at h ⊢
    intro hc
    apply h
    have h01 : n = 0 ∨ n = 1 := by omega
    rcases h01 with rfl | rfl
    · simp only [kindsL, List.contains_cons, List.contains_nil, Bool.or_false, Bool.or_eq_true, beq_iff_eq] at hc
      rcases hc with hc | hc
      · obtain ⟨rfl, rfl⟩ : p = 136 ∧ q = 168 := by omega
        rfl
      · obtain ⟨rfl, rfl⟩ : p = 129 ∧ q = 0 := by omega
        rfl
    · simp only [kindsL, List.contains_cons, List.contains_nil, Bool.or_false, beq_iff_eq] at hc
      obtain ⟨rfl, rfl⟩ : p = 129 ∧ q = 0 := by omega
      rfl
  · simp [begB, h2]
noncomputable def tcL (h n : Nat) (x y : Tg) (u : Value) (j : Nat) (w' : World) : Cfg := ⟨frOf [2, 38, 39, 40] [u, sT (n + 3) 4, .int .i64 4, .int .i64 ((4 - j : Nat) : Int)], tagL [(38, 5)], ⟨bkRows h n x y, w'.heap.size⟩, atL tcC 5⟩
def tcJ (w : World) (n : Nat) (x y : Tg) (j : Nat) (w' : World) : Prop := j ≤ 4 ∧ Wst w ⟨bkRows w.heap.size n x y, w'.heap.size⟩ w'
noncomputable def tcR (w : World) (n : Nat) (x y : Tg) (u : Value) (j : Nat) : Act → World → Prop := fun a' w' => ∃ j', j' < j ∧ tcJ w n x y j' w' ∧ agrees tcN (tcL w.heap.size n x y u j' w') a'
/-! the inner loop -/
noncomputable abbrev tcX : Code := loopOf (atL tcC 17)
noncomputable def tdL (h n : Nat) (x y : Tg) (u va : Value) (i m : Nat) (lp : K) (j : Nat) (w' : World) : Cfg := ⟨frOf [2, 9, 38, 39, 40, 122, 123] [u, va, sT (n + 3) 4, .int .i64 4, .int .i64 (i : Int), .int .i64 (m : Int), .int .i64 ((m - j : Nat) : Int)], tagL [], ⟨bkRows h n x y, w'.heap.size⟩, atL tcC 17 lp⟩
def tdJ (w : World) (n : Nat) (x y : Tg) (va : Value) (A : List UInt8) (j : Nat) (w' : World) : Prop := j ≤ A.length ∧ Wst w ⟨bkRows w.heap.size n x y, w'.heap.size⟩ w' ∧ HdB (bkRows w.heap.size n x y) w' va A
noncomputable def tdR (w : World) (n : Nat) (x y : Tg) (u va : Value) (A : List UInt8) (i : Nat) (lp : K) (j : Nat) : Act → World → Prop := fun a' w' => ∃ j', j' < j ∧ tdJ w n x y va A j' w' ∧ agrees tcN (tdL w.heap.size n x y u va i A.length lp j' w') a'
section
variable {w : World} {n : Nat} {x y : Tg} {u va : Value} {cs A : List UInt8}
set_option maxRecDepth 4000 in
theorem td_round {l : List Tg} (hst : Stk l) (hA : A = bytesL l) (hk : Kh w) (i : Nat) (lp : K) (j : Nat) (w' : World) (hJ : tdJ w n x y va A (j + 1) w') :
    Goal Tryd.prog (bodyPost Tryd.prog Tryd.f8 (tcW w)) tcN { tdL w.heap.size n x y u va i A.length lp (j + 1) w' with todo := .code tcX :: .inv (tdR w n x y u va A i lp (j + 1)) :: (atL tcC 17 lp).tail } w' := by
  obtain ⟨hj, hW, HA⟩ := hJ
  unfold tdL
  have hAl : A.length = 4 * l.length := by rw [hA, bytesL_len]
  have hl2 := hst.len
  have hi : A.length - (j + 1) < A.length := by omega
  have hnext : A.length - (j + 1) + 1 = A.length - j := by omega
  generalize hI : A.length - (j + 1) = k at *
  have hc : (k : Int) < (A.length : Int) := by omega
  have hcut : (A.drop 0).take (k - 0) = A.take k := by simp
  refine go_call_is (gt := fun _ => Option.none) (unroll := false) 60 [(15, 0, .is (.bool true)), (17, 2, .sem (cutv va 0 k))] 32 [cutv va 0 k] [2, 9, 14, 38, 39, 40, 122, 123] [u, va, .int .i64 (k : Int), sT (n + 3) 4, .int .i64 4, .int .i64 (i : Int), .int .i64 (A.length : Int), .int .i64 (k : Int)] 130 (bkRows w.heap.size n x y) [] (inR tcX 17 3 ++ (.inv (tdR w n x y u va A i lp (j + 1)) :: (atL tcC 17 lp).tail))
    [(.bool (decide ((k : Int) < (A.length : Int))), .bool true)] [(Instr.sliceAt 26 va Option.none (some (.int .i64 (k : Int))) Option.none, cutv va 0 k)] hW (by kernel_rfl) ⟨congrArg Value.bool (by simpa using hc), trivial⟩ ⟨fun wx _ => HA.rd.sem_cutH (by omega) wx, trivial⟩ ?_
  intro w1 hW1 hS1
  have HA := HA.pass0 hS1
  have rc := HA.rd.cut (l := 0) (h := k) (Nat.zero_le _) (by omega)
  rw [hcut] at rc
  refine (read_any rc (by simp; omega) (hk.keep0 hW1.keep)).mono ?_
  rintro e w2 ⟨v1, u1, rfl, rr⟩
  have hW2 := hW1.later rr.keep
  have HA := HA.call rr.keep
  have hE := hst.cut (k := k) (by omega)
  rw [← hA] at hE
  rw [hE]
  refine ⟨_, rfl, ?_⟩
  have fin : ∀ w5 a, Wst w ⟨bkRows w.heap.size n x y, w5.heap.size⟩ w5 → HdB (bkRows w.heap.size n x y) w5 va A → Slots tcN [2, 9, 38, 39, 40, 122, 123] [u, va, sT (n + 3) 4, .int .i64 4, .int .i64 (i : Int), .int .i64 (A.length : Int), .int .i64 ((k + 1 : Nat) : Int)] a → tdR w n x y u va A i lp (j + 1) a w5 := by
    intro w5 a h1 h2 hs
    refine ⟨j, by omega, ⟨by omega, h1, h2⟩, ?_⟩
    unfold tdL
    rw [← hnext]
    exact hs
  have hk1 : IntKind.i64.wrap ((k : Int) + 1) = ((k + 1 : Nat) : Int) := by rw [IntWalk.i64_in _ (by omega)]; omega
  have hrem : Int.tmod (k : Int) 4 = ((k % 4 : Nat) : Int) := rem_nat k 4
  by_cases h2 : 2 ≤ k % 4
  · rw [if_pos h2]
    refine go_inv (gt := fun _ => Option.none) (unroll := false) 80 [(18, 3, .is (.int .i64 ((k % 4 : Nat) : Int))), (18, 4, .is (.bool true)), (20, 0, .is (.int .i64 ((k + 1 : Nat) : Int)))] [2, 9, 38, 39, 40, 122, 123] [u, va, sT (n + 3) 4, .int .i64 4, .int .i64 (i : Int), .int .i64 (A.length : Int), .int .i64 ((k + 1 : Nat) : Int)] (bkRows w.heap.size n x y) (tdR w n x y u va A i lp (j + 1))
      [(.int .i64 (Int.tmod (k : Int) 4), .int .i64 ((k % 4 : Nat) : Int)), (.bool (decide (((k % 4 : Nat) : Int) ≥ 2)), .bool true), (.int .i64 (IntKind.i64.wrap ((k : Int) + 1)), .int .i64 ((k + 1 : Nat) : Int))] [] hW2 (by kernel_rfl)
      ⟨by rw [hrem], congrArg Value.bool (by simp; omega), by rw [hk1], trivial⟩ trivial ?_
    intro w5 a hW5 hS5 hs
    exact fin w5 a hW5 (HA.pass0 hS5) hs
  · rw [if_neg h2]
    refine go_inv (gt := fun _ => Option.none) (unroll := false) 80 [(18, 3, .is (.int .i64 ((k % 4 : Nat) : Int))), (18, 4, .is (.bool false)), (20, 0, .is (.int .i64 ((k + 1 : Nat) : Int)))] [2, 9, 38, 39, 40, 122, 123] [u, va, sT (n + 3) 4, .int .i64 4, .int .i64 (i : Int), .int .i64 (A.length : Int), .int .i64 ((k + 1 : Nat) : Int)] (bkRows w.heap.size n x y) (tdR w n x y u va A i lp (j + 1))
      [(.int .i64 (Int.tmod (k : Int) 4), .int .i64 ((k % 4 : Nat) : Int)), (.bool (decide (((k % 4 : Nat) : Int) ≥ 2)), .bool false), (.int .i64 (IntKind.i64.wrap ((k : Int) + 1)), .int .i64 ((k + 1 : Nat) : Int))] [] hW2 (by kernel_rfl)
      ⟨by rw [hrem], congrArg Value.bool (by simp; omega), by rw [hk1], trivial⟩ trivial ?_
    intro w5 a hW5 hS5 hs
    exact fin w5 a hW5 (HA.pass0 hS5) hs
/-- The inner loop, from its region 14 on. -/
theorem td_loop {l : List Tg} (hst : Stk l) (hA : A = bytesL l) (hk : Kh w) (j i : Nat) (hj4 : j + 1 ≤ 4) (hi : i < 4) (hij : 4 - (j + 1) = i) (w' : World) (hW : Wst w ⟨bkRows w.heap.size n x y, w'.heap.size⟩ w') (HA : HdB (bkRows w.heap.size n x y) w' va A) :
    Goal Tryd.prog (bodyPost Tryd.prog Tryd.f8 (tcW w)) tcN ⟨frOf [2, 9, 38, 39, 40] [u, va, sT (n + 3) 4, .int .i64 4, .int .i64 (i : Int)], tagL [], ⟨bkRows w.heap.size n x y, w'.heap.size⟩, opsR tcC 14 (.inv (tcR w n x y u (j + 1)))⟩ w' := by
  refine go_stop (gt := fun _ => Option.none) (unroll := false) 60 [(14, 1, .sem (.int .i64 (A.length : Int)))] [2, 9, 38, 39, 40, 122, 123] [u, va, sT (n + 3) 4, .int .i64 4, .int .i64 (i : Int), .int .i64 (A.length : Int), .int .i64 0] (bkRows w.heap.size n x y) [] (atL tcC 17 (.inv (tcR w n x y u (j + 1)))) [] [(Builtin.len_ #[26] 3 #[va], .int .i64 (A.length : Int))] hW (by kernel_rfl) trivial ⟨fun wx _ => HA.rd.run_len (ty := 3) bt.sl, trivial⟩ ?_
  intro w1 hW1 hS1
  have key := loop_ok (P := Tryd.prog) (Q := bodyPost Tryd.prog Tryd.f8 (tcW w)) (n := tcN) (x := tcX) (k := (atL tcC 17 (.inv (tcR w n x y u (j + 1)))).tail) (tdL w.heap.size n x y u va i A.length (.inv (tcR w n x y u (j + 1)))) (tdJ w n x y va A) (fun _ _ => by kernel_rfl) ?_ A.length w1 ⟨Nat.le_refl _, hW1, HA.pass0 hS1⟩
  · unfold tdL at key
    rw [Nat.sub_self] at key
    exact key
  intro k w2 hJ
  cases k with
  | succ k => exact td_round hst hA hk i _ k w2 hJ
  | zero =>
    obtain ⟨_, hW2, HA2⟩ := hJ
    unfold tdL
    refine go_inv (gt := fun _ => Option.none) (unroll := false) 60 [(15, 0, .is (.bool false)), (21, 0, .is (.int .i64 ((i + 1 : Nat) : Int)))] [2, 38, 39, 40] [u, sT (n + 3) 4, .int .i64 4, .int .i64 ((i + 1 : Nat) : Int)] (bkRows w.heap.size n x y) (tcR w n x y u (j + 1)) [(.bool (decide (((A.length - 0 : Nat) : Int) < (A.length : Int))), .bool false), (.int .i64 (IntKind.i64.wrap ((i : Int) + 1)), .int .i64 ((i + 1 : Nat) : Int))] [] hW2 (by kernel_rfl)
      ⟨congrArg Value.bool (by simp), congrArg (Value.int .i64) (by rw [IntWalk.i64_in _ (by omega)]; omega), trivial⟩ trivial ?_
    intro w5 a hW5 hS5 hs
    refine ⟨j, by omega, ⟨by omega, hW5⟩, ?_⟩
    unfold tcL
    rw [show 4 - j = i + 1 by omega]
    exact hs
set_option maxRecDepth 4000 in
theorem tc_beg {l : List Tg} {vl sl : Value} {i : Nat} {lp : K} (ru : Rd w u cs) (rl : ∀ {wx : World}, Wst w ⟨bkRows w.heap.size n x y, wx.heap.size⟩ wx → Rt wx vl l) {w' : World} (hW : Wst w ⟨bkRows w.heap.size n x y, w'.heap.size⟩ w')
    (hk : ∀ w2, Wst w ⟨bkRows w.heap.size n x y, w2.heap.size⟩ w2 → Seg ⟨bkRows w.heap.size n x y, w'.heap.size⟩ w' ⟨bkRows w.heap.size n x y, w2.heap.size⟩ w2 →
      Goal Tryd.prog (bodyPost Tryd.prog Tryd.f8 (tcW w)) tcN ⟨frOf [2, 8, 9, 10, 38, 39, 40] [u, vl, va, .bool (begW cs l.length), sl, .int .i64 4, .int .i64 (i : Int)], tagL [], ⟨bkRows w.heap.size n x y, w2.heap.size⟩, opsR tcC 11 lp⟩ w2) :
    Goal Tryd.prog (bodyPost Tryd.prog Tryd.f8 (tcW w)) tcN ⟨frOf [2, 8, 9, 38, 39, 40] [u, vl, va, sl, .int .i64 4, .int .i64 (i : Int)], tagL [], ⟨bkRows w.heap.size n x y, w'.heap.size⟩, opsR tcC 10 lp⟩ w' := by
  have rl := rl hW
  have rux : ∀ wx, (∀ k, Safe ⟨bkRows w.heap.size n x y, w'.heap.size⟩ k → wx.heap[k]? = w'.heap[k]?) → Rd wx u cs := fun wx hx => ru.walk hW hx
  by_cases h2 : 2 ≤ cs.length
  · cases he1 : (bn cs 0 == 129) with
    | true =>
      cases he2 : (bn cs 1 == 0) with
      | true =>
        refine go_stop (gt := fun _ => Option.none) (unroll := false) 80 [(10, 1, .sem (.int .i64 (cs.length : Int))), (10, 2, .is (.bool true)), (10, 5, .sem (.pointer (some (adr u 0)))), (10, 6, .sem (bv (byteAt cs 0))), (10, 7, .is (.bool true)), (10, 10, .sem (.pointer (some (adr u 1)))), (10, 11, .sem (bv (byteAt cs 1))), (10, 12, .is (.bool true)), (11, 0, .stop)] [2, 8, 9, 10, 38, 39, 40] [u, vl, va, .bool true, sl, .int .i64 4, .int .i64 (i : Int)] (bkRows w.heap.size n x y) [] (opsR tcC 11 lp) [(.bool (decide ((cs.length : Int) ≥ 2)), .bool true), (.bool (bn cs 0 == 129), .bool true), (.bool (bn cs 1 == 0), .bool true)] [(Builtin.len_ #[26] 3 #[u], .int .i64 (cs.length : Int)), (Instr.indexAt 26 u (.int .i64 0), .pointer (some (adr u 0))), (Instr.loadAt 5 (.pointer (some (adr u 0))), bv (byteAt cs 0)), (Instr.indexAt 26 u (.int .i64 1), .pointer (some (adr u 1))), (Instr.loadAt 5 (.pointer (some (adr u 1))), bv (byteAt cs 1))] hW (by kernel_rfl) ⟨congrArg Value.bool (by simp; omega), congrArg Value.bool he1, congrArg Value.bool he2, trivial⟩ ⟨fun wx _ => ru.run_len (ty := 3) bt.sl, fun wx _ => ru.sem_at (i := 0) (by omega) wx, fun wx hx => (rux wx hx).sem_ld (i := 0) (by omega), fun wx _ => ru.sem_at (i := 1) (by omega) wx, fun wx hx => (rux wx hx).sem_ld (i := 1) (by omega), trivial⟩ ?_
        rw [show begW cs l.length = true by simp only [begW, decide_eq_true h2, he1, he2]; rfl] at hk
        exact hk
      | false =>
        cases he3 : (bn cs 0 == 136) with
        | true =>
          cases he4 : (bn cs 1 == 168) with
          | true =>
            cases he5 : ((l.length : Int) == 0) with
            | true =>
              refine go_stop (gt := fun _ => Option.none) (unroll := false) 80 [(10, 1, .sem (.int .i64 (cs.length : Int))), (10, 2, .is (.bool true)), (10, 5, .sem (.pointer (some (adr u 0)))), (10, 6, .sem (bv (byteAt cs 0))), (10, 7, .is (.bool true)), (10, 10, .sem (.pointer (some (adr u 1)))), (10, 11, .sem (bv (byteAt cs 1))), (10, 12, .is (.bool false)), (10, 16, .sem (.pointer (some (adr u 0)))), (10, 17, .sem (bv (byteAt cs 0))), (10, 18, .is (.bool true)), (10, 21, .sem (.pointer (some (adr u 1)))), (10, 22, .sem (bv (byteAt cs 1))), (10, 23, .is (.bool true)), (10, 27, .sem (.int .i64 (l.length : Int))), (10, 28, .is (.bool true)), (11, 0, .stop)] [2, 8, 9, 10, 38, 39, 40] [u, vl, va, .bool true, sl, .int .i64 4, .int .i64 (i : Int)] (bkRows w.heap.size n x y) [] (opsR tcC 11 lp) [(.bool (decide ((cs.length : Int) ≥ 2)), .bool true), (.bool (bn cs 0 == 129), .bool true), (.bool (bn cs 1 == 0), .bool false), (.bool (bn cs 0 == 136), .bool true), (.bool (bn cs 1 == 168), .bool true), (.bool ((l.length : Int) == 0), .bool true)] [(Builtin.len_ #[26] 3 #[u], .int .i64 (cs.length : Int)), (Instr.indexAt 26 u (.int .i64 0), .pointer (some (adr u 0))), (Instr.loadAt 5 (.pointer (some (adr u 0))), bv (byteAt cs 0)), (Instr.indexAt 26 u (.int .i64 1), .pointer (some (adr u 1))), (Instr.loadAt 5 (.pointer (some (adr u 1))), bv (byteAt cs 1)), (Instr.indexAt 26 u (.int .i64 0), .pointer (some (adr u 0))), (Instr.loadAt 5 (.pointer (some (adr u 0))), bv (byteAt cs 0)), (Instr.indexAt 26 u (.int .i64 1), .pointer (some (adr u 1))), (Instr.loadAt 5 (.pointer (some (adr u 1))), bv (byteAt cs 1)), (Builtin.len_ #[24] 3 #[vl], .int .i64 (l.length : Int))] hW (by kernel_rfl) ⟨congrArg Value.bool (by simp; omega), congrArg Value.bool he1, congrArg Value.bool he2, congrArg Value.bool he3, congrArg Value.bool he4, congrArg Value.bool he5, trivial⟩ ⟨fun wx _ => ru.run_len (ty := 3) bt.sl, fun wx _ => ru.sem_at (i := 0) (by omega) wx, fun wx hx => (rux wx hx).sem_ld (i := 0) (by omega), fun wx _ => ru.sem_at (i := 1) (by omega) wx, fun wx hx => (rux wx hx).sem_ld (i := 1) (by omega), fun wx _ => ru.sem_at (i := 0) (by omega) wx, fun wx hx => (rux wx hx).sem_ld (i := 0) (by omega), fun wx _ => ru.sem_at (i := 1) (by omega) wx, fun wx hx => (rux wx hx).sem_ld (i := 1) (by omega), fun wx _ => rl.sem_len ett (ty := 3) wx, trivial⟩ ?_
              rw [show begW cs l.length = true by simp only [begW, decide_eq_true h2, he1, he2, he3, he4, he5]; rfl] at hk
              exact hk
            | false =>
              refine go_stop (gt := fun _ => Option.none) (unroll := false) 80 [(10, 1, .sem (.int .i64 (cs.length : Int))), (10, 2, .is (.bool true)), (10, 5, .sem (.pointer (some (adr u 0)))), (10, 6, .sem (bv (byteAt cs 0))), (10, 7, .is (.bool true)), (10, 10, .sem (.pointer (some (adr u 1)))), (10, 11, .sem (bv (byteAt cs 1))), (10, 12, .is (.bool false)), (10, 16, .sem (.pointer (some (adr u 0)))), (10, 17, .sem (bv (byteAt cs 0))), (10, 18, .is (.bool true)), (10, 21, .sem (.pointer (some (adr u 1)))), (10, 22, .sem (bv (byteAt cs 1))), (10, 23, .is (.bool true)), (10, 27, .sem (.int .i64 (l.length : Int))), (10, 28, .is (.bool false)), (11, 0, .stop)] [2, 8, 9, 10, 38, 39, 40] [u, vl, va, .bool false, sl, .int .i64 4, .int .i64 (i : Int)] (bkRows w.heap.size n x y) [] (opsR tcC 11 lp) [(.bool (decide ((cs.length : Int) ≥ 2)), .bool true), (.bool (bn cs 0 == 129), .bool true), (.bool (bn cs 1 == 0), .bool false), (.bool (bn cs 0 == 136), .bool true), (.bool (bn cs 1 == 168), .bool true), (.bool ((l.length : Int) == 0), .bool false)] [(Builtin.len_ #[26] 3 #[u], .int .i64 (cs.length : Int)), (Instr.indexAt 26 u (.int .i64 0), .pointer (some (adr u 0))), (Instr.loadAt 5 (.pointer (some (adr u 0))), bv (byteAt cs 0)), (Instr.indexAt 26 u (.int .i64 1), .pointer (some (adr u 1))), (Instr.loadAt 5 (.pointer (some (adr u 1))), bv (byteAt cs 1)), (Instr.indexAt 26 u (.int .i64 0), .pointer (some (adr u 0))), (Instr.loadAt 5 (.pointer (some (adr u 0))), bv (byteAt cs 0)), (Instr.indexAt 26 u (.int .i64 1), .pointer (some (adr u 1))), (Instr.loadAt 5 (.pointer (some (adr u 1))), bv (byteAt cs 1)), (Builtin.len_ #[24] 3 #[vl], .int .i64 (l.length : Int))] hW (by kernel_rfl) ⟨congrArg Value.bool (by simp; omega), congrArg Value.bool he1, congrArg Value.bool he2, congrArg Value.bool he3, congrArg Value.bool he4, congrArg Value.bool he5, trivial⟩ ⟨fun wx _ => ru.run_len (ty := 3) bt.sl, fun wx _ => ru.sem_at (i := 0) (by omega) wx, fun wx hx => (rux wx hx).sem_ld (i := 0) (by omega), fun wx _ => ru.sem_at (i := 1) (by omega) wx, fun wx hx => (rux wx hx).sem_ld (i := 1) (by omega), fun wx _ => ru.sem_at (i := 0) (by omega) wx, fun wx hx => (rux wx hx).sem_ld (i := 0) (by omega), fun wx _ => ru.sem_at (i := 1) (by omega) wx, fun wx hx => (rux wx hx).sem_ld (i := 1) (by omega), fun wx _ => rl.sem_len ett (ty := 3) wx, trivial⟩ ?_
              rw [show begW cs l.length = false by simp only [begW, decide_eq_true h2, he1, he2, he3, he4, he5]; rfl] at hk
              exact hk
          | false =>
            refine go_stop (gt := fun _ => Option.none) (unroll := false) 80 [(10, 1, .sem (.int .i64 (cs.length : Int))), (10, 2, .is (.bool true)), (10, 5, .sem (.pointer (some (adr u 0)))), (10, 6, .sem (bv (byteAt cs 0))), (10, 7, .is (.bool true)), (10, 10, .sem (.pointer (some (adr u 1)))), (10, 11, .sem (bv (byteAt cs 1))), (10, 12, .is (.bool false)), (10, 16, .sem (.pointer (some (adr u 0)))), (10, 17, .sem (bv (byteAt cs 0))), (10, 18, .is (.bool true)), (10, 21, .sem (.pointer (some (adr u 1)))), (10, 22, .sem (bv (byteAt cs 1))), (10, 23, .is (.bool false)), (11, 0, .stop)] [2, 8, 9, 10, 38, 39, 40] [u, vl, va, .bool false, sl, .int .i64 4, .int .i64 (i : Int)] (bkRows w.heap.size n x y) [] (opsR tcC 11 lp) [(.bool (decide ((cs.length : Int) ≥ 2)), .bool true), (.bool (bn cs 0 == 129), .bool true), (.bool (bn cs 1 == 0), .bool false), (.bool (bn cs 0 == 136), .bool true), (.bool (bn cs 1 == 168), .bool false)] [(Builtin.len_ #[26] 3 #[u], .int .i64 (cs.length : Int)), (Instr.indexAt 26 u (.int .i64 0), .pointer (some (adr u 0))), (Instr.loadAt 5 (.pointer (some (adr u 0))), bv (byteAt cs 0)), (Instr.indexAt 26 u (.int .i64 1), .pointer (some (adr u 1))), (Instr.loadAt 5 (.pointer (some (adr u 1))), bv (byteAt cs 1)), (Instr.indexAt 26 u (.int .i64 0), .pointer (some (adr u 0))), (Instr.loadAt 5 (.pointer (some (adr u 0))), bv (byteAt cs 0)), (Instr.indexAt 26 u (.int .i64 1), .pointer (some (adr u 1))), (Instr.loadAt 5 (.pointer (some (adr u 1))), bv (byteAt cs 1))] hW (by kernel_rfl) ⟨congrArg Value.bool (by simp; omega), congrArg Value.bool he1, congrArg Value.bool he2, congrArg Value.bool he3, congrArg Value.bool he4, trivial⟩ ⟨fun wx _ => ru.run_len (ty := 3) bt.sl, fun wx _ => ru.sem_at (i := 0) (by omega) wx, fun wx hx => (rux wx hx).sem_ld (i := 0) (by omega), fun wx _ => ru.sem_at (i := 1) (by omega) wx, fun wx hx => (rux wx hx).sem_ld (i := 1) (by omega), fun wx _ => ru.sem_at (i := 0) (by omega) wx, fun wx hx => (rux wx hx).sem_ld (i := 0) (by omega), fun wx _ => ru.sem_at (i := 1) (by omega) wx, fun wx hx => (rux wx hx).sem_ld (i := 1) (by omega), trivial⟩ ?_
            rw [show begW cs l.length = false by simp only [begW, decide_eq_true h2, he1, he2, he3, he4]; rfl] at hk
            exact hk
        | false =>
          refine go_stop (gt := fun _ => Option.none) (unroll := false) 80 [(10, 1, .sem (.int .i64 (cs.length : Int))), (10, 2, .is (.bool true)), (10, 5, .sem (.pointer (some (adr u 0)))), (10, 6, .sem (bv (byteAt cs 0))), (10, 7, .is (.bool true)), (10, 10, .sem (.pointer (some (adr u 1)))), (10, 11, .sem (bv (byteAt cs 1))), (10, 12, .is (.bool false)), (10, 16, .sem (.pointer (some (adr u 0)))), (10, 17, .sem (bv (byteAt cs 0))), (10, 18, .is (.bool false)), (11, 0, .stop)] [2, 8, 9, 10, 38, 39, 40] [u, vl, va, .bool false, sl, .int .i64 4, .int .i64 (i : Int)] (bkRows w.heap.size n x y) [] (opsR tcC 11 lp) [(.bool (decide ((cs.length : Int) ≥ 2)), .bool true), (.bool (bn cs 0 == 129), .bool true), (.bool (bn cs 1 == 0), .bool false), (.bool (bn cs 0 == 136), .bool false)] [(Builtin.len_ #[26] 3 #[u], .int .i64 (cs.length : Int)), (Instr.indexAt 26 u (.int .i64 0), .pointer (some (adr u 0))), (Instr.loadAt 5 (.pointer (some (adr u 0))), bv (byteAt cs 0)), (Instr.indexAt 26 u (.int .i64 1), .pointer (some (adr u 1))), (Instr.loadAt 5 (.pointer (some (adr u 1))), bv (byteAt cs 1)), (Instr.indexAt 26 u (.int .i64 0), .pointer (some (adr u 0))), (Instr.loadAt 5 (.pointer (some (adr u 0))), bv (byteAt cs 0))] hW (by kernel_rfl) ⟨congrArg Value.bool (by simp; omega), congrArg Value.bool he1, congrArg Value.bool he2, congrArg Value.bool he3, trivial⟩ ⟨fun wx _ => ru.run_len (ty := 3) bt.sl, fun wx _ => ru.sem_at (i := 0) (by omega) wx, fun wx hx => (rux wx hx).sem_ld (i := 0) (by omega), fun wx _ => ru.sem_at (i := 1) (by omega) wx, fun wx hx => (rux wx hx).sem_ld (i := 1) (by omega), fun wx _ => ru.sem_at (i := 0) (by omega) wx, fun wx hx => (rux wx hx).sem_ld (i := 0) (by omega), trivial⟩ ?_
          rw [show begW cs l.length = false by simp only [begW, decide_eq_true h2, he1, he2, he3]; rfl] at hk
          exact hk
    | false =>
      cases he3 : (bn cs 0 == 136) with
      | true =>
        cases he4 : (bn cs 1 == 168) with
        | true =>
          cases he5 : ((l.length : Int) == 0) with
          | true =>
            refine go_stop (gt := fun _ => Option.none) (unroll := false) 80 [(10, 1, .sem (.int .i64 (cs.length : Int))), (10, 2, .is (.bool true)), (10, 5, .sem (.pointer (some (adr u 0)))), (10, 6, .sem (bv (byteAt cs 0))), (10, 7, .is (.bool false)), (10, 16, .sem (.pointer (some (adr u 0)))), (10, 17, .sem (bv (byteAt cs 0))), (10, 18, .is (.bool true)), (10, 21, .sem (.pointer (some (adr u 1)))), (10, 22, .sem (bv (byteAt cs 1))), (10, 23, .is (.bool true)), (10, 27, .sem (.int .i64 (l.length : Int))), (10, 28, .is (.bool true)), (11, 0, .stop)] [2, 8, 9, 10, 38, 39, 40] [u, vl, va, .bool true, sl, .int .i64 4, .int .i64 (i : Int)] (bkRows w.heap.size n x y) [] (opsR tcC 11 lp) [(.bool (decide ((cs.length : Int) ≥ 2)), .bool true), (.bool (bn cs 0 == 129), .bool false), (.bool (bn cs 0 == 136), .bool true), (.bool (bn cs 1 == 168), .bool true), (.bool ((l.length : Int) == 0), .bool true)] [(Builtin.len_ #[26] 3 #[u], .int .i64 (cs.length : Int)), (Instr.indexAt 26 u (.int .i64 0), .pointer (some (adr u 0))), (Instr.loadAt 5 (.pointer (some (adr u 0))), bv (byteAt cs 0)), (Instr.indexAt 26 u (.int .i64 0), .pointer (some (adr u 0))), (Instr.loadAt 5 (.pointer (some (adr u 0))), bv (byteAt cs 0)), (Instr.indexAt 26 u (.int .i64 1), .pointer (some (adr u 1))), (Instr.loadAt 5 (.pointer (some (adr u 1))), bv (byteAt cs 1)), (Builtin.len_ #[24] 3 #[vl], .int .i64 (l.length : Int))] hW (by kernel_rfl) ⟨congrArg Value.bool (by simp; omega), congrArg Value.bool he1, congrArg Value.bool he3, congrArg Value.bool he4, congrArg Value.bool he5, trivial⟩ ⟨fun wx _ => ru.run_len (ty := 3) bt.sl, fun wx _ => ru.sem_at (i := 0) (by omega) wx, fun wx hx => (rux wx hx).sem_ld (i := 0) (by omega), fun wx _ => ru.sem_at (i := 0) (by omega) wx, fun wx hx => (rux wx hx).sem_ld (i := 0) (by omega), fun wx _ => ru.sem_at (i := 1) (by omega) wx, fun wx hx => (rux wx hx).sem_ld (i := 1) (by omega), fun wx _ => rl.sem_len ett (ty := 3) wx, trivial⟩ ?_
            rw [show begW cs l.length = true by simp only [begW, decide_eq_true h2, he1, he3, he4, he5]; rfl] at hk
            exact hk
          | false =>
            refine go_stop (gt := fun _ => Option.none) (unroll := false) 80 [(10, 1, .sem (.int .i64 (cs.length : Int))), (10, 2, .is (.bool true)), (10, 5, .sem (.pointer (some (adr u 0)))), (10, 6, .sem (bv (byteAt cs 0))), (10, 7, .is (.bool false)), (10, 16, .sem (.pointer (some (adr u 0)))), (10, 17, .sem (bv (byteAt cs 0))), (10, 18, .is (.bool true)), (10, 21, .sem (.pointer (some (adr u 1)))), (10, 22, .sem (bv (byteAt cs 1))), (10, 23, .is (.bool true)), (10, 27, .sem (.int .i64 (l.length : Int))), (10, 28, .is (.bool false)), (11, 0, .stop)] [2, 8, 9, 10, 38, 39, 40] [u, vl, va, .bool false, sl, .int .i64 4, .int .i64 (i : Int)] (bkRows w.heap.size n x y) [] (opsR tcC 11 lp) [(.bool (decide ((cs.length : Int) ≥ 2)), .bool true), (.bool (bn cs 0 == 129), .bool false), (.bool (bn cs 0 == 136), .bool true), (.bool (bn cs 1 == 168), .bool true), (.bool ((l.length : Int) == 0), .bool false)] [(Builtin.len_ #[26] 3 #[u], .int .i64 (cs.length : Int)), (Instr.indexAt 26 u (.int .i64 0), .pointer (some (adr u 0))), (Instr.loadAt 5 (.pointer (some (adr u 0))), bv (byteAt cs 0)), (Instr.indexAt 26 u (.int .i64 0), .pointer (some (adr u 0))), (Instr.loadAt 5 (.pointer (some (adr u 0))), bv (byteAt cs 0)), (Instr.indexAt 26 u (.int .i64 1), .pointer (some (adr u 1))), (Instr.loadAt 5 (.pointer (some (adr u 1))), bv (byteAt cs 1)), (Builtin.len_ #[24] 3 #[vl], .int .i64 (l.length : Int))] hW (by kernel_rfl) ⟨congrArg Value.bool (by simp; omega), congrArg Value.bool he1, congrArg Value.bool he3, congrArg Value.bool he4, congrArg Value.bool he5, trivial⟩ ⟨fun wx _ => ru.run_len (ty := 3) bt.sl, fun wx _ => ru.sem_at (i := 0) (by omega) wx, fun wx hx => (rux wx hx).sem_ld (i := 0) (by omega), fun wx _ => ru.sem_at (i := 0) (by omega) wx, fun wx hx => (rux wx hx).sem_ld (i := 0) (by omega), fun wx _ => ru.sem_at (i := 1) (by omega) wx, fun wx hx => (rux wx hx).sem_ld (i := 1) (by omega), fun wx _ => rl.sem_len ett (ty := 3) wx, trivial⟩ ?_
            rw [show begW cs l.length = false by simp only [begW, decide_eq_true h2, he1, he3, he4, he5]; rfl] at hk
            exact hk
        | false =>
          refine go_stop (gt := fun _ => Option.none) (unroll := false) 80 [(10, 1, .sem (.int .i64 (cs.length : Int))), (10, 2, .is (.bool true)), (10, 5, .sem (.pointer (some (adr u 0)))), (10, 6, .sem (bv (byteAt cs 0))), (10, 7, .is (.bool false)), (10, 16, .sem (.pointer (some (adr u 0)))), (10, 17, .sem (bv (byteAt cs 0))), (10, 18, .is (.bool true)), (10, 21, .sem (.pointer (some (adr u 1)))), (10, 22, .sem (bv (byteAt cs 1))), (10, 23, .is (.bool false)), (11, 0, .stop)] [2, 8, 9, 10, 38, 39, 40] [u, vl, va, .bool false, sl, .int .i64 4, .int .i64 (i : Int)] (bkRows w.heap.size n x y) [] (opsR tcC 11 lp) [(.bool (decide ((cs.length : Int) ≥ 2)), .bool true), (.bool (bn cs 0 == 129), .bool false), (.bool (bn cs 0 == 136), .bool true), (.bool (bn cs 1 == 168), .bool false)] [(Builtin.len_ #[26] 3 #[u], .int .i64 (cs.length : Int)), (Instr.indexAt 26 u (.int .i64 0), .pointer (some (adr u 0))), (Instr.loadAt 5 (.pointer (some (adr u 0))), bv (byteAt cs 0)), (Instr.indexAt 26 u (.int .i64 0), .pointer (some (adr u 0))), (Instr.loadAt 5 (.pointer (some (adr u 0))), bv (byteAt cs 0)), (Instr.indexAt 26 u (.int .i64 1), .pointer (some (adr u 1))), (Instr.loadAt 5 (.pointer (some (adr u 1))), bv (byteAt cs 1))] hW (by kernel_rfl) ⟨congrArg Value.bool (by simp; omega), congrArg Value.bool he1, congrArg Value.bool he3, congrArg Value.bool he4, trivial⟩ ⟨fun wx _ => ru.run_len (ty := 3) bt.sl, fun wx _ => ru.sem_at (i := 0) (by omega) wx, fun wx hx => (rux wx hx).sem_ld (i := 0) (by omega), fun wx _ => ru.sem_at (i := 0) (by omega) wx, fun wx hx => (rux wx hx).sem_ld (i := 0) (by omega), fun wx _ => ru.sem_at (i := 1) (by omega) wx, fun wx hx => (rux wx hx).sem_ld (i := 1) (by omega), trivial⟩ ?_
          rw [show begW cs l.length = false by simp only [begW, decide_eq_true h2, he1, he3, he4]; rfl] at hk
          exact hk
      | false =>
        refine go_stop (gt := fun _ => Option.none) (unroll := false) 80 [(10, 1, .sem (.int .i64 (cs.length : Int))), (10, 2, .is (.bool true)), (10, 5, .sem (.pointer (some (adr u 0)))), (10, 6, .sem (bv (byteAt cs 0))), (10, 7, .is (.bool false)), (10, 16, .sem (.pointer (some (adr u 0)))), (10, 17, .sem (bv (byteAt cs 0))), (10, 18, .is (.bool false)), (11, 0, .stop)] [2, 8, 9, 10, 38, 39, 40] [u, vl, va, .bool false, sl, .int .i64 4, .int .i64 (i : Int)] (bkRows w.heap.size n x y) [] (opsR tcC 11 lp) [(.bool (decide ((cs.length : Int) ≥ 2)), .bool true), (.bool (bn cs 0 == 129), .bool false), (.bool (bn cs 0 == 136), .bool false)] [(Builtin.len_ #[26] 3 #[u], .int .i64 (cs.length : Int)), (Instr.indexAt 26 u (.int .i64 0), .pointer (some (adr u 0))), (Instr.loadAt 5 (.pointer (some (adr u 0))), bv (byteAt cs 0)), (Instr.indexAt 26 u (.int .i64 0), .pointer (some (adr u 0))), (Instr.loadAt 5 (.pointer (some (adr u 0))), bv (byteAt cs 0))] hW (by kernel_rfl) ⟨congrArg Value.bool (by simp; omega), congrArg Value.bool he1, congrArg Value.bool he3, trivial⟩ ⟨fun wx _ => ru.run_len (ty := 3) bt.sl, fun wx _ => ru.sem_at (i := 0) (by omega) wx, fun wx hx => (rux wx hx).sem_ld (i := 0) (by omega), fun wx _ => ru.sem_at (i := 0) (by omega) wx, fun wx hx => (rux wx hx).sem_ld (i := 0) (by omega), trivial⟩ ?_
        rw [show begW cs l.length = false by simp only [begW, decide_eq_true h2, he1, he3]; rfl] at hk
        exact hk
  · refine go_stop (gt := fun _ => Option.none) (unroll := false) 80 [(10, 1, .sem (.int .i64 (cs.length : Int))), (10, 2, .is (.bool false)), (11, 0, .stop)] [2, 8, 9, 10, 38, 39, 40] [u, vl, va, .bool false, sl, .int .i64 4, .int .i64 (i : Int)] (bkRows w.heap.size n x y) [] (opsR tcC 11 lp) [(.bool (decide ((cs.length : Int) ≥ 2)), .bool false)] [(Builtin.len_ #[26] 3 #[u], .int .i64 (cs.length : Int))] hW (by kernel_rfl) ⟨congrArg Value.bool (by simp; omega), trivial⟩ ⟨fun wx _ => ru.run_len (ty := 3) bt.sl, trivial⟩ ?_
    rw [show begW cs l.length = false by simp only [begW, decide_eq_false h2]; rfl] at hk
    exact hk
end
end Go.Proofs.YtcimfojbggckhaaDoor
