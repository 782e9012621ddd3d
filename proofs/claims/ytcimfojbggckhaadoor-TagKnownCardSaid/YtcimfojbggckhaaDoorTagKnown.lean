/-
  tolllaw03's TagKnown, walked. Condition: the kinds are as they were laid.
-/
import Derived.Test.YtcimfojbggckhaaDoorTagPushes
namespace Go.Proofs.YtcimfojbggckhaaDoor
open Go.RowKit

def tgS (l : List Tg) : Sv := .such (fun w x => Rt w x l) (fun _ _ _ k h => h.keep0 k)
noncomputable abbrev tkC : Code := bodyOf Tryd.f6
noncomputable abbrev tkN : Nat := Tryd.f6.ntmps
abbrev tkQ (w : World) : Ending → World → Prop := fun x w' => x = .returned (.bool true) ∧ Keep No w w'
def tkL : List Tg := [t0, ⟨33025, 0, false, 0⟩, ⟨33024, 8, false, 0⟩, ⟨34984, 0, false, 4096⟩]
def tkA : Value := .agg (csT tkL).toArray
noncomputable def tkLp (j : Nat) (w' : World) : Cfg := ⟨frOf [24, 25] [tkA, .int .i64 ((4 - j : Nat) : Int)], tagL [], ⟨[], w'.heap.size⟩, atL tkC 2⟩
def tkJ (w : World) (j : Nat) (w' : World) : Prop := j ≤ 4 ∧ Wst w ⟨[], w'.heap.size⟩ w'
noncomputable def tkR (w : World) (j : Nat) : Act → World → Prop := fun a' w' => ∃ j', j' < j ∧ tkJ w j' w' ∧ agrees tkN (tkLp j' w') a'
def pl (n : Nat) : Tg := ⟨33024, 0, false, n⟩
theorem tk_bad : ∀ i : Nat, i < 4 → ∃ t, tkL[i]? = some t ∧ mayT t = false ∧ ∀ wx, (Instr.index 58 tkA (.int .i64 (i : Int))).run Tryd.prog wx = .ok (.agg t.a) wx := by
  intro i hi
  match i, hi with
  | 0, _ => exact ⟨_, rfl, by kernel_rfl, fun wx => aRun_none (l := []) (by kernel_rfl)⟩
  | 1, _ => exact ⟨_, rfl, by kernel_rfl, fun wx => aRun_none (l := []) (by kernel_rfl)⟩
  | 2, _ => exact ⟨_, rfl, by kernel_rfl, fun wx => aRun_none (l := []) (by kernel_rfl)⟩
  | 3, _ => exact ⟨_, rfl, by kernel_rfl, fun wx => aRun_none (l := []) (by kernel_rfl)⟩
def ByOb (P : Program) (w0 : World) (q : Op) (ty : TypeId) (reads : List (Tmp × Sv)) (s : Sv) : Prop :=
  ∀ (a : Act) (o : Oper) w, o.op = q → o.type = ty → Keep No w0 w → (∀ r ∈ reads, r.2.ok w (a.tmps.getD r.1 undef)) → OutOK P s w ((execOp a.eval o).run P w)
/-- A slice of tags that is built in a region. -/
theorem by_build {w0 : World} {n : Nat} {parts : Array (Nat × Operand)} {vals : Array (Nat × Value)} {ty : TypeId} {reads : List (Tmp × Sv)} {l : List Tg} (hl : l.length ≤ maxLen)
    (hx : ∀ (a : Act) w, (∀ r ∈ reads, r.2.ok w (a.tmps.getD r.1 undef)) → parts.map (fun (i, x) => (i, a.eval x)) = vals)
    (hq : ∀ nx, gRun Tryd.prog Option.none (Instr.buildSlice 24 n vals) ⟨[], nx⟩ = some (.slice (some ⟨nx, 0, none⟩) l.length l.length, ⟨[⟨nx, csT l, true⟩], nx + 1⟩, [])) : ByOb Tryd.prog w0 (.buildSlice 24 n parts) ty reads (tgS l) := by
  intro a o w ho _ k hr
  obtain ⟨w', h1, h2, h3⟩ := gRun_ok (Wst.start0 w) (hq w.heap.size) (fun _ h => nomatch h)
  have hs : semNew a.eval o = some (Instr.buildSlice 24 n vals) := by
    unfold semNew
    rw [ho]
    simp only [← hx a w hr]
  rw [semNew_run hs h1]
  obtain ⟨t, ht⟩ := h2.rows ⟨w.heap.size, csT l, true⟩ (by simp)
  exact ⟨h2.keep, Rt.of_row ht rfl hl⟩
theorem by_build1 {w0 : World} {x : Tmp} {t : Tg} {ty : TypeId} : ByOb Tryd.prog w0 (.buildSlice 24 1 #[(0, .tmp x)]) ty [(x, .is (.agg t.a))] (tgS [t]) :=
  by_build (vals := #[(0, .agg t.a)]) (by simp [maxLen]) (fun a w hr => by
    have e : a.tmps.getD x undef = .agg t.a := hr (x, .is (.agg t.a)) (by simp)
    simp only [List.map_toArray, List.map_cons, List.map_nil, Act.eval, e]) (fun nx => by kernel_rfl)
theorem by_build2 {w0 : World} {x y : Tmp} {t u : Tg} {ty : TypeId} : ByOb Tryd.prog w0 (.buildSlice 24 2 #[(0, .tmp x), (1, .tmp y)]) ty [(x, .is (.agg t.a)), (y, .is (.agg u.a))] (tgS [t, u]) :=
  by_build (vals := #[(0, .agg t.a), (1, .agg u.a)]) (by simp [maxLen]) (fun a w hr => by
    have e : a.tmps.getD x undef = .agg t.a := hr (x, .is (.agg t.a)) (by simp)
    have e2 : a.tmps.getD y undef = .agg u.a := hr (y, .is (.agg u.a)) (by simp)
    simp only [List.map_toArray, List.map_cons, List.map_nil, Act.eval, e, e2]) (fun nx => by kernel_rfl)
theorem by_len {w0 : World} {x : Tmp} {bs : List UInt8} : ByOb Tryd.prog w0 (.call { callee := .builtin .len, args := #[.tmp x], argTypes := #[26] }) 3 [(x, rdS bs)] (.is (.int .i64 bs.length)) := by
  intro a o w8 ho hty k hr
  have h44 : Rd w8 (a.tmps.getD x undef) bs := hr _ (List.mem_singleton.2 rfl)
  have h := semOf_run (P := Tryd.prog) (ρ := a.eval) (o := o) (w := w8) (s := Builtin.len_ #[26] 3 #[a.tmps.getD x undef]) (v := .int .i64 bs.length) (by simp [semOf, ho, hty, Act.eval]) (h44.run_len (ty := 3) bt.sl)
  rw [h]
  exact ⟨Keep.refl _ _, rfl⟩
theorem tk_round (w : World) (hk : Kh w) (j : Nat) (w' : World) (hJ : tkJ w (j + 1) w') :
    Goal Tryd.prog (bodyPost Tryd.prog Tryd.f6 (tkQ w)) tkN { tkLp (j + 1) w' with todo := .code (loopOf (atL tkC 2)) :: .inv (tkR w (j + 1)) :: (atL tkC 2).tail } w' := by
  obtain ⟨hj, hW⟩ := hJ
  unfold tkLp
  have hi : 4 - (j + 1) < 4 := by omega
  have hnext : 4 - (j + 1) + 1 = 4 - j := by omega
  generalize hI : 4 - (j + 1) = i at *
  have hc : (i : Int) < 4 := by omega
  obtain ⟨t, _, hmt, hix⟩ := tk_bad i hi
  refine go_call_is (gt := fun _ => Option.none) (unroll := false) 60 [(2, 0, .is (.bool true)), (3, 0, .sem (.agg t.a))] 26 [.slice none 0 0, .agg t.a] [2, 24, 25] [pT w'.heap.size, tkA, .int .i64 (i : Int)] 30 [⟨w'.heap.size, t.a.toList, true⟩] [(2, 0)] (inR tkC 4 1 (.inv (tkR w (j + 1))))
    [(.bool (decide ((i : Int) < 4)), .bool true)] [(Instr.index 58 tkA (.int .i64 (i : Int)), .agg t.a)] hW (by kernel_rfl) ⟨congrArg Value.bool (by simpa using hc), trivial⟩ ⟨fun wx _ => hix wx, trivial⟩ ?_
  intro w1 hW1 _
  refine (push_any (l := []) (Rt.nil _) (by simp) t (hk.keep0 hW1.keep)).mono ?_
  rintro e w2 ⟨v1, rfl, f1⟩
  rw [show pushR [] t = ([], 1) by simp [pushR, hmt]]
  refine ⟨_, rfl, ?_⟩
  refine go_stop (gt := fun _ => Option.none) (unroll := false) 60 [] [2, 4, 24, 25] [pT w'.heap.size, .int .i64 1, tkA, .int .i64 (i : Int)] [⟨w'.heap.size, t.a.toList, true⟩] [(2, 0)] (atR tkC 5 (.inv (tkR w (j + 1)))) [] [] (hW1.later f1.keep) (by kernel_rfl) trivial trivial ?_
  intro w3 hW3 _
  have hk3 : ∀ wx, Keep No w3 wx → Kh wx := fun wx k => hk.keep0 (hW3.keep.trans k)
  have eb1 : bytesB [t] = [] := by simp [bytesB, hmt]
  have eb2 : bytesB [pl 1, t] = [] := by simp [bytesB, hmt]
  have em : mayL [t] = false := by simp [mayL, mayFrom, hmt]
  have c1 : CallOb Tryd.prog w3 27 [.is (.agg t.a)] (.is (.bool false)) := CallOb.of1 fun w8 kp => hmt ▸ maytag_any (hk3 w8 kp) t
  have c2 : CallOb Tryd.prog w3 22 [tgS [t]] (.is (.bool false)) := by
    rintro w8 vals kp ha
    match vals, ha with
    | [y], hy => exact (may_any hy.1 (hk3 w8 kp)).mono fun e w9 ⟨h1, h2⟩ => ⟨_, h1, h2, by rw [em]; rfl⟩
  have c3 : CallOb Tryd.prog w3 28 [.is (.agg t.a)] (rdS []) := CallOb.rd1 fun w8 kp => (tbytes_any t (hk3 w8 kp)).mono fun e w9 ⟨v, h1, h2⟩ => ⟨v, h1, h2.keep, eb1 ▸ h2.rd⟩
  have c4 : CallOb Tryd.prog w3 30 [.is (.int .u16 1)] (.is (.agg (pl 1).a)) := CallOb.of1 fun w8 _ => plain_any w8 1
  have c5 : CallOb Tryd.prog w3 29 [tgS [pl 1, t]] (rdS []) := by
    rintro w8 vals kp ha
    match vals, ha with
    | [y], hy => exact (tagbytes_any hy.1 (hk3 w8 kp) (by simp)).mono fun e w9 ⟨v, h1, h2⟩ => ⟨v, h1, h2.keep, eb2 ▸ h2.rd⟩
  refine drawn_ok (gt := fun _ => Option.none) [(1, .call (.is (.bool false))), (4, .by (tgS [t])), (5, .call (.is (.bool false))), (9, .call (rdS [])), (10, .by (.is (.int .i64 0))), (14, .call (.is (.agg (pl 1).a))), (16, .by (tgS [pl 1, t])), (17, .call (rdS [])), (18, .by (.is (.int .i64 0)))]
    [57, 24, 25] [.is (.bool false), .is tkA, .is (.int .i64 (i : Int))] []
    [(27, [.is (.agg t.a)], .is (.bool false)), (22, [tgS [t]], .is (.bool false)), (28, [.is (.agg t.a)], rdS []), (30, [.is (.int .u16 1)], .is (.agg (pl 1).a)), (29, [tgS [pl 1, t]], rdS [])] []
    [(.buildSlice 24 1 #[(0, .tmp 36)], 24, [(36, .is (.agg t.a))], tgS [t]), (.call { callee := .builtin .len, args := #[.tmp 42], argTypes := #[26] }, 3, [(42, rdS [])], .is (.int .i64 0)),
      (.buildSlice 24 2 #[(0, .tmp 47), (1, .tmp 48)], 24, [(47, .is (.agg (pl 1).a)), (48, .is (.agg t.a))], tgS [pl 1, t]), (.call { callee := .builtin .len, args := #[.tmp 50], argTypes := #[26] }, 3, [(50, rdS [])], .is (.int .i64 0))] []
    hW3 (by kernel_rfl) (by kernel_rfl) trivial ⟨c1, c2, c3, c4, c5, trivial⟩ trivial ⟨by_build1, by_len, by_build2, by_len, trivial⟩ trivial ?_
  intro w4 vs k4 hv
  obtain rfl := allOk_is (vs := [.bool false, tkA, .int .i64 (i : Int)]) hv
  refine go_inv (gt := fun _ => Option.none) (unroll := false) 60 [(7, 0, .is (.int .i64 ((i + 1 : Nat) : Int)))] [24, 25] [tkA, .int .i64 ((i + 1 : Nat) : Int)] [⟨w'.heap.size, t.a.toList, true⟩] (tkR w (j + 1)) [(.int .i64 (IntKind.i64.wrap ((i : Int) + 1)), .int .i64 ((i + 1 : Nat) : Int))] [] (hW3.later k4) (by kernel_rfl)
    ⟨congrArg (Value.int .i64) (by rw [IntWalk.i64_in _ (by omega)]; omega), trivial⟩ trivial ?_
  intro w5 a hW5 hS5 hs
  refine ⟨j, by omega, ⟨by omega, hW5.fewer (rows := [])⟩, ?_⟩
  unfold tkLp
  rw [← hnext]
  exact hs
def tk3 : List Tg := [pl 1, pl 2, pl 3]
def tkB : List UInt8 := [129, 0, 255, 255, 136, 168, 0, 1]
def tkG : Tg := ⟨33024, 7, true, 4095⟩
theorem tk_r1 : readT 3 [] [129] = ([], [129], 0) := by kernel_rfl
theorem tk_r2 : readT 3 [] [129, 0, 1] = ([], [], 4) := by kernel_rfl
theorem tk_r3 : readT 3 [] tkB = ([tkG], [136, 168, 0, 1], 0) := by kernel_rfl
theorem tk_m3 : mayL tk3 = false := by kernel_rfl
theorem tk_p3 : popR tk3 = (t0, [], 1) := by kernel_rfl
theorem tk_u3 : pushR tk3 (pl 4) = ([], 1) := by kernel_rfl
abbrev tkR3 (h : Nat) : List RowS := [⟨h, csT tk3, true⟩]
abbrev tkV (h : Nat) : Value := .slice (some ⟨h, 0, none⟩) 3 3
set_option maxRecDepth 4000 in
theorem tagknown_walk (w : World) (hk : Kh w) : Calls Tryd.prog 6 #[] w (tkQ w) := by
  refine enter (args := []) Tryd.func6 (by kernel_rfl) ?_
  refine go_stop (gt := fun _ => Option.none) (unroll := false) 60 [] [24, 25] [tkA, .int .i64 0] [] [] (atL tkC 2) [] [] (Wst.start0 w) (by kernel_rfl) trivial trivial ?_
  intro w1 hW1 _
  have key := loop_ok (P := Tryd.prog) (Q := bodyPost Tryd.prog Tryd.f6 (tkQ w)) (n := tkN) (x := loopOf (atL tkC 2)) (k := (atL tkC 2).tail) tkLp (tkJ w) (fun _ _ => by kernel_rfl) ?_ 4 w1 ⟨Nat.le_refl _, hW1⟩
  · exact key
  intro j w' hJ
  cases j with
  | succ j => exact tk_round w hk j w' hJ
  | zero =>
  obtain ⟨_, hW⟩ := hJ
  unfold tkLp
  refine go_call_is (gt := fun _ => Option.none) (unroll := false) 60 [] 30 [.int .u16 1] [] [] 59 [] [] (inR tkC 8 0) [] [] hW (by kernel_rfl) trivial trivial ?_
  intro w1 hW1 _
  refine (plain_any w1 1).mono ?_
  rintro e w2 ⟨rfl, k2⟩
  refine ⟨_, rfl, ?_⟩
  refine go_call_is (gt := fun _ => Option.none) (unroll := false) 60 [] 30 [.int .u16 2] [59] [.agg (pl 1).a] 60 [] [] (inR tkC 8 1) [] [] (hW1.later k2) (by kernel_rfl) trivial trivial ?_
  intro w3 hW3 _
  refine (plain_any w3 2).mono ?_
  rintro e w4 ⟨rfl, k4⟩
  refine ⟨_, rfl, ?_⟩
  refine go_call_is (gt := fun _ => Option.none) (unroll := false) 60 [] 30 [.int .u16 3] [59, 60] [.agg (pl 1).a, .agg (pl 2).a] 61 [] [] (inR tkC 8 2) [] [] (hW3.later k4) (by kernel_rfl) trivial trivial ?_
  intro w5 hW5 _
  refine (plain_any w5 3).mono ?_
  rintro e w6 ⟨rfl, k6⟩
  refine ⟨_, rfl, ?_⟩
  have hW6 := hW5.later k6
  refine go_call_is (gt := fun _ => Option.none) (unroll := false) 60 [] 31 [.slice (some ⟨w6.heap.size, 0, none⟩) 3 3] [5] [.slice (some ⟨w6.heap.size, 0, none⟩) 3 3] 65 (tkR3 w6.heap.size) [] (inR tkC 9 1) [] [] hW6 (by kernel_rfl) trivial trivial ?_
  intro w7 hW7 _
  have r3 : ∀ {wx : World} {m : Mem}, Wst w m wx → ⟨w6.heap.size, csT tk3, true⟩ ∈ m.rows → Rt wx (.slice (some ⟨w6.heap.size, 0, none⟩) 3 3) tk3 := fun hW hm => by
    obtain ⟨tt, hrow⟩ := hW.rows _ hm
    exact Rt.of_row (l := tk3) hrow rfl (by simp [maxLen, tk3])
  refine (pop_any (r3 hW7 (by simp)) (by simp [tk3]) (hk.keep0 hW7.keep)).mono ?_
  rintro e w8 ⟨v1, rfl, f1⟩
  rw [tk_p3]
  refine ⟨_, rfl, ?_⟩
  refine go_call_is (gt := fun _ => Option.none) (unroll := false) 60 [] 30 [.int .u16 4] [5, 8, 70] [tkV w6.heap.size, .int .i64 1, tkV w6.heap.size] 71 (tkR3 w6.heap.size ++ [⟨w8.heap.size, t0.a.toList, true⟩]) [] (inR tkC 10 1) [] [] (hW7.later f1.keep) (by kernel_rfl) trivial trivial ?_
  intro w9 hW9 _
  refine (plain_any w9 4).mono ?_
  rintro e wa ⟨rfl, ka⟩
  refine ⟨_, rfl, ?_⟩
  refine go_call_is (gt := fun _ => Option.none) (unroll := false) 60 [] 26 [tkV w6.heap.size, .agg (pl 4).a] [5, 8] [tkV w6.heap.size, .int .i64 1] 72 (tkR3 w6.heap.size ++ [⟨w8.heap.size, t0.a.toList, true⟩]) [] (inR tkC 10 2) [] [] (hW9.later ka) (by kernel_rfl) trivial trivial ?_
  intro wb hWb _
  refine (push_any (r3 hWb (by simp)) (by simp [tk3]) (pl 4) (hk.keep0 hWb.keep)).mono ?_
  rintro e wc ⟨v2, rfl, f2⟩
  rw [tk_u3]
  refine ⟨_, rfl, ?_⟩
  have hWc : Wst w ⟨tkR3 w6.heap.size, wc.heap.size⟩ wc := (hWb.later f2.keep).fewer (rows := tkR3 w6.heap.size)
  refine Goal.re (tags := tagL []) (m := ⟨tkR3 w6.heap.size, wc.heap.size⟩) ?_
  refine go_call_is (gt := fun _ => Option.none) (unroll := false) 60 [] 32 [.slice (some ⟨wc.heap.size, 0, none⟩) 1 1] [5, 8, 10] [tkV w6.heap.size, .int .i64 1, .int .i64 1] 77 (tkR3 w6.heap.size ++ [⟨wc.heap.size, bvs [129], true⟩]) [] (inR tkC 11 1) [] [] hWc (by kernel_rfl) trivial trivial ?_
  intro wd hWd _
  refine (read_any (Rd.of_row (b := wc.heap.size) (off := 0) (ow := true) (cs := bvs [129]) hWd (by simp) 1 rfl (by decide) (fun i hi => by rw [Nat.zero_add]; exact bvs_get hi)) (by simp) (hk.keep0 hWd.keep)).mono ?_
  rintro e we ⟨c, dd, rfl, rr⟩
  have HC : Hd (tkR3 w6.heap.size ++ [⟨wc.heap.size, bvs [129], true⟩]) we c [] := ⟨by have := rr.rt; rwa [tk_r1] at this, rr.lv, Ap.fresh hWd rr.sv⟩
  have HD : HdB (tkR3 w6.heap.size ++ [⟨wc.heap.size, bvs [129], true⟩]) we dd [129] := ⟨by have := rr.rd; rwa [tk_r1] at this, rr.lu, Ap.fresh hWd rr.su⟩
  have hWe : Wst w ⟨tkR3 w6.heap.size, we.heap.size⟩ we := (hWd.later rr.keep).fewer (rows := tkR3 w6.heap.size)
  rw [tk_r1]
  refine ⟨_, rfl, ?_⟩
  have HC := HC.fewer
  have HD := HD.fewer
  refine Goal.re (tags := tagL []) (m := ⟨tkR3 w6.heap.size, we.heap.size⟩) ?_
  refine go_call_is (gt := fun _ => Option.none) (unroll := false) 60 [] 32 [.slice (some ⟨we.heap.size, 0, none⟩) 3 3] [5, 8, 10, 11, 12, 13] [tkV w6.heap.size, .int .i64 1, .int .i64 1, c, dd, .int .i64 0] 83 (tkR3 w6.heap.size ++ [⟨we.heap.size, bvs [129, 0, 1], true⟩]) [] (inR tkC 12 1) [] [] hWe (by kernel_rfl) trivial trivial ?_
  intro wf hWf hSf
  have HC := HC.pass [⟨we.heap.size, bvs [129, 0, 1], true⟩] hSf (fun r hr => by obtain rfl := List.mem_singleton.1 hr; exact Nat.le_refl _)
  have HD := HD.pass [⟨we.heap.size, bvs [129, 0, 1], true⟩] hSf (fun r hr => by obtain rfl := List.mem_singleton.1 hr; exact Nat.le_refl _)
  refine (read_any (Rd.of_row (b := we.heap.size) (off := 0) (ow := true) (cs := bvs [129, 0, 1]) hWf (by simp) 3 rfl (by decide) (fun i hi => by rw [Nat.zero_add]; exact bvs_get hi)) (by simp) (hk.keep0 hWf.keep)).mono ?_
  rintro e wg ⟨c2, d2, rfl, r2⟩
  have HC := (HC.call r2.keep).fewer
  have HD := (HD.call r2.keep).fewer
  have hWg : Wst w ⟨tkR3 w6.heap.size, wg.heap.size⟩ wg := (hWf.later r2.keep).fewer (rows := tkR3 w6.heap.size)
  rw [tk_r2]
  refine ⟨_, rfl, ?_⟩
  refine Goal.re (tags := tagL []) (m := ⟨tkR3 w6.heap.size, wg.heap.size⟩) ?_
  refine go_call_is (gt := fun _ => Option.none) (unroll := false) 60 [] 32 [.slice (some ⟨wg.heap.size, 0, none⟩) 8 8] [5, 8, 10, 11, 12, 13, 16] [tkV w6.heap.size, .int .i64 1, .int .i64 1, c, dd, .int .i64 0, .int .i64 4] 89 (tkR3 w6.heap.size ++ [⟨wg.heap.size, bvs tkB, true⟩]) [] (inR tkC 13 1) [] [] hWg (by kernel_rfl) trivial trivial ?_
  intro wh hWh hSh
  have HC := HC.pass [⟨wg.heap.size, bvs tkB, true⟩] hSh (fun r hr => by obtain rfl := List.mem_singleton.1 hr; exact Nat.le_refl _)
  have HD := HD.pass [⟨wg.heap.size, bvs tkB, true⟩] hSh (fun r hr => by obtain rfl := List.mem_singleton.1 hr; exact Nat.le_refl _)
  refine (read_any (Rd.of_row (b := wg.heap.size) (off := 0) (ow := true) (cs := bvs tkB) hWh (by simp) 8 rfl (by decide) (fun i hi => by rw [Nat.zero_add]; exact bvs_get hi)) (by simp [tkB]) (hk.keep0 hWh.keep)).mono ?_
  rintro e wi ⟨g, u, rfl, r4⟩
  have HG : Hd (tkR3 w6.heap.size ++ [⟨wg.heap.size, bvs tkB, true⟩]) wi g [tkG] := ⟨by have := r4.rt; rwa [tk_r3] at this, r4.lv, Ap.fresh hWh r4.sv⟩
  have HU : HdB (tkR3 w6.heap.size ++ [⟨wg.heap.size, bvs tkB, true⟩]) wi u [136, 168, 0, 1] := ⟨by have := r4.rd; rwa [tk_r3] at this, r4.lu, Ap.fresh hWh r4.su⟩
  have HC := (HC.call r4.keep).fewer
  have HD := (HD.call r4.keep).fewer
  have HG := HG.fewer
  have HU := HU.fewer
  have hWi : Wst w ⟨tkR3 w6.heap.size, wi.heap.size⟩ wi := (hWh.later r4.keep).fewer (rows := tkR3 w6.heap.size)
  rw [tk_r3]
  refine ⟨_, rfl, ?_⟩
  refine Goal.re (tags := tagL []) (m := ⟨tkR3 w6.heap.size, wi.heap.size⟩) ?_
  refine go_call_is (gt := fun _ => Option.none) (unroll := false) 60 [] 22 [tkV w6.heap.size] [8, 10, 11, 12, 13, 16, 17, 18, 19] [.int .i64 1, .int .i64 1, c, dd, .int .i64 0, .int .i64 4, g, u, .int .i64 0] 94 (tkR3 w6.heap.size) [] (inR tkC 14 1) [] [] hWi (by kernel_rfl) trivial trivial ?_
  intro wj hWj hSj
  have HC := HC.pass0 hSj
  have HD := HD.pass0 hSj
  have HG := HG.pass0 hSj
  have HU := HU.pass0 hSj
  refine (may_any (r3 hWj (by simp)) (hk.keep0 hWj.keep)).mono ?_
  rintro e wk ⟨rfl, kk⟩
  have HC := HC.call kk
  have HD := HD.call kk
  have HG := HG.call kk
  have HU := HU.call kk
  rw [tk_m3]
  refine ⟨_, rfl, ?_⟩
  refine go_call_is (gt := fun _ => Option.none) (unroll := false) 100 [(14, 17, .sem (.int .i64 0))] 33 [dd, .slice (some ⟨wk.heap.size, 0, none⟩) 1 1] [16, 17, 18, 19, 113] [.int .i64 4, g, u, .int .i64 0, .bool true] 116 (tkR3 w6.heap.size ++ [⟨wk.heap.size, bvs [129], true⟩]) [] (inR tkC 14 23) []
    [(Builtin.len_ #[24] 3 #[c], .int .i64 0)] (hWj.later kk) (by kernel_rfl) trivial ⟨fun wx _ => HC.rt.sem_len ett (ty := 3) wx, trivial⟩ ?_
  intro wl hWl hSl
  have HD := HD.pass [⟨wk.heap.size, bvs [129], true⟩] hSl (fun r hr => by obtain rfl := List.mem_singleton.1 hr; exact Nat.le_refl _)
  have HG := HG.pass [⟨wk.heap.size, bvs [129], true⟩] hSl (fun r hr => by obtain rfl := List.mem_singleton.1 hr; exact Nat.le_refl _)
  have HU := HU.pass [⟨wk.heap.size, bvs [129], true⟩] hSl (fun r hr => by obtain rfl := List.mem_singleton.1 hr; exact Nat.le_refl _)
  refine (bequal_any HD.rd (Rd.of_row (b := wk.heap.size) (off := 0) (ow := true) (cs := bvs [129]) hWl (by simp) 1 rfl (by decide) (fun i hi => by rw [Nat.zero_add]; exact bvs_get hi))).mono ?_
  rintro e wm ⟨rfl, rfl⟩
  refine ⟨_, rfl, ?_⟩
  simp only [BEq.rfl]
  refine go_call_is (gt := fun _ => Option.none) (unroll := false) 100 [(14, 35, .sem (.int .i64 1)), (14, 40, .sem (.pointer (some (adt g 0)))), (14, 41, .sem (.agg tkG.a)), (14, 43, .sem (.bool true)), (14, 47, .sem (.int .i64 4))] 30 [.int .u16 9] [143] [.bool true] 144 (tkR3 w6.heap.size ++ [⟨wk.heap.size, bvs [129], true⟩]) [] (inR tkC 14 51) []
    [(Builtin.len_ #[24] 3 #[g], .int .i64 1), (Instr.indexAt 24 g (.int .i64 0), .pointer (some (adt g 0))), (Instr.loadAt 57 (.pointer (some (adt g 0))), .agg tkG.a), ((do eqGuard .eql 57 (.tmp 134) (.tmp 135) (.agg tkG.a) (.agg tkG.a); binOp .eql 57 (.agg tkG.a) (.agg tkG.a) : Sem Value), .bool true), (Builtin.len_ #[26] 3 #[u], .int .i64 4)]
    hWl (by kernel_rfl) trivial ⟨fun wx _ => HG.rt.sem_len ett (ty := 3) wx, fun wx _ => HG.rt.sem_at ett (i := 0) (by simp) wx, fun wx hx => HG.semld ett (i := 0) (by simp) wx hx, fun wx _ => eeq_tg wx _ _ tkG, fun wx _ => HU.rd.run_len (ty := 3) bt.sl, trivial⟩ ?_
  intro wn hWn _
  refine (plain_any wn 9).mono ?_
  rintro e wo ⟨rfl, ko⟩
  refine ⟨_, rfl, ?_⟩
  refine go_call_is (gt := fun _ => Option.none) (unroll := false) 100 [(14, 53, .sem (.bool true))] 34 [] [148] [.bool true] 149 (tkR3 w6.heap.size ++ [⟨wk.heap.size, bvs [129], true⟩]) [] (inR tkC 14 56) []
    [((do eqGuard .eql 57 (.tmp 144) (.tmp 145) (.agg (pl 9).a) (.agg (pl 9).a); binOp .eql 57 (.agg (pl 9).a) (.agg (pl 9).a) : Sem Value), .bool true)] (hWn.later ko) (by kernel_rfl) trivial ⟨fun wx _ => eeq_tg wx _ _ (pl 9), trivial⟩ ?_
  intro wp hWp _
  refine (wakes3_any wp (hk.keep0 hWp.keep)).mono ?_
  rintro e wq ⟨rfl, kq⟩
  refine ⟨_, rfl, ?_⟩
  exact go_ret (gt := fun _ => Option.none) (unroll := false) 60 [] [.tmp 0] (.bool true) [] [] (hWp.later kq) Tryd.results6 (by kernel_rfl) trivial trivial (fun w9 hW9 _ => ⟨rfl, hW9.keep⟩)
end Go.Proofs.YtcimfojbggckhaaDoor
