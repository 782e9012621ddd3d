/-
  tolllaw03's TagKnown, walked. Condition: the kinds are as they were laid.
-/
import Derived.Test.YtcimfojbggckhaaDoorEtherTagsAllC
namespace Go.Proofs.YtcimfojbggckhaaDoor
open Go.RowKit

def tgS (l : List Tg) : Sv := .such (fun w x => Rt w x l) (fun _ _ _ k h => h.keep0 k)
noncomputable abbrev tkC : Code := bodyOf Tryd.f6
noncomputable abbrev tkN : Nat := Tryd.f6.ntmps
abbrev tkQ (w : World) : Ending → World → Prop := fun x w' => x = .returned (.bool true) ∧ Keep No w w'
def tkL : List Tg := [t0, ⟨33025, 0, false, 0⟩, ⟨33024, 8, false, 0⟩, ⟨34984, 0, false, 4096⟩]
def tkA : Value := .agg (csT tkL).toArray
noncomputable def tkLp (j : Nat) (w' : World) : Cfg := ⟨frOf [24, 25] [tkA, .int .i64 ((4 - j : Nat) : Int)], tagL [], ⟨[], w'.heap.size⟩, atL tkC 2⟩
def tkJ (w : World) (j : Nat) (w' : World) : Prop := j ≤ 4 ∧ Wst w ⟨[], w'.heap.size⟩ w'
noncomputable def tkR (w : World) (j : Nat) : Act → World → Prop := fun a' w' => ∃ j', j' < j ∧ tkJ w j' w' ∧ agrees tkN (tkLp j' w') a'
def pl (n : Nat) : Tg := ⟨33024, 0, false, n⟩
theorem tk_bad : ∀ i : Nat, i < 4 → ∃ t, tkL[i]? = some t ∧ mayT t = false ∧ ∀ wx, (Instr.index 58 tkA (.int .i64 (i : Int))).run Tryd.prog wx = .ok (.agg t.a) wx := by
  intro i hi
  match i, hi with
  | 0, _ => exact ⟨_, rfl, by kernel_rfl, fun wx => aRun_none (l := []) (by kernel_rfl)⟩
  | 1, _ => exact ⟨_, rfl, by kernel_rfl, fun wx => aRun_none (l := []) (by kernel_rfl)⟩
  | 2, _ => exact ⟨_, rfl, by kernel_rfl, fun wx => aRun_none (l := []) (by kernel_rfl)⟩
  | 3, _ => exact ⟨_, rfl, by kernel_rfl, fun wx => aRun_none (l := []) (by kernel_rfl)⟩
def ByOb (P : Program) (w0 : World) (q : Op) (ty : TypeId) (reads : List (Tmp × Sv)) (s : Sv) : Prop :=
  ∀ (a : Act) (o : Oper) w, o.op = q → o.type = ty → Keep No w0 w → (∀ r ∈ reads, r.2.ok w (a.tmps.getD r.1 undef)) → OutOK P s w ((execOp a.eval o).run P w)
/-- A slice of tags that is built in a region. -/
theorem by_build {w0 : World} {n : Nat} {parts : Array (Nat × Operand)} {vals : Array (Nat × Value)} {ty : TypeId} {reads : List (Tmp × Sv)} {l : List Tg} (hl : l.length ≤ maxLen)
    (hx : ∀ (a : Act) w, (∀ r ∈ reads, r.2.ok w (a.tmps.getD r.1 undef)) → parts.map (fun (i, x) => (i, a.eval x)) = vals)
    (hq : ∀ nx, gRun Tryd.prog Option.none (Instr.buildSlice 24 n vals) ⟨[], nx⟩ = some (.slice (some ⟨nx, 0, none⟩) l.length l.length, ⟨[⟨nx, csT l, true⟩], nx + 1⟩, [])) : ByOb Tryd.prog w0 (.buildSlice 24 n parts) ty reads (tgS l) := by
  intro a o w ho _ k hr
  obtain ⟨w', h1, h2, h3⟩ := gRun_ok (Wst.start0 w) (hq w.heap.size) (fun _ h => nomatch h)
  have hs : semNew a.eval o = some (Instr.buildSlice 24 n vals) := by
    unfold semNew
    rw [ho]
    simp only [← hx a w hr]
  rw [semNew_run hs h1]
  obtain ⟨t, ht⟩ := h2.rows ⟨w.heap.size, csT l, true⟩ (by simp)
  exact ⟨h2.keep, Rt.of_row ht rfl hl⟩
theorem by_build1 {w0 : World} {x : Tmp} {t : Tg} {ty : TypeId} : ByOb Tryd.prog w0 (.buildSlice 24 1 #[(0, .tmp x)]) ty [(x, .is (.agg t.a))] (tgS [t]) :=
  by_build (vals := #[(0, .agg t.a)]) (by simp [maxLen]) (fun a w hr => by
    have e : a.tmps.getD x undef = .agg t.a := hr (x, .is (.agg t.a)) (by simp)
    simp only [List.map_toArray, List.map_cons, List.map_nil, Act.eval, e]) (fun nx => by kernel_rfl)
theorem by_build2 {w0 : World} {x y : Tmp} {t u : Tg} {ty : TypeId} : ByOb Tryd.prog w0 (.buildSlice 24 2 #[(0, .tmp x), (1, .tmp y)]) ty [(x, .is (.agg t.a)), (y, .is (.agg u.a))] (tgS [t, u]) :=
  by_build (vals := #[(0, .agg t.a), (1, .agg u.a)]) (by simp [maxLen]) (fun a w hr => by
    have e : a.tmps.getD x undef = .agg t.a := hr (x, .is (.agg t.a)) (by simp)
    have e2 : a.tmps.getD y undef = .agg u.a := hr (y, .is (.agg u.a)) (by simp)
    simp only [List.map_toArray, List.map_cons, List.map_nil, Act.eval, e, e2]) (fun nx => by kernel_rfl)
theorem by_len {w0 : World} {x : Tmp} {bs : List UInt8} : ByOb Tryd.prog w0 (.call { callee := .builtin .len, args := #[.tmp x], argTypes := #[26] }) 3 [(x, rdS bs)] (.is (.int .i64 bs.length)) := by
  intro a o w8 ho hty k hr
  have h44 : Rd w8 (a.tmps.getD x undef) bs := hr _ (List.mem_singleton.2 rfl)
  have h := semOf_run (P := Tryd.prog) (ρ := a.eval) (o := o) (w := w8) (s := Builtin.len_ #[26] 3 #[a.tmps.getD x undef]) (v := .int .i64 bs.length) (by simp [semOf, ho, hty, Act.eval]) (h44.run_len (ty := 3) bt.sl)
  rw [h]
  exact ⟨Keep.refl _ _, rfl⟩
theorem tk_round (w : World) (hk : Kh w) (j : Nat) (w' : World) (hJ : tkJ w (j + 1) w') :
    Goal Tryd.prog (bodyPost Tryd.prog Tryd.f6 (tkQ w)) tkN { tkLp (j + 1) w' with todo := .code (loopOf (atL tkC 2)) :: .inv (tkR w (j + 1)) :: (atL tkC 2).tail } w' := by
  obtain ⟨hj, hW⟩ := hJ
  unfold tkLp
  have hi : 4 - (j + 1) < 4 := by omega
  have hnext : 4 - (j + 1) + 1 = 4 - j := by omega
  generalize hI : 4 - (j + 1) = i at *
  have hc : (i : Int) < 4 := by omega
  obtain ⟨t, _, hmt, hix⟩ := tk_bad i hi
  refine go_call_is (gt := fun _ => Option.none) (unroll := false) 60 [(2, 0, .is (.bool true)), (3, 0, .sem (.agg t.a))] 26 [.slice none 0 0, .agg t.a] [2, 24, 25] [pT w'.heap.size, tkA, .int .i64 (i : Int)] 30 [⟨w'.heap.size, t.a.toList, true⟩] [(2, 0)] (inR tkC 4 1 (.inv (tkR w (j + 1))))
    [(.bool (decide ((i : Int) < 4)), .bool true)] [(Instr.index 58 tkA (.int .i64 (i : Int)), .agg t.a)] hW (by kernel_rfl) ⟨congrArg Value.bool (by simpa using hc), trivial⟩ ⟨fun wx _ => hix wx, trivial⟩ ?_
  intro w1 hW1 _
  refine (push_any (l := []) (Rt.nil _) (by simp) t (hk.keep0 hW1.keep)).mono ?_
  rintro e w2 ⟨v1, rfl, f1⟩
  rw [show pushR [] t = ([], 1) by simp [pushR, hmt]]
  refine ⟨_, rfl, ?_⟩
  refine go_stop (gt := fun _ => Option.none) (unroll := false) 60 [] [2, 4, 24, 25] [pT w'.heap.size, .int .i64 1, tkA, .int .i64 (i : Int)] [⟨w'.heap.size, t.a.toList, true⟩] [(2, 0)] (atR tkC 5 (.inv (tkR w (j + 1)))) [] [] (hW1.later f1.keep) (by kernel_rfl) trivial trivial ?_
  intro w3 hW3 _
  have hk3 : ∀ wx, Keep No w3 wx → Kh wx := fun wx k => hk.keep0 (hW3.keep.trans k)
  have eb1 : bytesB [t] = [] := by simp [bytesB, hmt]
  have eb2 : bytesB [pl 1, t] = [] := by simp [bytesB, hmt]
  have em : mayL [t] = false := by simp [mayL, mayFrom, hmt]
  have c1 : CallOb Tryd.prog w3 27 [.is (.agg t.a)] (.is (.bool false)) := CallOb.of1 fun w8 kp => hmt ▸ maytag_any (hk3 w8 kp) t
  have c2 : CallOb Tryd.prog w3 22 [tgS [t]] (.is (.bool false)) := by
    rintro w8 vals kp ha
    match vals, ha with
    | [y], hy => exact (may_any hy.1 (hk3 w8 kp)).mono fun e w9 ⟨h1, h2⟩ => ⟨_, h1, h2, by rw [em]; rfl⟩
  have c3 : CallOb Tryd.prog w3 28 [.is (.agg t.a)] (rdS []) := CallOb.rd1 fun w8 kp => (tbytes_any t (hk3 w8 kp)).mono fun e w9 ⟨v, h1, h2⟩ => ⟨v, h1, h2.keep, eb1 ▸ h2.rd⟩
  have c4 : CallOb Tryd.prog w3 30 [.is (.int .u16 1)] (.is (.agg (pl 1).a)) := CallOb.of1 fun w8 _ => plain_any w8 1
  have c5 : CallOb Tryd.prog w3 29 [tgS [pl 1, t]] (rdS []) := by
    rintro w8 vals kp ha
    match vals, ha with
    | [y], hy => exact (tagbytes_any hy.1 (hk3 w8 kp) (by simp)).mono fun e w9 ⟨v, h1, h2⟩ => ⟨v, h1, h2.keep, eb2 ▸ h2.rd⟩
  refine drawn_ok (gt := fun _ => Option.none) [(1, .call (.is (.bool false))), (4, .by (tgS [t])), (5, .call (.is (.bool false))), (9, .call (rdS [])), (10, .by (.is (.int .i64 0))), (14, .call (.is (.agg (pl 1).a))), (16, .by (tgS [pl 1, t])), (17, .call (rdS [])), (18, .by (.is (.int .i64 0)))]
    [57, 24, 25] [.is (.bool false), .is tkA, .is (.int .i64 (i : Int))] []
    [(27, [.is (.agg t.a)], .is (.bool false)), (22, [tgS [t]], .is (.bool false)), (28, [.is (.agg t.a)], rdS []), (30, [.is (.int .u16 1)], .is (.agg (pl 1).a)), (29, [tgS [pl 1, t]], rdS [])] []
    [(.buildSlice 24 1 #[(0, .tmp 36)], 24, [(36, .is (.agg t.a))], tgS [t]), (.call { callee := .builtin .len, args := #[.tmp 42], argTypes := #[26] }, 3, [(42, rdS [])], .is (.int .i64 0)),
      (.buildSlice 24 2 #[(0, .tmp 47), (1, .tmp 48)], 24, [(47, .is (.agg (pl 1).a)), (48, .is (.agg t.a))], tgS [pl 1, t]), (.call { callee := .builtin .len, args := #[.tmp 50], argTypes := #[26] }, 3, [(50, rdS [])], .is (.int .i64 0))] []
    hW3 (by kernel_rfl) (by kernel_rfl) trivial ⟨c1, c2, c3, c4, c5, trivial⟩ trivial ⟨by_build1, by_len, by_build2, by_len, trivial⟩ trivial ?_
  intro w4 vs k4 hv
  obtain rfl := allOk_is (vs := [.bool false, tkA, .int .i64 (i : Int)]) hv
  refine go_inv (gt := fun _ => Option.none) (unroll := false) 60 [(7, 0, .is (.int .i64 ((i + 1 : Nat) : Int)))] [24, 25] [tkA, .int .i64 ((i + 1 : Nat) : Int)] [⟨w'.heap.size, t.a.toList, true⟩] (tkR w (j + 1)) [(.int .i64 (IntKind.i64.wrap ((i : Int) + 1)), .int .i64 ((i + 1 : Nat) : Int))] [] (hW3.later k4) (by kernel_rfl)
    ⟨congrArg (Value.int .i64) (by rw [IntWalk.i64_in _ (by omega)]; omega), trivial⟩ trivial ?_
  intro w5 a hW5 hS5 hs
  refine ⟨j, by omega, ⟨by omega, hW5.fewer (rows := [])⟩, ?_⟩
  unfold tkLp
  rw [← hnext]
  exact hs
def tk3 : List Tg := [pl 1, pl 2, pl 3]
def tkB : List UInt8 := [129, 0, 255, 255, 136, 168, 0, 1]
def tkG : Tg := ⟨33024, 7, true, 4095⟩
theorem tk_r1 : readT 3 [] [129] = ([], [129], 0) := by kernel_rfl
theorem tk_r2 : readT 3 [] [129, 0, 1] = ([], [], 4) := by kernel_rfl
theorem tk_r3 : readT 3 [] tkB = ([tkG], [136, 168, 0, 1], 0) := by kernel_rfl
theorem tk_m3 : mayL tk3 = false := by kernel_rfl
theorem tk_p3 : popR tk3 = (t0, [], 1) := by kernel_rfl
theorem tk_u3 : pushR tk3 (pl 4) = ([], 1) := by kernel_rfl
abbrev tkR3 (h : Nat) : List RowS := [⟨h, csT tk3, true⟩]
abbrev tkV (h : Nat) : Value := .slice (some ⟨h, 0, none⟩) 3 3
set_option maxRecDepth 4000 in
theorem tagknown_walk (w : World) (hk : Kh w) : Calls Tryd.prog 6 #[] w (tkQ w) := by
  refine enter (args := []) Tryd.func6 (by kernel_rfl) ?_
  refine go_stop (gt := fun _ => Option.none) (unroll := false) 60 [] [24, 25] [tkA, .int .i64 0] [] [] (atL tkC 2) [] [] (Wst.start0 w) (by kernel_rfl) trivial trivial ?_
  intro w1 hW1 _
  have key := loop_ok (P := Tryd.prog) (Q := bodyPost Tryd.prog Tryd.f6 (tkQ w)) (n := tkN) (x := loopOf (atL tkC 2)) (k := (atL tkC 2).tail) tkLp (tkJ w) (fun _ _ => by kernel_rfl) ?_ 4 w1 ⟨Nat.le_refl _, hW1⟩
  · exact key
  intro j w' hJ
  cases j with
  | succ j => exact tk_round w hk j w' hJ
  | zero =>
  obtain ⟨_, hW⟩ := hJ
  unfold tkLp
  refine go_call_is (gt := fun _ => Option.none) (unroll := false) 60 [] 30 [.int .u16 1] [] [] 59 [] [] (inR tkC 8 0) [] [] hW (by kernel_rfl) trivial trivial ?_
  intro w1 hW1 _
  refine (plain_any w1 1).mono ?_
  rintro e w2 ⟨rfl, k2⟩
  refine ⟨_, rfl, ?_⟩
  refine go_call_is (gt := fun _ => Option.none) (unroll := false) 60 [] 30 [.int .u16 2] [59] [.agg (pl 1).a] 60 [] [] (inR tkC 8 1) [] [] (hW1.later k2) (by kernel_rfl) trivial trivial ?_
  intro w3 hW3 _
  refine (plain_any w3 2).mono ?_
  rintro e w4 ⟨rfl, k4⟩
  refine ⟨_, rfl, ?_⟩
  refine go_call_is (gt := fun _ => Option.none) (unroll := false) 60 [] 30 [.int .u16 3] [59, 60] [.agg (pl 1).a, .agg (pl 2).a] 61 [] [] (inR tkC 8 2) [] [] (hW3.later k4) (by kernel_rfl) trivial trivial ?_
  intro w5 hW5 _
  refine (plain_any w5 3).mono ?_
  rintro e w6 ⟨rfl, k6⟩
  refine ⟨_, rfl, ?_⟩
  have hW6 := hW5.later k6
  refine go_call_is (gt := fun _ => Option.none) (unroll := false) 60 [] 31 [.slice (some ⟨w6.heap.size, 0, none⟩) 3 3] [5] [.slice (some ⟨w6.heap.size, 0, none⟩) 3 3] 65 (tkR3 w6.heap.size) [] (inR tkC 9 1) [] [] hW6 (by kernel_rfl) trivial trivial ?_
  intro w7 hW7 _
  have r3 : ∀ {wx : World} {m : Mem}, Wst w m wx → ⟨w6.heap.size, csT tk3, true⟩ ∈ m.rows → Rt wx (.slice (some ⟨w6.heap.size, 0, none⟩) 3 3) tk3 := fun hW hm => by
    obtain ⟨tt, hrow⟩ := hW.rows _ hm
    exact Rt.of_row (l := tk3) hrow rfl (by simp [maxLen, tk3])
  refine (pop_any (r3 hW7 (by simp)) (by simp [tk3]) (hk.keep0 hW7.keep)).mono ?_
  rintro e w8 ⟨v1, rfl, f1⟩
  rw [tk_p3]
  refine ⟨_, rfl, ?_⟩
  refine go_call_is (gt := fun _ => Option.none) (unroll := false) 60 [] 30 [.int .u16 4] [5, 8, 70] [tkV w6.heap.size, .int .i64 1, tkV w6.heap.size] 71 (tkR3 w6.heap.size ++ [⟨w8.heap.size, t0.a.toList, true⟩]) [] (inR tkC 10 1) [] [] (hW7.later f1.keep) (by kernel_rfl) trivial trivial ?_
  intro w9 hW9 _
  refine (plain_any w9 4).mono ?_
  rintro e wa ⟨rfl, ka⟩
  refine ⟨_, rfl, ?_⟩
  refine go_call_is (gt := fun _ => Option.none) (unroll := false) 60 [] 26 [tkV w6.heap.size, .agg (pl 4).a] [5, 8] [tkV w6.heap.size, .int .i64 1] 72 (tkR3 w6.heap.size ++ [⟨w8.heap.size, t0.a.toList, true⟩]) [] (inR tkC 10 2) [] [] (hW9.later ka) (by kernel_rfl) trivial trivial ?_
  intro wb hWb _
  refine (push_any (r3 hWb (by simp)) (by simp [tk3]) (pl 4) (hk.keep0 hWb.keep)).mono ?_
  rintro e wc ⟨v2, rfl, f2⟩
  rw [tk_u3]
  refine ⟨_, rfl, ?_⟩
  have hWc : Wst w ⟨tkR3 w6.heap.size, wc.heap.size⟩ wc := (hWb.later f2.keep).fewer (rows := tkR3 w6.heap.size)
  refine Goal.re (tags := tagL []) (m := ⟨tkR3 w6.heap.size, wc.heap.size⟩) ?_
  refine go_call_is (gt := fun _ => Option.none) (unroll := false) 60 [] 32 [.slice (some ⟨wc.heap.size, 0, none⟩) 1 1] [5, 8, 10] [tkV w6.heap.size, .int .i64 1, .int .i64 1] 77 (tkR3 w6.heap.size ++ [⟨wc.heap.size, bvs [129], true⟩]) [] (inR tkC 11 1) [] [] hWc (by kernel_rfl) trivial trivial ?_
  intro wd hWd _
  refine (read_any (Rd.of_row (b := wc.heap.size) (off := 0) (ow := true) (cs := bvs [129]) hWd (by simp) 1 rfl (by decide) (fun i hi => by rw [Nat.zero_add]; exact bvs_get hi)) (by simp) (hk.keep0 hWd.keep)).mono ?_
  rintro e we ⟨c, dd, rfl, rr⟩
  have HC : Hd (tkR3 w6.heap.size ++ [⟨wc.heap.size, bvs [129], true⟩]) we c [] := ⟨by have := rr.rt; rwa [tk_r1] at this, rr.lv, Ap.fresh hWd rr.sv⟩
  have HD : HdB (tkR3 w6.heap.size ++ [⟨wc.heap.size, bvs [129], true⟩]) we dd [129] := ⟨by have := rr.rd; rwa [tk_r1] at this, rr.lu, Ap.fresh hWd rr.su⟩
  have hWe : Wst w ⟨tkR3 w6.heap.size, we.heap.size⟩ we := (hWd.later rr.keep).fewer (rows := tkR3 w6.heap.size)
  rw [tk_r1]
  refine ⟨_, rfl, ?_⟩
  have HC := HC.fewer
  have HD := HD.fewer
  refine Goal.re (tags := tagL []) (m := ⟨tkR3 w6.heap.size, we.heap.size⟩) ?_
  refine go_call_is (gt := fun _ => Option.none) (unroll := false) 60 [] 32 [.slice (some ⟨we.heap.size, 0, none⟩) 3 3] [5, 8, 10, 11, 12, 13] [tkV w6.heap.size, .int .i64 1, .int .i64 1, c, dd, .int .i64 0] 83 (tkR3 w6.heap.size ++ [⟨we.heap.size, bvs [129, 0, 1], true⟩]) [] (inR tkC 12 1) [] [] hWe (by kernel_rfl) trivial trivial ?_
  intro wf hWf hSf
  have HC := HC.pass [⟨we.heap.size, bvs [129, 0, 1], true⟩] hSf (fun r hr => by obtain rfl := List.mem_singleton.1 hr; exact Nat.le_refl _)
  have HD := HD.pass [⟨we.heap.size, bvs [129, 0, 1], true⟩] hSf (fun r hr => by obtain rfl := List.mem_singleton.1 hr; exact Nat.le_refl _)
  refine (read_any (Rd.of_row (b := we.heap.size) (off := 0) (ow := true) (cs := bvs [129, 0, 1]) hWf (by simp) 3 rfl (by decide) (fun i hi => by rw [Nat.zero_add]; exact bvs_get hi)) (by simp) (hk.keep0 hWf.keep)).mono ?_
  rintro e wg ⟨c2, d2, rfl, r2⟩
  have HC := (HC.call r2.keep).fewer
  have HD := (HD.call r2.keep).fewer
  have hWg : Wst w ⟨tkR3 w6.heap.size, wg.heap.size⟩ wg := (hWf.later r2.keep).fewer (rows := tkR3 w6.heap.size)
  rw [tk_r2]
  refine ⟨_, rfl, ?_⟩
  refine Goal.re (tags := tagL []) (m := ⟨tkR3 w6.heap.size, wg.heap.size⟩) ?_
  refine go_call_is (gt := fun _ => Option.none) (unroll := false) 60 [] 32 [.slice (some ⟨wg.heap.size, 0, none⟩) 8 8] [5, 8, 10, 11, 12, 13, 16] [tkV w6.heap.size, .int .i64 1, .int .i64 1, c, dd, .int .i64 0, .int .i64 4] 89 (tkR3 w6.heap.size ++ [⟨wg.heap.size, bvs tkB, true⟩]) [] (inR tkC 13 1) [] [] hWg (by kernel_rfl) trivial trivial ?_
  intro wh hWh hSh
  have HC := HC.pass [⟨wg.heap.size, bvs tkB, true⟩] hSh (fun r hr => by obtain rfl := List.mem_singleton.1 hr; exact Nat.le_refl _)
  have HD := HD.pass [⟨wg.heap.size, bvs tkB, true⟩] hSh (fun r hr => by obtain rfl := List.mem_singleton.1 hr; exact Nat.le_refl _)
  refine (read_any (Rd.of_row (b := wg.heap.size) (off := 0) (ow := true) (cs := bvs tkB) hWh (by simp) 8 rfl (by decide) (fun i hi => by rw [Nat.zero_add]; exact bvs_get hi)) (by simp [tkB]) (hk.keep0 hWh.keep)).mono ?_
  rintro e wi ⟨g, u, rfl, r4⟩
  have HG : Hd (tkR3 w6.heap.size ++ [⟨wg.heap.size, bvs tkB, true⟩]) wi g [tkG] := ⟨by have := r4.rt; rwa [tk_r3] at this, r4.lv, Ap.fresh hWh r4.sv⟩
  have HU : HdB (tkR3 w6.heap.size ++ [⟨wg.heap.size, bvs tkB, true⟩]) wi u [136, 168, 0, 1] := ⟨by have := r4.rd; rwa [tk_r3] at this, r4.lu, Ap.fresh hWh r4.su⟩
  have HC := (HC.call r4.keep).fewer
  have HD := (HD.call r4.keep).fewer
  have HG := HG.fewer
  have HU := HU.fewer
  have hWi : Wst w ⟨tkR3 w6.heap.size, wi.heap.size⟩ wi := (hWh.later r4.keep).fewer (rows := tkR3 w6.heap.size)
  rw [tk_r3]
  refine ⟨_, rfl, ?_⟩
  refine Goal.re (tags := tagL []) (m := ⟨tkR3 w6.heap.size, wi.heap.size⟩) ?_
  refine go_call_is (gt := fun _ => Option.none) (unroll := false) 60 [] 22 [tkV w6.heap.size] [8, 10, 11, 12, 13, 16, 17, 18, 19] [.int .i64 1, .int .i64 1, c, dd, .int .i64 0, .int .i64 4, g, u, .int .i64 0] 94 (tkR3 w6.heap.size) [] (inR tkC 14 1) [] [] hWi (by kernel_rfl) trivial trivial ?_
  intro wj hWj hSj
  have HC := HC.pass0 hSj
  have HD := HD.pass0 hSj
  have HG := HG.pass0 hSj
  have HU := HU.pass0 hSj
  refine (may_any (r3 hWj (by simp)) (hk.keep0 hWj.keep)).mono ?_
  rintro e wk ⟨rfl, kk⟩
  have HC := HC.call kk
  have HD := HD.call kk
  have HG := HG.call kk
  have HU := HU.call kk
  rw [tk_m3]
  refine ⟨_, rfl, ?_⟩
  refine go_call_is (gt := fun _ => Option.none) (unroll := false) 100 [(14, 17, .sem (.int .i64 0))] 33 [dd, .slice (some ⟨wk.heap.size, 0, none⟩) 1 1] [16, 17, 18, 19, 113] [.int .i64 4, g, u, .int .i64 0, .bool true] 116 (tkR3 w6.heap.size ++ [⟨wk.heap.size, bvs [129], true⟩]) [] (inR tkC 14 23) []
    [(Builtin.len_ #[24] 3 #[c], .int .i64 0)] (hWj.later kk) (by kernel_rfl) trivial ⟨fun wx _ => HC.rt.sem_len ett (ty := 3) wx, trivial⟩ ?_
  intro wl hWl hSl
  have HD := HD.pass [⟨wk.heap.size, bvs [129], true⟩] hSl (fun r hr => by obtain rfl := List.mem_singleton.1 hr; exact Nat.le_refl _)
  have HG := HG.pass [⟨wk.heap.size, bvs [129], true⟩] hSl (fun r hr => by obtain rfl := List.mem_singleton.1 hr; exact Nat.le_refl _)
  have HU := HU.pass [⟨wk.heap.size, bvs [129], true⟩] hSl (fun r hr => by obtain rfl := List.mem_singleton.1 hr; exact Nat.le_refl _)
  refine (bequal_any HD.rd (Rd.of_row (b := wk.heap.size) (off := 0) (ow := true) (cs := bvs [129]) hWl (by simp) 1 rfl (by decide) (fun i hi => by rw [Nat.zero_add]; exact bvs_get hi))).mono ?_
  rintro e wm ⟨rfl, rfl⟩
  refine ⟨_, rfl, ?_⟩
  simp only [BEq.rfl]
  refine go_call_is (gt := fun _ => Option.none) (unroll := false) 100 [(14, 35, .sem (.int .i64 1)), (14, 40, .sem (.pointer (some (adt g 0)))), (14, 41, .sem (.agg tkG.a)), (14, 43, .sem (.bool true)), (14, 47, .sem (.int .i64 4))] 30 [.int .u16 9] [143] [.bool true] 144 (tkR3 w6.heap.size ++ [⟨wk.heap.size, bvs [129], true⟩]) [] (inR tkC 14 51) []
    [(Builtin.len_ #[24] 3 #[g], .int .i64 1), (Instr.indexAt 24 g (.int .i64 0), .pointer (some (adt g 0))), (Instr.loadAt 57 (.pointer (some (adt g 0))), .agg tkG.a), ((do eqGuard .eql 57 (.tmp 134) (.tmp 135) (.agg tkG.a) (.agg tkG.a); binOp .eql 57 (.agg tkG.a) (.agg tkG.a) : Sem Value), .bool true), (Builtin.len_ #[26] 3 #[u], .int .i64 4)]
    hWl (by kernel_rfl) trivial ⟨fun wx _ => HG.rt.sem_len ett (ty := 3) wx, fun wx _ => HG.rt.sem_at ett (i := 0) (by simp) wx, fun wx hx => HG.semld ett (i := 0) (by simp) wx hx, fun wx _ => eeq_tg wx _ _ tkG, fun wx _ => HU.rd.run_len (ty := 3) bt.sl, trivial⟩ ?_
  intro wn hWn _
  refine (plain_any wn 9).mono ?_
  rintro e wo ⟨rfl, ko⟩
  refine ⟨_, rfl, ?_⟩
  refine go_call_is (gt := fun _ => Option.none) (unroll := false) 100 [(14, 53, .sem (.bool true))] 34 [] [148] [.bool true] 149 (tkR3 w6.heap.size ++ [⟨wk.heap.size, bvs [129], true⟩]) [] (inR tkC 14 56) []
    [((do eqGuard .eql 57 (.tmp 144) (.tmp 145) (.agg (pl 9).a) (.agg (pl 9).a); binOp .eql 57 (.agg (pl 9).a) (.agg (pl 9).a) : Sem Value), .bool true)] (hWn.later ko) (by kernel_rfl) trivial ⟨fun wx _ => eeq_tg wx _ _ (pl 9), trivial⟩ ?_
  intro wp hWp _
  refine (wakes3_any wp (hk.keep0 hWp.keep)).mono ?_
  rintro e wq ⟨rfl, kq⟩
  refine ⟨_, rfl, ?_⟩
  exact go_ret (gt := fun _ => Option.none) (unroll := false) 60 [] [.tmp 0] (.bool true) [] [] (hWp.later kq) Tryd.results6 (by kernel_rfl) trivial trivial (fun w9 hW9 _ => ⟨rfl, hW9.keep⟩)
end Go.Proofs.YtcimfojbggckhaaDoor
namespace Go.Proofs.YtcimfojbggckhaaDoor
open Go.RowKit

/-- Bytes that can be read and lie in blocks from N on. -/
def fbS (N : Nat) (l : List UInt8) : Sv := .such (fun w x => Rd w x l ∧ Since N x ∧ Under w.heap.size x) (fun _ _ _ k h => ⟨h.1.keep0 k, h.2.1, h.2.2.mono k.size⟩)
/-- A slice without room behind it. -/
def Fu (w : World) (v : Value) (bs : List UInt8) : Prop := ∃ b o, v = .slice (some ⟨b, o, none⟩) bs.length bs.length ∧ Rd w v bs ∧ b < w.heap.size
theorem Fu.keep0 {w w' : World} {v : Value} {bs : List UInt8} (h : Fu w v bs) (k : Keep No w w') : Fu w' v bs := by
  obtain ⟨b, o, h1, h2, h3⟩ := h
  exact ⟨b, o, h1, h2.keep0 k, Nat.lt_of_lt_of_le h3 k.size⟩
def fuS (N : Nat) (l : List UInt8) : Sv := .such (fun w x => Fu w x l ∧ Since N x) (fun _ _ _ k h => ⟨h.1.keep0 k, h.2⟩)
def slsS (ls : List (List UInt8)) : Sv := .such (fun w x => ∃ us, Sls w x us ls) (fun _ _ _ k h => by obtain ⟨us, h⟩ := h; exact ⟨us, h.keep0 k⟩)
section
variable {P : Program} {w w0 : World} {v s : Value} {bs ys : List UInt8} {t e : TypeId}
/-- 'append' onto a slice without room. -/
theorem run_append_fb (T : BT P t e) (hu : Fu w v bs) (r : Rd w s ys) (hn : bs.length + ys.length ≤ 140737488351232) :
    ∃ v' w', (∀ ty, (Builtin.append_ #[t, t] ty #[v, s]).run P w = .ok v' w') ∧ Rd w' v' (bs ++ ys) ∧ Keep No w w' ∧ (∀ k, v'.ownBlock = some k → v.ownBlock = some k ∨ w.heap.size ≤ k) ∧ Under w'.heap.size v' := by
  obtain ⟨i, hi, hz1, hz2, hz3⟩ := T.info
  obtain ⟨b, off, rfl, hu, hb⟩ := hu
  have hub : Under w.heap.size (.slice (some ⟨b, off, none⟩) bs.length bs.length) := fun b' h => by
    obtain rfl : b = b' := by simpa [Value.ownBlock] using h
    exact hb
  cases hnil : isNil s with
  | true =>
    obtain ⟨rfl, rfl⟩ := r.of_nil hnil
    refine ⟨_, w, fun ty => ?_, by simpa using hu, Keep.refl _ _, fun k h => .inl h, hub⟩
    simp [Builtin.append_, run_underlying T.sl, sizeOf, typeInfo, hi, Builtin.lenOf, Builtin.firstCells, storeCells]
  | false =>
    obtain ⟨a, cap, rfl⟩ := r.of_not_nil hnil
    have hnews : ∀ j u, (bvs ys)[j]? = some u → w.cell? (a.add j) = some u := fun j u hj => by
      by_cases hjl : j < ys.length
      · obtain ⟨b', o', hbo⟩ := r.addr (by omega)
        cases hbo
        rw [bvs_get hjl] at hj
        cases hj
        have := r.cell j hjl
        simpa [blk, offs, Addr_add_mk] using this
      · rw [List.getElem?_eq_none (by simpa [bvs_length] using hjl)] at hj; cases hj
    rcases Nat.eq_zero_or_pos ys.length with hy | hy
    · have hy' : ys = [] := List.length_eq_zero_iff.1 hy
      subst hy'
      refine ⟨_, w, fun ty => ?_, by simpa using hu, Keep.refl _ _, fun k h => .inl h, hub⟩
      have := run_append_room_cells (P := P) w t ty e i T.sl hi b off bs.length bs.length a 0 cap [] (by simp) (by simp) (by simp) (by omega) (by simp) (by simp)
      simpa [World.setCells] using this
    · have key := fun ty => run_append_arg_grows (P := P) w t ty e i (.int .u8 0) 1 1 T.sl hi hz3 hz1 hz2 rfl (by decide) ⟨b, off, none⟩ bs.length bs.length (bvs bs) (by simp [bvs_length])
        (fun j u hj => by
          by_cases hjl : j < bs.length
          · have := hu.cell j hjl
            rw [bvs_get hjl] at hj
            cases hj
            simpa [blk, offs, Addr_add_mk] using this
          · rw [List.getElem?_eq_none (by simpa [bvs_length] using hjl)] at hj; cases hj)
        a ys.length cap (bvs ys) (by simp [bvs_length]) hnews (by omega) (by simp only [maxLen]; omega) (by omega)
      obtain ⟨v', w', hr, h2, h3⟩ := key 0
      have ho : Own e w' v' (bs ++ ys) := by
        obtain ⟨q1, q2⟩ := h2
        unfold Own
        rw [List.length_append, bvs_append]
        refine ⟨q1, ?_⟩
        rcases q2 with q2 | ⟨g, cp, cur, e1, e2, e3, e4⟩
        · exact .inl q2
        · exact .inr ⟨g, cp, cur, e1, Nat.zero_le _, e3, e4⟩
      refine ⟨v', w', fun ty => hr, ho.rd, ⟨h3.os, h3.tape, h3.output, h3.size, fun k hk hn => h3.block k hk (fun e => by cases e)⟩, fun k hk => ?_, ho.lt⟩
      obtain ⟨q1, q2⟩ := h2
      rcases q2 with ⟨_, q2⟩ | ⟨g, cp, cur, e1, e2, e3, e4, e5, e6, e7⟩
      · omega
      · rw [e1] at hk
        obtain rfl : g = k := by simpa [Value.ownBlock] using hk
        exact .inr e2
/-- The same within a region. -/
theorem by_app {N : Nat} (T : BT P t e) {x y : Tmp} {ty : TypeId} {sx sy : Sv} (hN : N ≤ w0.heap.size) (hx : ∀ w v, Keep No w0 w → sx.ok w v → Fu w v bs ∧ Since N v) (hy : ∀ w v, Keep No w0 w → sy.ok w v → Rd w v ys) (hn : bs.length + ys.length ≤ 140737488351232) :
    ByOb P w0 (.call { callee := .builtin .append, args := #[.tmp x, .tmp y], argTypes := #[t, t] }) ty [(x, sx), (y, sy)] (fbS N (bs ++ ys)) := by
  intro a o w ho hty hk hr
  obtain ⟨h1, h2⟩ := hx w _ hk (hr (x, sx) (by simp))
  have h3 := hy w _ hk (hr (y, sy) (by simp))
  obtain ⟨v', w', hrun, hrd, k', hbl, hun⟩ := run_append_fb T h1 h3 hn
  have he : (execOp a.eval o).run P w = .ok (.value v') w' := by
    unfold execOp
    simp only [ho, resolve, invoke, builtin, Sem.run_bind, Sem.run_pure, Result.andThen_ok, List.map_toArray, List.map_cons, List.map_nil]
    rw [show a.eval (.tmp x) = a.tmps.getD x undef from rfl, show a.eval (.tmp y) = a.tmps.getD y undef from rfl, hrun]
    rfl
  rw [he]
  refine ⟨k', hrd, fun k hk' => ?_, hun⟩
  rcases hbl k hk' with h | h
  · exact h2 k h
  · exact Nat.le_trans hN (Nat.le_trans hk.size h)
theorem by_mv {x : Tmp} {ty : TypeId} {s : Sv} : ByOb P w0 (.assign (.tmp x)) ty [(x, s)] s := by
  intro a o w ho hty k hr
  have h := hr (x, s) (by simp)
  unfold execOp
  rw [ho]
  exact ⟨Keep.refl _ _, h⟩
theorem by_move {x : Tmp} {ty : TypeId} {s : Sv} : ByOb P w0 (.move (.tmp x)) ty [(x, s)] s := by
  intro a o w ho hty k hr
  have h := hr (x, s) (by simp)
  unfold execOp
  rw [ho]
  exact ⟨Keep.refl _ _, h⟩
end
/-! ### slices of bytes, built in a region -/
section
variable {w0 : World}
theorem sls_row {W0 w : World} {m : Mem} {b : Nat} {us : List Value} {ls : List (List UInt8)} (hW : Wst W0 m w) (hr : ⟨b, us, true⟩ ∈ m.rows) (hl : us.length = ls.length) (hm : us.length ≤ maxLen) (hrd : ∀ i, i < us.length → Rd w (us.getD i undef) (ls.getD i [])) : Sls w (.slice (some ⟨b, 0, none⟩) us.length us.length) us ls := by
  obtain ⟨t, ht⟩ := hW.rows _ hr
  refine ⟨⟨⟨_, us.length, rfl, Nat.le_refl _, hm, by simp, fun _ => ⟨b, 0, rfl⟩⟩, fun i hi => ?_⟩, hl, hrd⟩
  simp only [blk, offs, Nat.zero_add, World.cell?, ht]
  have hi' : i < us.length := by omega
  simp [hi']
theorem by_sls3 {x y z : Tmp} {ty : TypeId} {s1 s2 s3 : Sv} {l1 l2 l3 : List UInt8} (h1 : ∀ w v, Keep No w0 w → s1.ok w v → Rd w v l1) (h2 : ∀ w v, Keep No w0 w → s2.ok w v → Rd w v l2) (h3 : ∀ w v, Keep No w0 w → s3.ok w v → Rd w v l3) :
    ByOb Tryd.prog w0 (.buildSlice 103 3 #[(0, .tmp x), (1, .tmp y), (2, .tmp z)]) ty [(x, s1), (y, s2), (z, s3)] (slsS [l1, l2, l3]) := by
  intro a o w ho _ k hr
  have r1 := h1 w _ k (hr (x, s1) (by simp))
  have r2 := h2 w _ k (hr (y, s2) (by simp))
  have r3 := h3 w _ k (hr (z, s3) (by simp))
  obtain ⟨o1, n1, c1, e1⟩ := r1.form
  obtain ⟨o2, n2, c2, e2⟩ := r2.form
  obtain ⟨o3, n3, c3, e3⟩ := r3.form
  simp only at e1 e2 e3
  have hq : ∀ nx, gRun Tryd.prog Option.none (Instr.buildSlice 103 3 #[(0, .slice o1 n1 c1), (1, .slice o2 n2 c2), (2, .slice o3 n3 c3)]) ⟨[], nx⟩ = some (.slice (some ⟨nx, 0, none⟩) 3 3, ⟨[⟨nx, [.slice o1 n1 c1, .slice o2 n2 c2, .slice o3 n3 c3], true⟩], nx + 1⟩, []) := fun nx => by kernel_rfl
  obtain ⟨w', g1, g2, g3⟩ := gRun_ok (Wst.start0 w) (hq w.heap.size) (fun _ h => nomatch h)
  have hs : semNew a.eval o = some (Instr.buildSlice 103 3 #[(0, .slice o1 n1 c1), (1, .slice o2 n2 c2), (2, .slice o3 n3 c3)]) := by
    unfold semNew
    rw [ho]
    simp only [List.map_toArray, List.map_cons, List.map_nil, Act.eval, e1, e2, e3]
  rw [semNew_run hs g1]
  rw [e1] at r1
  rw [e2] at r2
  rw [e3] at r3
  refine ⟨g2.keep, [.slice o1 n1 c1, .slice o2 n2 c2, .slice o3 n3 c3], sls_row (us := [.slice o1 n1 c1, .slice o2 n2 c2, .slice o3 n3 c3]) g2 (by simp) rfl (by simp [maxLen]) fun i hi => ?_⟩
  match i, hi with
  | 0, _ => exact r1.keep0 g2.keep
  | 1, _ => exact r2.keep0 g2.keep
  | 2, _ => exact r3.keep0 g2.keep
theorem by_sls4 {x y z u : Tmp} {ty : TypeId} {s1 s2 s3 s4 : Sv} {l1 l2 l3 l4 : List UInt8} (h1 : ∀ w v, Keep No w0 w → s1.ok w v → Rd w v l1) (h2 : ∀ w v, Keep No w0 w → s2.ok w v → Rd w v l2) (h3 : ∀ w v, Keep No w0 w → s3.ok w v → Rd w v l3) (h4 : ∀ w v, Keep No w0 w → s4.ok w v → Rd w v l4) :
    ByOb Tryd.prog w0 (.buildSlice 103 4 #[(0, .tmp x), (1, .tmp y), (2, .tmp z), (3, .tmp u)]) ty [(x, s1), (y, s2), (z, s3), (u, s4)] (slsS [l1, l2, l3, l4]) := by
  intro a o w ho _ k hr
  have r1 := h1 w _ k (hr (x, s1) (by simp))
  have r2 := h2 w _ k (hr (y, s2) (by simp))
  have r3 := h3 w _ k (hr (z, s3) (by simp))
  have r4 := h4 w _ k (hr (u, s4) (by simp))
  obtain ⟨o1, n1, c1, e1⟩ := r1.form
  obtain ⟨o2, n2, c2, e2⟩ := r2.form
  obtain ⟨o3, n3, c3, e3⟩ := r3.form
  obtain ⟨o4, n4, c4, e4⟩ := r4.form
  simp only at e1 e2 e3 e4
  have hq : ∀ nx, gRun Tryd.prog Option.none (Instr.buildSlice 103 4 #[(0, .slice o1 n1 c1), (1, .slice o2 n2 c2), (2, .slice o3 n3 c3), (3, .slice o4 n4 c4)]) ⟨[], nx⟩ = some (.slice (some ⟨nx, 0, none⟩) 4 4, ⟨[⟨nx, [.slice o1 n1 c1, .slice o2 n2 c2, .slice o3 n3 c3, .slice o4 n4 c4], true⟩], nx + 1⟩, []) := fun nx => by kernel_rfl
  obtain ⟨w', g1, g2, g3⟩ := gRun_ok (Wst.start0 w) (hq w.heap.size) (fun _ h => nomatch h)
  have hs : semNew a.eval o = some (Instr.buildSlice 103 4 #[(0, .slice o1 n1 c1), (1, .slice o2 n2 c2), (2, .slice o3 n3 c3), (3, .slice o4 n4 c4)]) := by
    unfold semNew
    rw [ho]
    simp only [List.map_toArray, List.map_cons, List.map_nil, Act.eval, e1, e2, e3, e4]
  rw [semNew_run hs g1]
  rw [e1] at r1
  rw [e2] at r2
  rw [e3] at r3
  rw [e4] at r4
  refine ⟨g2.keep, [.slice o1 n1 c1, .slice o2 n2 c2, .slice o3 n3 c3, .slice o4 n4 c4], sls_row (us := [.slice o1 n1 c1, .slice o2 n2 c2, .slice o3 n3 c3, .slice o4 n4 c4]) g2 (by simp) rfl (by simp [maxLen]) fun i hi => ?_⟩
  match i, hi with
  | 0, _ => exact r1.keep0 g2.keep
  | 1, _ => exact r2.keep0 g2.keep
  | 2, _ => exact r3.keep0 g2.keep
  | 3, _ => exact r4.keep0 g2.keep
theorem Fresh.fb {w w' : World} {bs : List UInt8} {v : Value} (h : Fresh w bs v w') {N : Nat} (hN : N ≤ w.heap.size) : (fbS N bs).ok w' v := ⟨h.own.rd, h.since.mono hN, h.own.lt⟩
theorem concat_ob {N : Nat} {ls : List (List UInt8)} (hN : N ≤ w0.heap.size) (hn : ls.length ≤ 1000) (hl : ls.flatten.length ≤ 1099511627776) : CallOb Tryd.prog w0 45 [slsS ls] (fbS N ls.flatten) := by
  rintro w vals k ha
  obtain ⟨x, rfl, us, h1⟩ := allOk1 ha
  exact (concat_any h1 hn hl).mono fun e w' ⟨v, h1, h2⟩ => ⟨v, h1, h2.keep, h2.fb (Nat.le_trans hN k.size)⟩
end
/-! ### words -/
theorem m_lo (n : Nat) : IntKind.u8.wrap (n : Int) = ((UInt8.ofNat n).toNat : Int) := by
  rw [byte_lo, IntKind.wrap_u8]
theorem m_hi (v : Nat) : IntKind.u8.wrap (Int.fdiv (v : Int) (2 ^ 8)) = ((UInt8.ofNat (v / 256)).toNat : Int) := by
  rw [← m_lo, show ((2 : Int) ^ 8) = ((256 : Nat) : Int) by decide, Int.fdiv_eq_ediv_of_nonneg _ (by omega)]
  rfl
abbrev bY (n : Nat) : Value := bv (UInt8.ofNat n)
section
variable {w : World}
theorem words_any (n : Nat) : Calls Tryd.prog 43 #[.int .i64 (n : Int)] w fun x w' => ∃ v, x = .returned v ∧ Fu w' v (bytes2 n) ∧ Keep No w w' ∧ Since w.heap.size v := by
  refine enter (args := [.int .i64 (n : Int)]) Tryd.func43 (by kernel_rfl) ?_
  refine go_retM (gt := fun _ => Option.none) (unroll := false) 60 [(1, 2, .is (bY (n / 256))), (1, 4, .is (bY n))] [.tmp 2] (.slice (some ⟨w.heap.size, 0, none⟩) 2 2) [⟨w.heap.size, [bY (n / 256), bY n], true⟩] [(.int .u8 (IntKind.u8.wrap (Int.fdiv (n : Int) (2 ^ 8))), bY (n / 256)), (.int .u8 (IntKind.u8.wrap (n : Int)), bY n)] [] (Wst.start0 w) Tryd.results43 (by kernel_rfl) (by kernel_rfl)
    ⟨congrArg (Value.int .u8) (m_hi n), congrArg (Value.int .u8) (m_lo n), trivial⟩ trivial ?_
  intro w1 hW1 _
  refine ⟨_, rfl, ⟨w.heap.size, 0, rfl, Rd.of_row (cs := bvs (bytes2 n)) (ow := true) hW1 (by simp [bvs, bytes2]) 2 rfl (by simp [maxLen]) (fun i hi => by rw [Nat.zero_add]; exact bvs_get hi), ?_⟩, hW1.keep, fun b hb => ?_⟩
  · obtain ⟨t, ht⟩ := hW1.rows _ (List.mem_singleton.2 rfl)
    exact block_of_row ht
  · obtain rfl : w.heap.size = b := Option.some.inj hb
    exact Nat.le_refl _
end
end Go.Proofs.YtcimfojbggckhaaDoor
namespace Go.Proofs.YtcimfojbggckhaaDoor
open Go.RowKit

def arr3 (l : List UInt8) : List UInt8 := [byteAt l 0, byteAt l 1, byteAt l 2]
def arr6 (l : List UInt8) : List UInt8 := [byteAt l 0, byteAt l 1, byteAt l 2, byteAt l 3, byteAt l 4, byteAt l 5]
/-- What a length counts. -/
def cntR (c : Fi) : List UInt8 := if c.kind = 3 then arr3 c.llc ++ arr3 c.oui ++ bytes2 c.typ.toNat ++ c.body else arr3 c.llc ++ c.body
theorem fb_seg {N : Nat} {l : List UInt8} {w w' : World} {v : Value} {m' : Mem} {W0 : World} (h : (fbS N l).ok w v) (hS : Seg ⟨[], w.heap.size⟩ w m' w') (hW : Wst W0 m' w') : (fbS N l).ok w' v := by
  obtain ⟨h1, h2, h3⟩ : Rd w v l ∧ Since N v ∧ Under w.heap.size v := h
  exact ⟨h1.safe (m := ⟨[], w.heap.size⟩) (fun b hb => ⟨h3 b hb, fun _ h => nomatch h⟩) hS.same, h2, fun b hb => by rw [hW.size]; exact Nat.lt_of_lt_of_le (h3 b hb) hS.le⟩
noncomputable abbrev cnC : Code := bodyOf Tryd.f44
abbrev nbQ (w : World) (l : List UInt8) : Ending → World → Prop := fun x w' => ∃ v, x = .returned v ∧ Keep No w w' ∧ (fbS w.heap.size l).ok w' v
section
variable {w : World} {c : Fi} {F : Fr} {to bo ro : Option Addr} {tn tc bn bc rn rc : Nat}
theorem counted_any (hF : fiCells c to tn tc bo bn bc ro rn rc = F) (rb : Rd w (.slice bo bn bc) c.body) (hb : c.body.length ≤ 1099511627000) (ht : c.kind = 3 → 0 ≤ c.typ) : Calls Tryd.prog 44 #[.agg F.a] w (nbQ w (cntR c)) := by
  refine enter (args := [.agg F.a]) Tryd.func44 (by kernel_rfl) ?_
  by_cases hk : c.kind = 3
  · obtain ⟨n, hn⟩ := Int.eq_ofNat_of_zero_le (ht hk)
    have ec : cntR c = [arr3 c.llc, arr3 c.oui, bytes2 n, c.body].flatten := by
      unfold cntR
      rw [if_pos hk, hn]
      simp
    rw [ec]
    refine go_stop (gt := fun _ => Option.none) (unroll := false) 60 [(1, 2, .is (.bool true))] [1] [pT w.heap.size] [⟨w.heap.size, F.a.toList, true⟩] [(1, 0)] (atR cnC 2) [(.bool (c.kind == 3), .bool true)] [] (Wst.start0 w) (by subst hF; kernel_rfl) ⟨congrArg Value.bool (by simpa using hk), trivial⟩ trivial ?_
    intro w1 hW1 _
    have rb1 : ∀ wx, Keep No w1 wx → Rd wx (.slice bo bn bc) c.body := fun wx k => rb.keep0 (hW1.keep.trans k)
    have rl : Rd w1 (.slice (some ⟨w.heap.size, 15, none⟩) 3 3) (arr3 c.llc) := Rd.of_row (cs := F.a.toList) (ow := true) hW1 (by simp) 3 rfl (by simp [maxLen]) (fun i hi => by
      have : i = 0 ∨ i = 1 ∨ i = 2 := by simp [arr3] at hi; omega
      subst hF
      rcases this with rfl | rfl | rfl <;> rfl)
    have rz : Rd w1 (.slice (some ⟨w.heap.size, 18, none⟩) 3 3) (arr3 c.oui) := Rd.of_row (cs := F.a.toList) (ow := true) hW1 (by simp) 3 rfl (by simp [maxLen]) (fun i hi => by
      have : i = 0 ∨ i = 1 ∨ i = 2 := by simp [arr3] at hi; omega
      subst hF
      rcases this with rfl | rfl | rfl <;> rfl)
    have hs1 := hW1.keep.size
    refine drawn_ok (gt := fun _ => Option.none) [(6, .call (fuS w.heap.size (bytes2 n))), (9, .by (slsS [arr3 c.llc, arr3 c.oui, bytes2 n, c.body])), (10, .call (fbS w.heap.size [arr3 c.llc, arr3 c.oui, bytes2 n, c.body].flatten)), (11, .by (fbS w.heap.size [arr3 c.llc, arr3 c.oui, bytes2 n, c.body].flatten))]
      [2] [fbS w.heap.size [arr3 c.llc, arr3 c.oui, bytes2 n, c.body].flatten] [] [(43, [.is (.int .i64 c.typ)], fuS w.heap.size (bytes2 n)), (45, [slsS [arr3 c.llc, arr3 c.oui, bytes2 n, c.body]], fbS w.heap.size [arr3 c.llc, arr3 c.oui, bytes2 n, c.body].flatten)] []
      [(.buildSlice 103 4 #[(0, .tmp 7), (1, .tmp 9), (2, .tmp 12), (3, .tmp 14)], 103, [(7, .is (.slice (some ⟨w.heap.size, 15, none⟩) 3 3)), (9, .is (.slice (some ⟨w.heap.size, 18, none⟩) 3 3)), (12, fuS w.heap.size (bytes2 n)), (14, .is (.slice bo bn bc))], slsS [arr3 c.llc, arr3 c.oui, bytes2 n, c.body]),
       (.assign (.tmp 16), 26, [(16, fbS w.heap.size [arr3 c.llc, arr3 c.oui, bytes2 n, c.body].flatten)], fbS w.heap.size [arr3 c.llc, arr3 c.oui, bytes2 n, c.body].flatten)] []
      hW1 (by subst hF; kernel_rfl) (by subst hF; kernel_rfl) trivial ⟨?_, concat_ob hs1 (by simp) (by simp [arr3, bytes2]; omega), trivial⟩ trivial
      ⟨by_sls4 (fun wx v k h => by obtain rfl : v = _ := h; exact rl.keep0 k) (fun wx v k h => by obtain rfl : v = _ := h; exact rz.keep0 k) (fun wx v k h => by obtain ⟨⟨b, o, _, h, _⟩, _⟩ : Fu wx v (bytes2 n) ∧ Since w.heap.size v := h; exact h) (fun wx v k h => by obtain rfl : v = _ := h; exact rb1 wx k), by_mv, trivial⟩ trivial ?_
    · rintro wx vals k ha
      obtain ⟨x, rfl, h1⟩ := allOk1 ha
      obtain rfl : x = .int .i64 c.typ := h1
      rw [hn]
      exact (words_any (w := wx) n).mono fun e w' ⟨v, h1, h2, h3, h4⟩ => ⟨v, h1, h3, h2, h4.mono (Nat.le_trans hs1 k.size)⟩
    intro w2 vs k2 hok
    obtain ⟨x, rfl, hx⟩ := allOk1 hok
    have hW2 : Wst w ⟨[], w2.heap.size⟩ w2 := (hW1.later k2).fewer (rows := [])
    refine Goal.re (tags := tagL []) (m := ⟨[], w2.heap.size⟩) ?_
    exact go_ret (gt := fun _ => Option.none) (unroll := false) 60 [] [.tmp 2] x [] [] hW2 Tryd.results44 (by kernel_rfl) trivial trivial (fun w9 hW9 hS9 => ⟨_, rfl, hW9.keep, fb_seg hx hS9 hW9⟩)
  · have ec : cntR c = arr3 c.llc ++ c.body := if_neg hk
    rw [ec]
    refine go_stop (gt := fun _ => Option.none) (unroll := false) 60 [(1, 2, .is (.bool false))] [1] [pT w.heap.size] [⟨w.heap.size, F.a.toList, true⟩] [(1, 0)] (atR cnC 3) [(.bool (c.kind == 3), .bool false)] [] (Wst.start0 w) (by subst hF; kernel_rfl) ⟨congrArg Value.bool (by simpa using hk), trivial⟩ trivial ?_
    intro w1 hW1 _
    have rb1 : ∀ wx, Keep No w1 wx → Rd wx (.slice bo bn bc) c.body := fun wx k => rb.keep0 (hW1.keep.trans k)
    have rl : Rd w1 (.slice (some ⟨w.heap.size, 15, none⟩) 3 3) (arr3 c.llc) := Rd.of_row (cs := F.a.toList) (ow := true) hW1 (by simp) 3 rfl (by simp [maxLen]) (fun i hi => by
      have : i = 0 ∨ i = 1 ∨ i = 2 := by simp [arr3] at hi; omega
      subst hF
      rcases this with rfl | rfl | rfl <;> rfl)
    have hlt : w.heap.size < w1.heap.size := by
      obtain ⟨t, ht⟩ := hW1.rows _ (List.mem_singleton.2 rfl)
      exact block_of_row ht
    have fu : Fu w1 (.slice (some ⟨w.heap.size, 15, none⟩) 3 3) (arr3 c.llc) := ⟨_, _, rfl, rl, hlt⟩
    have hs1 := hW1.keep.size
    refine drawn_ok (gt := fun _ => Option.none) [(4, .by (fbS w.heap.size (arr3 c.llc ++ c.body))), (5, .by (fbS w.heap.size (arr3 c.llc ++ c.body)))]
      [2] [fbS w.heap.size (arr3 c.llc ++ c.body)] [] [] []
      [(.call { callee := .builtin .append, args := #[.tmp 18, .tmp 20], argTypes := #[26, 26] }, 26, [(18, .is (.slice (some ⟨w.heap.size, 15, none⟩) 3 3)), (20, .is (.slice bo bn bc))], fbS w.heap.size (arr3 c.llc ++ c.body)),
       (.assign (.tmp 21), 26, [(21, fbS w.heap.size (arr3 c.llc ++ c.body))], fbS w.heap.size (arr3 c.llc ++ c.body))] []
      hW1 (by subst hF; kernel_rfl) (by subst hF; kernel_rfl) trivial trivial trivial
      ⟨by_app bt hs1 (fun wx v k h => by obtain rfl : v = _ := h; exact ⟨fu.keep0 k, fun b hb => by obtain rfl : w.heap.size = b := Option.some.inj hb; exact Nat.le_refl _⟩) (fun wx v k h => by obtain rfl : v = _ := h; exact rb1 wx k) (by simp [arr3]; omega), by_mv, trivial⟩ trivial ?_
    intro w2 vs k2 hok
    obtain ⟨x, rfl, hx⟩ := allOk1 hok
    have hW2 : Wst w ⟨[], w2.heap.size⟩ w2 := (hW1.later k2).fewer (rows := [])
    refine Goal.re (tags := tagL []) (m := ⟨[], w2.heap.size⟩) ?_
    exact go_ret (gt := fun _ => Option.none) (unroll := false) 60 [] [.tmp 2] x [] [] hW2 Tryd.results44 (by kernel_rfl) trivial trivial (fun w9 hW9 hS9 => ⟨_, rfl, hW9.keep, fb_seg hx hS9 hW9⟩)
/-! ### With -/
noncomputable abbrev wiC : Code := bodyOf Tryd.f21
def withR (d s : List UInt8) (l : List Tg) (bs : List UInt8) : List UInt8 := arr6 d ++ (arr6 s ++ (bytesB l ++ bs))
theorem bytesB_le (l : List Tg) : (bytesB l).length ≤ 4 * l.length := by
  unfold bytesB
  split
  · rw [bytesL_len]; exact Nat.le_refl _
  · simp
theorem with_any (d s : List UInt8) {vt vb : Value} {l : List Tg} {bs : List UInt8} (rt : Rt w vt l) (hl : l.length ≤ 1000000) (rb : Rd w vb bs) (hb : bs.length ≤ 1099000000000) (hk : Kh w) : Calls Tryd.prog 21 #[a6 d, a6 s, vt, vb] w (nbQ w (withR d s l bs)) := by
  have ew : withR d s l bs = [arr6 d, arr6 s, bytesB l, bs].flatten := by simp [withR]
  have hBl := bytesB_le l
  rw [ew]
  refine enter (args := [a6 d, a6 s, vt, vb]) Tryd.func21 (by kernel_rfl) ?_
  refine go_stop (gt := fun _ => Option.none) (unroll := false) 60 [] [2, 3, 4, 5] [vt, vb, pT w.heap.size, pT (w.heap.size + 1)] [⟨w.heap.size, bvs (arr6 d), true⟩, ⟨w.heap.size + 1, bvs (arr6 s), true⟩] [(4, 0), (5, 1)] (atR wiC 1) [] [] (Wst.start0 w) (by kernel_rfl) trivial trivial ?_
  intro w1 hW1 _
  have r1 : Rd w1 (.slice (some ⟨w.heap.size, 0, none⟩) 6 6) (arr6 d) := Rd.of_row (cs := bvs (arr6 d)) (ow := true) hW1 (by simp) 6 rfl (by simp [maxLen]) (fun i hi => by rw [Nat.zero_add]; exact bvs_get hi)
  have r2 : Rd w1 (.slice (some ⟨w.heap.size + 1, 0, none⟩) 6 6) (arr6 s) := Rd.of_row (cs := bvs (arr6 s)) (ow := true) hW1 (by simp) 6 rfl (by simp [maxLen]) (fun i hi => by rw [Nat.zero_add]; exact bvs_get hi)
  have hs1 := hW1.keep.size
  have k1 := hW1.keep
  refine drawn_ok (gt := fun _ => Option.none) [(3, .call (rdS (bytesB l))), (5, .by (slsS [arr6 d, arr6 s, bytesB l, bs])), (6, .call (fbS w.heap.size [arr6 d, arr6 s, bytesB l, bs].flatten)), (7, .by (fbS w.heap.size [arr6 d, arr6 s, bytesB l, bs].flatten))]
      [8] [fbS w.heap.size [arr6 d, arr6 s, bytesB l, bs].flatten] [] [(29, [.is vt], rdS (bytesB l)), (45, [slsS [arr6 d, arr6 s, bytesB l, bs]], fbS w.heap.size [arr6 d, arr6 s, bytesB l, bs].flatten)] []
      [(.buildSlice 103 4 #[(0, .tmp 9), (1, .tmp 10), (2, .tmp 12), (3, .tmp 13)], 103, [(9, .is (.slice (some ⟨w.heap.size, 0, none⟩) 6 6)), (10, .is (.slice (some ⟨w.heap.size + 1, 0, none⟩) 6 6)), (12, rdS (bytesB l)), (13, .is vb)], slsS [arr6 d, arr6 s, bytesB l, bs]),
       (.assign (.tmp 15), 26, [(15, fbS w.heap.size [arr6 d, arr6 s, bytesB l, bs].flatten)], fbS w.heap.size [arr6 d, arr6 s, bytesB l, bs].flatten)] []
      hW1 (by kernel_rfl) (by kernel_rfl) trivial ⟨?_, concat_ob hs1 (by simp) (by simp [arr6]; omega), trivial⟩ trivial
      ⟨by_sls4 (fun wx v k h => by obtain rfl : v = _ := h; exact r1.keep0 k) (fun wx v k h => by obtain rfl : v = _ := h; exact r2.keep0 k) (fun wx v k h => h) (fun wx v k h => by obtain rfl : v = _ := h; exact rb.keep0 (k1.trans k)), by_mv, trivial⟩ trivial ?_
  · rintro wx vals k ha
    obtain ⟨x, rfl, h1⟩ := allOk1 ha
    obtain rfl : x = vt := h1
    exact (tagbytes_any (rt.keep0 (k1.trans k)) (hk.keep0 (k1.trans k)) hl).mono fun e w' ⟨v, h1, h2⟩ => ⟨v, h1, h2.keep, h2.own.rd⟩
  intro w2 vs k2 hok
  obtain ⟨x, rfl, hx⟩ := allOk1 hok
  have hW2 : Wst w ⟨[], w2.heap.size⟩ w2 := (hW1.later k2).fewer (rows := [])
  refine Goal.re (tags := tagL []) (m := ⟨[], w2.heap.size⟩) ?_
  exact go_ret (gt := fun _ => Option.none) (unroll := false) 60 [] [.tmp 8] x [] [] hW2 Tryd.results21 (by kernel_rfl) trivial trivial (fun w9 hW9 hS9 => ⟨_, rfl, hW9.keep, fb_seg hx hS9 hW9⟩)
end
end Go.Proofs.YtcimfojbggckhaaDoor
namespace Go.Proofs.YtcimfojbggckhaaDoor
open Go.RowKit

def readF (c : Fi) : Bool := if (c.typ == 33024) = true then (if decide ((c.tags.length : Int) < 2) = true then true else if (c.typ == 34984) = true then ((c.tags.length : Int) == 0) else false) else if (c.typ == 34984) = true then ((c.tags.length : Int) == 0) else false
def zero3 (l : List UInt8) : Bool := byteAt l 0 == byteAt [] 0 && (byteAt l 1 == byteAt [] 1 && byteAt l 2 == byteAt [] 2)
def mayF (c : Fi) : Bool :=
  if (c.kind == 1) = true then decide (c.typ ≥ 1536) && (decide (c.typ ≤ 65535) && (!readF c && (zero3 c.llc && (zero3 c.oui && ((c.rest.length : Int) == 0)))))
  else if (c.kind == 2) = true then (c.typ == 0) && (zero3 c.oui && (!isSap c.llc && decide (((cntR c).length : Int) ≤ 1500)))
  else if (c.kind == 3) = true then decide (c.typ ≥ 0) && (decide (c.typ ≤ 65535) && (isSap c.llc && decide (((cntR c).length : Int) ≤ 1500)))
  else false
theorem eq_z3 (w : World) (x y : Operand) (a : List UInt8) : (do eqGuard .eql 25 x y (a3 a) (a3 []); binOp .eql 25 (a3 a) (a3 []) : Sem Value).run Tryd.prog w = .ok (.bool (zero3 a)) w := eq_sa3 w x y a []
theorem eq_s3 (w : World) (x y : Operand) (a : List UInt8) : (do eqGuard .eql 25 x y (a3 a) (a3 sapL); binOp .eql 25 (a3 a) (a3 sapL) : Sem Value).run Tryd.prog w = .ok (.bool (isSap a)) w := eq_sa3 w x y a sapL
theorem neq_s3 (w : World) (x y : Operand) (a : List UInt8) : (do eqGuard .neq 25 x y (a3 a) (a3 sapL); binOp .neq 25 (a3 a) (a3 sapL) : Sem Value).run Tryd.prog w = .ok (.bool (!isSap a)) w := by
  have h4 : (eqGuard .neq 25 x y (a3 a) (a3 sapL)).run Tryd.prog w = .ok () w := aRun_none (l := []) (by kernel_rfl)
  simp only [Sem.run_bind, h4, Result.andThen_ok]
  exact run_neq_a3 w a sapL
noncomputable abbrev frC : Code := bodyOf Tryd.f62
noncomputable abbrev fmC : Code := bodyOf Tryd.f42
noncomputable abbrev fmN : Nat := Tryd.f42.ntmps
abbrev blQ (w : World) (b : Bool) : Ending → World → Prop := fun x w' => x = .returned (.bool b) ∧ Keep No w w'
section
variable {w : World} {c : Fi} {F : Fr} {to bo ro : Option Addr} {tn tc bn bc rn rc : Nat}
theorem read_f (hF : fiCells c to tn tc bo bn bc ro rn rc = F) (rt : Rt w (.slice to tn tc) c.tags) : Calls Tryd.prog 62 #[.agg F.a] w (blQ w (readF c)) := by
  have sl : ∀ wx : World, (Builtin.len_ #[24] 3 #[.slice to tn tc]).run Tryd.prog wx = .ok (.int .i64 (c.tags.length : Int)) wx := fun wx => rt.sem_len ett (ty := 3) wx
  refine enter (args := [.agg F.a]) Tryd.func62 (by kernel_rfl) ?_
  cases h1 : (c.typ == 33024) with
  | false =>
    cases h3 : (c.typ == 34984) with
    | false =>
      exact go_ret (gt := fun _ => Option.none) (unroll := false) 60 [(1, 2, .is (.bool false)), (1, 12, .is (.bool false))] [.tmp 2] (.bool false) [(.bool (c.typ == 33024), .bool false), (.bool (c.typ == 34984), .bool false)] [] (Wst.start0 w) Tryd.results62 (by subst hF; kernel_rfl) ⟨congrArg Value.bool h1, congrArg Value.bool h3, trivial⟩ trivial (fun w9 hW9 _ => ⟨by simp [readF, h1, h3], hW9.keep⟩)
    | true =>
      cases h4 : ((c.tags.length : Int) == 0) with
      | false =>
        exact go_ret (gt := fun _ => Option.none) (unroll := false) 60 [(1, 2, .is (.bool false)), (1, 12, .is (.bool true)), (1, 16, .sem (.int .i64 (c.tags.length : Int))), (1, 17, .is (.bool false))] [.tmp 2] (.bool false) [(.bool (c.typ == 33024), .bool false), (.bool (c.typ == 34984), .bool true), (.bool ((c.tags.length : Int) == 0), .bool false)] [(Builtin.len_ #[24] 3 #[.slice to tn tc], .int .i64 (c.tags.length : Int))] (Wst.start0 w) Tryd.results62 (by subst hF; kernel_rfl) ⟨congrArg Value.bool h1, congrArg Value.bool h3, congrArg Value.bool h4, trivial⟩ ⟨fun wx _ => sl wx, trivial⟩ (fun w9 hW9 _ => ⟨by simp [readF, h1, h3, h4], hW9.keep⟩)
      | true =>
        exact go_ret (gt := fun _ => Option.none) (unroll := false) 60 [(1, 2, .is (.bool false)), (1, 12, .is (.bool true)), (1, 16, .sem (.int .i64 (c.tags.length : Int))), (1, 17, .is (.bool true))] [.tmp 2] (.bool true) [(.bool (c.typ == 33024), .bool false), (.bool (c.typ == 34984), .bool true), (.bool ((c.tags.length : Int) == 0), .bool true)] [(Builtin.len_ #[24] 3 #[.slice to tn tc], .int .i64 (c.tags.length : Int))] (Wst.start0 w) Tryd.results62 (by subst hF; kernel_rfl) ⟨congrArg Value.bool h1, congrArg Value.bool h3, congrArg Value.bool h4, trivial⟩ ⟨fun wx _ => sl wx, trivial⟩ (fun w9 hW9 _ => ⟨by simp [readF, h1, h3, h4], hW9.keep⟩)
  | true =>
    cases h2 : decide ((c.tags.length : Int) < 2) with
    | false =>
      cases h3 : (c.typ == 34984) with
      | false =>
        exact go_ret (gt := fun _ => Option.none) (unroll := false) 60 [(1, 2, .is (.bool true)), (1, 6, .sem (.int .i64 (c.tags.length : Int))), (1, 7, .is (.bool false)), (1, 12, .is (.bool false))] [.tmp 2] (.bool false) [(.bool (c.typ == 33024), .bool true), (.bool (decide ((c.tags.length : Int) < 2)), .bool false), (.bool (c.typ == 34984), .bool false)] [(Builtin.len_ #[24] 3 #[.slice to tn tc], .int .i64 (c.tags.length : Int))] (Wst.start0 w) Tryd.results62 (by subst hF; kernel_rfl) ⟨congrArg Value.bool h1, congrArg Value.bool h2, congrArg Value.bool h3, trivial⟩ ⟨fun wx _ => sl wx, trivial⟩ (fun w9 hW9 _ => ⟨by simp [readF, h1, h2, h3], hW9.keep⟩)
      | true =>
        cases h4 : ((c.tags.length : Int) == 0) with
        | false =>
          exact go_ret (gt := fun _ => Option.none) (unroll := false) 60 [(1, 2, .is (.bool true)), (1, 6, .sem (.int .i64 (c.tags.length : Int))), (1, 7, .is (.bool false)), (1, 12, .is (.bool true)), (1, 16, .sem (.int .i64 (c.tags.length : Int))), (1, 17, .is (.bool false))] [.tmp 2] (.bool false) [(.bool (c.typ == 33024), .bool true), (.bool (decide ((c.tags.length : Int) < 2)), .bool false), (.bool (c.typ == 34984), .bool true), (.bool ((c.tags.length : Int) == 0), .bool false)] [(Builtin.len_ #[24] 3 #[.slice to tn tc], .int .i64 (c.tags.length : Int)), (Builtin.len_ #[24] 3 #[.slice to tn tc], .int .i64 (c.tags.length : Int))] (Wst.start0 w) Tryd.results62 (by subst hF; kernel_rfl) ⟨congrArg Value.bool h1, congrArg Value.bool h2, congrArg Value.bool h3, congrArg Value.bool h4, trivial⟩ ⟨fun wx _ => sl wx, fun wx _ => sl wx, trivial⟩ (fun w9 hW9 _ => ⟨by simp [readF, h1, h2, h3, h4], hW9.keep⟩)
        | true =>
          exact go_ret (gt := fun _ => Option.none) (unroll := false) 60 [(1, 2, .is (.bool true)), (1, 6, .sem (.int .i64 (c.tags.length : Int))), (1, 7, .is (.bool false)), (1, 12, .is (.bool true)), (1, 16, .sem (.int .i64 (c.tags.length : Int))), (1, 17, .is (.bool true))] [.tmp 2] (.bool true) [(.bool (c.typ == 33024), .bool true), (.bool (decide ((c.tags.length : Int) < 2)), .bool false), (.bool (c.typ == 34984), .bool true), (.bool ((c.tags.length : Int) == 0), .bool true)] [(Builtin.len_ #[24] 3 #[.slice to tn tc], .int .i64 (c.tags.length : Int)), (Builtin.len_ #[24] 3 #[.slice to tn tc], .int .i64 (c.tags.length : Int))] (Wst.start0 w) Tryd.results62 (by subst hF; kernel_rfl) ⟨congrArg Value.bool h1, congrArg Value.bool h2, congrArg Value.bool h3, congrArg Value.bool h4, trivial⟩ ⟨fun wx _ => sl wx, fun wx _ => sl wx, trivial⟩ (fun w9 hW9 _ => ⟨by simp [readF, h1, h2, h3, h4], hW9.keep⟩)
    | true =>
      exact go_ret (gt := fun _ => Option.none) (unroll := false) 60 [(1, 2, .is (.bool true)), (1, 6, .sem (.int .i64 (c.tags.length : Int))), (1, 7, .is (.bool true))] [.tmp 2] (.bool true) [(.bool (c.typ == 33024), .bool true), (.bool (decide ((c.tags.length : Int) < 2)), .bool true)] [(Builtin.len_ #[24] 3 #[.slice to tn tc], .int .i64 (c.tags.length : Int))] (Wst.start0 w) Tryd.results62 (by subst hF; kernel_rfl) ⟨congrArg Value.bool h1, congrArg Value.bool h2, trivial⟩ ⟨fun wx _ => sl wx, trivial⟩ (fun w9 hW9 _ => ⟨by simp [readF, h1, h2], hW9.keep⟩)
theorem may_f (hF : fiCells c to tn tc bo bn bc ro rn rc = F) (rt : Rt w (.slice to tn tc) c.tags) (rb : Rd w (.slice bo bn bc) c.body) (rr : Rd w (.slice ro rn rc) c.rest) (hb : c.body.length ≤ 1099511627000) (hs : Sh w) : Calls Tryd.prog 42 #[.agg F.a] w (blQ w (mayF c)) := by
  have sr : ∀ wx : World, (Builtin.len_ #[26] 3 #[.slice ro rn rc]).run Tryd.prog wx = .ok (.int .i64 (c.rest.length : Int)) wx := fun wx => rr.run_len (ty := 3) bt.sl
  refine enter (args := [.agg F.a]) Tryd.func42 (by kernel_rfl) ?_
  have SH : ∀ wx : World, (∀ k, Safe ⟨[], w.heap.size⟩ k → wx.heap[k]? = w.heap[k]?) → Sh wx := fun wx hx i hi => by rw [← hs i hi]; exact World.cell?_of_block (hx _ ⟨World.block_lt_of_cell? w _ (hs i hi), fun _ h => nomatch h⟩)
  cases k1 : (c.kind == 1) with
  | false =>
    cases k2 : (c.kind == 2) with
    | false =>
      cases k3 : (c.kind == 3) with
      | false =>
        exact go_ret (gt := fun _ => Option.none) (unroll := false) 100 [(2, 0, .is (.bool false)), (4, 0, .is (.bool false)), (6, 0, .is (.bool false))] [.tmp 2] (.bool false) [(.bool (c.kind == 1), .bool false), (.bool (c.kind == 2), .bool false), (.bool (c.kind == 3), .bool false)] [] (Wst.start0 w) Tryd.results42 (by subst hF; kernel_rfl) ⟨congrArg Value.bool k1, congrArg Value.bool k2, congrArg Value.bool k3, trivial⟩ trivial (fun w9 hW9 _ => ⟨by simp [mayF, k1, k2, k3], hW9.keep⟩)
      | true =>
        cases d1 : decide (c.typ ≥ 0) with
        | false =>
          exact go_ret (gt := fun _ => Option.none) (unroll := false) 100 [(2, 0, .is (.bool false)), (4, 0, .is (.bool false)), (6, 0, .is (.bool true)), (7, 2, .is (.bool false))] [.tmp 2] (.bool false) [(.bool (c.kind == 1), .bool false), (.bool (c.kind == 2), .bool false), (.bool (c.kind == 3), .bool true), (.bool (decide (c.typ ≥ 0)), .bool false)] [] (Wst.start0 w) Tryd.results42 (by subst hF; kernel_rfl) ⟨congrArg Value.bool k1, congrArg Value.bool k2, congrArg Value.bool k3, congrArg Value.bool d1, trivial⟩ trivial (fun w9 hW9 _ => ⟨by simp [mayF, k1, k2, k3, d1], hW9.keep⟩)
        | true =>
          cases d2 : decide (c.typ ≤ 65535) with
          | false =>
            exact go_ret (gt := fun _ => Option.none) (unroll := false) 100 [(2, 0, .is (.bool false)), (4, 0, .is (.bool false)), (6, 0, .is (.bool true)), (7, 2, .is (.bool true)), (7, 6, .is (.bool false))] [.tmp 2] (.bool false) [(.bool (c.kind == 1), .bool false), (.bool (c.kind == 2), .bool false), (.bool (c.kind == 3), .bool true), (.bool (decide (c.typ ≥ 0)), .bool true), (.bool (decide (c.typ ≤ 65535)), .bool false)] [] (Wst.start0 w) Tryd.results42 (by subst hF; kernel_rfl) ⟨congrArg Value.bool k1, congrArg Value.bool k2, congrArg Value.bool k3, congrArg Value.bool d1, congrArg Value.bool d2, trivial⟩ trivial (fun w9 hW9 _ => ⟨by simp [mayF, k1, k2, k3, d1, d2], hW9.keep⟩)
          | true =>
            cases d3 : isSap c.llc with
            | false =>
              exact go_ret (gt := fun _ => Option.none) (unroll := false) 100 [(2, 0, .is (.bool false)), (4, 0, .is (.bool false)), (6, 0, .is (.bool true)), (7, 2, .is (.bool true)), (7, 6, .is (.bool true)), (7, 11, .sem (a3 sapL)), (7, 12, .sem (.bool false))] [.tmp 2] (.bool false) [(.bool (c.kind == 1), .bool false), (.bool (c.kind == 2), .bool false), (.bool (c.kind == 3), .bool true), (.bool (decide (c.typ ≥ 0)), .bool true), (.bool (decide (c.typ ≤ 65535)), .bool true)] [(Instr.loadAt 25 (.pointer (some ⟨1, 0, none⟩)), a3 sapL), ((do eqGuard .eql 25 (.tmp 73) (.tmp 74) (a3 c.llc) (a3 sapL); binOp .eql 25 (a3 c.llc) (a3 sapL) : Sem Value), .bool false)] (Wst.start0 w) Tryd.results42 (by subst hF; kernel_rfl) ⟨congrArg Value.bool k1, congrArg Value.bool k2, congrArg Value.bool k3, congrArg Value.bool d1, congrArg Value.bool d2, trivial⟩ ⟨fun wx hx => (SH wx hx).sem_ld, fun wx _ => d3 ▸ eq_s3 wx _ _ _, trivial⟩ (fun w9 hW9 _ => ⟨by simp [mayF, k1, k2, k3, d1, d2, d3], hW9.keep⟩)
            | true =>
              refine go_call_is (gt := fun _ => Option.none) (unroll := false) 100 [(2, 0, .is (.bool false)), (4, 0, .is (.bool false)), (6, 0, .is (.bool true)), (7, 2, .is (.bool true)), (7, 6, .is (.bool true)), (7, 11, .sem (a3 sapL)), (7, 12, .sem (.bool true)), (7, 16, .stop)] 44 [.agg F.a] [1, 77] [pT w.heap.size, .bool true] 79 [⟨w.heap.size, F.a.toList, true⟩] [(1, 0)] (inR fmC 7 16) [(.bool (c.kind == 1), .bool false), (.bool (c.kind == 2), .bool false), (.bool (c.kind == 3), .bool true), (.bool (decide (c.typ ≥ 0)), .bool true), (.bool (decide (c.typ ≤ 65535)), .bool true)] [(Instr.loadAt 25 (.pointer (some ⟨1, 0, none⟩)), a3 sapL), ((do eqGuard .eql 25 (.tmp 73) (.tmp 74) (a3 c.llc) (a3 sapL); binOp .eql 25 (a3 c.llc) (a3 sapL) : Sem Value), .bool true)] (Wst.start0 w) (by subst hF; kernel_rfl) ⟨congrArg Value.bool k1, congrArg Value.bool k2, congrArg Value.bool k3, congrArg Value.bool d1, congrArg Value.bool d2, trivial⟩ ⟨fun wx hx => (SH wx hx).sem_ld, fun wx _ => d3 ▸ eq_s3 wx _ _ _, trivial⟩ ?_
              intro w1 hW1 hS1
              refine (counted_any hF (rb.keep0 hW1.keep) hb (fun hk => by simpa using d1)).mono ?_
              rintro e w2 ⟨vc, rfl, k2', hc⟩
              refine ⟨_, rfl, ?_⟩
              have hW2 := hW1.later k2'
              obtain ⟨rc, _, _⟩ : Rd w2 vc (cntR c) ∧ _ ∧ _ := hc
              cases e1 : decide (((cntR c).length : Int) ≤ 1500) with
              | false =>
                exact go_ret (gt := fun _ => Option.none) (unroll := false) 100 [(7, 17, .sem (.int .i64 ((cntR c).length : Int))), (7, 18, .is (.bool false))] [.tmp 2] (.bool false) [(.bool (decide (((cntR c).length : Int) ≤ 1500)), .bool false)] [(Builtin.len_ #[26] 3 #[vc], .int .i64 ((cntR c).length : Int))] hW2 Tryd.results42 (by subst hF; kernel_rfl) ⟨congrArg Value.bool e1, trivial⟩ ⟨fun wx _ => rc.run_len (ty := 3) bt.sl, trivial⟩ (fun w9 hW9 _ => ⟨by simp [mayF, k1, k2, k3, d1, d2, d3, e1], hW9.keep⟩)
              | true =>
                exact go_ret (gt := fun _ => Option.none) (unroll := false) 100 [(7, 17, .sem (.int .i64 ((cntR c).length : Int))), (7, 18, .is (.bool true))] [.tmp 2] (.bool true) [(.bool (decide (((cntR c).length : Int) ≤ 1500)), .bool true)] [(Builtin.len_ #[26] 3 #[vc], .int .i64 ((cntR c).length : Int))] hW2 Tryd.results42 (by subst hF; kernel_rfl) ⟨congrArg Value.bool e1, trivial⟩ ⟨fun wx _ => rc.run_len (ty := 3) bt.sl, trivial⟩ (fun w9 hW9 _ => ⟨by simp [mayF, k1, k2, k3, d1, d2, d3, e1], hW9.keep⟩)
    | true =>
      cases b1 : (c.typ == 0) with
      | false =>
        exact go_ret (gt := fun _ => Option.none) (unroll := false) 100 [(2, 0, .is (.bool false)), (4, 0, .is (.bool true)), (5, 2, .is (.bool false))] [.tmp 2] (.bool false) [(.bool (c.kind == 1), .bool false), (.bool (c.kind == 2), .bool true), (.bool (c.typ == 0), .bool false)] [] (Wst.start0 w) Tryd.results42 (by subst hF; kernel_rfl) ⟨congrArg Value.bool k1, congrArg Value.bool k2, congrArg Value.bool b1, trivial⟩ trivial (fun w9 hW9 _ => ⟨by simp [mayF, k1, k2, b1], hW9.keep⟩)
      | true =>
        cases b2 : zero3 c.oui with
        | false =>
          exact go_ret (gt := fun _ => Option.none) (unroll := false) 100 [(2, 0, .is (.bool false)), (4, 0, .is (.bool true)), (5, 2, .is (.bool true)), (5, 7, .sem (.bool false))] [.tmp 2] (.bool false) [(.bool (c.kind == 1), .bool false), (.bool (c.kind == 2), .bool true), (.bool (c.typ == 0), .bool true)] [((do eqGuard .eql 25 (.tmp 45) (.tmp 46) (a3 c.oui) (a3 []); binOp .eql 25 (a3 c.oui) (a3 []) : Sem Value), .bool false)] (Wst.start0 w) Tryd.results42 (by subst hF; kernel_rfl) ⟨congrArg Value.bool k1, congrArg Value.bool k2, congrArg Value.bool b1, trivial⟩ ⟨fun wx _ => b2 ▸ eq_z3 wx _ _ _, trivial⟩ (fun w9 hW9 _ => ⟨by simp [mayF, k1, k2, b1, b2], hW9.keep⟩)
        | true =>
          cases b3 : isSap c.llc with
          | false =>
            refine go_call_is (gt := fun _ => Option.none) (unroll := false) 100 [(2, 0, .is (.bool false)), (4, 0, .is (.bool true)), (5, 2, .is (.bool true)), (5, 7, .sem (.bool true)), (5, 12, .sem (a3 sapL)), (5, 13, .sem (.bool true)), (5, 17, .stop)] 44 [.agg F.a] [1, 55] [pT w.heap.size, .bool true] 57 [⟨w.heap.size, F.a.toList, true⟩] [(1, 0)] (inR fmC 5 17) [(.bool (c.kind == 1), .bool false), (.bool (c.kind == 2), .bool true), (.bool (c.typ == 0), .bool true)] [((do eqGuard .eql 25 (.tmp 45) (.tmp 46) (a3 c.oui) (a3 []); binOp .eql 25 (a3 c.oui) (a3 []) : Sem Value), .bool true), (Instr.loadAt 25 (.pointer (some ⟨1, 0, none⟩)), a3 sapL), ((do eqGuard .neq 25 (.tmp 51) (.tmp 52) (a3 c.llc) (a3 sapL); binOp .neq 25 (a3 c.llc) (a3 sapL) : Sem Value), .bool true)] (Wst.start0 w) (by subst hF; kernel_rfl) ⟨congrArg Value.bool k1, congrArg Value.bool k2, congrArg Value.bool b1, trivial⟩ ⟨fun wx _ => b2 ▸ eq_z3 wx _ _ _, fun wx hx => (SH wx hx).sem_ld, fun wx _ => (show (!isSap c.llc) = true by rw [b3]; rfl) ▸ neq_s3 wx _ _ _, trivial⟩ ?_
            intro w1 hW1 hS1
            refine (counted_any hF (rb.keep0 hW1.keep) hb (fun hk => by simp at k2; omega)).mono ?_
            rintro e w2 ⟨vc, rfl, k2', hc⟩
            refine ⟨_, rfl, ?_⟩
            have hW2 := hW1.later k2'
            obtain ⟨rc, _, _⟩ : Rd w2 vc (cntR c) ∧ _ ∧ _ := hc
            cases e1 : decide (((cntR c).length : Int) ≤ 1500) with
            | false =>
              exact go_ret (gt := fun _ => Option.none) (unroll := false) 100 [(5, 18, .sem (.int .i64 ((cntR c).length : Int))), (5, 19, .is (.bool false))] [.tmp 2] (.bool false) [(.bool (decide (((cntR c).length : Int) ≤ 1500)), .bool false)] [(Builtin.len_ #[26] 3 #[vc], .int .i64 ((cntR c).length : Int))] hW2 Tryd.results42 (by subst hF; kernel_rfl) ⟨congrArg Value.bool e1, trivial⟩ ⟨fun wx _ => rc.run_len (ty := 3) bt.sl, trivial⟩ (fun w9 hW9 _ => ⟨by simp [mayF, k1, k2, b1, b2, b3, e1], hW9.keep⟩)
            | true =>
              exact go_ret (gt := fun _ => Option.none) (unroll := false) 100 [(5, 18, .sem (.int .i64 ((cntR c).length : Int))), (5, 19, .is (.bool true))] [.tmp 2] (.bool true) [(.bool (decide (((cntR c).length : Int) ≤ 1500)), .bool true)] [(Builtin.len_ #[26] 3 #[vc], .int .i64 ((cntR c).length : Int))] hW2 Tryd.results42 (by subst hF; kernel_rfl) ⟨congrArg Value.bool e1, trivial⟩ ⟨fun wx _ => rc.run_len (ty := 3) bt.sl, trivial⟩ (fun w9 hW9 _ => ⟨by simp [mayF, k1, k2, b1, b2, b3, e1], hW9.keep⟩)
          | true =>
            exact go_ret (gt := fun _ => Option.none) (unroll := false) 100 [(2, 0, .is (.bool false)), (4, 0, .is (.bool true)), (5, 2, .is (.bool true)), (5, 7, .sem (.bool true)), (5, 12, .sem (a3 sapL)), (5, 13, .sem (.bool false))] [.tmp 2] (.bool false) [(.bool (c.kind == 1), .bool false), (.bool (c.kind == 2), .bool true), (.bool (c.typ == 0), .bool true)] [((do eqGuard .eql 25 (.tmp 45) (.tmp 46) (a3 c.oui) (a3 []); binOp .eql 25 (a3 c.oui) (a3 []) : Sem Value), .bool true), (Instr.loadAt 25 (.pointer (some ⟨1, 0, none⟩)), a3 sapL), ((do eqGuard .neq 25 (.tmp 51) (.tmp 52) (a3 c.llc) (a3 sapL); binOp .neq 25 (a3 c.llc) (a3 sapL) : Sem Value), .bool false)] (Wst.start0 w) Tryd.results42 (by subst hF; kernel_rfl) ⟨congrArg Value.bool k1, congrArg Value.bool k2, congrArg Value.bool b1, trivial⟩ ⟨fun wx _ => b2 ▸ eq_z3 wx _ _ _, fun wx hx => (SH wx hx).sem_ld, fun wx _ => (show (!isSap c.llc) = false by rw [b3]; rfl) ▸ neq_s3 wx _ _ _, trivial⟩ (fun w9 hW9 _ => ⟨by simp [mayF, k1, k2, b1, b2, b3], hW9.keep⟩)
  | true =>
    cases g1 : decide (c.typ ≥ 1536) with
    | false =>
      exact go_ret (gt := fun _ => Option.none) (unroll := false) 100 [(2, 0, .is (.bool true)), (3, 2, .is (.bool false))] [.tmp 2] (.bool false) [(.bool (c.kind == 1), .bool true), (.bool (decide (c.typ ≥ 1536)), .bool false)] [] (Wst.start0 w) Tryd.results42 (by subst hF; kernel_rfl) ⟨congrArg Value.bool k1, congrArg Value.bool g1, trivial⟩ trivial (fun w9 hW9 _ => ⟨by simp [mayF, k1, g1], hW9.keep⟩)
    | true =>
      cases g2 : decide (c.typ ≤ 65535) with
      | false =>
        exact go_ret (gt := fun _ => Option.none) (unroll := false) 100 [(2, 0, .is (.bool true)), (3, 2, .is (.bool true)), (3, 6, .is (.bool false))] [.tmp 2] (.bool false) [(.bool (c.kind == 1), .bool true), (.bool (decide (c.typ ≥ 1536)), .bool true), (.bool (decide (c.typ ≤ 65535)), .bool false)] [] (Wst.start0 w) Tryd.results42 (by subst hF; kernel_rfl) ⟨congrArg Value.bool k1, congrArg Value.bool g1, congrArg Value.bool g2, trivial⟩ trivial (fun w9 hW9 _ => ⟨by simp [mayF, k1, g1, g2], hW9.keep⟩)
      | true =>
        refine go_call_is (gt := fun _ => Option.none) (unroll := false) 100 [(2, 0, .is (.bool true)), (3, 2, .is (.bool true)), (3, 6, .is (.bool true)), (3, 10, .stop)] 62 [.agg F.a] [1, 15] [pT w.heap.size, .bool true] 17 [⟨w.heap.size, F.a.toList, true⟩] [(1, 0)] (inR fmC 3 10) [(.bool (c.kind == 1), .bool true), (.bool (decide (c.typ ≥ 1536)), .bool true), (.bool (decide (c.typ ≤ 65535)), .bool true)] [] (Wst.start0 w) (by subst hF; kernel_rfl) ⟨congrArg Value.bool k1, congrArg Value.bool g1, congrArg Value.bool g2, trivial⟩ trivial ?_
        intro w1 hW1 hS1
        refine (read_f hF (rt.keep0 hW1.keep)).mono ?_
        rintro e w2 ⟨rfl, k2⟩
        refine ⟨_, rfl, ?_⟩
        have hW2 := hW1.later k2
        cases g3 : readF c with
        | false =>
          cases g4 : zero3 c.llc with
          | false =>
            exact go_ret (gt := fun _ => Option.none) (unroll := false) 100 [(3, 17, .sem (.bool false))] [.tmp 2] (.bool false) [] [((do eqGuard .eql 25 (.tmp 22) (.tmp 23) (a3 c.llc) (a3 []); binOp .eql 25 (a3 c.llc) (a3 []) : Sem Value), .bool false)] hW2 Tryd.results42 (by subst hF; kernel_rfl) trivial ⟨fun wx _ => g4 ▸ eq_z3 wx _ _ _, trivial⟩ (fun w9 hW9 _ => ⟨by simp [mayF, k1, g1, g2, g3, g4], hW9.keep⟩)
          | true =>
            cases g5 : zero3 c.oui with
            | false =>
              exact go_ret (gt := fun _ => Option.none) (unroll := false) 100 [(3, 17, .sem (.bool true)), (3, 23, .sem (.bool false))] [.tmp 2] (.bool false) [] [((do eqGuard .eql 25 (.tmp 22) (.tmp 23) (a3 c.llc) (a3 []); binOp .eql 25 (a3 c.llc) (a3 []) : Sem Value), .bool true), ((do eqGuard .eql 25 (.tmp 28) (.tmp 29) (a3 c.oui) (a3 []); binOp .eql 25 (a3 c.oui) (a3 []) : Sem Value), .bool false)] hW2 Tryd.results42 (by subst hF; kernel_rfl) trivial ⟨fun wx _ => g4 ▸ eq_z3 wx _ _ _, fun wx _ => g5 ▸ eq_z3 wx _ _ _, trivial⟩ (fun w9 hW9 _ => ⟨by simp [mayF, k1, g1, g2, g3, g4, g5], hW9.keep⟩)
            | true =>
              cases g6 : ((c.rest.length : Int) == 0) with
              | false =>
                exact go_ret (gt := fun _ => Option.none) (unroll := false) 100 [(3, 17, .sem (.bool true)), (3, 23, .sem (.bool true)), (3, 28, .sem (.int .i64 (c.rest.length : Int))), (3, 29, .is (.bool false))] [.tmp 2] (.bool false) [(.bool ((c.rest.length : Int) == 0), .bool false)] [((do eqGuard .eql 25 (.tmp 22) (.tmp 23) (a3 c.llc) (a3 []); binOp .eql 25 (a3 c.llc) (a3 []) : Sem Value), .bool true), ((do eqGuard .eql 25 (.tmp 28) (.tmp 29) (a3 c.oui) (a3 []); binOp .eql 25 (a3 c.oui) (a3 []) : Sem Value), .bool true), (Builtin.len_ #[26] 3 #[.slice ro rn rc], .int .i64 (c.rest.length : Int))] hW2 Tryd.results42 (by subst hF; kernel_rfl) ⟨congrArg Value.bool g6, trivial⟩ ⟨fun wx _ => g4 ▸ eq_z3 wx _ _ _, fun wx _ => g5 ▸ eq_z3 wx _ _ _, fun wx _ => sr wx, trivial⟩ (fun w9 hW9 _ => ⟨by simp [mayF, k1, g1, g2, g3, g4, g5, g6], hW9.keep⟩)
              | true =>
                exact go_ret (gt := fun _ => Option.none) (unroll := false) 100 [(3, 17, .sem (.bool true)), (3, 23, .sem (.bool true)), (3, 28, .sem (.int .i64 (c.rest.length : Int))), (3, 29, .is (.bool true))] [.tmp 2] (.bool true) [(.bool ((c.rest.length : Int) == 0), .bool true)] [((do eqGuard .eql 25 (.tmp 22) (.tmp 23) (a3 c.llc) (a3 []); binOp .eql 25 (a3 c.llc) (a3 []) : Sem Value), .bool true), ((do eqGuard .eql 25 (.tmp 28) (.tmp 29) (a3 c.oui) (a3 []); binOp .eql 25 (a3 c.oui) (a3 []) : Sem Value), .bool true), (Builtin.len_ #[26] 3 #[.slice ro rn rc], .int .i64 (c.rest.length : Int))] hW2 Tryd.results42 (by subst hF; kernel_rfl) ⟨congrArg Value.bool g6, trivial⟩ ⟨fun wx _ => g4 ▸ eq_z3 wx _ _ _, fun wx _ => g5 ▸ eq_z3 wx _ _ _, fun wx _ => sr wx, trivial⟩ (fun w9 hW9 _ => ⟨by simp [mayF, k1, g1, g2, g3, g4, g5, g6], hW9.keep⟩)
        | true =>
          exact go_ret (gt := fun _ => Option.none) (unroll := false) 100 [] [.tmp 2] (.bool false) [] [] hW2 Tryd.results42 (by subst hF; kernel_rfl) trivial trivial (fun w9 hW9 _ => ⟨by simp [mayF, k1, g1, g2, g3], hW9.keep⟩)
end
end Go.Proofs.YtcimfojbggckhaaDoor
namespace Go.Proofs.YtcimfojbggckhaaDoor
open Go.RowKit

def behR (c : Fi) : List UInt8 := if c.kind = 1 then bytes2 c.typ.toNat ++ c.body else bytes2 (cntR c).length ++ (cntR c ++ c.rest)
/-- What Put lays. -/
def putR (c : Fi) : List UInt8 × Nat := if mayL c.tags = false then ([], 1) else if mayF c = false then ([], 1) else if 65539 < (withR c.dst c.src c.tags (behR c)).length then ([], 3) else (withR c.dst c.src c.tags (behR c), 0)
noncomputable abbrev pkC : Code := bodyOf Tryd.f15
noncomputable abbrev pkN : Nat := Tryd.f15.ntmps
abbrev pkQ (w : World) (c : Fi) : Ending → World → Prop := fun x w' => ∃ v, x = .returned (.tuple #[v, .int .i64 ((putR c).2 : Nat)]) ∧ Keep No w w' ∧ (fbS w.heap.size (putR c).1).ok w' v
theorem pk_fail {w w' : World} {c : Fi} {e : Nat} (he : putR c = ([], e)) (k : Keep No w w') : pkQ w c (.returned (.tuple #[nilV, .int .i64 (e : Int)])) w' :=
  ⟨nilV, by rw [he], k, by rw [he]; exact ⟨Rd.nil _, nilV_since _, nilV_under _⟩⟩
theorem may_typ1 {c : Fi} (h : mayF c = true) (hk : c.kind = 1) : 0 ≤ c.typ := by
  simp [mayF, hk] at h
  omega
theorem may_typ3 {c : Fi} (h : mayF c = true) (hk : c.kind = 3) : 0 ≤ c.typ := by
  simp [mayF, hk] at h
  omega
theorem cnt_le (c : Fi) : (cntR c).length ≤ 8 + c.body.length := by
  unfold cntR
  split <;> simp [arr3, bytes2] <;> omega
section
variable {w : World} {c : Fi} {F : Fr} {to bo ro : Option Addr} {tn tc bn bc rn rc : Nat}
/-- From With on. -/
theorem put_end (hF : fiCells c to tn tc bo bn bc ro rn rc = F) (rt : Rt w (.slice to tn tc) c.tags) (hl : c.tags.length ≤ 1000000) (hk : Kh w) (h1 : mayL c.tags = true) (h2 : mayF c = true) (hbl : (behR c).length ≤ 1099000000000) (w1 : World) (hW1 : Wst w ⟨[⟨w.heap.size, F.a.toList, true⟩], w1.heap.size⟩ w1) (x : Value) (H : HdB [⟨w.heap.size, F.a.toList, true⟩] w1 x (behR c)) {T : List K} (hT : T = afterR pkC 7) :
    Goal Tryd.prog (bodyPost Tryd.prog Tryd.f15 (pkQ w c)) pkN ⟨frOf [1, 4] [pT w.heap.size, x], tagL [(1, 0)], ⟨[⟨w.heap.size, F.a.toList, true⟩], w1.heap.size⟩, T⟩ w1 := by
  subst hT
  refine go_call_is (gt := fun _ => Option.none) (unroll := false) 100 [] 21 [a6 c.dst, a6 c.src, .slice to tn tc, x] [] [] 42 [⟨w.heap.size, F.a.toList, true⟩] [] (inR pkC 8 7) [] [] hW1 (by subst hF; kernel_rfl) trivial trivial ?_
  intro w2 hW2 hS2
  have H2 := H.pass0 hS2
  refine (with_any c.dst c.src (rt.keep0 hW2.keep) hl H2.rd hbl (hk.keep0 hW2.keep)).mono ?_
  rintro e w3 ⟨v, rfl, k3, hv⟩
  refine ⟨_, rfl, ?_⟩
  have hW3 : Wst w ⟨[], w3.heap.size⟩ w3 := (hW2.later k3).fewer (rows := [])
  refine Goal.re (tags := tagL []) (m := ⟨[], w3.heap.size⟩) ?_
  have hv' : (fbS w.heap.size (withR c.dst c.src c.tags (behR c))).ok w3 v := ⟨hv.1, hv.2.1.mono hW2.keep.size, hv.2.2⟩
  have rv : Rd w3 v (withR c.dst c.src c.tags (behR c)) := hv.1
  have ep : putR c = if 65539 < (withR c.dst c.src c.tags (behR c)).length then ([], 3) else (withR c.dst c.src c.tags (behR c), 0) := by
    unfold putR
    rw [if_neg (by simp [h1]), if_neg (by simp [h2])]
  by_cases hn : 65539 < (withR c.dst c.src c.tags (behR c)).length
  · rw [if_pos hn] at ep
    exact go_ret (gt := fun _ => Option.none) (unroll := false) 60 [(9, 1, .sem (.int .i64 ((withR c.dst c.src c.tags (behR c)).length : Nat))), (9, 2, .is (.bool true))] [.tmp 2, .tmp 3] (.tuple #[nilV, .int .i64 3]) [(.bool (decide ((((withR c.dst c.src c.tags (behR c)).length : Nat) : Int) > 65539)), .bool true)] [(Builtin.len_ #[26] 3 #[v], .int .i64 ((withR c.dst c.src c.tags (behR c)).length : Nat))] hW3 Tryd.results15 (by kernel_rfl) ⟨congrArg Value.bool (by simp; omega), trivial⟩ ⟨fun wx _ => rv.run_len (ty := 3) bt.sl, trivial⟩ (fun w9 hW9 _ => pk_fail (e := 3) ep hW9.keep)
  · rw [if_neg hn] at ep
    refine go_ret (gt := fun _ => Option.none) (unroll := false) 60 [(9, 1, .sem (.int .i64 ((withR c.dst c.src c.tags (behR c)).length : Nat))), (9, 2, .is (.bool false))] [.tmp 2, .tmp 3] (.tuple #[v, .int .i64 0]) [(.bool (decide ((((withR c.dst c.src c.tags (behR c)).length : Nat) : Int) > 65539)), .bool false)] [(Builtin.len_ #[26] 3 #[v], .int .i64 ((withR c.dst c.src c.tags (behR c)).length : Nat))] hW3 Tryd.results15 (by kernel_rfl) ⟨congrArg Value.bool (by simp; omega), trivial⟩ ⟨fun wx _ => rv.run_len (ty := 3) bt.sl, trivial⟩ (fun w9 hW9 hS9 => ⟨v, by rw [ep]; rfl, hW9.keep, ?_⟩)
    rw [ep]
    exact fb_seg hv' hS9 hW9
theorem put_any (hF : fiCells c to tn tc bo bn bc ro rn rc = F) (rt : Rt w (.slice to tn tc) c.tags) (rb : Rd w (.slice bo bn bc) c.body) (rr : Rd w (.slice ro rn rc) c.rest) (hl : c.tags.length ≤ 1000000) (hb : c.body.length ≤ 1073741824) (hr : c.rest.length ≤ 1073741824) (hk : Kh w) (hs : Sh w) :
    Calls Tryd.prog 15 #[.agg F.a] w (pkQ w c) := by
  refine enter (args := [.agg F.a]) Tryd.func15 (by kernel_rfl) ?_
  refine go_call_is (gt := fun _ => Option.none) (unroll := false) 60 [] 22 [.slice to tn tc] [1, 2, 3] [pT w.heap.size, nilV, .int .i64 0] 9 [⟨w.heap.size, F.a.toList, true⟩] [(1, 0)] (inR pkC 1 2) [] [] (Wst.start0 w) (by subst hF; kernel_rfl) trivial trivial ?_
  intro w1 hW1 _
  refine (may_any (rt.keep0 hW1.keep) (hk.keep0 hW1.keep)).mono ?_
  rintro e w2 ⟨rfl, k2⟩
  refine ⟨_, rfl, ?_⟩
  have hW2 := hW1.later k2
  cases h1 : mayL c.tags with
  | false => exact go_ret (gt := fun _ => Option.none) (unroll := false) 60 [] [.tmp 2, .tmp 3] (.tuple #[nilV, .int .i64 1]) [] [] hW2 Tryd.results15 (by subst hF; kernel_rfl) trivial trivial (fun w9 hW9 _ => pk_fail (e := 1) (by simp [putR, h1]) hW9.keep)
  | true =>
  refine go_call_is (gt := fun _ => Option.none) (unroll := false) 60 [] 42 [.agg F.a] [1, 2, 3, 11] [pT w.heap.size, nilV, .int .i64 0, .bool false] 13 [⟨w.heap.size, F.a.toList, true⟩] [(1, 0)] (inR pkC 1 6) [] [] hW2 (by subst hF; kernel_rfl) trivial trivial ?_
  intro w3 hW3 _
  refine (may_f hF (rt.keep0 hW3.keep) (rb.keep0 hW3.keep) (rr.keep0 hW3.keep) (by omega) (hs.keep0 hW3.keep)).mono ?_
  rintro e w4 ⟨rfl, k4⟩
  refine ⟨_, rfl, ?_⟩
  have hW4 := hW3.later k4
  cases h2 : mayF c with
  | false => exact go_ret (gt := fun _ => Option.none) (unroll := false) 60 [] [.tmp 2, .tmp 3] (.tuple #[nilV, .int .i64 1]) [] [] hW4 Tryd.results15 (by subst hF; kernel_rfl) trivial trivial (fun w9 hW9 _ => pk_fail (e := 1) (by simp [putR, h1, h2]) hW9.keep)
  | true =>
  by_cases hk1 : c.kind = 1
  · obtain ⟨n, hn⟩ := Int.eq_ofNat_of_zero_le (may_typ1 h2 hk1)
    have eb : behR c = bytes2 n ++ c.body := by unfold behR; rw [if_pos hk1, hn]; rfl
    refine go_stop (gt := fun _ => Option.none) (unroll := false) 60 [(4, 2, .is (.bool true))] [1] [pT w.heap.size] [⟨w.heap.size, F.a.toList, true⟩] [(1, 0)] (atR pkC 5) [(.bool (c.kind == 1), .bool true)] [] hW4 (by subst hF; kernel_rfl) ⟨congrArg Value.bool (by simpa using hk1), trivial⟩ trivial ?_
    intro w5 hW5 _
    have hs5 := hW5.keep.size
    refine drawn_ok (gt := fun _ => Option.none) [(2, .call (fuS w5.heap.size (bytes2 n))), (5, .by (fbS w5.heap.size (bytes2 n ++ c.body))), (6, .by (fbS w5.heap.size (bytes2 n ++ c.body)))]
      [1, 4] [.is (pT w.heap.size), fbS w5.heap.size (bytes2 n ++ c.body)] [] [(43, [.is (.int .i64 c.typ)], fuS w5.heap.size (bytes2 n))] []
      [(.call { callee := .builtin .append, args := #[.tmp 21, .tmp 23], argTypes := #[26, 26] }, 26, [(21, fuS w5.heap.size (bytes2 n)), (23, .is (.slice bo bn bc))], fbS w5.heap.size (bytes2 n ++ c.body)),
       (.assign (.tmp 24), 26, [(24, fbS w5.heap.size (bytes2 n ++ c.body))], fbS w5.heap.size (bytes2 n ++ c.body))] []
      hW5 (by subst hF; kernel_rfl) (by subst hF; kernel_rfl) trivial ⟨?_, trivial⟩ trivial
      ⟨by_app bt (Nat.le_refl _) (fun wx v k h => h) (fun wx v k h => by obtain rfl : v = _ := h; exact rb.keep0 (hW5.keep.trans k)) (by simp [bytes2]; omega), by_mv, trivial⟩ trivial ?_
    · rintro wx vals k ha
      obtain ⟨x, rfl, h1⟩ := allOk1 ha
      obtain rfl : x = .int .i64 c.typ := h1
      rw [hn]
      exact (words_any (w := wx) n).mono fun e w' ⟨v, h1, h2, h3, h4⟩ => ⟨v, h1, h3, h2, h4.mono k.size⟩
    intro w6 vs k6 hok
    obtain ⟨y, x, rfl, hy, hx⟩ := allOk2 hok
    obtain rfl : y = pT w.heap.size := hy
    have hW6 := hW5.later k6
    refine put_end hF rt hl hk h1 h2 (by rw [eb]; simp [bytes2]; omega) w6 hW6 x ?_ (by kernel_rfl)
    rw [eb]
    exact ⟨hx.1, hx.2.2, Ap.fresh hW5 hx.2.1⟩
  · have eb : behR c = [bytes2 (cntR c).length, cntR c, c.rest].flatten := by unfold behR; rw [if_neg hk1]; simp
    have hcl := cnt_le c
    refine go_call_is (gt := fun _ => Option.none) (unroll := false) 60 [(4, 2, .is (.bool false))] 44 [.agg F.a] [1] [pT w.heap.size] 26 [⟨w.heap.size, F.a.toList, true⟩] [(1, 0)] (inR pkC 6 1) [(.bool (c.kind == 1), .bool false)] [] hW4 (by subst hF; kernel_rfl) ⟨congrArg Value.bool (by simpa using hk1), trivial⟩ trivial ?_
    intro w5 hW5 _
    refine (counted_any hF (rb.keep0 hW5.keep) (by omega) (fun h => may_typ3 h2 h)).mono ?_
    rintro e w6 ⟨vc, rfl, k6, hc⟩
    refine ⟨_, rfl, ?_⟩
    have hW6 := hW5.later k6
    have Hc : HdB [⟨w.heap.size, F.a.toList, true⟩] w6 vc (cntR c) := ⟨hc.1, hc.2.2, Ap.fresh hW5 hc.2.1⟩
    refine go_stop (gt := fun _ => Option.none) (unroll := false) 60 [] [1, 5] [pT w.heap.size, vc] [⟨w.heap.size, F.a.toList, true⟩] [(1, 0)] (atR pkC 7) [] [] hW6 (by kernel_rfl) trivial trivial ?_
    intro w7 hW7 hS7
    have Hc7 := Hc.pass0 hS7
    have hs7 := hW7.keep.size
    refine drawn_ok (gt := fun _ => Option.none) [(1, .sem (.int .i64 ((cntR c).length : Nat))), (2, .call (fuS w7.heap.size (bytes2 (cntR c).length))), (6, .by (slsS [bytes2 (cntR c).length, cntR c, c.rest])), (7, .call (fbS w7.heap.size [bytes2 (cntR c).length, cntR c, c.rest].flatten)), (8, .by (fbS w7.heap.size [bytes2 (cntR c).length, cntR c, c.rest].flatten))]
      [1, 4] [.is (pT w.heap.size), fbS w7.heap.size [bytes2 (cntR c).length, cntR c, c.rest].flatten] [] [(43, [.is (.int .i64 ((cntR c).length : Nat))], fuS w7.heap.size (bytes2 (cntR c).length)), (45, [slsS [bytes2 (cntR c).length, cntR c, c.rest]], fbS w7.heap.size [bytes2 (cntR c).length, cntR c, c.rest].flatten)] []
      [(.buildSlice 103 3 #[(0, .tmp 29), (1, .tmp 30), (2, .tmp 32)], 103, [(29, fuS w7.heap.size (bytes2 (cntR c).length)), (30, .is vc), (32, .is (.slice ro rn rc))], slsS [bytes2 (cntR c).length, cntR c, c.rest]),
       (.assign (.tmp 34), 26, [(34, fbS w7.heap.size [bytes2 (cntR c).length, cntR c, c.rest].flatten)], fbS w7.heap.size [bytes2 (cntR c).length, cntR c, c.rest].flatten)]
      [(Builtin.len_ #[26] 3 #[vc], .int .i64 ((cntR c).length : Nat))]
      hW7 (by subst hF; kernel_rfl) (by subst hF; kernel_rfl) trivial ⟨?_, concat_ob (Nat.le_refl _) (by simp) (by simp [bytes2]; omega), trivial⟩ trivial
      ⟨by_sls3 (fun wx v k h => by obtain ⟨⟨b, o, _, h, _⟩, _⟩ : Fu wx v (bytes2 (cntR c).length) ∧ Since w7.heap.size v := h; exact h) (fun wx v k h => by obtain rfl : v = _ := h; exact Hc7.rd.keep0 k) (fun wx v k h => by obtain rfl : v = _ := h; exact rr.keep0 (hW7.keep.trans k)), by_mv, trivial⟩ ⟨fun wx _ => Hc7.rd.run_len (ty := 3) bt.sl, trivial⟩ ?_
    · rintro wx vals k ha
      obtain ⟨x, rfl, h1⟩ := allOk1 ha
      obtain rfl : x = .int .i64 ((cntR c).length : Nat) := h1
      exact (words_any (w := wx) (cntR c).length).mono fun e w' ⟨v, h1, h2, h3, h4⟩ => ⟨v, h1, h3, h2, h4.mono k.size⟩
    intro w8 vs k8 hok
    obtain ⟨y, x, rfl, hy, hx⟩ := allOk2 hok
    obtain rfl : y = pT w.heap.size := hy
    have hW8 := hW7.later k8
    refine put_end hF rt hl hk h1 h2 (by rw [eb]; simp [bytes2]; omega) w8 hW8 x ?_ (by kernel_rfl)
    rw [eb]
    exact ⟨hx.1, hx.2.2, Ap.fresh hW7 hx.2.1⟩
end
end Go.Proofs.YtcimfojbggckhaaDoor
namespace Go.Proofs.YtcimfojbggckhaaDoor
open Go.RowKit

/-- What few leaves of a frame. -/
def fewR (c : Fi) : Fi := { c with tags := (c.tags.drop 0).take (mn c.tags.length 4 - 0), body := (c.body.drop 0).take (mn c.body.length 1600 - 0), rest := (c.rest.drop 0).take (mn c.rest.length 1600 - 0) }
theorem Rt.sem_cutH {P : Program} {w : World} {v : Value} {l : List Tg} {t e : TypeId} (r : Rt w v l) (T : ET P t e) {a : Nat} (h1 : a ≤ l.length) (wx : World) : (Instr.sliceAt t v none (some (.int .i64 (a : Int))) none).run P wx = .ok (cuts 4 v 0 a) wx := by
  obtain ⟨d, hd, hr⟩ := T.st
  obtain ⟨ao, cap, rfl, hc, _⟩ := r.shape
  simp [Instr.sliceAt, Instr.slice, run_underlying T.sl, Instr.sliceBounds, run_bound a cap (by omega), size_of T.size, cuts]
/-- 'append' onto nil within a region. -/
theorem by_nilapp {P : Program} {S0 : Nat → Prop} {w0 : World} {N : Nat} {t e : TypeId} {x : Tmp} {ty : TypeId} {s : Value} {ys : List UInt8} (T : BT P t e) (hN : N ≤ w0.heap.size) (hr : ∀ wx, Keep S0 w0 wx → Rd wx s ys) (hn : ys.length ≤ 140737488351232) :
    ByM P S0 w0 (.call { callee := .builtin .append, args := #[.const (.slice none 0 0), .tmp x], argTypes := #[t, t] }) ty [(x, .is s)] (frB N ys) := by
  intro a o g w ho hty hk hb hrd
  have ex : a.tmps.getD x undef = s := hrd (x, .is s) (by simp)
  obtain ⟨v', w', hrun, ho', k', hbl, _⟩ := run_append_b (P := P) T 0 (Own.nil e w) (hr w hk) (by simpa using hn)
  rw [List.nil_append] at ho'
  have hrun : ∀ ty, (Builtin.append_ #[t, t] ty #[.slice none 0 0, s]).run P w = .ok v' w' := fun ty => hrun
  have he : (execOp a.eval o).run P w = .ok (.value v') w' := by
    unfold execOp
    simp only [ho, resolve, invoke, builtin, Sem.run_bind, Sem.run_pure, Result.andThen_ok, List.map_toArray, List.map_cons, List.map_nil]
    rw [show a.eval (.tmp x) = s from ex, show a.eval (.const (.slice none 0 0)) = .slice none 0 0 from rfl, hrun]
    rfl
  rw [he]
  have hbl' : ∀ b, v'.ownBlock = some b → b = w.heap.size := fun b hb' => by
    rcases hbl with h | h <;> rw [h] at hb'
    · simp [Value.ownBlock] at hb'
    · exact (Option.some.inj hb').symm
  exact ⟨k'.mono fun q _ h => by simp [Value.ownBlock] at h, ho'.rd, fun b hb' => by rw [hbl' b hb']; exact Nat.le_trans hN hk.size, fun b hb' => ⟨ho'.lt b hb', fun hp => by have := (hb b hp).1; have := hbl' b hb'; omega⟩⟩
noncomputable abbrev fwC : Code := bodyOf Tryd.f13
/-- The frame behind few: it lies in new memory. -/
structure FewF (w : World) (F : Fr) (c : Fi) (w' : World) : Prop where
  cells : F.a = (c.f F.tags F.body F.rest).a
  t : Rt w' F.tags c.tags
  b : Rd w' F.body c.body
  r : Rd w' F.rest c.rest
  keep : Keep No w w'
  st : Since w.heap.size F.tags
  sb : Since w.heap.size F.body
  sr : Since w.heap.size F.rest
  lt : Under w'.heap.size F.tags
  lb : Under w'.heap.size F.body
  lr : Under w'.heap.size F.rest
theorem FewF.hd {W0 w w' : World} {rows : List RowS} {F : Fr} {c : Fi} (h : FewF w F c w') (hW : Wst W0 ⟨rows, w.heap.size⟩ w) : HdF rows w' F c := ⟨h.cells, ⟨h.t, h.lt, Ap.fresh hW h.st⟩, ⟨h.b, h.lb, Ap.fresh hW h.sb⟩, ⟨h.r, h.lr, Ap.fresh hW h.sr⟩⟩
section
variable {w : World} {c : Fi} {F : Fr} {to bo ro : Option Addr} {tn tc bn bc rn rc : Nat}
set_option maxRecDepth 8000 in
theorem few_any (hF : fiCells c to tn tc bo bn bc ro rn rc = F) (rt : Rt w (.slice to tn tc) c.tags) (rb : Rd w (.slice bo bn bc) c.body) (rr : Rd w (.slice ro rn rc) c.rest) :
    Calls Tryd.prog 13 #[.agg F.a] w fun x w' => ∃ G, x = .returned (.agg G.a) ∧ FewF w G (fewR c) w' := by
  have hm := mn_le_left c.tags.length 4
  have hm4 := mn_le_right c.tags.length 4
  have hmb := mn_le_right c.body.length 1600
  have hmr := mn_le_right c.rest.length 1600
  have rx : ∀ {wx : World}, Rt wx (.slice to tn tc) c.tags → Rt wx (cuts 4 (.slice to tn tc) 0 (mn c.tags.length 4)) ((c.tags.drop 0).take (mn c.tags.length 4 - 0)) := fun r => r.cut (Nat.zero_le _) hm
  refine enter (args := [.agg F.a]) Tryd.func13 (by kernel_rfl) ?_
  refine go_appX (gt := fun _ => Option.none) (unroll := false) 100 [(1, 4, .sem (.int .i64 (c.tags.length : Int))), (1, 5, .sem (.int .i64 (mn c.tags.length 4 : Nat))), (1, 6, .sem (cuts 4 (.slice to tn tc) 0 (mn c.tags.length 4))), (1, 7, .stop)] nilV (cuts 4 (.slice to tn tc) 0 (mn c.tags.length 4)) 24 [1, 2] [pT w.heap.size, pT (w.heap.size + 1)] 10 [⟨w.heap.size, F.a.toList, true⟩, ⟨w.heap.size + 1, fr0.a.toList, true⟩] [(1, 0), (2, 1)] (inR fwC 1 7) []
    [(Builtin.len_ #[24] 3 #[.slice to tn tc], .int .i64 (c.tags.length : Int)), (Builtin.min_ #[3, 3] 3 #[.int .i64 (c.tags.length : Int), .int .i64 4], .int .i64 (mn c.tags.length 4 : Nat)), (Instr.sliceAt 24 (.slice to tn tc) Option.none (some (.int .i64 (mn c.tags.length 4 : Nat))) Option.none, cuts 4 (.slice to tn tc) 0 (mn c.tags.length 4))]
    (Wst.start0 w) (by subst hF; kernel_rfl) trivial ⟨fun wx _ => rt.sem_len ett (ty := 3) wx, fun wx _ => run_mn #[3, 3] 3 c.tags.length 4, fun wx _ => rt.sem_cutH ett hm wx, trivial⟩ ?_
  intro w1 hW1 _
  have hs1 := hW1.keep.size
  have hlt1 : w.heap.size < w1.heap.size := by obtain ⟨t, ht⟩ := hW1.rows ⟨w.heap.size, F.a.toList, true⟩ (by simp); exact block_of_row ht
  obtain ⟨vt, w2, hrun, hot, k2, hbl⟩ := run_append_t ett (Ot.nil 57 w1) (rx (rt.keep0 hW1.keep)) (by simp; omega)
  rw [List.nil_append] at hot
  refine ⟨vt, w2, hrun, ?_⟩
  have k12 : Keep No w1 w2 := k2.mono fun q _ h => by simp [Value.ownBlock] at h
  have hW2 := hW1.later k12
  have hst : Since w1.heap.size vt := fun b hb => by
    rcases hbl with h | h <;> rw [h] at hb
    · simp [Value.ownBlock] at hb
    · have := Option.some.inj hb; omega
  have Ht : Hd [⟨w.heap.size, F.a.toList, true⟩, ⟨w.heap.size + 1, fr0.a.toList, true⟩] w2 vt ((c.tags.drop 0).take (mn c.tags.length 4 - 0)) := ⟨hot.rt, hot.lt, Ap.fresh hW1 hst⟩
  obtain ⟨uo, un, uc, rfl⟩ := hot.form
  obtain ⟨F1, hF1⟩ : ∃ F1, fiCells c uo un uc bo bn bc ro rn rc = F1 := ⟨_, rfl⟩
  refine go_stop (gt := fun _ => Option.none) (unroll := false) 60 [] [1, 2] [pT w.heap.size, pT (w.heap.size + 1)] [⟨w.heap.size, F1.a.toList, true⟩, ⟨w.heap.size + 1, fr0.a.toList, true⟩] [(1, 0), (2, 1)] (atR fwC 2) [] [] hW2 (by subst hF hF1; kernel_rfl) trivial trivial ?_
  intro w5 hW5 hS5
  have hs5 := hS5.le
  have k25 : w2.heap.size ≤ w5.heap.size := hs5
  have hs12 := k12.size
  have hs5 : w1.heap.size ≤ w5.heap.size := Nat.le_trans hs12 k25
  have Ht5 : Rt w5 (.slice uo un uc) ((c.tags.drop 0).take (mn c.tags.length 4 - 0)) := Ht.rt.same fun b hb _ => hS5.same b ⟨Ht.lt b hb, fun r hr _ => Ht.ap b hb r hr⟩
  have Hl5 : Under w5.heap.size (.slice uo un uc) := Ht.lt.mono k25
  have hnp : ∀ b, (Value.slice uo un uc).ownBlock = some b → b ≠ w.heap.size ∧ b ≠ w.heap.size + 1 := fun b hb => ⟨fun e => Ht.ap b hb ⟨w.heap.size, F.a.toList, true⟩ (by simp) e.symm, fun e => Ht.ap b hb ⟨w.heap.size + 1, fr0.a.toList, true⟩ (by simp) e.symm⟩
  have hrow5 : rowAt w.heap.size F1 w5 := hW5.rows ⟨w.heap.size, F1.a.toList, true⟩ (by simp)
  have hW5' : Wst w ⟨[⟨w.heap.size + 1, fr0.a.toList, true⟩], w5.heap.size⟩ w5 := ⟨rfl, fun r hr => hW5.rows r (by obtain rfl := List.mem_singleton.1 hr; simp), by simp, fun r hr ho => hW5.own r (by obtain rfl := List.mem_singleton.1 hr; simp) ho, hW5.keep⟩
  have hKN : ∀ wx, Keep (One w.heap.size) w5 wx → Keep No w wx := fun wx k => hW5.keep.trans' k (fun i hi h => by rw [show i = w.heap.size from h] at hi; omega)
  have rbx : ∀ wx, Keep (One w.heap.size) w5 wx → Rd wx (.slice bo bn bc) c.body := fun wx k => rb.keep0 (hKN wx k)
  have rrx : ∀ wx, Keep (One w.heap.size) w5 wx → Rd wx (.slice ro rn rc) c.rest := fun wx k => rr.keep0 (hKN wx k)
  obtain ⟨lb, hlb⟩ : ∃ lb, (c.body.drop 0).take (mn c.body.length 1600 - 0) = lb := ⟨_, rfl⟩
  obtain ⟨lr, hlr⟩ : ∃ lr, (c.rest.drop 0).take (mn c.rest.length 1600 - 0) = lr := ⟨_, rfl⟩
  have hll : ∀ {wx : World}, Loose w ⟨[⟨w.heap.size + 1, fr0.a.toList, true⟩], wx.heap.size⟩ (One w.heap.size) := fun q hq => ⟨by rw [show q = w.heap.size from hq]; exact Nat.le_refl _, fun r hr => by obtain rfl := List.mem_singleton.1 hr; rw [show q = w.heap.size from hq]; show w.heap.size + 1 ≠ w.heap.size; omega⟩
  refine Goal.re (tags := tagL [(2, 0)]) (m := ⟨[⟨w.heap.size + 1, fr0.a.toList, true⟩], w5.heap.size⟩) ?_
  refine drawnM_ok (S0 := One w.heap.size) (gt := fun _ => Option.none) (D := CaD w.heap.size F1 w5.heap.size lb lr) (g0 := ⟨False, undef, One w.heap.size⟩)
    [(1, .early (.is (.slice bo bn bc))), (3, .early (.is (.slice bo bn bc))), (4, .sem (.int .i64 (c.body.length : Int))), (5, .sem (.int .i64 (mn c.body.length 1600 : Nat))), (6, .sem (cutv (.slice bo bn bc) 0 (mn c.body.length 1600))), (7, .by (frB w5.heap.size lb)), (9, .early (.is (.slice ro rn rc))), (11, .early (.is (.slice ro rn rc))), (12, .sem (.int .i64 (c.rest.length : Int))), (13, .sem (.int .i64 (mn c.rest.length 1600 : Nat))), (14, .sem (cutv (.slice ro rn rc) 0 (mn c.rest.length 1600))), (15, .by (frB w5.heap.size lr)), (17, .act (.is undef)), (19, .act (.is undef))]
    [1, 2] [.is (pT w.heap.size), .is (pT (w.heap.size + 1))]
    (True ∧
      EarlyM Tryd.prog (One w.heap.size) w5 (CaD w.heap.size F1 w5.heap.size lb lr) (.load 26 (.tmp 12)) 26 [(12, .is (.pointer (some ⟨w.heap.size, 21, none⟩)))] (.is (.slice bo bn bc)) ∧
      True ∧
      EarlyM Tryd.prog (One w.heap.size) w5 (CaD w.heap.size F1 w5.heap.size lb lr) (.load 26 (.tmp 14)) 26 [(14, .is (.pointer (some ⟨w.heap.size, 21, none⟩)))] (.is (.slice bo bn bc)) ∧
      SemM Tryd.prog (One w.heap.size) w5 (Builtin.len_ #[26] 3 #[.slice bo bn bc]) (.int .i64 (c.body.length : Int)) ∧
      SemM Tryd.prog (One w.heap.size) w5 (Builtin.min_ #[3, 3] 3 #[.int .i64 (c.body.length : Int), .int .i64 1600]) (.int .i64 (mn c.body.length 1600 : Nat)) ∧
      SemM Tryd.prog (One w.heap.size) w5 (Instr.sliceAt 26 (.slice bo bn bc) Option.none (some (.int .i64 (mn c.body.length 1600 : Nat))) Option.none) (cutv (.slice bo bn bc) 0 (mn c.body.length 1600)) ∧
      ByM Tryd.prog (One w.heap.size) w5 (.call { callee := .builtin .append, args := #[.const (.slice none 0 0), .tmp 18], argTypes := #[26, 26] }) 26 [(18, .is (cutv (.slice bo bn bc) 0 (mn c.body.length 1600)))] (frB w5.heap.size lb) ∧
      True ∧
      EarlyM Tryd.prog (One w.heap.size) w5 (CaD w.heap.size F1 w5.heap.size lb lr) (.load 26 (.tmp 20)) 26 [(20, .is (.pointer (some ⟨w.heap.size, 22, none⟩)))] (.is (.slice ro rn rc)) ∧
      True ∧
      EarlyM Tryd.prog (One w.heap.size) w5 (CaD w.heap.size F1 w5.heap.size lb lr) (.load 26 (.tmp 22)) 26 [(22, .is (.pointer (some ⟨w.heap.size, 22, none⟩)))] (.is (.slice ro rn rc)) ∧
      SemM Tryd.prog (One w.heap.size) w5 (Builtin.len_ #[26] 3 #[.slice ro rn rc]) (.int .i64 (c.rest.length : Int)) ∧
      SemM Tryd.prog (One w.heap.size) w5 (Builtin.min_ #[3, 3] 3 #[.int .i64 (c.rest.length : Int), .int .i64 1600]) (.int .i64 (mn c.rest.length 1600 : Nat)) ∧
      SemM Tryd.prog (One w.heap.size) w5 (Instr.sliceAt 26 (.slice ro rn rc) Option.none (some (.int .i64 (mn c.rest.length 1600 : Nat))) Option.none) (cutv (.slice ro rn rc) 0 (mn c.rest.length 1600)) ∧
      ByM Tryd.prog (One w.heap.size) w5 (.call { callee := .builtin .append, args := #[.const (.slice none 0 0), .tmp 26], argTypes := #[26, 26] }) 26 [(26, .is (cutv (.slice ro rn rc) 0 (mn c.rest.length 1600)))] (frB w5.heap.size lr) ∧
      True ∧
      ActM Tryd.prog (One w.heap.size) w5 (CaD w.heap.size F1 w5.heap.size lb lr) 0 (.store 26 (.tmp 28) (.tmp 19)) 0 [(28, .is (.pointer (some ⟨w.heap.size, 21, none⟩))), (19, frB w5.heap.size lb)] (.is undef) ∧
      True ∧
      ActM Tryd.prog (One w.heap.size) w5 (CaD w.heap.size F1 w5.heap.size lb lr) 1 (.store 26 (.tmp 29) (.tmp 27)) 0 [(29, .is (.pointer (some ⟨w.heap.size, 22, none⟩))), (27, frB w5.heap.size lr)] (.is undef) ∧
      True)
    2 (afterR fwC 2) hW5' hll (by subst hF1; kernel_rfl) (by subst hF1; kernel_rfl) (by subst hF1; kernel_rfl) CaD.keep (fun k h => ⟨by rw [show k = w.heap.size from h]; obtain ⟨t, ht⟩ := hrow5; exact block_of_row ht, fun _ => h⟩) ⟨rfl, hrow5⟩
    (by subst hlb hlr; exact ⟨trivial, early_loadO (cs := F1.a.toList) (fun g w h => h.2) [(w.heap.size, w.heap.size)] (fun q hq => by obtain rfl := List.mem_singleton.1 hq; rfl) (fun nx => by subst hF1; kernel_rfl), trivial, early_loadO (cs := F1.a.toList) (fun g w h => h.2) [(w.heap.size, w.heap.size)] (fun q hq => by obtain rfl := List.mem_singleton.1 hq; rfl) (fun nx => by subst hF1; kernel_rfl), fun wx _ => rb.run_len (ty := 3) bt.sl, fun wx _ => run_mn #[3, 3] 3 c.body.length 1600, fun wx _ => rb.sem_cutH (mn_le_left _ _) wx, by_nilapp bt (Nat.le_refl _) (fun wx k => (rbx wx k).cut (Nat.zero_le _) (mn_le_left _ _)) (by simp; omega), trivial, early_loadO (cs := F1.a.toList) (fun g w h => h.2) [(w.heap.size, w.heap.size)] (fun q hq => by obtain rfl := List.mem_singleton.1 hq; rfl) (fun nx => by subst hF1; kernel_rfl), trivial, early_loadO (cs := F1.a.toList) (fun g w h => h.2) [(w.heap.size, w.heap.size)] (fun q hq => by obtain rfl := List.mem_singleton.1 hq; rfl) (fun nx => by subst hF1; kernel_rfl), fun wx _ => rr.run_len (ty := 3) bt.sl, fun wx _ => run_mn #[3, 3] 3 c.rest.length 1600, fun wx _ => rr.sem_cutH (mn_le_left _ _) wx, by_nilapp bt (Nat.le_refl _) (fun wx k => (rrx wx k).cut (Nat.zero_le _) (mn_le_left _ _)) (by simp; omega), trivial, ca_store1 hKN (Nat.le_refl _) (fun ao n c nx => by subst hF1; kernel_rfl), trivial, ca_store2 hKN (Nat.le_refl _) (fun bo bn bc ao n c nx => by subst hF1; kernel_rfl), trivial⟩) ?_
  intro g w6 vs k6 _ hd hok
  obtain rfl := allOkM_is (vs := [pT w.heap.size, pT (w.heap.size + 1)]) hok
  obtain ⟨_, vb, vr, ⟨t6, hrow6⟩, bb, br⟩ := hd
  obtain ⟨xo, xn, xc, rfl⟩ := bb.rd.form
  obtain ⟨yo, yn, yc, rfl⟩ := br.rd.form
  have hW6 := (hW5'.laterS k6 hll).addRow hrow6 (Nat.le_refl _) (fun r hr => by obtain rfl := List.mem_singleton.1 hr; show w.heap.size + 1 ≠ w.heap.size; omega)
  have Ht6 : Rt w6 (.slice uo un uc) ((c.tags.drop 0).take (mn c.tags.length 4 - 0)) := Ht5.keep k6 (fun b hb e => (hnp b hb).1 e)
  have hs6 := k6.size
  refine Goal.re (tags := tagL [(1, 1), (2, 0)]) (m := ⟨[⟨w.heap.size + 1, fr0.a.toList, true⟩] ++ [⟨w.heap.size, ({ F1 with body := .slice xo xn xc, rest := .slice yo yn yc } : Fr).a.toList, true⟩], w6.heap.size⟩) ?_
  refine go_ret (gt := fun _ => Option.none) (unroll := false) 60 [] [.cell 2 28] (.agg (fiCells c uo un uc xo xn xc yo yn yc).a) [] [] hW6 Tryd.results13 (by subst hF1; kernel_rfl) trivial trivial ?_
  intro w9 hW9 hS9
  have hs9 : w6.heap.size ≤ w9.heap.size := by rw [hW9.size]; exact hS9.le
  have hlt5 : w.heap.size + 1 < w5.heap.size := by obtain ⟨t, ht⟩ := hW5.rows ⟨w.heap.size + 1, fr0.a.toList, true⟩ (by simp); exact block_of_row ht
  have sf : ∀ {b : Nat}, b < w6.heap.size → b ≠ w.heap.size → b ≠ w.heap.size + 1 → Safe ⟨[⟨w.heap.size + 1, fr0.a.toList, true⟩] ++ [⟨w.heap.size, ({ F1 with body := .slice xo xn xc, rest := .slice yo yn yc } : Fr).a.toList, true⟩], w6.heap.size⟩ b := fun h1 h2 h3 => ⟨h1, fun q hq _ e => by
    simp only [List.cons_append, List.nil_append, List.mem_cons, List.not_mem_nil, or_false] at hq
    rcases hq with rfl | rfl
    · exact h3 e.symm
    · exact h2 e.symm⟩
  have h05 : w.heap.size ≤ w5.heap.size := hW5.keep.size
  have sfB : ∀ {z : Value}, Since w5.heap.size z → Under w6.heap.size z → ∀ b, z.ownBlock = some b → Safe ⟨[⟨w.heap.size + 1, fr0.a.toList, true⟩] ++ [⟨w.heap.size, ({ F1 with body := .slice xo xn xc, rest := .slice yo yn yc } : Fr).a.toList, true⟩], w6.heap.size⟩ b := fun hs hu b hb => by have h1 := hs b hb; exact sf (hu b hb) (by omega) (by omega)
  subst hlb hlr
  exact ⟨_, rfl, rfl, Ht6.same fun b hb _ => hS9.same b (sf (Nat.lt_of_lt_of_le (Hl5 b hb) hs6) (hnp b hb).1 (hnp b hb).2), bb.rd.safe (sfB bb.si bb.lt) hS9.same, br.rd.safe (sfB br.si br.lt) hS9.same, hW9.keep, fun b hb => Nat.le_trans hs1 (hst b hb), bb.si.mono h05, br.si.mono h05, Hl5.mono (Nat.le_trans hs6 hs9), bb.lt.mono hs9, br.lt.mono hs9⟩
end
end Go.Proofs.YtcimfojbggckhaaDoor
namespace Go.Proofs.YtcimfojbggckhaaDoor
open Go.RowKit

def pOk (c : Fi) : Bool := (c.kind == 1) || ((c.kind == 3) && zero3 c.oui)
theorem neq_z3 (w : World) (x y : Operand) (a : List UInt8) : (do eqGuard .neq 25 x y (a3 a) (a3 []); binOp .neq 25 (a3 a) (a3 []) : Sem Value).run Tryd.prog w = .ok (.bool (!zero3 a)) w := by
  have h4 : (eqGuard .neq 25 x y (a3 a) (a3 [])).run Tryd.prog w = .ok () w := aRun_none (l := []) (by kernel_rfl)
  simp only [Sem.run_bind, h4, Result.andThen_ok]
  exact run_neq_a3 w a []
theorem bt_nil (i : Nat) : byteAt [] i = 0 := rfl
theorem u8_eq (x y : UInt8) : (((x.toNat : Nat) : Int) == ((y.toNat : Nat) : Int)) = (x == y) := by
  rw [Bool.eq_iff_iff, beq_iff_eq, beq_iff_eq]
  exact ⟨fun h => UInt8.toNat_inj.1 (by omega), fun h => by rw [h]⟩
theorem allOk3 {s t u : Sv} {w : World} {l : List Value} (h : allOk [s, t, u] w l) : ∃ x y z, l = [x, y, z] ∧ s.ok w x ∧ t.ok w y ∧ u.ok w z := by
  match l, h with
  | [x, y, z], hx => exact ⟨x, y, z, rfl, hx.1, hx.2.1, hx.2.2.1⟩
noncomputable abbrev fpC : Code := bodyOf Tryd.f17
noncomputable abbrev rpC : Code := bodyOf Tryd.f18
abbrev fpQ (w : World) (c : Fi) : Ending → World → Prop := fun x w' => ∃ v, x = .returned (.tuple #[.int .i64 (if pOk c then c.typ else 0), v, .bool (pOk c)]) ∧ Keep No w w' ∧ (fbS w.heap.size (if pOk c then c.body else [])).ok w' v
abbrev rpQ (w : World) (c : Fi) (vb : Value) : Ending → World → Prop := fun x w' => x = .returned (.tuple #[.int .i64 (if pOk c then c.typ else 0), if pOk c then vb else nilV, .bool (pOk c)]) ∧ Keep No w w'
section
variable {w : World} {c : Fi} {F : Fr} {to bo ro : Option Addr} {tn tc bn bc rn rc : Nat}
theorem fp_end (hF : fiCells c to tn tc bo bn bc ro rn rc = F) (rb : Rd w (.slice bo bn bc) c.body) (hb : c.body.length ≤ 1099511627776) (hp : pOk c = true) (w1 : World) (hW1 : Wst w ⟨[⟨w.heap.size, F.a.toList, true⟩], w1.heap.size⟩ w1) :
    Goal Tryd.prog (bodyPost Tryd.prog Tryd.f17 (fpQ w c)) Tryd.f17.ntmps ⟨frOf [1] [pT w.heap.size], tagL [(1, 0)], ⟨[⟨w.heap.size, F.a.toList, true⟩], w1.heap.size⟩, atR fpC 3⟩ w1 := by
  refine drawn_ok (gt := fun _ => Option.none) [(4, .call (fbS w1.heap.size c.body)), (6, .by (fbS w1.heap.size c.body))] [2, 3, 4] [.is (.int .i64 c.typ), fbS w1.heap.size c.body, .is (.bool true)] [] [(48, [.is (.slice bo bn bc)], fbS w1.heap.size c.body)] []
    [(.assign (.tmp 23), 26, [(23, fbS w1.heap.size c.body)], fbS w1.heap.size c.body)] [] hW1 (by subst hF; kernel_rfl) (by subst hF; kernel_rfl) trivial ⟨?_, trivial⟩ trivial ⟨by_mv, trivial⟩ trivial ?_
  · rintro wx vals k ha
    obtain ⟨x, rfl, h1⟩ := allOk1 ha
    obtain rfl : x = .slice bo bn bc := h1
    exact (sclone_any _ _ _ (rb.keep0 (hW1.keep.trans k)) (by omega)).mono fun e w' ⟨v, h1, h2, _⟩ => ⟨v, h1, h2.keep, h2.own.rd, h2.since.mono k.size, h2.own.lt⟩
  intro w2 vs k2 hok
  obtain ⟨x, y, z, rfl, hx, hy, hz⟩ := allOk3 hok
  obtain rfl : x = .int .i64 c.typ := hx
  obtain rfl : z = .bool true := hz
  have hW2 : Wst w ⟨[], w2.heap.size⟩ w2 := (hW1.later k2).fewer (rows := [])
  refine Goal.re (tags := tagL []) (m := ⟨[], w2.heap.size⟩) ?_
  refine go_ret (gt := fun _ => Option.none) (unroll := false) 60 [] [.tmp 2, .tmp 3, .tmp 4] (.tuple #[.int .i64 c.typ, y, .bool true]) [] [] hW2 Tryd.results17 (by kernel_rfl) trivial trivial (fun w9 hW9 hS9 => ⟨y, by rw [hp]; rfl, hW9.keep, ?_⟩)
  rw [hp, if_pos rfl]
  have hy' : (fbS w.heap.size c.body).ok w2 y := ⟨hy.1, hy.2.1.mono hW1.keep.size, hy.2.2⟩
  exact fb_seg hy' hS9 hW9
theorem proto_f (hF : fiCells c to tn tc bo bn bc ro rn rc = F) (rb : Rd w (.slice bo bn bc) c.body) (hb : c.body.length ≤ 1099511627776) : Calls Tryd.prog 17 #[.agg F.a] w (fpQ w c) := by
  refine enter (args := [.agg F.a]) Tryd.func17 (by kernel_rfl) ?_
  cases h1 : (c.kind != 1) with
  | false =>
    have hp : pOk c = true := by simp at h1; simp [pOk, h1]
    refine go_stop (gt := fun _ => Option.none) (unroll := false) 60 [(1, 2, .is (.bool false))] [1] [pT w.heap.size] [⟨w.heap.size, F.a.toList, true⟩] [(1, 0)] (atR fpC 3) [(.bool (c.kind != 1), .bool false)] [] (Wst.start0 w) (by subst hF; kernel_rfl) ⟨congrArg Value.bool h1, trivial⟩ trivial ?_
    intro w1 hW1 _
    exact fp_end hF rb hb hp w1 hW1
  | true =>
    cases h2 : (c.kind != 3) with
    | false =>
      cases h3 : zero3 c.oui with
      | false =>
        have hp : pOk c = false := by simp at h1 h2; simp [pOk, h2, h3]
        exact go_ret (gt := fun _ => Option.none) (unroll := false) 60 [(1, 2, .is (.bool true)), (1, 6, .is (.bool false)), (1, 11, .sem (.bool true))] [.tmp 2, .tmp 3, .tmp 4] (.tuple #[.int .i64 0, nilV, .bool false]) [(.bool (c.kind != 1), .bool true), (.bool (c.kind != 3), .bool false)] [((do eqGuard .neq 25 (.tmp 14) (.tmp 15) (a3 c.oui) (a3 []); binOp .neq 25 (a3 c.oui) (a3 []) : Sem Value), .bool true)] (Wst.start0 w) Tryd.results17 (by subst hF; kernel_rfl) ⟨congrArg Value.bool h1, congrArg Value.bool h2, trivial⟩ ⟨fun wx _ => (show (!zero3 c.oui) = true by rw [h3]; rfl) ▸ neq_z3 wx _ _ _, trivial⟩ (fun w9 hW9 _ => ⟨nilV, by rw [hp]; rfl, hW9.keep, by rw [hp]; exact ⟨Rd.nil _, nilV_since _, nilV_under _⟩⟩)
      | true =>
        have hp : pOk c = true := by simp at h1 h2; simp [pOk, h2, h3]
        refine go_stop (gt := fun _ => Option.none) (unroll := false) 60 [(1, 2, .is (.bool true)), (1, 6, .is (.bool false)), (1, 11, .sem (.bool false))] [1] [pT w.heap.size] [⟨w.heap.size, F.a.toList, true⟩] [(1, 0)] (atR fpC 3) [(.bool (c.kind != 1), .bool true), (.bool (c.kind != 3), .bool false)] [((do eqGuard .neq 25 (.tmp 14) (.tmp 15) (a3 c.oui) (a3 []); binOp .neq 25 (a3 c.oui) (a3 []) : Sem Value), .bool false)] (Wst.start0 w) (by subst hF; kernel_rfl) ⟨congrArg Value.bool h1, congrArg Value.bool h2, trivial⟩ ⟨fun wx _ => (show (!zero3 c.oui) = false by rw [h3]; rfl) ▸ neq_z3 wx _ _ _, trivial⟩ ?_
        intro w1 hW1 _
        exact fp_end hF rb hb hp w1 hW1
    | true =>
      have hp : pOk c = false := by simp at h1 h2; simp [pOk, h1, h2]
      exact go_ret (gt := fun _ => Option.none) (unroll := false) 60 [(1, 2, .is (.bool true)), (1, 6, .is (.bool true))] [.tmp 2, .tmp 3, .tmp 4] (.tuple #[.int .i64 0, nilV, .bool false]) [(.bool (c.kind != 1), .bool true), (.bool (c.kind != 3), .bool true)] [] (Wst.start0 w) Tryd.results17 (by subst hF; kernel_rfl) ⟨congrArg Value.bool h1, congrArg Value.bool h2, trivial⟩ trivial (fun w9 hW9 _ => ⟨nilV, by rw [hp]; rfl, hW9.keep, by rw [hp]; exact ⟨Rd.nil _, nilV_since _, nilV_under _⟩⟩)
theorem rp_end (hF : fiCells c to tn tc bo bn bc ro rn rc = F) (hp : pOk c = true) (w1 : World) (hW1 : Wst w ⟨[⟨w.heap.size, F.a.toList, true⟩], w1.heap.size⟩ w1) :
    Goal Tryd.prog (bodyPost Tryd.prog Tryd.f18 (rpQ w c (.slice bo bn bc))) Tryd.f18.ntmps ⟨frOf [1] [pT w.heap.size], tagL [(1, 0)], ⟨[⟨w.heap.size, F.a.toList, true⟩], w1.heap.size⟩, atR rpC 2⟩ w1 := by
  refine drawn_ok (gt := fun _ => Option.none) [] [2, 3, 4] [.is (.int .i64 c.typ), .is (.slice bo bn bc), .is (.bool true)] [] [] [] [] [] hW1 (by subst hF; kernel_rfl) (by subst hF; kernel_rfl) trivial trivial trivial trivial trivial ?_
  intro w2 vs k2 hok
  obtain rfl := allOk_is (vs := [.int .i64 c.typ, .slice bo bn bc, .bool true]) hok
  have hW2 := hW1.later k2
  exact go_ret (gt := fun _ => Option.none) (unroll := false) 60 [] [.tmp 2, .tmp 3, .tmp 4] (.tuple #[.int .i64 c.typ, .slice bo bn bc, .bool true]) [] [] hW2 Tryd.results18 (by kernel_rfl) trivial trivial (fun w9 hW9 hS9 => ⟨by rw [hp]; rfl, hW9.keep⟩)
theorem rproto_f (hF : fiCells c to tn tc bo bn bc ro rn rc = F) : Calls Tryd.prog 18 #[.agg F.a] w (rpQ w c (.slice bo bn bc)) := by
  refine enter (args := [.agg F.a]) Tryd.func18 (by kernel_rfl) ?_
  cases h1 : (c.kind == 1) with
  | false =>
    cases h2 : (c.kind == 3) with
    | false =>
      have hp : pOk c = false := by simp [pOk, zero3, bt_nil, h1, h2]
      exact go_ret (gt := fun _ => Option.none) (unroll := false) 60 [(1, 2, .is (.bool false)), (1, 6, .is (.bool false))] [.tmp 2, .tmp 3, .tmp 4] (.tuple #[.int .i64 0, nilV, .bool false]) [(.bool (c.kind == 1), .bool false), (.bool (c.kind == 3), .bool false)] [] (Wst.start0 w) Tryd.results18 (by subst hF; kernel_rfl) ⟨congrArg Value.bool h1, congrArg Value.bool h2, trivial⟩ trivial (fun w9 hW9 _ => ⟨by rw [hp]; rfl, hW9.keep⟩)
    | true =>
      cases z0 : (byteAt c.oui 0 == 0) with
      | false =>
        have hp : pOk c = false := by simp [pOk, zero3, bt_nil, h1, h2, z0]
        exact go_ret (gt := fun _ => Option.none) (unroll := false) 60 [(1, 2, .is (.bool false)), (1, 6, .is (.bool true)), (1, 11, .is (.bool false))] [.tmp 2, .tmp 3, .tmp 4] (.tuple #[.int .i64 0, nilV, .bool false]) [(.bool (c.kind == 1), .bool false), (.bool (c.kind == 3), .bool true), (.bool (((byteAt c.oui 0).toNat : Int) == 0), .bool false)] [] (Wst.start0 w) Tryd.results18 (by subst hF; kernel_rfl) ⟨congrArg Value.bool h1, congrArg Value.bool h2, congrArg Value.bool ((u8_eq _ 0).trans z0), trivial⟩ trivial (fun w9 hW9 _ => ⟨by rw [hp]; rfl, hW9.keep⟩)
      | true =>
        cases z1 : (byteAt c.oui 1 == 0) with
        | false =>
          have hp : pOk c = false := by simp [pOk, zero3, bt_nil, h1, h2, z0, z1]
          exact go_ret (gt := fun _ => Option.none) (unroll := false) 60 [(1, 2, .is (.bool false)), (1, 6, .is (.bool true)), (1, 11, .is (.bool true)), (1, 17, .is (.bool false))] [.tmp 2, .tmp 3, .tmp 4] (.tuple #[.int .i64 0, nilV, .bool false]) [(.bool (c.kind == 1), .bool false), (.bool (c.kind == 3), .bool true), (.bool (((byteAt c.oui 0).toNat : Int) == 0), .bool true), (.bool (((byteAt c.oui 1).toNat : Int) == 0), .bool false)] [] (Wst.start0 w) Tryd.results18 (by subst hF; kernel_rfl) ⟨congrArg Value.bool h1, congrArg Value.bool h2, congrArg Value.bool ((u8_eq _ 0).trans z0), congrArg Value.bool ((u8_eq _ 0).trans z1), trivial⟩ trivial (fun w9 hW9 _ => ⟨by rw [hp]; rfl, hW9.keep⟩)
        | true =>
          cases z2 : (byteAt c.oui 2 == 0) with
          | false =>
            have hp : pOk c = false := by simp [pOk, zero3, bt_nil, h1, h2, z0, z1, z2]
            exact go_ret (gt := fun _ => Option.none) (unroll := false) 60 [(1, 2, .is (.bool false)), (1, 6, .is (.bool true)), (1, 11, .is (.bool true)), (1, 17, .is (.bool true)), (1, 23, .is (.bool false))] [.tmp 2, .tmp 3, .tmp 4] (.tuple #[.int .i64 0, nilV, .bool false]) [(.bool (c.kind == 1), .bool false), (.bool (c.kind == 3), .bool true), (.bool (((byteAt c.oui 0).toNat : Int) == 0), .bool true), (.bool (((byteAt c.oui 1).toNat : Int) == 0), .bool true), (.bool (((byteAt c.oui 2).toNat : Int) == 0), .bool false)] [] (Wst.start0 w) Tryd.results18 (by subst hF; kernel_rfl) ⟨congrArg Value.bool h1, congrArg Value.bool h2, congrArg Value.bool ((u8_eq _ 0).trans z0), congrArg Value.bool ((u8_eq _ 0).trans z1), congrArg Value.bool ((u8_eq _ 0).trans z2), trivial⟩ trivial (fun w9 hW9 _ => ⟨by rw [hp]; rfl, hW9.keep⟩)
          | true =>
            have hp : pOk c = true := by simp [pOk, zero3, bt_nil, h1, h2, z0, z1, z2]
            refine go_stop (gt := fun _ => Option.none) (unroll := false) 60 [(1, 2, .is (.bool false)), (1, 6, .is (.bool true)), (1, 11, .is (.bool true)), (1, 17, .is (.bool true)), (1, 23, .is (.bool true))] [1] [pT w.heap.size] [⟨w.heap.size, F.a.toList, true⟩] [(1, 0)] (atR rpC 2) [(.bool (c.kind == 1), .bool false), (.bool (c.kind == 3), .bool true), (.bool (((byteAt c.oui 0).toNat : Int) == 0), .bool true), (.bool (((byteAt c.oui 1).toNat : Int) == 0), .bool true), (.bool (((byteAt c.oui 2).toNat : Int) == 0), .bool true)] [] (Wst.start0 w) (by subst hF; kernel_rfl) ⟨congrArg Value.bool h1, congrArg Value.bool h2, congrArg Value.bool ((u8_eq _ 0).trans z0), congrArg Value.bool ((u8_eq _ 0).trans z1), congrArg Value.bool ((u8_eq _ 0).trans z2), trivial⟩ trivial ?_
            intro w1 hW1 _
            exact rp_end hF hp w1 hW1
  | true =>
    have hp : pOk c = true := by simp [pOk, zero3, bt_nil, h1]
    refine go_stop (gt := fun _ => Option.none) (unroll := false) 60 [(1, 2, .is (.bool true))] [1] [pT w.heap.size] [⟨w.heap.size, F.a.toList, true⟩] [(1, 0)] (atR rpC 2) [(.bool (c.kind == 1), .bool true)] [] (Wst.start0 w) (by subst hF; kernel_rfl) ⟨congrArg Value.bool h1, trivial⟩ trivial ?_
    intro w1 hW1 _
    exact rp_end hF hp w1 hW1
end
end Go.Proofs.YtcimfojbggckhaaDoor
namespace Go.Proofs.YtcimfojbggckhaaDoor
open Go.RowKit

def refMay (t : Tg) : Bool := (((t.k : Int) == 34984) || ((t.k : Int) == 33024)) && (decide ((t.p : Int) ≤ 7) && decide ((t.v : Int) ≤ 4095))
theorem refMay_eq (t : Tg) : refMay t = mayT t := by
  simp only [refMay, mayT, kindsL, List.contains_cons, List.contains_nil, Bool.or_false, Bool.and_assoc]
  congr 2
  exact decide_eq_decide.2 (by omega)
section
variable {w : World}
theorem rmaytag_any (t : Tg) : Calls Tryd.prog 64 #[.agg t.a] w (blQ w (mayT t)) := by
  rw [← refMay_eq]
  refine enter (args := [.agg t.a]) Tryd.func64 (by kernel_rfl) ?_
  cases h1 : ((t.k : Int) == 34984) with
  | false =>
    cases h2 : ((t.k : Int) == 33024) with
    | false =>
      exact go_ret (gt := fun _ => Option.none) (unroll := false) 60 [(1, 2, .is (.bool false)), (1, 6, .is (.bool false))] [.tmp 2] (.bool false) [(.bool ((t.k : Int) == 34984), .bool false), (.bool ((t.k : Int) == 33024), .bool false)] [] (Wst.start0 w) Tryd.results64 (by kernel_rfl) ⟨congrArg Value.bool h1, congrArg Value.bool h2, trivial⟩ trivial (fun w9 hW9 _ => ⟨by simp only [refMay, h1, h2]; rfl, hW9.keep⟩)
    | true =>
      cases h3 : decide ((t.p : Int) ≤ 7) with
      | false =>
        exact go_ret (gt := fun _ => Option.none) (unroll := false) 60 [(1, 2, .is (.bool false)), (1, 6, .is (.bool true)), (1, 11, .is (.bool false))] [.tmp 2] (.bool false) [(.bool ((t.k : Int) == 34984), .bool false), (.bool ((t.k : Int) == 33024), .bool true), (.bool (decide ((t.p : Int) ≤ 7)), .bool false)] [] (Wst.start0 w) Tryd.results64 (by kernel_rfl) ⟨congrArg Value.bool h1, congrArg Value.bool h2, congrArg Value.bool h3, trivial⟩ trivial (fun w9 hW9 _ => ⟨by simp only [refMay, h1, h2, h3]; rfl, hW9.keep⟩)
      | true =>
        cases h4 : decide ((t.v : Int) ≤ 4095) with
        | false =>
          exact go_ret (gt := fun _ => Option.none) (unroll := false) 60 [(1, 2, .is (.bool false)), (1, 6, .is (.bool true)), (1, 11, .is (.bool true)), (1, 16, .is (.bool false))] [.tmp 2] (.bool false) [(.bool ((t.k : Int) == 34984), .bool false), (.bool ((t.k : Int) == 33024), .bool true), (.bool (decide ((t.p : Int) ≤ 7)), .bool true), (.bool (decide ((t.v : Int) ≤ 4095)), .bool false)] [] (Wst.start0 w) Tryd.results64 (by kernel_rfl) ⟨congrArg Value.bool h1, congrArg Value.bool h2, congrArg Value.bool h3, congrArg Value.bool h4, trivial⟩ trivial (fun w9 hW9 _ => ⟨by simp only [refMay, h1, h2, h3, h4]; rfl, hW9.keep⟩)
        | true =>
          exact go_ret (gt := fun _ => Option.none) (unroll := false) 60 [(1, 2, .is (.bool false)), (1, 6, .is (.bool true)), (1, 11, .is (.bool true)), (1, 16, .is (.bool true))] [.tmp 2] (.bool true) [(.bool ((t.k : Int) == 34984), .bool false), (.bool ((t.k : Int) == 33024), .bool true), (.bool (decide ((t.p : Int) ≤ 7)), .bool true), (.bool (decide ((t.v : Int) ≤ 4095)), .bool true)] [] (Wst.start0 w) Tryd.results64 (by kernel_rfl) ⟨congrArg Value.bool h1, congrArg Value.bool h2, congrArg Value.bool h3, congrArg Value.bool h4, trivial⟩ trivial (fun w9 hW9 _ => ⟨by simp only [refMay, h1, h2, h3, h4]; rfl, hW9.keep⟩)
  | true =>
    cases h3 : decide ((t.p : Int) ≤ 7) with
    | false =>
      exact go_ret (gt := fun _ => Option.none) (unroll := false) 60 [(1, 2, .is (.bool true)), (1, 11, .is (.bool false))] [.tmp 2] (.bool false) [(.bool ((t.k : Int) == 34984), .bool true), (.bool (decide ((t.p : Int) ≤ 7)), .bool false)] [] (Wst.start0 w) Tryd.results64 (by kernel_rfl) ⟨congrArg Value.bool h1, congrArg Value.bool h3, trivial⟩ trivial (fun w9 hW9 _ => ⟨by simp only [refMay, h1, h3]; rfl, hW9.keep⟩)
    | true =>
      cases h4 : decide ((t.v : Int) ≤ 4095) with
      | false =>
        exact go_ret (gt := fun _ => Option.none) (unroll := false) 60 [(1, 2, .is (.bool true)), (1, 11, .is (.bool true)), (1, 16, .is (.bool false))] [.tmp 2] (.bool false) [(.bool ((t.k : Int) == 34984), .bool true), (.bool (decide ((t.p : Int) ≤ 7)), .bool true), (.bool (decide ((t.v : Int) ≤ 4095)), .bool false)] [] (Wst.start0 w) Tryd.results64 (by kernel_rfl) ⟨congrArg Value.bool h1, congrArg Value.bool h3, congrArg Value.bool h4, trivial⟩ trivial (fun w9 hW9 _ => ⟨by simp only [refMay, h1, h3, h4]; rfl, hW9.keep⟩)
      | true =>
        exact go_ret (gt := fun _ => Option.none) (unroll := false) 60 [(1, 2, .is (.bool true)), (1, 11, .is (.bool true)), (1, 16, .is (.bool true))] [.tmp 2] (.bool true) [(.bool ((t.k : Int) == 34984), .bool true), (.bool (decide ((t.p : Int) ≤ 7)), .bool true), (.bool (decide ((t.v : Int) ≤ 4095)), .bool true)] [] (Wst.start0 w) Tryd.results64 (by kernel_rfl) ⟨congrArg Value.bool h1, congrArg Value.bool h3, congrArg Value.bool h4, trivial⟩ trivial (fun w9 hW9 _ => ⟨by simp only [refMay, h1, h3, h4]; rfl, hW9.keep⟩)
end
/-! ### May -/
def refMayL (l : List Tg) : Bool := l.all mayT && (decide ((l.length : Int) ≤ 1) || (((l.length : Int) == 2) && (((l.getD 1 ⟨0, 0, false, 0⟩).k : Int) == 33024)))
theorem mayFrom_two : ∀ (l : List Tg) (i : Nat), 2 ≤ i → mayFrom i l = decide (l = [])
  | [], _, _ => rfl
  | t :: l, i, h => by simp [mayFrom, show ¬ i < 2 by omega]
theorem may_kinds {t : Tg} (h : mayT t = true) : (kindsL 0).contains (t.k : Int) = true := by
  simp only [mayT, Bool.and_eq_true] at h
  exact h.1.1
theorem refMayL_eq (l : List Tg) : refMayL l = mayL l := by
  match l with
  | [] => rfl
  | [x] =>
    cases hx : mayT x with
    | false => simp [refMayL, mayL, mayFrom, hx]
    | true =>
      have hk := may_kinds hx
      simp only [refMayL, mayL, mayFrom, hx, hk, List.all_cons, List.all_nil]
      rfl
  | [x, y] =>
    cases hx : mayT x with
    | false => simp [refMayL, mayL, mayFrom, hx]
    | true =>
      cases hy : mayT y with
      | false => simp [refMayL, mayL, mayFrom, hx, hy]
      | true =>
        have hk := may_kinds hx
        have e : (kindsL 1).contains (y.k : Int) = ((y.k : Int) == 33024) := by simp only [kindsL, List.contains_cons, List.contains_nil, Bool.or_false]
        simp only [refMayL, mayL, mayFrom, hx, hy, hk, e, List.all_cons, List.all_nil]
        show (true && (true && true) && (false || (true && ((y.k : Int) == 33024)))) = _
        cases h : ((y.k : Int) == 33024) <;> rfl
  | x :: y :: z :: r =>
    have h1 : refMayL (x :: y :: z :: r) = false := by
      simp [refMayL]
      omega
    have h2 : mayL (x :: y :: z :: r) = false := by
      simp [mayL, mayFrom]
    rw [h1, h2]
noncomputable abbrev rmC : Code := bodyOf Tryd.f46
noncomputable abbrev rmN : Nat := Tryd.f46.ntmps
noncomputable def rmL (v : Value) (n j : Nat) (w' : World) : Cfg := ⟨frOf [0, 3] [v, .int .i64 ((n - j : Nat) : Int)], tagL [], ⟨[], w'.heap.size⟩, atL rmC 2⟩
def rmJ (w : World) (l : List Tg) (j : Nat) (w' : World) : Prop := j ≤ l.length ∧ Wst w ⟨[], w'.heap.size⟩ w' ∧ (l.take (l.length - j)).all mayT = true
noncomputable def rmR (w : World) (v : Value) (l : List Tg) (j : Nat) : Act → World → Prop := fun a' w' => ∃ j', j' < j ∧ rmJ w l j' w' ∧ agrees rmN (rmL v l.length j' w') a'
section
variable {w : World} {v : Value} {l : List Tg}
theorem all_take {l : List Tg} {i : Nat} (hi : i < l.length) (h : l.all mayT = true) : mayT l[i] = true := by
  rw [List.all_eq_true] at h
  exact h _ (List.getElem_mem hi)
theorem rm_round (r : Rt w v l) (hn : l.length ≤ 1000000) (j : Nat) (w' : World) (hJ : rmJ w l (j + 1) w') :
    Goal Tryd.prog (bodyPost Tryd.prog Tryd.f46 (blQ w (refMayL l))) rmN { rmL v l.length (j + 1) w' with todo := .code (loopOf (atL rmC 2)) :: .inv (rmR w v l (j + 1)) :: (atL rmC 2).tail } w' := by
  obtain ⟨hj, hW, hall⟩ := hJ
  unfold rmL
  simp only
  have hi : l.length - (j + 1) < l.length := by omega
  have hnext : l.length - (j + 1) + 1 = l.length - j := by omega
  generalize hI : l.length - (j + 1) = i at *
  have hc : (i : Int) < (l.length : Int) := by omega
  refine go_call_is (gt := fun _ => Option.none) (unroll := false) 60 [(2, 2, .sem (.int .i64 (l.length : Int))), (2, 3, .is (.bool true)), (4, 2, .sem (.pointer (some (adt v i)))), (4, 3, .sem (.agg (l[i]).a))] 64 [.agg (l[i]).a] [0, 3] [v, .int .i64 (i : Int)] 14 [] [] (inR rmC 4 4 (.inv (rmR w v l (j + 1))))
    [(.bool (decide ((i : Int) < (l.length : Int))), .bool true)] [(Builtin.len_ #[30] 3 #[v], .int .i64 (l.length : Int)), (Instr.indexAt 30 v (.int .i64 (i : Int)), .pointer (some (adt v i))), (Instr.loadAt 72 (.pointer (some (adt v i))), .agg (l[i]).a)] hW (by kernel_rfl)
    ⟨congrArg Value.bool (by simpa using hc), trivial⟩ ⟨fun wx _ => r.sem_len ertt (ty := 3) wx, fun wx _ => r.sem_at ertt hi wx, fun wx hx => (r.walk hW hx).sem_ld ertt hi, trivial⟩ ?_
  intro w1 hW1 _
  refine (rmaytag_any (l[i])).mono ?_
  rintro e w2 ⟨rfl, k2⟩
  refine ⟨_, rfl, ?_⟩
  have hW2 := hW1.later k2
  cases hm : mayT (l[i]) with
  | false =>
    exact go_ret (gt := fun _ => Option.none) (unroll := false) 60 [] [.tmp 2] (.bool false) [] [] hW2 Tryd.results46 (by kernel_rfl) trivial trivial (fun w9 hW9 _ => ⟨by
      have : l.all mayT = false := by
        cases h : l.all mayT with
        | false => rfl
        | true => rw [all_take hi h] at hm; cases hm
      rw [refMayL, this]; rfl, hW9.keep⟩)
  | true =>
    refine go_inv (gt := fun _ => Option.none) (unroll := false) 60 [(3, 1, .is (.int .i64 ((i + 1 : Nat) : Int)))] [0, 3] [v, .int .i64 ((i + 1 : Nat) : Int)] [] (rmR w v l (j + 1)) [(.int .i64 (IntKind.i64.wrap ((i : Int) + 1)), .int .i64 ((i + 1 : Nat) : Int))] [] hW2 (by kernel_rfl)
      ⟨congrArg (Value.int .i64) (by rw [IntWalk.i64_in _ (by omega)]; omega), trivial⟩ trivial ?_
    intro w5 a hW5 hS5 hs
    refine ⟨j, Nat.lt_succ_self j, ⟨by omega, hW5, ?_⟩, ?_⟩
    · rw [← hnext, List.take_succ_eq_append_getElem hi, List.all_append, hall]
      simp [hm]
    · unfold rmL
      rw [← hnext]
      exact hs
theorem ld_k {w : World} {v : Value} {l : List Tg} (r : Rt w v l) {i : Nat} (hi : i < l.length) : (Instr.loadAt 55 (.pointer (some (adt v i)))).run Tryd.prog w = .ok (.int .u16 ((l[i]).k : Int)) w := by
  obtain ⟨u, e1, e2⟩ := r.cellAt (i := i) (j := 0) hi (by omega)
  obtain rfl : Value.int .u16 ((l[i]).k : Int) = u := Option.some.inj e1
  have hu := run_underlying (P := Tryd.prog) (w := w) Tryd.underlying55
  rw [Nat.add_zero] at e2
  simp [Instr.loadAt, Instr.sureAddr, loadVar, isAgg, hu, load, Sem.run, e2]
theorem getD_one {l : List Tg} (h : 1 < l.length) : l.getD 1 ⟨0, 0, false, 0⟩ = l[1] := by simp [h]
theorem rmay_any (r : Rt w v l) (hn : l.length ≤ 1000000) : Calls Tryd.prog 46 #[v] w (blQ w (mayL l)) := by
  rw [← refMayL_eq]
  refine enter (args := [v]) Tryd.func46 (by kernel_rfl) ?_
  refine go_stop (gt := fun _ => Option.none) (unroll := false) 60 [] [0, 3] [v, .int .i64 0] [] [] (atL rmC 2) [] [] (Wst.start0 w) (by kernel_rfl) trivial trivial ?_
  intro w1 hW1 _
  have key := loop_okT (P := Tryd.prog) (Q := bodyPost Tryd.prog Tryd.f46 (blQ w (refMayL l))) (n := rmN) (x := loopOf (atL rmC 2)) (k := (atL rmC 2).tail) (fun j : Nat => j) (rmL v l.length) (rmJ w l) (fun _ _ => by kernel_rfl) ?_ l.length w1 ⟨Nat.le_refl _, hW1, by simp⟩
  · unfold rmL at key
    rw [Nat.sub_self] at key
    exact key
  intro j w2 hJ
  cases j with
  | succ j => exact rm_round r hn j w2 hJ
  | zero =>
    obtain ⟨_, hW2, hall⟩ := hJ
    simp only [Nat.sub_zero, List.take_length] at hall
    unfold rmL
    simp only [Nat.sub_zero]
    have sl : ∀ wx : World, (Builtin.len_ #[30] 3 #[v]).run Tryd.prog wx = .ok (.int .i64 (l.length : Int)) wx := fun wx => r.sem_len ertt (ty := 3) wx
    have hres : ∀ b, (decide ((l.length : Int) ≤ 1) || (((l.length : Int) == 2) && (((l.getD 1 ⟨0, 0, false, 0⟩).k : Int) == 33024))) = b → refMayL l = b := fun b h => by rw [refMayL, hall, h]; rfl
    cases h1 : decide ((l.length : Int) ≤ 1) with
    | false =>
      cases h2 : ((l.length : Int) == 2) with
      | false =>
        exact go_ret (gt := fun _ => Option.none) (unroll := false) 60 [(2, 2, .sem (.int .i64 (l.length : Int))), (2, 3, .is (.bool false)), (6, 1, .sem (.int .i64 (l.length : Int))), (6, 2, .is (.bool false)), (6, 5, .sem (.int .i64 (l.length : Int))), (6, 6, .is (.bool false))] [.tmp 2] (.bool false) [(.bool (decide ((l.length : Int) < (l.length : Int))), .bool false), (.bool (decide ((l.length : Int) ≤ 1)), .bool false), (.bool ((l.length : Int) == 2), .bool false)] [(Builtin.len_ #[30] 3 #[v], .int .i64 (l.length : Int)), (Builtin.len_ #[30] 3 #[v], .int .i64 (l.length : Int)), (Builtin.len_ #[30] 3 #[v], .int .i64 (l.length : Int))] hW2 Tryd.results46 (by kernel_rfl) ⟨congrArg Value.bool (by simp), congrArg Value.bool h1, congrArg Value.bool h2, trivial⟩ ⟨fun wx _ => sl wx, fun wx _ => sl wx, fun wx _ => sl wx, trivial⟩ (fun w9 hW9 _ => ⟨by rw [hres false (by simp only [h1, h2]; rfl)], hW9.keep⟩)
      | true =>
        have hl2 : 1 < l.length := by simp at h2; omega
        cases h3 : (((l.getD 1 ⟨0, 0, false, 0⟩).k : Int) == 33024) with
        | false =>
          exact go_ret (gt := fun _ => Option.none) (unroll := false) 60 [(2, 2, .sem (.int .i64 (l.length : Int))), (2, 3, .is (.bool false)), (6, 1, .sem (.int .i64 (l.length : Int))), (6, 2, .is (.bool false)), (6, 5, .sem (.int .i64 (l.length : Int))), (6, 6, .is (.bool true)), (6, 9, .sem (.pointer (some (adt v 1)))), (6, 11, .sem (.int .u16 ((l[1]).k : Int))), (6, 12, .is (.bool false))] [.tmp 2] (.bool false) [(.bool (decide ((l.length : Int) < (l.length : Int))), .bool false), (.bool (decide ((l.length : Int) ≤ 1)), .bool false), (.bool ((l.length : Int) == 2), .bool true), (.bool (((l[1]).k : Int) == 33024), .bool false)] [(Builtin.len_ #[30] 3 #[v], .int .i64 (l.length : Int)), (Builtin.len_ #[30] 3 #[v], .int .i64 (l.length : Int)), (Builtin.len_ #[30] 3 #[v], .int .i64 (l.length : Int)), (Instr.indexAt 30 v (.int .i64 1), .pointer (some (adt v 1))), (Instr.loadAt 55 (.pointer (some (adt v 1))), .int .u16 ((l[1]).k : Int))] hW2 Tryd.results46 (by kernel_rfl) ⟨congrArg Value.bool (by simp), congrArg Value.bool h1, congrArg Value.bool h2, congrArg Value.bool (by rw [← getD_one hl2]; exact h3), trivial⟩ ⟨fun wx _ => sl wx, fun wx _ => sl wx, fun wx _ => sl wx, fun wx _ => r.sem_at ertt (i := 1) hl2 wx, fun wx hx => ld_k (r.walk hW2 hx) hl2, trivial⟩ (fun w9 hW9 _ => ⟨by rw [hres false (by simp only [h1, h2, h3]; rfl)], hW9.keep⟩)
        | true =>
          exact go_ret (gt := fun _ => Option.none) (unroll := false) 60 [(2, 2, .sem (.int .i64 (l.length : Int))), (2, 3, .is (.bool false)), (6, 1, .sem (.int .i64 (l.length : Int))), (6, 2, .is (.bool false)), (6, 5, .sem (.int .i64 (l.length : Int))), (6, 6, .is (.bool true)), (6, 9, .sem (.pointer (some (adt v 1)))), (6, 11, .sem (.int .u16 ((l[1]).k : Int))), (6, 12, .is (.bool true))] [.tmp 2] (.bool true) [(.bool (decide ((l.length : Int) < (l.length : Int))), .bool false), (.bool (decide ((l.length : Int) ≤ 1)), .bool false), (.bool ((l.length : Int) == 2), .bool true), (.bool (((l[1]).k : Int) == 33024), .bool true)] [(Builtin.len_ #[30] 3 #[v], .int .i64 (l.length : Int)), (Builtin.len_ #[30] 3 #[v], .int .i64 (l.length : Int)), (Builtin.len_ #[30] 3 #[v], .int .i64 (l.length : Int)), (Instr.indexAt 30 v (.int .i64 1), .pointer (some (adt v 1))), (Instr.loadAt 55 (.pointer (some (adt v 1))), .int .u16 ((l[1]).k : Int))] hW2 Tryd.results46 (by kernel_rfl) ⟨congrArg Value.bool (by simp), congrArg Value.bool h1, congrArg Value.bool h2, congrArg Value.bool (by rw [← getD_one hl2]; exact h3), trivial⟩ ⟨fun wx _ => sl wx, fun wx _ => sl wx, fun wx _ => sl wx, fun wx _ => r.sem_at ertt (i := 1) hl2 wx, fun wx hx => ld_k (r.walk hW2 hx) hl2, trivial⟩ (fun w9 hW9 _ => ⟨by rw [hres true (by simp only [h1, h2, h3]; rfl)], hW9.keep⟩)
    | true =>
      exact go_ret (gt := fun _ => Option.none) (unroll := false) 60 [(2, 2, .sem (.int .i64 (l.length : Int))), (2, 3, .is (.bool false)), (6, 1, .sem (.int .i64 (l.length : Int))), (6, 2, .is (.bool true))] [.tmp 2] (.bool true) [(.bool (decide ((l.length : Int) < (l.length : Int))), .bool false), (.bool (decide ((l.length : Int) ≤ 1)), .bool true)] [(Builtin.len_ #[30] 3 #[v], .int .i64 (l.length : Int)), (Builtin.len_ #[30] 3 #[v], .int .i64 (l.length : Int))] hW2 Tryd.results46 (by kernel_rfl) ⟨congrArg Value.bool (by simp), congrArg Value.bool h1, trivial⟩ ⟨fun wx _ => sl wx, fun wx _ => sl wx, trivial⟩ (fun w9 hW9 _ => ⟨by rw [hres true (by simp only [h1]; rfl)], hW9.keep⟩)
end
/-! ### Bytes -/
noncomputable abbrev rbC : Code := bodyOf Tryd.f47
noncomputable abbrev rbN : Nat := Tryd.f47.ntmps
abbrev rbQ (w : World) (l : List Tg) : Ending → World → Prop := fun x w' => ∃ v, x = .returned v ∧ Fresh w (bytesB l) v w'
noncomputable def rbL (v : Value) (n : Nat) (i : Nat × Value) (w' : World) : Cfg := ⟨frOf [0, 3, 4] [v, i.2, .int .i64 ((n - i.1 : Nat) : Int)], tagL [], ⟨[], w'.heap.size⟩, atL rbC 3⟩
structure RbJ (w : World) (l : List Tg) (i : Nat × Value) (w' : World) : Prop where
  le : i.1 ≤ l.length
  W : Wst w ⟨[], w'.heap.size⟩ w'
  own : Own 5 w' i.2 (bytesL (l.take (l.length - i.1)))
  si : Since w.heap.size i.2
  all : (l.take (l.length - i.1)).all mayT = true
noncomputable def rbR (w : World) (v : Value) (l : List Tg) (i : Nat × Value) : Act → World → Prop := fun a' w' => ∃ j : Nat × Value, j.1 < i.1 ∧ RbJ w l j w' ∧ agrees rbN (rbL v l.length j w') a'
theorem wordN_eq (t : Tg) : ((t.p : Int) * 8192 + (t.v : Int)) + (if t.d then 4096 else 0) = (wordN t : Int) := by
  unfold wordN
  split <;> omega
section
variable {w : World} {v : Value} {l : List Tg}
theorem rb_round (r : Rt w v l) (hn : l.length ≤ 1000000) (j : Nat) (vo : Value) (w' : World) (hJ : RbJ w l (j + 1, vo) w') :
    Goal Tryd.prog (bodyPost Tryd.prog Tryd.f47 (rbQ w l)) rbN { rbL v l.length (j + 1, vo) w' with todo := .code (loopOf (atL rbC 3)) :: .inv (rbR w v l (j + 1, vo)) :: (atL rbC 3).tail } w' := by
  obtain ⟨hj, hW, ho, hsi, hall⟩ := hJ
  simp only at hj ho hsi hall
  unfold rbL
  simp only
  have hi : l.length - (j + 1) < l.length := by omega
  have hnext : l.length - (j + 1) + 1 = l.length - j := by omega
  generalize hI : l.length - (j + 1) = i at *
  have hc : (i : Int) < (l.length : Int) := by omega
  obtain ⟨t, ht⟩ : ∃ t, l[i] = t := ⟨_, rfl⟩
  refine go_call_is (gt := fun _ => Option.none) (unroll := false) 60 [(3, 2, .sem (.int .i64 (l.length : Int))), (3, 3, .is (.bool true)), (5, 2, .sem (.pointer (some (adt v i)))), (5, 3, .sem (.agg t.a))] 64 [.agg t.a] [0, 3, 4, 5] [v, vo, .int .i64 (i : Int), pT w'.heap.size] 18 [⟨w'.heap.size, t.a.toList, true⟩] [(5, 0)] (inR rbC 6 1 (.inv (rbR w v l (j + 1, vo))))
    [(.bool (decide ((i : Int) < (l.length : Int))), .bool true)] [(Builtin.len_ #[30] 3 #[v], .int .i64 (l.length : Int)), (Instr.indexAt 30 v (.int .i64 (i : Int)), .pointer (some (adt v i))), (Instr.loadAt 72 (.pointer (some (adt v i))), .agg t.a)] hW (by kernel_rfl)
    ⟨congrArg Value.bool (by simpa using hc), trivial⟩ ⟨fun wx _ => r.sem_len ertt (ty := 3) wx, fun wx _ => r.sem_at ertt hi wx, fun wx hx => by rw [← ht]; exact (r.walk hW hx).sem_ld ertt hi, trivial⟩ ?_
  intro w1 hW1 hS1
  have hapo : ∀ b, vo.ownBlock = some b → b ≠ w'.heap.size := fun b hb => by have := ho.lt b hb; omega
  have ho1 := ho.same fun b hb => hS1.same b ⟨ho.lt b hb, fun _ h => nomatch h⟩
  refine (rmaytag_any t).mono ?_
  rintro e w2 ⟨rfl, k2⟩
  refine ⟨_, rfl, ?_⟩
  have hW2 := hW1.later k2
  have ho2 := ho1.keep k2 (fun _ _ h => h)
  cases hm : mayT t with
  | false =>
    exact go_ret (gt := fun _ => Option.none) (unroll := false) 60 [] [.tmp 2] nilV [] [] hW2 Tryd.results47 (by kernel_rfl) trivial trivial (fun w9 hW9 _ => ⟨nilV, rfl, by
      have : l.all mayT = false := by
        cases h : l.all mayT with
        | false => rfl
        | true => have := all_take hi h; rw [ht, hm] at this; cases this
      rw [bytesB, this]; exact Own.nil _ _, hW9.keep, nilV_since _⟩)
  | true =>
    obtain ⟨hk16, hp8, hv12⟩ := mayT_spec hm
    have hwd := wordN_lt hp8 hv12
    have hsafe : ∀ {rows : List RowS} {nx : Nat}, w2.heap.size ≤ nx → (∀ q ∈ rows, q.b = w'.heap.size) → ∀ b, vo.ownBlock = some b → Safe ⟨rows, nx⟩ b := fun hnx hr b hb => ⟨Nat.lt_of_lt_of_le (ho2.lt b hb) hnx, fun q hq _ e => hapo b hb (by rw [← e, hr q hq])⟩
    have hlen : (bytesL (l.take i)).length ≤ 4000000 := by rw [bytesL_len]; simp; omega
    have fin : ∀ (w3 : World), Wst w ⟨[⟨w'.heap.size, t.a.toList, true⟩], w3.heap.size⟩ w3 → Own 5 w3 vo (bytesL (l.take i)) → Goal Tryd.prog (bodyPost Tryd.prog Tryd.f47 (rbQ w l)) rbN ⟨frOf [0, 3, 4, 5, 6] [v, vo, .int .i64 (i : Int), pT w'.heap.size, .int .i64 (wordN t : Nat)], tagL [(5, 0)], ⟨[⟨w'.heap.size, t.a.toList, true⟩], w3.heap.size⟩, opsR rbC 11 (.inv (rbR w v l (j + 1, vo)))⟩ w3 := by
      intro w3 hW3 ho3
      refine go_appB (gt := fun _ => Option.none) (unroll := false) 60 [(11, 3, .is (.int .u16 ((t.k / 256 : Nat) : Int))), (11, 4, .is (bY (t.k / 256))), (11, 7, .is (.int .u16 ((t.k % 256 : Nat) : Int))), (11, 8, .is (bY t.k)), (11, 10, .is (.int .i64 ((wordN t / 256 : Nat) : Int))), (11, 11, .is (bY (wordN t / 256))), (11, 13, .is (.int .i64 ((wordN t % 256 : Nat) : Int))), (11, 14, .is (bY (wordN t))), (11, 16, .stop)] vo (.slice (some ⟨w3.heap.size, 0, none⟩) 4 4) 26 5 [0, 4] [v, .int .i64 (i : Int)] 48 [⟨w'.heap.size, t.a.toList, true⟩, ⟨w3.heap.size, bvs (bytesT t), true⟩] [] (inR rbC 11 16 (.inv (rbR w v l (j + 1, vo))))
        [(.int .u16 (IntKind.u16.wrap (Int.tdiv (t.k : Int) 256)), .int .u16 ((t.k / 256 : Nat) : Int)), (.int .u8 (IntKind.u8.wrap ((t.k / 256 : Nat) : Int)), bY (t.k / 256)), (.int .u16 (Int.tmod (t.k : Int) 256), .int .u16 ((t.k % 256 : Nat) : Int)), (.int .u8 (IntKind.u8.wrap ((t.k % 256 : Nat) : Int)), bY t.k), (.int .i64 (IntKind.i64.wrap (Int.tdiv ((wordN t : Nat) : Int) 256)), .int .i64 ((wordN t / 256 : Nat) : Int)), (.int .u8 (IntKind.u8.wrap ((wordN t / 256 : Nat) : Int)), bY (wordN t / 256)), (.int .i64 (Int.tmod ((wordN t : Nat) : Int) 256), .int .i64 ((wordN t % 256 : Nat) : Int)), (.int .u8 (IntKind.u8.wrap ((wordN t % 256 : Nat) : Int)), bY (wordN t))] [] bt hW3 (by kernel_rfl)
        ⟨congrArg (Value.int .u16) (by rw [show Int.tdiv (t.k : Int) 256 = ((t.k / 256 : Nat) : Int) from quo_nat t.k 256]; exact u16_nat (by omega)), congrArg (Value.int .u8) (m_lo _), congrArg (Value.int .u16) (rem_nat t.k 256), congrArg (Value.int .u8) (by rw [m_lo]; simp), congrArg (Value.int .i64) (by rw [show Int.tdiv ((wordN t : Nat) : Int) 256 = ((wordN t / 256 : Nat) : Int) from quo_nat (wordN t) 256]; exact i64_small (by omega) (by omega)), congrArg (Value.int .u8) (m_lo _), congrArg (Value.int .i64) (rem_nat (wordN t) 256), congrArg (Value.int .u8) (by rw [m_lo]; simp), trivial⟩ trivial ?_
      intro w4 hW4 hS4
      have ho4 := ho3.same fun b hb => hS4.same b ⟨ho3.lt b hb, fun q hq _ e => by obtain rfl := List.mem_singleton.1 hq; exact hapo b hb e.symm⟩
      have rt4 : Rd w4 (.slice (some ⟨w3.heap.size, 0, none⟩) 4 4) (bytesT t) := Rd.of_row (cs := bvs (bytesT t)) (ow := true) hW4 (by simp) 4 rfl (by simp [maxLen]) (fun q hq => by rw [Nat.zero_add]; exact bvs_get hq)
      refine ⟨_, _, ho4, rt4, by simp [bytesT_len]; omega, ?_⟩
      intro vn w5 ho5 k5 hbl
      have hlo : Loose w ⟨[⟨w'.heap.size, t.a.toList, true⟩, ⟨w3.heap.size, bvs (bytesT t), true⟩], w4.heap.size⟩ (fun k => vo.ownBlock = some k) := fun q hq => ⟨hsi q hq, fun r' hr' => by
        simp only [List.mem_cons, List.not_mem_nil, or_false] at hr'
        rcases hr' with rfl | rfl
        · exact fun e => hapo q hq e.symm
        · have := ho3.lt q hq; show w3.heap.size ≠ q; omega⟩
      have hW5 : Wst w ⟨[], w5.heap.size⟩ w5 := (hW4.laterS k5 hlo).fewer (rows := [])
      have hsn : Since w.heap.size vn := fun b hb => by
        rcases hbl with h | h <;> rw [h] at hb
        · exact hsi b hb
        · obtain rfl := Option.some.inj hb; exact hW4.keep.size
      refine Goal.re (tags := tagL []) (m := ⟨[], w5.heap.size⟩) ?_
      refine go_inv (gt := fun _ => Option.none) (unroll := false) 60 [(4, 1, .is (.int .i64 ((i + 1 : Nat) : Int)))] [0, 3, 4] [v, vn, .int .i64 ((i + 1 : Nat) : Int)] [] (rbR w v l (j + 1, vo)) [(.int .i64 (IntKind.i64.wrap ((i : Int) + 1)), .int .i64 ((i + 1 : Nat) : Int))] [] hW5 (by kernel_rfl)
        ⟨congrArg (Value.int .i64) (by rw [IntWalk.i64_in _ (by omega)]; omega), trivial⟩ trivial ?_
      intro w6 a hW6 hS6 hs
      refine ⟨(j, vn), Nat.lt_succ_self j, ⟨by show j ≤ l.length; omega, hW6, ?_, hsn, ?_⟩, ?_⟩
      · show Own 5 w6 vn (bytesL (l.take (l.length - j)))
        rw [← hnext, List.take_succ_eq_append_getElem hi, ht]
        have : bytesL (l.take i ++ [t]) = bytesL (l.take i) ++ bytesT t := by simp [bytesL]
        rw [this]
        exact ho5.same fun b hb => hS6.same b ⟨ho5.lt b hb, fun _ h => nomatch h⟩
      · show (l.take (l.length - j)).all mayT = true
        rw [← hnext, List.take_succ_eq_append_getElem hi, ht, List.all_append, hall]
        simp [hm]
      · unfold rbL
        simp only
        rw [← hnext]
        exact hs
    have hwn := wordN_eq t
    cases hd : t.d with
    | false =>
      rw [hd] at hwn
      simp only [Bool.false_eq_true, if_false, Int.add_zero] at hwn
      refine go_stop (gt := fun _ => Option.none) (unroll := false) 60 [(8, 2, .is (.int .i64 (t.p : Int))), (8, 3, .is (.int .i64 ((t.p : Int) * 8192))), (8, 6, .is (.int .i64 (t.v : Int))), (8, 7, .is (.int .i64 (wordN t : Nat))), (9, 1, .is (.bool false)), (11, 0, .stop)] [0, 3, 4, 5, 6] [v, vo, .int .i64 (i : Int), pT w'.heap.size, .int .i64 (wordN t : Nat)] [⟨w'.heap.size, t.a.toList, true⟩] [(5, 0)] (opsR rbC 11 (.inv (rbR w v l (j + 1, vo))))
        [(.int .i64 (IntKind.i64.wrap (t.p : Int)), .int .i64 (t.p : Int)), (.int .i64 (IntKind.i64.wrap ((t.p : Int) * 8192)), .int .i64 ((t.p : Int) * 8192)), (.int .i64 (IntKind.i64.wrap (t.v : Int)), .int .i64 (t.v : Int)), (.int .i64 (IntKind.i64.wrap ((t.p : Int) * 8192 + (t.v : Int))), .int .i64 (wordN t : Nat)), (.bool t.d, .bool false)] [] hW2 (by kernel_rfl)
        ⟨congrArg (Value.int .i64) (i64_small (by omega) (by omega)), congrArg (Value.int .i64) (i64_small (by omega) (by omega)), congrArg (Value.int .i64) (i64_small (by omega) (by omega)), congrArg (Value.int .i64) (by rw [hwn]; exact i64_small (by omega) (by omega)), congrArg Value.bool hd, trivial⟩ trivial ?_
      intro w3 hW3 hS3
      exact fin w3 hW3 (ho2.same fun b hb => hS3.same b (hsafe (Nat.le_refl _) (fun q hq => by obtain rfl := List.mem_singleton.1 hq; rfl) b hb))
    | true =>
      rw [hd] at hwn
      simp only [if_true] at hwn
      refine go_stop (gt := fun _ => Option.none) (unroll := false) 60 [(8, 2, .is (.int .i64 (t.p : Int))), (8, 3, .is (.int .i64 ((t.p : Int) * 8192))), (8, 6, .is (.int .i64 (t.v : Int))), (8, 7, .is (.int .i64 ((t.p : Int) * 8192 + (t.v : Int)))), (9, 1, .is (.bool true)), (10, 1, .is (.int .i64 (wordN t : Nat))), (11, 0, .stop)] [0, 3, 4, 5, 6] [v, vo, .int .i64 (i : Int), pT w'.heap.size, .int .i64 (wordN t : Nat)] [⟨w'.heap.size, t.a.toList, true⟩] [(5, 0)] (opsR rbC 11 (.inv (rbR w v l (j + 1, vo))))
        [(.int .i64 (IntKind.i64.wrap (t.p : Int)), .int .i64 (t.p : Int)), (.int .i64 (IntKind.i64.wrap ((t.p : Int) * 8192)), .int .i64 ((t.p : Int) * 8192)), (.int .i64 (IntKind.i64.wrap (t.v : Int)), .int .i64 (t.v : Int)), (.int .i64 (IntKind.i64.wrap ((t.p : Int) * 8192 + (t.v : Int))), .int .i64 ((t.p : Int) * 8192 + (t.v : Int))), (.bool t.d, .bool true), (.int .i64 (IntKind.i64.wrap ((t.p : Int) * 8192 + (t.v : Int) + 4096)), .int .i64 (wordN t : Nat))] [] hW2 (by kernel_rfl)
        ⟨congrArg (Value.int .i64) (i64_small (by omega) (by omega)), congrArg (Value.int .i64) (i64_small (by omega) (by omega)), congrArg (Value.int .i64) (i64_small (by omega) (by omega)), congrArg (Value.int .i64) (i64_small (by omega) (by omega)), congrArg Value.bool hd, congrArg (Value.int .i64) (by rw [hwn]; exact i64_small (by omega) (by omega)), trivial⟩ trivial ?_
      intro w3 hW3 hS3
      exact fin w3 hW3 (ho2.same fun b hb => hS3.same b (hsafe (Nat.le_refl _) (fun q hq => by obtain rfl := List.mem_singleton.1 hq; rfl) b hb))
theorem rbytes_any (r : Rt w v l) (hn : l.length ≤ 1000000) : Calls Tryd.prog 47 #[v] w (rbQ w l) := by
  refine enter (args := [v]) Tryd.func47 (by kernel_rfl) ?_
  refine go_stop (gt := fun _ => Option.none) (unroll := false) 60 [] [0, 3, 4] [v, nilV, .int .i64 0] [] [] (atL rbC 3) [] [] (Wst.start0 w) (by kernel_rfl) trivial trivial ?_
  intro w1 hW1 _
  have key := loop_okT (P := Tryd.prog) (Q := bodyPost Tryd.prog Tryd.f47 (rbQ w l)) (n := rbN) (x := loopOf (atL rbC 3)) (k := (atL rbC 3).tail) (fun i : Nat × Value => i.1) (rbL v l.length) (RbJ w l) (fun _ _ => by kernel_rfl) ?_ (l.length, nilV) w1 ⟨Nat.le_refl _, hW1, by simp only [Nat.sub_self, List.take_zero]; exact Own.nil _ _, nilV_since _, by simp⟩
  · unfold rbL at key
    rw [Nat.sub_self] at key
    exact key
  rintro ⟨j, vo⟩ w2 hJ
  cases j with
  | succ j => exact rb_round r hn j vo w2 hJ
  | zero =>
    obtain ⟨_, hW2, ho, hsi, hall⟩ := hJ
    simp only [Nat.sub_zero, List.take_length] at ho hsi hall
    unfold rbL
    simp only [Nat.sub_zero]
    exact go_ret (gt := fun _ => Option.none) (unroll := false) 60 [(3, 2, .sem (.int .i64 (l.length : Int))), (3, 3, .is (.bool false))] [.tmp 2] vo [(.bool (decide ((l.length : Int) < (l.length : Int))), .bool false)] [(Builtin.len_ #[30] 3 #[v], .int .i64 (l.length : Int))] hW2 Tryd.results47 (by kernel_rfl) ⟨congrArg Value.bool (by simp), trivial⟩ ⟨fun wx _ => r.sem_len ertt (ty := 3) wx, trivial⟩ (fun w9 hW9 hS9 => ⟨vo, rfl, by rw [bytesB, hall]; exact ho.same fun b hb => hS9.same b ⟨ho.lt b hb, fun _ h => nomatch h⟩, hW9.keep, hsi⟩)
end
end Go.Proofs.YtcimfojbggckhaaDoor
namespace Go.Proofs.YtcimfojbggckhaaDoor
open Go.RowKit

def MayP (c : Fi) : Prop := (c.kind = 1 ∧ 1536 ≤ c.typ ∧ c.typ ≤ 65535 ∧ readF c = false ∧ zero3 c.llc = true ∧ zero3 c.oui = true ∧ c.rest.length = 0) ∨ (c.kind = 2 ∧ c.typ = 0 ∧ zero3 c.oui = true ∧ isSap c.llc = false ∧ 3 + c.body.length ≤ 1500) ∨ (c.kind = 3 ∧ 0 ≤ c.typ ∧ c.typ ≤ 65535 ∧ isSap c.llc = true ∧ 8 + c.body.length ≤ 1500)
theorem cnt_two {c : Fi} (h : c.kind = 2) : (cntR c).length = 3 + c.body.length := by
  unfold cntR
  rw [if_neg (by omega)]
  simp [arr3]; omega
theorem cnt_three {c : Fi} (h : c.kind = 3) : (cntR c).length = 8 + c.body.length := by
  unfold cntR
  rw [if_pos h]
  simp [arr3, bytes2]; omega
theorem may_iff (c : Fi) : mayF c = true ↔ MayP c := by
  unfold MayP mayF
  by_cases h1 : c.kind = 1
  · simp only [h1, beq_self_eq_true, if_true, Bool.and_eq_true, decide_eq_true_eq, Bool.not_eq_true', beq_iff_eq]
    constructor
    · rintro ⟨a, b, d, e, f, g⟩
      exact .inl ⟨trivial, a, b, d, e, f, by omega⟩
    · rintro (⟨_, a, b, d, e, f, g⟩ | ⟨h, _⟩ | ⟨h, _⟩)
      · exact ⟨a, b, d, e, f, by omega⟩
      · first | omega | exact h.elim
      · first | omega | exact h.elim
  by_cases h2 : c.kind = 2
  · simp only [h2, beq_self_eq_true, if_true, Bool.and_eq_true, decide_eq_true_eq, Bool.not_eq_true', beq_iff_eq, cnt_two h2, show ¬ (2 : Int) = 1 by omega, if_false]
    constructor
    · rintro ⟨a, b, d, e⟩
      exact .inr (.inl ⟨trivial, a, b, d, by omega⟩)
    · rintro (⟨h, _⟩ | ⟨_, a, b, d, e⟩ | ⟨h, _⟩)
      · first | omega | exact h.elim
      · exact ⟨a, b, d, by omega⟩
      · first | omega | exact h.elim
  by_cases h3 : c.kind = 3
  · simp only [h3, beq_self_eq_true, if_true, Bool.and_eq_true, decide_eq_true_eq, beq_iff_eq, cnt_three h3, show ¬ (3 : Int) = 1 by omega, show ¬ (3 : Int) = 2 by omega, if_false]
    constructor
    · rintro ⟨a, b, d, e⟩
      exact .inr (.inr ⟨trivial, a, b, d, by omega⟩)
    · rintro (⟨h, _⟩ | ⟨h, _⟩ | ⟨_, a, b, d, e⟩)
      · first | omega | exact h.elim
      · first | omega | exact h.elim
      · exact ⟨a, b, d, by omega⟩
  · simp [h1, h2, h3]
theorem no_may {c : Fi} (h : ¬ MayP c) : mayF c = false := by
  cases hm : mayF c with
  | false => rfl
  | true => exact absurd ((may_iff c).1 hm) h
/-- Bytes that are laid, one behind the other. -/
structure OwA (W0 : World) (rows : List RowS) (w : World) (v : Value) (bs : List UInt8) : Prop where
  own : Own 5 w v bs
  si : Since W0.heap.size v
  ap : Ap rows v
theorem OwA.pass {W0 w w' : World} {rows more : List RowS} {v : Value} {bs : List UInt8} (h : OwA W0 rows w v bs) (hS : Seg ⟨rows, w.heap.size⟩ w ⟨rows ++ more, w'.heap.size⟩ w') : Own 5 w' v bs :=
  h.own.same fun b hb => hS.same b ⟨h.own.lt b hb, fun r hr _ => h.ap b hb r hr⟩
theorem OwA.call {W0 w w' : World} {rows : List RowS} {v : Value} {bs : List UInt8} (h : OwA W0 rows w v bs) (k : Keep No w w') : OwA W0 rows w' v bs := ⟨h.own.keep k (fun _ _ f => f), h.si, h.ap⟩
theorem OwA.pass0 {W0 w w' : World} {rows : List RowS} {v : Value} {bs : List UInt8} (h : OwA W0 rows w v bs) (hS : Seg ⟨rows, w.heap.size⟩ w ⟨rows, w'.heap.size⟩ w') : OwA W0 rows w' v bs := ⟨h.own.same fun b hb => hS.same b ⟨h.own.lt b hb, fun r hr _ => h.ap b hb r hr⟩, h.si, h.ap⟩
theorem OwA.loose {W0 w : World} {rows more : List RowS} {v : Value} {bs : List UInt8} (h : OwA W0 rows w v bs) (hm : ∀ r ∈ more, w.heap.size ≤ r.b) {nx : Nat} : Loose W0 ⟨rows ++ more, nx⟩ (fun k => v.ownBlock = some k) := fun k hk => ⟨h.si k hk, fun r hr => by
  rcases List.mem_append.1 hr with hr | hr
  · exact h.ap k hk r hr
  · have := hm r hr; have := h.own.lt k hk; omega⟩
theorem OwA.app {W0 w w1 w2 : World} {rows more : List RowS} {v vn : Value} {bs ys : List UInt8} (h : OwA W0 rows w v bs) (hW1 : Wst W0 ⟨rows ++ more, w1.heap.size⟩ w1) (ho : Own 5 w2 vn (bs ++ ys)) (hbl : vn.ownBlock = v.ownBlock ∨ vn.ownBlock = some w1.heap.size) : OwA W0 rows w2 vn (bs ++ ys) := by
  refine ⟨ho, fun b hb => ?_, fun b hb r hr => ?_⟩
  · rcases hbl with e | e <;> rw [e] at hb
    · exact h.si b hb
    · obtain rfl := Option.some.inj hb; exact hW1.keep.size
  · rcases hbl with e | e <;> rw [e] at hb
    · exact h.ap b hb r hr
    · obtain ⟨t, ht⟩ := hW1.rows r (List.mem_append.2 (.inl hr))
      have := block_of_row ht
      have := Option.some.inj hb
      omega
noncomputable abbrev rkC : Code := bodyOf Tryd.f16
noncomputable abbrev rkN : Nat := Tryd.f16.ntmps
section
variable {w : World} {c : Fi} {F : Fr} {to bo ro : Option Addr} {tn tc bn bc rn rc : Nat}
abbrev rkRow (w : World) (F : Fr) : List RowS := [⟨w.heap.size, F.a.toList, true⟩]

theorem rk_fin (hF : fiCells c to tn tc bo bn bc ro rn rc = F) (h1 : mayL c.tags = true) (h2 : mayF c = true) (w0 : World) (vo : Value) (hW0 : Wst w ⟨rkRow w F, w0.heap.size⟩ w0) (o : OwA w (rkRow w F) w0 vo (withR c.dst c.src c.tags (behR c))) :
    Goal Tryd.prog (bodyPost Tryd.prog Tryd.f16 (pkQ w c)) rkN ⟨frOf [1, 6] [pT w.heap.size, vo], tagL [(1, 0)], ⟨rkRow w F, w0.heap.size⟩, opsR rkC 35⟩ w0 := by
  subst hF
  have ep : putR c = if 65539 < (withR c.dst c.src c.tags (behR c)).length then ([], 3) else (withR c.dst c.src c.tags (behR c), 0) := by
    unfold putR
    rw [if_neg (by simp [h1]), if_neg (by simp [h2])]
  have hf : (fbS w.heap.size (withR c.dst c.src c.tags (behR c))).ok w0 vo := ⟨o.own.rd, o.si, o.own.lt⟩
  have hW : Wst w ⟨[], w0.heap.size⟩ w0 := hW0.fewer (rows := [])
  refine Goal.re (tags := tagL []) (m := ⟨[], w0.heap.size⟩) ?_
  by_cases hn : 65539 < (withR c.dst c.src c.tags (behR c)).length
  · rw [if_pos hn] at ep
    exact go_ret (gt := fun _ => Option.none) (unroll := false) 60 [(35, 1, .sem (.int .i64 ((withR c.dst c.src c.tags (behR c)).length : Nat))), (35, 2, .is (.bool true))] [.tmp 2, .tmp 3] (.tuple #[nilV, .int .i64 3]) [(.bool (decide ((((withR c.dst c.src c.tags (behR c)).length : Nat) : Int) > 65539)), .bool true)] [(Builtin.len_ #[26] 3 #[vo], .int .i64 ((withR c.dst c.src c.tags (behR c)).length : Nat))] hW Tryd.results16 (by kernel_rfl) ⟨congrArg Value.bool (by simp; omega), trivial⟩ ⟨fun wx _ => o.own.rd.run_len (ty := 3) bt.sl, trivial⟩ (fun w9 hW9 _ => pk_fail (e := 3) ep hW9.keep)
  · rw [if_neg hn] at ep
    refine go_ret (gt := fun _ => Option.none) (unroll := false) 60 [(35, 1, .sem (.int .i64 ((withR c.dst c.src c.tags (behR c)).length : Nat))), (35, 2, .is (.bool false))] [.tmp 2, .tmp 3] (.tuple #[vo, .int .i64 0]) [(.bool (decide ((((withR c.dst c.src c.tags (behR c)).length : Nat) : Int) > 65539)), .bool false)] [(Builtin.len_ #[26] 3 #[vo], .int .i64 ((withR c.dst c.src c.tags (behR c)).length : Nat))] hW Tryd.results16 (by kernel_rfl) ⟨congrArg Value.bool (by simp; omega), trivial⟩ ⟨fun wx _ => o.own.rd.run_len (ty := 3) bt.sl, trivial⟩ (fun w9 hW9 hS9 => ⟨vo, by rw [ep]; rfl, hW9.keep, ?_⟩)
    rw [ep]
    exact fb_seg hf hS9 hW9
theorem rk_one (hF : fiCells c to tn tc bo bn bc ro rn rc = F) (rb : Rd w (.slice bo bn bc) c.body) (_rr : Rd w (.slice ro rn rc) c.rest) (hl : c.tags.length ≤ 1000000) (hb : c.body.length ≤ 1073741824) (_hr : c.rest.length ≤ 1073741824) (h1 : mayL c.tags = true) (h2 : mayF c = true) (hk : c.kind = 1) {n : Nat} (hn : c.typ = (n : Int)) (hn16 : n < 65536) (w0 : World) (vo0 : Value) (hW0 : Wst w ⟨rkRow w F, w0.heap.size⟩ w0) (o0 : OwA w (rkRow w F) w0 vo0 (arr6 c.dst ++ arr6 c.src ++ bytesB c.tags)) :
    Goal Tryd.prog (bodyPost Tryd.prog Tryd.f16 (pkQ w c)) rkN ⟨frOf [1, 6] [pT w.heap.size, vo0], tagL [(1, 0)], ⟨rkRow w F, w0.heap.size⟩, opsR rkC 20⟩ w0 := by
  have hBl := bytesB_le c.tags
  have lnil : ([] : List UInt8).length = 0 := rfl
  have l6d : (arr6 c.dst).length = 6 := rfl
  have l6s : (arr6 c.src).length = 6 := rfl
  have l3l : (arr3 c.llc).length = 3 := rfl
  have l3o : (arr3 c.oui).length = 3 := rfl
  have l2n : (bytes2 n).length = 2 := rfl
  have l2m : ∀ m, (bytes2 m).length = 2 := fun _ => rfl
  have l2a := l2m (3 + c.body.length)
  have l2b := l2m (8 + c.body.length)
  refine go_appB (gt := fun _ => Option.none) (unroll := false) 100 [(20, 2, .is (.int .i64 ((n / 256 : Nat) : Int))), (21, 2, .is (.int .i64 ((n % 256 : Nat) : Int))), (22, 2, .is (.bool true)), (23, 2, .is (bY (n / 256))), (23, 4, .is (bY n)), (23, 6, .stop)] vo0 (.slice (some ⟨w0.heap.size, 0, none⟩) 2 2) 26 5 [1] [pT w.heap.size] 159 (rkRow w F ++ [⟨w0.heap.size, bvs (bytes2 n), true⟩]) [(1, 0)] (inR rkC 23 6) [(.int .i64 (IntKind.i64.wrap (Int.tdiv c.typ 256)), .int .i64 ((n / 256 : Nat) : Int)), (.int .i64 (Int.tmod c.typ 256), .int .i64 ((n % 256 : Nat) : Int)), (.bool (c.kind == 1), .bool true), (.int .u8 (IntKind.u8.wrap ((n / 256 : Nat) : Int)), bY (n / 256)), (.int .u8 (IntKind.u8.wrap ((n % 256 : Nat) : Int)), bY n)] [] bt hW0 (by subst hF; kernel_rfl) ⟨congrArg (Value.int .i64) (by rw [hn, show Int.tdiv (n : Int) 256 = ((n / 256 : Nat) : Int) from quo_nat n 256]; exact i64_small (by omega) (by omega)), congrArg (Value.int .i64) (by rw [hn]; exact rem_nat n 256), congrArg Value.bool (by simp [hk]), congrArg (Value.int .u8) (m_lo _), congrArg (Value.int .u8) (by rw [m_lo]; simp), trivial⟩ trivial ?_
  intro wA hWA hSA
  refine ⟨_, _, o0.pass (more := [⟨w0.heap.size, bvs (bytes2 n), true⟩]) hSA, Rd.of_row (bs := bytes2 (n)) (cs := bvs (bytes2 (n))) (ow := true) hWA (by simp) 2 rfl (by simp [maxLen]) (fun q hq => by rw [Nat.zero_add]; exact bvs_get hq), by first | (simp only [List.length_append]; omega) | omega, ?_⟩
  intro vo1 w1 hoX kX hblX
  have hW1 : Wst w ⟨rkRow w F, w1.heap.size⟩ w1 := (hWA.laterS kX (o0.loose (more := [⟨w0.heap.size, bvs (bytes2 n), true⟩]) (fun q hq => by obtain rfl := List.mem_singleton.1 hq; exact Nat.le_refl _))).fewer (rows := rkRow w F)
  have o1 := o0.app (more := [⟨w0.heap.size, bvs (bytes2 n), true⟩]) hWA hoX hblX
  clear hWA hSA hoX kX hblX
  refine Goal.re (tags := tagL [(1, 0)]) (m := ⟨rkRow w F, w1.heap.size⟩) ?_
  refine go_appB (gt := fun _ => Option.none) (unroll := false) 100 [(24, 3, .stop)] vo1 (.slice bo bn bc) 26 5 [1] [pT w.heap.size] 163 (rkRow w F) [(1, 0)] (inR rkC 24 3) [] [] bt hW1 (by subst hF; kernel_rfl) trivial trivial ?_
  intro wA hWA hSA
  refine ⟨_, _, o1.pass (more := []) hSA, rb.keep0 hWA.keep, by first | (simp only [List.length_append]; omega) | omega, ?_⟩
  intro vo2 w2 hoX kX hblX
  have hW2 : Wst w ⟨rkRow w F, w2.heap.size⟩ w2 := (hWA.laterS kX (o1.loose (more := []) (fun q hq => by cases hq))).fewer (rows := rkRow w F)
  have o2 := o1.app (more := []) hWA hoX hblX
  clear hWA hSA hoX kX hblX
  refine Goal.re (tags := tagL [(1, 0)]) (m := ⟨rkRow w F, w2.heap.size⟩) ?_
  refine go_stop (gt := fun _ => Option.none) (unroll := false) 60 [(35, 0, .stop)] [1, 6] [pT w.heap.size, vo2] (rkRow w F) [(1, 0)] (opsR rkC 35) [] [] hW2 (by kernel_rfl) trivial trivial ?_
  intro w3 hW3 hS3
  have o3 := o2.pass0 hS3
  obtain ⟨vo3, hvo⟩ : ∃ v, v = vo2 := ⟨_, rfl⟩
  rw [← hvo] at o3 ⊢
  have eb : arr6 c.dst ++ arr6 c.src ++ bytesB c.tags ++ bytes2 n ++ c.body = withR c.dst c.src c.tags (behR c) := by unfold withR behR cntR; simp [hk, hn, List.append_assoc]
  rw [eb] at o3
  exact rk_fin hF h1 h2 w3 vo3 hW3 o3
theorem rk_two (hF : fiCells c to tn tc bo bn bc ro rn rc = F) (rb : Rd w (.slice bo bn bc) c.body) (rr : Rd w (.slice ro rn rc) c.rest) (hl : c.tags.length ≤ 1000000) (hb : c.body.length ≤ 1073741824) (hr : c.rest.length ≤ 1073741824) (h1 : mayL c.tags = true) (h2 : mayF c = true) (hk : c.kind = 2) {n : Nat} (hn : c.typ = (n : Int)) (hn16 : n < 65536) (w0 : World) (vo0 : Value) (hW0 : Wst w ⟨rkRow w F, w0.heap.size⟩ w0) (o0 : OwA w (rkRow w F) w0 vo0 (arr6 c.dst ++ arr6 c.src ++ bytesB c.tags)) :
    Goal Tryd.prog (bodyPost Tryd.prog Tryd.f16 (pkQ w c)) rkN ⟨frOf [1, 6] [pT w.heap.size, vo0], tagL [(1, 0)], ⟨rkRow w F, w0.heap.size⟩, opsR rkC 20⟩ w0 := by
  have hBl := bytesB_le c.tags
  have lnil : ([] : List UInt8).length = 0 := rfl
  have l6d : (arr6 c.dst).length = 6 := rfl
  have l6s : (arr6 c.src).length = 6 := rfl
  have l3l : (arr3 c.llc).length = 3 := rfl
  have l3o : (arr3 c.oui).length = 3 := rfl
  have l2n : (bytes2 n).length = 2 := rfl
  have l2m : ∀ m, (bytes2 m).length = 2 := fun _ => rfl
  have l2a := l2m (3 + c.body.length)
  have l2b := l2m (8 + c.body.length)
  have hm : c.body.length ≤ 1500 := by
    rcases (may_iff c).1 h2 with ⟨h, _⟩ | ⟨h, _, _, _, h5⟩ | ⟨h, _, _, _, h5⟩ <;> omega
  refine go_appB (gt := fun _ => Option.none) (unroll := false) 100 [(20, 2, .is (.int .i64 ((n / 256 : Nat) : Int))), (21, 2, .is (.int .i64 ((n % 256 : Nat) : Int))), (22, 2, .is (.bool false)), (25, 2, .sem (.int .i64 (c.body.length : Int))), (25, 3, .is (.int .i64 ((3 + c.body.length : Nat) : Int))), (26, 2, .is (.bool false)), (28, 2, .is (.int .i64 (((3 + c.body.length) / 256 : Nat) : Int))), (28, 3, .is (bY ((3 + c.body.length) / 256))), (28, 5, .is (.int .i64 (((3 + c.body.length) % 256 : Nat) : Int))), (28, 6, .is (bY (3 + c.body.length))), (28, 8, .stop)] vo0 (.slice (some ⟨w0.heap.size, 0, none⟩) 2 2) 26 5 [1, 7, 8] [pT w.heap.size, .int .i64 ((n / 256 : Nat) : Int), .int .i64 ((n % 256 : Nat) : Int)] 181 (rkRow w F ++ [⟨w0.heap.size, bvs (bytes2 (3 + c.body.length)), true⟩]) [(1, 0)] (inR rkC 28 8) [(.int .i64 (IntKind.i64.wrap (Int.tdiv c.typ 256)), .int .i64 ((n / 256 : Nat) : Int)), (.int .i64 (Int.tmod c.typ 256), .int .i64 ((n % 256 : Nat) : Int)), (.bool (c.kind == 1), .bool false), (.int .i64 (IntKind.i64.wrap (3 + (c.body.length : Int))), .int .i64 ((3 + c.body.length : Nat) : Int)), (.bool (c.kind == 3), .bool false), (.int .i64 (IntKind.i64.wrap (Int.tdiv (((3 + c.body.length) : Nat) : Int) 256)), .int .i64 (((3 + c.body.length) / 256 : Nat) : Int)), (.int .u8 (IntKind.u8.wrap (((3 + c.body.length) / 256 : Nat) : Int)), bY ((3 + c.body.length) / 256)), (.int .i64 (Int.tmod (((3 + c.body.length) : Nat) : Int) 256), .int .i64 (((3 + c.body.length) % 256 : Nat) : Int)), (.int .u8 (IntKind.u8.wrap (((3 + c.body.length) % 256 : Nat) : Int)), bY (3 + c.body.length))] [(Builtin.len_ #[26] 3 #[.slice bo bn bc], .int .i64 (c.body.length : Int))] bt hW0 (by subst hF; kernel_rfl) ⟨congrArg (Value.int .i64) (by rw [hn, show Int.tdiv (n : Int) 256 = ((n / 256 : Nat) : Int) from quo_nat n 256]; exact i64_small (by omega) (by omega)), congrArg (Value.int .i64) (by rw [hn]; exact rem_nat n 256), congrArg Value.bool (by simp [hk]), congrArg (Value.int .i64) (by rw [i64_small (by omega) (by omega)]; omega), congrArg Value.bool (by simp [hk]), congrArg (Value.int .i64) (by rw [show Int.tdiv (((3 + c.body.length) : Nat) : Int) 256 = (((3 + c.body.length) / 256 : Nat) : Int) from quo_nat (3 + c.body.length) 256]; exact i64_small (by omega) (by omega)), congrArg (Value.int .u8) (m_lo _), congrArg (Value.int .i64) (rem_nat (3 + c.body.length) 256), congrArg (Value.int .u8) (by rw [m_lo]; simp), trivial⟩ ⟨fun wx _ => rb.run_len (ty := 3) bt.sl, trivial⟩ ?_
  intro wA hWA hSA
  refine ⟨_, _, o0.pass (more := [⟨w0.heap.size, bvs (bytes2 (3 + c.body.length)), true⟩]) hSA, Rd.of_row (bs := bytes2 ((3 + c.body.length))) (cs := bvs (bytes2 ((3 + c.body.length)))) (ow := true) hWA (by simp) 2 rfl (by simp [maxLen]) (fun q hq => by rw [Nat.zero_add]; exact bvs_get hq), by first | (simp only [List.length_append]; omega) | omega, ?_⟩
  intro vo1 w1 hoX kX hblX
  have hW1 : Wst w ⟨rkRow w F, w1.heap.size⟩ w1 := (hWA.laterS kX (o0.loose (more := [⟨w0.heap.size, bvs (bytes2 (3 + c.body.length)), true⟩]) (fun q hq => by obtain rfl := List.mem_singleton.1 hq; exact Nat.le_refl _))).fewer (rows := rkRow w F)
  have o1 := o0.app (more := [⟨w0.heap.size, bvs (bytes2 (3 + c.body.length)), true⟩]) hWA hoX hblX
  clear hWA hSA hoX kX hblX
  refine Goal.re (tags := tagL [(1, 0)]) (m := ⟨rkRow w F, w1.heap.size⟩) ?_
  refine go_appB (gt := fun _ => Option.none) (unroll := false) 100 [(29, 3, .stop)] vo1 (.slice (some ⟨w.heap.size, 15, none⟩) 3 3) 26 5 [1, 7, 8] [pT w.heap.size, .int .i64 ((n / 256 : Nat) : Int), .int .i64 ((n % 256 : Nat) : Int)] 185 (rkRow w F) [(1, 0)] (inR rkC 29 3) [] [] bt hW1 (by subst hF; kernel_rfl) trivial trivial ?_
  intro wA hWA hSA
  refine ⟨_, _, o1.pass (more := []) hSA, Rd.of_row (bs := arr3 c.llc) (cs := F.a.toList) (ow := true) hWA (by simp) 3 rfl (by simp [maxLen]) (fun q hq => by
      have hqn : q < 3 := hq
      have : q = 0 ∨ q = 1 ∨ q = 2 := by omega
      subst hF
      rcases this with rfl | rfl | rfl <;> rfl), by first | (simp only [List.length_append]; omega) | omega, ?_⟩
  intro vo2 w2 hoX kX hblX
  have hW2 : Wst w ⟨rkRow w F, w2.heap.size⟩ w2 := (hWA.laterS kX (o1.loose (more := []) (fun q hq => by cases hq))).fewer (rows := rkRow w F)
  have o2 := o1.app (more := []) hWA hoX hblX
  clear hWA hSA hoX kX hblX
  refine Goal.re (tags := tagL [(1, 0)]) (m := ⟨rkRow w F, w2.heap.size⟩) ?_
  refine go_appB (gt := fun _ => Option.none) (unroll := false) 100 [(30, 2, .is (.bool false)), (33, 3, .stop)] vo2 (.slice bo bn bc) 26 5 [1] [pT w.heap.size] 203 (rkRow w F) [(1, 0)] (inR rkC 33 3) [(.bool (c.kind == 3), .bool false)] [] bt hW2 (by subst hF; kernel_rfl) ⟨congrArg Value.bool (by simp [hk]), trivial⟩ trivial ?_
  intro wA hWA hSA
  refine ⟨_, _, o2.pass (more := []) hSA, rb.keep0 hWA.keep, by first | (simp only [List.length_append]; omega) | omega, ?_⟩
  intro vo3 w3 hoX kX hblX
  have hW3 : Wst w ⟨rkRow w F, w3.heap.size⟩ w3 := (hWA.laterS kX (o2.loose (more := []) (fun q hq => by cases hq))).fewer (rows := rkRow w F)
  have o3 := o2.app (more := []) hWA hoX hblX
  clear hWA hSA hoX kX hblX
  refine Goal.re (tags := tagL [(1, 0)]) (m := ⟨rkRow w F, w3.heap.size⟩) ?_
  refine go_appB (gt := fun _ => Option.none) (unroll := false) 100 [(34, 3, .stop)] vo3 (.slice ro rn rc) 26 5 [1] [pT w.heap.size] 207 (rkRow w F) [(1, 0)] (inR rkC 34 3) [] [] bt hW3 (by subst hF; kernel_rfl) trivial trivial ?_
  intro wA hWA hSA
  refine ⟨_, _, o3.pass (more := []) hSA, rr.keep0 hWA.keep, by first | (simp only [List.length_append]; omega) | omega, ?_⟩
  intro vo4 w4 hoX kX hblX
  have hW4 : Wst w ⟨rkRow w F, w4.heap.size⟩ w4 := (hWA.laterS kX (o3.loose (more := []) (fun q hq => by cases hq))).fewer (rows := rkRow w F)
  have o4 := o3.app (more := []) hWA hoX hblX
  clear hWA hSA hoX kX hblX
  refine Goal.re (tags := tagL [(1, 0)]) (m := ⟨rkRow w F, w4.heap.size⟩) ?_
  refine go_stop (gt := fun _ => Option.none) (unroll := false) 60 [(35, 0, .stop)] [1, 6] [pT w.heap.size, vo4] (rkRow w F) [(1, 0)] (opsR rkC 35) [] [] hW4 (by kernel_rfl) trivial trivial ?_
  intro w5 hW5 hS5
  have o5 := o4.pass0 hS5
  obtain ⟨vo5, hvo⟩ : ∃ v, v = vo4 := ⟨_, rfl⟩
  rw [← hvo] at o5 ⊢
  have hcl : (cntR c).length = 3 + c.body.length := cnt_two hk
  have eb : arr6 c.dst ++ arr6 c.src ++ bytesB c.tags ++ bytes2 (3 + c.body.length) ++ arr3 c.llc ++ c.body ++ c.rest = withR c.dst c.src c.tags (behR c) := by unfold withR behR; rw [hcl]; unfold cntR; simp [hk]
  rw [eb] at o5
  exact rk_fin hF h1 h2 w5 vo5 hW5 o5
theorem rk_three (hF : fiCells c to tn tc bo bn bc ro rn rc = F) (rb : Rd w (.slice bo bn bc) c.body) (rr : Rd w (.slice ro rn rc) c.rest) (hl : c.tags.length ≤ 1000000) (hb : c.body.length ≤ 1073741824) (hr : c.rest.length ≤ 1073741824) (h1 : mayL c.tags = true) (h2 : mayF c = true) (hk : c.kind = 3) {n : Nat} (hn : c.typ = (n : Int)) (hn16 : n < 65536) (w0 : World) (vo0 : Value) (hW0 : Wst w ⟨rkRow w F, w0.heap.size⟩ w0) (o0 : OwA w (rkRow w F) w0 vo0 (arr6 c.dst ++ arr6 c.src ++ bytesB c.tags)) :
    Goal Tryd.prog (bodyPost Tryd.prog Tryd.f16 (pkQ w c)) rkN ⟨frOf [1, 6] [pT w.heap.size, vo0], tagL [(1, 0)], ⟨rkRow w F, w0.heap.size⟩, opsR rkC 20⟩ w0 := by
  have hBl := bytesB_le c.tags
  have lnil : ([] : List UInt8).length = 0 := rfl
  have l6d : (arr6 c.dst).length = 6 := rfl
  have l6s : (arr6 c.src).length = 6 := rfl
  have l3l : (arr3 c.llc).length = 3 := rfl
  have l3o : (arr3 c.oui).length = 3 := rfl
  have l2n : (bytes2 n).length = 2 := rfl
  have l2m : ∀ m, (bytes2 m).length = 2 := fun _ => rfl
  have l2a := l2m (3 + c.body.length)
  have l2b := l2m (8 + c.body.length)
  have hm : c.body.length ≤ 1500 := by
    rcases (may_iff c).1 h2 with ⟨h, _⟩ | ⟨h, _, _, _, h5⟩ | ⟨h, _, _, _, h5⟩ <;> omega
  refine go_appB (gt := fun _ => Option.none) (unroll := false) 100 [(20, 2, .is (.int .i64 ((n / 256 : Nat) : Int))), (21, 2, .is (.int .i64 ((n % 256 : Nat) : Int))), (22, 2, .is (.bool false)), (25, 2, .sem (.int .i64 (c.body.length : Int))), (25, 3, .is (.int .i64 ((3 + c.body.length : Nat) : Int))), (26, 2, .is (.bool true)), (27, 1, .is (.int .i64 ((8 + c.body.length : Nat) : Int))), (28, 2, .is (.int .i64 (((8 + c.body.length) / 256 : Nat) : Int))), (28, 3, .is (bY ((8 + c.body.length) / 256))), (28, 5, .is (.int .i64 (((8 + c.body.length) % 256 : Nat) : Int))), (28, 6, .is (bY (8 + c.body.length))), (28, 8, .stop)] vo0 (.slice (some ⟨w0.heap.size, 0, none⟩) 2 2) 26 5 [1, 7, 8] [pT w.heap.size, .int .i64 ((n / 256 : Nat) : Int), .int .i64 ((n % 256 : Nat) : Int)] 181 (rkRow w F ++ [⟨w0.heap.size, bvs (bytes2 (8 + c.body.length)), true⟩]) [(1, 0)] (inR rkC 28 8) [(.int .i64 (IntKind.i64.wrap (Int.tdiv c.typ 256)), .int .i64 ((n / 256 : Nat) : Int)), (.int .i64 (Int.tmod c.typ 256), .int .i64 ((n % 256 : Nat) : Int)), (.bool (c.kind == 1), .bool false), (.int .i64 (IntKind.i64.wrap (3 + (c.body.length : Int))), .int .i64 ((3 + c.body.length : Nat) : Int)), (.bool (c.kind == 3), .bool true), (.int .i64 (IntKind.i64.wrap (((3 + c.body.length : Nat) : Int) + 5)), .int .i64 ((8 + c.body.length : Nat) : Int)), (.int .i64 (IntKind.i64.wrap (Int.tdiv (((8 + c.body.length) : Nat) : Int) 256)), .int .i64 (((8 + c.body.length) / 256 : Nat) : Int)), (.int .u8 (IntKind.u8.wrap (((8 + c.body.length) / 256 : Nat) : Int)), bY ((8 + c.body.length) / 256)), (.int .i64 (Int.tmod (((8 + c.body.length) : Nat) : Int) 256), .int .i64 (((8 + c.body.length) % 256 : Nat) : Int)), (.int .u8 (IntKind.u8.wrap (((8 + c.body.length) % 256 : Nat) : Int)), bY (8 + c.body.length))] [(Builtin.len_ #[26] 3 #[.slice bo bn bc], .int .i64 (c.body.length : Int))] bt hW0 (by subst hF; kernel_rfl) ⟨congrArg (Value.int .i64) (by rw [hn, show Int.tdiv (n : Int) 256 = ((n / 256 : Nat) : Int) from quo_nat n 256]; exact i64_small (by omega) (by omega)), congrArg (Value.int .i64) (by rw [hn]; exact rem_nat n 256), congrArg Value.bool (by simp [hk]), congrArg (Value.int .i64) (by rw [i64_small (by omega) (by omega)]; omega), congrArg Value.bool (by simp [hk]), congrArg (Value.int .i64) (by rw [i64_small (by omega) (by omega)]; omega), congrArg (Value.int .i64) (by rw [show Int.tdiv (((8 + c.body.length) : Nat) : Int) 256 = (((8 + c.body.length) / 256 : Nat) : Int) from quo_nat (8 + c.body.length) 256]; exact i64_small (by omega) (by omega)), congrArg (Value.int .u8) (m_lo _), congrArg (Value.int .i64) (rem_nat (8 + c.body.length) 256), congrArg (Value.int .u8) (by rw [m_lo]; simp), trivial⟩ ⟨fun wx _ => rb.run_len (ty := 3) bt.sl, trivial⟩ ?_
  intro wA hWA hSA
  refine ⟨_, _, o0.pass (more := [⟨w0.heap.size, bvs (bytes2 (8 + c.body.length)), true⟩]) hSA, Rd.of_row (bs := bytes2 ((8 + c.body.length))) (cs := bvs (bytes2 ((8 + c.body.length)))) (ow := true) hWA (by simp) 2 rfl (by simp [maxLen]) (fun q hq => by rw [Nat.zero_add]; exact bvs_get hq), by first | (simp only [List.length_append]; omega) | omega, ?_⟩
  intro vo1 w1 hoX kX hblX
  have hW1 : Wst w ⟨rkRow w F, w1.heap.size⟩ w1 := (hWA.laterS kX (o0.loose (more := [⟨w0.heap.size, bvs (bytes2 (8 + c.body.length)), true⟩]) (fun q hq => by obtain rfl := List.mem_singleton.1 hq; exact Nat.le_refl _))).fewer (rows := rkRow w F)
  have o1 := o0.app (more := [⟨w0.heap.size, bvs (bytes2 (8 + c.body.length)), true⟩]) hWA hoX hblX
  clear hWA hSA hoX kX hblX
  refine Goal.re (tags := tagL [(1, 0)]) (m := ⟨rkRow w F, w1.heap.size⟩) ?_
  refine go_appB (gt := fun _ => Option.none) (unroll := false) 100 [(29, 3, .stop)] vo1 (.slice (some ⟨w.heap.size, 15, none⟩) 3 3) 26 5 [1, 7, 8] [pT w.heap.size, .int .i64 ((n / 256 : Nat) : Int), .int .i64 ((n % 256 : Nat) : Int)] 185 (rkRow w F) [(1, 0)] (inR rkC 29 3) [] [] bt hW1 (by subst hF; kernel_rfl) trivial trivial ?_
  intro wA hWA hSA
  refine ⟨_, _, o1.pass (more := []) hSA, Rd.of_row (bs := arr3 c.llc) (cs := F.a.toList) (ow := true) hWA (by simp) 3 rfl (by simp [maxLen]) (fun q hq => by
      have hqn : q < 3 := hq
      have : q = 0 ∨ q = 1 ∨ q = 2 := by omega
      subst hF
      rcases this with rfl | rfl | rfl <;> rfl), by first | (simp only [List.length_append]; omega) | omega, ?_⟩
  intro vo2 w2 hoX kX hblX
  have hW2 : Wst w ⟨rkRow w F, w2.heap.size⟩ w2 := (hWA.laterS kX (o1.loose (more := []) (fun q hq => by cases hq))).fewer (rows := rkRow w F)
  have o2 := o1.app (more := []) hWA hoX hblX
  clear hWA hSA hoX kX hblX
  refine Goal.re (tags := tagL [(1, 0)]) (m := ⟨rkRow w F, w2.heap.size⟩) ?_
  refine go_appB (gt := fun _ => Option.none) (unroll := false) 100 [(30, 2, .is (.bool true)), (31, 3, .stop)] vo2 (.slice (some ⟨w.heap.size, 18, none⟩) 3 3) 26 5 [1, 7, 8] [pT w.heap.size, .int .i64 ((n / 256 : Nat) : Int), .int .i64 ((n % 256 : Nat) : Int)] 192 (rkRow w F) [(1, 0)] (inR rkC 31 3) [(.bool (c.kind == 3), .bool true)] [] bt hW2 (by subst hF; kernel_rfl) ⟨congrArg Value.bool (by simp [hk]), trivial⟩ trivial ?_
  intro wA hWA hSA
  refine ⟨_, _, o2.pass (more := []) hSA, Rd.of_row (bs := arr3 c.oui) (cs := F.a.toList) (ow := true) hWA (by simp) 3 rfl (by simp [maxLen]) (fun q hq => by
      have hqn : q < 3 := hq
      have : q = 0 ∨ q = 1 ∨ q = 2 := by omega
      subst hF
      rcases this with rfl | rfl | rfl <;> rfl), by first | (simp only [List.length_append]; omega) | omega, ?_⟩
  intro vo3 w3 hoX kX hblX
  have hW3 : Wst w ⟨rkRow w F, w3.heap.size⟩ w3 := (hWA.laterS kX (o2.loose (more := []) (fun q hq => by cases hq))).fewer (rows := rkRow w F)
  have o3 := o2.app (more := []) hWA hoX hblX
  clear hWA hSA hoX kX hblX
  refine Goal.re (tags := tagL [(1, 0)]) (m := ⟨rkRow w F, w3.heap.size⟩) ?_
  refine go_appB (gt := fun _ => Option.none) (unroll := false) 100 [(32, 2, .is (bY (n / 256))), (32, 4, .is (bY n)), (32, 6, .stop)] vo3 (.slice (some ⟨w3.heap.size, 0, none⟩) 2 2) 26 5 [1] [pT w.heap.size] 199 (rkRow w F ++ [⟨w3.heap.size, bvs (bytes2 n), true⟩]) [(1, 0)] (inR rkC 32 6) [(.int .u8 (IntKind.u8.wrap ((n / 256 : Nat) : Int)), bY (n / 256)), (.int .u8 (IntKind.u8.wrap ((n % 256 : Nat) : Int)), bY n)] [] bt hW3 (by subst hF; kernel_rfl) ⟨congrArg (Value.int .u8) (m_lo _), congrArg (Value.int .u8) (by rw [m_lo]; simp), trivial⟩ trivial ?_
  intro wA hWA hSA
  refine ⟨_, _, o3.pass (more := [⟨w3.heap.size, bvs (bytes2 n), true⟩]) hSA, Rd.of_row (bs := bytes2 (n)) (cs := bvs (bytes2 (n))) (ow := true) hWA (by simp) 2 rfl (by simp [maxLen]) (fun q hq => by rw [Nat.zero_add]; exact bvs_get hq), by first | (simp only [List.length_append]; omega) | omega, ?_⟩
  intro vo4 w4 hoX kX hblX
  have hW4 : Wst w ⟨rkRow w F, w4.heap.size⟩ w4 := (hWA.laterS kX (o3.loose (more := [⟨w3.heap.size, bvs (bytes2 n), true⟩]) (fun q hq => by obtain rfl := List.mem_singleton.1 hq; exact Nat.le_refl _))).fewer (rows := rkRow w F)
  have o4 := o3.app (more := [⟨w3.heap.size, bvs (bytes2 n), true⟩]) hWA hoX hblX
  clear hWA hSA hoX kX hblX
  refine Goal.re (tags := tagL [(1, 0)]) (m := ⟨rkRow w F, w4.heap.size⟩) ?_
  refine go_appB (gt := fun _ => Option.none) (unroll := false) 100 [(33, 3, .stop)] vo4 (.slice bo bn bc) 26 5 [1] [pT w.heap.size] 203 (rkRow w F) [(1, 0)] (inR rkC 33 3) [] [] bt hW4 (by subst hF; kernel_rfl) trivial trivial ?_
  intro wA hWA hSA
  refine ⟨_, _, o4.pass (more := []) hSA, rb.keep0 hWA.keep, by first | (simp only [List.length_append]; omega) | omega, ?_⟩
  intro vo5 w5 hoX kX hblX
  have hW5 : Wst w ⟨rkRow w F, w5.heap.size⟩ w5 := (hWA.laterS kX (o4.loose (more := []) (fun q hq => by cases hq))).fewer (rows := rkRow w F)
  have o5 := o4.app (more := []) hWA hoX hblX
  clear hWA hSA hoX kX hblX
  refine Goal.re (tags := tagL [(1, 0)]) (m := ⟨rkRow w F, w5.heap.size⟩) ?_
  refine go_appB (gt := fun _ => Option.none) (unroll := false) 100 [(34, 3, .stop)] vo5 (.slice ro rn rc) 26 5 [1] [pT w.heap.size] 207 (rkRow w F) [(1, 0)] (inR rkC 34 3) [] [] bt hW5 (by subst hF; kernel_rfl) trivial trivial ?_
  intro wA hWA hSA
  refine ⟨_, _, o5.pass (more := []) hSA, rr.keep0 hWA.keep, by first | (simp only [List.length_append]; omega) | omega, ?_⟩
  intro vo6 w6 hoX kX hblX
  have hW6 : Wst w ⟨rkRow w F, w6.heap.size⟩ w6 := (hWA.laterS kX (o5.loose (more := []) (fun q hq => by cases hq))).fewer (rows := rkRow w F)
  have o6 := o5.app (more := []) hWA hoX hblX
  clear hWA hSA hoX kX hblX
  refine Goal.re (tags := tagL [(1, 0)]) (m := ⟨rkRow w F, w6.heap.size⟩) ?_
  refine go_stop (gt := fun _ => Option.none) (unroll := false) 60 [(35, 0, .stop)] [1, 6] [pT w.heap.size, vo6] (rkRow w F) [(1, 0)] (opsR rkC 35) [] [] hW6 (by kernel_rfl) trivial trivial ?_
  intro w7 hW7 hS7
  have o7 := o6.pass0 hS7
  obtain ⟨vo7, hvo⟩ : ∃ v, v = vo6 := ⟨_, rfl⟩
  rw [← hvo] at o7 ⊢
  have hcl : (cntR c).length = 8 + c.body.length := cnt_three hk
  have eb : arr6 c.dst ++ arr6 c.src ++ bytesB c.tags ++ bytes2 (8 + c.body.length) ++ arr3 c.llc ++ arr3 c.oui ++ bytes2 n ++ c.body ++ c.rest = withR c.dst c.src c.tags (behR c) := by unfold withR behR; rw [hcl]; unfold cntR; simp [hk, hn]
  rw [eb] at o7
  exact rk_fin hF h1 h2 w7 vo7 hW7 o7
theorem rk_head (hF : fiCells c to tn tc bo bn bc ro rn rc = F) (rt : Rt w (.slice to tn tc) c.tags) (rb : Rd w (.slice bo bn bc) c.body) (rr : Rd w (.slice ro rn rc) c.rest) (hl : c.tags.length ≤ 1000000) (hb : c.body.length ≤ 1073741824) (hr : c.rest.length ≤ 1073741824) (h1 : mayL c.tags = true) (h2 : mayF c = true) (w0 : World) (hW0 : Wst w ⟨rkRow w F, w0.heap.size⟩ w0) :
    Goal Tryd.prog (bodyPost Tryd.prog Tryd.f16 (pkQ w c)) rkN ⟨frOf [1] [pT w.heap.size], tagL [(1, 0)], ⟨rkRow w F, w0.heap.size⟩, opsR rkC 16⟩ w0 := by
  have lnil : ([] : List UInt8).length = 0 := rfl
  have l6d : (arr6 c.dst).length = 6 := rfl
  have l6s : (arr6 c.src).length = 6 := rfl
  have l3l : (arr3 c.llc).length = 3 := rfl
  have l3o : (arr3 c.oui).length = 3 := rfl
  obtain ⟨vo0, hvo0⟩ : ∃ v, v = nilV := ⟨_, rfl⟩
  have o0 : OwA w (rkRow w F) w0 vo0 [] := by rw [hvo0]; exact ⟨Own.nil _ _, nilV_since _, fun b hb => by simp [nilV, Value.ownBlock] at hb⟩
  refine go_appB (gt := fun _ => Option.none) (unroll := false) 100 [(17, 3, .stop)] vo0 (.slice (some ⟨w.heap.size, 0, none⟩) 6 6) 26 5 [1] [pT w.heap.size] 134 (rkRow w F) [(1, 0)] (inR rkC 17 3) [] [] bt hW0 (by subst hF hvo0; kernel_rfl) trivial trivial ?_
  intro wA hWA hSA
  refine ⟨_, _, o0.pass (more := []) hSA, Rd.of_row (bs := arr6 c.dst) (cs := F.a.toList) (ow := true) hWA (by simp) 6 rfl (by simp [maxLen]) (fun q hq => by
      have hqn : q < 6 := hq
      have : q = 0 ∨ q = 1 ∨ q = 2 ∨ q = 3 ∨ q = 4 ∨ q = 5 := by omega
      subst hF
      rcases this with rfl | rfl | rfl | rfl | rfl | rfl <;> rfl), by first | (simp only [List.length_append]; omega) | omega, ?_⟩
  intro vo1 w1 hoX kX hblX
  have hW1 : Wst w ⟨rkRow w F, w1.heap.size⟩ w1 := (hWA.laterS kX (o0.loose (more := []) (fun q hq => by cases hq))).fewer (rows := rkRow w F)
  have o1 := o0.app (more := []) hWA hoX hblX
  clear hWA hSA hoX kX hblX
  refine Goal.re (tags := tagL [(1, 0)]) (m := ⟨rkRow w F, w1.heap.size⟩) ?_
  refine go_appB (gt := fun _ => Option.none) (unroll := false) 100 [(18, 3, .stop)] vo1 (.slice (some ⟨w.heap.size, 6, none⟩) 6 6) 26 5 [1] [pT w.heap.size] 138 (rkRow w F) [(1, 0)] (inR rkC 18 3) [] [] bt hW1 (by subst hF; kernel_rfl) trivial trivial ?_
  intro wA hWA hSA
  refine ⟨_, _, o1.pass (more := []) hSA, Rd.of_row (bs := arr6 c.src) (cs := F.a.toList) (ow := true) hWA (by simp) 6 rfl (by simp [maxLen]) (fun q hq => by
      have hqn : q < 6 := hq
      have : q = 0 ∨ q = 1 ∨ q = 2 ∨ q = 3 ∨ q = 4 ∨ q = 5 := by omega
      subst hF
      rcases this with rfl | rfl | rfl | rfl | rfl | rfl <;> rfl), by first | (simp only [List.length_append]; omega) | omega, ?_⟩
  intro vo2 w2 hoX kX hblX
  have hW2 : Wst w ⟨rkRow w F, w2.heap.size⟩ w2 := (hWA.laterS kX (o1.loose (more := []) (fun q hq => by cases hq))).fewer (rows := rkRow w F)
  have o2 := o1.app (more := []) hWA hoX hblX
  clear hWA hSA hoX kX hblX
  refine Goal.re (tags := tagL [(1, 0)]) (m := ⟨rkRow w F, w2.heap.size⟩) ?_
  refine go_call_is (gt := fun _ => Option.none) (unroll := false) 60 [] 47 [.slice to tn tc] [1, 139] [pT w.heap.size, vo2] 142 (rkRow w F) [(1, 0)] (inR rkC 19 3) [] [] hW2 (by subst hF; kernel_rfl) trivial trivial ?_
  intro wB hWB hSB
  have oB := o2.pass0 hSB
  refine (rbytes_any (rt.keep0 hWB.keep) hl).mono ?_
  rintro e w3 ⟨vt, rfl, fr⟩
  refine ⟨_, rfl, ?_⟩
  have hW3 := hWB.later fr.keep
  have o3 := oB.call fr.keep
  have Ht : HdB (rkRow w F) w3 vt (bytesB c.tags) := fr.hd hWB
  have hBl := bytesB_le c.tags
  obtain ⟨vo3, hvo⟩ : ∃ v, v = vo2 := ⟨_, rfl⟩
  rw [← hvo] at o3 ⊢
  refine go_appB (gt := fun _ => Option.none) (unroll := false) 100 [(19, 4, .stop)] vo3 (vt) 26 5 [1] [pT w.heap.size] 143 (rkRow w F) [(1, 0)] (inR rkC 19 4) [] [] bt hW3 (by subst hF; kernel_rfl) trivial trivial ?_
  intro wA hWA hSA
  refine ⟨_, _, o3.pass (more := []) hSA, (Ht.pass0 hSA).rd, by first | (simp only [List.length_append]; omega) | omega, ?_⟩
  intro vo4 w4 hoX kX hblX
  have hW4 : Wst w ⟨rkRow w F, w4.heap.size⟩ w4 := (hWA.laterS kX (o3.loose (more := []) (fun q hq => by cases hq))).fewer (rows := rkRow w F)
  have o4 := o3.app (more := []) hWA hoX hblX
  clear hWA hSA hoX kX hblX
  refine Goal.re (tags := tagL [(1, 0)]) (m := ⟨rkRow w F, w4.heap.size⟩) ?_
  refine go_stop (gt := fun _ => Option.none) (unroll := false) 60 [(20, 0, .stop)] [1, 6] [pT w.heap.size, vo4] (rkRow w F) [(1, 0)] (opsR rkC 20) [] [] hW4 (by kernel_rfl) trivial trivial ?_
  intro w5 hW5 hS5
  have o5 := o4.pass0 hS5
  obtain ⟨vo5, hvo⟩ : ∃ v, v = vo4 := ⟨_, rfl⟩
  rw [← hvo] at o5 ⊢
  simp only [List.nil_append] at o5
  rcases (may_iff c).1 h2 with ⟨h, a1, a2, _⟩ | ⟨h, a1, _⟩ | ⟨h, a1, a2, _⟩
  · obtain ⟨n, hn⟩ := Int.eq_ofNat_of_zero_le (show 0 ≤ c.typ by omega)
    exact rk_one hF rb rr hl hb hr h1 h2 h hn (by omega) w5 vo5 hW5 o5
  · exact rk_two hF rb rr hl hb hr h1 h2 h (n := 0) (by omega) (by omega) w5 vo5 hW5 o5
  · obtain ⟨n, hn⟩ := Int.eq_ofNat_of_zero_le a1
    exact rk_three hF rb rr hl hb hr h1 h2 h hn (by omega) w5 vo5 hW5 o5
end
end Go.Proofs.YtcimfojbggckhaaDoor
namespace Go.Proofs.YtcimfojbggckhaaDoor
open Go.RowKit

theorem readT_stop : ∀ (f : Nat) (l : List Tg) (b : List UInt8) {m : List Tg} {r : List UInt8}, 2 ≤ l.length + f → readT f l b = (m, r, 0) → begB r m.length = false
  | 0, l, b, m, r, hf, h => by
    rw [readT] at h
    cases h
    simp only [begB, show ¬ l.length < 2 by omega, decide_false, Bool.false_and, Bool.and_false]
  | f + 1, l, b, m, r, hf, h => by
    rw [readT] at h
    cases hb : begB b l.length with
    | false =>
      rw [hb] at h
      simp only [Bool.false_eq_true, if_false] at h
      cases h
      exact hb
    | true =>
      rw [hb] at h
      simp only [if_true] at h
      split at h
      · cases h
      · exact readT_stop f _ _ (by simp; omega) h
theorem arr3_take {cs : List UInt8} (h : 3 ≤ cs.length) : arr3 cs = cs.take 3 := by
  match cs, h with
  | a :: b :: c :: r, _ => rfl
theorem arr6_take {cs : List UInt8} (h : 6 ≤ cs.length) : arr6 cs = cs.take 6 := by
  match cs, h with
  | a :: b :: c :: d :: e :: f :: r, _ => rfl
theorem arr3_tk (cs : List UInt8) : arr3 (cs.take 3) = arr3 cs := by
  unfold arr3
  have h : ∀ i, i < 3 → byteAt (cs.take 3) i = byteAt cs i := fun i hi => by simp [byteAt, List.getD_eq_getElem?_getD, hi]
  rw [h 0 (by omega), h 1 (by omega), h 2 (by omega)]
theorem arr6_tk (cs : List UInt8) : arr6 (cs.take 6) = arr6 cs := by
  unfold arr6
  have h : ∀ i, i < 6 → byteAt (cs.take 6) i = byteAt cs i := fun i hi => by simp [byteAt, List.getD_eq_getElem?_getD, hi]
  rw [h 0 (by omega), h 1 (by omega), h 2 (by omega), h 3 (by omega), h 4 (by omega), h 5 (by omega)]
theorem isSap_arr (l : List UInt8) : isSap (arr3 l) = isSap l := rfl
theorem isSap_tk (cs : List UInt8) : isSap (cs.take 3) = isSap cs := by rw [← isSap_arr, arr3_tk, isSap_arr]
theorem arr3_arr (l : List UInt8) : arr3 (arr3 l) = arr3 l := rfl
theorem arr6_arr (l : List UInt8) : arr6 (arr6 l) = arr6 l := rfl
theorem arr3_app (l r : List UInt8) : arr3 (arr3 l ++ r) = arr3 l := rfl
theorem zero3_arr {l : List UInt8} (h : zero3 l = true) : arr3 l = arr3 [] := by
  simp only [zero3, Bool.and_eq_true, beq_iff_eq] at h
  unfold arr3
  rw [h.1, h.2.1, h.2.2]
theorem be_bytes2 {n : Nat} (h : n < 65536) (cs : List UInt8) : be ((bytes2 n ++ cs).take 2) = n := by
  rw [List.take_append_of_le_length (by rw [b2_len]; omega), List.take_of_length_le (by rw [b2_len]; omega), be_b2 h]
theorem drop_bytes2 (n : Nat) (cs : List UInt8) : (bytes2 n ++ cs).drop 2 = cs := rfl
theorem take_two {r : List UInt8} (h : 2 ≤ r.length) : bytes2 (be (r.take 2)) = r.take 2 := by
  have := take2_of (bs := r) (k := 0) (by omega)
  rw [List.drop_zero] at this
  rw [this, b2_be]
theorem be_lt2 (r : List UInt8) : be (r.take 2) < 65536 := be_small (n := 2) (by simp; omega)
section
variable {c : Fi}
theorem behR_two (c : Fi) : ∃ n cs, behR c = bytes2 n ++ cs := by
  unfold behR
  split
  · exact ⟨_, _, rfl⟩
  · exact ⟨_, _, rfl⟩
theorem behR_len (c : Fi) : 2 ≤ (behR c).length := by
  obtain ⟨n, cs, h⟩ := behR_two c
  rw [h, List.length_append, b2_len]
  omega
theorem kinds_no {n : Nat} {k : Int} (h1 : k ≠ 33024) (h2 : n = 0 → k ≠ 34984) : (kindsL n).contains k = false := by
  match n with
  | 0 => simp [kindsL, h1, h2 rfl]
  | 1 => simp [kindsL, h1]
  | n + 2 => rfl
theorem readF_kinds (h : readF c = false) (hn : c.tags.length < 2) : c.typ ≠ 33024 ∧ (c.tags.length = 0 → c.typ ≠ 34984) := by
  unfold readF at h
  constructor
  · intro e
    simp [e] at h
    omega
  · intro h0 e
    simp [e, h0] at h
theorem behR_beg (h2 : mayF c = true) : begB (behR c) c.tags.length = false := by
  by_cases hn : c.tags.length < 2
  · have key : ∃ n cs, behR c = bytes2 n ++ cs ∧ n < 65536 ∧ (n : Int) ≠ 33024 ∧ (c.tags.length = 0 → (n : Int) ≠ 34984) := by
      rcases (may_iff c).1 h2 with ⟨h, a1, a2, a3, _⟩ | ⟨h, _, _, _, a5⟩ | ⟨h, _, _, _, a5⟩
      · obtain ⟨n, hn'⟩ := Int.eq_ofNat_of_zero_le (show 0 ≤ c.typ by omega)
        have hk := readF_kinds a3 hn
        rw [hn'] at hk a2
        refine ⟨n, c.body, ?_, by omega, hk.1, hk.2⟩
        unfold behR
        rw [if_pos h, hn']
        rfl
      · refine ⟨(cntR c).length, cntR c ++ c.rest, ?_, ?_, ?_, ?_⟩
        · unfold behR; rw [if_neg (by omega)]
        all_goals rw [cnt_two h]; omega
      · refine ⟨(cntR c).length, cntR c ++ c.rest, ?_, ?_, ?_, ?_⟩
        · unfold behR; rw [if_neg (by omega)]
        all_goals rw [cnt_three h]; omega
    obtain ⟨n, cs, e, h16, k1, k2⟩ := key
    rw [e]
    simp only [begB, be_bytes2 h16, kinds_no k1 k2, Bool.and_false]
  · simp only [begB, hn, decide_false, Bool.false_and, Bool.and_false]
/-- What was laid behind the tags is carried. -/
theorem carry_beh (h2 : mayF c = true) : (carryR (be ((behR c).take 2)) ((behR c).drop 2)).e = 0 ∧ ((carryR (be ((behR c).take 2)) ((behR c).drop 2)).kind : Int) = c.kind ∧ ((carryR (be ((behR c).take 2)) ((behR c).drop 2)).typ : Int) = c.typ ∧
    arr3 (carryR (be ((behR c).take 2)) ((behR c).drop 2)).llc = arr3 c.llc ∧ arr3 (carryR (be ((behR c).take 2)) ((behR c).drop 2)).oui = arr3 c.oui ∧ (carryR (be ((behR c).take 2)) ((behR c).drop 2)).body = c.body ∧ (carryR (be ((behR c).take 2)) ((behR c).drop 2)).rest = c.rest := by
  rcases (may_iff c).1 h2 with ⟨h, a1, a2, a3, a4, a5, a6⟩ | ⟨h, a1, a2, a3, a5⟩ | ⟨h, a1, a2, a3, a5⟩
  · obtain ⟨n, hn'⟩ := Int.eq_ofNat_of_zero_le (show 0 ≤ c.typ by omega)
    have e : behR c = bytes2 n ++ c.body := by unfold behR; rw [if_pos h, hn']; rfl
    rw [e, be_bytes2 (by omega), drop_bytes2]
    have ec : carryR n c.body = ⟨0, 1, n, [], [], c.body, []⟩ := if_pos (by omega)
    rw [ec]
    exact ⟨rfl, h.symm, hn'.symm, (zero3_arr a4).symm, (zero3_arr a5).symm, rfl, (List.length_eq_zero_iff.1 a6).symm⟩
  · have hl := cnt_two h
    have e : behR c = bytes2 (cntR c).length ++ (cntR c ++ c.rest) := by unfold behR; rw [if_neg (by omega)]
    have ec : cntR c = arr3 c.llc ++ c.body := by unfold cntR; rw [if_neg (by omega)]
    rw [e, be_bytes2 (by omega), drop_bytes2, hl, ec]
    have l3 : (arr3 c.llc).length = 3 := rfl
    have t3 : (arr3 c.llc ++ c.body ++ c.rest).take 3 = arr3 c.llc := rfl
    have ec2 : carryR (3 + c.body.length) (arr3 c.llc ++ c.body ++ c.rest) = ⟨0, 2, 0, arr3 c.llc, [], c.body, c.rest⟩ := by
      unfold carryR
      rw [if_neg (by omega), if_neg (by omega), if_neg (by simp only [List.length_append]; omega), if_neg (by omega), t3, isSap_arr, a3, if_pos rfl]
      have e1 : (arr3 c.llc ++ c.body ++ c.rest).take (3 + c.body.length) = arr3 c.llc ++ c.body := by
        rw [List.take_append_of_le_length (by simp only [List.length_append]; omega), List.take_of_length_le (by simp only [List.length_append]; omega)]
      have e2 : (arr3 c.llc ++ c.body ++ c.rest).drop (3 + c.body.length) = c.rest := by
        rw [List.drop_append_of_le_length (by simp only [List.length_append]; omega), List.drop_of_length_le (by simp only [List.length_append]; omega), List.nil_append]
      rw [e1, e2]
      rfl
    rw [ec2]
    exact ⟨rfl, h.symm, a1.symm, rfl, (zero3_arr a2).symm, rfl, rfl⟩
  · have hl := cnt_three h
    obtain ⟨n, hn'⟩ := Int.eq_ofNat_of_zero_le a1
    have e : behR c = bytes2 (cntR c).length ++ (cntR c ++ c.rest) := by unfold behR; rw [if_neg (by omega)]
    have ec : cntR c = arr3 c.llc ++ arr3 c.oui ++ bytes2 n ++ c.body := by unfold cntR; rw [if_pos h, hn']; rfl
    rw [e, be_bytes2 (by omega), drop_bytes2, hl, ec]
    have l3 : (arr3 c.llc).length = 3 := rfl
    have l3o : (arr3 c.oui).length = 3 := rfl
    have l2 : (bytes2 n).length = 2 := rfl
    have ec2 : carryR (8 + c.body.length) (arr3 c.llc ++ arr3 c.oui ++ bytes2 n ++ c.body ++ c.rest) = ⟨0, 3, n, arr3 c.llc, arr3 c.oui, c.body, c.rest⟩ := by
      unfold carryR
      have t3 : (arr3 c.llc ++ arr3 c.oui ++ bytes2 n ++ c.body ++ c.rest).take 3 = arr3 c.llc := rfl
      have e1 : (arr3 c.llc ++ arr3 c.oui ++ bytes2 n ++ c.body ++ c.rest).take (8 + c.body.length) = arr3 c.llc ++ arr3 c.oui ++ bytes2 n ++ c.body := by
        rw [List.take_append_of_le_length (by simp only [List.length_append]; omega), List.take_of_length_le (by simp only [List.length_append]; omega)]
      have e2 : (arr3 c.llc ++ arr3 c.oui ++ bytes2 n ++ c.body ++ c.rest).drop (8 + c.body.length) = c.rest := by
        rw [List.drop_append_of_le_length (by simp only [List.length_append]; omega), List.drop_of_length_le (by simp only [List.length_append]; omega), List.nil_append]
      have e3 : ((arr3 c.llc ++ arr3 c.oui ++ bytes2 n ++ c.body ++ c.rest).drop 6).take 2 = bytes2 n := rfl
      have e4 : ((arr3 c.llc ++ arr3 c.oui ++ bytes2 n ++ c.body ++ c.rest).drop 3).take 3 = arr3 c.oui := rfl
      have e5 : (arr3 c.llc ++ arr3 c.oui ++ bytes2 n ++ c.body).drop 8 = c.body := rfl
      rw [if_neg (by omega), if_neg (by omega), if_neg (by simp only [List.length_append]; omega), if_neg (by omega), t3, isSap_arr, a3, if_neg (by simp), if_neg (by omega), e1, e2, e3, e4, e5, be_b2 (by omega)]
    rw [ec2]
    exact ⟨rfl, h.symm, hn'.symm, rfl, rfl, rfl, rfl⟩
/-- Two frames that tell the same. -/
structure FiEq (d c : Fi) : Prop where
  dst : arr6 d.dst = arr6 c.dst
  src : arr6 d.src = arr6 c.src
  tags : d.tags = c.tags
  kind : d.kind = c.kind
  typ : d.typ = c.typ
  llc : arr3 d.llc = arr3 c.llc
  oui : arr3 d.oui = arr3 c.oui
  body : d.body = c.body
  rest : d.rest = c.rest
theorem stk_of {l : List Tg} (h : mayL l = true) : Stk l := by
  rw [← refMayL_eq] at h
  simp only [refMayL, Bool.and_eq_true] at h
  obtain ⟨h1, h2⟩ := h
  match l, h1, h2 with
  | [], _, _ => exact .nil
  | [x], h1, _ => exact .one (by simpa using h1)
  | [x, y], h1, h2 =>
    simp at h1 h2
    exact .two h1.1 h1.2 (by omega)
  | x :: y :: z :: r, _, h2 =>
    simp at h2
    omega
/-- What was laid is read. -/
theorem law_there (h1 : mayL c.tags = true) (h2 : mayF c = true) (hx : (withR c.dst c.src c.tags (behR c)).length ≤ 65535) :
    (frameR (withR c.dst c.src c.tags (behR c))).2 = 0 ∧ FiEq (frameR (withR c.dst c.src c.tags (behR c))).1.i c := by
  have hst := stk_of h1
  obtain ⟨q1, q2, q3, q4, q5, q6, q7⟩ := carry_beh h2
  have hr := hst.read (behR_beg h2)
  have hl := behR_len c
  have hlen : (withR c.dst c.src c.tags (behR c)).length = 12 + ((bytesB c.tags).length + (behR c).length) := by
    unfold withR
    simp only [List.length_append]
    have : (arr6 c.dst).length = 6 := rfl
    have : (arr6 c.src).length = 6 := rfl
    omega
  have d12 : (withR c.dst c.src c.tags (behR c)).drop 12 = bytesL c.tags ++ behR c := by
    rw [← hst.bytes]; rfl
  have t6 : (withR c.dst c.src c.tags (behR c)).take 6 = arr6 c.dst := rfl
  have d6 : ((withR c.dst c.src c.tags (behR c)).drop 6).take 6 = arr6 c.src := rfl
  have ef : frameR (withR c.dst c.src c.tags (behR c)) = (⟨arr6 c.dst, arr6 c.src, c.tags, (carryR (be ((behR c).take 2)) ((behR c).drop 2)).kind, (carryR (be ((behR c).take 2)) ((behR c).drop 2)).typ, (carryR (be ((behR c).take 2)) ((behR c).drop 2)).llc, (carryR (be ((behR c).take 2)) ((behR c).drop 2)).oui, (carryR (be ((behR c).take 2)) ((behR c).drop 2)).body, (carryR (be ((behR c).take 2)) ((behR c).drop 2)).rest⟩, 0) := by
    unfold frameR
    rw [if_neg (by omega), if_neg (by omega), d12, hr, t6, d6]
    simp only [ne_eq, not_true_eq_false, if_false]
    rw [if_neg (by omega)]
    simp only [q1, not_true_eq_false, if_false]
  rw [ef]
  exact ⟨rfl, rfl, rfl, rfl, q2, q3, q4, q5, q6, q7⟩
theorem carry_back {n : Nat} {cs : List UInt8} (h : (carryR n cs).e = 0) : (1536 ≤ n ∧ carryR n cs = ⟨0, 1, n, [], [], cs, []⟩) ∨ (3 ≤ n ∧ n ≤ 1500 ∧ n ≤ cs.length ∧ isSap (cs.take 3) = false ∧ carryR n cs = ⟨0, 2, 0, cs.take 3, [], (cs.take n).drop 3, cs.drop n⟩) ∨
    (8 ≤ n ∧ n ≤ 1500 ∧ n ≤ cs.length ∧ isSap (cs.take 3) = true ∧ carryR n cs = ⟨0, 3, be ((cs.drop 6).take 2), cs.take 3, (cs.drop 3).take 3, (cs.take n).drop 8, cs.drop n⟩) := by
  by_cases h1 : 1536 ≤ n
  · exact .inl ⟨h1, if_pos h1⟩
  by_cases h2 : 1500 < n
  · rw [carryR, if_neg h1, if_pos h2] at h; cases h
  by_cases h3 : cs.length < n
  · rw [carryR, if_neg h1, if_neg h2, if_pos h3] at h; cases h
  by_cases h4 : n < 3
  · rw [carryR, if_neg h1, if_neg h2, if_neg h3, if_pos h4] at h; cases h
  cases hs : isSap (cs.take 3) with
  | false => exact .inr (.inl ⟨by omega, by omega, by omega, rfl, by rw [carryR, if_neg h1, if_neg h2, if_neg h3, if_neg h4, if_pos hs]⟩)
  | true =>
    by_cases h8 : n < 8
    · rw [carryR, if_neg h1, if_neg h2, if_neg h3, if_neg h4, if_neg (by rw [hs]; simp), if_pos h8] at h; cases h
    · exact .inr (.inr ⟨by omega, by omega, by omega, rfl, by rw [carryR, if_neg h1, if_neg h2, if_neg h3, if_neg h4, if_neg (by rw [hs]; simp), if_neg h8]⟩)
end
/-- Whatever is read as a frame is laid again. -/
theorem law_back {b : List UInt8} (h : (frameR b).2 = 0) : mayL (frameR b).1.i.tags = true ∧ mayF (frameR b).1.i = true ∧ withR (frameR b).1.i.dst (frameR b).1.i.src (frameR b).1.i.tags (behR (frameR b).1.i) = b ∧ b.length ≤ 65535 := by
  by_cases h1 : 65535 < b.length
  · rw [frameR, if_pos h1] at h; cases h
  by_cases h2 : b.length < 12
  · rw [frameR, if_neg h1, if_pos h2] at h; cases h
  rcases hq : readT 3 [] (b.drop 12) with ⟨l, r, e⟩
  have ef : frameR b = if e ≠ 0 then (fc0, e) else if r.length < 2 then (fc0, 4) else if (carryR (be (r.take 2)) (r.drop 2)).e ≠ 0 then (fc0, (carryR (be (r.take 2)) (r.drop 2)).e) else (⟨b.take 6, (b.drop 6).take 6, l, (carryR (be (r.take 2)) (r.drop 2)).kind, (carryR (be (r.take 2)) (r.drop 2)).typ, (carryR (be (r.take 2)) (r.drop 2)).llc, (carryR (be (r.take 2)) (r.drop 2)).oui, (carryR (be (r.take 2)) (r.drop 2)).body, (carryR (be (r.take 2)) (r.drop 2)).rest⟩, 0) := by
    rw [frameR, if_neg h1, if_neg h2, hq]
  by_cases he : e = 0
  case neg => rw [ef, if_pos he] at h; exact absurd h he
  subst he
  rw [if_neg (by simp)] at ef
  by_cases hr : r.length < 2
  · rw [ef, if_pos hr] at h; cases h
  rw [if_neg hr] at ef
  by_cases hc : (carryR (be (r.take 2)) (r.drop 2)).e = 0
  case neg => rw [ef, if_pos hc] at h; exact absurd h hc
  rw [if_neg (by simp [hc])] at ef
  have hbeg := readT_stop 3 [] _ (by simp) hq
  rcases readT_back 3 [] (b.drop 12) with hb | ⟨m, r', hb, hb2, hb3, hb4⟩
  · rw [hq] at hb; cases hb
  rw [hq] at hb
  simp only [List.nil_append, Prod.mk.injEq, and_true] at hb
  obtain ⟨rfl, rfl⟩ := hb
  have hml : mayL l = true := hb3
  have hn := be_lt2 r
  have htk := take_two (r := r) (by omega)
  have hbB : bytesB l = bytesL l := by rw [bytesB, hb4, if_pos rfl]
  have hr2 : r.take 2 ++ r.drop 2 = r := List.take_append_drop 2 r
  generalize hnn : be (r.take 2) = n at *
  generalize hcs : r.drop 2 = cs at *
  have hw : ∀ (k t : Int) (ll oo bb rr : List UInt8), behR ⟨b.take 6, (b.drop 6).take 6, l, k, t, ll, oo, bb, rr⟩ = r → withR (b.take 6) ((b.drop 6).take 6) l (behR ⟨b.take 6, (b.drop 6).take 6, l, k, t, ll, oo, bb, rr⟩) = b := by
    intro k t ll oo bb rr hbe
    rw [hbe]
    unfold withR
    rw [hbB, ← hb2, arr6_tk, arr6_tk, arr6_take (by omega), arr6_take (by simp; omega)]
    rw [show b.drop 12 = (b.drop 6).drop 6 by rw [List.drop_drop], List.take_append_drop, List.take_append_drop]
  rw [ef]
  rcases carry_back hc with ⟨c1, c2⟩ | ⟨c1, c2, c3, c4, c5⟩ | ⟨c1, c2, c3, c4, c5⟩
  · rw [c2]
    have hbe : behR ⟨b.take 6, (b.drop 6).take 6, l, 1, n, [], [], cs, []⟩ = r := by
      unfold behR
      rw [if_pos rfl]
      show bytes2 n ++ cs = r
      rw [htk, hr2]
    refine ⟨hml, (may_iff _).2 (.inl ⟨rfl, ?_, ?_, ?_, rfl, rfl, rfl⟩), hw _ _ _ _ _ _ hbe, by omega⟩
    · show (1536 : Int) ≤ (n : Int); omega
    · show (n : Int) ≤ 65535; omega
    · show readF ⟨b.take 6, (b.drop 6).take 6, l, 1, n, [], [], cs, []⟩ = false
      unfold readF
      simp only
      have hlr : decide (2 ≤ r.length) = true := decide_eq_true (by omega)
      simp only [begB, hlr, hnn, Bool.true_and] at hbeg
      cases e1 : ((n : Int) == 33024) with
      | true =>
        simp only [if_true]
        have e1' : (n : Int) = 33024 := by simpa using e1
        rw [e1'] at hbeg
        by_cases h2 : l.length < 2
        · have : l.length = 0 ∨ l.length = 1 := by omega
          rcases this with h0 | h0 <;> rw [h0] at hbeg <;> simp [kindsL] at hbeg
        · rw [if_neg (by simp; omega), if_neg (by rw [e1']; simp)]
      | false =>
        simp only [Bool.false_eq_true, if_false]
        cases e2 : ((n : Int) == 34984) with
        | false => simp
        | true =>
          simp only [if_true]
          have e2' : (n : Int) = 34984 := by simpa using e2
          rw [e2'] at hbeg
          by_cases h0 : l.length = 0
          · rw [h0] at hbeg; simp [kindsL] at hbeg
          · exact beq_eq_false_iff_ne.2 (by omega)
  · rw [c5]
    have hcn : cntR ⟨b.take 6, (b.drop 6).take 6, l, 2, 0, cs.take 3, [], (cs.take n).drop 3, cs.drop n⟩ = cs.take n := by
      unfold cntR
      rw [if_neg (by simp)]
      simp only
      have e3 : cs.take 3 = (cs.take n).take 3 := by rw [List.take_take, Nat.min_eq_left c1]
      rw [arr3_tk, arr3_take (by omega), e3, List.take_append_drop]
    have hbe : behR ⟨b.take 6, (b.drop 6).take 6, l, 2, 0, cs.take 3, [], (cs.take n).drop 3, cs.drop n⟩ = r := by
      unfold behR
      rw [if_neg (by simp), hcn]
      simp only
      rw [List.take_append_drop, List.length_take, Nat.min_eq_left c3, htk, hr2]
    refine ⟨hml, (may_iff _).2 (.inr (.inl ⟨rfl, rfl, rfl, ?_, ?_⟩)), hw _ _ _ _ _ _ hbe, by omega⟩
    · exact c4
    · show 3 + ((cs.take n).drop 3).length ≤ 1500
      simp; omega
  · rw [c5]
    have ht2 : bytes2 (be ((cs.drop 6).take 2)) = (cs.drop 6).take 2 := take_two (by simp; omega)
    have hcn : cntR ⟨b.take 6, (b.drop 6).take 6, l, 3, (be ((cs.drop 6).take 2) : Nat), cs.take 3, (cs.drop 3).take 3, (cs.take n).drop 8, cs.drop n⟩ = cs.take n := by
      unfold cntR
      rw [if_pos rfl]
      simp only [Int.toNat_natCast]
      rw [ht2, arr3_tk, arr3_tk, arr3_take (by omega), arr3_take (by simp; omega)]
      have e8 : cs.take 8 = cs.take 3 ++ (cs.drop 3).take 3 ++ (cs.drop 6).take 2 := by
        rw [show 8 = 3 + (3 + 2) from rfl, List.take_add, List.take_add, List.drop_drop, List.append_assoc]
      have e9 : cs.take 8 = (cs.take n).take 8 := by rw [List.take_take, Nat.min_eq_left c1]
      rw [← e8, e9, List.take_append_drop]
    have hbe : behR ⟨b.take 6, (b.drop 6).take 6, l, 3, (be ((cs.drop 6).take 2) : Nat), cs.take 3, (cs.drop 3).take 3, (cs.take n).drop 8, cs.drop n⟩ = r := by
      unfold behR
      rw [if_neg (by simp), hcn]
      simp only
      rw [List.take_append_drop, List.length_take, Nat.min_eq_left c3, htk, hr2]
    refine ⟨hml, (may_iff _).2 (.inr (.inr ⟨rfl, ?_, ?_, c4, ?_⟩)), hw _ _ _ _ _ _ hbe, by omega⟩
    · show (0 : Int) ≤ ((be ((cs.drop 6).take 2) : Nat) : Int); omega
    · show ((be ((cs.drop 6).take 2) : Nat) : Int) ≤ 65535
      have := be_lt2 (cs.drop 6); omega
    · show 8 + ((cs.take n).drop 8).length ≤ 1500
      simp; omega
end Go.Proofs.YtcimfojbggckhaaDoor
namespace Go.Proofs.YtcimfojbggckhaaDoor
open Go.RowKit

section
variable {w : World} {c : Fi} {F : Fr} {to bo ro : Option Addr} {tn tc bn bc rn rc : Nat}
abbrev rk2 (w : World) (F : Fr) : List RowS := [⟨w.heap.size, F.a.toList, true⟩] ++ [⟨w.heap.size + 1, [bv 0, bv 0, bv 0], true⟩]
theorem rk_mid (hF : fiCells c to tn tc bo bn bc ro rn rc = F) (rt : Rt w (.slice to tn tc) c.tags) (rb : Rd w (.slice bo bn bc) c.body) (rr : Rd w (.slice ro rn rc) c.rest) (hl : c.tags.length ≤ 1000000) (hb : c.body.length ≤ 1073741824) (hr : c.rest.length ≤ 1073741824) (hm1 : mayL c.tags = true) (b : Bool) (hsap : isSap c.llc = b) (w0 : World) (hW0 : Wst w ⟨rk2 w F, w0.heap.size⟩ w0) :
    Goal Tryd.prog (bodyPost Tryd.prog Tryd.f16 (pkQ w c)) rkN ⟨frOf [1, 4, 5] [pT w.heap.size, pT (w.heap.size + 1), .bool b], tagL [(1, 0), (4, 1)], ⟨rk2 w F, w0.heap.size⟩, opsR rkC 5⟩ w0 := by
  have sl : ∀ wx : World, (Builtin.len_ #[30] 3 #[.slice to tn tc]).run Tryd.prog wx = .ok (.int .i64 (c.tags.length : Int)) wx := fun wx => rt.sem_len ertt (ty := 3) wx
  have sb : ∀ wx : World, (Builtin.len_ #[26] 3 #[.slice bo bn bc]).run Tryd.prog wx = .ok (.int .i64 (c.body.length : Int)) wx := fun wx => rb.run_len (ty := 3) bt.sl
  have sr : ∀ wx : World, (Builtin.len_ #[26] 3 #[.slice ro rn rc]).run Tryd.prog wx = .ok (.int .i64 (c.rest.length : Int)) wx := fun wx => rr.run_len (ty := 3) bt.sl
  have fail : mayF c = false → ∀ w9, Keep No w w9 → pkQ w c (.returned (.tuple #[nilV, .int .i64 1])) w9 := fun h w9 k => pk_fail (e := 1) (by simp [putR, hm1, h]) k
  have good : mayF c = true → ∀ w9, Wst w ⟨rk2 w F, w9.heap.size⟩ w9 → Goal Tryd.prog (bodyPost Tryd.prog Tryd.f16 (pkQ w c)) rkN ⟨frOf [1] [pT w.heap.size], tagL [(1, 0)], ⟨rk2 w F, w9.heap.size⟩, opsR rkC 16⟩ w9 := fun h w9 hW9 => by
    have hW : Wst w ⟨rkRow w F, w9.heap.size⟩ w9 := hW9.fewer
    exact Goal.re (rk_head hF rt rb rr hl hb hr hm1 h w9 hW)
  cases p1 : decide (c.kind < 1) with
  | false =>
    have p1' : ¬ (c.kind < 1) := of_decide_eq_false p1
    cases p2 : decide (c.kind > 3) with
    | false =>
      have p2' : ¬ (c.kind > 3) := of_decide_eq_false p2
      cases p3 : decide (c.typ < 0) with
      | false =>
        have p3' : ¬ (c.typ < 0) := of_decide_eq_false p3
        cases p4 : decide (c.typ > 65535) with
        | false =>
          have p4' : ¬ (c.typ > 65535) := of_decide_eq_false p4
          cases k1 : (c.kind == 1) with
          | false =>
            have k1' : ¬ c.kind = 1 := by simpa using k1
            cases k2 : (c.kind == 2) with
            | false =>
              have k2' : ¬ c.kind = 2 := by simpa using k2
              have k3' : c.kind = 3 := by omega
              have k3 : (c.kind == 3) = true := by rw [k3']; rfl
              cases b with
              | false =>
                have hm : mayF c = false := no_may (by rintro (⟨a1, a2, a3, a4, a5, a6, a7⟩ | ⟨a1, a2, a3, a4, a5⟩ | ⟨a1, a2, a3, a4, a5⟩) <;> first | omega | (simp_all; done))
                exact go_ret (gt := fun _ => Option.none) (unroll := false) 200 [(5, 2, .is (.bool false)), (5, 6, .is (.bool false)), (5, 11, .is (.bool false)), (5, 16, .is (.bool false)), (7, 2, .is (.bool false)), (12, 2, .is (.bool false)), (14, 2, .is (.bool true))] [.tmp 2, .tmp 3] (.tuple #[nilV, .int .i64 1]) [(.bool (decide (c.kind < 1)), .bool false), (.bool (decide (c.kind > 3)), .bool false), (.bool (decide (c.typ < 0)), .bool false), (.bool (decide (c.typ > 65535)), .bool false), (.bool (c.kind == 1), .bool false), (.bool (c.kind == 2), .bool false), (.bool (c.kind == 3), .bool true)] [] hW0 Tryd.results16 (by subst hF; kernel_rfl) ⟨congrArg Value.bool p1, congrArg Value.bool p2, congrArg Value.bool p3, congrArg Value.bool p4, congrArg Value.bool k1, congrArg Value.bool k2, congrArg Value.bool k3, trivial⟩ trivial (fun w9 hW9 _ => fail hm w9 hW9.keep)
              | true =>
                cases s2 : decide (8 + (c.body.length : Int) > 1500) with
                | false =>
                  have s2' : ¬ (8 + (c.body.length : Int) > 1500) := of_decide_eq_false s2
                  have hm : mayF c = true := (may_iff c).2 (.inr (.inr ⟨k3', by omega, by omega, hsap, by omega⟩))
                  refine go_stop (gt := fun _ => Option.none) (unroll := false) 200 [(5, 2, .is (.bool false)), (5, 6, .is (.bool false)), (5, 11, .is (.bool false)), (5, 16, .is (.bool false)), (7, 2, .is (.bool false)), (12, 2, .is (.bool false)), (14, 2, .is (.bool true)), (14, 9, .sem (.int .i64 (c.body.length : Int))), (14, 10, .is (.int .i64 (8 + (c.body.length : Int)))), (14, 11, .is (.bool false)), (16, 0, .stop)] [1] [pT w.heap.size] (rk2 w F) [(1, 0)] (opsR rkC 16) [(.bool (decide (c.kind < 1)), .bool false), (.bool (decide (c.kind > 3)), .bool false), (.bool (decide (c.typ < 0)), .bool false), (.bool (decide (c.typ > 65535)), .bool false), (.bool (c.kind == 1), .bool false), (.bool (c.kind == 2), .bool false), (.bool (c.kind == 3), .bool true), (.int .i64 (IntKind.i64.wrap (8 + (c.body.length : Int))), .int .i64 (8 + (c.body.length : Int))), (.bool (decide (8 + (c.body.length : Int) > 1500)), .bool false)] [(Builtin.len_ #[26] 3 #[.slice bo bn bc], .int .i64 (c.body.length : Int))] hW0 (by subst hF; kernel_rfl) ⟨congrArg Value.bool p1, congrArg Value.bool p2, congrArg Value.bool p3, congrArg Value.bool p4, congrArg Value.bool k1, congrArg Value.bool k2, congrArg Value.bool k3, congrArg (Value.int .i64) (i64_small (by omega) (by omega)), congrArg Value.bool s2, trivial⟩ ⟨fun wx _ => sb wx, trivial⟩ ?_
                  intro w9 hW9 _
                  exact good hm w9 hW9
                | true =>
                  have s2' : (8 + (c.body.length : Int) > 1500) := of_decide_eq_true s2
                  have hm : mayF c = false := no_may (by rintro (⟨a1, a2, a3, a4, a5, a6, a7⟩ | ⟨a1, a2, a3, a4, a5⟩ | ⟨a1, a2, a3, a4, a5⟩) <;> first | omega | (simp_all; done))
                  exact go_ret (gt := fun _ => Option.none) (unroll := false) 200 [(5, 2, .is (.bool false)), (5, 6, .is (.bool false)), (5, 11, .is (.bool false)), (5, 16, .is (.bool false)), (7, 2, .is (.bool false)), (12, 2, .is (.bool false)), (14, 2, .is (.bool true)), (14, 9, .sem (.int .i64 (c.body.length : Int))), (14, 10, .is (.int .i64 (8 + (c.body.length : Int)))), (14, 11, .is (.bool true))] [.tmp 2, .tmp 3] (.tuple #[nilV, .int .i64 1]) [(.bool (decide (c.kind < 1)), .bool false), (.bool (decide (c.kind > 3)), .bool false), (.bool (decide (c.typ < 0)), .bool false), (.bool (decide (c.typ > 65535)), .bool false), (.bool (c.kind == 1), .bool false), (.bool (c.kind == 2), .bool false), (.bool (c.kind == 3), .bool true), (.int .i64 (IntKind.i64.wrap (8 + (c.body.length : Int))), .int .i64 (8 + (c.body.length : Int))), (.bool (decide (8 + (c.body.length : Int) > 1500)), .bool true)] [(Builtin.len_ #[26] 3 #[.slice bo bn bc], .int .i64 (c.body.length : Int))] hW0 Tryd.results16 (by subst hF; kernel_rfl) ⟨congrArg Value.bool p1, congrArg Value.bool p2, congrArg Value.bool p3, congrArg Value.bool p4, congrArg Value.bool k1, congrArg Value.bool k2, congrArg Value.bool k3, congrArg (Value.int .i64) (i64_small (by omega) (by omega)), congrArg Value.bool s2, trivial⟩ ⟨fun wx _ => sb wx, trivial⟩ (fun w9 hW9 _ => fail hm w9 hW9.keep)
            | true =>
              have k2' : c.kind = 2 := by simpa using k2
              cases r1 : (c.typ != 0) with
              | false =>
                have r1' : c.typ = 0 := by simpa using r1
                cases r2 : zero3 c.oui with
                | false =>
                  have hm : mayF c = false := no_may (by rintro (⟨a1, a2, a3, a4, a5, a6, a7⟩ | ⟨a1, a2, a3, a4, a5⟩ | ⟨a1, a2, a3, a4, a5⟩) <;> first | omega | (simp_all; done))
                  exact go_ret (gt := fun _ => Option.none) (unroll := false) 200 [(5, 2, .is (.bool false)), (5, 6, .is (.bool false)), (5, 11, .is (.bool false)), (5, 16, .is (.bool false)), (7, 2, .is (.bool false)), (12, 2, .is (.bool true)), (12, 6, .is (.bool false)), (12, 11, .sem (.bool true))] [.tmp 2, .tmp 3] (.tuple #[nilV, .int .i64 1]) [(.bool (decide (c.kind < 1)), .bool false), (.bool (decide (c.kind > 3)), .bool false), (.bool (decide (c.typ < 0)), .bool false), (.bool (decide (c.typ > 65535)), .bool false), (.bool (c.kind == 1), .bool false), (.bool (c.kind == 2), .bool true), (.bool (c.typ != 0), .bool false)] [((do eqGuard .neq 25 (.tmp 102) (.tmp 103) (a3 c.oui) (a3 []); binOp .neq 25 (a3 c.oui) (a3 []) : Sem Value), .bool true)] hW0 Tryd.results16 (by subst hF; kernel_rfl) ⟨congrArg Value.bool p1, congrArg Value.bool p2, congrArg Value.bool p3, congrArg Value.bool p4, congrArg Value.bool k1, congrArg Value.bool k2, congrArg Value.bool r1, trivial⟩ ⟨fun wx _ => (show (!zero3 c.oui) = true by rw [r2]; rfl) ▸ neq_z3 wx _ _ _, trivial⟩ (fun w9 hW9 _ => fail hm w9 hW9.keep)
                | true =>
                  cases b with
                  | false =>
                    cases r4 : decide (3 + (c.body.length : Int) > 1500) with
                    | false =>
                      have r4' : ¬ (3 + (c.body.length : Int) > 1500) := of_decide_eq_false r4
                      have k3 : (c.kind == 3) = false := by rw [k2']; rfl
                      have hm : mayF c = true := (may_iff c).2 (.inr (.inl ⟨k2', r1', r2, hsap, by omega⟩))
                      refine go_stop (gt := fun _ => Option.none) (unroll := false) 200 [(5, 2, .is (.bool false)), (5, 6, .is (.bool false)), (5, 11, .is (.bool false)), (5, 16, .is (.bool false)), (7, 2, .is (.bool false)), (12, 2, .is (.bool true)), (12, 6, .is (.bool false)), (12, 11, .sem (.bool false)), (12, 19, .sem (.int .i64 (c.body.length : Int))), (12, 20, .is (.int .i64 (3 + (c.body.length : Int)))), (12, 21, .is (.bool false)), (14, 2, .is (.bool false)), (16, 0, .stop)] [1] [pT w.heap.size] (rk2 w F) [(1, 0)] (opsR rkC 16) [(.bool (decide (c.kind < 1)), .bool false), (.bool (decide (c.kind > 3)), .bool false), (.bool (decide (c.typ < 0)), .bool false), (.bool (decide (c.typ > 65535)), .bool false), (.bool (c.kind == 1), .bool false), (.bool (c.kind == 2), .bool true), (.bool (c.typ != 0), .bool false), (.int .i64 (IntKind.i64.wrap (3 + (c.body.length : Int))), .int .i64 (3 + (c.body.length : Int))), (.bool (decide (3 + (c.body.length : Int) > 1500)), .bool false), (.bool (c.kind == 3), .bool false)] [((do eqGuard .neq 25 (.tmp 102) (.tmp 103) (a3 c.oui) (a3 []); binOp .neq 25 (a3 c.oui) (a3 []) : Sem Value), .bool false), (Builtin.len_ #[26] 3 #[.slice bo bn bc], .int .i64 (c.body.length : Int))] hW0 (by subst hF; kernel_rfl) ⟨congrArg Value.bool p1, congrArg Value.bool p2, congrArg Value.bool p3, congrArg Value.bool p4, congrArg Value.bool k1, congrArg Value.bool k2, congrArg Value.bool r1, congrArg (Value.int .i64) (i64_small (by omega) (by omega)), congrArg Value.bool r4, congrArg Value.bool k3, trivial⟩ ⟨fun wx _ => (show (!zero3 c.oui) = false by rw [r2]; rfl) ▸ neq_z3 wx _ _ _, fun wx _ => sb wx, trivial⟩ ?_
                      intro w9 hW9 _
                      exact good hm w9 hW9
                    | true =>
                      have r4' : (3 + (c.body.length : Int) > 1500) := of_decide_eq_true r4
                      have hm : mayF c = false := no_may (by rintro (⟨a1, a2, a3, a4, a5, a6, a7⟩ | ⟨a1, a2, a3, a4, a5⟩ | ⟨a1, a2, a3, a4, a5⟩) <;> first | omega | (simp_all; done))
                      exact go_ret (gt := fun _ => Option.none) (unroll := false) 200 [(5, 2, .is (.bool false)), (5, 6, .is (.bool false)), (5, 11, .is (.bool false)), (5, 16, .is (.bool false)), (7, 2, .is (.bool false)), (12, 2, .is (.bool true)), (12, 6, .is (.bool false)), (12, 11, .sem (.bool false)), (12, 19, .sem (.int .i64 (c.body.length : Int))), (12, 20, .is (.int .i64 (3 + (c.body.length : Int)))), (12, 21, .is (.bool true))] [.tmp 2, .tmp 3] (.tuple #[nilV, .int .i64 1]) [(.bool (decide (c.kind < 1)), .bool false), (.bool (decide (c.kind > 3)), .bool false), (.bool (decide (c.typ < 0)), .bool false), (.bool (decide (c.typ > 65535)), .bool false), (.bool (c.kind == 1), .bool false), (.bool (c.kind == 2), .bool true), (.bool (c.typ != 0), .bool false), (.int .i64 (IntKind.i64.wrap (3 + (c.body.length : Int))), .int .i64 (3 + (c.body.length : Int))), (.bool (decide (3 + (c.body.length : Int) > 1500)), .bool true)] [((do eqGuard .neq 25 (.tmp 102) (.tmp 103) (a3 c.oui) (a3 []); binOp .neq 25 (a3 c.oui) (a3 []) : Sem Value), .bool false), (Builtin.len_ #[26] 3 #[.slice bo bn bc], .int .i64 (c.body.length : Int))] hW0 Tryd.results16 (by subst hF; kernel_rfl) ⟨congrArg Value.bool p1, congrArg Value.bool p2, congrArg Value.bool p3, congrArg Value.bool p4, congrArg Value.bool k1, congrArg Value.bool k2, congrArg Value.bool r1, congrArg (Value.int .i64) (i64_small (by omega) (by omega)), congrArg Value.bool r4, trivial⟩ ⟨fun wx _ => (show (!zero3 c.oui) = false by rw [r2]; rfl) ▸ neq_z3 wx _ _ _, fun wx _ => sb wx, trivial⟩ (fun w9 hW9 _ => fail hm w9 hW9.keep)
                  | true =>
                    have hm : mayF c = false := no_may (by rintro (⟨a1, a2, a3, a4, a5, a6, a7⟩ | ⟨a1, a2, a3, a4, a5⟩ | ⟨a1, a2, a3, a4, a5⟩) <;> first | omega | (simp_all; done))
                    exact go_ret (gt := fun _ => Option.none) (unroll := false) 200 [(5, 2, .is (.bool false)), (5, 6, .is (.bool false)), (5, 11, .is (.bool false)), (5, 16, .is (.bool false)), (7, 2, .is (.bool false)), (12, 2, .is (.bool true)), (12, 6, .is (.bool false)), (12, 11, .sem (.bool false))] [.tmp 2, .tmp 3] (.tuple #[nilV, .int .i64 1]) [(.bool (decide (c.kind < 1)), .bool false), (.bool (decide (c.kind > 3)), .bool false), (.bool (decide (c.typ < 0)), .bool false), (.bool (decide (c.typ > 65535)), .bool false), (.bool (c.kind == 1), .bool false), (.bool (c.kind == 2), .bool true), (.bool (c.typ != 0), .bool false)] [((do eqGuard .neq 25 (.tmp 102) (.tmp 103) (a3 c.oui) (a3 []); binOp .neq 25 (a3 c.oui) (a3 []) : Sem Value), .bool false)] hW0 Tryd.results16 (by subst hF; kernel_rfl) ⟨congrArg Value.bool p1, congrArg Value.bool p2, congrArg Value.bool p3, congrArg Value.bool p4, congrArg Value.bool k1, congrArg Value.bool k2, congrArg Value.bool r1, trivial⟩ ⟨fun wx _ => (show (!zero3 c.oui) = false by rw [r2]; rfl) ▸ neq_z3 wx _ _ _, trivial⟩ (fun w9 hW9 _ => fail hm w9 hW9.keep)
              | true =>
                have r1' : ¬ c.typ = 0 := by simpa using r1
                have hm : mayF c = false := no_may (by rintro (⟨a1, a2, a3, a4, a5, a6, a7⟩ | ⟨a1, a2, a3, a4, a5⟩ | ⟨a1, a2, a3, a4, a5⟩) <;> first | omega | (simp_all; done))
                exact go_ret (gt := fun _ => Option.none) (unroll := false) 200 [(5, 2, .is (.bool false)), (5, 6, .is (.bool false)), (5, 11, .is (.bool false)), (5, 16, .is (.bool false)), (7, 2, .is (.bool false)), (12, 2, .is (.bool true)), (12, 6, .is (.bool true))] [.tmp 2, .tmp 3] (.tuple #[nilV, .int .i64 1]) [(.bool (decide (c.kind < 1)), .bool false), (.bool (decide (c.kind > 3)), .bool false), (.bool (decide (c.typ < 0)), .bool false), (.bool (decide (c.typ > 65535)), .bool false), (.bool (c.kind == 1), .bool false), (.bool (c.kind == 2), .bool true), (.bool (c.typ != 0), .bool true)] [] hW0 Tryd.results16 (by subst hF; kernel_rfl) ⟨congrArg Value.bool p1, congrArg Value.bool p2, congrArg Value.bool p3, congrArg Value.bool p4, congrArg Value.bool k1, congrArg Value.bool k2, congrArg Value.bool r1, trivial⟩ trivial (fun w9 hW9 _ => fail hm w9 hW9.keep)
          | true =>
            have k1' : c.kind = 1 := by simpa using k1
            cases q1 : decide (c.typ < 1536) with
            | false =>
              have q1' : ¬ (c.typ < 1536) := of_decide_eq_false q1
              cases q2 : zero3 c.llc with
              | false =>
                have hm : mayF c = false := no_may (by rintro (⟨a1, a2, a3, a4, a5, a6, a7⟩ | ⟨a1, a2, a3, a4, a5⟩ | ⟨a1, a2, a3, a4, a5⟩) <;> first | omega | (simp_all; done))
                exact go_ret (gt := fun _ => Option.none) (unroll := false) 200 [(5, 2, .is (.bool false)), (5, 6, .is (.bool false)), (5, 11, .is (.bool false)), (5, 16, .is (.bool false)), (7, 2, .is (.bool true)), (8, 2, .is (.bool false)), (8, 7, .sem (.bool true))] [.tmp 2, .tmp 3] (.tuple #[nilV, .int .i64 1]) [(.bool (decide (c.kind < 1)), .bool false), (.bool (decide (c.kind > 3)), .bool false), (.bool (decide (c.typ < 0)), .bool false), (.bool (decide (c.typ > 65535)), .bool false), (.bool (c.kind == 1), .bool true), (.bool (decide (c.typ < 1536)), .bool false)] [((do eqGuard .neq 25 (.tmp 57) (.tmp 58) (a3 c.llc) (a3 []); binOp .neq 25 (a3 c.llc) (a3 []) : Sem Value), .bool true)] hW0 Tryd.results16 (by subst hF; kernel_rfl) ⟨congrArg Value.bool p1, congrArg Value.bool p2, congrArg Value.bool p3, congrArg Value.bool p4, congrArg Value.bool k1, congrArg Value.bool q1, trivial⟩ ⟨fun wx _ => (show (!zero3 c.llc) = true by rw [q2]; rfl) ▸ neq_z3 wx _ _ _, trivial⟩ (fun w9 hW9 _ => fail hm w9 hW9.keep)
              | true =>
                cases q3 : zero3 c.oui with
                | false =>
                  have hm : mayF c = false := no_may (by rintro (⟨a1, a2, a3, a4, a5, a6, a7⟩ | ⟨a1, a2, a3, a4, a5⟩ | ⟨a1, a2, a3, a4, a5⟩) <;> first | omega | (simp_all; done))
                  exact go_ret (gt := fun _ => Option.none) (unroll := false) 200 [(5, 2, .is (.bool false)), (5, 6, .is (.bool false)), (5, 11, .is (.bool false)), (5, 16, .is (.bool false)), (7, 2, .is (.bool true)), (8, 2, .is (.bool false)), (8, 7, .sem (.bool false)), (8, 13, .sem (.bool true))] [.tmp 2, .tmp 3] (.tuple #[nilV, .int .i64 1]) [(.bool (decide (c.kind < 1)), .bool false), (.bool (decide (c.kind > 3)), .bool false), (.bool (decide (c.typ < 0)), .bool false), (.bool (decide (c.typ > 65535)), .bool false), (.bool (c.kind == 1), .bool true), (.bool (decide (c.typ < 1536)), .bool false)] [((do eqGuard .neq 25 (.tmp 57) (.tmp 58) (a3 c.llc) (a3 []); binOp .neq 25 (a3 c.llc) (a3 []) : Sem Value), .bool false), ((do eqGuard .neq 25 (.tmp 63) (.tmp 64) (a3 c.oui) (a3 []); binOp .neq 25 (a3 c.oui) (a3 []) : Sem Value), .bool true)] hW0 Tryd.results16 (by subst hF; kernel_rfl) ⟨congrArg Value.bool p1, congrArg Value.bool p2, congrArg Value.bool p3, congrArg Value.bool p4, congrArg Value.bool k1, congrArg Value.bool q1, trivial⟩ ⟨fun wx _ => (show (!zero3 c.llc) = false by rw [q2]; rfl) ▸ neq_z3 wx _ _ _, fun wx _ => (show (!zero3 c.oui) = true by rw [q3]; rfl) ▸ neq_z3 wx _ _ _, trivial⟩ (fun w9 hW9 _ => fail hm w9 hW9.keep)
                | true =>
                  cases q4 : decide ((c.rest.length : Int) > 0) with
                  | false =>
                    have q4' : ¬ ((c.rest.length : Int) > 0) := of_decide_eq_false q4
                    cases h1 : (c.typ == 33024) with
                    | false =>
                      have h1' : ¬ c.typ = 33024 := by simpa using h1
                      cases h3 : (c.typ == 34984) with
                      | false =>
                        have h3' : ¬ c.typ = 34984 := by simpa using h3
                        have k2 : (c.kind == 2) = false := by rw [k1']; rfl
                        have k3 : (c.kind == 3) = false := by rw [k1']; rfl
                        have hrd : readF c = false := by simp [readF, h1, h3]
                        have hm : mayF c = true := (may_iff c).2 (.inl ⟨k1', by omega, by omega, hrd, q2, q3, by omega⟩)
                        refine go_stop (gt := fun _ => Option.none) (unroll := false) 200 [(5, 2, .is (.bool false)), (5, 6, .is (.bool false)), (5, 11, .is (.bool false)), (5, 16, .is (.bool false)), (7, 2, .is (.bool true)), (8, 2, .is (.bool false)), (8, 7, .sem (.bool false)), (8, 13, .sem (.bool false)), (8, 18, .sem (.int .i64 (c.rest.length : Int))), (8, 19, .is (.bool false)), (10, 2, .is (.bool false)), (10, 12, .is (.bool false)), (12, 2, .is (.bool false)), (14, 2, .is (.bool false)), (16, 0, .stop)] [1] [pT w.heap.size] (rk2 w F) [(1, 0)] (opsR rkC 16) [(.bool (decide (c.kind < 1)), .bool false), (.bool (decide (c.kind > 3)), .bool false), (.bool (decide (c.typ < 0)), .bool false), (.bool (decide (c.typ > 65535)), .bool false), (.bool (c.kind == 1), .bool true), (.bool (decide (c.typ < 1536)), .bool false), (.bool (decide ((c.rest.length : Int) > 0)), .bool false), (.bool (c.typ == 33024), .bool false), (.bool (c.typ == 34984), .bool false), (.bool (c.kind == 2), .bool false), (.bool (c.kind == 3), .bool false)] [((do eqGuard .neq 25 (.tmp 57) (.tmp 58) (a3 c.llc) (a3 []); binOp .neq 25 (a3 c.llc) (a3 []) : Sem Value), .bool false), ((do eqGuard .neq 25 (.tmp 63) (.tmp 64) (a3 c.oui) (a3 []); binOp .neq 25 (a3 c.oui) (a3 []) : Sem Value), .bool false), (Builtin.len_ #[26] 3 #[.slice ro rn rc], .int .i64 (c.rest.length : Int))] hW0 (by subst hF; kernel_rfl) ⟨congrArg Value.bool p1, congrArg Value.bool p2, congrArg Value.bool p3, congrArg Value.bool p4, congrArg Value.bool k1, congrArg Value.bool q1, congrArg Value.bool q4, congrArg Value.bool h1, congrArg Value.bool h3, congrArg Value.bool k2, congrArg Value.bool k3, trivial⟩ ⟨fun wx _ => (show (!zero3 c.llc) = false by rw [q2]; rfl) ▸ neq_z3 wx _ _ _, fun wx _ => (show (!zero3 c.oui) = false by rw [q3]; rfl) ▸ neq_z3 wx _ _ _, fun wx _ => sr wx, trivial⟩ ?_
                        intro w9 hW9 _
                        exact good hm w9 hW9
                      | true =>
                        have h3' : c.typ = 34984 := by simpa using h3
                        cases h4 : ((c.tags.length : Int) == 0) with
                        | false =>
                          have h4' : ¬ (c.tags.length : Int) = 0 := by simpa using h4
                          have k2 : (c.kind == 2) = false := by rw [k1']; rfl
                          have k3 : (c.kind == 3) = false := by rw [k1']; rfl
                          have hrd : readF c = false := by simp [readF, h1, h3, h4]
                          have hm : mayF c = true := (may_iff c).2 (.inl ⟨k1', by omega, by omega, hrd, q2, q3, by omega⟩)
                          refine go_stop (gt := fun _ => Option.none) (unroll := false) 200 [(5, 2, .is (.bool false)), (5, 6, .is (.bool false)), (5, 11, .is (.bool false)), (5, 16, .is (.bool false)), (7, 2, .is (.bool true)), (8, 2, .is (.bool false)), (8, 7, .sem (.bool false)), (8, 13, .sem (.bool false)), (8, 18, .sem (.int .i64 (c.rest.length : Int))), (8, 19, .is (.bool false)), (10, 2, .is (.bool false)), (10, 12, .is (.bool true)), (10, 16, .sem (.int .i64 (c.tags.length : Int))), (10, 17, .is (.bool false)), (12, 2, .is (.bool false)), (14, 2, .is (.bool false)), (16, 0, .stop)] [1] [pT w.heap.size] (rk2 w F) [(1, 0)] (opsR rkC 16) [(.bool (decide (c.kind < 1)), .bool false), (.bool (decide (c.kind > 3)), .bool false), (.bool (decide (c.typ < 0)), .bool false), (.bool (decide (c.typ > 65535)), .bool false), (.bool (c.kind == 1), .bool true), (.bool (decide (c.typ < 1536)), .bool false), (.bool (decide ((c.rest.length : Int) > 0)), .bool false), (.bool (c.typ == 33024), .bool false), (.bool (c.typ == 34984), .bool true), (.bool ((c.tags.length : Int) == 0), .bool false), (.bool (c.kind == 2), .bool false), (.bool (c.kind == 3), .bool false)] [((do eqGuard .neq 25 (.tmp 57) (.tmp 58) (a3 c.llc) (a3 []); binOp .neq 25 (a3 c.llc) (a3 []) : Sem Value), .bool false), ((do eqGuard .neq 25 (.tmp 63) (.tmp 64) (a3 c.oui) (a3 []); binOp .neq 25 (a3 c.oui) (a3 []) : Sem Value), .bool false), (Builtin.len_ #[26] 3 #[.slice ro rn rc], .int .i64 (c.rest.length : Int)), (Builtin.len_ #[30] 3 #[.slice to tn tc], .int .i64 (c.tags.length : Int))] hW0 (by subst hF; kernel_rfl) ⟨congrArg Value.bool p1, congrArg Value.bool p2, congrArg Value.bool p3, congrArg Value.bool p4, congrArg Value.bool k1, congrArg Value.bool q1, congrArg Value.bool q4, congrArg Value.bool h1, congrArg Value.bool h3, congrArg Value.bool h4, congrArg Value.bool k2, congrArg Value.bool k3, trivial⟩ ⟨fun wx _ => (show (!zero3 c.llc) = false by rw [q2]; rfl) ▸ neq_z3 wx _ _ _, fun wx _ => (show (!zero3 c.oui) = false by rw [q3]; rfl) ▸ neq_z3 wx _ _ _, fun wx _ => sr wx, fun wx _ => sl wx, trivial⟩ ?_
                          intro w9 hW9 _
                          exact good hm w9 hW9
                        | true =>
                          have h4' : (c.tags.length : Int) = 0 := by simpa using h4
                          have hrd : readF c = true := by simp [readF, h1, h3, h4]
                          have hm : mayF c = false := no_may (by rintro (⟨a1, a2, a3, a4, a5, a6, a7⟩ | ⟨a1, a2, a3, a4, a5⟩ | ⟨a1, a2, a3, a4, a5⟩) <;> first | omega | (simp_all; done))
                          exact go_ret (gt := fun _ => Option.none) (unroll := false) 200 [(5, 2, .is (.bool false)), (5, 6, .is (.bool false)), (5, 11, .is (.bool false)), (5, 16, .is (.bool false)), (7, 2, .is (.bool true)), (8, 2, .is (.bool false)), (8, 7, .sem (.bool false)), (8, 13, .sem (.bool false)), (8, 18, .sem (.int .i64 (c.rest.length : Int))), (8, 19, .is (.bool false)), (10, 2, .is (.bool false)), (10, 12, .is (.bool true)), (10, 16, .sem (.int .i64 (c.tags.length : Int))), (10, 17, .is (.bool true))] [.tmp 2, .tmp 3] (.tuple #[nilV, .int .i64 1]) [(.bool (decide (c.kind < 1)), .bool false), (.bool (decide (c.kind > 3)), .bool false), (.bool (decide (c.typ < 0)), .bool false), (.bool (decide (c.typ > 65535)), .bool false), (.bool (c.kind == 1), .bool true), (.bool (decide (c.typ < 1536)), .bool false), (.bool (decide ((c.rest.length : Int) > 0)), .bool false), (.bool (c.typ == 33024), .bool false), (.bool (c.typ == 34984), .bool true), (.bool ((c.tags.length : Int) == 0), .bool true)] [((do eqGuard .neq 25 (.tmp 57) (.tmp 58) (a3 c.llc) (a3 []); binOp .neq 25 (a3 c.llc) (a3 []) : Sem Value), .bool false), ((do eqGuard .neq 25 (.tmp 63) (.tmp 64) (a3 c.oui) (a3 []); binOp .neq 25 (a3 c.oui) (a3 []) : Sem Value), .bool false), (Builtin.len_ #[26] 3 #[.slice ro rn rc], .int .i64 (c.rest.length : Int)), (Builtin.len_ #[30] 3 #[.slice to tn tc], .int .i64 (c.tags.length : Int))] hW0 Tryd.results16 (by subst hF; kernel_rfl) ⟨congrArg Value.bool p1, congrArg Value.bool p2, congrArg Value.bool p3, congrArg Value.bool p4, congrArg Value.bool k1, congrArg Value.bool q1, congrArg Value.bool q4, congrArg Value.bool h1, congrArg Value.bool h3, congrArg Value.bool h4, trivial⟩ ⟨fun wx _ => (show (!zero3 c.llc) = false by rw [q2]; rfl) ▸ neq_z3 wx _ _ _, fun wx _ => (show (!zero3 c.oui) = false by rw [q3]; rfl) ▸ neq_z3 wx _ _ _, fun wx _ => sr wx, fun wx _ => sl wx, trivial⟩ (fun w9 hW9 _ => fail hm w9 hW9.keep)
                    | true =>
                      have h1' : c.typ = 33024 := by simpa using h1
                      cases h2 : decide ((c.tags.length : Int) < 2) with
                      | false =>
                        have h2' : ¬ ((c.tags.length : Int) < 2) := of_decide_eq_false h2
                        cases h3 : (c.typ == 34984) with
                        | false =>
                          have h3' : ¬ c.typ = 34984 := by simpa using h3
                          have k2 : (c.kind == 2) = false := by rw [k1']; rfl
                          have k3 : (c.kind == 3) = false := by rw [k1']; rfl
                          have hrd : readF c = false := by simp [readF, h1, h2, h3]
                          have hm : mayF c = true := (may_iff c).2 (.inl ⟨k1', by omega, by omega, hrd, q2, q3, by omega⟩)
                          refine go_stop (gt := fun _ => Option.none) (unroll := false) 200 [(5, 2, .is (.bool false)), (5, 6, .is (.bool false)), (5, 11, .is (.bool false)), (5, 16, .is (.bool false)), (7, 2, .is (.bool true)), (8, 2, .is (.bool false)), (8, 7, .sem (.bool false)), (8, 13, .sem (.bool false)), (8, 18, .sem (.int .i64 (c.rest.length : Int))), (8, 19, .is (.bool false)), (10, 2, .is (.bool true)), (10, 6, .sem (.int .i64 (c.tags.length : Int))), (10, 7, .is (.bool false)), (10, 12, .is (.bool false)), (12, 2, .is (.bool false)), (14, 2, .is (.bool false)), (16, 0, .stop)] [1] [pT w.heap.size] (rk2 w F) [(1, 0)] (opsR rkC 16) [(.bool (decide (c.kind < 1)), .bool false), (.bool (decide (c.kind > 3)), .bool false), (.bool (decide (c.typ < 0)), .bool false), (.bool (decide (c.typ > 65535)), .bool false), (.bool (c.kind == 1), .bool true), (.bool (decide (c.typ < 1536)), .bool false), (.bool (decide ((c.rest.length : Int) > 0)), .bool false), (.bool (c.typ == 33024), .bool true), (.bool (decide ((c.tags.length : Int) < 2)), .bool false), (.bool (c.typ == 34984), .bool false), (.bool (c.kind == 2), .bool false), (.bool (c.kind == 3), .bool false)] [((do eqGuard .neq 25 (.tmp 57) (.tmp 58) (a3 c.llc) (a3 []); binOp .neq 25 (a3 c.llc) (a3 []) : Sem Value), .bool false), ((do eqGuard .neq 25 (.tmp 63) (.tmp 64) (a3 c.oui) (a3 []); binOp .neq 25 (a3 c.oui) (a3 []) : Sem Value), .bool false), (Builtin.len_ #[26] 3 #[.slice ro rn rc], .int .i64 (c.rest.length : Int)), (Builtin.len_ #[30] 3 #[.slice to tn tc], .int .i64 (c.tags.length : Int))] hW0 (by subst hF; kernel_rfl) ⟨congrArg Value.bool p1, congrArg Value.bool p2, congrArg Value.bool p3, congrArg Value.bool p4, congrArg Value.bool k1, congrArg Value.bool q1, congrArg Value.bool q4, congrArg Value.bool h1, congrArg Value.bool h2, congrArg Value.bool h3, congrArg Value.bool k2, congrArg Value.bool k3, trivial⟩ ⟨fun wx _ => (show (!zero3 c.llc) = false by rw [q2]; rfl) ▸ neq_z3 wx _ _ _, fun wx _ => (show (!zero3 c.oui) = false by rw [q3]; rfl) ▸ neq_z3 wx _ _ _, fun wx _ => sr wx, fun wx _ => sl wx, trivial⟩ ?_
                          intro w9 hW9 _
                          exact good hm w9 hW9
                        | true =>
                          have h3' : c.typ = 34984 := by simpa using h3
                          cases h4 : ((c.tags.length : Int) == 0) with
                          | false =>
                            have h4' : ¬ (c.tags.length : Int) = 0 := by simpa using h4
                            have k2 : (c.kind == 2) = false := by rw [k1']; rfl
                            have k3 : (c.kind == 3) = false := by rw [k1']; rfl
                            have hrd : readF c = false := by simp [readF, h1, h2, h3, h4]
                            have hm : mayF c = true := (may_iff c).2 (.inl ⟨k1', by omega, by omega, hrd, q2, q3, by omega⟩)
                            refine go_stop (gt := fun _ => Option.none) (unroll := false) 200 [(5, 2, .is (.bool false)), (5, 6, .is (.bool false)), (5, 11, .is (.bool false)), (5, 16, .is (.bool false)), (7, 2, .is (.bool true)), (8, 2, .is (.bool false)), (8, 7, .sem (.bool false)), (8, 13, .sem (.bool false)), (8, 18, .sem (.int .i64 (c.rest.length : Int))), (8, 19, .is (.bool false)), (10, 2, .is (.bool true)), (10, 6, .sem (.int .i64 (c.tags.length : Int))), (10, 7, .is (.bool false)), (10, 12, .is (.bool true)), (10, 16, .sem (.int .i64 (c.tags.length : Int))), (10, 17, .is (.bool false)), (12, 2, .is (.bool false)), (14, 2, .is (.bool false)), (16, 0, .stop)] [1] [pT w.heap.size] (rk2 w F) [(1, 0)] (opsR rkC 16) [(.bool (decide (c.kind < 1)), .bool false), (.bool (decide (c.kind > 3)), .bool false), (.bool (decide (c.typ < 0)), .bool false), (.bool (decide (c.typ > 65535)), .bool false), (.bool (c.kind == 1), .bool true), (.bool (decide (c.typ < 1536)), .bool false), (.bool (decide ((c.rest.length : Int) > 0)), .bool false), (.bool (c.typ == 33024), .bool true), (.bool (decide ((c.tags.length : Int) < 2)), .bool false), (.bool (c.typ == 34984), .bool true), (.bool ((c.tags.length : Int) == 0), .bool false), (.bool (c.kind == 2), .bool false), (.bool (c.kind == 3), .bool false)] [((do eqGuard .neq 25 (.tmp 57) (.tmp 58) (a3 c.llc) (a3 []); binOp .neq 25 (a3 c.llc) (a3 []) : Sem Value), .bool false), ((do eqGuard .neq 25 (.tmp 63) (.tmp 64) (a3 c.oui) (a3 []); binOp .neq 25 (a3 c.oui) (a3 []) : Sem Value), .bool false), (Builtin.len_ #[26] 3 #[.slice ro rn rc], .int .i64 (c.rest.length : Int)), (Builtin.len_ #[30] 3 #[.slice to tn tc], .int .i64 (c.tags.length : Int)), (Builtin.len_ #[30] 3 #[.slice to tn tc], .int .i64 (c.tags.length : Int))] hW0 (by subst hF; kernel_rfl) ⟨congrArg Value.bool p1, congrArg Value.bool p2, congrArg Value.bool p3, congrArg Value.bool p4, congrArg Value.bool k1, congrArg Value.bool q1, congrArg Value.bool q4, congrArg Value.bool h1, congrArg Value.bool h2, congrArg Value.bool h3, congrArg Value.bool h4, congrArg Value.bool k2, congrArg Value.bool k3, trivial⟩ ⟨fun wx _ => (show (!zero3 c.llc) = false by rw [q2]; rfl) ▸ neq_z3 wx _ _ _, fun wx _ => (show (!zero3 c.oui) = false by rw [q3]; rfl) ▸ neq_z3 wx _ _ _, fun wx _ => sr wx, fun wx _ => sl wx, fun wx _ => sl wx, trivial⟩ ?_
                            intro w9 hW9 _
                            exact good hm w9 hW9
                          | true =>
                            have h4' : (c.tags.length : Int) = 0 := by simpa using h4
                            have hrd : readF c = true := by simp [readF, h1, h2, h3, h4]
                            have hm : mayF c = false := no_may (by rintro (⟨a1, a2, a3, a4, a5, a6, a7⟩ | ⟨a1, a2, a3, a4, a5⟩ | ⟨a1, a2, a3, a4, a5⟩) <;> first | omega | (simp_all; done))
                            exact go_ret (gt := fun _ => Option.none) (unroll := false) 200 [(5, 2, .is (.bool false)), (5, 6, .is (.bool false)), (5, 11, .is (.bool false)), (5, 16, .is (.bool false)), (7, 2, .is (.bool true)), (8, 2, .is (.bool false)), (8, 7, .sem (.bool false)), (8, 13, .sem (.bool false)), (8, 18, .sem (.int .i64 (c.rest.length : Int))), (8, 19, .is (.bool false)), (10, 2, .is (.bool true)), (10, 6, .sem (.int .i64 (c.tags.length : Int))), (10, 7, .is (.bool false)), (10, 12, .is (.bool true)), (10, 16, .sem (.int .i64 (c.tags.length : Int))), (10, 17, .is (.bool true))] [.tmp 2, .tmp 3] (.tuple #[nilV, .int .i64 1]) [(.bool (decide (c.kind < 1)), .bool false), (.bool (decide (c.kind > 3)), .bool false), (.bool (decide (c.typ < 0)), .bool false), (.bool (decide (c.typ > 65535)), .bool false), (.bool (c.kind == 1), .bool true), (.bool (decide (c.typ < 1536)), .bool false), (.bool (decide ((c.rest.length : Int) > 0)), .bool false), (.bool (c.typ == 33024), .bool true), (.bool (decide ((c.tags.length : Int) < 2)), .bool false), (.bool (c.typ == 34984), .bool true), (.bool ((c.tags.length : Int) == 0), .bool true)] [((do eqGuard .neq 25 (.tmp 57) (.tmp 58) (a3 c.llc) (a3 []); binOp .neq 25 (a3 c.llc) (a3 []) : Sem Value), .bool false), ((do eqGuard .neq 25 (.tmp 63) (.tmp 64) (a3 c.oui) (a3 []); binOp .neq 25 (a3 c.oui) (a3 []) : Sem Value), .bool false), (Builtin.len_ #[26] 3 #[.slice ro rn rc], .int .i64 (c.rest.length : Int)), (Builtin.len_ #[30] 3 #[.slice to tn tc], .int .i64 (c.tags.length : Int)), (Builtin.len_ #[30] 3 #[.slice to tn tc], .int .i64 (c.tags.length : Int))] hW0 Tryd.results16 (by subst hF; kernel_rfl) ⟨congrArg Value.bool p1, congrArg Value.bool p2, congrArg Value.bool p3, congrArg Value.bool p4, congrArg Value.bool k1, congrArg Value.bool q1, congrArg Value.bool q4, congrArg Value.bool h1, congrArg Value.bool h2, congrArg Value.bool h3, congrArg Value.bool h4, trivial⟩ ⟨fun wx _ => (show (!zero3 c.llc) = false by rw [q2]; rfl) ▸ neq_z3 wx _ _ _, fun wx _ => (show (!zero3 c.oui) = false by rw [q3]; rfl) ▸ neq_z3 wx _ _ _, fun wx _ => sr wx, fun wx _ => sl wx, fun wx _ => sl wx, trivial⟩ (fun w9 hW9 _ => fail hm w9 hW9.keep)
                      | true =>
                        have h2' : ((c.tags.length : Int) < 2) := of_decide_eq_true h2
                        have hrd : readF c = true := by simp [readF, h1, h2]
                        have hm : mayF c = false := no_may (by rintro (⟨a1, a2, a3, a4, a5, a6, a7⟩ | ⟨a1, a2, a3, a4, a5⟩ | ⟨a1, a2, a3, a4, a5⟩) <;> first | omega | (simp_all; done))
                        exact go_ret (gt := fun _ => Option.none) (unroll := false) 200 [(5, 2, .is (.bool false)), (5, 6, .is (.bool false)), (5, 11, .is (.bool false)), (5, 16, .is (.bool false)), (7, 2, .is (.bool true)), (8, 2, .is (.bool false)), (8, 7, .sem (.bool false)), (8, 13, .sem (.bool false)), (8, 18, .sem (.int .i64 (c.rest.length : Int))), (8, 19, .is (.bool false)), (10, 2, .is (.bool true)), (10, 6, .sem (.int .i64 (c.tags.length : Int))), (10, 7, .is (.bool true))] [.tmp 2, .tmp 3] (.tuple #[nilV, .int .i64 1]) [(.bool (decide (c.kind < 1)), .bool false), (.bool (decide (c.kind > 3)), .bool false), (.bool (decide (c.typ < 0)), .bool false), (.bool (decide (c.typ > 65535)), .bool false), (.bool (c.kind == 1), .bool true), (.bool (decide (c.typ < 1536)), .bool false), (.bool (decide ((c.rest.length : Int) > 0)), .bool false), (.bool (c.typ == 33024), .bool true), (.bool (decide ((c.tags.length : Int) < 2)), .bool true)] [((do eqGuard .neq 25 (.tmp 57) (.tmp 58) (a3 c.llc) (a3 []); binOp .neq 25 (a3 c.llc) (a3 []) : Sem Value), .bool false), ((do eqGuard .neq 25 (.tmp 63) (.tmp 64) (a3 c.oui) (a3 []); binOp .neq 25 (a3 c.oui) (a3 []) : Sem Value), .bool false), (Builtin.len_ #[26] 3 #[.slice ro rn rc], .int .i64 (c.rest.length : Int)), (Builtin.len_ #[30] 3 #[.slice to tn tc], .int .i64 (c.tags.length : Int))] hW0 Tryd.results16 (by subst hF; kernel_rfl) ⟨congrArg Value.bool p1, congrArg Value.bool p2, congrArg Value.bool p3, congrArg Value.bool p4, congrArg Value.bool k1, congrArg Value.bool q1, congrArg Value.bool q4, congrArg Value.bool h1, congrArg Value.bool h2, trivial⟩ ⟨fun wx _ => (show (!zero3 c.llc) = false by rw [q2]; rfl) ▸ neq_z3 wx _ _ _, fun wx _ => (show (!zero3 c.oui) = false by rw [q3]; rfl) ▸ neq_z3 wx _ _ _, fun wx _ => sr wx, fun wx _ => sl wx, trivial⟩ (fun w9 hW9 _ => fail hm w9 hW9.keep)
                  | true =>
                    have q4' : ((c.rest.length : Int) > 0) := of_decide_eq_true q4
                    have hm : mayF c = false := no_may (by rintro (⟨a1, a2, a3, a4, a5, a6, a7⟩ | ⟨a1, a2, a3, a4, a5⟩ | ⟨a1, a2, a3, a4, a5⟩) <;> first | omega | (simp_all; done))
                    exact go_ret (gt := fun _ => Option.none) (unroll := false) 200 [(5, 2, .is (.bool false)), (5, 6, .is (.bool false)), (5, 11, .is (.bool false)), (5, 16, .is (.bool false)), (7, 2, .is (.bool true)), (8, 2, .is (.bool false)), (8, 7, .sem (.bool false)), (8, 13, .sem (.bool false)), (8, 18, .sem (.int .i64 (c.rest.length : Int))), (8, 19, .is (.bool true))] [.tmp 2, .tmp 3] (.tuple #[nilV, .int .i64 1]) [(.bool (decide (c.kind < 1)), .bool false), (.bool (decide (c.kind > 3)), .bool false), (.bool (decide (c.typ < 0)), .bool false), (.bool (decide (c.typ > 65535)), .bool false), (.bool (c.kind == 1), .bool true), (.bool (decide (c.typ < 1536)), .bool false), (.bool (decide ((c.rest.length : Int) > 0)), .bool true)] [((do eqGuard .neq 25 (.tmp 57) (.tmp 58) (a3 c.llc) (a3 []); binOp .neq 25 (a3 c.llc) (a3 []) : Sem Value), .bool false), ((do eqGuard .neq 25 (.tmp 63) (.tmp 64) (a3 c.oui) (a3 []); binOp .neq 25 (a3 c.oui) (a3 []) : Sem Value), .bool false), (Builtin.len_ #[26] 3 #[.slice ro rn rc], .int .i64 (c.rest.length : Int))] hW0 Tryd.results16 (by subst hF; kernel_rfl) ⟨congrArg Value.bool p1, congrArg Value.bool p2, congrArg Value.bool p3, congrArg Value.bool p4, congrArg Value.bool k1, congrArg Value.bool q1, congrArg Value.bool q4, trivial⟩ ⟨fun wx _ => (show (!zero3 c.llc) = false by rw [q2]; rfl) ▸ neq_z3 wx _ _ _, fun wx _ => (show (!zero3 c.oui) = false by rw [q3]; rfl) ▸ neq_z3 wx _ _ _, fun wx _ => sr wx, trivial⟩ (fun w9 hW9 _ => fail hm w9 hW9.keep)
            | true =>
              have q1' : (c.typ < 1536) := of_decide_eq_true q1
              have hm : mayF c = false := no_may (by rintro (⟨a1, a2, a3, a4, a5, a6, a7⟩ | ⟨a1, a2, a3, a4, a5⟩ | ⟨a1, a2, a3, a4, a5⟩) <;> first | omega | (simp_all; done))
              exact go_ret (gt := fun _ => Option.none) (unroll := false) 200 [(5, 2, .is (.bool false)), (5, 6, .is (.bool false)), (5, 11, .is (.bool false)), (5, 16, .is (.bool false)), (7, 2, .is (.bool true)), (8, 2, .is (.bool true))] [.tmp 2, .tmp 3] (.tuple #[nilV, .int .i64 1]) [(.bool (decide (c.kind < 1)), .bool false), (.bool (decide (c.kind > 3)), .bool false), (.bool (decide (c.typ < 0)), .bool false), (.bool (decide (c.typ > 65535)), .bool false), (.bool (c.kind == 1), .bool true), (.bool (decide (c.typ < 1536)), .bool true)] [] hW0 Tryd.results16 (by subst hF; kernel_rfl) ⟨congrArg Value.bool p1, congrArg Value.bool p2, congrArg Value.bool p3, congrArg Value.bool p4, congrArg Value.bool k1, congrArg Value.bool q1, trivial⟩ trivial (fun w9 hW9 _ => fail hm w9 hW9.keep)
        | true =>
          have p4' : (c.typ > 65535) := of_decide_eq_true p4
          have hm : mayF c = false := no_may (by rintro (⟨a1, a2, a3, a4, a5, a6, a7⟩ | ⟨a1, a2, a3, a4, a5⟩ | ⟨a1, a2, a3, a4, a5⟩) <;> first | omega | (simp_all; done))
          exact go_ret (gt := fun _ => Option.none) (unroll := false) 200 [(5, 2, .is (.bool false)), (5, 6, .is (.bool false)), (5, 11, .is (.bool false)), (5, 16, .is (.bool true))] [.tmp 2, .tmp 3] (.tuple #[nilV, .int .i64 1]) [(.bool (decide (c.kind < 1)), .bool false), (.bool (decide (c.kind > 3)), .bool false), (.bool (decide (c.typ < 0)), .bool false), (.bool (decide (c.typ > 65535)), .bool true)] [] hW0 Tryd.results16 (by subst hF; kernel_rfl) ⟨congrArg Value.bool p1, congrArg Value.bool p2, congrArg Value.bool p3, congrArg Value.bool p4, trivial⟩ trivial (fun w9 hW9 _ => fail hm w9 hW9.keep)
      | true =>
        have p3' : (c.typ < 0) := of_decide_eq_true p3
        have hm : mayF c = false := no_may (by rintro (⟨a1, a2, a3, a4, a5, a6, a7⟩ | ⟨a1, a2, a3, a4, a5⟩ | ⟨a1, a2, a3, a4, a5⟩) <;> first | omega | (simp_all; done))
        exact go_ret (gt := fun _ => Option.none) (unroll := false) 200 [(5, 2, .is (.bool false)), (5, 6, .is (.bool false)), (5, 11, .is (.bool true))] [.tmp 2, .tmp 3] (.tuple #[nilV, .int .i64 1]) [(.bool (decide (c.kind < 1)), .bool false), (.bool (decide (c.kind > 3)), .bool false), (.bool (decide (c.typ < 0)), .bool true)] [] hW0 Tryd.results16 (by subst hF; kernel_rfl) ⟨congrArg Value.bool p1, congrArg Value.bool p2, congrArg Value.bool p3, trivial⟩ trivial (fun w9 hW9 _ => fail hm w9 hW9.keep)
    | true =>
      have p2' : (c.kind > 3) := of_decide_eq_true p2
      have hm : mayF c = false := no_may (by rintro (⟨a1, a2, a3, a4, a5, a6, a7⟩ | ⟨a1, a2, a3, a4, a5⟩ | ⟨a1, a2, a3, a4, a5⟩) <;> first | omega | (simp_all; done))
      exact go_ret (gt := fun _ => Option.none) (unroll := false) 200 [(5, 2, .is (.bool false)), (5, 6, .is (.bool true))] [.tmp 2, .tmp 3] (.tuple #[nilV, .int .i64 1]) [(.bool (decide (c.kind < 1)), .bool false), (.bool (decide (c.kind > 3)), .bool true)] [] hW0 Tryd.results16 (by subst hF; kernel_rfl) ⟨congrArg Value.bool p1, congrArg Value.bool p2, trivial⟩ trivial (fun w9 hW9 _ => fail hm w9 hW9.keep)
  | true =>
    have p1' : (c.kind < 1) := of_decide_eq_true p1
    have hm : mayF c = false := no_may (by rintro (⟨a1, a2, a3, a4, a5, a6, a7⟩ | ⟨a1, a2, a3, a4, a5⟩ | ⟨a1, a2, a3, a4, a5⟩) <;> first | omega | (simp_all; done))
    exact go_ret (gt := fun _ => Option.none) (unroll := false) 200 [(5, 2, .is (.bool true))] [.tmp 2, .tmp 3] (.tuple #[nilV, .int .i64 1]) [(.bool (decide (c.kind < 1)), .bool true)] [] hW0 Tryd.results16 (by subst hF; kernel_rfl) ⟨congrArg Value.bool p1, trivial⟩ trivial (fun w9 hW9 _ => fail hm w9 hW9.keep)
theorem rput_any (hF : fiCells c to tn tc bo bn bc ro rn rc = F) (rt : Rt w (.slice to tn tc) c.tags) (rb : Rd w (.slice bo bn bc) c.body) (rr : Rd w (.slice ro rn rc) c.rest) (hl : c.tags.length ≤ 1000000) (hb : c.body.length ≤ 1073741824) (hr : c.rest.length ≤ 1073741824) :
    Calls Tryd.prog 16 #[.agg F.a] w (pkQ w c) := by
  refine enter (args := [.agg F.a]) Tryd.func16 (by kernel_rfl) ?_
  have go : ∀ (b : Bool), isSap c.llc = b → ∀ w1, Wst w ⟨rk2 w F, w1.heap.size⟩ w1 → Calls Tryd.prog 46 #[.slice to tn tc] w1 (fun e w2 => ∃ v, e = .returned v ∧ Goal Tryd.prog (bodyPost Tryd.prog Tryd.f16 (pkQ w c)) rkN ⟨frOf [29, 1, 4, 5] [v, pT w.heap.size, pT (w.heap.size + 1), .bool b], tagL [(1, 0), (4, 1)], ⟨rk2 w F, w2.heap.size⟩, inR rkC 3 2⟩ w2) := by
    intro b hsap w1 hW1
    refine (rmay_any (rt.keep0 hW1.keep) hl).mono ?_
    rintro e w2 ⟨rfl, k2⟩
    refine ⟨_, rfl, ?_⟩
    have hW2 := hW1.later k2
    cases hm1 : mayL c.tags with
    | false => exact go_ret (gt := fun _ => Option.none) (unroll := false) 60 [] [.tmp 2, .tmp 3] (.tuple #[nilV, .int .i64 1]) [] [] hW2 Tryd.results16 (by kernel_rfl) trivial trivial (fun w9 hW9 _ => pk_fail (e := 1) (by simp [putR, hm1]) hW9.keep)
    | true =>
      refine go_stop (gt := fun _ => Option.none) (unroll := false) 60 [(5, 0, .stop)] [1, 4, 5] [pT w.heap.size, pT (w.heap.size + 1), .bool b] (rk2 w F) [(1, 0), (4, 1)] (opsR rkC 5) [] [] hW2 (by kernel_rfl) trivial trivial ?_
      intro w3 hW3 _
      exact rk_mid hF rt rb rr hl hb hr hm1 b hsap w3 hW3
  cases z0 : (byteAt c.llc 0 == 170) with
  | false =>
    refine go_call_is (gt := fun _ => Option.none) (unroll := false) 100 [(2, 3, .is (.bool false))] 46 [.slice to tn tc] [1, 4, 5] [pT w.heap.size, pT (w.heap.size + 1), .bool false] 29 (rk2 w F) [(1, 0), (4, 1)] (inR rkC 3 2) [(.bool (((byteAt c.llc 0).toNat : Int) == 170), .bool false)] [] (Wst.start0 w) (by subst hF; kernel_rfl) ⟨congrArg Value.bool ((u8_eq _ 170).trans z0), trivial⟩ trivial ?_
    intro w1 hW1 _
    exact go false (by simp only [isSap, z0]; rfl) w1 hW1
  | true =>
    cases z1 : (byteAt c.llc 1 == 170) with
    | false =>
      refine go_call_is (gt := fun _ => Option.none) (unroll := false) 100 [(2, 3, .is (.bool true)), (2, 8, .is (.bool false))] 46 [.slice to tn tc] [1, 4, 5] [pT w.heap.size, pT (w.heap.size + 1), .bool false] 29 (rk2 w F) [(1, 0), (4, 1)] (inR rkC 3 2) [(.bool (((byteAt c.llc 0).toNat : Int) == 170), .bool true), (.bool (((byteAt c.llc 1).toNat : Int) == 170), .bool false)] [] (Wst.start0 w) (by subst hF; kernel_rfl) ⟨congrArg Value.bool ((u8_eq _ 170).trans z0), congrArg Value.bool ((u8_eq _ 170).trans z1), trivial⟩ trivial ?_
      intro w1 hW1 _
      exact go false (by simp only [isSap, z0, z1]; rfl) w1 hW1
    | true =>
      cases z2 : (byteAt c.llc 2 == 3) with
      | false =>
        refine go_call_is (gt := fun _ => Option.none) (unroll := false) 100 [(2, 3, .is (.bool true)), (2, 8, .is (.bool true)), (2, 14, .is (.bool false))] 46 [.slice to tn tc] [1, 4, 5] [pT w.heap.size, pT (w.heap.size + 1), .bool false] 29 (rk2 w F) [(1, 0), (4, 1)] (inR rkC 3 2) [(.bool (((byteAt c.llc 0).toNat : Int) == 170), .bool true), (.bool (((byteAt c.llc 1).toNat : Int) == 170), .bool true), (.bool (((byteAt c.llc 2).toNat : Int) == 3), .bool false)] [] (Wst.start0 w) (by subst hF; kernel_rfl) ⟨congrArg Value.bool ((u8_eq _ 170).trans z0), congrArg Value.bool ((u8_eq _ 170).trans z1), congrArg Value.bool ((u8_eq _ 3).trans z2), trivial⟩ trivial ?_
        intro w1 hW1 _
        exact go false (by simp only [isSap, z0, z1, z2]; rfl) w1 hW1
      | true =>
        refine go_call_is (gt := fun _ => Option.none) (unroll := false) 100 [(2, 3, .is (.bool true)), (2, 8, .is (.bool true)), (2, 14, .is (.bool true))] 46 [.slice to tn tc] [1, 4, 5] [pT w.heap.size, pT (w.heap.size + 1), .bool true] 29 (rk2 w F) [(1, 0), (4, 1)] (inR rkC 3 2) [(.bool (((byteAt c.llc 0).toNat : Int) == 170), .bool true), (.bool (((byteAt c.llc 1).toNat : Int) == 170), .bool true), (.bool (((byteAt c.llc 2).toNat : Int) == 3), .bool true)] [] (Wst.start0 w) (by subst hF; kernel_rfl) ⟨congrArg Value.bool ((u8_eq _ 170).trans z0), congrArg Value.bool ((u8_eq _ 170).trans z1), congrArg Value.bool ((u8_eq _ 3).trans z2), trivial⟩ trivial ?_
        intro w1 hW1 _
        exact go true (by simp only [isSap, z0, z1, z2]; rfl) w1 hW1
end
end Go.Proofs.YtcimfojbggckhaaDoor
