/-
  tolllaw03's TagBack, whole. Condition: the kinds are as they were laid.
-/
import Derived.Test.YtcimfojbggckhaaDoorTagBack
namespace Go.Proofs.YtcimfojbggckhaaDoor
open Go.RowKit

section
variable {w : World} {n : Nat} {x y : Tg} {u : Value} {cs : List UInt8}
set_option maxRecDepth 4000 in
/-- From region 11 on. -/
theorem tc_read {l : List Tg} (hst : Stk l) {vl va : Value} (ru : Rd w u cs) (hcl : cs.length ≤ 60) (hk : Kh w) (rl : ∀ {wx : World}, Wst w ⟨bkRows w.heap.size n x y, wx.heap.size⟩ wx → Rt wx vl l)
    (j i : Nat) (hj4 : j + 1 ≤ 4) (hi : i < 4) (hij : 4 - (j + 1) = i) (w' : World) (hW : Wst w ⟨bkRows w.heap.size n x y, w'.heap.size⟩ w') (HA : HdB (bkRows w.heap.size n x y) w' va (bytesL l)) :
    Goal Tryd.prog (bodyPost Tryd.prog Tryd.f8 (tcW w)) tcN ⟨frOf [2, 8, 9, 10, 38, 39, 40] [u, vl, va, .bool (begW cs l.length), sT (n + 3) 4, .int .i64 4, .int .i64 (i : Int)], tagL [], ⟨bkRows w.heap.size n x y, w'.heap.size⟩, opsR tcC 11 (.inv (tcR w n x y u (j + 1)))⟩ w' := by
  have hl2 := hst.len
  have hAl := bytesL_len l
  refine go_call_is (gt := fun _ => Option.none) (unroll := false) 60 [] 39 [va] [2, 8, 9, 10, 38, 39, 40] [u, vl, va, .bool (begW cs l.length), sT (n + 3) 4, .int .i64 4, .int .i64 (i : Int)] 91 (bkRows w.heap.size n x y) [] (inR tcC 11 1 (.inv (tcR w n x y u (j + 1)))) [] [] hW (by kernel_rfl) trivial trivial ?_
  intro w1 hW1 hS1
  have HA := HA.pass0 hS1
  have la1 := HA.lt
  refine (bclone_any _ _ _ HA.rd (by omega)).mono ?_
  rintro e w2 ⟨vc, rfl, fr, _⟩
  refine ⟨_, rfl, ?_⟩
  have HA := HA.call fr.keep
  have HC : HdB (bkRows w.heap.size n x y) w2 vc (bytesL l) := fr.hd hW1
  have hsi : Since w.heap.size vc := fr.since.mono hW1.keep.size
  refine go_app (gt := fun _ => Option.none) (unroll := false) 60 [(11, 3, .stop)] vc u 26 5 [2, 8, 9, 10, 38, 39, 40] [u, vl, va, .bool (begW cs l.length), sT (n + 3) 4, .int .i64 4, .int .i64 (i : Int)] 93 (bkRows w.heap.size n x y) [] (inR tcC 11 3 (.inv (tcR w n x y u (j + 1)))) [] [] bt (hW1.later fr.keep) (by kernel_rfl) trivial trivial ?_
  intro w3 hW3 hS3
  have HA := HA.pass0 hS3
  have oc : Own 5 w3 vc (bytesL l) := fr.own.same fun b hb => hS3.same b ⟨HC.lt b hb, fun r hr _ => HC.ap b hb r hr⟩
  refine ⟨bytesL l, cs, oc, ru.keep0 hW3.keep, by omega, fun k hk' => ⟨hsi k hk', HC.ap k hk'⟩, ?_⟩
  intro v6 w4 o6 k6 ls6 lt6 hW4
  have HA : HdB (bkRows w.heap.size n x y) w4 va (bytesL l) := ⟨HA.rd.keep k6 fun b hb hb' => by
    have h1 := fr.since b hb'
    have h2 := la1 b hb
    omega, HA.lt.mono k6.size, HA.ap⟩
  refine go_call_is (gt := fun _ => Option.none) (unroll := false) 60 [] 32 [v6] [2, 8, 9, 10, 38, 39, 40] [u, vl, va, .bool (begW cs l.length), sT (n + 3) 4, .int .i64 4, .int .i64 (i : Int)] 94 (bkRows w.heap.size n x y) [] (inR tcC 11 4 (.inv (tcR w n x y u (j + 1)))) [] [] hW4 (by kernel_rfl) trivial trivial ?_
  intro w5 hW5 hS5
  have HA := HA.pass0 hS5
  have r6 : Rd w5 v6 (bytesL l ++ cs) := o6.rd.safe (fun b hb => ⟨lt6 b hb, fun r hr _ => (ls6 b hb).2 r hr⟩) hS5.same
  refine (read_any r6 (by rw [List.length_append]; omega) (hk.keep0 hW5.keep)).mono ?_
  rintro e w7 ⟨vm, vr, rfl, rr⟩
  refine ⟨_, rfl, ?_⟩
  have hW7 := hW5.later rr.keep
  have HA := HA.call rr.keep
  have HM : Hd (bkRows w.heap.size n x y) w7 vm (readT 3 [] (bytesL l ++ cs)).1 := ⟨rr.rt, rr.lv, Ap.fresh hW5 rr.sv⟩
  have HR : HdB (bkRows w.heap.size n x y) w7 vr (readT 3 [] (bytesL l ++ cs)).2.1 := ⟨rr.rd, rr.lu, Ap.fresh hW5 rr.su⟩
  have slen : ∀ wx : World, (Builtin.len_ #[24] 3 #[vl]).run Tryd.prog wx = .ok (.int .i64 (l.length : Int)) wx := fun wx => (rl hW).sem_len ett (ty := 3) wx
  by_cases hg : l.length = 2 ∨ begW cs l.length = false
  · have hb : begB cs l.length = false := by
      rcases hg with h | h
      · simp [begB, h]
      · by_cases h2 : l.length < 2
        · exact begW_begB h2 h
        · simp [begB, h2]
    have hrd := hst.read hb
    rw [hrd] at HM HR ⊢
    have eqs2 : ∀ (b2 g : Bool), ((l.length : Int) == 2) = b2 → begW cs l.length = g → (b2 = true ∨ g = false) →
        Goal Tryd.prog (bodyPost Tryd.prog Tryd.f8 (tcW w)) tcN ⟨frOf [94, 2, 8, 9, 10, 38, 39, 40] [.tuple #[vm, vr, .int .i64 0], u, vl, va, .bool g, sT (n + 3) 4, .int .i64 4, .int .i64 (i : Int)], tagL [], ⟨bkRows w.heap.size n x y, w7.heap.size⟩, inR tcC 11 4 (.inv (tcR w n x y u (j + 1)))⟩ w7 := by
      intro b2 g e2 eg hor
      have main : ∀ (wx : World), Wst w ⟨bkRows w.heap.size n x y, wx.heap.size⟩ wx → Hd (bkRows w.heap.size n x y) wx vm l → HdB (bkRows w.heap.size n x y) wx vr cs → HdB (bkRows w.heap.size n x y) wx va (bytesL l) →
          Calls Tryd.prog 40 #[vm, vl] wx (fun e w2 => ∃ v, e = .returned v ∧ Goal Tryd.prog (bodyPost Tryd.prog Tryd.f8 (tcW w)) tcN ⟨frOf [111, 2, 9, 12, 38, 39, 40, 105, 108] [v, u, va, vr, sT (n + 3) 4, .int .i64 4, .int .i64 (i : Int), .bool true, .bool false], tagL [], ⟨bkRows w.heap.size n x y, w2.heap.size⟩, inR tcC 12 13 (.inv (tcR w n x y u (j + 1)))⟩ w2) := by
        intro wx hWx HM HR HA
        refine (teq_any HM.rt (rl hWx)).mono ?_
        rintro e w8 ⟨rfl, k8⟩
        refine ⟨_, rfl, ?_⟩
        have HR := HR.call k8
        have HA := HA.call k8
        refine go_call_is (gt := fun _ => Option.none) (unroll := false) 60 [] 33 [vr, u] [2, 9, 38, 39, 40, 105, 114] [u, va, sT (n + 3) 4, .int .i64 4, .int .i64 (i : Int), .bool true, .bool false] 117 (bkRows w.heap.size n x y) [] (inR tcC 12 19 (.inv (tcR w n x y u (j + 1)))) [] [] (hWx.later k8) (by kernel_rfl) trivial trivial ?_
        intro w9 hW9 hS9
        have HR := HR.pass0 hS9
        have HA := HA.pass0 hS9
        refine (bequal_any HR.rd (ru.keep0 hW9.keep)).mono ?_
        rintro e wa ⟨rfl, rfl⟩
        refine ⟨_, rfl, ?_⟩
        simp only [BEq.rfl]
        refine go_stop (gt := fun _ => Option.none) (unroll := false) 60 [(14, 0, .stop)] [2, 9, 38, 39, 40] [u, va, sT (n + 3) 4, .int .i64 4, .int .i64 (i : Int)] (bkRows w.heap.size n x y) [] (opsR tcC 14 (.inv (tcR w n x y u (j + 1)))) [] [] hW9 (by kernel_rfl) trivial trivial ?_
        intro wb hWb hSb
        exact td_loop hst rfl hk j i hj4 hi hij wb hWb (HA.pass0 hSb)
      cases b2 with
      | true =>
        refine go_call_is (gt := fun _ => Option.none) (unroll := false) 60 [(12, 1, .sem (.int .i64 (l.length : Int))), (12, 2, .is (.bool true))] 40 [vm, vl] [2, 9, 12, 38, 39, 40, 105, 108] [u, va, vr, sT (n + 3) 4, .int .i64 4, .int .i64 (i : Int), .bool true, .bool false] 111 (bkRows w.heap.size n x y) [] (inR tcC 12 13 (.inv (tcR w n x y u (j + 1)))) [(.bool ((l.length : Int) == 2), .bool true)] [(Builtin.len_ #[24] 3 #[vl], .int .i64 (l.length : Int))] hW7 (by kernel_rfl) ⟨congrArg Value.bool e2, trivial⟩ ⟨fun wx _ => slen wx, trivial⟩ ?_
        intro wx hWx hSx
        exact main wx hWx (HM.pass0 hSx) (HR.pass0 hSx) (HA.pass0 hSx)
      | false =>
        obtain rfl : g = false := by rcases hor with h | h; exact (by cases h); exact h
        refine go_call_is (gt := fun _ => Option.none) (unroll := false) 60 [(12, 1, .sem (.int .i64 (l.length : Int))), (12, 2, .is (.bool false))] 40 [vm, vl] [2, 9, 12, 38, 39, 40, 105, 108] [u, va, vr, sT (n + 3) 4, .int .i64 4, .int .i64 (i : Int), .bool true, .bool false] 111 (bkRows w.heap.size n x y) [] (inR tcC 12 13 (.inv (tcR w n x y u (j + 1)))) [(.bool ((l.length : Int) == 2), .bool false)] [(Builtin.len_ #[24] 3 #[vl], .int .i64 (l.length : Int))] hW7 (by kernel_rfl) ⟨congrArg Value.bool e2, trivial⟩ ⟨fun wx _ => slen wx, trivial⟩ ?_
        intro wx hWx hSx
        exact main wx hWx (HM.pass0 hSx) (HR.pass0 hSx) (HA.pass0 hSx)
    exact eqs2 _ _ rfl rfl (by
      rcases hg with h | h
      · left; rw [h]; rfl
      · exact .inr h)
  · have h2 : ¬ l.length = 2 := fun h => hg (.inl h)
    have hbg : begW cs l.length = true := by
      cases h : begW cs l.length with
      | true => rfl
      | false => exact absurd (.inr h) hg
    rw [hbg]
    refine go_stop (gt := fun _ => Option.none) (unroll := false) 60 [(12, 1, .sem (.int .i64 (l.length : Int))), (12, 2, .is (.bool false)), (14, 0, .stop)] [2, 9, 38, 39, 40] [u, va, sT (n + 3) 4, .int .i64 4, .int .i64 (i : Int)] (bkRows w.heap.size n x y) [] (opsR tcC 14 (.inv (tcR w n x y u (j + 1)))) [(.bool ((l.length : Int) == 2), .bool false)] [(Builtin.len_ #[24] 3 #[vl], .int .i64 (l.length : Int))] hW7 (by kernel_rfl) ⟨congrArg Value.bool (by simp; omega), trivial⟩ ⟨fun wx _ => slen wx, trivial⟩ ?_
    intro wb hWb hSb
    exact td_loop hst rfl hk j i hj4 hi hij wb hWb (HA.pass0 hSb)
set_option maxRecDepth 4000 in
/-- One stack, from Bytes on. -/
theorem tc_mid {l : List Tg} (hst : Stk l) {vl : Value} (ru : Rd w u cs) (hcl : cs.length ≤ 60) (hk : Kh w) (rl2 : ∀ {W0 wx : World} {m : Mem}, Wst W0 m wx → (∀ r ∈ bkRows w.heap.size n x y, r ∈ m.rows) → Rt wx vl l)
    (j i : Nat) (hj4 : j + 1 ≤ 4) (hi : i < 4) (hij : 4 - (j + 1) = i) (w1 : World) (hW1 : Wst w ⟨bkRows w.heap.size n x y, w1.heap.size⟩ w1) :
    Calls Tryd.prog 29 #[vl] w1 (fun e w2 => ∃ v, e = .returned v ∧ Goal Tryd.prog (bodyPost Tryd.prog Tryd.f8 (tcW w)) tcN ⟨frOf [45, 2, 8, 38, 39, 40] [v, u, vl, sT (n + 3) 4, .int .i64 4, .int .i64 (i : Int)], tagL [], ⟨bkRows w.heap.size n x y, w2.heap.size⟩, inR tcC 7 1 (.inv (tcR w n x y u (j + 1)))⟩ w2) := by
  have rl : ∀ {wx : World}, Wst w ⟨bkRows w.heap.size n x y, wx.heap.size⟩ wx → Rt wx vl l := fun h => rl2 h (fun r hr => hr)
  have hl2 := hst.len
  refine (tagbytes_any (rl hW1) (hk.keep0 hW1.keep) (by omega)).mono ?_
  rintro e w2 ⟨va, rfl, fr⟩
  rw [hst.bytes] at fr
  refine ⟨_, rfl, ?_⟩
  have HA := fr.hd hW1
  refine go_call_is (gt := fun _ => Option.none) (unroll := false) 60 [] 22 [vl] [2, 8, 9, 38, 39, 40] [u, vl, va, sT (n + 3) 4, .int .i64 4, .int .i64 (i : Int)] 47 (bkRows w.heap.size n x y) [] (inR tcC 8 1 (.inv (tcR w n x y u (j + 1)))) [] [] (hW1.later fr.keep) (by kernel_rfl) trivial trivial ?_
  intro w3 hW3 hS3
  have HA := HA.pass0 hS3
  refine (may_any (rl hW3) (hk.keep0 hW3.keep)).mono ?_
  rintro e w4 ⟨rfl, k4⟩
  rw [hst.may]
  refine ⟨_, rfl, ?_⟩
  have HA := HA.call k4
  have hW4 := hW3.later k4
  have hlb := bytesL_len l
  refine go_stop (gt := fun _ => Option.none) (unroll := false) 60 [(8, 5, .sem (.int .i64 ((bytesL l).length : Int))), (8, 7, .sem (.int .i64 (l.length : Int))), (8, 8, .is (.int .i64 ((4 * l.length : Nat) : Int))), (8, 9, .is (.bool false)), (10, 0, .stop)] [2, 8, 9, 38, 39, 40] [u, vl, va, sT (n + 3) 4, .int .i64 4, .int .i64 (i : Int)] (bkRows w.heap.size n x y) [] (opsR tcC 10 (.inv (tcR w n x y u (j + 1))))
    [(.int .i64 (IntKind.i64.wrap (4 * (l.length : Int))), .int .i64 ((4 * l.length : Nat) : Int)), (.bool (((bytesL l).length : Int) != ((4 * l.length : Nat) : Int)), .bool false)] [(Builtin.len_ #[26] 3 #[va], .int .i64 ((bytesL l).length : Int)), (Builtin.len_ #[24] 3 #[vl], .int .i64 (l.length : Int))] hW4 (by kernel_rfl)
    ⟨congrArg (Value.int .i64) (by rw [IntWalk.i64_in _ (by omega)]; omega), congrArg Value.bool (by rw [hlb]; simp), trivial⟩ ⟨fun wx _ => HA.rd.run_len (ty := 3) bt.sl, fun wx _ => (rl hW4).sem_len ett (ty := 3) wx, trivial⟩ ?_
  intro w5 hW5 hS5
  have HA := HA.pass0 hS5
  refine tc_beg ru rl hW5 fun w6 hW6 hS6 => ?_
  exact tc_read hst ru hcl hk rl j i hj4 hi hij w6 hW6 (HA.pass0 hS6)
set_option maxRecDepth 4000 in
theorem tc_round (hx : mayT x = true) (hy : mayT y = true) (hyk : y.k = 33024) (ru : Rd w u cs) (hcl : cs.length ≤ 60) (hk : Kh w) (j : Nat) (w' : World) (hJ : tcJ w n x y (j + 1) w') :
    Goal Tryd.prog (bodyPost Tryd.prog Tryd.f8 (tcW w)) tcN { tcL w.heap.size n x y u (j + 1) w' with todo := .code (loopOf (atL tcC 5)) :: .inv (tcR w n x y u (j + 1)) :: (atL tcC 5).tail } w' := by
  obtain ⟨hj, hW⟩ := hJ
  unfold tcL
  match j, hj with
  | 3, hj =>
    obtain ⟨vl, l, hst, hvl, _, hrt⟩ := bk_at (h := w.heap.size) (n := n) hx hy hyk 0 (by omega)
    obtain rfl := Option.some.inj hvl
    refine go_call_is (gt := fun _ => Option.none) (unroll := false) 60 [] 29 [.slice none 0 0] [2, 8, 38, 39, 40] [u, .slice none 0 0, sT (n + 3) 4, .int .i64 4, .int .i64 ((0 : Nat) : Int)] 45 (bkRows w.heap.size n x y) [] (inR tcC 7 1 (.inv (tcR w n x y u (3 + 1)))) [] [] hW (by kernel_rfl) trivial trivial ?_
    intro w1 hW1 _
    exact tc_mid hst ru hcl hk hrt 3 0 hj (by omega) rfl w1 hW1
  | 2, hj =>
    obtain ⟨vl, l, hst, hvl, _, hrt⟩ := bk_at (h := w.heap.size) (n := n) hx hy hyk 1 (by omega)
    obtain rfl := Option.some.inj hvl
    refine go_call_is (gt := fun _ => Option.none) (unroll := false) 60 [] 29 [sT n 1] [2, 8, 38, 39, 40] [u, sT n 1, sT (n + 3) 4, .int .i64 4, .int .i64 ((1 : Nat) : Int)] 45 (bkRows w.heap.size n x y) [] (inR tcC 7 1 (.inv (tcR w n x y u (2 + 1)))) [] [] hW (by kernel_rfl) trivial trivial ?_
    intro w1 hW1 _
    exact tc_mid hst ru hcl hk hrt 2 1 hj (by omega) rfl w1 hW1
  | 1, hj =>
    obtain ⟨vl, l, hst, hvl, _, hrt⟩ := bk_at (h := w.heap.size) (n := n) hx hy hyk 2 (by omega)
    obtain rfl := Option.some.inj hvl
    refine go_call_is (gt := fun _ => Option.none) (unroll := false) 60 [] 29 [sT (n + 1) 1] [2, 8, 38, 39, 40] [u, sT (n + 1) 1, sT (n + 3) 4, .int .i64 4, .int .i64 ((2 : Nat) : Int)] 45 (bkRows w.heap.size n x y) [] (inR tcC 7 1 (.inv (tcR w n x y u (1 + 1)))) [] [] hW (by kernel_rfl) trivial trivial ?_
    intro w1 hW1 _
    exact tc_mid hst ru hcl hk hrt 1 2 hj (by omega) rfl w1 hW1
  | 0, hj =>
    obtain ⟨vl, l, hst, hvl, _, hrt⟩ := bk_at (h := w.heap.size) (n := n) hx hy hyk 3 (by omega)
    obtain rfl := Option.some.inj hvl
    refine go_call_is (gt := fun _ => Option.none) (unroll := false) 60 [] 29 [sT (n + 2) 2] [2, 8, 38, 39, 40] [u, sT (n + 2) 2, sT (n + 3) 4, .int .i64 4, .int .i64 ((3 : Nat) : Int)] 45 (bkRows w.heap.size n x y) [] (inR tcC 7 1 (.inv (tcR w n x y u (0 + 1)))) [] [] hW (by kernel_rfl) trivial trivial ?_
    intro w1 hW1 _
    exact tc_mid hst ru hcl hk hrt 0 3 hj (by omega) rfl w1 hW1
set_option maxRecDepth 4000 in
/-- Behind the loop. -/
theorem tc_end (ru : Rd w u cs) (hcl : cs.length ≤ 60) (hk : Kh w) (w' : World) (hW : Wst w ⟨bkRows w.heap.size n x y, w'.heap.size⟩ w') :
    Goal Tryd.prog (bodyPost Tryd.prog Tryd.f8 (tcW w)) tcN (tcL w.heap.size n x y u 0 w' |> fun c => { c with todo := .code (loopOf (atL tcC 5)) :: .inv (tcR w n x y u 0) :: (atL tcC 5).tail }) w' := by
  simp only
  unfold tcL
  refine go_call_is (gt := fun _ => Option.none) (unroll := false) 60 [] 32 [u] [2] [u] 152 (bkRows w.heap.size n x y) [] (inR tcC 22 1) [] [] hW (by kernel_rfl) trivial trivial ?_
  intro w1 hW1 _
  refine (read_any (ru.keep0 hW1.keep) (by omega) (hk.keep0 hW1.keep)).mono ?_
  rintro e w2 ⟨vl, vr, rfl, rr⟩
  refine ⟨_, rfl, ?_⟩
  have hW2 : Wst w ⟨[], w2.heap.size⟩ w2 := (hW1.later rr.keep).fewer (rows := []) (more := bkRows w.heap.size n x y)
  refine Goal.re (tags := tagL []) (m := ⟨[], w2.heap.size⟩) ?_
  have HL : Hd [] w2 vl (readT 3 [] cs).1 := ⟨rr.rt, rr.lv, Ap.nil _⟩
  have HR : HdB [] w2 vr (readT 3 [] cs).2.1 := ⟨rr.rd, rr.lu, Ap.nil _⟩
  have hsr : Since w.heap.size vr := rr.su.mono hW1.keep.size
  rcases readT_back 3 [] cs with h | ⟨m, r, h, h1, h2, h3⟩
  · rw [h] at HL HR ⊢
    refine go_call_is (gt := fun _ => Option.none) (unroll := false) 80 [(24, 4, .sem (.int .i64 0)), (24, 9, .sem (.int .i64 0))] 34 [] [170] [.bool true] 171 [] [] (inR tcC 24 13) [] [(Builtin.len_ #[24] 3 #[vl], .int .i64 0), (Builtin.len_ #[26] 3 #[vr], .int .i64 0)] hW2 (by kernel_rfl) trivial
      ⟨fun wx _ => HL.rt.sem_len ett (ty := 3) wx, fun wx _ => HR.rd.run_len (ty := 3) bt.sl, trivial⟩ ?_
    intro w3 hW3 _
    refine (wakes3_any w3 (hk.keep0 hW3.keep)).mono ?_
    rintro e w4 ⟨rfl, k4⟩
    refine ⟨_, rfl, ?_⟩
    exact go_ret (gt := fun _ => Option.none) (unroll := false) 60 [] [.tmp 6] (.bool true) [] [] (hW3.later k4) Tryd.results8 (by kernel_rfl) trivial trivial (fun w9 hW9 _ => ⟨rfl, hW9.keep⟩)
  · rw [h] at HL HR ⊢
    simp only [List.nil_append] at HL HR
    have hm : mayL m = true := h2
    have hbm : bytesB m = bytesL m := by rw [bytesB, h3, if_pos rfl]
    have hll : (bytesL m).length + r.length = cs.length := by rw [h1, List.length_append]
    have hml := bytesL_len m
    refine go_call_is (gt := fun _ => Option.none) (unroll := false) 80 [] 22 [vl] [2, 18, 19] [u, vl, vr] 174 [] [] (inR tcC 25 1) [] [] hW2 (by kernel_rfl) trivial trivial ?_
    intro w3 hW3 hS3
    have HL := HL.pass0 hS3
    have HR := HR.pass0 hS3
    refine (may_any HL.rt (hk.keep0 hW3.keep)).mono ?_
    rintro e w4 ⟨rfl, k4⟩
    rw [hm]
    refine ⟨_, rfl, ?_⟩
    have HL := HL.call k4
    have HR := HR.call k4
    refine go_call_is (gt := fun _ => Option.none) (unroll := false) 80 [] 29 [vl] [2, 19, 175] [u, vr, .bool true] 177 [] [] (inR tcC 25 4) [] [] (hW3.later k4) (by kernel_rfl) trivial trivial ?_
    intro w5 hW5 hS5
    have HL := HL.pass0 hS5
    have HR := HR.pass0 hS5
    refine (tagbytes_any HL.rt (hk.keep0 hW5.keep) (by omega)).mono ?_
    rintro e w6 ⟨vb, rfl, fr⟩
    rw [hbm] at fr
    refine ⟨_, rfl, ?_⟩
    have HR := HR.call fr.keep
    have hsb : Since w.heap.size vb := fr.since.mono hW5.keep.size
    refine go_app (gt := fun _ => Option.none) (unroll := false) 60 [(25, 6, .stop)] vb vr 26 5 [2, 175] [u, .bool true] 179 [] [] (inR tcC 25 6) [] [] bt (hW5.later fr.keep) (by kernel_rfl) trivial trivial ?_
    intro w7 hW7 hS7
    have HR := HR.pass0 hS7
    have ob : Own 5 w7 vb (bytesL m) := fr.own.same fun b hb => hS7.same b ⟨fr.own.lt b hb, fun _ h => nomatch h⟩
    refine ⟨bytesL m, r, ob, HR.rd, by omega, fun k hk' => ⟨hsb k hk', fun q hq => by simp at hq⟩, ?_⟩
    intro v8 w8 o8 k8 _ l8 hW8
    refine go_call_is (gt := fun _ => Option.none) (unroll := false) 80 [] 33 [v8, u] [175] [.bool true] 181 [] [] (inR tcC 25 8) [] [] hW8 (by kernel_rfl) trivial trivial ?_
    intro w9 hW9 hS9
    have r9 : Rd w9 v8 cs := by
      rw [h1]
      exact o8.rd.safe (m := ⟨[], w8.heap.size⟩) (fun b hb => ⟨l8 b hb, fun _ h => nomatch h⟩) hS9.same
    refine (bequal_any r9 (ru.keep0 hW9.keep)).mono ?_
    rintro e wa ⟨rfl, rfl⟩
    refine ⟨_, rfl, ?_⟩
    simp only [BEq.rfl]
    refine go_call_is (gt := fun _ => Option.none) (unroll := false) 80 [] 34 [] [183] [.bool true] 184 [] [] (inR tcC 25 11) [] [] hW9 (by kernel_rfl) trivial trivial ?_
    intro wb hWb _
    refine (wakes3_any wb (hk.keep0 hWb.keep)).mono ?_
    rintro e wc ⟨rfl, kc⟩
    refine ⟨_, rfl, ?_⟩
    exact go_ret (gt := fun _ => Option.none) (unroll := false) 60 [] [.tmp 6] (.bool true) [] [] (hWb.later kc) Tryd.results8 (by kernel_rfl) trivial trivial (fun w9 hW9 _ => ⟨rfl, hW9.keep⟩)
def inT (t : Tg) : Tg := ⟨33024, t.p, t.d, t.v⟩
theorem may_in {t : Tg} (h : mayT t = true) : mayT (inT t) = true := by
  simp only [mayT, Bool.and_eq_true] at h
  show ((kindsL 0).contains ((33024 : Nat) : Int) && decide ((t.p : Int) < 8) && decide ((t.v : Int) ≤ 4095)) = true
  rw [h.1.2, h.2]
  rfl
set_option maxRecDepth 4000 in
theorem tagback_walk (x y : Tg) {v : Value} {bs : List UInt8} (r : Rd w v bs) (hk : Kh w) : Calls Tryd.prog 8 #[.agg x.a, .agg y.a, v] w (tcW w) := by
  have hm := mn_le_left bs.length 60
  refine enter (args := [.agg x.a, .agg y.a, v]) Tryd.func8 (by kernel_rfl) ?_
  refine go_stop (gt := fun _ => Option.none) (unroll := false) 60 [(1, 2, .sem (.int .i64 (bs.length : Int))), (1, 3, .sem (.int .i64 (mn bs.length 60 : Nat))), (1, 4, .sem (cutv v 0 (mn bs.length 60)))] [2, 3, 4] [cutv v 0 (mn bs.length 60), pT w.heap.size, pT (w.heap.size + 1)] (tpRows w.heap.size x y) [] (atR tcC 2) []
    [(Builtin.len_ #[26] 3 #[v], .int .i64 (bs.length : Int)), (Builtin.min_ #[3, 3] 3 #[.int .i64 (bs.length : Int), .int .i64 60], .int .i64 (mn bs.length 60 : Nat)), (Instr.sliceAt 26 v Option.none (some (.int .i64 (mn bs.length 60 : Nat))) Option.none, cutv v 0 (mn bs.length 60))]
    (Wst.start0 w) (by kernel_rfl) trivial ⟨fun wx _ => r.run_len (ty := 3) bt.sl, fun wx _ => run_mn #[3, 3] 3 bs.length 60, fun wx _ => r.sem_cutH hm wx, trivial⟩ ?_
  intro w1 hW1 _
  have hcl : ((bs.drop 0).take (mn bs.length 60 - 0)).length ≤ 60 := by have := mn_le_right bs.length 60; simp; omega
  have ru := r.cut (l := 0) (h := mn bs.length 60) (Nat.zero_le _) hm
  generalize (bs.drop 0).take (mn bs.length 60 - 0) = cs at *
  generalize cutv v 0 (mn bs.length 60) = u at *
  obtain ⟨t1, hr1⟩ := hW1.rows ⟨w.heap.size, x.a.toList, true⟩ (by simp)
  obtain ⟨t2, hr2⟩ := hW1.rows ⟨w.heap.size + 1, y.a.toList, true⟩ (by simp)
  have hW1' : Wst w ⟨[], w1.heap.size⟩ w1 := hW1.fewer (rows := []) (more := tpRows w.heap.size x y)
  have hlo : ∀ k, tpS w.heap.size k → w.heap.size ≤ k := fun k hk => by rcases hk with rfl | rfl <;> omega
  have hKN : ∀ wx, Keep (tpS w.heap.size) w1 wx → Keep No w wx := fun wx k => hW1.keep.trans' k (fun i hi h => by have := hlo i h; omega)
  have hSl : ∀ k, tpS w.heap.size k → k < w1.heap.size := fun k hk => by
    have q1 := block_of_row hr1
    have q2 := block_of_row hr2
    rcases hk with rfl | rfl
    · exact q1
    · exact q2
  refine Goal.re (tags := tagL []) (m := ⟨[], w1.heap.size⟩) ?_
  refine drawnM_ok (S0 := tpS w.heap.size) (gt := fun _ => Option.none) (D := RowsK (tpS w.heap.size) (tpBs w.heap.size x y (broT x) (broT y))) (g0 := ⟨False, undef, tpS w.heap.size⟩)
    [(0, .early (.is (.agg x.a))), (1, .call (.is (.agg (broT x).a))), (2, .early (.is (.agg y.a))), (3, .call (.is (.agg (broT y).a))), (4, .act (.is undef)), (5, .act (.is undef))] [2, 3, 4] [.is u, .is (pT w.heap.size), .is (pT (w.heap.size + 1))]
    (EarlyM Tryd.prog (tpS w.heap.size) w1 (RowsK (tpS w.heap.size) (tpBs w.heap.size x y (broT x) (broT y))) (.load 57 (.tmp 3)) 57 [(3, .is (pT w.heap.size))] (.is (.agg x.a)) ∧
      CallM Tryd.prog (tpS w.heap.size) w1 38 [.is (.agg x.a)] (.is (.agg (broT x).a)) ∧
      EarlyM Tryd.prog (tpS w.heap.size) w1 (RowsK (tpS w.heap.size) (tpBs w.heap.size x y (broT x) (broT y))) (.load 57 (.tmp 4)) 57 [(4, .is (pT (w.heap.size + 1)))] (.is (.agg y.a)) ∧
      CallM Tryd.prog (tpS w.heap.size) w1 38 [.is (.agg y.a)] (.is (.agg (broT y).a)) ∧
      ActM Tryd.prog (tpS w.heap.size) w1 (RowsK (tpS w.heap.size) (tpBs w.heap.size x y (broT x) (broT y))) 0 (.store 57 (.tmp 3) (.tmp 27)) 0 [(3, .is (pT w.heap.size)), (27, .is (.agg (broT x).a))] (.is undef) ∧
      ActM Tryd.prog (tpS w.heap.size) w1 (RowsK (tpS w.heap.size) (tpBs w.heap.size x y (broT x) (broT y))) 1 (.store 57 (.tmp 4) (.tmp 29)) 0 [(4, .is (pT (w.heap.size + 1))), (29, .is (.agg (broT y).a))] (.is undef) ∧ True)
    2 (afterR tcC 2) hW1' (fun k hk => ⟨hlo k hk, fun _ h => nomatch h⟩) (by kernel_rfl) (by kernel_rfl) (by kernel_rfl) RowsK.keep (fun k h => ⟨hSl k h, fun _ => h⟩)
    ⟨rfl, fun q hq => by
      rcases List.mem_cons.1 hq with rfl | hq
      · exact ⟨t1, hr1⟩
      · obtain rfl := List.mem_singleton.1 hq
        exact ⟨t2, hr2⟩⟩
    ⟨early_loadR (b := w.heap.size) (cs := x.a.toList) (by simp [tpBs]) (List.replicate 4 (w.heap.size, w.heap.size)) (fun q hq => by rw [List.eq_of_mem_replicate hq]) (fun nx => by kernel_rfl), ?_,
      early_loadR (b := w.heap.size + 1) (cs := y.a.toList) (by simp [tpBs]) (List.replicate 4 (w.heap.size + 1, w.heap.size + 1)) (fun q hq => by rw [List.eq_of_mem_replicate hq]) (fun nx => by kernel_rfl), ?_,
      act_storeR (cs0 := x.a.toList) (cs1 := (broT x).a.toList) hKN (Nat.le_refl _) (.inl rfl) (by simp [tpBs]) (fun q hq => ?_) (List.replicate 4 (w.heap.size, w.heap.size)) (fun q hq => by rw [List.eq_of_mem_replicate hq]) (fun nx => by kernel_rfl),
      act_storeR (cs0 := y.a.toList) (cs1 := (broT y).a.toList) hKN (Nat.le_succ _) (.inr rfl) (by simp [tpBs]) (fun q hq => ?_) (List.replicate 4 (w.heap.size + 1, w.heap.size + 1)) (fun q hq => by rw [List.eq_of_mem_replicate hq]) (fun nx => by kernel_rfl), trivial⟩ ?_
  · intro g wx vals k hbase hv
    match vals, hv with
    | [z], hz => obtain rfl : z = _ := hz.1; exact (brought_tg wx x).mono fun e w9 ⟨h1, h2⟩ => ⟨_, h1, h2, rfl⟩
  · intro g wx vals k hbase hv
    match vals, hv with
    | [z], hz => obtain rfl : z = _ := hz.1; exact (brought_tg wx y).mono fun e w9 ⟨h1, h2⟩ => ⟨_, h1, h2, rfl⟩
  · rcases List.mem_cons.1 hq with rfl | hq
    · exact .inl rfl
    · obtain rfl := List.mem_singleton.1 hq
      exact .inr ⟨by simp [tpBs], by simp⟩
  · rcases List.mem_cons.1 hq with rfl | hq
    · exact .inr ⟨by simp [tpBs], by simp⟩
    · obtain rfl := List.mem_singleton.1 hq
      exact .inl rfl
  intro g w2 vs k2 _ hd hok
  obtain rfl := allOkM_is (vs := [u, pT w.heap.size, pT (w.heap.size + 1)]) hok
  obtain ⟨_, hrows⟩ := hd
  obtain ⟨s1, q1⟩ := hrows (w.heap.size, (broT x).a.toList) (by simp [tpBs])
  obtain ⟨s2, q2⟩ := hrows (w.heap.size + 1, (broT y).a.toList) (by simp [tpBs])
  have hW2 := hW1'.laterS k2 (fun k hk => ⟨hlo k hk, fun _ h => nomatch h⟩)
  have hW2b : Wst w ⟨[⟨w.heap.size, (broT x).a.toList, true⟩], w2.heap.size⟩ w2 := hW2.addRow q1 (Nat.le_refl _) (fun _ h => nomatch h)
  have hW2c : Wst w ⟨tpRows w.heap.size (broT x) (broT y), w2.heap.size⟩ w2 := hW2b.addRow q2 (Nat.le_succ _) (fun r hr => by obtain rfl := List.mem_singleton.1 hr; show w.heap.size ≠ w.heap.size + 1; omega)
  refine Goal.re (tags := tagL [(3, 0), (4, 1)]) (m := ⟨tpRows w.heap.size (broT x) (broT y), w2.heap.size⟩) ?_
  have hx := may_bro x
  have hy := may_in (may_bro y)
  refine go_stop (gt := fun _ => Option.none) (unroll := false) 80 [] [2, 38, 39, 40] [u, sT (w2.heap.size + 3) 4, .int .i64 4, .int .i64 0] (bkRows w.heap.size w2.heap.size (broT x) (inT (broT y))) [(38, 5)] (atL tcC 5) [] [] hW2c (by kernel_rfl) trivial trivial ?_
  intro w3 hW3 _
  have key := loop_ok (P := Tryd.prog) (Q := bodyPost Tryd.prog Tryd.f8 (tcW w)) (n := tcN) (x := loopOf (atL tcC 5)) (k := (atL tcC 5).tail) (tcL w.heap.size w2.heap.size (broT x) (inT (broT y)) u) (tcJ w w2.heap.size (broT x) (inT (broT y))) (fun _ _ => by kernel_rfl) ?_ 4 w3 ⟨Nat.le_refl _, hW3⟩
  · exact key
  intro j w4 hJ
  cases j with
  | succ j => exact tc_round hx hy rfl ru hcl hk j w4 hJ
  | zero => exact tc_end ru hcl hk w4 hJ.2
end
end Go.Proofs.YtcimfojbggckhaaDoor
