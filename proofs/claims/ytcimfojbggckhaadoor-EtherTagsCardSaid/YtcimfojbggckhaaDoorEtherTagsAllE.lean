/-
  EtherTags: for every input the call returns true and each argument reads afterwards as before. The listed variable is as the program's text lays it.
-/
import Derived.Test.YtcimfojbggckhaaDoorEtherTagsAllD
import Derived.Test.YtcimfojbggckhaaDoorCards
namespace Go.Proofs.YtcimfojbggckhaaDoor
open Go.RowKit

noncomputable abbrev epC : Code := bodyOf Tryd.f3
theorem few_lens (c : Fi) : (fewR c).tags.length ≤ 4 ∧ (fewR c).body.length ≤ 1600 ∧ (fewR c).rest.length ≤ 1600 := by
  have h1 := mn_le_right c.tags.length 4
  have h2 := mn_le_right c.body.length 1600
  have h3 := mn_le_right c.rest.length 1600
  simp only [fewR, List.drop_zero, List.length_take]
  omega
theorem fb_hd {W0 w w' : World} {rows : List RowS} {v : Value} {l : List UInt8} (h : (fbS w.heap.size l).ok w' v) (hW : Wst W0 ⟨rows, w.heap.size⟩ w) : HdB rows w' v l := ⟨h.1, h.2.2, Ap.fresh hW h.2.1⟩
theorem beq_str (w : World) (x y : Operand) (a : List UInt8) : (do eqGuard .eql 9 x y (.string (str a)) (.string (str a)); binOp .eql 9 (.string (str a)) (.string (str a)) : Sem Value).run Tryd.prog w = .ok (.bool true) w := by
  rw [eq_str]; simp
section
variable {w : World} {c : Fi} {F : Fr} {to bo ro : Option Addr} {tn tc bn bc rn rc : Nat}
theorem etherputs_walk (hF : fiCells c to tn tc bo bn bc ro rn rc = F) (rt : Rt w (.slice to tn tc) c.tags) (rb : Rd w (.slice bo bn bc) c.body) (rr : Rd w (.slice ro rn rc) c.rest) (hk : Kh w) (hs : Sh w) : Calls Tryd.prog 3 #[.agg F.a] w (esQ w) := by
  refine enter (args := [.agg F.a]) Tryd.func3 (by kernel_rfl) ?_
  refine go_call_is (gt := fun _ => Option.none) (unroll := false) 60 [] 13 [.agg F.a] [1, 2] [pT w.heap.size, .bool false] 15 [⟨w.heap.size, F.a.toList, true⟩] [(1, 0)] (inR epC 1 1) [] [] (Wst.start0 w) (by subst hF; kernel_rfl) trivial trivial ?_
  intro w1 hW1 _
  refine (few_any hF (rt.keep0 hW1.keep) (rb.keep0 hW1.keep) (rr.keep0 hW1.keep)).mono ?_
  rintro e w2 ⟨G, rfl, fw⟩
  refine ⟨_, rfl, ?_⟩
  have hW2 := hW1.later fw.keep
  obtain ⟨l1, l2, l3⟩ := few_lens c
  generalize fewR c = d at *
  have hG0 : HdF [⟨w.heap.size, F.a.toList, true⟩] w2 G d := fw.hd hW1
  obtain ⟨uo, un, uc, xo, xn, xc, yo, yn, yc, e1, e2, e3⟩ := hG0.forms
  have ec : G.a = (fiCells d uo un uc xo xn xc yo yn yc).a := by rw [fw.cells, e1, e2, e3]
  have hT0 := hG0.t
  have hB0 := hG0.b
  have hR0 := hG0.r
  rw [e1] at hT0
  rw [e2] at hB0
  rw [e3] at hR0
  rw [ec]
  clear fw hG0 ec e1 e2 e3
  obtain ⟨K, hK⟩ : ∃ K, fiCells d uo un uc xo xn xc yo yn yc = K := ⟨_, rfl⟩
  rw [hK]
  refine go_call_is (gt := fun _ => Option.none) (unroll := false) 60 [] 14 [.agg K.a] [1, 2] [pT w.heap.size, .bool false] 17 [⟨w.heap.size, K.a.toList, true⟩] [(1, 0)] (inR epC 2 1) [] [] hW2 (by subst hK hF; kernel_rfl) trivial trivial ?_
  intro w3 hW3 hS3
  have ap3 : ∀ {v : Value}, Ap [⟨w.heap.size, F.a.toList, true⟩] v → Ap [⟨w.heap.size, K.a.toList, true⟩] v := fun h b hb r hr => by
    obtain rfl := List.mem_singleton.1 hr
    exact h b hb ⟨w.heap.size, F.a.toList, true⟩ (by simp)
  have le3 : w2.heap.size ≤ w3.heap.size := hS3.le
  have T3 : Hd [⟨w.heap.size, K.a.toList, true⟩] w3 (.slice uo un uc) d.tags := ⟨hT0.rt.same fun b hb _ => hS3.same b ⟨hT0.lt b hb, fun r hr _ => hT0.ap b hb r hr⟩, hT0.lt.mono le3, ap3 hT0.ap⟩
  have B3 : HdB [⟨w.heap.size, K.a.toList, true⟩] w3 (.slice xo xn xc) d.body := ⟨hB0.rd.safe (fun b hb => ⟨hB0.lt b hb, fun r hr _ => hB0.ap b hb r hr⟩) hS3.same, hB0.lt.mono le3, ap3 hB0.ap⟩
  have R3 : HdB [⟨w.heap.size, K.a.toList, true⟩] w3 (.slice yo yn yc) d.rest := ⟨hR0.rd.safe (fun b hb => ⟨hR0.lt b hb, fun r hr _ => hR0.ap b hb r hr⟩) hS3.same, hR0.lt.mono le3, ap3 hR0.ap⟩
  clear hT0 hB0 hR0
  refine (of_any hK T3.rt (by omega)).mono ?_
  rintro e w4 ⟨vo, vn, vc, rfl, hV, k4, sV, lV⟩
  refine ⟨_, rfl, ?_⟩
  have hW4 := hW3.later k4
  have T4 := T3.call k4
  have B4 := B3.call k4
  have R4 := R3.call k4
  have V4 : Hd [⟨w.heap.size, K.a.toList, true⟩] w4 (.slice vo vn vc) d.tags := ⟨hV, lV, Ap.fresh hW3 sV⟩
  have eH : ({ K with tags := .slice vo vn vc } : Fr) = fiCells d vo vn vc xo xn xc yo yn yc := by subst hK; rfl
  rw [eH]
  obtain ⟨H, hH⟩ : ∃ H, fiCells d vo vn vc xo xn xc yo yn yc = H := ⟨_, rfl⟩
  rw [hH]
  refine go_call_is (gt := fun _ => Option.none) (unroll := false) 60 [] 15 [.agg K.a] [1, 2, 3] [pT w.heap.size, .bool false, pT w4.heap.size] 20 ([⟨w.heap.size, K.a.toList, true⟩] ++ [⟨w4.heap.size, H.a.toList, true⟩]) [(1, 0), (3, 1)] (inR epC 3 1) [] [] hW4 (by subst hK hH; kernel_rfl) trivial trivial ?_
  intro w5 hW5 hS5
  have hm5 : ∀ r ∈ ([⟨w4.heap.size, H.a.toList, true⟩] : List RowS), w4.heap.size ≤ r.b := fun r hr => by obtain rfl := List.mem_singleton.1 hr; exact Nat.le_refl _
  have T5 := T4.pass _ hS5 hm5
  have B5 := B4.pass _ hS5 hm5
  have R5 := R4.pass _ hS5 hm5
  have V5 := V4.pass _ hS5 hm5
  refine (put_any hK T5.rt B5.rd R5.rd (by omega) (by omega) (by omega) (hk.keep0 hW5.keep) (hs.keep0 hW5.keep)).mono ?_
  rintro e w6 ⟨va, rfl, k6, fa⟩
  refine ⟨_, rfl, ?_⟩
  have hW6 := hW5.later k6
  have B6 := B5.call k6
  have R6 := R5.call k6
  have V6 := V5.call k6
  have A6 := fb_hd fa hW5
  refine go_call_is (gt := fun _ => Option.none) (unroll := false) 60 [] 16 [.agg H.a] [1, 2, 3, 4, 5] [pT w.heap.size, .bool false, pT w4.heap.size, va, .int .i64 ((putR d).2 : Nat)] 25 ([⟨w.heap.size, K.a.toList, true⟩] ++ [⟨w4.heap.size, H.a.toList, true⟩]) [(1, 0), (3, 1)] (inR epC 4 1) [] [] hW6 (by subst hK hH; kernel_rfl) trivial trivial ?_
  intro w7 hW7 hS7
  have B7 := B6.pass0 hS7
  have R7 := R6.pass0 hS7
  have V7 := V6.pass0 hS7
  have A7 := A6.pass0 hS7
  refine (rput_any hH V7.rt B7.rd R7.rd (by omega) (by omega) (by omega)).mono ?_
  rintro e w8 ⟨vb, rfl, k8, fb⟩
  refine ⟨_, rfl, ?_⟩
  have hW8 := hW7.later k8
  have B8 := B7.call k8
  have A8 := A7.call k8
  have C8 := fb_hd fb hW7
  refine go_call_is (gt := fun _ => Option.none) (unroll := false) 60 [] 17 [.agg K.a] [1, 2, 3, 4, 5, 6, 7] [pT w.heap.size, .bool false, pT w4.heap.size, va, .int .i64 ((putR d).2 : Nat), vb, .int .i64 ((putR d).2 : Nat)] 30 ([⟨w.heap.size, K.a.toList, true⟩] ++ [⟨w4.heap.size, H.a.toList, true⟩]) [(1, 0), (3, 1)] (inR epC 5 1) [] [] hW8 (by subst hK hH; kernel_rfl) trivial trivial ?_
  intro w9 hW9 hS9
  have B9 := B8.pass0 hS9
  have A9 := A8.pass0 hS9
  have C9 := C8.pass0 hS9
  refine (proto_f hK B9.rd (by omega)).mono ?_
  rintro e wa ⟨vd, rfl, ka, fd⟩
  refine ⟨_, rfl, ?_⟩
  have hWa := hW9.later ka
  have Ba := B9.call ka
  have Aa := A9.call ka
  have Ca := C9.call ka
  have Da := fb_hd fd hW9
  refine go_call_is (gt := fun _ => Option.none) (unroll := false) 60 [] 18 [.agg H.a] [2, 4, 5, 6, 7, 8, 9, 10] [.bool false, va, .int .i64 ((putR d).2 : Nat), vb, .int .i64 ((putR d).2 : Nat), .int .i64 (if pOk d then d.typ else 0), vd, .bool (pOk d)] 36 ([⟨w.heap.size, K.a.toList, true⟩] ++ [⟨w4.heap.size, H.a.toList, true⟩]) [] (inR epC 6 1) [] [] hWa (by subst hK hH; kernel_rfl) trivial trivial ?_
  intro wb hWb hSb
  have Bb := Ba.pass0 hSb
  have Ab := Aa.pass0 hSb
  have Cb := Ca.pass0 hSb
  have Db := Da.pass0 hSb
  refine (rproto_f hH).mono ?_
  rintro e wc ⟨rfl, kc⟩
  refine ⟨_, rfl, ?_⟩
  have hWc := hWb.later kc
  have Ac := Ab.call kc
  have Cc := Cb.call kc
  have Dc := Db.call kc
  have Ec : HdB ([⟨w.heap.size, K.a.toList, true⟩] ++ [⟨w4.heap.size, H.a.toList, true⟩]) wc (if pOk d then .slice xo xn xc else nilV) (if pOk d then d.body else []) := by
    cases pOk d with
    | true => exact Bb.call kc
    | false => exact ⟨Rd.nil _, nilV_under _, fun b hb => by simp [nilV, Value.ownBlock] at hb⟩
  generalize (if pOk d then Value.slice xo xn xc else nilV) = vp at *
  generalize (if pOk d then d.body else []) = bp at *
  generalize (if pOk d then d.typ else 0) = tp at *
  have key : ∀ {v : Value} {l : List UInt8}, HdB ([⟨w.heap.size, K.a.toList, true⟩] ++ [⟨w4.heap.size, H.a.toList, true⟩]) wc v l → ∀ wx : World, (∀ k, Safe ⟨[⟨w.heap.size, K.a.toList, true⟩] ++ [⟨w4.heap.size, H.a.toList, true⟩], wc.heap.size⟩ k → wx.heap[k]? = wc.heap[k]?) → Rd wx v l := fun h wx hx => h.rd.safe (fun b hb => ⟨h.lt b hb, fun r hr _ => h.ap b hb r hr⟩) hx
  refine go_call_is (gt := fun _ => Option.none) (unroll := false) 100 [(7, 1, .sem (.string (str (putR d).1))), (7, 3, .sem (.string (str (putR d).1))), (7, 4, .sem (.bool true)), (7, 8, .is (.bool true)), (7, 13, .is (.bool true)), (7, 17, .sem (.string (str bp))), (7, 19, .sem (.string (str bp))), (7, 20, .sem (.bool true)), (7, 25, .is (.bool true))] 19 [] [67] [.bool true] 68 ([⟨w.heap.size, K.a.toList, true⟩] ++ [⟨w4.heap.size, H.a.toList, true⟩]) [] (inR epC 7 28)
    [(.bool ((((putR d).2 : Nat) : Int) == (((putR d).2 : Nat) : Int)), .bool true), (.bool (tp == tp), .bool true), (.bool (pOk d == pOk d), .bool true)]
    [(convert 26 9 va, .string (str (putR d).1)), (convert 26 9 vb, .string (str (putR d).1)), ((do eqGuard .eql 9 (.tmp 41) (.tmp 43) (.string (str (putR d).1)) (.string (str (putR d).1)); binOp .eql 9 (.string (str (putR d).1)) (.string (str (putR d).1)) : Sem Value), .bool true), (convert 26 9 vd, .string (str bp)), (convert 26 9 vp, .string (str bp)), ((do eqGuard .eql 9 (.tmp 57) (.tmp 59) (.string (str bp)) (.string (str bp)); binOp .eql 9 (.string (str bp)) (.string (str bp)) : Sem Value), .bool true)]
    hWc (by kernel_rfl) ⟨congrArg Value.bool (by simp), congrArg Value.bool (by simp), congrArg Value.bool (by simp), trivial⟩
    ⟨fun wx hx => sem_str (key Ac wx hx), fun wx hx => sem_str (key Cc wx hx), fun wx _ => beq_str wx _ _ _, fun wx hx => sem_str (key Dc wx hx), fun wx hx => sem_str (key Ec wx hx), fun wx _ => beq_str wx _ _ _, trivial⟩ ?_
  intro wd hWd _
  refine (tells_any (hk.keep0 hWd.keep) (hs.keep0 hWd.keep)).mono ?_
  rintro e we ⟨rfl, ke⟩
  refine ⟨_, rfl, ?_⟩
  have hWe := hWd.later ke
  exact go_ret (gt := fun _ => Option.none) (unroll := false) 60 [] [.tmp 2] (.bool true) [] [] hWe Tryd.results3 (by kernel_rfl) trivial trivial (fun w9 hW9 _ => ⟨rfl, hW9.keep⟩)
end
end Go.Proofs.YtcimfojbggckhaaDoor
namespace Go.Proofs.YtcimfojbggckhaaDoor
open Go.RowKit

section
variable {P : Program} {W0 : World} {Q : Exit → Act → World → Prop} {n : Nat} {gt : Nat → Option Nat} {unroll : Bool}
/-- Is the walk at a store? Where to, what, of which type? -/
def atStore (n : Nat) (c : Cfg) : Option (Value × Value × TypeId) :=
  match c.todo with
  | .ops ops (o :: _) _ _ :: _ => match wantV ops c.fr o with
    | some true => if allV c.fr o && dstOk n o then match o.op, o.dst with
        | .store e x y, none => some (rho c.fr x, rho c.fr y, e)
        | _, _ => none
      else none
    | _ => none
  | _ => none
def stRest (c : Cfg) : Option (List K) := match c.todo with | .ops ops (_ :: l) i id :: k => some (.ops ops l (i + 1) id :: k) | _ => none
theorem st_ok {c : Cfg} {w : World} {a v : Value} {e : TypeId} {T : List K} (ha : atStore n c = some (a, v, e)) (hT : stRest c = some T) {w' : World} (hr : (Instr.storeAt e a v).run P w = .ok () w')
    (hg : Goal P Q n ⟨c.fr, c.tags, ⟨c.m.rows, w'.heap.size⟩, T⟩ w') : Goal P Q n c w := by
  obtain ⟨fr, tags, m, todo⟩ := c
  unfold atStore at ha
  unfold stRest at hT
  simp only at ha hT hg
  match todo, ha, hT with
  | .ops ops (o :: l) i id :: k, ha, hT =>
    simp only at ha hT
    cases hT
    split at ha
    case h_2 => cases ha
    rename_i hw
    split at ha
    case isFalse => cases ha
    rename_i hall
    simp only [Bool.and_eq_true] at hall
    split at ha
    case h_2 => cases ha
    rename_i e' x y hop hdst
    cases ha
    intro act hd hn hact
    show wpList P ops (KX P Q k) (o :: l) act w
    have hsel : ∀ cs b, o.op ≠ .select cs b := fun cs b e => by rw [hop] at e; cases e
    unfold wpList
    rw [wantV_wanted hact hw, if_pos rfl]
    refine .inl ?_
    unfold Oper.wp
    rw [execOp_congr o hsel (fun x hx => rho_eval hact hall.1 hx)]
    have hx : (execOp (fun x => rho fr x) o).run P w = .ok .skip w' := by
      unfold execOp
      simp only [hop, Sem.run_bind, Sem.run_pure, hr, Result.andThen_ok]
    rw [hx]
    show wpList P ops (KX P Q k) l (act.put o.dst undef) w'
    rw [hdst]
    exact hg act hd hn hact
/-- Run to a store; what it comes to is owed. -/
theorem go_stX (fuel : Nat) (hs : List (Nat × Nat × HintS)) (a v : Value) (e : TypeId) (ts : List Tmp) (vs : List Value) (rows : List RowS) (tg : List (Nat × Nat)) (T : List K) (eqs : List (Value × Value)) (sems : List (Sem Value × Value)) {c : Cfg} {w : World}
    (hW : Wst W0 c.m w)
    (he : ((atStore n (run P n gt unroll hs fuel c).1, ts.map (run P n gt unroll hs fuel c).1.fr, (run P n gt unroll hs fuel c).1.m.rows, stRest (run P n gt unroll hs fuel c).1, (run P n gt unroll hs fuel c).2.eqs, (run P n gt unroll hs fuel c).2.sems), (run P n gt unroll hs fuel c).2.blks.map (·.1)) =
      ((some (a, v, e), vs.map some, rows, some T, eqs, sems), (run P n gt unroll hs fuel c).2.blks.map (·.2)))
    (h1 : Eqs eqs) (h2 : SemObs P c.m w sems)
    (hk : ∀ w', Wst W0 ⟨rows, w'.heap.size⟩ w' → Seg c.m w ⟨rows, w'.heap.size⟩ w' → ∃ w2, (Instr.storeAt e a v).run P w' = .ok () w2 ∧ Goal P Q n ⟨frOf ts vs, tagL tg, ⟨rows, w2.heap.size⟩, T⟩ w2) : Goal P Q n c w := by
  simp only [Prod.mk.injEq] at he
  obtain ⟨⟨e1, e0, er, ed, e2, e3⟩, e4⟩ := he
  refine run_ok fuel hW (Seg.refl _ _) ⟨?_, all_of_maps e4, ?_⟩ fun w' hW' hS' => ?_
  · rw [e2]; exact h1.mem
  · rw [e3]; exact h2.mem
  · have em : (run P n gt unroll hs fuel c).1.m = ⟨rows, w'.heap.size⟩ := by rw [← er, hW'.size]
    rw [em] at hW' hS'
    obtain ⟨w2, hr, hg⟩ := hk w' hW' hS'
    refine st_ok e1 ed hr ?_
    intro act hd hn hact
    exact hg act hd hn (frOf_of hact e0)
end
section
variable {w : World} {v : Value} {bs : List UInt8}
/-- A byte of own bytes is written. -/
theorem Own.sem_st (h : Own 5 w v bs) {i : Nat} (hi : i < bs.length) (x : UInt8) : (Instr.storeAt 5 (.pointer (some (adr v i))) (bv x)).run Tryd.prog w = .ok () (w.setCell (adr v i) (bv x)) := by
  have hc := h.rd.cell i hi
  have hf := h.free hi
  simp only [adr] at hc hf ⊢
  simp [Instr.storeAt, Instr.sureAddr, storeVar, bv, Value.cells, storeCells, Addr.add, store, Sem.run, hc, hf, size_of bsize]
theorem Keep.own {W : World} {i : Nat} {u : Value} (hb : ∀ b, v.ownBlock = some b → W.heap.size ≤ b) (hv : v.ownBlock = some (blk v)) (h : Keep No W w) : Keep No W (w.setCell (adr v i) u) :=
  h.setCell (p := adr v i) (fun hlt => absurd hlt (Nat.not_lt.2 (hb _ hv))) u
end
end Go.Proofs.YtcimfojbggckhaaDoor
namespace Go.Proofs.YtcimfojbggckhaaDoor
open Go.RowKit

noncomputable abbrev trC : Code := bodyOf Tryd.f7
theorem Rd.pass {w w' : World} {v : Value} {bs : List UInt8} {rows : List RowS} {m' : Mem} (h : Rd w v bs) (hlt : Under w.heap.size v) (hap : ∀ b, v.ownBlock = some b → ∀ r ∈ rows, r.b ≠ b) (hS : Seg ⟨rows, w.heap.size⟩ w m' w') (hW : ∃ W0, Wst W0 m' w') : Rd w' v bs ∧ Under w'.heap.size v := by
  obtain ⟨W0, hW⟩ := hW
  exact ⟨h.safe (fun b hb => ⟨hlt b hb, fun r hr _ => hap b hb r hr⟩) hS.same, fun b hb => by rw [hW.size]; exact Nat.lt_of_lt_of_le (hlt b hb) hS.le⟩
theorem readT_len : ∀ (f : Nat) (l : List Tg) (b : List UInt8), l.length ≤ 2 → (readT f l b).1.length ≤ 2
  | 0, _, _, h => h
  | f + 1, l, b, h => by
    rw [readT]
    split
    · rename_i hb
      split
      · simp
      · refine readT_len f _ _ ?_
        simp only [begB, Bool.and_eq_true, decide_eq_true_eq] at hb
        simp
        omega
    · exact h
theorem tagreads_walk {w : World} {v : Value} {bs : List UInt8} (r : Rd w v bs) (hk : Kh w) : Calls Tryd.prog 7 #[v] w fun x w' => x = .returned (.bool true) ∧ Keep No w w' := by
  have hm := mn_le_left bs.length 100
  refine enter (args := [v]) Tryd.func7 (by kernel_rfl) ?_
  refine go_call_is (gt := fun _ => Option.none) (unroll := false) 60 [(1, 2, .sem (.int .i64 (bs.length : Int))), (1, 3, .sem (.int .i64 (mn bs.length 100 : Nat))), (1, 4, .sem (cutv v 0 (mn bs.length 100)))]
    32 [cutv v 0 (mn bs.length 100)] [0] [cutv v 0 (mn bs.length 100)] 16 [] [] (inR trC 2 1) []
    [(Builtin.len_ #[26] 3 #[v], .int .i64 (bs.length : Int)), (Builtin.min_ #[3, 3] 3 #[.int .i64 (bs.length : Int), .int .i64 100], .int .i64 (mn bs.length 100 : Nat)), (Instr.sliceAt 26 v Option.none (some (.int .i64 (mn bs.length 100 : Nat))) Option.none, cutv v 0 (mn bs.length 100))]
    (Wst.start0 w) (by kernel_rfl) trivial ⟨fun wx _ => r.run_len (ty := 3) bt.sl, fun wx _ => run_mn #[3, 3] 3 bs.length 100, fun wx _ => r.sem_cutH hm wx, trivial⟩ ?_
  intro w1 hW1 _
  have hlen : ((bs.drop 0).take (mn bs.length 100 - 0)).length ≤ 1099511627776 := by have := mn_le_right bs.length 100; simp; omega
  have ru := r.cut (l := 0) (h := mn bs.length 100) (Nat.zero_le _) hm
  generalize (bs.drop 0).take (mn bs.length 100 - 0) = cs at *
  generalize cutv v 0 (mn bs.length 100) = u at *
  have hL := readT_len 3 [] cs (by simp)
  refine (read_any (ru.keep0 hW1.keep) hlen (hk.keep0 hW1.keep)).mono ?_
  rintro x w2 ⟨vl, ur, rfl, rr⟩
  refine ⟨_, rfl, ?_⟩
  have hW2 := hW1.later rr.keep
  refine go_call_is (gt := fun _ => Option.none) (unroll := false) 60 [] 35 [u] [3, 4, 5] [vl, ur, .int .i64 ((readT 3 [] cs).2.2 : Nat)] 22 [] [] (inR trC 3 1) [] [] hW2 (by kernel_rfl) trivial trivial ?_
  intro w3 hW3 hS3
  obtain ⟨rt3, lv3⟩ := rr.rt.pass (rows := []) rr.lv (fun _ _ _ h => nomatch h) hS3 hW3
  obtain ⟨rd3, lu3⟩ := rr.rd.pass (rows := []) rr.lu (fun _ _ _ h => nomatch h) hS3 ⟨_, hW3⟩
  refine (refread_any (ru.keep0 hW3.keep) hlen).mono ?_
  rintro x w4 ⟨vm, um, rfl, qq⟩
  refine ⟨_, rfl, ?_⟩
  have hW4 := hW3.later qq.keep
  have rt4 := rt3.keep0 qq.keep
  have rd4 := rd3.keep0 qq.keep
  have lv4 := lv3.mono qq.keep.size
  have lu4 := lu3.mono qq.keep.size
  refine go_call_is (gt := fun _ => Option.none) (unroll := false) 60 [] 37 [vl] [4, 5, 6, 7, 8] [ur, .int .i64 ((readT 3 [] cs).2.2 : Nat), vm, um, .int .i64 ((readT 3 [] cs).2.2 : Nat)] 27 [] [] (inR trC 4 1) [] [] hW4 (by kernel_rfl) trivial trivial ?_
  intro w5 hW5 hS5
  obtain ⟨rt5, lv5⟩ := rt4.pass (rows := []) lv4 (fun _ _ _ h => nomatch h) hS5 hW5
  obtain ⟨rd5, lu5⟩ := rd4.pass (rows := []) lu4 (fun _ _ _ h => nomatch h) hS5 ⟨_, hW5⟩
  obtain ⟨qt5, qv5⟩ := qq.rt.pass (rows := []) qq.lv (fun _ _ _ h => nomatch h) hS5 hW5
  have qd : ∀ wx, Keep No w wx → Rd wx um (readT 3 [] cs).2.1 := fun wx k => qq.rd wx (ru.keep0 k)
  refine (lawof_any rt5 (by omega)).mono ?_
  rintro x w6 ⟨vo, rfl, ff⟩
  refine ⟨_, rfl, ?_⟩
  have hW6 := hW5.later ff.keep
  have rd6 := rd5.keep0 ff.keep
  have lu6 := lu5.mono ff.keep.size
  have qt6 := qt5.keep0 ff.keep
  have qv6 := qv5.mono ff.keep.size
  refine go_call_is (gt := fun _ => Option.none) (unroll := false) 60 [] 36 [vo, vm] [4, 5, 7, 8] [ur, .int .i64 ((readT 3 [] cs).2.2 : Nat), um, .int .i64 ((readT 3 [] cs).2.2 : Nat)] 29 [] [] (inR trC 4 3) [] [] hW6 (by kernel_rfl) trivial trivial ?_
  intro w7 hW7 hS7
  obtain ⟨rd7, lu7⟩ := rd6.pass (rows := []) lu6 (fun _ _ _ h => nomatch h) hS7 ⟨_, hW7⟩
  obtain ⟨qt7, _⟩ := qt6.pass (rows := []) qv6 (fun _ _ _ h => nomatch h) hS7 hW7
  obtain ⟨ot7, _⟩ := ff.own.rt.pass (rows := []) ff.own.lt (fun _ _ _ h => nomatch h) hS7 hW7
  refine (req_any ot7 qt7).mono ?_
  rintro x w8 ⟨rfl, k8⟩
  refine ⟨_, rfl, ?_⟩
  have hW8 := hW7.later k8
  have rd8 := rd7.keep0 k8
  have lu8 := lu7.mono k8.size
  refine go_call_is (gt := fun _ => Option.none) (unroll := false) 60 [] 33 [ur, um] [5, 8, 30] [.int .i64 ((readT 3 [] cs).2.2 : Nat), .int .i64 ((readT 3 [] cs).2.2 : Nat), .bool true] 33 [] [] (inR trC 4 7) [] [] hW8 (by kernel_rfl) trivial trivial ?_
  intro w9 hW9 hS9
  obtain ⟨rd9, _⟩ := rd8.pass (rows := []) lu8 (fun _ _ _ h => nomatch h) hS9 ⟨_, hW9⟩
  refine (bequal_any rd9 (qd w9 hW9.keep)).mono ?_
  rintro x wa ⟨rfl, rfl⟩
  refine ⟨_, rfl, ?_⟩
  simp only [BEq.rfl]
  refine go_call_is (gt := fun _ => Option.none) (unroll := false) 60 [(4, 12, .is (.bool true))] 34 [] [40] [.bool true] 41 [] [] (inR trC 4 15) [(.bool ((((readT 3 [] cs).2.2 : Nat) : Int) == (((readT 3 [] cs).2.2 : Nat) : Int)), .bool true)] [] hW9 (by kernel_rfl) ⟨congrArg Value.bool (by simp), trivial⟩ trivial ?_
  intro wb hWb _
  refine (wakes3_any wb (hk.keep0 hWb.keep)).mono ?_
  rintro x wc ⟨rfl, kc⟩
  refine ⟨_, rfl, ?_⟩
  exact go_ret (gt := fun _ => Option.none) (unroll := false) 60 [] [.tmp 2] (.bool true) [] [] (hWb.later kc) Tryd.results7 (by kernel_rfl) trivial trivial (fun w9 hW9 _ => ⟨rfl, hW9.keep⟩)
end Go.Proofs.YtcimfojbggckhaaDoor
namespace Go.Proofs.YtcimfojbggckhaaDoor
open Go.RowKit

/-- A byte turned over. -/
def xb (x : UInt8) : Int := IntKind.u8.wrap ((BitVec.ofInt 8 ((x.toNat : Nat) : Int) ^^^ BitVec.ofInt 8 255).toNat : Int)
theorem xb_byte (x : UInt8) : ∃ y : UInt8, Value.int .u8 (xb x) = bv y := by
  refine ⟨UInt8.ofNat (BitVec.ofInt 8 ((x.toNat : Nat) : Int) ^^^ BitVec.ofInt 8 255).toNat, ?_⟩
  have h : (BitVec.ofInt 8 ((x.toNat : Nat) : Int) ^^^ BitVec.ofInt 8 255).toNat < 256 := BitVec.isLt _
  unfold xb bv
  rw [IntWalk.u8_in _ (by omega), UInt8.toNat_ofNat_of_lt' (by simpa using h)]
theorem HdF.keepS {rows : List RowS} {w w' : World} {f : Fr} {c : Fi} {S : Nat → Prop} (h : HdF rows w f c) (k : Keep S w w') (ht : ∀ b, f.tags.ownBlock = some b → ¬ S b) (hb : ∀ b, f.body.ownBlock = some b → ¬ S b) (hr : ∀ b, f.rest.ownBlock = some b → ¬ S b) : HdF rows w' f c :=
  ⟨h.cells, ⟨h.t.rt.keep k ht, h.t.lt.mono k.size, h.t.ap⟩, ⟨h.b.rd.keep k hb, h.b.lt.mono k.size, h.b.ap⟩, ⟨h.r.rd.keep k hr, h.r.lt.mono k.size, h.r.ap⟩⟩
noncomputable abbrev egC : Code := bodyOf Tryd.f5
noncomputable abbrev egN : Nat := Tryd.f5.ntmps
abbrev egRow (p : Nat) (f : Fr) : List RowS := [⟨p, f.a.toList, true⟩]
structure EgJ (w : World) (p : Nat) (f : Fr) (c : Fi) (vo vu : Value) (rs : List UInt8) (m : Nat) (i : Nat × List UInt8) (w' : World) : Prop where
  le : i.1 ≤ m
  W : Wst w ⟨egRow p f, w'.heap.size⟩ w'
  own : Own 5 w' vo i.2
  len : i.2.length = m
  fr : HdF (egRow p f) w' f c
  rd : HdB (egRow p f) w' vu rs
noncomputable def egL (p : Nat) (f : Fr) (v0 vo vu : Value) (e m : Nat) (i : Nat × List UInt8) (w' : World) : Cfg := ⟨frOf [0, 2, 3, 4, 5, 6, 7, 8] [v0, .bool false, vo, pT p, .int .i64 (e : Int), vu, .int .i64 (e : Int), .int .i64 ((m - i.1 : Nat) : Int)], tagL [(4, 0)], ⟨egRow p f, w'.heap.size⟩, atL egC 6⟩
noncomputable def egR (w : World) (p : Nat) (f : Fr) (c : Fi) (v0 vo vu : Value) (rs : List UInt8) (e m : Nat) (i : Nat × List UInt8) : Act → World → Prop := fun a' w' => ∃ k : Nat × List UInt8, k.1 < i.1 ∧ EgJ w p f c vo vu rs m k w' ∧ agrees egN (egL p f v0 vo vu e m k w') a'
section
variable {w : World} {p B e m : Nat} {f : Fr} {c : Fi} {v0 vo vu : Value} {rs : List UInt8}
theorem eg_round (hvo : ∀ b, vo.ownBlock = some b → w.heap.size ≤ b ∧ b < B) (hp : B ≤ p) (ht : Since B f.tags) (hb : Since B f.body) (hr : Since B f.rest) (hu : Since B vu) (hm : m ≤ 1000000) (i : Nat × List UInt8) (w' : World) (hJ : EgJ w p f c vo vu rs m i w') (j : Nat) (hj : i.1 = j + 1) :
    Goal Tryd.prog (bodyPost Tryd.prog Tryd.f5 (esQ w)) egN { egL p f v0 vo vu e m i w' with todo := .code (loopOf (atL egC 6)) :: .inv (egR w p f c v0 vo vu rs e m i) :: (atL egC 6).tail } w' := by
  obtain ⟨hle, hW, ho, hlen, hfr, hrd⟩ := hJ
  unfold egL
  rw [hj] at hle ⊢
  have hi : m - (j + 1) < m := by omega
  have hnext : m - (j + 1) + 1 = m - j := by omega
  generalize hI : m - (j + 1) = k at *
  have hc : (k : Int) < (m : Int) := by omega
  have hkl : k < i.2.length := by omega
  have hvb := ho.rd.block_eq hkl
  have hvb2 := hvo _ hvb
  obtain ⟨y, hy⟩ := xb_byte (byteAt i.2 k)
  have hap : ∀ b, vo.ownBlock = some b → ∀ r ∈ egRow p f, r.b ≠ b := fun b hb r hr => by
    obtain rfl := List.mem_singleton.1 hr
    have := hvo b hb
    show p ≠ b; omega
  have hsafe : ∀ b, vo.ownBlock = some b → Safe ⟨egRow p f, w'.heap.size⟩ b := fun b hb => ⟨ho.lt b hb, fun r hr _ => hap b hb r hr⟩
  refine go_stX (gt := fun _ => Option.none) (unroll := false) 60 [(6, 2, .sem (.int .i64 (m : Int))), (6, 3, .is (.bool true)), (8, 2, .sem (.pointer (some (adr vo k)))), (8, 3, .sem (bv (byteAt i.2 k))), (8, 4, .is (bv y)), (8, 5, .sem (.pointer (some (adr vo k)))), (8, 6, .stop)] (.pointer (some (adr vo k))) (bv y) 5 [0, 2, 3, 4, 5, 6, 7, 8] [v0, .bool false, vo, pT p, .int .i64 (e : Int), vu, .int .i64 (e : Int), .int .i64 (k : Int)] (egRow p f) [(4, 0)] (inR egC 8 6 (.inv (egR w p f c v0 vo vu rs e m i)))
    [(.bool (decide ((k : Int) < (m : Int))), .bool true), (.int .u8 (xb (byteAt i.2 k)), bv y)] [(Builtin.len_ #[26] 3 #[vo], .int .i64 (m : Int)), (Instr.indexAt 26 vo (.int .i64 (k : Int)), .pointer (some (adr vo k))), (Instr.loadAt 5 (.pointer (some (adr vo k))), bv (byteAt i.2 k)), (Instr.indexAt 26 vo (.int .i64 (k : Int)), .pointer (some (adr vo k)))]
    hW (by kernel_rfl) ⟨congrArg Value.bool (by simpa using hc), hy, trivial⟩ ⟨fun wx _ => by rw [← hlen]; exact ho.rd.run_len (ty := 3) bt.sl, fun wx _ => ho.rd.sem_at hkl wx, fun wx hx => (ho.rd.safe hsafe hx).sem_ld hkl, fun wx _ => ho.rd.sem_at hkl wx, trivial⟩ ?_
  intro w1 hW1 hS1
  have ho1 := ho.same fun b hb => hS1.same b (hsafe b hb)
  have hfr1 := hfr.pass0 hS1
  have hrd1 := hrd.pass0 hS1
  refine ⟨_, ho1.sem_st hkl y, ?_⟩
  have k2 : Keep (One (blk vo)) w1 (w1.setCell (adr vo k) (bv y)) := (Keep.refl (One (blk vo)) w1).setCell (p := adr vo k) (fun _ => rfl) _
  have ho2 := ho1.set hkl y
  have ne : ∀ {z : Value}, Since B z → ∀ b, z.ownBlock = some b → ¬ One (blk vo) b := fun hz b hb e => by have := hz b hb; have e : b = blk vo := e; omega
  have hfr2 := hfr1.keepS k2 (ne ht) (ne hb) (ne hr)
  have hrd2 : HdB (egRow p f) (w1.setCell (adr vo k) (bv y)) vu rs := ⟨hrd1.rd.keep k2 (ne hu), hrd1.lt.mono k2.size, hrd1.ap⟩
  have hW2 := hW1.laterS k2 (fun q hq => ⟨by rw [show q = blk vo from hq]; exact hvb2.1, fun r hr => by obtain rfl := List.mem_singleton.1 hr; rw [show q = blk vo from hq]; show p ≠ blk vo; omega⟩)
  generalize w1.setCell (adr vo k) (bv y) = w2 at *
  refine go_inv (gt := fun _ => Option.none) (unroll := false) 60 [(7, 1, .is (.int .i64 ((k + 1 : Nat) : Int)))] [0, 2, 3, 4, 5, 6, 7, 8] [v0, .bool false, vo, pT p, .int .i64 (e : Int), vu, .int .i64 (e : Int), .int .i64 ((k + 1 : Nat) : Int)] (egRow p f) (egR w p f c v0 vo vu rs e m i) [(.int .i64 (IntKind.i64.wrap ((k : Int) + 1)), .int .i64 ((k + 1 : Nat) : Int))] [] hW2 (by kernel_rfl)
    ⟨congrArg (Value.int .i64) (by rw [IntWalk.i64_in _ (by omega)]; omega), trivial⟩ trivial ?_
  intro w5 act hW5 hS5 hs
  have hsafe2 : ∀ b, vo.ownBlock = some b → Safe ⟨egRow p f, w2.heap.size⟩ b := fun b hb => ⟨ho2.lt b hb, fun r hr _ => hap b hb r hr⟩
  refine ⟨(j, i.2.set k y), by rw [hj]; exact Nat.lt_succ_self j, ⟨by show j ≤ m; omega, hW5, ho2.same fun b hb => hS5.same b (hsafe2 b hb), by simp [hlen], hfr2.pass0 hS5, hrd2.pass0 hS5⟩, ?_⟩
  unfold egL
  simp only
  rw [← hnext]
  exact hs
end
theorem frame_tags (cs : List UInt8) : (frameR cs).1.tags.length ≤ (readT 3 [] (cs.drop 12)).1.length := by
  unfold frameR
  split
  · simp [fc0]
  split
  · simp [fc0]
  rcases readT 3 [] (cs.drop 12) with ⟨l, rr, e⟩
  simp only
  split
  · simp [fc0]
  split
  · simp [fc0]
  split
  · simp [fc0]
  · exact Nat.le_refl _
theorem bin_str (w : World) (a : List UInt8) : (binOp .eql 9 (.string (str a)) (.string (str a)) : Sem Value).run Tryd.prog w = .ok (.bool true) w := by
  simp [binOp, Op.stringOp]
section
variable {w : World}
/-- What is told at the end. -/
theorem eg_fin {p q e : Nat} {vu vr : Value} {c : Fi} {rs : List UInt8} {f G : Fr} {d s ll oo d' s' ll' oo' : List UInt8} {to bo ro uo xo yo : Option Addr} {tn tc bn' bc rn rc un uc xn xc yn yc : Nat} {k t k' t' : Int} (hF : (⟨d, s, .slice to tn tc, k, t, ll, oo, .slice bo bn' bc, .slice ro rn rc⟩ : Fr) = f) (hG : (⟨d', s', .slice uo un uc, k', t', ll', oo', .slice xo xn xc, .slice yo yn yc⟩ : Fr) = G)
    (hk : Kh w) (hs : Sh w) (w1 : World) (hW : Wst w ⟨[⟨p, f.a.toList, true⟩, ⟨q, G.a.toList, true⟩], w1.heap.size⟩ w1) (v1 : FrV w1 (.agg f.a) c) (v2 : FrV w1 (.agg G.a) c) (hn : c.tags.length ≤ 1000000) (r1 : Rd w1 vu rs) (r2 : Rd w1 vr rs) :
    Goal Tryd.prog (bodyPost Tryd.prog Tryd.f5 (esQ w)) egN ⟨frOf [4, 5, 6, 7, 9, 10, 11] [pT p, .int .i64 (e : Int), vu, .int .i64 (e : Int), pT q, .int .i64 (e : Int), vr], tagL [(4, 0), (9, 1)], ⟨[⟨p, f.a.toList, true⟩, ⟨q, G.a.toList, true⟩], w1.heap.size⟩, atR egC 13⟩ w1 := by
  have hk1 := hk.keep0 hW.keep
  have hs1 := hs.keep0 hW.keep
  refine drawn_ok (gt := fun _ => Option.none) [(1, .call (fvS c)), (3, .call (.is (.bool true))), (7, .is (.bool true)), (12, .is (.bool true)), (16, .sem (.string (str rs))), (18, .sem (.string (str rs))), (19, .bin (.bool true)), (22, .call (.is (.bool true)))]
    [2] [.is (.bool true)] [(.bool ((e : Int) == (e : Int)), .bool true), (.bool ((e : Int) == (e : Int)), .bool true)] [(14, [.is (.agg f.a)], fvS c), (24, [fvS c, .is (.agg G.a)], .is (.bool true)), (19, [], .is (.bool true))]
    [(.eql, 9, .string (str rs), .string (str rs), .bool true)] [] [(convert 26 9 vu, .string (str rs)), (convert 26 9 vr, .string (str rs))]
    hW (by subst hF hG; kernel_rfl) (by subst hF hG; kernel_rfl) ⟨congrArg Value.bool (by simp), congrArg Value.bool (by simp), trivial⟩ ⟨vof_obI v1 hn, vsame_obI v2 hn, tells_ob hk1 hs1, trivial⟩ ⟨fun wx _ => bin_str wx rs, trivial⟩ trivial ⟨fun wx kx => sem_str (r1.keep0 kx), fun wx kx => sem_str (r2.keep0 kx), trivial⟩ ?_
  intro w2 vs k2 hok
  obtain rfl := allOk_is (vs := [.bool true]) hok
  have hW2 := hW.later k2
  exact go_ret (gt := fun _ => Option.none) (unroll := false) 60 [] [.tmp 2] (.bool true) [] [] hW2 Tryd.results5 (by kernel_rfl) trivial trivial (fun w9 hW9 _ => ⟨rfl, hW9.keep⟩)
theorem ethergets_walk {v : Value} {bs : List UInt8} (r : Rd w v bs) (hk : Kh w) (hs : Sh w) : Calls Tryd.prog 5 #[v] w (esQ w) := by
  have hm := mn_le_left bs.length 2000
  refine enter (args := [v]) Tryd.func5 (by kernel_rfl) ?_
  refine go_appB (gt := fun _ => Option.none) (unroll := false) 60 [(1, 2, .sem (.int .i64 (bs.length : Int))), (1, 3, .sem (.int .i64 (mn bs.length 2000 : Nat))), (1, 4, .sem (cutv v 0 (mn bs.length 2000))), (2, 1, .stop)] nilV (cutv v 0 (mn bs.length 2000)) 26 5 [0, 2] [cutv v 0 (mn bs.length 2000), .bool false] 18 [] [] (inR egC 2 1) []
    [(Builtin.len_ #[26] 3 #[v], .int .i64 (bs.length : Int)), (Builtin.min_ #[3, 3] 3 #[.int .i64 (bs.length : Int), .int .i64 2000], .int .i64 (mn bs.length 2000 : Nat)), (Instr.sliceAt 26 v Option.none (some (.int .i64 (mn bs.length 2000 : Nat))) Option.none, cutv v 0 (mn bs.length 2000))] bt
    (Wst.start0 w) (by kernel_rfl) trivial ⟨fun wx _ => r.run_len (ty := 3) bt.sl, fun wx _ => run_mn #[3, 3] 3 bs.length 2000, fun wx _ => r.sem_cutH hm wx, trivial⟩ ?_
  intro w1 hW1 _
  have hcl : ((bs.drop 0).take (mn bs.length 2000 - 0)).length ≤ 2000 := by have := mn_le_right bs.length 2000; simp; omega
  have ru := r.cut (l := 0) (h := mn bs.length 2000) (Nat.zero_le _) hm
  generalize (bs.drop 0).take (mn bs.length 2000 - 0) = cs at *
  generalize cutv v 0 (mn bs.length 2000) = u at *
  refine ⟨[], cs, Own.nil _ _, ru.keep0 hW1.keep, by simp; omega, ?_⟩
  intro vo w2 ho kk hblk
  rw [List.nil_append] at ho
  have k12 : Keep No w1 w2 := kk.mono fun q _ h => by simp [nilV, Value.ownBlock] at h
  have hW2 := hW1.later k12
  have hob : ∀ b, vo.ownBlock = some b → b = w1.heap.size := fun b hb => by
    rcases hblk with h | h <;> rw [h] at hb
    · simp [nilV, Value.ownBlock] at hb
    · exact (Option.some.inj hb).symm
  refine go_call_is (gt := fun _ => Option.none) (unroll := false) 60 [] 23 [vo] [0, 2, 3] [u, .bool false, vo] 21 [] [] (inR egC 3 1) [] [] hW2 (by kernel_rfl) trivial trivial ?_
  intro w3 hW3 hS3
  have ho3 := ho.same fun b hb => hS3.same b ⟨ho.lt b hb, fun _ h => nomatch h⟩
  refine (get_any ho3.rd (by omega) (hk.keep0 hW3.keep) (hs.keep0 hW3.keep)).mono ?_
  rintro x w4 ⟨f, rfl, F⟩
  refine ⟨_, rfl, ?_⟩
  have hW4 := hW3.later F.keep
  have hF4 := F.hd hW3
  have st := F.st
  have sb := F.sb
  have sr := F.sr
  have k34 := F.keep
  clear F
  obtain ⟨to, tn, tc, bo, bn', bc, ro, rn, rc, e1, e2, e3⟩ := hF4.forms
  obtain ⟨fd, fs, ft, fk, fty, fl, fo, fb, fr⟩ := f
  simp only at e1 e2 e3
  subst e1 e2 e3
  obtain ⟨f, hf⟩ : ∃ f, (⟨fd, fs, .slice to tn tc, fk, fty, fl, fo, .slice bo bn' bc, .slice ro rn rc⟩ : Fr) = f := ⟨_, rfl⟩
  have hft : f.tags = .slice to tn tc := by rw [← hf]
  have hfb : f.body = .slice bo bn' bc := by rw [← hf]
  have hfr : f.rest = .slice ro rn rc := by rw [← hf]
  simp only at st sb sr
  rw [← hft] at st
  rw [← hfb] at sb
  rw [← hfr] at sr
  rw [hf] at hF4 ⊢
  have ho4 := ho3.keep k34 (fun _ _ h => h)
  refine go_call_is (gt := fun _ => Option.none) (unroll := false) 60 [] 20 [vo] [0, 2, 3, 4, 5] [u, .bool false, vo, pT w4.heap.size, .int .i64 ((frameR cs).2 : Nat)] 26 (egRow w4.heap.size f) [(4, 0)] (inR egC 4 1) [] [] hW4 (by subst hf; kernel_rfl) trivial trivial ?_
  intro w5 hW5 hS5
  have hF5 := hF4.pass (egRow w4.heap.size f) hS5 (fun q hq => by obtain rfl := List.mem_singleton.1 hq; exact Nat.le_refl _)
  have ho5 := ho4.same fun b hb => hS5.same b ⟨ho4.lt b hb, fun _ h => nomatch h⟩
  refine (behind_any ho5.rd (by omega) (hk.keep0 hW5.keep) (hs.keep0 hW5.keep)).mono ?_
  rintro x w6 ⟨vu, rfl, rd6, k6, su6, lu6⟩
  refine ⟨_, rfl, ?_⟩
  have hW6 := hW5.later k6
  have hF6 := hF5.call k6
  have ho6 := ho5.keep k6 (fun _ _ h => h)
  have U6 : HdB (egRow w4.heap.size f) w6 vu (if (frameR cs).2 = 0 then cs.drop 12 else []) := ⟨rd6, lu6, Ap.fresh hW5 su6⟩
  generalize hrs : (if (frameR cs).2 = 0 then cs.drop 12 else []) = rs at *
  have h45 : w4.heap.size < w5.heap.size := by
    obtain ⟨t, ht⟩ := hW5.rows _ (List.mem_singleton.2 rfl)
    exact block_of_row ht
  have h34 := k34.size
  have hvo : ∀ b, vo.ownBlock = some b → w.heap.size ≤ b ∧ b < w3.heap.size := fun b hb => ⟨by rw [hob b hb]; exact hW1.keep.size, ho3.lt b hb⟩
  have hap : Ap (egRow w4.heap.size f) vo := fun b hb q hq => by
    obtain rfl := List.mem_singleton.1 hq
    have := hvo b hb
    show w4.heap.size ≠ b; omega
  refine go_stop (gt := fun _ => Option.none) (unroll := false) 60 [] [0, 2, 3, 4, 5, 6, 7, 8] [u, .bool false, vo, pT w4.heap.size, .int .i64 ((frameR cs).2 : Nat), vu, .int .i64 ((frameR cs).2 : Nat), .int .i64 0] (egRow w4.heap.size f) [(4, 0)] (atL egC 6) [] [] hW6 (by subst hf; kernel_rfl) trivial trivial ?_
  intro w7 hW7 hS7
  have hF7 := hF6.pass0 hS7
  have U7 := U6.pass0 hS7
  have ho7 := ho6.same fun b hb => hS7.same b ⟨ho6.lt b hb, fun q hq _ => hap b hb q hq⟩
  have key := loop_okT (P := Tryd.prog) (Q := bodyPost Tryd.prog Tryd.f5 (esQ w)) (n := egN) (x := loopOf (atL egC 6)) (k := (atL egC 6).tail) (fun i : Nat × List UInt8 => i.1) (egL w4.heap.size f u vo vu (frameR cs).2 cs.length) (EgJ w w4.heap.size f (frameR cs).1.i vo vu rs cs.length) (fun _ _ => by kernel_rfl) ?_ (cs.length, cs) w7
    ⟨Nat.le_refl _, hW7, ho7, rfl, hF7, U7⟩
  · unfold egL at key
    rw [Nat.sub_self] at key
    exact key
  rintro ⟨j, cur⟩ w8 hJ
  cases j with
  | succ j => exact eg_round hvo h34 st sb sr (su6.mono (by omega)) (by omega) (j + 1, cur) w8 hJ j rfl
  | zero =>
    obtain ⟨_, hW8, ho8, hlen, hF8, U8⟩ := hJ
    simp only at ho8 hlen
    unfold egL
    simp only [Nat.sub_zero]
    refine go_call_is (gt := fun _ => Option.none) (unroll := false) 60 [(6, 2, .sem (.int .i64 (cs.length : Int))), (6, 3, .is (.bool false))] 25 [u] [0, 2, 4, 5, 6, 7] [u, .bool false, pT w4.heap.size, .int .i64 ((frameR cs).2 : Nat), vu, .int .i64 ((frameR cs).2 : Nat)] 43 (egRow w4.heap.size f) [(4, 0)] (inR egC 9 1) [(.bool (decide ((cs.length : Int) < (cs.length : Int))), .bool false)] [(Builtin.len_ #[26] 3 #[vo], .int .i64 (cs.length : Int))] hW8 (by kernel_rfl) ⟨congrArg Value.bool (by simp), trivial⟩ ⟨fun wx _ => by rw [← hlen]; exact ho8.rd.run_len (ty := 3) bt.sl, trivial⟩ ?_
    intro w9 hW9 hS9
    have hF9 := hF8.pass0 hS9
    have U9 := U8.pass0 hS9
    refine (rg_any (ru.keep0 hW9.keep) (by omega)).mono ?_
    rintro x w10 ⟨G, rfl, g⟩
    refine ⟨_, rfl, ?_⟩
    have hW10 := hW9.later g.keep
    have hF10 := hF9.call g.keep
    have U10 := U9.call g.keep
    have r10 := ru.keep0 hW10.keep
    have hT : Hd (egRow w4.heap.size f) w10 G.tags (frameR cs).1.tags := ⟨g.tags, g.lt, Ap.fresh hW9 g.st⟩
    have hGc := fr_a_congr (F := G) (c := (frameR cs).1.i) g.dst g.src g.kind g.typ g.llc g.oui
    have gb := g.body
    have gr := g.rest
    clear g
    have vG : ∀ {wx : World}, Rt wx G.tags (frameR cs).1.tags → Rd wx u cs → FrV wx (.agg G.a) (frameR cs).1.i := fun ht hu => by
      rw [hGc]
      exact FrV.of ht (gb _ hu) (gr _ hu)
    have ff : ∃ uo un uc xo xn xc yo yn yc, G.tags = .slice uo un uc ∧ G.body = .slice xo xn xc ∧ G.rest = .slice yo yn yc := by
      obtain ⟨to, tc, ht, _⟩ := hT.rt.shape
      obtain ⟨bo, bn', bc, hb⟩ := (gb _ r10).form
      obtain ⟨ro, rn, rc, hr⟩ := (gr _ r10).form
      exact ⟨to, _, tc, bo, bn', bc, ro, rn, rc, ht, hb, hr⟩
    obtain ⟨uo, un, uc, xo, xn, xc, yo, yn, yc, e1, e2, e3⟩ := ff
    obtain ⟨gd, gs, gt, gk, gty, gl, go, gb', gr'⟩ := G
    simp only at e1 e2 e3
    subst e1 e2 e3
    obtain ⟨G, hG⟩ : ∃ G, (⟨gd, gs, .slice uo un uc, gk, gty, gl, go, .slice xo xn xc, .slice yo yn yc⟩ : Fr) = G := ⟨_, rfl⟩
    simp only at hT
    rw [hG] at vG ⊢
    have hGt : G.tags = .slice uo un uc := by rw [← hG]
    rw [hGt] at vG
    have htl : (frameR cs).1.i.tags.length ≤ 1000000 := by
      have := readT_len 3 [] (cs.drop 12) (by simp)
      have h := frame_tags cs
      show (frameR cs).1.tags.length ≤ 1000000
      omega
    by_cases he : (frameR cs).2 = 0
    · have h12 := frame_ok he
      rw [if_pos he] at hrs
      subst hrs
      rw [he]
      refine go_stop (gt := fun _ => Option.none) (unroll := false) 60 [(12, 1, .sem (cutv u 12 cs.length))] [4, 5, 6, 7, 9, 10, 11] [pT w4.heap.size, .int .i64 ((0 : Nat) : Int), vu, .int .i64 ((0 : Nat) : Int), pT w10.heap.size, .int .i64 ((0 : Nat) : Int), cutv u 12 cs.length] [⟨w4.heap.size, f.a.toList, true⟩, ⟨w10.heap.size, G.a.toList, true⟩] [(4, 0), (9, 1)] (atR egC 13) [] [(Instr.sliceAt 26 u (some (.int .i64 12)) Option.none Option.none, cutv u 12 cs.length)] hW10 (by subst hf hG; kernel_rfl) trivial ⟨fun wx _ => r10.sem_cutL (k := 12) (by omega) wx, trivial⟩ ?_
      intro w11 hW11 hS11
      have hF11 := hF10.pass [⟨w10.heap.size, G.a.toList, true⟩] hS11 (fun q hq => by obtain rfl := List.mem_singleton.1 hq; exact Nat.le_refl _)
      have U11 := U10.pass [⟨w10.heap.size, G.a.toList, true⟩] hS11 (fun q hq => by obtain rfl := List.mem_singleton.1 hq; exact Nat.le_refl _)
      have hT11 := hT.pass [⟨w10.heap.size, G.a.toList, true⟩] hS11 (fun q hq => by obtain rfl := List.mem_singleton.1 hq; exact Nat.le_refl _)
      have r11 := ru.keep0 hW11.keep
      have rv : Rd w11 (cutv u 12 cs.length) (cs.drop 12) := by
        have := r11.cut (l := 12) (h := cs.length) (by omega) (Nat.le_refl _)
        rwa [List.take_of_length_le (by simp)] at this
      exact eg_fin hf hG hk hs w11 hW11 hF11.v (vG hT11.rt r11) htl U11.rd rv
    · rw [if_neg he] at hrs
      subst hrs
      refine go_stop (gt := fun _ => Option.none) (unroll := false) 60 [(11, 1, .is (.bool false))] [4, 5, 6, 7, 9, 10, 11] [pT w4.heap.size, .int .i64 ((frameR cs).2 : Nat), vu, .int .i64 ((frameR cs).2 : Nat), pT w10.heap.size, .int .i64 ((frameR cs).2 : Nat), nilV] [⟨w4.heap.size, f.a.toList, true⟩, ⟨w10.heap.size, G.a.toList, true⟩] [(4, 0), (9, 1)] (atR egC 13) [(.bool ((((frameR cs).2 : Nat) : Int) == 0), .bool false)] [] hW10 (by subst hf hG; kernel_rfl) ⟨congrArg Value.bool (by simpa using he), trivial⟩ trivial ?_
      intro w11 hW11 hS11
      have hF11 := hF10.pass [⟨w10.heap.size, G.a.toList, true⟩] hS11 (fun q hq => by obtain rfl := List.mem_singleton.1 hq; exact Nat.le_refl _)
      have U11 := U10.pass [⟨w10.heap.size, G.a.toList, true⟩] hS11 (fun q hq => by obtain rfl := List.mem_singleton.1 hq; exact Nat.le_refl _)
      have hT11 := hT.pass [⟨w10.heap.size, G.a.toList, true⟩] hS11 (fun q hq => by obtain rfl := List.mem_singleton.1 hq; exact Nat.le_refl _)
      exact eg_fin hf hG hk hs w11 hW11 hF11.v (vG hT11.rt (ru.keep0 hW11.keep)) htl U11.rd (Rd.nil _)
end
end Go.Proofs.YtcimfojbggckhaaDoor
namespace Go.Proofs.YtcimfojbggckhaaDoor
open Go.RowKit

/-- A frame's value, held where no rows are. -/
def FrW (w : World) (x : Value) (c : Fi) : Prop := ∃ to tn tc bo bn bc ro rn rc, x = .agg (fiCells c to tn tc bo bn bc ro rn rc).a ∧ Hd [] w (.slice to tn tc) c.tags ∧ HdB [] w (.slice bo bn bc) c.body ∧ HdB [] w (.slice ro rn rc) c.rest
theorem FrW.v {w : World} {x : Value} {c : Fi} (h : FrW w x c) : FrV w x c := by
  obtain ⟨to, tn, tc, bo, bn, bc, ro, rn, rc, h1, h2, h3, h4⟩ := h
  exact ⟨to, tn, tc, bo, bn, bc, ro, rn, rc, h1, h2.rt, h3.rd, h4.rd⟩
theorem FrW.call {w w' : World} {x : Value} {c : Fi} (h : FrW w x c) (k : Keep No w w') : FrW w' x c := by
  obtain ⟨to, tn, tc, bo, bn, bc, ro, rn, rc, h1, h2, h3, h4⟩ := h
  exact ⟨to, tn, tc, bo, bn, bc, ro, rn, rc, h1, h2.call k, h3.call k, h4.call k⟩
theorem FrW.pass0 {w w' : World} {x : Value} {c : Fi} (h : FrW w x c) (hS : Seg ⟨[], w.heap.size⟩ w ⟨[], w'.heap.size⟩ w') : FrW w' x c := by
  obtain ⟨to, tn, tc, bo, bn, bc, ro, rn, rc, h1, h2, h3, h4⟩ := h
  exact ⟨to, tn, tc, bo, bn, bc, ro, rn, rc, h1, h2.pass0 hS, h3.pass0 hS, h4.pass0 hS⟩
theorem HdF.w {rows : List RowS} {w : World} {f : Fr} {c : Fi} (h : HdF rows w f c) : FrW w (.agg f.a) c := by
  obtain ⟨uo, un, uc, xo, xn, xc, yo, yn, yc, e1, e2, e3⟩ := h.forms
  have h2 := h.t.none
  have h3 := h.b.none
  have h4 := h.r.none
  rw [e1] at h2
  rw [e2] at h3
  rw [e3] at h4
  exact ⟨uo, un, uc, xo, xn, xc, yo, yn, yc, by rw [h.cells, e1, e2, e3], h2, h3, h4⟩
theorem vof_w {w : World} {x : Value} {c : Fi} (h : FrW w x c) (hn : c.tags.length ≤ 1000000) : Calls Tryd.prog 14 #[x] w fun e w' => ∃ v, e = .returned v ∧ Keep No w w' ∧ FrW w' v c := by
  obtain ⟨to, tn, tc, bo, bn, bc, ro, rn, rc, rfl, h2, h3, h4⟩ := h
  refine (of_any (F := fiCells c to tn tc bo bn bc ro rn rc) rfl h2.rt hn).mono ?_
  rintro e w' ⟨uo, un, uc, rfl, h5, h6, h7, h8⟩
  exact ⟨_, rfl, h6, uo, un, uc, bo, bn, bc, ro, rn, rc, rfl, ⟨h5, h8, Ap.nil _⟩, h3.call h6, h4.call h6⟩
theorem fi_cells_eq {d c : Fi} (h : FiEq d c) (t b r : Value) : (d.f t b r).a = (c.f t b r).a := by
  have e1 := h.dst
  have e2 := h.src
  have e3 := h.llc
  have e4 := h.oui
  simp only [arr6, arr3, List.cons.injEq, and_true] at e1 e2 e3 e4
  simp only [Fr.a, Fi.f, e1, e2, e3, e4, h.kind, h.typ]
theorem FrV.eq {w : World} {x : Value} {d c : Fi} (h : FrV w x d) (e : FiEq d c) : FrV w x c := by
  obtain ⟨to, tn, tc, bo, bn, bc, ro, rn, rc, h1, h2, h3, h4⟩ := h
  refine ⟨to, tn, tc, bo, bn, bc, ro, rn, rc, ?_, e.tags ▸ h2, e.body ▸ h3, e.rest ▸ h4⟩
  rw [h1, fiCells, fi_cells_eq e]
theorem putR_cases (c : Fi) : putR c = ([], 1) ∨ putR c = ([], 3) ∨ (mayL c.tags = true ∧ mayF c = true ∧ putR c = (withR c.dst c.src c.tags (behR c), 0)) := by
  unfold putR
  cases h1 : mayL c.tags with
  | false => simp
  | true =>
    cases h2 : mayF c with
    | false => simp
    | true =>
      simp only [Bool.true_eq_false, if_false]
      by_cases h : 65539 < (withR c.dst c.src c.tags (behR c)).length
      · rw [if_pos h]; exact .inr (.inl rfl)
      · rw [if_neg h]; exact .inr (.inr ⟨trivial, trivial, rfl⟩)
noncomputable abbrev ebC : Code := bodyOf Tryd.f11
noncomputable abbrev ebN : Nat := Tryd.f11.ntmps
section
variable {w : World} {vb : Value} {bs : List UInt8}
/-- The bytes that came in. -/
theorem eb_tail (r : Rd w vb bs) (hk : Kh w) (hs : Sh w) (w0 : World) (hW0 : Wst w ⟨[], w0.heap.size⟩ w0) :
    Goal Tryd.prog (bodyPost Tryd.prog Tryd.f11 (esQ w)) ebN ⟨frOf [1] [vb], tagL [], ⟨[], w0.heap.size⟩, opsR ebC 9⟩ w0 := by
  have hm := mn_le_left bs.length 2000
  refine go_call_is (gt := fun _ => Option.none) (unroll := false) 60 [(9, 2, .sem (.int .i64 (bs.length : Int))), (9, 3, .sem (.int .i64 (mn bs.length 2000 : Nat))), (9, 4, .sem (cutv vb 0 (mn bs.length 2000)))] 23 [cutv vb 0 (mn bs.length 2000)] [1] [cutv vb 0 (mn bs.length 2000)] 64 [] [] (inR ebC 10 1) []
    [(Builtin.len_ #[26] 3 #[vb], .int .i64 (bs.length : Int)), (Builtin.min_ #[3, 3] 3 #[.int .i64 (bs.length : Int), .int .i64 2000], .int .i64 (mn bs.length 2000 : Nat)), (Instr.sliceAt 26 vb Option.none (some (.int .i64 (mn bs.length 2000 : Nat))) Option.none, cutv vb 0 (mn bs.length 2000))]
    hW0 (by kernel_rfl) trivial ⟨fun wx _ => r.run_len (ty := 3) bt.sl, fun wx _ => run_mn #[3, 3] 3 bs.length 2000, fun wx _ => r.sem_cutH hm wx, trivial⟩ ?_
  intro w1 hW1 _
  have hcl : ((bs.drop 0).take (mn bs.length 2000 - 0)).length ≤ 2000 := by have := mn_le_right bs.length 2000; simp; omega
  have ru := r.cut (l := 0) (h := mn bs.length 2000) (Nat.zero_le _) hm
  generalize (bs.drop 0).take (mn bs.length 2000 - 0) = cs at *
  generalize cutv vb 0 (mn bs.length 2000) = u at *
  refine (get_any (ru.keep0 hW1.keep) (by omega) (hk.keep0 hW1.keep) (hs.keep0 hW1.keep)).mono ?_
  rintro x w2 ⟨f, rfl, F⟩
  refine ⟨_, rfl, ?_⟩
  have hW2 := hW1.later F.keep
  have hF := F.hd hW1
  clear F
  have htl : (frameR cs).1.i.tags.length ≤ 1000000 := by
    have := readT_len 3 [] (cs.drop 12) (by simp)
    have h := frame_tags cs
    show (frameR cs).1.tags.length ≤ 1000000
    omega
  obtain ⟨uo, un, uc, xo, xn, xc, yo, yn, yc, e1, e2, e3⟩ := hF.forms
  have ec : f.a = (fiCells (frameR cs).1.i uo un uc xo xn xc yo yn yc).a := by rw [hF.cells, e1, e2, e3]
  have hT := hF.t
  have hB := hF.b
  have hR := hF.r
  have hFw : FrW w2 (.agg f.a) (frameR cs).1.i := hF.w
  rw [e1] at hT
  rw [e2] at hB
  rw [e3] at hR
  rw [ec] at hFw ⊢
  obtain ⟨K, hK⟩ : ∃ K, fiCells (frameR cs).1.i uo un uc xo xn xc yo yn yc = K := ⟨_, rfl⟩
  rw [hK] at hFw ⊢
  clear hF ec e1 e2 e3
  by_cases he : (frameR cs).2 = 0
  · obtain ⟨q1, q2, q3, q4⟩ := law_back he
    rw [he]
    have hp : putR (frameR cs).1.i = (cs, 0) := by
      unfold putR
      rw [if_neg (by simp [q1]), if_neg (by simp [q2]), q3, if_neg (by omega)]
    refine go_call_is (gt := fun _ => Option.none) (unroll := false) 60 [] 15 [.agg K.a] [1] [u] 79 [⟨w2.heap.size, K.a.toList, true⟩] [] (inR ebC 13 1) [] [] hW2 (by subst hK; kernel_rfl) trivial trivial ?_
    intro w3 hW3 hS3
    have hm3 : ∀ r ∈ ([⟨w2.heap.size, K.a.toList, true⟩] : List RowS), w2.heap.size ≤ r.b := fun r hr => by obtain rfl := List.mem_singleton.1 hr; exact Nat.le_refl _
    have T3 := hT.pass _ hS3 hm3
    have B3 := hB.pass _ hS3 hm3
    have R3 := hR.pass _ hS3 hm3
    have b1 : (frameR cs).1.i.body.length ≤ 1073741824 ∧ (frameR cs).1.i.rest.length ≤ 1073741824 := by
      have h1 := congrArg List.length q3
      unfold withR behR cntR at h1
      split at h1
      · rename_i hk1
        rcases (may_iff _).1 q2 with ⟨_, _, _, _, _, _, h⟩ | ⟨h, _⟩ | ⟨h, _⟩
        · simp only [List.length_append] at h1
          omega
        · omega
        · omega
      · split at h1 <;> simp only [List.length_append] at h1 <;> omega
    refine (put_any hK T3.rt B3.rd R3.rd htl b1.1 b1.2 (hk.keep0 hW3.keep) (hs.keep0 hW3.keep)).mono ?_
    rintro e w4 ⟨va, rfl, k4, fa⟩
    refine ⟨_, rfl, ?_⟩
    rw [hp] at fa ⊢
    have A4 := (fb_hd fa hW3).none
    have hW4 : Wst w ⟨[], w4.heap.size⟩ w4 := (hW3.later k4).fewer (rows := [])
    refine Goal.re (tags := tagL []) (m := ⟨[], w4.heap.size⟩) ?_
    refine go_call_is (gt := fun _ => Option.none) (unroll := false) 60 [(14, 4, .sem (.string (str cs))), (14, 6, .sem (.string (str cs))), (14, 7, .sem (.bool true))] 19 [] [91] [.bool true] 92 [] [] (inR ebC 14 10) [] [(convert 26 9 va, .string (str cs)), (convert 26 9 u, .string (str cs)), ((do eqGuard .eql 9 (.tmp 86) (.tmp 88) (.string (str cs)) (.string (str cs)); binOp .eql 9 (.string (str cs)) (.string (str cs)) : Sem Value), .bool true)]
      hW4 (by kernel_rfl) trivial ⟨fun wx hx => sem_str (A4.rd.safe (m := ⟨[], w4.heap.size⟩) (fun b hb => ⟨A4.lt b hb, fun _ h => nomatch h⟩) hx), fun wx hx => sem_str (ru.walk hW4 hx), fun wx _ => beq_str wx _ _ _, trivial⟩ ?_
    intro w5 hW5 _
    refine (tells_any (hk.keep0 hW5.keep) (hs.keep0 hW5.keep)).mono ?_
    rintro e w6 ⟨rfl, k6⟩
    refine ⟨_, rfl, ?_⟩
    have hW6 := hW5.later k6
    exact go_ret (gt := fun _ => Option.none) (unroll := false) 60 [] [.tmp 4] (.bool true) [] [] hW6 Tryd.results11 (by kernel_rfl) trivial trivial (fun w9 hW9 _ => ⟨rfl, hW9.keep⟩)
  · have h0 := frame_err he
    refine go_call_is (gt := fun _ => Option.none) (unroll := false) 60 [(11, 1, .is (.bool true))] 14 [.agg K.a] [] [] 70 [⟨w2.heap.size, K.a.toList, true⟩] [] (inR ebC 12 1) [(.bool ((((frameR cs).2 : Nat) : Int) != 0), .bool true)] [] hW2 (by subst hK; kernel_rfl) ⟨congrArg Value.bool (by simpa using he), trivial⟩ trivial ?_
    intro w3 hW3 hS3
    have hm3 : ∀ r ∈ ([⟨w2.heap.size, K.a.toList, true⟩] : List RowS), w2.heap.size ≤ r.b := fun r hr => by obtain rfl := List.mem_singleton.1 hr; exact Nat.le_refl _
    have T3 := hT.pass _ hS3 hm3
    have B3 := hB.pass _ hS3 hm3
    have R3 := hR.pass _ hS3 hm3
    have X3 : FrW w3 (.agg K.a) (frameR cs).1.i := ⟨uo, un, uc, xo, xn, xc, yo, yn, yc, by rw [hK], T3.none, B3.none, R3.none⟩
    refine (vof_w X3 htl).mono ?_
    rintro e w4 ⟨v1, rfl, k4, X4⟩
    refine ⟨_, rfl, ?_⟩
    have hW4 : Wst w ⟨[], w4.heap.size⟩ w4 := (hW3.later k4).fewer (rows := [])
    refine Goal.re (tags := tagL []) (m := ⟨[], w4.heap.size⟩) ?_
    refine go_call_is (gt := fun _ => Option.none) (unroll := false) 60 [] 14 [.agg fr0.a] [70] [v1] 72 [] [] (inR ebC 12 3) [] [] hW4 (by kernel_rfl) trivial trivial ?_
    intro w5 hW5 hS5
    have X5 := X4.pass0 hS5
    have Z5 : FrW w5 (.agg fr0.a) fc0.i := ⟨none, 0, 0, none, 0, 0, none, 0, 0, rfl, ⟨Rt.nil _, nilV_under _, Ap.nil _⟩, ⟨Rd.nil _, nilV_under _, Ap.nil _⟩, ⟨Rd.nil _, nilV_under _, Ap.nil _⟩⟩
    refine (vof_w Z5 (by simp [fc0, Fc.i])).mono ?_
    rintro e w6 ⟨v2, rfl, k6, Z6⟩
    refine ⟨_, rfl, ?_⟩
    have hW6 := hW5.later k6
    have X6 := X5.call k6
    refine go_call_is (gt := fun _ => Option.none) (unroll := false) 60 [] 24 [v1, v2] [] [] 73 [] [] (inR ebC 12 4) [] [] hW6 (by kernel_rfl) trivial trivial ?_
    intro w7 hW7 hS7
    have X7 := (X6.pass0 hS7).v
    have Z7 := (Z6.pass0 hS7).v
    rw [h0] at X7
    refine (vsame_any X7 Z7 (by simp [fc0, Fc.i])).mono ?_
    rintro e w8 ⟨rfl, k8⟩
    refine ⟨_, rfl, ?_⟩
    have hW8 := hW7.later k8
    refine go_call_is (gt := fun _ => Option.none) (unroll := false) 60 [] 19 [] [74] [.bool true] 75 [] [] (inR ebC 12 6) [] [] hW8 (by kernel_rfl) trivial trivial ?_
    intro w9 hW9 _
    refine (tells_any (hk.keep0 hW9.keep) (hs.keep0 hW9.keep)).mono ?_
    rintro e wa ⟨rfl, ka⟩
    refine ⟨_, rfl, ?_⟩
    have hWa := hW9.later ka
    exact go_ret (gt := fun _ => Option.none) (unroll := false) 60 [] [.tmp 4] (.bool true) [] [] hWa Tryd.results11 (by kernel_rfl) trivial trivial (fun w9 hW9 _ => ⟨rfl, hW9.keep⟩)
end
section
variable {w : World} {c : Fi} {F : Fr} {to bo ro : Option Addr} {tn tc bn bc rn rc : Nat} {vb : Value} {bs : List UInt8}
theorem etherback_walk (hF : fiCells c to tn tc bo bn bc ro rn rc = F) (rt : Rt w (.slice to tn tc) c.tags) (rb : Rd w (.slice bo bn bc) c.body) (rr : Rd w (.slice ro rn rc) c.rest) (r : Rd w vb bs) (hk : Kh w) (hs : Sh w) : Calls Tryd.prog 11 #[.agg F.a, vb] w (esQ w) := by
  refine enter (args := [.agg F.a, vb]) Tryd.func11 (by kernel_rfl) ?_
  refine go_call_is (gt := fun _ => Option.none) (unroll := false) 60 [] 13 [.agg F.a] [1, 2] [vb, pT w.heap.size] 14 [⟨w.heap.size, F.a.toList, true⟩] [(2, 0)] (inR ebC 1 1) [] [] (Wst.start0 w) (by subst hF; kernel_rfl) trivial trivial ?_
  intro w1 hW1 _
  refine (few_any hF (rt.keep0 hW1.keep) (rb.keep0 hW1.keep) (rr.keep0 hW1.keep)).mono ?_
  rintro e w2 ⟨G, rfl, fw⟩
  refine ⟨_, rfl, ?_⟩
  have hW2 := hW1.later fw.keep
  obtain ⟨l1, l2, l3⟩ := few_lens c
  generalize fewR c = d at *
  have hG0 : HdF [⟨w.heap.size, F.a.toList, true⟩] w2 G d := fw.hd hW1
  obtain ⟨uo, un, uc, xo, xn, xc, yo, yn, yc, e1, e2, e3⟩ := hG0.forms
  have ec : G.a = (fiCells d uo un uc xo xn xc yo yn yc).a := by rw [fw.cells, e1, e2, e3]
  have hT0 := hG0.t
  have hB0 := hG0.b
  have hR0 := hG0.r
  rw [e1] at hT0
  rw [e2] at hB0
  rw [e3] at hR0
  rw [ec]
  clear fw hG0 ec e1 e2 e3
  obtain ⟨K, hK⟩ : ∃ K, fiCells d uo un uc xo xn xc yo yn yc = K := ⟨_, rfl⟩
  rw [hK]
  refine go_call_is (gt := fun _ => Option.none) (unroll := false) 60 [] 15 [.agg K.a] [1, 2] [vb, pT w.heap.size] 17 [⟨w.heap.size, K.a.toList, true⟩] [(2, 0)] (inR ebC 2 1) [] [] hW2 (by subst hK hF; kernel_rfl) trivial trivial ?_
  intro w3 hW3 hS3
  have ap3 : ∀ {v : Value}, Ap [⟨w.heap.size, F.a.toList, true⟩] v → Ap [⟨w.heap.size, K.a.toList, true⟩] v := fun h b hb r hr => by
    obtain rfl := List.mem_singleton.1 hr
    exact h b hb ⟨w.heap.size, F.a.toList, true⟩ (by simp)
  have le3 : w2.heap.size ≤ w3.heap.size := hS3.le
  have T3 : Hd [⟨w.heap.size, K.a.toList, true⟩] w3 (.slice uo un uc) d.tags := ⟨hT0.rt.same fun b hb _ => hS3.same b ⟨hT0.lt b hb, fun r hr _ => hT0.ap b hb r hr⟩, hT0.lt.mono le3, ap3 hT0.ap⟩
  have B3 : HdB [⟨w.heap.size, K.a.toList, true⟩] w3 (.slice xo xn xc) d.body := ⟨hB0.rd.safe (fun b hb => ⟨hB0.lt b hb, fun r hr _ => hB0.ap b hb r hr⟩) hS3.same, hB0.lt.mono le3, ap3 hB0.ap⟩
  have R3 : HdB [⟨w.heap.size, K.a.toList, true⟩] w3 (.slice yo yn yc) d.rest := ⟨hR0.rd.safe (fun b hb => ⟨hR0.lt b hb, fun r hr _ => hR0.ap b hb r hr⟩) hS3.same, hR0.lt.mono le3, ap3 hR0.ap⟩
  clear hT0 hB0 hR0
  refine (put_any hK T3.rt B3.rd R3.rd (by omega) (by omega) (by omega) (hk.keep0 hW3.keep) (hs.keep0 hW3.keep)).mono ?_
  rintro e w4 ⟨va, rfl, k4, fa⟩
  refine ⟨_, rfl, ?_⟩
  have hW4 := hW3.later k4
  have A4 := fb_hd fa hW3
  rcases putR_cases d with hp | hp | ⟨h1, h2, hp⟩
  · rw [hp] at A4 ⊢
    have hW4' : Wst w ⟨[], w4.heap.size⟩ w4 := hW4.fewer (rows := [])
    refine Goal.re (tags := tagL []) (m := ⟨[], w4.heap.size⟩) ?_
    refine go_stop (gt := fun _ => Option.none) (unroll := false) 60 [(7, 11, .sem (.int .i64 0)), (9, 0, .stop)] [1] [vb] [] [] (opsR ebC 9) [] [(Builtin.len_ #[26] 3 #[va], .int .i64 0)] hW4' (by kernel_rfl) trivial ⟨fun wx _ => A4.rd.run_len (ty := 3) bt.sl, trivial⟩ ?_
    intro w5 hW5 _
    exact eb_tail r hk hs w5 hW5
  · rw [hp] at A4 ⊢
    have hW4' : Wst w ⟨[], w4.heap.size⟩ w4 := hW4.fewer (rows := [])
    refine Goal.re (tags := tagL []) (m := ⟨[], w4.heap.size⟩) ?_
    refine go_stop (gt := fun _ => Option.none) (unroll := false) 60 [(7, 11, .sem (.int .i64 0)), (9, 0, .stop)] [1] [vb] [] [] (opsR ebC 9) [] [(Builtin.len_ #[26] 3 #[va], .int .i64 0)] hW4' (by kernel_rfl) trivial ⟨fun wx _ => A4.rd.run_len (ty := 3) bt.sl, trivial⟩ ?_
    intro w5 hW5 _
    exact eb_tail r hk hs w5 hW5
  · rw [hp] at A4 ⊢
    by_cases hn : (withR d.dst d.src d.tags (behR d)).length ≤ 65535
    case neg =>
      have hW4' : Wst w ⟨[], w4.heap.size⟩ w4 := hW4.fewer (rows := [])
      refine Goal.re (tags := tagL []) (m := ⟨[], w4.heap.size⟩) ?_
      refine go_stop (gt := fun _ => Option.none) (unroll := false) 60 [(3, 4, .sem (.int .i64 ((withR d.dst d.src d.tags (behR d)).length : Nat))), (3, 5, .is (.bool false)), (9, 0, .stop)] [1] [vb] [] [] (opsR ebC 9) [(.bool (decide ((((withR d.dst d.src d.tags (behR d)).length : Nat) : Int) ≤ 65535)), .bool false)] [(Builtin.len_ #[26] 3 #[va], .int .i64 ((withR d.dst d.src d.tags (behR d)).length : Nat))] hW4' (by kernel_rfl) ⟨congrArg Value.bool (by simp; omega), trivial⟩ ⟨fun wx _ => A4.rd.run_len (ty := 3) bt.sl, trivial⟩ ?_
      intro w5 hW5 _
      exact eb_tail r hk hs w5 hW5
    obtain ⟨hz, hq⟩ := law_there h1 h2 hn
    generalize hxs : withR d.dst d.src d.tags (behR d) = xs at *
    refine go_call_is (gt := fun _ => Option.none) (unroll := false) 60 [(3, 4, .sem (.int .i64 (xs.length : Nat))), (3, 5, .is (.bool true))] 23 [va] [1, 2, 6] [vb, pT w.heap.size, .int .i64 0] 29 [⟨w.heap.size, K.a.toList, true⟩] [(2, 0)] (inR ebC 4 1) [(.bool (decide (((xs.length : Nat) : Int) ≤ 65535)), .bool true)] [(Builtin.len_ #[26] 3 #[va], .int .i64 (xs.length : Nat))] hW4 (by kernel_rfl) ⟨congrArg Value.bool (by simp; omega), trivial⟩ ⟨fun wx _ => A4.rd.run_len (ty := 3) bt.sl, trivial⟩ ?_
    intro w5 hW5 hS5
    have A5 := A4.pass0 hS5
    have T5 := (T3.call k4).pass0 hS5
    have B5 := (B3.call k4).pass0 hS5
    have R5 := (R3.call k4).pass0 hS5
    refine (get_any (bs := xs) A5.rd (by omega) (hk.keep0 hW5.keep) (hs.keep0 hW5.keep)).mono ?_
    rintro x w6 ⟨f, rfl, F6⟩
    refine ⟨_, rfl, ?_⟩
    have hW6 := hW5.later F6.keep
    have hF6 := F6.hd hW5
    have T6 := T5.call F6.keep
    have B6 := B5.call F6.keep
    have R6 := R5.call F6.keep
    clear F6
    rw [hz]
    obtain ⟨go, gn, gc, ho, hn', hc, io, iN, ic, e1, e2, e3⟩ := hF6.forms
    have ec : f.a = (fiCells (frameR xs).1.i go gn gc ho hn' hc io iN ic).a := by rw [hF6.cells, e1, e2, e3]
    have hT := hF6.t
    have hB := hF6.b
    have hR := hF6.r
    rw [e1] at hT
    rw [e2] at hB
    rw [e3] at hR
    rw [ec]
    obtain ⟨J, hJ⟩ : ∃ J, fiCells (frameR xs).1.i go gn gc ho hn' hc io iN ic = J := ⟨_, rfl⟩
    rw [hJ]
    clear hF6 ec e1 e2 e3
    refine go_stop (gt := fun _ => Option.none) (unroll := false) 60 [] [1, 2, 6, 7, 8] [vb, pT w.heap.size, .int .i64 0, pT w6.heap.size, .int .i64 0] ([⟨w.heap.size, K.a.toList, true⟩] ++ [⟨w6.heap.size, J.a.toList, true⟩]) [(2, 0), (7, 1)] (atR ebC 5) [] [] hW6 (by subst hJ; kernel_rfl) trivial trivial ?_
    intro w7 hW7 hS7
    have hm7 : ∀ r ∈ ([⟨w6.heap.size, J.a.toList, true⟩] : List RowS), w6.heap.size ≤ r.b := fun r hr => by obtain rfl := List.mem_singleton.1 hr; exact Nat.le_refl _
    have v1 : FrV w7 (.agg K.a) d := ⟨uo, un, uc, xo, xn, xc, yo, yn, yc, by rw [hK], (T6.pass _ hS7 hm7).rt, (B6.pass _ hS7 hm7).rd, (R6.pass _ hS7 hm7).rd⟩
    have v2 : FrV w7 (.agg J.a) (frameR xs).1.i := ⟨go, gn, gc, ho, hn', hc, io, iN, ic, by rw [hJ], (hT.pass _ hS7 hm7).rt, (hB.pass _ hS7 hm7).rd, (hR.pass _ hS7 hm7).rd⟩
    have v2 := v2.eq hq
    refine drawn_ok (gt := fun _ => Option.none) [(4, .call (fvS d)), (6, .call (fvS d)), (7, .call (.is (.bool true)))] [1, 6, 41] [.is vb, .is (.int .i64 0), .is (.bool false)] [] [(14, [.is (.agg K.a)], fvS d), (14, [.is (.agg J.a)], fvS d), (24, [fvS d, fvS d], .is (.bool true))] [] [] []
      hW7 (by subst hK hJ; kernel_rfl) (by subst hK hJ; kernel_rfl) trivial ⟨vof_obI v1 (by omega), vof_obI v2 (by omega), vsame_ob (by omega), trivial⟩ trivial trivial trivial ?_
    intro w8 vs k8 hok
    obtain rfl := allOk_is (vs := [vb, .int .i64 0, .bool false]) hok
    have hW8 : Wst w ⟨[], w8.heap.size⟩ w8 := (hW7.later k8).fewer (rows := [])
    refine Goal.re (tags := tagL []) (m := ⟨[], w8.heap.size⟩) ?_
    refine go_stop (gt := fun _ => Option.none) (unroll := false) 60 [(9, 0, .stop)] [1] [vb] [] [] (opsR ebC 9) [] [] hW8 (by kernel_rfl) trivial trivial ?_
    intro w9 hW9 _
    exact eb_tail r hk hs w9 hW9
end
end Go.Proofs.YtcimfojbggckhaaDoor
namespace Go.Proofs.YtcimfojbggckhaaDoor
open Go.RowKit

/-- What may be appended to: bytes of one's own, or a slice without room behind it. -/
def Ab (w : World) (v : Value) (bs : List UInt8) : Prop := Own 5 w v bs ∨ Fu w v bs
section
variable {w w' : World} {v s : Value} {bs ys : List UInt8}
theorem Ab.rd (h : Ab w v bs) : Rd w v bs := by
  rcases h with h | ⟨b, o, _, h, _⟩
  · exact h.rd
  · exact h
theorem Ab.lt (h : Ab w v bs) : Under w.heap.size v := by
  rcases h with h | ⟨b, o, rfl, _, hb⟩
  · exact h.lt
  · intro b' h
    obtain rfl : b = b' := by simpa [Value.ownBlock] using h
    exact hb
theorem Ab.same (h : Ab w v bs) (hs : ∀ b, v.ownBlock = some b → w'.heap[b]? = w.heap[b]?) (hl : w.heap.size ≤ w'.heap.size) : Ab w' v bs := by
  rcases h with h | ⟨b, o, rfl, h, hb⟩
  · exact .inl (h.same hs)
  · refine .inr ⟨b, o, rfl, ⟨h.shape, fun i hi => ?_⟩, Nat.lt_of_lt_of_le hb hl⟩
    rw [← h.cell i hi]
    exact World.cell?_of_block (hs _ (h.block_eq hi))
theorem Ab.keep0 (h : Ab w v bs) (k : Keep No w w') : Ab w' v bs := h.same (fun b hb => k.block b (h.lt b hb) (fun f => f)) k.size
theorem run_append_ab (h : Ab w v bs) (r : Rd w s ys) (hn : bs.length + ys.length ≤ 140737488351232) :
    ∃ v' w', (∀ ty, (Builtin.append_ #[26, 26] ty #[v, s]).run Tryd.prog w = .ok v' w') ∧ Ab w' v' (bs ++ ys) ∧ Keep (fun k => v.ownBlock = some k) w w' ∧ (v'.ownBlock = v.ownBlock ∨ Since w.heap.size v') := by
  rcases h with h | h
  · obtain ⟨v', w', hr, h2, h3, h4, _⟩ := run_append_b (P := Tryd.prog) bt 0 h r hn
    refine ⟨v', w', fun ty => hr, .inl h2, h3, ?_⟩
    rcases h4 with h4 | h4
    · exact .inl h4
    · exact .inr fun b hb => by rw [h4] at hb; have := Option.some.inj hb; omega
  · obtain ⟨b, off, rfl, hu, hb⟩ := h
    obtain ⟨i, hi, hz1, hz2, hz3⟩ := bt.info
    cases hnil : isNil s with
    | true =>
      obtain ⟨rfl, rfl⟩ := r.of_nil hnil
      refine ⟨_, w, fun ty => ?_, .inr ⟨b, off, by rw [List.append_nil], by simpa using hu, hb⟩, Keep.refl _ _, .inl rfl⟩
      simp [Builtin.append_, run_underlying bt.sl, sizeOf, typeInfo, hi, Builtin.lenOf, Builtin.firstCells, storeCells]
    | false =>
      obtain ⟨a, cap, rfl⟩ := r.of_not_nil hnil
      have hnews : ∀ j u, (bvs ys)[j]? = some u → w.cell? (a.add j) = some u := fun j u hj => by
        by_cases hjl : j < ys.length
        · obtain ⟨b', o', hbo⟩ := r.addr (by omega)
          cases hbo
          rw [bvs_get hjl] at hj
          cases hj
          have := r.cell j hjl
          simpa [blk, offs, Addr_add_mk] using this
        · rw [List.getElem?_eq_none (by simpa [bvs_length] using hjl)] at hj; cases hj
      rcases Nat.eq_zero_or_pos ys.length with hy | hy
      · have hy' : ys = [] := List.length_eq_zero_iff.1 hy
        subst hy'
        refine ⟨_, w, fun ty => ?_, .inr ⟨b, off, by rw [List.append_nil], by simpa using hu, hb⟩, Keep.refl _ _, .inl rfl⟩
        have := run_append_room_cells (P := Tryd.prog) w 26 ty 5 i bt.sl hi b off bs.length bs.length a 0 cap [] (by simp) (by simp) (by simp) (by omega) (by simp) (by simp)
        simpa [World.setCells] using this
      · have key := fun ty => run_append_arg_grows (P := Tryd.prog) w 26 ty 5 i (.int .u8 0) 1 1 bt.sl hi hz3 hz1 hz2 rfl (by decide) ⟨b, off, none⟩ bs.length bs.length (bvs bs) (by simp [bvs_length])
          (fun j u hj => by
            by_cases hjl : j < bs.length
            · have := hu.cell j hjl
              rw [bvs_get hjl] at hj
              cases hj
              simpa [blk, offs, Addr_add_mk] using this
            · rw [List.getElem?_eq_none (by simpa [bvs_length] using hjl)] at hj; cases hj)
          a ys.length cap (bvs ys) (by simp [bvs_length]) hnews (by omega) (by simp only [maxLen]; omega) (by omega)
        obtain ⟨v', w', hr, h2, h3⟩ := key 0
        have ho : Own 5 w' v' (bs ++ ys) := by
          obtain ⟨q1, q2⟩ := h2
          unfold Own
          rw [List.length_append, bvs_append]
          refine ⟨q1, ?_⟩
          rcases q2 with q2 | ⟨g, cp, cur, e1, e2, e3, e4⟩
          · exact .inl q2
          · exact .inr ⟨g, cp, cur, e1, Nat.zero_le _, e3, e4⟩
        refine ⟨v', w', fun ty => hr, .inl ho, ⟨h3.os, h3.tape, h3.output, h3.size, fun k hk hn => h3.block k hk (fun e => by cases e)⟩, .inr fun k hk => ?_⟩
        obtain ⟨q1, q2⟩ := h2
        rcases q2 with ⟨_, q2⟩ | ⟨g, cp, cur, e1, e2, e3, e4, e5, e6, e7⟩
        · omega
        · rw [e1] at hk
          obtain rfl : g = k := by simpa [Value.ownBlock] using hk
          exact e2
end
end Go.Proofs.YtcimfojbggckhaaDoor
namespace Go.Proofs.YtcimfojbggckhaaDoor
open Go.RowKit

noncomputable abbrev snC : Code := bodyOf Tryd.f10
noncomputable abbrev snN : Nat := Tryd.f10.ntmps
/-- The larger of two numbers. -/
def mx (a b : Nat) : Nat := if a < b then b else a
theorem run_mx {P : Program} {w : World} (ts : Array TypeId) (t : TypeId) (a b : Nat) : (Builtin.max_ ts t #[.int .u16 (a : Int), .int .u16 (b : Int)]).run P w = .ok (.int .u16 (mx a b : Nat)) w := by
  unfold mx
  simp [go_sem]
  by_cases h : a < b
  · simp [h]
  · simp [h]
theorem fdiv_nat (t : Nat) : Int.fdiv (t : Int) (2 ^ 8) = ((t / 256 : Nat) : Int) := by
  rw [show ((2 : Int) ^ 8) = ((256 : Nat) : Int) by decide, Int.fdiv_eq_ediv_of_nonneg _ (by omega)]
  rfl
theorem pOk_eq {d c : Fi} (h : FiEq d c) : pOk d = pOk c := by
  have e := h.oui
  simp only [arr3, List.cons.injEq, and_true] at e
  simp only [pOk, zero3, h.kind, e]
theorem bne_str (w : World) (x y : Operand) (a : List UInt8) : (do eqGuard .neq 9 x y (.string (str a)) (.string (str a)); binOp .neq 9 (.string (str a)) (.string (str a)) : Sem Value).run Tryd.prog w = .ok (.bool false) w := by
  simp [eqGuard, binOp, Op.stringOp]
def sn1 (t : Nat) (body : List UInt8) : Fi := ⟨[2], [4], [], 1, t, [], [], body, []⟩
def sn2 (t : Nat) (l body rest : List UInt8) : Fi := ⟨[2], [4], [], 3, t, sapL, l, body, rest⟩
section
variable {t : Nat} {l body rest : List UInt8}
theorem sn1_beh : behR (sn1 t body) = bytes2 t ++ body := rfl
theorem sn1_may (h1 : 1536 ≤ t) (h2 : t < 65536) (h3 : t ≠ 33024) (h4 : t ≠ 34984) : mayF (sn1 t body) = true := by
  refine (may_iff _).2 (.inl ⟨rfl, ?_, ?_, ?_, rfl, rfl, rfl⟩)
  · show (1536 : Int) ≤ (t : Int); omega
  · show (t : Int) ≤ 65535; omega
  · have a1 : ((t : Int) == 33024) = false := beq_eq_false_iff_ne.2 (by omega)
    have a2 : ((t : Int) == 34984) = false := beq_eq_false_iff_ne.2 (by omega)
    show (if ((t : Int) == 33024) = true then _ else _) = false
    rw [a1]
    simp only [Bool.false_eq_true, if_false]
    show (if ((t : Int) == 34984) = true then _ else _) = false
    rw [a2]
    rfl
abbrev snH (t n : Nat) (l : List UInt8) : List UInt8 := bytes2 n ++ ([170, 170, 3] ++ (arr3 l ++ bytes2 t))
theorem sn2_cnt : cntR (sn2 t l body rest) = arr3 sapL ++ arr3 l ++ bytes2 t ++ body := rfl
theorem sn2_beh : behR (sn2 t l body rest) = snH t (8 + body.length) l ++ body ++ rest := by
  unfold behR
  rw [if_neg (by show ¬ (3 : Int) = 1; omega), sn2_cnt]
  have : (arr3 sapL ++ arr3 l ++ bytes2 t ++ body).length = 8 + body.length := by
    simp only [List.length_append]
    have : (arr3 sapL).length = 3 := rfl
    have : (arr3 l).length = 3 := rfl
    have : (bytes2 t).length = 2 := rfl
    omega
  rw [this]
  show _ ++ ((arr3 sapL ++ arr3 l ++ bytes2 t ++ body) ++ rest) = _
  have e : arr3 sapL = [170, 170, 3] := rfl
  rw [e]
  simp only [snH, List.append_assoc]
theorem sn2_may (h2 : t < 65536) (hb : body.length ≤ 1492) : mayF (sn2 t l body rest) = true := by
  refine (may_iff _).2 (.inr (.inr ⟨rfl, ?_, ?_, rfl, ?_⟩))
  · show (0 : Int) ≤ (t : Int); omega
  · show (t : Int) ≤ 65535; omega
  · show 8 + body.length ≤ 1500; omega
theorem with_len (d s : List UInt8) (bs : List UInt8) : (withR d s [] bs).length = 12 + bs.length := by
  unfold withR
  simp only [List.length_append]
  have : (arr6 d).length = 6 := rfl
  have : (arr6 s).length = 6 := rfl
  have : (bytesB []).length = 0 := rfl
  omega
end
abbrev snR (w : World) (l : List UInt8) : List RowS := [⟨w.heap.size, bvs (arr3 l), true⟩]
section
variable {w : World} {n : Nat} {vb vr : Value} {bs1 bs2 l : List UInt8}
/-- Behind the two frames. -/
theorem sn_end {t : Nat} {u1 u2 v16 v17 : Value} {body rest : List UInt8} {d2 : Fi} {yo : Option Addr} {yn yc p2 : Nat} {K2 : Fr} {uo xo : Option Addr} {un uc xn xc : Nat} (hK2 : fiCells d2 uo un uc xo xn xc yo yn yc = K2) (hk : Kh w) (hs : Sh w) (ht : t < 65536) (r1 : Rd w u1 body) (r2 : Rd w u2 rest) (q2 : FiEq d2 (sn2 t l body rest)) (w0 : World)
    (hW0 : Wst w ⟨snR w l ++ [⟨p2, K2.a.toList, true⟩], w0.heap.size⟩ w0) (H17 : HdB (snR w l ++ [⟨p2, K2.a.toList, true⟩]) w0 v17 body) (B2 : HdB (snR w l ++ [⟨p2, K2.a.toList, true⟩]) w0 (.slice xo xn xc) d2.body) (R2 : HdB (snR w l ++ [⟨p2, K2.a.toList, true⟩]) w0 (.slice yo yn yc) d2.rest) (h16 : v16 = .int .i64 (t : Int)) (hbl : d2.body.length ≤ 1099511627776) :
    Goal Tryd.prog (bodyPost Tryd.prog Tryd.f10 (esQ w)) snN ⟨frOf [0, 1, 2, 7, 13, 14, 15, 16, 17, 18] [.int .u16 (t : Int), u1, u2, pT w.heap.size, .int .i64 0, pT p2, .int .i64 0, v16, v17, .bool true], tagL [(7, 0), (14, 1)], ⟨snR w l ++ [⟨p2, K2.a.toList, true⟩], w0.heap.size⟩, opsR snC 11⟩ w0 := by
  subst h16
  refine go_call_is (gt := fun _ => Option.none) (unroll := false) 60 [] 17 [.agg K2.a] [0, 1, 2, 7, 13, 14, 15, 16, 17, 18] [.int .u16 (t : Int), u1, u2, pT w.heap.size, .int .i64 0, pT p2, .int .i64 0, .int .i64 (t : Int), v17, .bool true] 97 (snR w l ++ [⟨p2, K2.a.toList, true⟩]) [(7, 0), (14, 1)] (inR snC 11 1) [] [] hW0 (by subst hK2; kernel_rfl) trivial trivial ?_
  intro w1 hW1 hS1
  have H1 := H17.pass0 hS1
  have R1 := R2.pass0 hS1
  refine (proto_f hK2 (B2.pass0 hS1).rd hbl).mono ?_
  rintro e w2 ⟨v20, rfl, k2, f20⟩
  refine ⟨_, rfl, ?_⟩
  have hW2 := hW1.later k2
  have H2 := H1.call k2
  have R3 := R1.call k2
  have Y2 := fb_hd f20 hW1
  have er : d2.rest = rest := q2.rest
  have ed : d2.body = body := q2.body
  have et : d2.typ = (t : Int) := q2.typ
  have ep : pOk d2 = zero3 l := by rw [pOk_eq q2]; rfl
  rw [er] at R3
  rw [ed] at Y2
  rw [ep] at Y2 ⊢
  rw [et]
  have key : ∀ {rows : List RowS} {v : Value} {bb : List UInt8}, HdB rows w2 v bb → ∀ wx : World, (∀ k, Safe ⟨rows, w2.heap.size⟩ k → wx.heap[k]? = w2.heap[k]?) → Rd wx v bb := fun h wx hx => h.rd.safe (fun b hb => ⟨h.lt b hb, fun r hr _ => h.ap b hb r hr⟩) hx
  cases hz : zero3 l with
  | true =>
    rw [hz] at Y2
    simp only [if_true] at Y2 ⊢
    refine go_call_is (gt := fun _ => Option.none) (unroll := false) 100 [(12, 13, .is (.int .i64 (t : Int))), (12, 14, .is (.bool false)), (12, 18, .sem (.string (str body))), (12, 20, .sem (.string (str body))), (12, 21, .sem (.bool false)), (12, 26, .sem (.string (str rest))), (12, 28, .sem (.string (str rest))), (12, 29, .sem (.bool false)), (14, 2, .sem (.bool false)), (16, 4, .is (.bool true)), (16, 8, .sem (.string (str body))), (16, 10, .sem (.string (str body))), (16, 11, .sem (.bool true))] 19 [] [162] [.bool true] 163 (snR w l ++ [⟨p2, K2.a.toList, true⟩]) [] (inR snC 16 14)
      [(.int .i64 (IntKind.i64.wrap (t : Int)), .int .i64 (t : Int)), (.bool ((t : Int) != (t : Int)), .bool false), (.bool ((t : Int) == (t : Int)), .bool true)]
      [(convert 26 9 v17, .string (str body)), (convert 26 9 u1, .string (str body)), ((do eqGuard .neq 9 (.tmp 119) (.tmp 121) (.string (str body)) (.string (str body)); binOp .neq 9 (.string (str body)) (.string (str body)) : Sem Value), .bool false), (convert 26 9 (.slice yo yn yc), .string (str rest)), (convert 26 9 u2, .string (str rest)), ((do eqGuard .neq 9 (.tmp 127) (.tmp 129) (.string (str rest)) (.string (str rest)); binOp .neq 9 (.string (str rest)) (.string (str rest)) : Sem Value), .bool false), ((do eqGuard .neq 25 (.tmp 132) (.tmp 133) (a3 l) (a3 []); binOp .neq 25 (a3 l) (a3 []) : Sem Value), .bool false), (convert 26 9 v20, .string (str body)), (convert 26 9 v17, .string (str body)), ((do eqGuard .eql 9 (.tmp 157) (.tmp 159) (.string (str body)) (.string (str body)); binOp .eql 9 (.string (str body)) (.string (str body)) : Sem Value), .bool true)]
      hW2 (by subst hK2; kernel_rfl) ⟨congrArg (Value.int .i64) (i64_small (by omega) (by omega)), congrArg Value.bool (by simp), congrArg Value.bool (by simp), trivial⟩
      ⟨fun wx hx => sem_str (key H2 wx hx), fun wx hx => sem_str (r1.walk hW2 hx), fun wx _ => bne_str wx _ _ _, fun wx hx => sem_str (key R3 wx hx), fun wx hx => sem_str (r2.walk hW2 hx), fun wx _ => bne_str wx _ _ _, fun wx _ => (show (!zero3 l) = false by rw [hz]; rfl) ▸ neq_z3 wx _ _ _, fun wx hx => sem_str (key Y2 wx hx), fun wx hx => sem_str (key H2 wx hx), fun wx _ => beq_str wx _ _ _, trivial⟩ ?_
    intro w3 hW3 _
    refine (tells_any (hk.keep0 hW3.keep) (hs.keep0 hW3.keep)).mono ?_
    rintro e w4 ⟨rfl, k4⟩
    refine ⟨_, rfl, ?_⟩
    have hW4 := hW3.later k4
    exact go_ret (gt := fun _ => Option.none) (unroll := false) 60 [] [.tmp 8] (.bool true) [] [] hW4 Tryd.results10 (by kernel_rfl) trivial trivial (fun w9 hW9 _ => ⟨rfl, hW9.keep⟩)
  | false =>
    rw [hz] at Y2
    simp only [Bool.false_eq_true, if_false] at Y2 ⊢
    refine go_call_is (gt := fun _ => Option.none) (unroll := false) 100 [(12, 13, .is (.int .i64 (t : Int))), (12, 14, .is (.bool false)), (12, 18, .sem (.string (str body))), (12, 20, .sem (.string (str body))), (12, 21, .sem (.bool false)), (12, 26, .sem (.string (str rest))), (12, 28, .sem (.string (str rest))), (12, 29, .sem (.bool false)), (14, 2, .sem (.bool true)), (15, 8, .sem (.int .i64 0))] 19 [] [146] [.bool true] 147 (snR w l ++ [⟨p2, K2.a.toList, true⟩]) [] (inR snC 15 12)
      [(.int .i64 (IntKind.i64.wrap (t : Int)), .int .i64 (t : Int)), (.bool ((t : Int) != (t : Int)), .bool false)]
      [(convert 26 9 v17, .string (str body)), (convert 26 9 u1, .string (str body)), ((do eqGuard .neq 9 (.tmp 119) (.tmp 121) (.string (str body)) (.string (str body)); binOp .neq 9 (.string (str body)) (.string (str body)) : Sem Value), .bool false), (convert 26 9 (.slice yo yn yc), .string (str rest)), (convert 26 9 u2, .string (str rest)), ((do eqGuard .neq 9 (.tmp 127) (.tmp 129) (.string (str rest)) (.string (str rest)); binOp .neq 9 (.string (str rest)) (.string (str rest)) : Sem Value), .bool false), ((do eqGuard .neq 25 (.tmp 132) (.tmp 133) (a3 l) (a3 []); binOp .neq 25 (a3 l) (a3 []) : Sem Value), .bool true), (Builtin.len_ #[26] 3 #[v20], .int .i64 0)]
      hW2 (by subst hK2; kernel_rfl) ⟨congrArg (Value.int .i64) (i64_small (by omega) (by omega)), congrArg Value.bool (by simp), trivial⟩
      ⟨fun wx hx => sem_str (key H2 wx hx), fun wx hx => sem_str (r1.walk hW2 hx), fun wx _ => bne_str wx _ _ _, fun wx hx => sem_str (key R3 wx hx), fun wx hx => sem_str (r2.walk hW2 hx), fun wx _ => bne_str wx _ _ _, fun wx _ => (show (!zero3 l) = true by rw [hz]; rfl) ▸ neq_z3 wx _ _ _, fun wx _ => Y2.rd.run_len (ty := 3) bt.sl, trivial⟩ ?_
    intro w3 hW3 _
    refine (tells_any (hk.keep0 hW3.keep) (hs.keep0 hW3.keep)).mono ?_
    rintro e w4 ⟨rfl, k4⟩
    refine ⟨_, rfl, ?_⟩
    have hW4 := hW3.later k4
    exact go_ret (gt := fun _ => Option.none) (unroll := false) 60 [] [.tmp 8] (.bool true) [] [] hW4 Tryd.results10 (by kernel_rfl) trivial trivial (fun w9 hW9 _ => ⟨rfl, hW9.keep⟩)
/-- A frame that was got, its cells shown. -/
theorem get_cells {w1 w2 : World} {rows : List RowS} {W0 : World} {f : Fr} {c : Fc} (F : GetF w1 f c w2) (hW1 : Wst W0 ⟨rows, w1.heap.size⟩ w1) : ∃ to tn tc bo bn bc ro rn rc K, fiCells c.i to tn tc bo bn bc ro rn rc = K ∧ f.a = K.a ∧ Hd rows w2 (.slice to tn tc) c.i.tags ∧ HdB rows w2 (.slice bo bn bc) c.i.body ∧ HdB rows w2 (.slice ro rn rc) c.i.rest := by
  have hF := F.hd hW1
  obtain ⟨uo, un, uc, xo, xn, xc, yo, yn, yc, e1, e2, e3⟩ := hF.forms
  have hT := hF.t
  have hB := hF.b
  have hR := hF.r
  rw [e1] at hT
  rw [e2] at hB
  rw [e3] at hR
  exact ⟨uo, un, uc, xo, xn, xc, yo, yn, yc, _, rfl, by rw [hF.cells, e1, e2, e3], hT, hB, hR⟩
/-- From the two carriers on. -/
theorem sn_mid {t : Nat} {u1 u2 v9 v11 : Value} {body rest : List UInt8} (hk : Kh w) (hs : Sh w) (ht1 : 1536 ≤ t) (ht : t < 65536) (h3 : t ≠ 33024) (h4 : t ≠ 34984) (r1 : Rd w u1 body) (r2 : Rd w u2 rest) (hb1 : body.length ≤ 1492) (hb2 : rest.length ≤ 60) (w0 : World)
    (hW0 : Wst w ⟨snR w l, w0.heap.size⟩ w0) (H9 : HdB (snR w l) w0 v9 (bytes2 t ++ body)) (A11 : Ab w0 v11 (snH t (8 + body.length) l ++ body)) (P11 : Ap (snR w l) v11) (S11 : Since w.heap.size v11) :
    Goal Tryd.prog (bodyPost Tryd.prog Tryd.f10 (esQ w)) snN ⟨frOf [0, 1, 2, 7, 9, 11] [.int .u16 (t : Int), u1, u2, pT w.heap.size, v9, v11], tagL [(7, 0)], ⟨snR w l, w0.heap.size⟩, opsR snC 8⟩ w0 := by
  have l2 : (bytes2 t).length = 2 := rfl
  have lh : (snH t (8 + body.length) l).length = 10 := rfl
  have hm1 := sn1_may (body := body) ht1 ht h3 h4
  have hm2 := sn2_may (t := t) (l := l) (rest := rest) ht hb1
  have w1len := with_len [2] [4] (bytes2 t ++ body)
  have w2len := with_len [2] [4] (snH t (8 + body.length) l ++ body ++ rest)
  simp only [List.length_append, l2, lh] at w1len w2len
  have q1 := law_there (c := sn1 t body) rfl hm1 (by show (withR [2] [4] [] (bytes2 t ++ body)).length ≤ 65535; omega)
  have q2 := law_there (c := sn2 t l body rest) rfl hm2 (by rw [sn2_beh]; show (withR [2] [4] [] (snH t (8 + body.length) l ++ body ++ rest)).length ≤ 65535; omega)
  rw [sn2_beh] at q2
  have q1 : (frameR (withR [2] [4] [] (bytes2 t ++ body))).2 = 0 ∧ FiEq (frameR (withR [2] [4] [] (bytes2 t ++ body))).1.i (sn1 t body) := q1
  have q2 : (frameR (withR [2] [4] [] (snH t (8 + body.length) l ++ body ++ rest))).2 = 0 ∧ FiEq (frameR (withR [2] [4] [] (snH t (8 + body.length) l ++ body ++ rest))).1.i (sn2 t l body rest) := q2
  obtain ⟨z1, q1⟩ := q1
  obtain ⟨z2, q2⟩ := q2
  -- the frame of type two
  refine go_call_is (gt := fun _ => Option.none) (unroll := false) 60 [] 21 [a6 [2], a6 [4], nilV, v9] [0, 1, 2, 7, 11] [.int .u16 (t : Int), u1, u2, pT w.heap.size, v11] 75 (snR w l) [(7, 0)] (inR snC 8 3) [] [] hW0 (by kernel_rfl) trivial trivial ?_
  intro wa hWa hSa
  have H9a := H9.pass0 hSa
  have A11a : Ab wa v11 (snH t (8 + body.length) l ++ body) := A11.same (fun b hb => hSa.same b ⟨A11.lt b hb, fun r hr _ => P11 b hb r hr⟩) hSa.le
  refine (with_any [2] [4] (Rt.nil wa) (by simp) H9a.rd (by simp only [List.length_append, l2]; omega) (hk.keep0 hWa.keep)).mono ?_
  rintro e wb ⟨vw, rfl, kb, fb⟩
  refine ⟨_, rfl, ?_⟩
  have hWb := hWa.later kb
  have A11b := A11a.keep0 kb
  have Hw := fb_hd fb hWa
  refine go_call_is (gt := fun _ => Option.none) (unroll := false) 60 [] 23 [vw] [0, 1, 2, 7, 11] [.int .u16 (t : Int), u1, u2, pT w.heap.size, v11] 76 (snR w l) [(7, 0)] (inR snC 8 4) [] [] hWb (by kernel_rfl) trivial trivial ?_
  intro wc hWc hSc
  have Hwc := Hw.pass0 hSc
  have A11c : Ab wc v11 (snH t (8 + body.length) l ++ body) := A11b.same (fun b hb => hSc.same b ⟨A11b.lt b hb, fun r hr _ => P11 b hb r hr⟩) hSc.le
  refine (get_any Hwc.rd (by omega) (hk.keep0 hWc.keep) (hs.keep0 hWc.keep)).mono ?_
  rintro x wd ⟨f1, rfl, F1⟩
  refine ⟨_, rfl, ?_⟩
  have hWd := hWc.later F1.keep
  have A11d := A11c.keep0 F1.keep
  have hle1 := F1.keep.size
  obtain ⟨ao, an, ac, bo, bn, bc, co, cn, cc, K1, hK1, e1, T1, B1, R1⟩ := get_cells F1 hWc
  have sB1 : ∀ b, (Value.slice bo bn bc).ownBlock = some b → v11.ownBlock ≠ some b := by
    have h := F1.sb
    have e : f1.body.ownBlock = (Value.slice bo bn bc).ownBlock ∨ True := .inr trivial
    intro b hb h11
    have h2 := A11c.lt b h11
    have hh : f1.a[21]? = K1.a[21]? := by rw [e1]
    subst hK1
    have : f1.body = .slice bo bn bc := Option.some.inj hh
    rw [this] at h
    have := h b hb
    omega
  rw [z1, e1]
  clear F1 e1
  -- the frame of SNAP
  refine go_appX (gt := fun _ => Option.none) (unroll := false) 60 [(9, 4, .stop)] v11 u2 26 [0, 1, 2, 7, 12, 13, 80, 81] [.int .u16 (t : Int), u1, u2, pT w.heap.size, pT wd.heap.size, .int .i64 0, a6 [2], a6 [4]] 84 (snR w l ++ [⟨wd.heap.size, K1.a.toList, true⟩]) [(7, 0), (12, 1)] (inR snC 9 4) [] [] hWd (by subst hK1; kernel_rfl) trivial trivial ?_
  intro we hWe hSe
  have hme : ∀ r ∈ ([⟨wd.heap.size, K1.a.toList, true⟩] : List RowS), wd.heap.size ≤ r.b := fun r hr => by obtain rfl := List.mem_singleton.1 hr; exact Nat.le_refl _
  have B1e := B1.pass _ hSe hme
  have P11e : Ap (snR w l ++ [⟨wd.heap.size, K1.a.toList, true⟩]) v11 := P11.add A11d.lt hme
  have A11e : Ab we v11 (snH t (8 + body.length) l ++ body) := A11d.same (fun b hb => hSe.same b ⟨A11d.lt b hb, fun r hr _ => P11 b hb r hr⟩) hSe.le
  obtain ⟨v84, wf, hrun, A84, k84, o84⟩ := run_append_ab A11e (r2.keep0 hWe.keep) (by simp only [List.length_append, lh]; omega)
  refine ⟨v84, wf, hrun, ?_⟩
  have hWf := hWe.laterS k84 (fun q hq => ⟨S11 q hq, fun r hr => P11e q hq r hr⟩)
  have B1f : HdB (snR w l ++ [⟨wd.heap.size, K1.a.toList, true⟩]) wf (.slice bo bn bc) (frameR (withR [2] [4] [] (bytes2 t ++ body))).1.i.body := ⟨B1e.rd.keep k84 (fun b hb h => sB1 b hb h), B1e.lt.mono k84.size, B1e.ap⟩
  have H84 : HdB (snR w l ++ [⟨wd.heap.size, K1.a.toList, true⟩]) wf v84 (snH t (8 + body.length) l ++ body ++ rest) := ⟨A84.rd, A84.lt, by
    rcases o84 with o | o
    · intro b hb r hr; rw [o] at hb; exact P11e b hb r hr
    · exact Ap.fresh hWe o⟩
  refine go_call_is (gt := fun _ => Option.none) (unroll := false) 60 [] 21 [a6 [2], a6 [4], nilV, v84] [0, 1, 2, 7, 12, 13] [.int .u16 (t : Int), u1, u2, pT w.heap.size, pT wd.heap.size, .int .i64 0] 85 (snR w l ++ [⟨wd.heap.size, K1.a.toList, true⟩]) [(7, 0), (12, 1)] (inR snC 9 5) [] [] hWf (by kernel_rfl) trivial trivial ?_
  intro wg hWg hSg
  have H84g := H84.pass0 hSg
  have B1g := B1f.pass0 hSg
  refine (with_any [2] [4] (Rt.nil wg) (by simp) H84g.rd (by simp only [List.length_append, lh]; omega) (hk.keep0 hWg.keep)).mono ?_
  rintro e wh ⟨vw2, rfl, kh, fh⟩
  refine ⟨_, rfl, ?_⟩
  have hWh := hWg.later kh
  have B1h := B1g.call kh
  have Hw2 := fb_hd fh hWg
  refine go_call_is (gt := fun _ => Option.none) (unroll := false) 60 [] 23 [vw2] [0, 1, 2, 7, 12, 13] [.int .u16 (t : Int), u1, u2, pT w.heap.size, pT wd.heap.size, .int .i64 0] 86 (snR w l ++ [⟨wd.heap.size, K1.a.toList, true⟩]) [(7, 0), (12, 1)] (inR snC 9 6) [] [] hWh (by kernel_rfl) trivial trivial ?_
  intro wi hWi hSi
  have Hwi := Hw2.pass0 hSi
  have B1i := B1h.pass0 hSi
  refine (get_any Hwi.rd (by omega) (hk.keep0 hWi.keep) (hs.keep0 hWi.keep)).mono ?_
  rintro x wj ⟨f2, rfl, F2⟩
  refine ⟨_, rfl, ?_⟩
  have hWj := hWi.later F2.keep
  have B1j := B1i.call F2.keep
  obtain ⟨do', dn, dc, eo, en, ec, fo, fn, fc, K2, hK2, e2, T2, B2, R2⟩ := get_cells F2 hWi
  rw [z2, e2]
  clear F2 e2
  -- what they carry
  refine go_call_is (gt := fun _ => Option.none) (unroll := false) 60 [] 17 [.agg K1.a] [0, 1, 2, 7, 13, 14, 15] [.int .u16 (t : Int), u1, u2, pT w.heap.size, .int .i64 0, pT wj.heap.size, .int .i64 0] 91 ((snR w l ++ [⟨wd.heap.size, K1.a.toList, true⟩]) ++ [⟨wj.heap.size, K2.a.toList, true⟩]) [(7, 0), (14, 2)] (inR snC 10 1) [] [] hWj (by subst hK2 hK1; kernel_rfl) trivial trivial ?_
  intro wk hWk hSk
  have hmk : ∀ r ∈ ([⟨wj.heap.size, K2.a.toList, true⟩] : List RowS), wj.heap.size ≤ r.b := fun r hr => by obtain rfl := List.mem_singleton.1 hr; exact Nat.le_refl _
  have B1k := B1j.pass _ hSk hmk
  have B2k := B2.pass _ hSk hmk
  have R2k := R2.pass _ hSk hmk
  have eb1 : (frameR (withR [2] [4] [] (bytes2 t ++ body))).1.i.body = body := q1.body
  have eb2 : (frameR (withR [2] [4] [] (snH t (8 + body.length) l ++ body ++ rest))).1.i.body = body := q2.body
  have et1 : (frameR (withR [2] [4] [] (bytes2 t ++ body))).1.i.typ = (t : Int) := q1.typ
  have ep1 : pOk (frameR (withR [2] [4] [] (bytes2 t ++ body))).1.i = true := by rw [pOk_eq q1]; rfl
  refine (proto_f hK1 B1k.rd (by rw [eb1]; omega)).mono ?_
  rintro e wl ⟨v17, rfl, kl, fl⟩
  refine ⟨_, rfl, ?_⟩
  have hWl := hWk.later kl
  rw [ep1, eb1] at fl
  rw [ep1, et1]
  simp only [if_true] at fl ⊢
  have H17 := fb_hd fl hWk
  have B2l := B2k.call kl
  have R2l := R2k.call kl
  have hrows : ∀ {v : Value}, Ap ((snR w l ++ [⟨wd.heap.size, K1.a.toList, true⟩]) ++ [⟨wj.heap.size, K2.a.toList, true⟩]) v → Ap (snR w l ++ [⟨wj.heap.size, K2.a.toList, true⟩]) v := fun h b hb r hr => h b hb r (by
    rcases List.mem_append.1 hr with hr | hr
    · exact List.mem_append.2 (.inl (List.mem_append.2 (.inl hr)))
    · exact List.mem_append.2 (.inr hr))
  have hWl' : Wst w ⟨snR w l ++ [⟨wj.heap.size, K2.a.toList, true⟩], wl.heap.size⟩ wl := by
    obtain ⟨a1, a2, a3, a4, a5⟩ := hWl
    have hin : ∀ r, r ∈ snR w l ++ [⟨wj.heap.size, K2.a.toList, true⟩] → r ∈ (snR w l ++ [⟨wd.heap.size, K1.a.toList, true⟩]) ++ [⟨wj.heap.size, K2.a.toList, true⟩] := fun r hr => by
      rcases List.mem_append.1 hr with hr | hr
      · exact List.mem_append.2 (.inl (List.mem_append.2 (.inl hr)))
      · exact List.mem_append.2 (.inr hr)
    refine ⟨rfl, fun r hr => a2 r (hin r hr), ?_, fun r hr => a4 r (hin r hr), a5⟩
    simp only [List.cons_append, List.nil_append, List.map_cons, List.map_nil, List.nodup_cons, List.mem_cons, List.not_mem_nil, or_false, not_or] at a3 ⊢
    exact ⟨a3.1.2, a3.2.2⟩
  refine Goal.re (tags := tagL [(7, 0), (14, 1)]) (m := ⟨snR w l ++ [⟨wj.heap.size, K2.a.toList, true⟩], wl.heap.size⟩) ?_
  refine go_stop (gt := fun _ => Option.none) (unroll := false) 60 [(11, 0, .stop)] [0, 1, 2, 7, 13, 14, 15, 16, 17, 18] [.int .u16 (t : Int), u1, u2, pT w.heap.size, .int .i64 0, pT wj.heap.size, .int .i64 0, .int .i64 (t : Int), v17, .bool true] (snR w l ++ [⟨wj.heap.size, K2.a.toList, true⟩]) [(7, 0), (14, 1)] (opsR snC 11) [] [] hWl' (by kernel_rfl) trivial trivial ?_
  intro wm hWm hSm
  exact sn_end hK2 hk hs ht r1 r2 q2 wm hWm (HdB.pass0 ⟨H17.rd, H17.lt, hrows H17.ap⟩ hSm) (HdB.pass0 ⟨B2l.rd, B2l.lt, hrows B2l.ap⟩ hSm) (HdB.pass0 ⟨R2l.rd, R2l.lt, hrows R2l.ap⟩ hSm) rfl (by rw [eb2]; omega)
theorem mx_le (a b : Nat) : a ≤ mx a b ∧ b ≤ mx a b ∧ (mx a b = a ∨ mx a b = b) := by
  unfold mx
  split <;> omega
set_option maxRecDepth 4000 in
theorem ethersnap_walk (hn : n < 65536) (hk : Kh w) (hs : Sh w) (rb1 : Rd w vb bs1) (rb2 : Rd w vr bs2) : Calls Tryd.prog 10 #[.int .u16 (n : Int), vb, vr, a3 l] w (esQ w) := by
  have hm1 := mn_le_left bs1.length 1492
  have hm2 := mn_le_left bs2.length 60
  have hm3 := mn_le_right bs1.length 1492
  have hm4 := mn_le_right bs2.length 60
  have hx := mx_le n 1536
  refine enter (args := [.int .u16 (n : Int), vb, vr, a3 l]) Tryd.func10 (by kernel_rfl) ?_
  refine go_drawn_is (gt := fun _ => Option.none) (unroll := false) 60 [(1, 1, .sem (.int .u16 (mx n 1536 : Nat)))] [] [(Builtin.max_ #[55, 55] 55 #[.int .u16 (n : Int), .int .u16 1536], .int .u16 (mx n 1536 : Nat))]
    [(2, .sem (.int .i64 (bs1.length : Int))), (3, .sem (.int .i64 (mn bs1.length 1492 : Nat))), (4, .sem (cutv vb 0 (mn bs1.length 1492))), (7, .sem (.int .i64 (bs2.length : Int))), (8, .sem (.int .i64 (mn bs2.length 60 : Nat))), (9, .sem (cutv vr 0 (mn bs2.length 60)))]
    [0, 1, 2, 7] [.int .u16 (mx n 1536 : Nat), cutv vb 0 (mn bs1.length 1492), cutv vr 0 (mn bs2.length 60), pT w.heap.size] (snR w l) [(7, 0)] (afterR snC 2) [] [] []
    [(Builtin.len_ #[26] 3 #[vb], .int .i64 (bs1.length : Int)), (Builtin.min_ #[3, 3] 3 #[.int .i64 (bs1.length : Int), .int .i64 1492], .int .i64 (mn bs1.length 1492 : Nat)), (Instr.sliceAt 26 vb Option.none (some (.int .i64 (mn bs1.length 1492 : Nat))) Option.none, cutv vb 0 (mn bs1.length 1492)),
     (Builtin.len_ #[26] 3 #[vr], .int .i64 (bs2.length : Int)), (Builtin.min_ #[3, 3] 3 #[.int .i64 (bs2.length : Int), .int .i64 60], .int .i64 (mn bs2.length 60 : Nat)), (Instr.sliceAt 26 vr Option.none (some (.int .i64 (mn bs2.length 60 : Nat))) Option.none, cutv vr 0 (mn bs2.length 60))]
    (Wst.start0 w) (by kernel_rfl) (by kernel_rfl) (by kernel_rfl) trivial ⟨fun wx _ => run_mx #[55, 55] 55 n 1536, trivial⟩ trivial ?_
  intro w1 hW1 _
  refine ⟨trivial, trivial, ⟨fun wx _ => rb1.run_len (ty := 3) bt.sl, fun wx _ => run_mn #[3, 3] 3 bs1.length 1492, fun wx _ => rb1.sem_cutH hm1 wx, fun wx _ => rb2.run_len (ty := 3) bt.sl, fun wx _ => run_mn #[3, 3] 3 bs2.length 60, fun wx _ => rb2.sem_cutH hm2 wx, trivial⟩, ?_⟩
  intro w2 _ hW2 _
  have hl1 : ((bs1.drop 0).take (mn bs1.length 1492 - 0)).length ≤ 1492 := by simp; omega
  have hl2 : ((bs2.drop 0).take (mn bs2.length 60 - 0)).length ≤ 60 := by simp; omega
  have r1 := rb1.cut (l := 0) (h := mn bs1.length 1492) (Nat.zero_le _) hm1
  have r2 := rb2.cut (l := 0) (h := mn bs2.length 60) (Nat.zero_le _) hm2
  generalize (bs1.drop 0).take (mn bs1.length 1492 - 0) = body at *
  generalize (bs2.drop 0).take (mn bs2.length 60 - 0) = rest at *
  generalize cutv vb 0 (mn bs1.length 1492) = u1 at *
  generalize cutv vr 0 (mn bs2.length 60) = u2 at *
  have ht1 : 1536 ≤ mx n 1536 := hx.2.1
  have ht : mx n 1536 < 65536 := by omega
  generalize mx n 1536 = t at *
  have tell : ∀ w3, Wst w ⟨snR w l, w3.heap.size⟩ w3 → Calls Tryd.prog 19 #[] w3 (fun e w4 => ∃ v, e = .returned v ∧ Goal Tryd.prog (bodyPost Tryd.prog Tryd.f10 (esQ w)) snN ⟨frOf [40] [v], tagL [], ⟨snR w l, w4.heap.size⟩, inR snC 4 0⟩ w4) := by
    intro w3 hW3
    refine (tells_any (hk.keep0 hW3.keep) (hs.keep0 hW3.keep)).mono ?_
    rintro e w4 ⟨rfl, k4⟩
    refine ⟨_, rfl, ?_⟩
    have hW4 := hW3.later k4
    exact go_ret (gt := fun _ => Option.none) (unroll := false) 60 [] [.tmp 8] (.bool true) [] [] hW4 Tryd.results10 (by kernel_rfl) trivial trivial (fun w9 hW9 _ => ⟨rfl, hW9.keep⟩)
  by_cases h3 : t = 33024
  · refine go_call_is (gt := fun _ => Option.none) (unroll := false) 60 [(3, 1, .is (.bool true))] 19 [] [] [] 40 (snR w l) [] (inR snC 4 0) [(.bool ((t : Int) == 33024), .bool true)] [] hW2 (by kernel_rfl) ⟨congrArg Value.bool (by simp; omega), trivial⟩ trivial (fun w3 hW3 _ => tell w3 hW3)
  by_cases h4 : t = 34984
  · refine go_call_is (gt := fun _ => Option.none) (unroll := false) 60 [(3, 1, .is (.bool false)), (3, 4, .is (.bool true))] 19 [] [] [] 40 (snR w l) [] (inR snC 4 0) [(.bool ((t : Int) == 33024), .bool false), (.bool ((t : Int) == 34984), .bool true)] [] hW2 (by kernel_rfl) ⟨congrArg Value.bool (by simp; omega), congrArg Value.bool (by simp; omega), trivial⟩ trivial (fun w3 hW3 _ => tell w3 hW3)
  refine go_appX (gt := fun _ => Option.none) (unroll := false) 60 [(3, 1, .is (.bool false)), (3, 4, .is (.bool false)), (5, 1, .is (.int .u16 ((t / 256 : Nat) : Int))), (5, 2, .is (bY (t / 256))), (5, 4, .is (bY t)), (5, 7, .stop)] (.slice (some ⟨w2.heap.size, 0, none⟩) 2 2) u1 26 [0, 1, 2, 7] [.int .u16 (t : Int), u1, u2, pT w.heap.size] 48 (snR w l ++ [⟨w2.heap.size, bvs (bytes2 t), true⟩]) [(7, 0)] (inR snC 5 7)
    [(.bool ((t : Int) == 33024), .bool false), (.bool ((t : Int) == 34984), .bool false), (.int .u16 (Int.fdiv (t : Int) (2 ^ 8)), .int .u16 ((t / 256 : Nat) : Int)), (.int .u8 (IntKind.u8.wrap ((t / 256 : Nat) : Int)), bY (t / 256)), (.int .u8 (IntKind.u8.wrap (t : Int)), bY t)] [] hW2 (by kernel_rfl)
    ⟨congrArg Value.bool (by simp; omega), congrArg Value.bool (by simp; omega), congrArg (Value.int .u16) (fdiv_nat t), congrArg (Value.int .u8) (m_lo _), congrArg (Value.int .u8) (m_lo _), trivial⟩ trivial ?_
  intro w3 hW3 _
  have l2 : (bytes2 t).length = 2 := rfl
  have fu2 : ∀ {b : Nat} {bs : List UInt8} {wx : World} {rows : List RowS} (m : Nat), bs.length = m → m ≤ maxLen → Wst w ⟨rows ++ [⟨b, bvs bs, true⟩], wx.heap.size⟩ wx → Fu wx (.slice (some ⟨b, 0, none⟩) m m) bs := fun {b bs wx rows} m hm hmm hW => by
    have rr := Rd.of_row (bs := bs) (cs := bvs bs) (ow := true) hW (b := b) (off := 0) (by simp) m hm hmm (fun i hi => by rw [Nat.zero_add]; exact bvs_get hi)
    obtain ⟨t', ht'⟩ := hW.rows ⟨b, bvs bs, true⟩ (by simp)
    exact ⟨b, 0, by rw [hm], rr, block_of_row ht'⟩
  obtain ⟨v9, w4, hrun, A9, k4, o9⟩ := run_append_ab (.inr (fu2 2 l2 (by simp [maxLen]) hW3)) (r1.keep0 hW3.keep) (by simp only [l2]; omega)
  refine ⟨v9, w4, hrun, ?_⟩
  have hs2 : w.heap.size < w2.heap.size := by
    obtain ⟨t', ht'⟩ := hW2.rows _ (List.mem_singleton.2 rfl)
    exact block_of_row ht'
  have hap2 : ∀ {b : Nat}, w2.heap.size ≤ b → ∀ r ∈ snR w l, r.b ≠ b := fun h r hr => by obtain rfl := List.mem_singleton.1 hr; show w.heap.size ≠ _; omega
  have le23 : w2.heap.size < w3.heap.size := by
    obtain ⟨t', ht'⟩ := hW3.rows ⟨w2.heap.size, bvs (bytes2 t), true⟩ (by simp)
    exact block_of_row ht'
  have hW3' : Wst w ⟨snR w l, w3.heap.size⟩ w3 := hW3.fewer
  have hW4 : Wst w ⟨snR w l, w4.heap.size⟩ w4 := hW3'.laterS k4 (fun q hq => by
    obtain rfl : w2.heap.size = q := Option.some.inj hq
    exact ⟨hW2.keep.size, fun r hr => hap2 (Nat.le_refl _) r hr⟩)
  have P9 : Ap (snR w l) v9 := by
    rcases o9 with o | o
    · intro b hb r hr
      rw [o] at hb
      obtain rfl : w2.heap.size = b := Option.some.inj hb
      exact hap2 (Nat.le_refl _) r hr
    · exact Ap.fresh hW3' o
  have H9 : HdB (snR w l) w4 v9 (bytes2 t ++ body) := ⟨A9.rd, A9.lt, P9⟩
  refine Goal.re (tags := tagL [(7, 0)]) (m := ⟨snR w l, w4.heap.size⟩) ?_
  refine go_appX (gt := fun _ => Option.none) (unroll := false) 100 [(6, 1, .sem (.int .i64 (body.length : Int))), (6, 2, .is (.int .i64 ((8 + body.length : Nat) : Int))), (7, 1, .is (.int .i64 (((8 + body.length) / 256 : Nat) : Int))), (7, 2, .is (bY ((8 + body.length) / 256))), (7, 4, .is (bY (8 + body.length))), (7, 12, .is (.int .u16 ((t / 256 : Nat) : Int))), (7, 13, .is (bY (t / 256))), (7, 15, .is (bY t)), (7, 18, .stop)] (.slice (some ⟨w4.heap.size, 0, none⟩) 10 10) u1 26 [0, 1, 2, 7, 9] [.int .u16 (t : Int), u1, u2, pT w.heap.size, v9] 70 (snR w l ++ [⟨w4.heap.size, bvs (snH t (8 + body.length) l), true⟩]) [(7, 0)] (inR snC 7 18)
    [(.int .i64 (IntKind.i64.wrap ((body.length : Int) + 8)), .int .i64 ((8 + body.length : Nat) : Int)), (.int .i64 (Int.fdiv ((8 + body.length : Nat) : Int) (2 ^ 8)), .int .i64 (((8 + body.length) / 256 : Nat) : Int)), (.int .u8 (IntKind.u8.wrap (((8 + body.length) / 256 : Nat) : Int)), bY ((8 + body.length) / 256)), (.int .u8 (IntKind.u8.wrap ((8 + body.length : Nat) : Int)), bY (8 + body.length)), (.int .u16 (Int.fdiv (t : Int) (2 ^ 8)), .int .u16 ((t / 256 : Nat) : Int)), (.int .u8 (IntKind.u8.wrap ((t / 256 : Nat) : Int)), bY (t / 256)), (.int .u8 (IntKind.u8.wrap (t : Int)), bY t)] [(Builtin.len_ #[26] 3 #[u1], .int .i64 (body.length : Int))] hW4 (by kernel_rfl)
    ⟨congrArg (Value.int .i64) (by rw [i64_small (by omega) (by omega)]; omega), congrArg (Value.int .i64) (fdiv_nat _), congrArg (Value.int .u8) (m_lo _), congrArg (Value.int .u8) (m_lo _), congrArg (Value.int .u16) (fdiv_nat t), congrArg (Value.int .u8) (m_lo _), congrArg (Value.int .u8) (m_lo _), trivial⟩ ⟨fun wx _ => r1.run_len (ty := 3) bt.sl, trivial⟩ ?_
  intro w5 hW5 hS5
  have hm5 : ∀ r ∈ ([⟨w4.heap.size, bvs (snH t (8 + body.length) l), true⟩] : List RowS), w4.heap.size ≤ r.b := fun r hr => by obtain rfl := List.mem_singleton.1 hr; exact Nat.le_refl _
  have H9' := H9.pass _ hS5 hm5
  have lh : (snH t (8 + body.length) l).length = 10 := rfl
  obtain ⟨v11, w6, hrun, A11, k6, o11⟩ := run_append_ab (.inr (fu2 10 lh (by simp [maxLen]) hW5)) (r1.keep0 hW5.keep) (by simp only [lh]; omega)
  refine ⟨v11, w6, hrun, ?_⟩
  have hs4 : w.heap.size < w4.heap.size := by
    obtain ⟨t', ht'⟩ := hW4.rows _ (List.mem_singleton.2 rfl)
    exact block_of_row ht'
  have hW5' : Wst w ⟨snR w l, w5.heap.size⟩ w5 := hW5.fewer
  have hap4 : ∀ r ∈ snR w l, r.b ≠ w4.heap.size := fun r hr => by obtain rfl := List.mem_singleton.1 hr; show w.heap.size ≠ _; omega
  have hW6 : Wst w ⟨snR w l, w6.heap.size⟩ w6 := hW5'.laterS k6 (fun q hq => by
    obtain rfl : w4.heap.size = q := Option.some.inj hq
    exact ⟨hW4.keep.size, hap4⟩)
  have P11 : Ap (snR w l) v11 := by
    rcases o11 with o | o
    · intro b hb r hr
      rw [o] at hb
      obtain rfl : w4.heap.size = b := Option.some.inj hb
      exact hap4 r hr
    · exact Ap.fresh hW5' o
  have S11 : Since w.heap.size v11 := by
    rcases o11 with o | o
    · intro b hb
      rw [o] at hb
      obtain rfl : w4.heap.size = b := Option.some.inj hb
      exact hW4.keep.size
    · exact o.mono hW5.keep.size
  have H9b : HdB (snR w l) w6 v9 (bytes2 t ++ body) := ⟨H9'.rd.keep k6 (fun b hb h => by
    obtain rfl : w4.heap.size = b := Option.some.inj h
    have := H9.lt _ hb
    omega), H9'.lt.mono k6.size, P9⟩
  refine Goal.re (tags := tagL [(7, 0)]) (m := ⟨snR w l, w6.heap.size⟩) ?_
  refine go_stop (gt := fun _ => Option.none) (unroll := false) 60 [(8, 0, .stop)] [0, 1, 2, 7, 9, 11] [.int .u16 (t : Int), u1, u2, pT w.heap.size, v9, v11] (snR w l) [(7, 0)] (opsR snC 8) [] [] hW6 (by kernel_rfl) trivial trivial ?_
  intro w7 hW7 hS7
  exact sn_mid hk hs ht1 ht h3 h4 r1 r2 hl1 hl2 w7 hW7 (H9b.pass0 hS7) (A11.same (fun b hb => hS7.same b ⟨A11.lt b hb, fun r hr _ => P11 b hb r hr⟩) hS7.le) P11 S11
end
end Go.Proofs.YtcimfojbggckhaaDoor
namespace Go.Proofs.YtcimfojbggckhaaDoor
open Go.RowKit

theorem by_conv {w0 : World} {x : Tmp} {ty : TypeId} {s : Sv} {l : List UInt8} (hs : ∀ w v, s.ok w v → Rd w v l) : ByOb Tryd.prog w0 (.convert 26 9 (.tmp x)) ty [(x, s)] (.is (.string (str l))) := by
  intro a o w ho hty k hr
  have h := hs w _ (hr (x, s) (by simp))
  unfold execOp
  simp only [ho, Sem.run_bind]
  rw [show a.eval (.tmp x) = a.tmps.getD x undef from rfl, sem_str h]
  exact ⟨Keep.refl _ _, rfl⟩
structure FrP (N : Nat) (c : Fi) (g : Gh) (w : World) (vt vb vr : Value) : Prop where
  t : Rt w vt c.tags
  b : Rd w vb c.body
  r : Rd w vr c.rest
  st : Since N vt
  sb : Since N vb
  sr : Since N vr
  lt : ∀ q, vt.ownBlock = some q → q < w.heap.size ∧ ¬ g.priv q
  lb : ∀ q, vb.ownBlock = some q → q < w.heap.size ∧ ¬ g.priv q
  lr : ∀ q, vr.ownBlock = some q → q < w.heap.size ∧ ¬ g.priv q
theorem priv_tr {g g' : Gh} {w w' : World} {v : Value} (k : Tr g w g' w') (h : ∀ q, v.ownBlock = some q → q < w.heap.size ∧ ¬ g.priv q) : ∀ q, v.ownBlock = some q → q < w'.heap.size ∧ ¬ g'.priv q := fun q hq =>
  ⟨Nat.lt_of_lt_of_le (h q hq).1 k.keep.size, fun hp => by
    rcases k.priv q hp with h1 | h1
    · exact (h q hq).2 h1
    · have := (h q hq).1; omega⟩
theorem FrP.tr {N : Nat} {c : Fi} {g g' : Gh} {w w' : World} {t b r : Value} (h : FrP N c g w t b r) (k : Tr g w g' w') : FrP N c g' w' t b r :=
  ⟨h.t.keep k.keep fun q hq => (h.lt q hq).2, h.b.keep k.keep fun q hq => (h.lb q hq).2, h.r.keep k.keep fun q hq => (h.lr q hq).2, h.st, h.sb, h.sr, priv_tr k h.lt, priv_tr k h.lb, priv_tr k h.lr⟩
def fgX (N : Nat) (c : Fi) (g : Gh) (w : World) (x : Value) : Prop := ∃ to tn tc bo bn bc ro rn rc, x = .agg (fiCells c to tn tc bo bn bc ro rn rc).a ∧ FrP N c g w (.slice to tn tc) (.slice bo bn bc) (.slice ro rn rc)
theorem fgX.tr {N : Nat} {c : Fi} {g g' : Gh} {w w' : World} {x : Value} (h : fgX N c g w x) (k : Tr g w g' w') : fgX N c g' w' x := by
  obtain ⟨to, tn, tc, bo, bn, bc, ro, rn, rc, h1, h2⟩ := h
  exact ⟨to, tn, tc, bo, bn, bc, ro, rn, rc, h1, h2.tr k⟩
/-- A frame that tells c, of new memory. -/
def fgM (N : Nat) (c : Fi) : Sm := .such (fgX N c) (fun _ _ _ _ _ k h => h.tr k)
def fgT (N : Nat) (c : Fi) : Sm := .such (fun g w x => ∃ y, x = .tuple #[y, .int .i64 0] ∧ fgX N c g w y) (fun _ _ _ _ _ k h => by obtain ⟨y, h1, h2⟩ := h; exact ⟨y, h1, h2.tr k⟩)
/-- A row made, and filled with such a frame. -/
def EtD (N : Nat) (c : Fi) (w0 : World) : Nat → Gh → World → Prop
  | 0, g, _ => ¬ g.live ∧ ∀ b, ¬ g.priv b
  | 1, g, w => g.live ∧ ∃ b t, g.val = pT b ∧ g.priv = (fun j => j = b) ∧ w0.heap.size ≤ b ∧ w.heap[b]? = some (.cells fr0.a.toList.toArray t (0, 0))
  | _, g, w => g.live ∧ ∃ b t to tn tc bo bn bc ro rn rc, g.val = pT b ∧ g.priv = (fun j => j = b) ∧ w0.heap.size ≤ b ∧ w.heap[b]? = some (.cells (fiCells c to tn tc bo bn bc ro rn rc).a.toList.toArray t (0, 0)) ∧ FrP N c g w (.slice to tn tc) (.slice bo bn bc) (.slice ro rn rc)
theorem EtD.keep {N : Nat} {c : Fi} {w0 : World} : ∀ (k : Nat) (g : Gh) (w w' : World), Keep No w w' → EtD N c w0 k g w → EtD N c w0 k g w'
  | 0, _, _, _, _, h => h
  | 1, _, _, _, kp, ⟨h1, b, t, h2, h3, h4, h5⟩ => ⟨h1, b, t, h2, h3, h4, (kp.block b (block_of_row h5) (fun f => f)).trans h5⟩
  | _ + 2, _, _, _, kp, ⟨h1, b, t, to, tn, tc, bo, bn, bc, ro, rn, rc, h2, h3, h4, h5, h6⟩ => ⟨h1, b, t, to, tn, tc, bo, bn, bc, ro, rn, rc, h2, h3, h4, (kp.block b (block_of_row h5) (fun f => f)).trans h5, h6.tr (Tr.quiet kp)⟩
section
variable {P : Program} {w0 : World} {N : Nat} {c : Fi}
theorem et_alloc {e ty : TypeId} (hq : ∀ nx, gRun P none (Instr.alloc e true (.tuple #[])) ⟨[], nx⟩ = some (.pointer (some ⟨nx, 0, none⟩), ⟨[⟨nx, fr0.a.toList, true⟩], nx + 1⟩, [])) :
    ActM P No w0 (EtD N c w0) 0 (.alloc e) ty [] padS := by
  intro a o g w ho _ hk _ hd _
  obtain ⟨w', h1, h2, _⟩ := gRun_ok (Wst.start0 w) (hq w.heap.size) (fun _ h => nomatch h)
  have he : (execOp a.eval o).run P w = .ok (.value (.pointer (some ⟨w.heap.size, 0, none⟩))) w' := by
    unfold execOp
    simp only [ho, Sem.run_bind, Sem.run_pure]
    rw [h1]; rfl
  rw [he]
  obtain ⟨t, ht⟩ := h2.rows _ (List.mem_singleton.2 rfl)
  have hs : w0.heap.size ≤ w.heap.size := hk.size
  refine ⟨⟨True, .pointer (some ⟨w.heap.size, 0, none⟩), fun j => j = w.heap.size⟩, ⟨h2.keep.no, fun k h => .inr (Nat.le_of_eq (Eq.symm h)), fun h => absurd h hd.1⟩, ?_, ⟨trivial, _, t, rfl, rfl, hs, ht⟩, ⟨trivial, rfl⟩⟩
  rintro k rfl
  exact ⟨block_of_row ht, fun h => absurd h (Nat.not_lt.2 hs)⟩
theorem et_store {e ty : TypeId} {p v : Tmp} (l : Nat → List (Nat × Nat)) (hl : ∀ b, ∀ q ∈ l b, q.1 = q.2)
    (hq : ∀ to tn tc bo bn bc ro rn rc b nx, gRun P (some 0) (Instr.storeAt e (.pointer (some ⟨b, 0, none⟩)) (.agg (fiCells c to tn tc bo bn bc ro rn rc).a)) ⟨[⟨b, fr0.a.toList, true⟩], nx⟩ = some ((), ⟨[⟨b, (fiCells c to tn tc bo bn bc ro rn rc).a.toList, true⟩], nx⟩, l b)) :
    ActM P No w0 (EtD N c w0) 1 (.store e (.tmp p) (.tmp v)) ty [(p, padS), (v, fgM N c)] (.is undef) := by
  intro a o g w ho _ hk hb hd hr
  obtain ⟨hlive, b, t, hv, hp, hb0, hrow⟩ := hd
  have e1 : a.tmps.getD p undef = .pointer (some ⟨b, 0, none⟩) := (hr (p, padS) (by simp)).2.trans hv
  obtain ⟨to, tn, tc, bo, bn, bc, ro, rn, rc, e2, hF⟩ : fgX N c g w (a.tmps.getD v undef) := hr (v, fgM N c) (by simp)
  have hW : Wst w0 ⟨[⟨b, fr0.a.toList, true⟩], w.heap.size⟩ w := ⟨rfl, fun r hr => by obtain rfl := List.mem_singleton.1 hr; exact ⟨t, hrow⟩, by simp, fun r hr _ => by obtain rfl := List.mem_singleton.1 hr; exact hb0, hk⟩
  obtain ⟨w', h1, h2, h3⟩ := gRun_ok hW (hq to tn tc bo bn bc ro rn rc b w.heap.size) (hl b)
  have he : (execOp a.eval o).run P w = .ok .skip w' := by
    unfold execOp
    simp only [ho, Sem.run_bind, Sem.run_pure]
    rw [show a.eval (.tmp p) = .pointer (some ⟨b, 0, none⟩) from e1, show a.eval (.tmp v) = _ from e2, h1]; rfl
  rw [he]
  obtain ⟨t', ht⟩ := h2.rows _ (List.mem_singleton.2 rfl)
  have htr : Tr g w g w' := ⟨⟨h2.keep.os.trans hk.os.symm, h2.keep.tape.trans hk.tape.symm, h2.keep.output.trans hk.output.symm, by rw [h2.size]; exact Nat.le_refl _, fun k hkl hn => h3.same k ⟨hkl, fun r hr _ => by
    obtain rfl := List.mem_singleton.1 hr
    intro e
    exact hn (by rw [hp]; exact e.symm)⟩⟩, fun k h => .inl h, fun h => ⟨h, rfl⟩⟩
  refine ⟨g, htr, ?_, ⟨hlive, b, t', to, tn, tc, bo, bn, bc, ro, rn, rc, hv, hp, hb0, ht, hF.tr htr⟩, rfl⟩
  intro k h
  exact ⟨by have := (hb k h).1; rw [h2.size]; exact this, (hb k h).2⟩
theorem by_ext0 {S0 : Nat → Prop} {x : Tmp} {ty : TypeId} : ByM P S0 w0 (.extract (.tmp x) 0) ty [(x, fgT N c)] (fgM N c) := by
  intro a o g w ho _ _ _ hr
  obtain ⟨y, h1, h2⟩ : ∃ y, a.tmps.getD x undef = .tuple #[y, .int .i64 0] ∧ fgX N c g w y := hr (x, fgT N c) (by simp)
  unfold execOp
  simp only [ho, Sem.run_bind]
  rw [show a.eval (.tmp x) = a.tmps.getD x undef from rfl, h1]
  exact ⟨Keep.refl _ _, h2⟩
theorem by_ext1 {S0 : Nat → Prop} {x : Tmp} {ty : TypeId} : ByM P S0 w0 (.extract (.tmp x) 1) ty [(x, fgT N c)] (.is (.int .i64 0)) := by
  intro a o g w ho _ _ _ hr
  obtain ⟨y, h1, h2⟩ : ∃ y, a.tmps.getD x undef = .tuple #[y, .int .i64 0] ∧ fgX N c g w y := hr (x, fgT N c) (by simp)
  unfold execOp
  simp only [ho, Sem.run_bind]
  rw [show a.eval (.tmp x) = a.tmps.getD x undef from rfl, h1]
  exact ⟨Keep.refl _ _, rfl⟩
theorem by_mvM {S0 : Nat → Prop} {x : Tmp} {ty : TypeId} {s : Sm} : ByM P S0 w0 (.move (.tmp x)) ty [(x, s)] s := by
  intro a o g w ho _ _ _ hr
  have h := hr (x, s) (by simp)
  unfold execOp
  rw [ho]
  exact ⟨Keep.refl _ _, h⟩
end
section
variable {w0 : World} {c : Fi} {x1 x2 xt xb : Value} {d s cs : List UInt8} {l : List Tg}
theorem m_with {S0 : Nat → Prop} (hr : ∀ wx, Keep S0 w0 wx → Rt wx xt l ∧ Rd wx xb cs ∧ Kh wx) (hl : l.length ≤ 1000000) (hb : cs.length ≤ 1099000000000) : CallM Tryd.prog S0 w0 21 [.is (a6 d), .is (a6 s), .is xt, .is xb] (frB w0.heap.size (withR d s l cs)) := by
  intro g w vals k hbase hv
  match vals, hv with
  | [y1, y2, y3, y4], hv =>
    obtain rfl : y1 = _ := hv.1
    obtain rfl : y2 = _ := hv.2.1
    obtain rfl : y3 = _ := hv.2.2.1
    obtain rfl : y4 = _ := hv.2.2.2.1
    obtain ⟨h1, h2, h3⟩ := hr w k
    refine (with_any d s h1 hl h2 hb h3).mono ?_
    rintro e w' ⟨v, rfl, kk, q1, q2, q3⟩
    exact ⟨v, rfl, kk, q1, q2.mono k.size, fun b hb' => ⟨q3 b hb', fun hp => by have := (hbase b hp).1; have := q2 b hb'; omega⟩⟩
theorem m_get {S0 : Nat → Prop} {xs : List UInt8} (hks : ∀ wx, Keep S0 w0 wx → Kh wx ∧ Sh wx) (hl : xs.length ≤ 1099511627776) (hz : (frameR xs).2 = 0) (hq : FiEq (frameR xs).1.i c) : CallM Tryd.prog S0 w0 23 [frB w0.heap.size xs] (fgT w0.heap.size c) := by
  intro g w vals k hbase hv
  match vals, hv with
  | [y1], hv =>
    obtain ⟨h1, _, _⟩ : Rd w y1 xs ∧ _ := hv.1
    obtain ⟨h3, h4⟩ := hks w k
    refine (get_any h1 hl h3 h4).mono ?_
    rintro e w' ⟨f, rfl, F⟩
    have hF := F.is
    obtain ⟨uo, uc, e1, _⟩ := hF.tags.shape
    obtain ⟨xo, xn, xc, e2⟩ := hF.body.form
    obtain ⟨yo, yn, yc, e3⟩ := hF.rest.form
    have far : ∀ {v : Value}, Since w.heap.size v → Under w'.heap.size v → ∀ q, v.ownBlock = some q → q < w'.heap.size ∧ ¬ g.priv q := fun hs hu q hq' => ⟨hu q hq', fun hp => by have := (hbase q hp).1; have := hs q hq'; omega⟩
    refine ⟨_, rfl, F.keep, .agg f.a, by rw [hz]; rfl, uo, (frameR xs).1.tags.length, uc, xo, xn, xc, yo, yn, yc, ?_, ?_⟩
    · rw [hF.cells, fi_cells_eq hq, e1, e2, e3]
    · rw [← e1, ← e2, ← e3]
      exact ⟨hq.tags ▸ hF.tags, hq.body ▸ hF.body, hq.rest ▸ hF.rest, F.st.mono k.size, F.sb.mono k.size, F.sr.mono k.size, far F.st F.lt, far F.sb F.lb, far F.sr F.lr⟩
end
end Go.Proofs.YtcimfojbggckhaaDoor
namespace Go.Proofs.YtcimfojbggckhaaDoor
open Go.RowKit

noncomputable abbrev etC : Code := bodyOf Tryd.f4
noncomputable abbrev etN : Nat := Tryd.f4.ntmps
/-- The frame with its addresses turned, and other tags. -/
def turn (d : Fi) (l : List Tg) : Fi := { d with dst := d.src, src := d.dst, tags := l }
theorem turn_may {d : Fi} {l : List Tg} (h2 : mayF d = true) (hk1 : be ((behR d).take 2) ≠ 33024) (hk2 : be ((behR d).take 2) ≠ 34984) : mayF (turn d l) = true := by
  rcases (may_iff d).1 h2 with ⟨h, a1, a2, a3, a4, a5, a6⟩ | h | h
  · obtain ⟨n, hn⟩ := Int.eq_ofNat_of_zero_le (show 0 ≤ d.typ by omega)
    have e : behR d = bytes2 n ++ d.body := by unfold behR; rw [if_pos h, hn]; rfl
    rw [e, be_bytes2 (by omega)] at hk1 hk2
    have b1 : (d.typ == 33024) = false := beq_eq_false_iff_ne.2 (by omega)
    have b2 : (d.typ == 34984) = false := beq_eq_false_iff_ne.2 (by omega)
    refine (may_iff _).2 (.inl ⟨h, a1, a2, ?_, a4, a5, a6⟩)
    show (if (d.typ == 33024) = true then _ else _) = false
    rw [b1]
    simp only [Bool.false_eq_true, if_false]
    show (if (d.typ == 34984) = true then _ else _) = false
    rw [b2]
    rfl
  · exact (may_iff _).2 (.inr (.inl h))
  · exact (may_iff _).2 (.inr (.inr h))
theorem with_le (d s : List UInt8) (l : List Tg) (bs : List UInt8) : (withR d s l bs).length ≤ 12 + (4 * l.length + bs.length) := by
  unfold withR
  simp only [List.length_append]
  have : (arr6 d).length = 6 := rfl
  have : (arr6 s).length = 6 := rfl
  have := bytesB_le l
  omega
theorem beh_le (c : Fi) : (behR c).length ≤ 10 + (c.body.length + c.rest.length) := by
  have h := cnt_le c
  unfold behR
  split
  · simp only [List.length_append]
    have : (bytes2 c.typ.toNat).length = 2 := rfl
    omega
  · simp only [List.length_append]
    have : (bytes2 (cntR c).length).length = 2 := rfl
    omega
abbrev etR (w : World) (K : Fr) : List RowS := [⟨w.heap.size, K.a.toList, true⟩]
/-- The row that is turned, store by store. -/
def etB (q : Nat) (d : Fi) (uo : Option Addr) (un uc : Nat) (lq : List Tg) (qo : Option Addr) (qc : Nat) (xo : Option Addr) (xn xc : Nat) (yo : Option Addr) (yn yc : Nat) : Nat → List (Nat × List Value)
  | 0 => [(q, (fiCells d uo un uc xo xn xc yo yn yc).a.toList)]
  | 1 => [(q, (fiCells { d with dst := d.src } uo un uc xo xn xc yo yn yc).a.toList)]
  | 2 => [(q, (fiCells { d with dst := d.src, src := d.dst } uo un uc xo xn xc yo yn yc).a.toList)]
  | _ => [(q, (fiCells (turn d lq) qo lq.length qc xo xn xc yo yn yc).a.toList)]
section
variable {w : World} {d : Fi} {lq : List Tg} {ys : List UInt8} {k : Nat} {K : Fr} {uo xo yo : Option Addr} {un uc xn xc yn yc : Nat} {vq vu : Value}
set_option maxRecDepth 8000 in
theorem et_end (hK : fiCells d uo un uc xo xn xc yo yn yc = K) (h1 : mayL lq = true) (h2 : mayF d = true) (hk1 : be ((behR d).take 2) ≠ 33024) (hk2 : be ((behR d).take 2) ≠ 34984) (lb : d.body.length ≤ 1600) (lr : d.rest.length ≤ 1600) (lt : lq.length ≤ 2) (rq : Rt w vq lq) (hk : Kh w) (hs : Sh w)
    (hkk : k ≤ ys.length) (hdr : ys.drop k = behR d) (w0 : World) (hW0 : Wst w ⟨etR w K, w0.heap.size⟩ w0) (U : HdB (etR w K) w0 vu ys) (B : HdB (etR w K) w0 (.slice xo xn xc) d.body) (R : HdB (etR w K) w0 (.slice yo yn yc) d.rest) :
    Goal Tryd.prog (bodyPost Tryd.prog Tryd.f4 (esQ w)) etN ⟨frOf [1, 2, 7, 9] [vq, pT w.heap.size, vu, .int .i64 (k : Int)], tagL [(2, 0)], ⟨etR w K, w0.heap.size⟩, atR etC 13⟩ w0 := by
  obtain ⟨qo, qc, rfl, _⟩ := rq.shape
  have hbe := beh_le d
  have hwl := with_le d.src d.dst lq (behR d)
  obtain ⟨hz, hq⟩ := law_there (c := turn d lq) h1 (turn_may h2 hk1 hk2) (by show (withR d.src d.dst lq (behR d)).length ≤ 65535; omega)
  have hz : (frameR (withR d.src d.dst lq (behR d))).2 = 0 := hz
  have hq : FiEq (frameR (withR d.src d.dst lq (behR d))).1.i (turn d lq) := hq
  have cutU : ∀ {wx : World}, Rd wx vu ys → Rd wx (cutv vu k ys.length) (behR d) := fun rx => by
    have := rx.cut (l := k) (h := ys.length) hkk (Nat.le_refl _)
    rwa [List.take_of_length_le (by simp), hdr] at this
  have k0 := hW0.keep
  generalize hxs : withR d.src d.dst lq (behR d) = xs at *
  refine drawnM_ok (S0 := No) (gt := fun _ => Option.none) (D := EtD w0.heap.size (turn d lq) w0) (g0 := noGh)
    [(7, .sem (cutv vu k ys.length)), (8, .call (frB w0.heap.size xs)), (9, .call (fgT w0.heap.size (turn d lq))), (10, .by (fgT w0.heap.size (turn d lq))), (11, .by (fgM w0.heap.size (turn d lq))), (12, .by (.is (.int .i64 0))), (13, .act padS), (14, .act (.is undef))] [1, 2, 11, 12]
    [.is (.slice qo lq.length qc), .is (pT w.heap.size), padS, .is (.int .i64 0)]
    (True ∧ True ∧ True ∧ True ∧ True ∧ True ∧ True ∧ SemM Tryd.prog No w0 (Instr.sliceAt 26 vu (some (.int .i64 (k : Int))) Option.none Option.none) (cutv vu k ys.length) ∧
      CallM Tryd.prog No w0 21 [.is (a6 d.src), .is (a6 d.dst), .is (.slice qo lq.length qc), .is (cutv vu k ys.length)] (frB w0.heap.size xs) ∧
      CallM Tryd.prog No w0 23 [frB w0.heap.size xs] (fgT w0.heap.size (turn d lq)) ∧
      ByM Tryd.prog No w0 (.move (.tmp 123)) 48 [(123, fgT w0.heap.size (turn d lq))] (fgT w0.heap.size (turn d lq)) ∧
      ByM Tryd.prog No w0 (.extract (.tmp 113) 0) 28 [(113, fgT w0.heap.size (turn d lq))] (fgM w0.heap.size (turn d lq)) ∧
      ByM Tryd.prog No w0 (.extract (.tmp 113) 1) 34 [(113, fgT w0.heap.size (turn d lq))] (.is (.int .i64 0)) ∧
      ActM Tryd.prog No w0 (EtD w0.heap.size (turn d lq) w0) 0 (.alloc 28) 0 [] padS ∧
      ActM Tryd.prog No w0 (EtD w0.heap.size (turn d lq) w0) 1 (.store 28 (.tmp 11) (.tmp 124)) 0 [(11, padS), (124, fgM w0.heap.size (turn d lq))] (.is undef) ∧ True ∧ True)
    2 (afterR etC 13) hW0 (fun _ h => h.elim) (by kernel_rfl) (by subst hK; kernel_rfl) (by subst hK; kernel_rfl) EtD.keep (noGh_base w0) ⟨fun h => h, fun _ h => h⟩
    ⟨trivial, trivial, trivial, trivial, trivial, trivial, trivial, fun wx k' => U.rd.sem_cutL hkk wx, hxs ▸ m_with (fun wx k' => ⟨rq.keep0 (k0.trans k'), cutU (U.rd.keep0 k'), hk.keep0 (k0.trans k')⟩) (by omega) (by omega), m_get (fun wx k' => ⟨hk.keep0 (k0.trans k'), hs.keep0 (k0.trans k')⟩) (by omega) hz hq,
      by_mvM, by_ext0, by_ext1, et_alloc (fun nx => by kernel_rfl), et_store (fun b => List.replicate 23 (b, b)) (fun b q hq => by rw [List.eq_of_mem_replicate hq]) (fun to tn tc bo bn bc ro rn rc b nx => by kernel_rfl), trivial, trivial⟩ ?_
  intro g w1 vs k1 _ hd hok
  match vs, hok with
  | [x1, x2, x11, x12], hx =>
  obtain ⟨rfl, rfl, ⟨_, h11⟩, rfl, _⟩ : x1 = _ ∧ x2 = pT w.heap.size ∧ (g.live ∧ x11 = g.val) ∧ x12 = .int .i64 0 ∧ True := hx
  obtain ⟨_, b, tb, to, tn, tc, bo, bn', bc, ro, rn, rc, hv, hp, hb0, hrow, hF⟩ := hd
  rw [hv] at h11
  subst h11
  have k0s := k0.size
  have hne : ∀ r ∈ etR w K, r.b ≠ b := fun r hr => by
    obtain rfl := List.mem_singleton.1 hr
    obtain ⟨t', ht⟩ := hW0.rows _ (List.mem_singleton.2 rfl)
    have hlt : w.heap.size < w0.heap.size := block_of_row ht
    show w.heap.size ≠ b
    omega
  have hpb : ∀ {v : Value}, (∀ q, v.ownBlock = some q → q < w1.heap.size ∧ ¬ g.priv q) → ∀ q, v.ownBlock = some q → b ≠ q := fun h q hq e => (h q hq).2 (by rw [hp]; exact e.symm)
  have hap : ∀ {J : List Value} {v : Value}, Ap (etR w K) v → (∀ q, v.ownBlock = some q → b ≠ q) → Ap (etR w K ++ [⟨b, J, true⟩]) v := fun h1 h2 q hq r hr => by
    rcases List.mem_append.1 hr with hr | hr
    · exact h1 q hq r hr
    · obtain rfl := List.mem_singleton.1 hr
      exact h2 q hq
  obtain ⟨J, hJ⟩ : ∃ J, fiCells (turn d lq) to tn tc bo bn' bc ro rn rc = J := ⟨_, rfl⟩
  rw [hJ] at hrow
  have hW1 : Wst w ⟨etR w K ++ [⟨b, J.a.toList, true⟩], w1.heap.size⟩ w1 := (hW0.later k1).addRow hrow (by omega) hne
  have JT : Hd (etR w K ++ [⟨b, J.a.toList, true⟩]) w1 (.slice to tn tc) lq := ⟨hF.t, fun q hq => (hF.lt q hq).1, hap (Ap.fresh hW0 hF.st) (hpb hF.lt)⟩
  have JB : HdB (etR w K ++ [⟨b, J.a.toList, true⟩]) w1 (.slice bo bn' bc) d.body := ⟨hF.b, fun q hq => (hF.lb q hq).1, hap (Ap.fresh hW0 hF.sb) (hpb hF.lb)⟩
  have JR : HdB (etR w K ++ [⟨b, J.a.toList, true⟩]) w1 (.slice ro rn rc) d.rest := ⟨hF.r, fun q hq => (hF.lr q hq).1, hap (Ap.fresh hW0 hF.sr) (hpb hF.lr)⟩
  have neB : ∀ {v : Value}, Under w0.heap.size v → ∀ q, v.ownBlock = some q → b ≠ q := fun h q hq e => by have := h q hq; omega
  have B1 : HdB (etR w K ++ [⟨b, J.a.toList, true⟩]) w1 (.slice xo xn xc) d.body := ⟨(B.call k1).rd, (B.call k1).lt, hap B.ap (neB B.lt)⟩
  have R1 : HdB (etR w K ++ [⟨b, J.a.toList, true⟩]) w1 (.slice yo yn yc) d.rest := ⟨(R.call k1).rd, (R.call k1).lt, hap R.ap (neB R.lt)⟩
  clear hF U B R
  refine Goal.re (tags := tagL [(2, 0), (11, 1)]) (m := ⟨etR w K ++ [⟨b, J.a.toList, true⟩], w1.heap.size⟩) ?_
  refine go_stop (gt := fun _ => Option.none) (unroll := false) 60 [] [1, 2, 11, 12, 13] [.slice qo lq.length qc, pT w.heap.size, pT b, .int .i64 0, pT w1.heap.size] (etR w K ++ [⟨b, J.a.toList, true⟩] ++ [⟨w1.heap.size, K.a.toList, true⟩]) [(2, 0), (11, 1), (13, 2)] (atR etC 15) [] [] hW1 (by subst hK hJ; kernel_rfl) trivial trivial ?_
  intro w2 hW2 hS2
  have hm2 : ∀ r ∈ ([⟨w1.heap.size, K.a.toList, true⟩] : List RowS), w1.heap.size ≤ r.b := fun r hr => by obtain rfl := List.mem_singleton.1 hr; exact Nat.le_refl _
  have JT := JT.pass _ hS2 hm2
  have JB := JB.pass _ hS2 hm2
  have JR := JR.pass _ hS2 hm2
  have B2 := B1.pass _ hS2 hm2
  have R2 := R1.pass _ hS2 hm2
  clear B1 R1
  have hrows2 := hW2.rows
  have hqr : rowAt w1.heap.size K w2 := hW2.rows ⟨w1.heap.size, K.a.toList, true⟩ (by simp)
  have hW2' : Wst w ⟨etR w K ++ [⟨b, J.a.toList, true⟩], w2.heap.size⟩ w2 := hW2.fewer
  have hq0 : w.heap.size ≤ w1.heap.size := Nat.le_trans k0s k1.size
  have hqn : ∀ r ∈ etR w K ++ [⟨b, J.a.toList, true⟩], r.b ≠ w1.heap.size := fun r hr => by
    obtain ⟨t', ht⟩ := hW1.rows r hr
    have hlt : r.b < w1.heap.size := block_of_row ht
    omega
  generalize hqq : w1.heap.size = q at *
  have hKN : ∀ wx, Keep (One q) w2 wx → Keep No w wx := fun wx k' => hW2.keep.trans' k' (fun i hi h => by rw [show i = q from h] at hi; omega)
  refine Goal.re (tags := tagL [(2, 0), (11, 1)]) (m := ⟨etR w K ++ [⟨b, J.a.toList, true⟩], w2.heap.size⟩) ?_
  refine drawnM_ok (S0 := One q) (gt := fun _ => Option.none) (D := RowsK (One q) (etB q d uo un uc lq qo qc xo xn xc yo yn yc)) (g0 := ⟨False, undef, One q⟩)
    [(6, .act (.is undef)), (8, .act (.is undef)), (10, .act (.is undef))] [11, 12, 13] [.is (pT b), .is (.int .i64 0), .is (pT q)]
    (True ∧ True ∧ True ∧ True ∧ True ∧ True ∧
      ActM Tryd.prog (One q) w2 (RowsK (One q) (etB q d uo un uc lq qo qc xo xn xc yo yn yc)) 0 (.store 23 (.tmp 132) (.tmp 128)) 0 [(132, .is (.pointer (some ⟨q, 0, none⟩))), (128, .is (a6 d.src))] (.is undef) ∧ True ∧
      ActM Tryd.prog (One q) w2 (RowsK (One q) (etB q d uo un uc lq qo qc xo xn xc yo yn yc)) 1 (.store 23 (.tmp 133) (.tmp 130)) 0 [(133, .is (.pointer (some ⟨q, 6, none⟩))), (130, .is (a6 d.dst))] (.is undef) ∧ True ∧
      ActM Tryd.prog (One q) w2 (RowsK (One q) (etB q d uo un uc lq qo qc xo xn xc yo yn yc)) 2 (.store 24 (.tmp 134) (.tmp 131)) 0 [(134, .is (.pointer (some ⟨q, 12, none⟩))), (131, .is (.slice qo lq.length qc))] (.is undef) ∧ True)
    3 (afterR etC 15) hW2' (fun i hi => ⟨by rw [show i = q from hi]; exact hq0, fun r hr => by rw [show i = q from hi]; exact hqn r hr⟩) (by kernel_rfl) (by subst hK hJ; kernel_rfl) (by subst hK hJ; kernel_rfl) RowsK.keep
    (fun i hi => ⟨by rw [show i = q from hi]; obtain ⟨t, ht⟩ := hqr; exact block_of_row ht, fun _ => hi⟩) ⟨rfl, fun r hr => by subst hK; obtain rfl := List.mem_singleton.1 hr; exact hqr⟩
    ⟨trivial, trivial, trivial, trivial, trivial, trivial,
      act_storeO (off := 0) hKN hq0 rfl rfl rfl (by simp) (fun a g w h => h (128, .is (a6 d.src)) (by simp)) (List.replicate 6 (q, q)) (fun i hi => by rw [List.eq_of_mem_replicate hi]) (fun nx => by kernel_rfl), trivial,
      act_storeO (off := 6) hKN hq0 rfl rfl rfl (by simp) (fun a g w h => h (130, .is (a6 d.dst)) (by simp)) (List.replicate 6 (q, q)) (fun i hi => by rw [List.eq_of_mem_replicate hi]) (fun nx => by kernel_rfl), trivial,
      act_storeO (off := 12) hKN hq0 rfl rfl rfl (by simp) (fun a g w h => h (131, .is (.slice qo lq.length qc)) (by simp)) [(q, q)] (fun i hi => by obtain rfl := List.mem_singleton.1 hi; rfl) (fun nx => by kernel_rfl), trivial⟩ ?_
  intro g3 w3 vs3 k3 _ hd3 hok3
  obtain rfl := allOkM_is (vs := [pT b, .int .i64 0, pT q]) hok3
  obtain ⟨t3, hrow3⟩ := hd3.2 (q, (fiCells (turn d lq) qo lq.length qc xo xn xc yo yn yc).a.toList) (by simp [etB])
  have nq : ∀ {v : Value}, Ap (etR w K ++ [⟨b, J.a.toList, true⟩] ++ [⟨q, K.a.toList, true⟩]) v → ∀ i, v.ownBlock = some i → ¬ One q i := fun h i hi e => h i hi ⟨q, K.a.toList, true⟩ (by simp) (Eq.symm e)
  have apL : ∀ {y : List Value} {v : Value}, Ap (etR w K ++ [⟨b, J.a.toList, true⟩] ++ [⟨q, K.a.toList, true⟩]) v → Ap (etR w K ++ [⟨b, J.a.toList, true⟩] ++ [⟨q, y, true⟩]) v := fun h i hi r hr => by
    rcases List.mem_append.1 hr with hr | hr
    · exact h i hi r (List.mem_append.2 (.inl hr))
    · obtain rfl := List.mem_singleton.1 hr
      exact h i hi ⟨q, K.a.toList, true⟩ (by simp)
  obtain ⟨L, hL⟩ : ∃ L, fiCells (turn d lq) qo lq.length qc xo xn xc yo yn yc = L := ⟨_, rfl⟩
  rw [hL] at hrow3
  have hW3 : Wst w ⟨etR w K ++ [⟨b, J.a.toList, true⟩] ++ [⟨q, L.a.toList, true⟩], w3.heap.size⟩ w3 := (hW2'.laterS k3 (fun i hi => ⟨by rw [show i = q from hi]; exact hq0, fun r hr => by rw [show i = q from hi]; exact hqn r hr⟩)).addRow hrow3 hq0 hqn
  have JT3 : Hd (etR w K ++ [⟨b, J.a.toList, true⟩] ++ [⟨q, L.a.toList, true⟩]) w3 (.slice to tn tc) lq := ⟨JT.rt.keep k3 (nq JT.ap), JT.lt.mono k3.size, apL JT.ap⟩
  have JB3 : HdB (etR w K ++ [⟨b, J.a.toList, true⟩] ++ [⟨q, L.a.toList, true⟩]) w3 (.slice bo bn' bc) d.body := ⟨JB.rd.keep k3 (nq JB.ap), JB.lt.mono k3.size, apL JB.ap⟩
  have JR3 : HdB (etR w K ++ [⟨b, J.a.toList, true⟩] ++ [⟨q, L.a.toList, true⟩]) w3 (.slice ro rn rc) d.rest := ⟨JR.rd.keep k3 (nq JR.ap), JR.lt.mono k3.size, apL JR.ap⟩
  have B3 : HdB (etR w K ++ [⟨b, J.a.toList, true⟩] ++ [⟨q, L.a.toList, true⟩]) w3 (.slice xo xn xc) d.body := ⟨B2.rd.keep k3 (nq B2.ap), B2.lt.mono k3.size, apL B2.ap⟩
  have R3 : HdB (etR w K ++ [⟨b, J.a.toList, true⟩] ++ [⟨q, L.a.toList, true⟩]) w3 (.slice yo yn yc) d.rest := ⟨R2.rd.keep k3 (nq R2.ap), R2.lt.mono k3.size, apL R2.ap⟩
  refine Goal.re (tags := tagL [(11, 1), (13, 2)]) (m := ⟨etR w K ++ [⟨b, J.a.toList, true⟩] ++ [⟨q, L.a.toList, true⟩], w3.heap.size⟩) ?_
  refine go_stop (gt := fun _ => Option.none) (unroll := false) 60 [] [11, 12, 13] [pT b, .int .i64 0, pT q] (etR w K ++ [⟨b, J.a.toList, true⟩] ++ [⟨q, L.a.toList, true⟩]) [(11, 1), (13, 2)] (atR etC 16) [] [] hW3 (by subst hK hJ hL; kernel_rfl) trivial trivial ?_
  intro wa hWa hSa
  have v1 : FrV wa (.agg J.a) (turn d lq) := ⟨to, tn, tc, bo, bn', bc, ro, rn, rc, by rw [hJ], (JT3.pass0 hSa).rt, (JB3.pass0 hSa).rd, (JR3.pass0 hSa).rd⟩
  have v2 : FrV wa (.agg L.a) (turn d lq) := ⟨qo, lq.length, qc, xo, xn, xc, yo, yn, yc, by rw [hL], rq.keep0 hWa.keep, (B3.pass0 hSa).rd, (R3.pass0 hSa).rd⟩
  refine drawn_ok (gt := fun _ => Option.none) [(4, .call (fvS (turn d lq))), (6, .call (fvS (turn d lq))), (7, .call (.is (.bool true))), (10, .call (.is (.bool true)))] [4] [.is (.bool true)] [] [(14, [.is (.agg J.a)], fvS (turn d lq)), (14, [.is (.agg L.a)], fvS (turn d lq)), (24, [fvS (turn d lq), fvS (turn d lq)], .is (.bool true)), (19, [], .is (.bool true))] [] [] []
    hWa (by subst hK hJ hL; kernel_rfl) (by subst hK hJ hL; kernel_rfl) trivial ⟨vof_obI v1 (by show lq.length ≤ 1000000; omega), vof_obI v2 (by show lq.length ≤ 1000000; omega), vsame_ob (by show lq.length ≤ 1000000; omega), tells_ob (hk.keep0 hWa.keep) (hs.keep0 hWa.keep), trivial⟩ trivial trivial trivial ?_
  intro w4 vs4 k4 hok4
  obtain rfl := allOk_is (vs := [.bool true]) hok4
  have hW4 : Wst w ⟨[], w4.heap.size⟩ w4 := (hWa.later k4).fewer (rows := [])
  refine Goal.re (tags := tagL []) (m := ⟨[], w4.heap.size⟩) ?_
  exact go_ret (gt := fun _ => Option.none) (unroll := false) 60 [] [.tmp 4] (.bool true) [] [] hW4 Tryd.results4 (by kernel_rfl) trivial trivial (fun w9 hW9 _ => ⟨rfl, hW9.keep⟩)
end
end Go.Proofs.YtcimfojbggckhaaDoor
namespace Go.Proofs.YtcimfojbggckhaaDoor
open Go.RowKit

theorem nebin_str (w : World) (a : List UInt8) : (binOp .neq 9 (.string (str a)) (.string (str a)) : Sem Value).run Tryd.prog w = .ok (.bool false) w := by
  simp [binOp, Op.stringOp]
theorem with_ob {w0 : World} {d s cs xs : List UInt8} {l : List Tg} {xt xb : Value} (hr : Rt w0 xt l ∧ Rd w0 xb cs ∧ Kh w0) (hl : l.length ≤ 1000000) (hb : cs.length ≤ 1099000000000) (hx : withR d s l cs = xs) : CallOb Tryd.prog w0 21 [.is (a6 d), .is (a6 s), .is xt, .is xb] (rdS xs) := by
  intro w vals k hv
  match vals, hv with
  | [y1, y2, y3, y4], hv =>
    obtain rfl : y1 = _ := hv.1
    obtain rfl : y2 = _ := hv.2.1
    obtain rfl : y3 = _ := hv.2.2.1
    obtain rfl : y4 = _ := hv.2.2.2.1
    refine (with_any d s (hr.1.keep0 k) hl (hr.2.1.keep0 k) hb (hr.2.2.keep0 k)).mono ?_
    rintro e w' ⟨v, rfl, kk, q1, q2, q3⟩
    exact ⟨v, rfl, kk, hx ▸ q1⟩
section
variable {w : World} {d : Fi} {lo : List Tg} {ys : List UInt8} {k : Nat} {K : Fr} {uo xo yo : Option Addr} {un uc xn xc yn yc : Nat} {vo vu : Value}
/-- Behind the two checks. -/
theorem et_mid (hK : fiCells d uo un uc xo xn xc yo yn yc = K) (h2 : mayF d = true) (lb : d.body.length ≤ 1600) (lr : d.rest.length ≤ 1600) (ro : Rt w vo lo) (hk : Kh w) (hs : Sh w)
    (hkk : k + 2 ≤ ys.length) (hk9 : k ≤ 1000) (hdr : ys.drop k = behR d) (w0 : World) (hW0 : Wst w ⟨etR w K, w0.heap.size⟩ w0) (U : HdB (etR w K) w0 vu ys) (B : HdB (etR w K) w0 (.slice xo xn xc) d.body) (R : HdB (etR w K) w0 (.slice yo yn yc) d.rest) :
    Goal Tryd.prog (bodyPost Tryd.prog Tryd.f4 (esQ w)) etN ⟨frOf [1, 2, 7, 9] [vo, pT w.heap.size, vu, .int .i64 (k : Int)], tagL [(2, 0)], ⟨etR w K, w0.heap.size⟩, opsR etC 9⟩ w0 := by
  have hm := mn_le_left lo.length 2
  have hm2 := mn_le_right lo.length 2
  refine go_stop (gt := fun _ => Option.none) (unroll := false) 60 [(9, 2, .sem (.int .i64 (lo.length : Int))), (9, 3, .sem (.int .i64 (mn lo.length 2 : Nat))), (9, 4, .sem (cuts 4 vo 0 (mn lo.length 2)))] [1, 2, 7, 9] [cuts 4 vo 0 (mn lo.length 2), pT w.heap.size, vu, .int .i64 (k : Int)] (etR w K) [(2, 0)] (atR etC 10) []
    [(Builtin.len_ #[24] 3 #[vo], .int .i64 (lo.length : Int)), (Builtin.min_ #[3, 3] 3 #[.int .i64 (lo.length : Int), .int .i64 2], .int .i64 (mn lo.length 2 : Nat)), (Instr.sliceAt 24 vo Option.none (some (.int .i64 (mn lo.length 2 : Nat))) Option.none, cuts 4 vo 0 (mn lo.length 2))]
    hW0 (by kernel_rfl) trivial ⟨fun wx _ => ro.sem_len ett (ty := 3) wx, fun wx _ => run_mn #[3, 3] 3 lo.length 2, fun wx _ => ro.sem_cutH ett hm wx, trivial⟩ ?_
  intro w1 hW1 hS1
  have U1 := U.pass0 hS1
  have B1 := B.pass0 hS1
  have R1 := R.pass0 hS1
  have rq : Rt w (cuts 4 vo 0 (mn lo.length 2)) ((lo.drop 0).take (mn lo.length 2 - 0)) := ro.cut (Nat.zero_le _) hm
  have lq : ((lo.drop 0).take (mn lo.length 2 - 0)).length ≤ 2 := by simp; omega
  generalize (lo.drop 0).take (mn lo.length 2 - 0) = l2 at *
  generalize cuts 4 vo 0 (mn lo.length 2) = vq at *
  have hbe := be_two (cs := ys) (k := k) hkk
  rw [hdr] at hbe
  have b0 := byteAt_lt ys k
  have b1 := byteAt_lt ys (k + 1)
  refine drawn_ok (gt := fun _ => Option.none) [(2, .sem (.pointer (some (adr vu k)))), (3, .sem (bv (byteAt ys k))), (4, .is (.int .i64 (bn ys k))), (5, .is (.int .i64 ((256 * (byteAt ys k).toNat : Nat) : Int))), (8, .is (.int .i64 ((k + 1 : Nat) : Int))), (9, .sem (.pointer (some (adr vu (k + 1))))), (10, .sem (bv (byteAt ys (k + 1)))), (11, .is (.int .i64 (bn ys (k + 1)))), (12, .is (.int .i64 (be ((behR d).take 2) : Nat)))]
    [1, 2, 7, 9, 10] [.is vq, .is (pT w.heap.size), .is vu, .is (.int .i64 (k : Int)), .is (.int .i64 (be ((behR d).take 2) : Nat))]
    [(.int .i64 (IntKind.i64.wrap (bn ys k)), .int .i64 (bn ys k)), (.int .i64 (IntKind.i64.wrap (bn ys k * 2 ^ 8)), .int .i64 ((256 * (byteAt ys k).toNat : Nat) : Int)), (.int .i64 (IntKind.i64.wrap ((k : Int) + 1)), .int .i64 ((k + 1 : Nat) : Int)), (.int .i64 (IntKind.i64.wrap (bn ys (k + 1))), .int .i64 (bn ys (k + 1))), (.int .i64 (or64 ((256 * (byteAt ys k).toNat : Nat) : Int) (bn ys (k + 1))), .int .i64 (be ((behR d).take 2) : Nat))] [] [] []
    [(Instr.indexAt 26 vu (.int .i64 (k : Int)), .pointer (some (adr vu k))), (Instr.loadAt 5 (.pointer (some (adr vu k))), bv (byteAt ys k)), (Instr.indexAt 26 vu (.int .i64 ((k + 1 : Nat) : Int)), .pointer (some (adr vu (k + 1)))), (Instr.loadAt 5 (.pointer (some (adr vu (k + 1)))), bv (byteAt ys (k + 1)))]
    hW1 (by kernel_rfl) (by kernel_rfl)
    ⟨congrArg (Value.int .i64) (i64_small (bn_lt _ _).1 (by have := bn_lt ys k; omega)), congrArg (Value.int .i64) ?_, congrArg (Value.int .i64) (by rw [i64_small (by omega) (by omega)]; omega), congrArg (Value.int .i64) (i64_small (bn_lt _ _).1 (by have := bn_lt ys (k + 1); omega)), congrArg (Value.int .i64) ?_, trivial⟩ trivial trivial trivial
    ⟨fun wx _ => U1.rd.sem_at (i := k) (by omega) wx, fun wx k' => (U1.rd.keep0 k').sem_ld (i := k) (by omega), fun wx _ => U1.rd.sem_at (i := k + 1) (by omega) wx, fun wx k' => (U1.rd.keep0 k').sem_ld (i := k + 1) (by omega), trivial⟩ ?_
  · rw [show bn ys k * 2 ^ 8 = ((256 * (byteAt ys k).toNat : Nat) : Int) by simp only [bn]; omega]
    exact i64_small (by omega) (by omega)
  · rw [hbe]
    exact or64_byte b0 b1
  intro w2 vs k2 hok
  obtain rfl := allOk_is (vs := [vq, pT w.heap.size, vu, .int .i64 (k : Int), .int .i64 (be ((behR d).take 2) : Nat)]) hok
  have hW2 := hW1.later k2
  have U2 := U1.call k2
  have B2 := B1.call k2
  have R2 := R1.call k2
  have hlt := be_lt2 (behR d)
  generalize hn : be ((behR d).take 2) = n at *
  refine Goal.re (tags := tagL [(2, 0)]) (m := ⟨etR w K, w2.heap.size⟩) ?_
  refine go_call_is (gt := fun _ => Option.none) (unroll := false) 60 [] 22 [vq] [1, 2, 7, 9, 10] [vq, pT w.heap.size, vu, .int .i64 (k : Int), .int .i64 (n : Int)] 102 (etR w K) [(2, 0)] (inR etC 11 1) [] [] hW2 (by kernel_rfl) trivial trivial ?_
  intro w3 hW3 hS3
  have U3 := U2.pass0 hS3
  have B3 := B2.pass0 hS3
  have R3 := R2.pass0 hS3
  refine (may_any (rq.keep0 hW3.keep) (hk.keep0 hW3.keep)).mono ?_
  rintro e w4 ⟨rfl, k4⟩
  refine ⟨_, rfl, ?_⟩
  have hW4 := hW3.later k4
  have U4 := U3.call k4
  have B4 := B3.call k4
  have R4 := R3.call k4
  cases h1 : mayL l2 with
  | false =>
    refine go_call_is (gt := fun _ => Option.none) (unroll := false) 60 [] 19 [] [] [] 112 (etR w K) [] (inR etC 12 0) [] [] hW4 (by kernel_rfl) trivial trivial ?_
    intro w5 hW5 _
    refine (tells_any (hk.keep0 hW5.keep) (hs.keep0 hW5.keep)).mono ?_
    rintro e w6 ⟨rfl, k6⟩
    refine ⟨_, rfl, ?_⟩
    have hW6 := hW5.later k6
    exact go_ret (gt := fun _ => Option.none) (unroll := false) 60 [] [.tmp 4] (.bool true) [] [] hW6 Tryd.results4 (by kernel_rfl) trivial trivial (fun w9 hW9 _ => ⟨rfl, hW9.keep⟩)
  | true =>
    by_cases e1 : n = 33024
    · have e1' : (((n : Nat) : Int) == 33024) = true := beq_iff_eq.2 (by omega)
      refine go_call_is (gt := fun _ => Option.none) (unroll := false) 60 [(11, 5, .is (.bool true))] 19 [] [] [] 112 (etR w K) [] (inR etC 12 0) [(.bool (((n : Nat) : Int) == 33024), .bool true)] [] hW4 (by kernel_rfl) ⟨congrArg Value.bool e1', trivial⟩ trivial ?_
      intro w5 hW5 _
      refine (tells_any (hk.keep0 hW5.keep) (hs.keep0 hW5.keep)).mono ?_
      rintro e w6 ⟨rfl, k6⟩
      refine ⟨_, rfl, ?_⟩
      have hW6 := hW5.later k6
      exact go_ret (gt := fun _ => Option.none) (unroll := false) 60 [] [.tmp 4] (.bool true) [] [] hW6 Tryd.results4 (by kernel_rfl) trivial trivial (fun w9 hW9 _ => ⟨rfl, hW9.keep⟩)
    have e1' : (((n : Nat) : Int) == 33024) = false := beq_eq_false_iff_ne.2 (by omega)
    by_cases e2 : n = 34984
    · have e2' : (((n : Nat) : Int) == 34984) = true := beq_iff_eq.2 (by omega)
      refine go_call_is (gt := fun _ => Option.none) (unroll := false) 60 [(11, 5, .is (.bool false)), (11, 9, .is (.bool true))] 19 [] [] [] 112 (etR w K) [] (inR etC 12 0) [(.bool (((n : Nat) : Int) == 33024), .bool false), (.bool (((n : Nat) : Int) == 34984), .bool true)] [] hW4 (by kernel_rfl) ⟨congrArg Value.bool e1', congrArg Value.bool e2', trivial⟩ trivial ?_
      intro w5 hW5 _
      refine (tells_any (hk.keep0 hW5.keep) (hs.keep0 hW5.keep)).mono ?_
      rintro e w6 ⟨rfl, k6⟩
      refine ⟨_, rfl, ?_⟩
      have hW6 := hW5.later k6
      exact go_ret (gt := fun _ => Option.none) (unroll := false) 60 [] [.tmp 4] (.bool true) [] [] hW6 Tryd.results4 (by kernel_rfl) trivial trivial (fun w9 hW9 _ => ⟨rfl, hW9.keep⟩)
    have e2' : (((n : Nat) : Int) == 34984) = false := beq_eq_false_iff_ne.2 (by omega)
    refine go_stop (gt := fun _ => Option.none) (unroll := false) 60 [(11, 5, .is (.bool false)), (11, 9, .is (.bool false))] [1, 2, 7, 9] [vq, pT w.heap.size, vu, .int .i64 (k : Int)] (etR w K) [(2, 0)] (atR etC 13) [(.bool (((n : Nat) : Int) == 33024), .bool false), (.bool (((n : Nat) : Int) == 34984), .bool false)] [] hW4 (by kernel_rfl) ⟨congrArg Value.bool e1', congrArg Value.bool e2', trivial⟩ trivial ?_
    intro w5 hW5 hS5
    exact et_end hK h1 h2 (by rw [hn]; exact e1) (by rw [hn]; exact e2) lb lr lq rq hk hs (by omega) hdr w5 hW5 (U4.pass0 hS5) (B4.pass0 hS5) (R4.pass0 hS5)
end
section
variable {w : World} {c : Fi} {F : Fr} {to bo ro : Option Addr} {tn tc bn bc rn rc : Nat} {vo : Value} {lo : List Tg}
set_option maxRecDepth 8000 in
theorem ethertags_walk (hF : fiCells c to tn tc bo bn bc ro rn rc = F) (rt : Rt w (.slice to tn tc) c.tags) (rb : Rd w (.slice bo bn bc) c.body) (rr : Rd w (.slice ro rn rc) c.rest) (r : Rt w vo lo) (hk : Kh w) (hs : Sh w) : Calls Tryd.prog 4 #[.agg F.a, vo] w (esQ w) := by
  refine enter (args := [.agg F.a, vo]) Tryd.func4 (by kernel_rfl) ?_
  refine go_call_is (gt := fun _ => Option.none) (unroll := false) 60 [] 13 [.agg F.a] [1, 2] [vo, pT w.heap.size] 15 [⟨w.heap.size, F.a.toList, true⟩] [(2, 0)] (inR etC 1 1) [] [] (Wst.start0 w) (by subst hF; kernel_rfl) trivial trivial ?_
  intro w1 hW1 _
  refine (few_any hF (rt.keep0 hW1.keep) (rb.keep0 hW1.keep) (rr.keep0 hW1.keep)).mono ?_
  rintro e w2 ⟨G, rfl, fw⟩
  refine ⟨_, rfl, ?_⟩
  have hW2 := hW1.later fw.keep
  obtain ⟨l1, l2, l3⟩ := few_lens c
  generalize fewR c = d at *
  have hG0 : HdF [⟨w.heap.size, F.a.toList, true⟩] w2 G d := fw.hd hW1
  obtain ⟨uo, un, uc, xo, xn, xc, yo, yn, yc, e1, e2, e3⟩ := hG0.forms
  have ec : G.a = (fiCells d uo un uc xo xn xc yo yn yc).a := by rw [fw.cells, e1, e2, e3]
  have hT0 := hG0.t
  have hB0 := hG0.b
  have hR0 := hG0.r
  rw [e1] at hT0
  rw [e2] at hB0
  rw [e3] at hR0
  rw [ec]
  clear fw hG0 ec e1 e2 e3
  obtain ⟨K, hK⟩ : ∃ K, fiCells d uo un uc xo xn xc yo yn yc = K := ⟨_, rfl⟩
  rw [hK]
  refine go_call_is (gt := fun _ => Option.none) (unroll := false) 60 [] 15 [.agg K.a] [1, 2] [vo, pT w.heap.size] 18 (etR w K) [(2, 0)] (inR etC 2 1) [] [] hW2 (by subst hK hF; kernel_rfl) trivial trivial ?_
  intro w3 hW3 hS3
  have ap3 : ∀ {v : Value}, Ap [⟨w.heap.size, F.a.toList, true⟩] v → Ap (etR w K) v := fun h b hb r hr => by
    obtain rfl := List.mem_singleton.1 hr
    exact h b hb ⟨w.heap.size, F.a.toList, true⟩ (by simp)
  have le3 : w2.heap.size ≤ w3.heap.size := hS3.le
  have T3 : Hd (etR w K) w3 (.slice uo un uc) d.tags := ⟨hT0.rt.same fun b hb _ => hS3.same b ⟨hT0.lt b hb, fun r hr _ => hT0.ap b hb r hr⟩, hT0.lt.mono le3, ap3 hT0.ap⟩
  have B3 : HdB (etR w K) w3 (.slice xo xn xc) d.body := ⟨hB0.rd.safe (fun b hb => ⟨hB0.lt b hb, fun r hr _ => hB0.ap b hb r hr⟩) hS3.same, hB0.lt.mono le3, ap3 hB0.ap⟩
  have R3 : HdB (etR w K) w3 (.slice yo yn yc) d.rest := ⟨hR0.rd.safe (fun b hb => ⟨hR0.lt b hb, fun r hr _ => hR0.ap b hb r hr⟩) hS3.same, hR0.lt.mono le3, ap3 hR0.ap⟩
  clear hT0 hB0 hR0
  refine (put_any hK T3.rt B3.rd R3.rd (by omega) (by omega) (by omega) (hk.keep0 hW3.keep) (hs.keep0 hW3.keep)).mono ?_
  rintro e w4 ⟨va, rfl, k4, fa⟩
  refine ⟨_, rfl, ?_⟩
  have hW4 := hW3.later k4
  have A4 := fb_hd fa hW3
  rcases putR_cases d with hp | hp | ⟨h1, h2, hp⟩
  · rw [hp] at A4 ⊢
    refine go_call_is (gt := fun _ => Option.none) (unroll := false) 60 [] 19 [] [] [] 28 (etR w K) [] (inR etC 4 0) [] [] hW4 (by kernel_rfl) trivial trivial ?_
    intro w5 hW5 _
    refine (tells_any (hk.keep0 hW5.keep) (hs.keep0 hW5.keep)).mono ?_
    rintro e w6 ⟨rfl, k6⟩
    refine ⟨_, rfl, ?_⟩
    have hW6 := hW5.later k6
    exact go_ret (gt := fun _ => Option.none) (unroll := false) 60 [] [.tmp 4] (.bool true) [] [] hW6 Tryd.results4 (by kernel_rfl) trivial trivial (fun w9 hW9 _ => ⟨rfl, hW9.keep⟩)
  · rw [hp] at A4 ⊢
    refine go_call_is (gt := fun _ => Option.none) (unroll := false) 60 [] 19 [] [] [] 28 (etR w K) [] (inR etC 4 0) [] [] hW4 (by kernel_rfl) trivial trivial ?_
    intro w5 hW5 _
    refine (tells_any (hk.keep0 hW5.keep) (hs.keep0 hW5.keep)).mono ?_
    rintro e w6 ⟨rfl, k6⟩
    refine ⟨_, rfl, ?_⟩
    have hW6 := hW5.later k6
    exact go_ret (gt := fun _ => Option.none) (unroll := false) 60 [] [.tmp 4] (.bool true) [] [] hW6 Tryd.results4 (by kernel_rfl) trivial trivial (fun w9 hW9 _ => ⟨rfl, hW9.keep⟩)
  · rw [hp] at A4 ⊢
    by_cases hn : (withR d.dst d.src d.tags (behR d)).length ≤ 65535
    case neg =>
      have hn' : decide ((((withR d.dst d.src d.tags (behR d)).length : Nat) : Int) > 65535) = true := decide_eq_true (by omega)
      refine go_call_is (gt := fun _ => Option.none) (unroll := false) 60 [(3, 4, .sem (.int .i64 ((withR d.dst d.src d.tags (behR d)).length : Nat))), (3, 5, .is (.bool true))] 19 [] [] [] 28 (etR w K) [] (inR etC 4 0) [(.bool (decide ((((withR d.dst d.src d.tags (behR d)).length : Nat) : Int) > 65535)), .bool true)] [(Builtin.len_ #[26] 3 #[va], .int .i64 ((withR d.dst d.src d.tags (behR d)).length : Nat))] hW4 (by kernel_rfl) ⟨congrArg Value.bool hn', trivial⟩ ⟨fun wx _ => A4.rd.run_len (ty := 3) bt.sl, trivial⟩ ?_
      intro w5 hW5 _
      refine (tells_any (hk.keep0 hW5.keep) (hs.keep0 hW5.keep)).mono ?_
      rintro e w6 ⟨rfl, k6⟩
      refine ⟨_, rfl, ?_⟩
      have hW6 := hW5.later k6
      exact go_ret (gt := fun _ => Option.none) (unroll := false) 60 [] [.tmp 4] (.bool true) [] [] hW6 Tryd.results4 (by kernel_rfl) trivial trivial (fun w9 hW9 _ => ⟨rfl, hW9.keep⟩)
    obtain ⟨hz, _⟩ := law_there h1 h2 hn
    have hst := stk_of h1
    have hlb : (bytesB d.tags).length = 4 * d.tags.length := by rw [hst.bytes, bytesL_len]
    have hbl := behR_len d
    obtain ⟨xs, hxs⟩ : ∃ xs, withR d.dst d.src d.tags (behR d) = xs := ⟨_, rfl⟩
    have d12 : xs.drop 12 = bytesB d.tags ++ behR d := by rw [← hxs]; rfl
    have hn' : decide (((xs.length : Nat) : Int) > 65535) = false := decide_eq_false (by rw [← hxs]; omega)
    rw [hxs] at A4 ⊢ hz hn
    refine go_call_is (gt := fun _ => Option.none) (unroll := false) 60 [(3, 4, .sem (.int .i64 (xs.length : Nat))), (3, 5, .is (.bool false))] 20 [va] [1, 2, 5] [vo, pT w.heap.size, va] 31 (etR w K) [(2, 0)] (inR etC 5 1) [(.bool (decide (((xs.length : Nat) : Int) > 65535)), .bool false)] [(Builtin.len_ #[26] 3 #[va], .int .i64 (xs.length : Nat))] hW4 (by kernel_rfl) ⟨congrArg Value.bool hn', trivial⟩ ⟨fun wx _ => A4.rd.run_len (ty := 3) bt.sl, trivial⟩ ?_
    intro w5 hW5 hS5
    have A5 := A4.pass0 hS5
    have T5 := (T3.call k4).pass0 hS5
    have B5 := (B3.call k4).pass0 hS5
    have R5 := (R3.call k4).pass0 hS5
    refine (behind_any (bs := xs) A5.rd (by omega) (hk.keep0 hW5.keep) (hs.keep0 hW5.keep)).mono ?_
    rintro x w6 ⟨vu, rfl, ru, k6, su, uu⟩
    refine ⟨_, rfl, ?_⟩
    have hW6 := hW5.later k6
    rw [if_pos hz, d12] at ru
    rw [hz]
    have U6 : HdB (etR w K) w6 vu (bytesB d.tags ++ behR d) := ⟨ru, uu, Ap.fresh hW5 su⟩
    have A6 := A5.call k6
    have T6 := T5.call k6
    have B6 := B5.call k6
    have R6 := R5.call k6
    obtain ⟨ys, hys⟩ : ∃ ys, bytesB d.tags ++ behR d = ys := ⟨_, rfl⟩
    have hyl : ys.length = 4 * d.tags.length + (behR d).length := by rw [← hys, List.length_append, hlb]
    have hxl : xs.length = 12 + ys.length := by
      have := congrArg List.length d12
      rw [hys, List.length_drop] at this
      have h12 : 12 ≤ xs.length := by have := frame_ok hz; omega
      omega
    have hdr : ys.drop (4 * d.tags.length) = behR d := by rw [← hys, ← hlb, List.drop_left]
    rw [hys] at U6
    refine go_stop (gt := fun _ => Option.none) (unroll := false) 60 [(6, 2, .sem (.int .i64 (d.tags.length : Int))), (6, 3, .is (.int .i64 ((4 * d.tags.length : Nat) : Int)))] [1, 2, 5, 7, 8, 9] [vo, pT w.heap.size, va, vu, .int .i64 0, .int .i64 ((4 * d.tags.length : Nat) : Int)] (etR w K) [(2, 0)] (atR etC 7)
      [(.int .i64 (IntKind.i64.wrap (4 * (d.tags.length : Int))), .int .i64 ((4 * d.tags.length : Nat) : Int))] [(Builtin.len_ #[24] 3 #[.slice uo un uc], .int .i64 (d.tags.length : Int))] hW6 (by subst hK; kernel_rfl) ⟨congrArg (Value.int .i64) (by rw [i64_small (by omega) (by omega)]; omega), trivial⟩ ⟨fun wx _ => T6.rt.sem_len ett (ty := 3) wx, trivial⟩ ?_
    intro w7 hW7 hS7
    have A7 := A6.pass0 hS7
    have T7 := T6.pass0 hS7
    have B7 := B6.pass0 hS7
    have R7 := R6.pass0 hS7
    have U7 := U6.pass0 hS7
    have hx1 : withR d.dst d.src [] ys = xs := by rw [← hys, ← hxs]; rfl
    have hx2 : withR d.dst d.src d.tags (behR d) = xs := hxs
    have hkk : 4 * d.tags.length ≤ ys.length := by omega
    have cutU : Rd w7 (cutv vu (4 * d.tags.length) ys.length) (behR d) := by
      have := U7.rd.cut (l := 4 * d.tags.length) (h := ys.length) hkk (Nat.le_refl _)
      rwa [List.take_of_length_le (by simp), hdr] at this
    clear hxs hys
    generalize hkn : 4 * d.tags.length = kn at *
    refine drawn_ok (gt := fun _ => Option.none) [(4, .sem (.int .i64 (ys.length : Int))), (6, .sem (.int .i64 (xs.length : Int))), (7, .is (.int .i64 (ys.length : Int))), (8, .is (.bool false)), (12, .sem (.int .i64 (ys.length : Int))), (14, .is (.int .i64 ((kn + 2 : Nat) : Int))), (15, .is (.bool false)), (23, .call (rdS xs)), (24, .by (.is (.string (str xs)))), (26, .sem (.string (str xs))), (27, .bin (.bool false)), (38, .sem (cutv vu kn ys.length)), (39, .call (rdS xs)), (40, .by (.is (.string (str xs)))), (42, .sem (.string (str xs))), (43, .bin (.bool false))]
      [1, 2, 7, 9, 82] [.is vo, .is (pT w.heap.size), .is vu, .is (.int .i64 (kn : Int)), .is (.bool false)]
      [(.int .i64 (IntKind.i64.wrap ((xs.length : Int) - 12)), .int .i64 (ys.length : Int)), (.bool ((ys.length : Int) != (ys.length : Int)), .bool false), (.int .i64 (IntKind.i64.wrap ((kn : Int) + 2)), .int .i64 ((kn + 2 : Nat) : Int)), (.bool (decide ((ys.length : Int) < ((kn + 2 : Nat) : Int))), .bool false)]
      [(21, [.is (a6 d.dst), .is (a6 d.src), .is nilV, .is vu], rdS xs), (21, [.is (a6 d.dst), .is (a6 d.src), .is (.slice uo un uc), .is (cutv vu kn ys.length)], rdS xs)]
      [(.neq, 9, .string (str xs), .string (str xs), .bool false), (.neq, 9, .string (str xs), .string (str xs), .bool false)]
      [(.convert 26 9 (.tmp 61), 9, [(61, rdS xs)], .is (.string (str xs))), (.convert 26 9 (.tmp 77), 9, [(77, rdS xs)], .is (.string (str xs)))]
      [(Builtin.len_ #[26] 3 #[vu], .int .i64 (ys.length : Int)), (Builtin.len_ #[26] 3 #[va], .int .i64 (xs.length : Int)), (Builtin.len_ #[26] 3 #[vu], .int .i64 (ys.length : Int)), (convert 26 9 va, .string (str xs)), (Instr.sliceAt 26 vu (some (.int .i64 (kn : Int))) Option.none Option.none, cutv vu kn ys.length), (convert 26 9 va, .string (str xs))]
      hW7 (by subst hK; kernel_rfl) (by subst hK; kernel_rfl)
      ⟨congrArg (Value.int .i64) (by rw [i64_small (by omega) (by omega)]; omega), congrArg Value.bool (by simp), congrArg (Value.int .i64) (by rw [i64_small (by omega) (by omega)]; omega), congrArg Value.bool (decide_eq_false (by omega)), trivial⟩
      ⟨with_ob ⟨Rt.nil _, U7.rd, hk.keep0 hW7.keep⟩ (by simp) (by omega) hx1, with_ob ⟨T7.rt, cutU, hk.keep0 hW7.keep⟩ (by omega) (by omega) hx2, trivial⟩
      ⟨fun wx _ => nebin_str wx xs, fun wx _ => nebin_str wx xs, trivial⟩ ⟨by_conv (fun _ _ h => h), by_conv (fun _ _ h => h), trivial⟩
      ⟨fun wx _ => U7.rd.run_len (ty := 3) bt.sl, fun wx _ => A7.rd.run_len (ty := 3) bt.sl, fun wx _ => U7.rd.run_len (ty := 3) bt.sl, fun wx k' => sem_str (A7.rd.keep0 k'), fun wx _ => U7.rd.sem_cutL hkk wx, fun wx k' => sem_str (A7.rd.keep0 k'), trivial⟩ ?_
    intro w8 vs k8 hok
    obtain rfl := allOk_is (vs := [vo, pT w.heap.size, vu, .int .i64 (kn : Int), .bool false]) hok
    have hW8 := hW7.later k8
    refine Goal.re (tags := tagL [(2, 0)]) (m := ⟨etR w K, w8.heap.size⟩) ?_
    refine go_stop (gt := fun _ => Option.none) (unroll := false) 60 [(9, 0, .stop)] [1, 2, 7, 9] [vo, pT w.heap.size, vu, .int .i64 (kn : Int)] (etR w K) [(2, 0)] (opsR etC 9) [] [] hW8 (by kernel_rfl) trivial trivial ?_
    intro w9 hW9 hS9
    exact et_mid hK h2 l2 l3 r hk hs (by omega) (by omega) hdr w9 hW9 ((U7.call k8).pass0 hS9) ((B7.call k8).pass0 hS9) ((R7.call k8).pass0 hS9)
end
end Go.Proofs.YtcimfojbggckhaaDoor
namespace Go.Proofs.YtcimfojbggckhaaDoor.lawEtherTags
open Go.ChangeShapes Go.WideShapes Go.ChangeAt Go.RowKit

set_option maxRecDepth 100000 in
theorem lifted (os : Os) (started : os.Started) (H : Type) (enc : TypeId × Value → H) :
    ReturnsInHanded {} Tryd.checked os 4 .any (fun w args => (Rows.etherTagsSpec.pre enc Tryd.prog Tryd.f4 Rows.etherTagsRow.domain false w args ∧ laidMetH Tryd.prog Rows.etherTagsRow.laid w) ∧ sizedMet enc Tryd.prog Tryd.f4 (OpenSpec.ofChange Rows.etherTagsSpec) false w args)
      (Rows.etherTagsSpec.post enc Tryd.prog Tryd.f4 false true false false) := by
  refine returnsInHanded_of_change_and (C := Tryd.checked) (X := fun w _ => laidMetH Tryd.prog Rows.etherTagsRow.laid w) (fun _ _ _ hh h => h.of_heap hh) own started (by kernel_rfl) Tryd.func4
    (ChangeSpec.witness_shaped (enc := enc) (C := Tryd.checked) (os := os) (X := fun w _ => laidMetH Tryd.prog Rows.etherTagsRow.laid w) false (World.laidAll Tryd.prog os Rows.etherTagsRow.laid) #[.agg fr0.a, .slice none 0 0] 8 (World.laidAll_os _ _ _)
      (World.shaped_of_ZipB (by kernel_rfl) (by kernel_rfl)) (by kernel_rfl) (by kernel_rfl) (by kernel_rfl)
      (by rw [MakeChecks.laidMetH_plain _ _ _ (by kernel_rfl)]; exact laidMet_laidAll _ (by kernel_rfl) (by kernel_rfl))) ?_
  intro W base args ds gs before hval0 hW _ _ hL _
  have hval : ∀ (j : Nat) t v, Tryd.f4.params[j]? = some t → args[j]? = some v → Value.okWide Tryd.prog W .any base t v := hval0
  have hW' := hW
  obtain ⟨p, q, hA0, hV, rfl, _, _⟩ := hW
  have hA : DataW.TrodAll enc Tryd.prog W 0 (fun _ => true) true Tryd.f4.params.toList args.toList ds p := hA0
  rw [Tryd.params4] at hA hval
  obtain ⟨v0, vs0, d0, ds0, p0, q0, hargs, rfl, rfl, h0, t0⟩ := trodAll_cons hA
  obtain ⟨v1, vs1, d1, ds1, p1, q1, rfl, rfl, rfl, h1, t1⟩ := trodAll_cons t0
  obtain ⟨rfl, rfl, rfl⟩ := trodAll_nil t1
  obtain rfl : args = #[v0, v1] := by cases args; simp_all
  obtain ⟨rfl, rfl⟩ := trodVars_none hV
  obtain ⟨c0, rfl, s0⟩ := okWide_row Tryd.underlying28 rfl (hval 0 28 v0 rfl rfl)
  have k0 := h0
  have lt0 : ∀ x ∈ p0, x.block < W.heap.size := by obtain ⟨m, hm⟩ := k0; exact DataW.trod_lt m _ _ _ hm
  obtain ⟨fc0, to0, tn0, tc0, bo0, bn0, bc0, ro0, rn0, rc0, rfl, rt0, rb0, rr0⟩ := open_frame s0 h0.choose_spec
  obtain ⟨a1, len1, cap1, rfl⟩ := okWide_slice Tryd.underlying24 (hval 1 24 v1 rfl rfl)
  have k1 := h1
  have lt1 : ∀ x ∈ p1, x.block < W.heap.size := by obtain ⟨m, hm⟩ := k1; exact DataW.trod_lt m _ _ _ hm
  obtain ⟨tl1, rt1⟩ := tags_of h1.choose_spec
  clear hA0 hval0
  refine (ethertags_walk rfl rt0 rb0 rr0 rt1 (lay_of_laid hL).1 (lay_of_laid hL).2).mono fun e W' ⟨he, bel0⟩ => ?_
  have bel := bel0.to_below
  subst he
  exact ⟨_, rfl, _, _, _, [], _, [], hW', trodAll_mk1 (shut_bool Tryd.underlying4 _), (trodAll_cons_mk (Below.trod laidOut (by kernel_rfl) (of_decide_eq_true (by kernel_rfl)) k0 bel lt0) (trodAll_cons_mk (Below.trod laidOut (by kernel_rfl) (of_decide_eq_true (by kernel_rfl)) k1 bel lt1) trodAll_mk0)), rfl, bel.frame _, fun h => by cases h⟩

theorem over : Rows.etherTagsRow.holds Tryd.pinned (OpenSpec.ofChange Rows.etherTagsSpec) :=
  OpenClaim.holds_of_wide 4 Tryd.f4 rfl rfl rfl rfl rfl rfl rfl ⟨rfl, rfl, rfl, rfl, rfl⟩ rfl rfl rfl rfl rfl (by kernel_rfl) Tryd.func4 (by kernel_rfl)
    (of_decide_eq_true (by kernel_rfl)) (by unfold Func.isWrapper; first | (rw [if_pos (by decide +kernel)]; kernel_rfl) | (rw [if_neg (by decide +kernel)]; exact ⟨rfl, rfl⟩))
    (fun os started H enc _ => lifted os started H enc)

theorem proved : Rows.EtherTagsCardSaid :=
  Claim7.holds_tied_plain_at .later [] [.widerDeep, .data] true (true, "005af6a159b4550678557e1626ce05516188c2c82504c0eecf584bdeb30f33fb") false over (fun _ h => by cases h) (by kernel_rfl) (fun _ h => by cases h) etherTags_row_tie rfl ⟨rfl, rfl⟩ (by kernel_rfl) rfl
    (fun f fn hf hfn => by
      obtain rfl : f = 4 := Option.some.inj ((show Tryd.prog.funcNamed "toll/tolllaw04.EtherTags" = some 4 by kernel_rfl).symm.trans hf) |>.symm
      obtain rfl : fn = Tryd.f4 := (Option.some.inj (Tryd.func4.symm.trans hfn)).symm
      exact ⟨by kernel_rfl, fun j t ht => by
        rw [Tryd.params4] at ht
        have hm : t ∈ [28, 24] := by simpa using Array.mem_of_getElem? ht
        have hall : ([28, 24].all fun u => !Tryd.prog.wantsStandIn u) = true := by kernel_rfl
        exact (show Tryd.prog.wantsStandIn t = false by simpa using List.all_eq_true.1 hall t hm)⟩)
    (by kernel_rfl)
end Go.Proofs.YtcimfojbggckhaaDoor.lawEtherTags
