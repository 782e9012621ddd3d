/-
  tag's Bytes. Condition: the kinds are as they were laid; the numbers are of their kinds; at most 10^6 tags.
-/
import Derived.Test.YtcimfojbggckhaaDoorTagOf
import Derived.Test.YtcimfojbggckhaaDoorPadE
namespace Go.Proofs.YtcimfojbggckhaaDoor
open Go.RowKit

/-- A tag's bytes. -/
def bytesT (t : Tg) : List UInt8 := bytes2 t.k ++ bytes2 (wordN t)
theorem bytesT_len (t : Tg) : (bytesT t).length = 4 := rfl
def bytesL (l : List Tg) : List UInt8 := l.flatMap bytesT
theorem bytesL_len (l : List Tg) : (bytesL l).length = 4 * l.length := by
  induction l with
  | nil => rfl
  | cons t l ih => simp only [bytesL, List.flatMap_cons, List.length_append, bytesT_len, List.length_cons] at *; omega
/-- What Bytes tells. -/
def bytesB (l : List Tg) : List UInt8 := if l.all mayT then bytesL l else []
theorem mayT_spec {t : Tg} (h : mayT t = true) : t.k < 65536 ∧ t.p < 8 ∧ t.v ≤ 4095 := by
  simp only [mayT, kindsL, List.contains_cons, List.contains_nil, Bool.or_false, Bool.and_eq_true, Bool.or_eq_true, beq_iff_eq, decide_eq_true_eq] at h
  omega
theorem allOkM_is {g : Gh} {w : World} : ∀ {vs us : List Value}, allOkM (vs.map .is) g w us → us = vs
  | [], [], _ => rfl
  | [], _ :: _, h => h.elim
  | _ :: _, [], h => h.elim
  | v :: vs, u :: us, h => by
    have h1 : u = v := h.1
    rw [h1, allOkM_is h.2]
noncomputable abbrev tbC : Code := bodyOf Tryd.f29
noncomputable abbrev tbN : Nat := Tryd.f29.ntmps
abbrev tbQ (w : World) (l : List Tg) : Ending → World → Prop := fun x w' => ∃ v, x = .returned v ∧ Fresh w (bytesB l) v w'
noncomputable def tbL (v : Value) (p n : Nat) (i : Nat × Value) (w' : World) : Cfg := ⟨frOf [3, 7, 8, 9] [.pointer (some ⟨p, 0, none⟩), v, .int .i64 (n : Int), .int .i64 ((n - i.1 : Nat) : Int)], tagL [], ⟨[], w'.heap.size⟩, atL tbC 3⟩
structure TbJ (w : World) (p : Nat) (l : List Tg) (i : Nat × Value) (w' : World) : Prop where
  le : i.1 ≤ l.length
  W : Wst w ⟨[], w'.heap.size⟩ w'
  pd : Pd w' p i.2 (bytesL (l.take (l.length - i.1)))
  hp : w.heap.size ≤ p
  si : Since w.heap.size i.2
  all : (l.take (l.length - i.1)).all mayT = true
noncomputable def tbR (w : World) (v : Value) (p : Nat) (l : List Tg) (i : Nat × Value) : Act → World → Prop := fun a' w' => ∃ j : Nat × Value, j.1 < i.1 ∧ TbJ w p l j w' ∧ agrees tbN (tbL v p l.length j w') a'
section
variable {w : World} {v : Value} {l : List Tg} {p : Nat}
theorem loose_foot {W0 : World} {m : Mem} {sv : Value} (hp : W0.heap.size ≤ p) (hs : Since W0.heap.size sv) (hr : ∀ r ∈ m.rows, r.b ≠ p ∧ sv.ownBlock ≠ some r.b) : Loose W0 m (Foot p sv) := by
  rintro k (rfl | hk)
  · exact ⟨hp, fun r h => (hr r h).1⟩
  · exact ⟨hs k hk, fun r h e => (hr r h).2 (by rw [e]; exact hk)⟩
theorem since_later {n m : Nat} {sv sv' : Value} (hs : Since n sv) (h : Later m sv sv') (hm : n ≤ m) : Since n sv' := by
  rcases h with h | h
  · intro b hb; rw [h] at hb; exact hs b hb
  · exact h.mono hm
set_option maxRecDepth 4000 in
theorem tb_round (r : Rt w v l) (hk : Kh w) (hn : l.length ≤ 1000000) (i : Nat × Value) (w' : World) (hJ : TbJ w p l i w') (j : Nat) (hj : i.1 = j + 1) :
    Goal Tryd.prog (bodyPost Tryd.prog Tryd.f29 (tbQ w l)) tbN { tbL v p l.length i w' with todo := .code (loopOf (atL tbC 3)) :: .inv (tbR w v p l i) :: (atL tbC 3).tail } w' := by
  obtain ⟨hle, hW, hpd, hp, hsi, hall⟩ := hJ
  unfold tbL
  rw [hj] at hpd hall hle ⊢
  have hi : l.length - (j + 1) < l.length := by omega
  have hnext : l.length - (j + 1) + 1 = l.length - j := by omega
  generalize hI : l.length - (j + 1) = n at *
  have hc : (n : Int) < (l.length : Int) := by omega
  obtain ⟨t, ht⟩ : ∃ t, l[n] = t := ⟨_, rfl⟩
  have hld : ∀ wx, (∀ k, Safe ⟨[], w'.heap.size⟩ k → wx.heap[k]? = w'.heap[k]?) → Rt wx v l := fun wx hx => r.walk hW hx
  have sl : SemObs Tryd.prog ⟨[], w'.heap.size⟩ w' [(Instr.indexAt 24 v (.int .i64 (n : Int)), .pointer (some (adt v n))), (Instr.loadAt 57 (.pointer (some (adt v n))), .agg t.a)] :=
    ⟨fun wx _ => r.sem_at ett hi wx, fun wx hx => by rw [← ht]; exact (hld wx hx).sem_ld ett hi, trivial⟩
  refine go_stop (gt := fun _ => Option.none) (unroll := false) 60 [(3, 0, .is (.bool true)), (4, 0, .sem (.pointer (some (adt v n)))), (4, 1, .sem (.agg t.a))] [3, 5, 7, 8, 9] [.pointer (some ⟨p, 0, none⟩), .pointer (some ⟨w'.heap.size, 0, Option.none⟩), v, .int .i64 (l.length : Int), .int .i64 (n : Int)]
    [⟨w'.heap.size, t.a.toList, true⟩] [(5, 0)] (atR tbC 5 (.inv (tbR w v p l i))) [(.bool (decide ((n : Int) < (l.length : Int))), .bool true)]
    [(Instr.indexAt 24 v (.int .i64 (n : Int)), .pointer (some (adt v n))), (Instr.loadAt 57 (.pointer (some (adt v n))), .agg t.a)] hW (by kernel_rfl) ⟨congrArg Value.bool (by simpa using hc), trivial⟩ sl ?_
  intro w1 hW1 hS1
  have pd1 := hpd.walk (rows := []) (fun _ h => nomatch h) hS1
  have hk1 := hk.keep0 hW1.keep
  have cm : CallOb Tryd.prog w1 27 [.is (.agg t.a)] (.is (.bool (mayT t))) := CallOb.of1 fun w8 kp => maytag_any (hk1.keep0 kp) t
  cases hma : mayT t with
  | false =>
    rw [hma] at cm
    refine drawn_ok (gt := fun _ => Option.none) [(1, .call (.is (.bool false)))] [24] [.is (.bool true)] [] [(27, [.is (.agg t.a)], .is (.bool false))] [] [] [] hW1 (by kernel_rfl) (by kernel_rfl) trivial ⟨cm, trivial⟩ trivial trivial trivial ?_
    intro w2 vs k2 hv
    obtain rfl := allOk_is (vs := [.bool true]) hv
    refine go_ret (gt := fun _ => Option.none) (unroll := false) 60 [] [.tmp 2] (.slice none 0 0) [] [] (hW1.later k2) Tryd.results29 (by kernel_rfl) trivial trivial (fun w9 hW9 _ => ⟨_, rfl, ?_⟩)
    have : l.all mayT = false := by
      rw [List.all_eq_false]
      exact ⟨t, by rw [← ht]; exact List.getElem_mem hi, by simp [hma]⟩
    rw [bytesB, this]
    exact ⟨Own.nil _ _, hW9.keep, fun b hb => by simp [Value.ownBlock] at hb⟩
  | true =>
    rw [hma] at cm
    obtain ⟨m1, m2, m3⟩ := mayT_spec hma
    have hw16 := wordN_lt m2 m3
    have cw : CallOb Tryd.prog w1 55 [.is (.agg t.a)] (.is (.int .u16 (wordN t : Nat))) := CallOb.of1 fun w8 kp => (word_any w8 t.k t.p t.v t.d).mono fun e w9 ⟨h1, h2⟩ => ⟨by rw [h1, wordR_nat m2 m3], h2⟩
    have co : CallOb Tryd.prog w1 54 [.is (.int .u16 t.k), .is (.int .u16 (wordN t : Nat))] (.is (.agg t.a)) := by
      rintro w8 vals kp ha
      match vals, ha with
      | [y, z], hy =>
        obtain rfl : y = _ := hy.1
        obtain rfl : z = _ := hy.2.1
        exact (tagof_any w8 t.k (wordN t)).mono fun e w9 ⟨h1, h2⟩ => ⟨_, h1, h2, by rw [ofR_nat hw16, tgN_word m2 m3]; rfl⟩
    refine drawn_ok (gt := fun _ => Option.none) [(1, .call (.is (.bool true))), (7, .call (.is (.int .u16 (wordN t : Nat)))), (8, .call (.is (.agg t.a))), (10, .bin (.bool false))] [24, 3, 5, 7, 8, 9] [.is (.bool false), .is (.pointer (some ⟨p, 0, none⟩)), .is (.pointer (some ⟨w'.heap.size, 0, Option.none⟩)), .is v, .is (.int .i64 (l.length : Int)), .is (.int .i64 (n : Int))] []
      [(27, [.is (.agg t.a)], .is (.bool true)), (55, [.is (.agg t.a)], .is (.int .u16 (wordN t : Nat))), (54, [.is (.int .u16 t.k), .is (.int .u16 (wordN t : Nat))], .is (.agg t.a))] [(.neq, 57, .agg t.a, .agg t.a, .bool false)] [] []
      hW1 (by kernel_rfl) (by kernel_rfl) trivial ⟨cm, cw, co, trivial⟩ ⟨fun w8 _ => nbin_tg w8 t, trivial⟩ trivial trivial ?_
    intro w2 vs k2 hv
    obtain rfl := allOk_is (vs := [.bool false, .pointer (some ⟨p, 0, none⟩), .pointer (some ⟨w'.heap.size, 0, Option.none⟩), v, .int .i64 (l.length : Int), .int .i64 (n : Int)]) hv
    have hW2 := hW1.later k2
    have pd2 := pd1.keep0 k2
    refine go_stop (gt := fun _ => Option.none) (unroll := false) 60 [] [3, 5, 7, 8, 9] [.pointer (some ⟨p, 0, none⟩), .pointer (some ⟨w'.heap.size, 0, Option.none⟩), v, .int .i64 (l.length : Int), .int .i64 (n : Int)]
      [⟨w'.heap.size, t.a.toList, true⟩] [(5, 0)] (atR tbC 7 (.inv (tbR w v p l i))) [] [] hW2 (by kernel_rfl) trivial trivial ?_
    intro w3 hW3 hS3
    have hne : ∀ r ∈ ([⟨w'.heap.size, t.a.toList, true⟩] : List RowS), r.b ≠ p ∧ i.2.ownBlock ≠ some r.b := fun q hq => by
      obtain rfl := List.mem_singleton.1 hq
      exact ⟨by have := hpd.lt; show w'.heap.size ≠ p; omega, fun h => by have := hpd.own.lt _ h; simp at this⟩
    have pd3 := pd2.walk (rows := [⟨w'.heap.size, t.a.toList, true⟩]) (fun q hq _ => hne q hq) hS3
    refine drawnM_ok (S0 := Foot p i.2) (gt := fun _ => Option.none) (D := PadE (fun k => if k = 0 then bytesL (l.take n) else bytesL (l.take n) ++ [t.k, wordN t].flatMap bytes2) p i.2 w3) (g0 := gE p i.2)
      [(4, .call (.is (.int .u16 (wordN t : Nat)))), (5, .new (rowS 1 [t.k, wordN t].length (fun i => .int .u16 (([t.k, wordN t] : List Nat).getD i 0 : Nat)))), (6, .loud padS)]
      [3, 7, 8, 9] [.is (.pointer (some ⟨p, 0, none⟩)), .is v, .is (.int .i64 (l.length : Int)), .is (.int .i64 (n : Int))]
      (True ∧ True ∧ True ∧ True ∧ CallM Tryd.prog (Foot p i.2) w3 55 [.is (.agg t.a)] (.is (.int .u16 (wordN t : Nat))) ∧
        NewM Tryd.prog (Foot p i.2) w3 (Instr.buildSlice 89 2 #[(0, .int .u16 t.k), (1, .int .u16 (wordN t : Nat))]) (rowS 1 [t.k, wordN t].length (fun i => .int .u16 (([t.k, wordN t] : List Nat).getD i 0 : Nat))) ∧
        LoudM Tryd.prog (Foot p i.2) w3 (PadE (fun k => if k = 0 then bytesL (l.take n) else bytesL (l.take n) ++ [t.k, wordN t].flatMap bytes2) p i.2 w3) 0 56 [.is (.pointer (some ⟨p, 0, none⟩)), rowS 1 [t.k, wordN t].length (fun i => .int .u16 (([t.k, wordN t] : List Nat).getD i 0 : Nat))] padS ∧ True)
      1 (afterR tbC 7 (.inv (tbR w v p l i))) hW3 (loose_foot hp hsi hne) (by kernel_rfl) (by kernel_rfl) (by kernel_rfl) PadE.keep (gE_base pd3) (gE_D pd3)
      ⟨trivial, trivial, trivial, trivial, ?_, new_row (cs := [.int .u16 t.k, .int .u16 (wordN t : Nat)]) (by simp [maxLen]) (fun _ => by kernel_rfl) (fun j hj => ?_), loud_twoE rfl ?_ ?_, trivial⟩ ?_
    · intro g wx vals k hbase hv
      match vals, hv with
      | [x], hx => obtain rfl : x = _ := hx.1; exact (word_any wx t.k t.p t.v t.d).mono fun e w9 ⟨h1, h2⟩ => ⟨_, h1, h2, by rw [wordR_nat m2 m3]; rfl⟩
    · have : j = 0 ∨ j = 1 := by simp at hj; omega
      rcases this with rfl | rfl <;> rfl
    · have := bytesL_len (l.take n)
      rw [List.length_take] at this
      simp only [if_true, List.length_cons, List.length_nil]
      omega
    · intro i hi
      have : i = 0 ∨ i = 1 := by simp at hi; omega
      rcases this with rfl | rfl
      · exact m1
      · exact hw16
    intro g w4 vs k4 _ hd hok
    obtain rfl := allOkM_is (vs := [.pointer (some ⟨p, 0, none⟩), v, .int .i64 (l.length : Int), .int .i64 (n : Int)]) hok
    obtain ⟨_, _, sv, pd4, _, hla⟩ := hd
    have hW4 := hW3.laterS k4 (loose_foot hp hsi hne)
    have hsi4 : Since w.heap.size sv := since_later hsi hla hW3.keep.size
    have hne4 : ∀ r ∈ ([⟨w'.heap.size, t.a.toList, true⟩] : List RowS), r.b ≠ p ∧ sv.ownBlock ≠ some r.b := fun q hq => by
      refine ⟨(hne q hq).1, fun h => ?_⟩
      rcases hla with e | e
      · rw [e] at h; exact (hne q hq).2 h
      · have h3 := e _ h
        obtain ⟨t', ht'⟩ := hW3.rows q hq
        have := block_of_row ht'
        omega
    refine go_inv (gt := fun _ => Option.none) (unroll := false) 60 [(8, 0, .is (.int .i64 ((n + 1 : Nat) : Int)))] [3, 7, 8, 9] [.pointer (some ⟨p, 0, none⟩), v, .int .i64 (l.length : Int), .int .i64 ((n + 1 : Nat) : Int)] [⟨w'.heap.size, t.a.toList, true⟩] (tbR w v p l i) [(.int .i64 (IntKind.i64.wrap ((n : Int) + 1)), .int .i64 ((n + 1 : Nat) : Int))] [] hW4 (by kernel_rfl)
      ⟨congrArg (Value.int .i64) (by rw [IntWalk.i64_in _ (by omega)]; omega), trivial⟩ trivial ?_
    intro w5 a hW5 hS5 hs
    refine ⟨(j, sv), by rw [hj]; exact Nat.lt_succ_self j, ⟨by omega, hW5.fewer (rows := []), ?_, hp, hsi4, ?_⟩, ?_⟩
    · have := pd4.walk (rows := [⟨w'.heap.size, t.a.toList, true⟩]) (fun q hq _ => hne4 q hq) hS5
      simp only [Nat.one_ne_zero, if_false] at this
      rw [← hnext, List.take_succ_eq_append_getElem hi, ht]
      simp only [bytesL, List.flatMap_append, List.flatMap_cons, List.flatMap_nil, List.append_nil, bytesT] at this ⊢
      exact this
    · rw [← hnext, List.take_succ_eq_append_getElem hi, ht, List.all_append, hall]
      simp [hma]
    · unfold tbL
      rw [← hnext]
      exact hs
theorem tagbytes_any (r : Rt w v l) (hk : Kh w) (hn : l.length ≤ 1000000) : Calls Tryd.prog 29 #[v] w (tbQ w l) := by
  refine enter (args := [v]) Tryd.func29 (by kernel_rfl) ?_
  refine go_call_is (gt := fun _ => Option.none) (unroll := false) 60 [] 53 [] [0] [v] 6 [] [] (inR tbC 1 0) [] [] (Wst.start0 w) (by kernel_rfl) trivial trivial ?_
  intro w1 hW1 _
  refine (lay_any w1).mono ?_
  rintro x w2 ⟨p, rfl, hpd, k2, hp⟩
  refine ⟨_, rfl, ?_⟩
  refine go_stop (gt := fun _ => Option.none) (unroll := false) 60 [(2, 1, .sem (.int .i64 (l.length : Int)))] [3, 7, 8, 9] [.pointer (some ⟨p, 0, none⟩), v, .int .i64 (l.length : Int), .int .i64 0] [] [] (atL tbC 3) [] [(Builtin.len_ #[24] 3 #[v], .int .i64 (l.length : Int))]
    (hW1.later k2) (by kernel_rfl) trivial ⟨fun wx _ => r.sem_len ett (ty := 3) wx, trivial⟩ ?_
  intro w3 hW3 hS3
  have pd3 := hpd.walk (rows := []) (fun _ h => nomatch h) hS3
  have key := loop_okT (P := Tryd.prog) (Q := bodyPost Tryd.prog Tryd.f29 (tbQ w l)) (n := tbN) (x := loopOf (atL tbC 3)) (k := (atL tbC 3).tail) (fun i : Nat × Value => i.1) (tbL v p l.length) (TbJ w p l) (fun _ _ => by kernel_rfl) ?_ (l.length, .slice none 0 0) w3
    ⟨Nat.le_refl _, hW3, by simpa [bytesL] using pd3, Nat.le_trans hW1.keep.size hp, fun b hb => by simp [Value.ownBlock] at hb, by simp⟩
  · unfold tbL at key
    rw [Nat.sub_self] at key
    exact key
  rintro ⟨j, sv⟩ w' hJ
  cases j with
  | succ j => exact tb_round r hk hn (j + 1, sv) w' hJ j rfl
  | zero =>
    obtain ⟨hle, hW, hpd, hp, hsi, hall⟩ := hJ
    simp only [Nat.sub_zero, List.take_length] at hpd hall
    unfold tbL
    refine go_call_is (gt := fun _ => Option.none) (unroll := false) 60 [(3, 0, .is (.bool false))] 57 [.pointer (some ⟨p, 0, none⟩)] [] [] 34 [] [] (inR tbC 9 1) [(.bool (decide (((l.length - 0 : Nat) : Int) < (l.length : Int))), .bool false)] [] hW (by kernel_rfl) ⟨congrArg Value.bool (by simp), trivial⟩ trivial ?_
    intro w4 hW4 hS4
    have pd4 := hpd.walk (rows := []) (fun _ h => nomatch h) hS4
    refine (done_any pd4 (by rw [bytesL_len]; omega)).mono ?_
    rintro x w5 ⟨u, rfl, fr⟩
    refine ⟨_, rfl, ?_⟩
    refine go_ret (gt := fun _ => Option.none) (unroll := false) 60 [] [.tmp 2] u [] [] (hW4.later fr.keep) Tryd.results29 (by kernel_rfl) trivial trivial (fun w9 hW9 hS9 => ⟨u, rfl, ?_, hW9.keep, fr.since.mono hW4.keep.size⟩)
    rw [bytesB, hall]
    exact fr.own.same fun b hb => hS9.same b ⟨fr.own.lt b hb, fun _ h => nomatch h⟩
/-- One tag's bytes. -/
theorem tbytes_any (t : Tg) (hk : Kh w) : Calls Tryd.prog 28 #[.agg t.a] w (tbQ w [t]) := by
  refine enter (args := [.agg t.a]) Tryd.func28 (by kernel_rfl) ?_
  refine go_call_is (gt := fun _ => Option.none) (unroll := false) 60 [] 29 [.slice (some ⟨w.heap.size + 1, 0, none⟩) 1 1] [] [] 5 [⟨w.heap.size, t.a.toList, true⟩, ⟨w.heap.size + 1, t.a.toList, true⟩] [] (inR (bodyOf Tryd.f28) 1 2) [] [] (Wst.start0 w) (by kernel_rfl) trivial trivial ?_
  intro w1 hW1 _
  obtain ⟨tt, hrow⟩ := hW1.rows ⟨w.heap.size + 1, t.a.toList, true⟩ (by simp)
  have r1 : Rt w1 (.slice (some ⟨w.heap.size + 1, 0, none⟩) 1 1) [t] := Rt.of_row (l := [t]) hrow (by simp [csT]) (by simp [maxLen])
  refine (tagbytes_any r1 (hk.keep0 hW1.keep) (by simp)).mono ?_
  rintro x w2 ⟨u, rfl, fr⟩
  refine ⟨_, rfl, ?_⟩
  have hW2 : Wst w ⟨[], w2.heap.size⟩ w2 := (hW1.later fr.keep).fewer (rows := [])
  refine Goal.re (tags := tagL []) (m := ⟨[], w2.heap.size⟩) ?_
  exact go_ret (gt := fun _ => Option.none) (unroll := false) 60 [] [.tmp 2] u [] [] hW2 Tryd.results28 (by kernel_rfl) trivial trivial (fun w9 hW9 hS9 => ⟨u, rfl, fr.own.same fun b hb => hS9.same b ⟨fr.own.lt b hb, fun _ h => nomatch h⟩, hW9.keep, fr.since.mono hW1.keep.size⟩)
end
end Go.Proofs.YtcimfojbggckhaaDoor
