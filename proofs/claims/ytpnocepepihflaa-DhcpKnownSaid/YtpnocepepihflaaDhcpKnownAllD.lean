/-
  DhcpKnown: for every input the call returns true and each argument reads afterwards as before. No condition.
-/
import Derived.Test.YtpnocepepihflaaDhcpKnownAllC
namespace Go.Proofs.Ytpnocepepihflaa
open Go.RowKit

/-- May an option be told? -/
def mayP (x : Opt) : Bool := x.1 != 0 && (x.1 != 255 && decide (x.2.length ≤ 255))
theorem mayO_o (e : Oe) : mayO e = mayP e.o := rfl
def optB1 (x : Opt) : List UInt8 := x.1 :: UInt8.ofNat x.2.length :: x.2
def optB (l : List Opt) : List UInt8 := l.flatMap optB1
/-- A message's bytes, of its head and what it bears. -/
def bytesH (h : List UInt8) (op : UInt8) (l : List Opt) (bh : List UInt8) : Option (List UInt8) := if (op == 1 || op == 2) = true then if l.all mayP then some (h ++ cookL ++ optB l ++ 255 :: bh) else none else none
theorem optB_len : ∀ (l : List Opt), l.all mayP = true → (optB l).length ≤ 257 * l.length
  | [], _ => by simp [optB]
  | x :: l, h => by
    simp only [List.all_cons, Bool.and_eq_true] at h
    have h1 := optB_len l h.2
    have h2 : x.2.length ≤ 255 := by
      have := h.1
      simp only [mayP, Bool.and_eq_true, decide_eq_true_eq] at this
      exact this.2.2
    simp only [optB, List.flatMap_cons, List.length_append, optB1, List.length_cons] at h1 ⊢
    omega
/-- What Bytes leaves. -/
def dbQ (w : World) (r : Option (List UInt8)) : Ending → World → Prop := fun x w' => Keep No w w' ∧ match r with
  | some bs => ∃ v, x = .returned (.tuple #[v, .int .i64 0]) ∧ NewB w.heap.size w' v bs
  | none => x = .returned (.tuple #[nilV, .int .i64 1])
structure DbI where
  j : Nat
  sv : Value
noncomputable def dbL (w : World) (m : Mh) (so sb : Sb) (p n : Nat) (i : DbI) (w' : World) : Cfg := ⟨frOf [1, 4, 59, 60, 61] [pT w.heap.size, pT p, so.v, .int .i64 (n : Int), .int .i64 ((n - i.j : Nat) : Int)], tagL [(1, 0)], ⟨dbR w m so sb, w'.heap.size⟩, atL dbC 7⟩
structure DbJ (w : World) (m : Mh) (so sb : Sb) (p : Nat) (l : List Oe) (i : DbI) (w' : World) : Prop where
  le : i.j ≤ l.length
  W : Wst w ⟨dbR w m so sb, w'.heap.size⟩ w'
  pd : Pd w' p i.sv (headL m ++ cookL ++ optB ((l.take (l.length - i.j)).map Oe.o))
  si : Since (w.heap.size + 1) i.sv
  all : ((l.take (l.length - i.j)).map Oe.o).all mayP = true
noncomputable def dbX (w : World) (m : Mh) (so sb : Sb) (p : Nat) (l : List Oe) (i : DbI) : Act → World → Prop := fun a' w' => ∃ k : DbI, k.j < i.j ∧ DbJ w m so sb p l k w' ∧ agrees dbN (dbL w m so sb p l.length k w') a'
/-- Behind each of two calls. -/
def dbB4 (b y z : List UInt8) : Nat → List UInt8
  | 0 => b
  | 1 => b ++ y
  | _ => b ++ y ++ z
def dbB5 (b y z : List UInt8) : Nat → List UInt8
  | 0 => b
  | 1 => b ++ y
  | 2 => b ++ y ++ z
  | _ => b ++ y ++ z
section
variable {w : World} {m : Mh} {so sb : Sb} {l : List Oe} {bh : List UInt8}
theorem db_no (hop : (m.op == 1 || m.op == 2) = true) {e : Oe} (he : e ∈ l) (h : mayO e = false) : bytesH (headL m) m.op (l.map Oe.o) bh = none := by
  unfold bytesH
  rw [if_pos hop, if_neg]
  intro hc
  have := List.all_eq_true.1 hc e.o (List.mem_map_of_mem he)
  rw [← mayO_o, h] at this
  cases this
theorem db_round (hop : (m.op == 1 || m.op == 2) = true) (r : RoV false w so.v l) (hl : l.length ≤ 1000000) {p : Nat} (hp : w.heap.size < p) (i : DbI) (w' : World) (hJ : DbJ w m so sb p l i w') (j : Nat) (hj : i.j = j + 1) :
    Goal Try.prog (bodyPost Try.prog Try.f13 (dbQ w (bytesH (headL m) m.op (l.map Oe.o) bh))) dbN { dbL w m so sb p l.length i w' with todo := .code (loopOf (atL dbC 7)) :: .inv (dbX w m so sb p l i) :: (atL dbC 7).tail } w' := by
  obtain ⟨hle, hW, pd, si, all⟩ := hJ
  unfold dbL
  rw [hj] at hle pd all ⊢
  simp only
  obtain ⟨q, hq⟩ : ∃ q, l.length - (j + 1) = q := ⟨_, rfl⟩
  rw [hq] at pd all ⊢
  have hql : q < l.length := by omega
  have hnext : l.length - j = q + 1 := by omega
  have hsn : l.take (q + 1) = l.take q ++ [l[q]] := List.take_succ_eq_append_getElem hql
  have hmem := List.getElem_mem hql
  have rq := r.each l[q] hmem
  have hld : ∀ wx, (∀ k, Safe ⟨dbR w m so sb, w'.heap.size⟩ k → wx.heap[k]? = w'.heap[k]?) → (Instr.loadAt 24 (.pointer (some (ad2 so.v q)))).run Try.prog wx = .ok (.agg ((l[q]).a false)) wx := fun wx hx => (r.ro.walk hW hx).sem_ld E2o hql
  obtain ⟨e, he⟩ : ∃ e, l[q] = e := ⟨_, rfl⟩
  rw [he] at hld hsn rq hmem
  have hci : decide ((q : Int) < (l.length : Int)) = true := decide_eq_true (by omega)
  have hinc : IntKind.i64.wrap ((q : Int) + 1) = ((q + 1 : Nat) : Int) := by rw [IntWalk.i64_in _ (by omega)]; omega
  have hol := optB_len _ all
  rw [List.length_map, List.length_take] at hol
  have hbl : (headL m ++ cookL ++ optB ((l.take q).map Oe.o)).length ≤ 240 + 257 * 1000000 := by
    rw [List.length_append, List.length_append, headL_len]
    show 236 + 4 + _ ≤ _
    omega
  obtain ⟨bs, hbs⟩ : ∃ bs, headL m ++ cookL ++ optB ((l.take q).map Oe.o) = bs := ⟨_, rfl⟩
  rw [hbs] at pd hbl
  have hrw : ∀ (z : Value) (n : Nat) (cs : List Value), Since (w.heap.size + 1) z → Under n z → p < n → ∀ r ∈ dbR w m so sb ++ [⟨n, cs, true⟩], r.b ≠ p ∧ z.ownBlock ≠ some r.b := fun z n cs hz hu hpn r hr => by
    simp only [List.cons_append, List.nil_append, List.mem_cons, List.not_mem_nil, or_false] at hr
    rcases hr with rfl | rfl
    · exact ⟨fun e => by have : w.heap.size = p := e; omega, fun e => by have := hz _ e; have : w.heap.size + 1 ≤ w.heap.size := this; omega⟩
    · exact ⟨fun e => by have : n = p := e; omega, fun e => Nat.lt_irrefl _ (hu _ e)⟩
  have hrow1 : ∀ r ∈ dbR w m so sb, r.own = true → r.b ≠ p ∧ i.sv.ownBlock ≠ some r.b := fun r hr _ => by
    obtain rfl := List.mem_singleton.1 hr
    exact ⟨fun e => by have : w.heap.size = p := e; omega, fun e => by have := si _ e; have : w.heap.size + 1 ≤ w.heap.size := this; omega⟩
  have hpw := pd.lt
  have huw : Under w'.heap.size i.sv := pd.own.lt
  refine go_call_is (gt := fun _ => Option.none) (unroll := false) 60 [(7, 0, .is (.bool true)), (8, 0, .sem (.pointer (some (ad2 so.v q)))), (8, 1, .sem (.agg (e.a false)))] 35 [.agg (e.a false)] [1, 4, 6, 59, 60, 61] [pT w.heap.size, pT p, pT w'.heap.size, so.v, .int .i64 (l.length : Int), .int .i64 (q : Int)] 66 (dbR w m so sb ++ [⟨w'.heap.size, (e.a false).toList, true⟩]) [(1, 0), (6, 1)] (inR dbC 9 1 (.inv (dbX w m so sb p l i)))
    [(.bool (decide ((q : Int) < (l.length : Int))), .bool true)] [(Instr.indexAt 25 so.v (.int .i64 (q : Int)), .pointer (some (ad2 so.v q))), (Instr.loadAt 24 (.pointer (some (ad2 so.v q))), .agg (e.a false))] hW (by kernel_rfl) ⟨congrArg Value.bool hci, trivial⟩ ⟨fun wx _ => r.ro.sem_at E2o hql wx, hld, trivial⟩ ?_
  intro w1 hW1 hS1
  have pd1 := pd.walk hrow1 hS1
  refine (omay_any (rq.keep0 hW1.keep)).mono ?_
  rintro x w2 ⟨rfl, k2⟩
  refine ⟨_, rfl, ?_⟩
  have hW2 := hW1.later k2
  have pd2 := pd1.keep0 k2
  cases hmay : mayO e with
  | false =>
    rw [db_no hop hmem hmay]
    exact go_ret (gt := fun _ => Option.none) (unroll := false) 60 [] [.tmp 2, .tmp 3] (.tuple #[nilV, .int .i64 1]) [] [] hW2 Try.results13 (by kernel_rfl) trivial trivial (fun w9 hW9 _ => ⟨hW9.keep, rfl⟩)
  | true =>
    have hmp : mayP e.o = true := by rw [← mayO_o]; exact hmay
    have hel : e.val.length ≤ 255 := by
      simp only [mayO, Bool.and_eq_true, decide_eq_true_eq] at hmay
      exact hmay.2.2
    refine go_stop (gt := fun _ => Option.none) (unroll := false) 60 [] [1, 4, 6, 59, 60, 61] [pT w.heap.size, pT p, pT w'.heap.size, so.v, .int .i64 (l.length : Int), .int .i64 (q : Int)] (dbR w m so sb ++ [⟨w'.heap.size, (e.a false).toList, true⟩]) [(1, 0), (6, 1)] (atR dbC 11 (.inv (dbX w m so sb p l i))) [] [] hW2 (by kernel_rfl) trivial trivial ?_
    intro w3 hW3 hS3
    have hne : ∀ r ∈ dbR w m so sb ++ [⟨w'.heap.size, (e.a false).toList, true⟩], r.b ≠ p ∧ i.sv.ownBlock ≠ some r.b := hrw _ _ _ si huw hpw
    have pd3 := pd2.walk (rows := dbR w m so sb ++ [⟨w'.heap.size, (e.a false).toList, true⟩]) (fun r hr _ => hne r hr) hS3
    have hloose : Loose w ⟨dbR w m so sb ++ [⟨w'.heap.size, (e.a false).toList, true⟩], w3.heap.size⟩ (Foot p i.sv) := fun k hk => by
      rcases hk with rfl | hk
      · exact ⟨Nat.le_of_lt hp, fun r hr => (hne r hr).1⟩
      · exact ⟨by have := si k hk; omega, fun r hr e => (hne r hr).2 (by rw [e]; exact hk)⟩
    have hKN : ∀ wx, Keep (Foot p i.sv) w3 wx → Keep No w wx := fun wx k => hW3.keep.trans' k (fun b hb h => by
      rcases h with h | h
      · omega
      · have := si b h; omega)
    obtain ⟨y, hy⟩ : ∃ y, ([e.code, UInt8.ofNat e.val.length] : List UInt8) = y := ⟨_, rfl⟩
    have hyl : y.length = 2 := by rw [← hy]; rfl
    have hnew : NewM Try.prog (Foot p i.sv) w3 (Instr.buildSlice 22 2 #[(0, bv e.code), (1, bv (UInt8.ofNat e.val.length))]) (frB w3.heap.size y) := by
      rw [← hy]
      exact frB_new rfl (by simp [maxLen]) (fun _ => by kernel_rfl)
    refine drawnM_ok (S0 := Foot p i.sv) (gt := fun _ => Option.none) (D := PadE (dbB4 bs y e.val) p i.sv w3) (g0 := gE p i.sv)
      [(5, .sem (.int .i64 (e.val.length : Int))), (6, .is (bv (UInt8.ofNat e.val.length))), (7, .new (frB w3.heap.size y)), (8, .loud padS), (11, .loud padS)]
      [1, 4, 59, 60, 61] [.is (pT w.heap.size), .is (pT p), .is so.v, .is (.int .i64 (l.length : Int)), .is (.int .i64 (q : Int))]
      (True ∧ True ∧ True ∧ True ∧ True ∧
        SemM Try.prog (Foot p i.sv) w3 (Builtin.len_ #[22] 3 #[.slice e.s.o e.s.n e.s.c]) (.int .i64 (e.val.length : Int)) ∧
        Value.int .u8 (IntKind.u8.wrap (e.val.length : Int)) = bv (UInt8.ofNat e.val.length) ∧
        NewM Try.prog (Foot p i.sv) w3 (Instr.buildSlice 22 2 #[(0, bv e.code), (1, bv (UInt8.ofNat e.val.length))]) (frB w3.heap.size y) ∧
        LoudM Try.prog (Foot p i.sv) w3 (PadE (dbB4 bs y e.val) p i.sv w3) 0 31 [.is (pT p), frB w3.heap.size y] padS ∧ True ∧ True ∧
        LoudM Try.prog (Foot p i.sv) w3 (PadE (dbB4 bs y e.val) p i.sv w3) 1 31 [padS, .is e.s.v] padS ∧ True)
      2 (afterR dbC 11 (.inv (dbX w m so sb p l i))) hW3 hloose (by kernel_rfl) (by kernel_rfl) (by kernel_rfl) PadE.keep (gE_base pd3) (gE_D pd3)
      ⟨trivial, trivial, trivial, trivial, trivial, fun wx _ => rq.run_len (ty := 3) bt.sl, congrArg (Value.int .u8) (b_lo e.val.length), hnew,
        loudE_byte rfl (by show bs.length + y.length ≤ _; omega) pE_is (pE_rd _ _), trivial, trivial, loudE_byte rfl (by show (bs ++ y).length + _ ≤ _; rw [List.length_append]; omega) pE_pad (pE_old fun wx k => rq.keep0 (hKN wx k)), trivial⟩ ?_
    intro g w4 vs k4 _ hd hok
    obtain rfl := allOkM_is (vs := [pT w.heap.size, pT p, so.v, .int .i64 (l.length : Int), .int .i64 (q : Int)]) hok
    obtain ⟨_, _, sv, pd4, _, hla⟩ := hd
    have hW4 := hW3.laterS k4 hloose
    have hw0 : w.heap.size + 1 ≤ w3.heap.size := by
      obtain ⟨t, ht⟩ := hW3.rows ⟨w.heap.size, (m.a so.v sb.v).toList, true⟩ (by simp)
      exact block_of_row ht
    have si4 := of_since si hla hw0
    have h3s : w'.heap.size < w3.heap.size := by
      obtain ⟨t, ht⟩ := hW3.rows ⟨w'.heap.size, (e.a false).toList, true⟩ (by simp)
      exact block_of_row ht
    have hne4 : ∀ r ∈ dbR w m so sb ++ [⟨w'.heap.size, (e.a false).toList, true⟩], r.b ≠ p ∧ sv.ownBlock ≠ some r.b := fun r hr => by
      refine ⟨(hne r hr).1, fun h => ?_⟩
      rcases hla with e | e
      · rw [e] at h; exact (hne r hr).2 h
      · have h3 := e _ h
        obtain ⟨t', ht'⟩ := hW3.rows r hr
        have := block_of_row ht'
        omega
    refine go_inv (gt := fun _ => Option.none) (unroll := false) 60 [(12, 0, .is (.int .i64 ((q + 1 : Nat) : Int)))] [1, 4, 59, 60, 61] [pT w.heap.size, pT p, so.v, .int .i64 (l.length : Int), .int .i64 ((q + 1 : Nat) : Int)] (dbR w m so sb ++ [⟨w'.heap.size, (e.a false).toList, true⟩]) (dbX w m so sb p l i) [(.int .i64 (IntKind.i64.wrap ((q : Int) + 1)), .int .i64 ((q + 1 : Nat) : Int))] [] hW4 (by kernel_rfl) ⟨congrArg (Value.int .i64) hinc, trivial⟩ trivial ?_
    intro w5 a hW5 hS5 hs
    refine ⟨⟨j, sv⟩, by rw [hj]; exact Nat.lt_succ_self j, ⟨by show j ≤ l.length; omega, hW5.fewer (rows := dbR w m so sb), ?_, si4, ?_⟩, ?_⟩
    · have := pd4.walk (rows := dbR w m so sb ++ [⟨w'.heap.size, (e.a false).toList, true⟩]) (fun r hr _ => hne4 r hr) hS5
      show Pd w5 p sv (headL m ++ cookL ++ optB ((l.take (l.length - j)).map Oe.o))
      have e2 : dbB4 bs y e.val 2 = headL m ++ cookL ++ optB ((l.take (l.length - j)).map Oe.o) := by
        rw [hnext, hsn, List.map_append]
        show bs ++ y ++ e.val = _
        rw [← hbs, ← hy]
        simp [optB, optB1, Oe.o]
      rw [← e2]
      exact this
    · show ((l.take (l.length - j)).map Oe.o).all mayP = true
      rw [hnext, hsn, List.map_append, List.all_append, all]
      simp [hmp]
    · unfold dbL
      simp only
      rw [hnext]
      exact hs
set_option maxRecDepth 8000 in
theorem dbytes_any (ok : OkM m) (r : RoV false w so.v l) (rb : Rd w sb.v bh) (hl : l.length ≤ 1000000) (hb : bh.length ≤ 1000000) : Calls Try.prog 13 #[.agg (m.a so.v sb.v)] w (dbQ w (bytesH (headL m) m.op (l.map Oe.o) bh)) := by
  refine enter (args := [.agg (m.a so.v sb.v)]) Try.func13 (by kernel_rfl) ?_
  refine go_call_is (gt := fun _ => Option.none) (unroll := false) 60 [] 29 [.agg (m.a so.v sb.v)] [1] [pT w.heap.size] 8 (dbR w m so sb) [(1, 0)] (inR dbC 1 1) [] [] (Wst.start0 w) (by kernel_rfl) trivial trivial ?_
  intro w1 hW1 _
  refine (mmay_any (m := m)).mono ?_
  rintro x w2 ⟨rfl, k2⟩
  refine ⟨_, rfl, ?_⟩
  have hW2 := hW1.later k2
  cases hop : (m.op == 1 || m.op == 2) with
  | false =>
    have e : bytesH (headL m) m.op (l.map Oe.o) bh = none := by
      unfold bytesH
      rw [if_neg (by rw [hop]; decide)]
    rw [e]
    exact go_ret (gt := fun _ => Option.none) (unroll := false) 60 [] [.tmp 2, .tmp 3] (.tuple #[nilV, .int .i64 1]) [] [] hW2 Try.results13 (by kernel_rfl) trivial trivial (fun w9 hW9 _ => ⟨hW9.keep, rfl⟩)
  | true =>
    refine go_stop (gt := fun _ => Option.none) (unroll := false) 60 [] [1] [pT w.heap.size] (dbR w m so sb) [(1, 0)] (atR dbC 3) [] [] hW2 (by kernel_rfl) trivial trivial ?_
    intro w3 hW3 _
    refine db_region3 ok hW3 ?_
    intro p sv w4 hW4 pd4 hp si4
    refine go_stop (gt := fun _ => Option.none) (unroll := false) 60 [] [1, 4] [pT w.heap.size, pT p] (dbR w m so sb) [(1, 0)] (atR dbC 4) [] [] hW4 (by kernel_rfl) trivial trivial ?_
    intro w5 hW5 hS5
    have hrow : ∀ {sv : Value}, Since (w.heap.size + 1) sv → ∀ r ∈ dbR w m so sb, r.own = true → r.b ≠ p ∧ sv.ownBlock ≠ some r.b := fun hs r hr _ => by
      obtain rfl := List.mem_singleton.1 hr
      exact ⟨fun e => by have : w.heap.size = p := e; omega, fun e => by have := hs _ e; have : w.heap.size + 1 ≤ w.heap.size := this; omega⟩
    have pd5 := pd4.walk (hrow si4) hS5
    refine db_region4 ok hW5 pd5 hp si4 ?_
    intro sv6 w6 hW6 pd6 si6
    refine go_stop (gt := fun _ => Option.none) (unroll := false) 60 [] [1, 4] [pT w.heap.size, pT p] (dbR w m so sb) [(1, 0)] (atR dbC 5) [] [] hW6 (by kernel_rfl) trivial trivial ?_
    intro w7 hW7 hS7
    have pd7 := pd6.walk (hrow si6) hS7
    refine db_region5 hW7 pd7 hp si6 ?_
    intro sv8 w8 hW8 pd8 si8
    refine go_stop (gt := fun _ => Option.none) (unroll := false) 60 [(6, 2, .sem (.int .i64 (l.length : Int)))] [1, 4, 59, 60, 61] [pT w.heap.size, pT p, so.v, .int .i64 (l.length : Int), .int .i64 0] (dbR w m so sb) [(1, 0)] (atL dbC 7) [] [(Builtin.len_ #[25] 3 #[so.v], .int .i64 (l.length : Int))] hW8 (by kernel_rfl) trivial ⟨fun wx _ => r.ro.sem_len E2o (ty := 3) wx, trivial⟩ ?_
    intro w9 hW9 hS9
    have pd9 := pd8.walk (hrow si8) hS9
    have key := loop_okT (P := Try.prog) (Q := bodyPost Try.prog Try.f13 (dbQ w (bytesH (headL m) m.op (l.map Oe.o) bh))) (n := dbN) (x := loopOf (atL dbC 7)) (k := (atL dbC 7).tail) (fun i : DbI => i.j) (dbL w m so sb p l.length) (DbJ w m so sb p l) (fun _ _ => by kernel_rfl) ?_ ⟨l.length, sv8⟩ w9
      ⟨Nat.le_refl _, hW9, by simpa [optB] using pd9, si8, by simp⟩
    · unfold dbL at key
      rw [Nat.sub_self] at key
      exact key
    clear pd4 pd5 pd6 pd7 pd8 pd9 hS5 hS7 hS9 hW9 hW8 hW7 hW6 hW5 hW4 hW3
    intro i w' hJ
    rcases Nat.eq_zero_or_pos i.j with hi | hi
    case inr =>
      obtain ⟨j, hj⟩ := Nat.exists_eq_succ_of_ne_zero (Nat.ne_of_gt hi)
      exact db_round hop r hl hp i w' hJ j hj
    case inl =>
      obtain ⟨hle, hW, pd, si, all⟩ := hJ
      rw [hi, Nat.sub_zero, List.take_length] at pd all
      unfold dbL
      rw [hi]
      simp only [Nat.sub_zero]
      have hol := optB_len _ all
      rw [List.length_map] at hol
      have hbl : (headL m ++ cookL ++ optB (l.map Oe.o)).length ≤ 240 + 257 * 1000000 := by
        rw [List.length_append, List.length_append, headL_len]
        show 236 + 4 + _ ≤ _
        omega
      have eR : bytesH (headL m) m.op (l.map Oe.o) bh = some (headL m ++ cookL ++ optB (l.map Oe.o) ++ [255] ++ bh) := by
        unfold bytesH
        rw [if_pos hop, if_pos all, List.append_assoc _ [255] bh]
        rfl
      rw [eR]
      obtain ⟨bs, hbs⟩ : ∃ bs, headL m ++ cookL ++ optB (l.map Oe.o) = bs := ⟨_, rfl⟩
      rw [hbs] at pd hbl ⊢
      refine go_stop (gt := fun _ => Option.none) (unroll := false) 60 [(7, 0, .is (.bool false))] [1, 4] [pT w.heap.size, pT p] (dbR w m so sb) [(1, 0)] (atR dbC 13) [(.bool (decide ((l.length : Int) < (l.length : Int))), .bool false)] [] hW (by kernel_rfl) ⟨congrArg Value.bool (by simp), trivial⟩ trivial ?_
      intro w3 hW3 hS3
      have pd3 := pd.walk (hrow si) hS3
      have hKN : ∀ wx, Keep (Foot p i.sv) w3 wx → Keep No w wx := fun wx k => hW3.keep.trans' k (fun b hb h => by
        rcases h with h | h
        · omega
        · have := si b h; omega)
      have hw0 : w.heap.size + 1 ≤ w3.heap.size := by
        obtain ⟨t, ht⟩ := hW3.rows ⟨w.heap.size, (m.a so.v sb.v).toList, true⟩ (by simp)
        exact block_of_row ht
      refine drawnM_ok (S0 := Foot p i.sv) (gt := fun _ => Option.none) (D := PadE (dbB5 bs [255] bh) p i.sv w3) (g0 := gE p i.sv)
        [(1, .new (frB w3.heap.size [255])), (2, .loud padS), (5, .loud padS), (6, .loud (doneS w3 (bs ++ [255] ++ bh))), (7, .by (doneS w3 (bs ++ [255] ++ bh)))]
        [2, 3] [doneS w3 (bs ++ [255] ++ bh), .is (.int .i64 0)]
        (True ∧ NewM Try.prog (Foot p i.sv) w3 (Instr.buildSlice 22 1 #[(0, .int .u8 255)]) (frB w3.heap.size [255]) ∧
          LoudM Try.prog (Foot p i.sv) w3 (PadE (dbB5 bs [255] bh) p i.sv w3) 0 31 [.is (pT p), frB w3.heap.size [255]] padS ∧ True ∧ True ∧
          LoudM Try.prog (Foot p i.sv) w3 (PadE (dbB5 bs [255] bh) p i.sv w3) 1 31 [padS, .is sb.v] padS ∧
          LoudM Try.prog (Foot p i.sv) w3 (PadE (dbB5 bs [255] bh) p i.sv w3) 2 36 [padS] (doneS w3 (bs ++ [255] ++ bh)) ∧
          ByM Try.prog (Foot p i.sv) w3 (.assign (.tmp 87)) 22 [(87, doneS w3 (bs ++ [255] ++ bh))] (doneS w3 (bs ++ [255] ++ bh)) ∧ True ∧ True)
        3 (afterR dbC 13) hW3 (db_loose hp si) (by kernel_rfl) (by kernel_rfl) (by kernel_rfl) PadE.keep (gE_base pd3) (gE_D pd3)
        ⟨trivial, frB_new rfl (by simp [maxLen]) (fun _ => by kernel_rfl), loudE_byte rfl (by show bs.length + 1 ≤ _; omega) pE_is (pE_rd _ _), trivial, trivial,
          loudE_byte rfl (by show (bs ++ [255]).length + _ ≤ _; rw [List.length_append]; simp only [List.length_cons, List.length_nil]; omega) pE_pad (pE_old fun wx k => rb.keep0 (hKN wx k)), loudE_done rfl rfl (by rw [List.length_append, List.length_append]; simp only [List.length_cons, List.length_nil]; omega) pE_pad, by_assign, trivial, trivial⟩ ?_
      intro g w4 vs k4 _ _ hok
      match vs, hok with
      | [x, y], ⟨hx, hy, _⟩ =>
      obtain rfl : y = _ := hy
      obtain ⟨h1, h2, _⟩ := hx
      refine go_ret (gt := fun _ => Option.none) (unroll := false) 60 [] [.tmp 2, .tmp 3] (.tuple #[x, .int .i64 0]) [] [] (hW3.laterS k4 (db_loose hp si)) Try.results13 (by kernel_rfl) trivial trivial ?_
      intro w5 hW5 hS5
      have hs5 : w4.heap.size ≤ w5.heap.size := by rw [hW5.size]; exact hS5.le
      refine ⟨hW5.keep, x, rfl, ⟨h1.rd.safe (m := ⟨dbR w m so sb, w4.heap.size⟩) (fun b hb => ⟨h1.lt b hb, fun r hr _ => ?_⟩) hS5.same, fun b hb => by have := h2 b hb; omega, fun b hb => Nat.lt_of_lt_of_le (h1.lt b hb) hs5⟩⟩
      obtain rfl := List.mem_singleton.1 hr
      have := h2 b hb
      show w.heap.size ≠ b
      omega
end
end Go.Proofs.Ytpnocepepihflaa
namespace Go.Proofs.Ytpnocepepihflaa
open Go.RowKit

theorem b4_be (a b c d : UInt8) : bytes4 (be [a, b, c, d]) = [a, b, c, d] := by
  have ha := a.toNat_lt
  have hb := b.toNat_lt
  have hc := c.toNat_lt
  have hd := d.toNat_lt
  simp only [be, bytes4, bytes2, List.cons_append, List.nil_append, List.foldl_cons, List.foldl_nil, List.cons.injEq, and_true]
  refine ⟨?_, ?_, ?_, ?_⟩ <;> (apply UInt8.toNat_inj.1; rw [UInt8.toNat_ofNat']; omega)
theorem b2_be (a b : UInt8) : bytes2 (be [a, b]) = [a, b] := by
  have ha := a.toNat_lt
  have hb := b.toNat_lt
  simp only [be, bytes2, List.foldl_cons, List.foldl_nil, List.cons.injEq, and_true]
  refine ⟨?_, ?_⟩ <;> (apply UInt8.toNat_inj.1; rw [UInt8.toNat_ofNat']; omega)
theorem b4_len : ∀ {l : List UInt8}, l.length = 4 → bytes4 (be l) = l
  | [a, b, c, d], _ => b4_be a b c d
theorem b2_len : ∀ {l : List UInt8}, l.length = 2 → bytes2 (be l) = l
  | [a, b], _ => b2_be a b
theorem tk_self {l : List UInt8} {n : Nat} (h : l.length = n) : tk n l = l := by
  subst h
  apply List.ext_getElem
  · simp [tk]
  · intro i h1 h2
    simp [tk, byteAt, h2]
theorem sub_len {b : List UInt8} {a n : Nat} (h : a + n ≤ b.length) : (sub b a n).length = n := by
  unfold sub
  rw [List.length_take, List.length_drop]
  omega
theorem take_sub (b : List UInt8) (a n : Nat) : b.take (a + n) = b.take a ++ sub b a n := List.take_add
theorem be_two (a b : UInt8) : be [a, b] = a.toNat * 256 + b.toNat := by simp [be]
theorem be_262 {a b : UInt8} (h : be [a, b] = 262) : a = 1 ∧ b = 6 := by
  rw [be_two] at h
  have hb := b.toNat_lt
  exact ⟨UInt8.toNat_inj.1 (show a.toNat = 1 by omega), UInt8.toNat_inj.1 (show b.toNat = 6 by omega)⟩
theorem four_head : ∀ {b : List UInt8}, 4 ≤ b.length → be (sub b 1 2) = 262 → [byteAt b 0, 1, 6, byteAt b 3] = b.take 4
  | a0 :: a1 :: a2 :: a3 :: r, _, h => by
    obtain ⟨rfl, rfl⟩ := be_262 (a := a1) (b := a2) h
    rfl
/-- The head of what was read is what stood ahead. -/
theorem headL_getH {b : List UInt8} (h : 236 ≤ b.length) (hs : be (sub b 1 2) = 262) : headL (getH b) = b.take 236 := by
  have e : b.take 236 = b.take 4 ++ sub b 4 4 ++ (sub b 8 2 ++ sub b 10 2) ++ (sub b 12 4 ++ sub b 16 4 ++ sub b 20 4 ++ sub b 24 4) ++ sub b 28 6 ++ sub b 34 10 ++ sub b 44 64 ++ sub b 108 128 := by
    rw [show 236 = 108 + 128 from rfl, take_sub, show 108 = 44 + 64 from rfl, take_sub, show 44 = 34 + 10 from rfl, take_sub, show 34 = 28 + 6 from rfl, take_sub, show 28 = 24 + 4 from rfl, take_sub, show 24 = 20 + 4 from rfl, take_sub, show 20 = 16 + 4 from rfl, take_sub, show 16 = 12 + 4 from rfl, take_sub, show 12 = 10 + 2 from rfl, take_sub, show 10 = 8 + 2 from rfl, take_sub, show 8 = 4 + 4 from rfl, take_sub]
    simp only [List.append_assoc]
  rw [e]
  unfold headL hd2 hd1 ips
  simp only [getH, List.flatMap_cons, List.flatMap_nil, List.append_nil]
  rw [b4_len (sub_len (by omega)), b2_len (sub_len (by omega)), b2_len (sub_len (by omega)), b4_len (sub_len (by omega)), b4_len (sub_len (by omega)), b4_len (sub_len (by omega)), b4_len (sub_len (by omega)), tk_self (sub_len (by omega)), tk_self (sub_len (by omega)), tk_self (sub_len (by omega)), tk_self (sub_len (by omega))]
  have h0 : hd0 (getH b) = b.take 4 := four_head (by omega) hs
  unfold getH at h0
  rw [h0]
  simp only [List.append_assoc]
theorem be_sub_lt (b : List UInt8) (a n m : Nat) (h : 256 ^ n = m) : be (sub b a n) < m := by
  rw [← h]
  exact be_small (by unfold sub; rw [List.length_take]; omega)
theorem okM_getH (b : List UInt8) : OkM (getH b) := ⟨be_sub_lt b 4 4 _ rfl, be_sub_lt b 8 2 _ rfl, be_sub_lt b 10 2 _ rfl, be_sub_lt b 12 4 _ rfl, be_sub_lt b 16 4 _ rfl, be_sub_lt b 20 4 _ rfl, be_sub_lt b 24 4 _ rfl⟩
theorem mayP_spec {x : Opt} (h : mayP x = true) : x.1 ≠ 0 ∧ x.1 ≠ 255 ∧ x.2.length ≤ 255 := by
  simp only [mayP, Bool.and_eq_true, bne_iff_ne, decide_eq_true_eq] at h
  exact ⟨h.1, h.2.1, h.2.2⟩
theorem len_nat {x : Opt} (h : x.2.length ≤ 255) : (UInt8.ofNat x.2.length).toNat = x.2.length := by
  rw [UInt8.toNat_ofNat']
  omega
/-- Told options are read as they were. -/
theorem optR_told : ∀ (L : List Opt) (B : List UInt8) (f : Nat), L.all mayP = true → L.length < f → optR f (optB L ++ 255 :: B) = some (L, B)
  | [], B, f + 1, _, _ => by
    show optR (f + 1) (255 :: B) = _
    rw [optR_cons, if_neg (by decide), if_pos rfl]
  | x :: L, B, f + 1, h, hf => by
    simp only [List.all_cons, Bool.and_eq_true] at h
    obtain ⟨h0, h255, hl⟩ := mayP_spec h.1
    have ih := optR_told L B f h.2 (by simpa using hf)
    have e : optB (x :: L) ++ 255 :: B = x.1 :: UInt8.ofNat x.2.length :: (x.2 ++ (optB L ++ 255 :: B)) := by simp [optB, optB1]
    rw [e, optR_cons, if_neg h0, if_neg h255]
    show (if (x.2 ++ (optB L ++ 255 :: B)).length < (UInt8.ofNat x.2.length).toNat then none else _) = _
    rw [len_nat hl, if_neg (by rw [List.length_append]; omega), List.drop_left, List.take_left, ih]
    rfl
theorem optR_nil : ∀ f, optR f [] = none
  | 0 => rfl
  | _ + 1 => rfl
/-- Cut ahead of the end they are not. -/
theorem optR_cut : ∀ (L : List Opt) (k f : Nat), L.all mayP = true → k ≤ (optB L).length → optR f ((optB L).take k) = none
  | [], k, f, _, _ => by
    show optR f (([] : List UInt8).take k) = none
    rw [List.take_nil]
    exact optR_nil f
  | x :: L, k, 0, _, _ => rfl
  | x :: L, 0, f + 1, _, _ => rfl
  | x :: L, 1, f + 1, h, _ => by
    simp only [List.all_cons, Bool.and_eq_true] at h
    obtain ⟨h0, h255, hl⟩ := mayP_spec h.1
    have e : (optB (x :: L)).take 1 = [x.1] := by simp [optB, optB1]
    rw [e, optR_cons, if_neg h0, if_neg h255]
  | x :: L, k + 2, f + 1, h, hk => by
    simp only [List.all_cons, Bool.and_eq_true] at h
    obtain ⟨h0, h255, hl⟩ := mayP_spec h.1
    have e : (optB (x :: L)).take (k + 2) = x.1 :: UInt8.ofNat x.2.length :: (x.2 ++ optB L).take k := by simp [optB, optB1]
    have e2 : (optB (x :: L)).length = x.2.length + (optB L).length + 2 := by simp [optB, optB1]
    rw [e, optR_cons, if_neg h0, if_neg h255]
    show (if ((x.2 ++ optB L).take k).length < (UInt8.ofNat x.2.length).toNat then none else _) = _
    rw [len_nat hl]
    split
    · rfl
    · rename_i hn
      rw [List.length_take, List.length_append] at hn
      have e3 : ((x.2 ++ optB L).take k).drop x.2.length = (optB L).take (k - x.2.length) := by
        rw [List.drop_take, List.drop_left]
      rw [e3, optR_cut L (k - x.2.length) f h.2 (by omega)]
      rfl
/-- With nothings between. -/
def padB1 (x : Opt) : List UInt8 := [0, 0, x.1, UInt8.ofNat x.2.length] ++ x.2 ++ [0]
def padB (l : List Opt) : List UInt8 := l.flatMap padB1
theorem optR_pad : ∀ (L : List Opt) (B : List UInt8) (f : Nat), L.all mayP = true → 4 * L.length < f → optR f (padB L ++ 255 :: B) = some (L, B)
  | [], B, f + 1, _, _ => by
    show optR (f + 1) (255 :: B) = _
    rw [optR_cons, if_neg (by decide), if_pos rfl]
  | x :: L, B, f, h, hf => by
    simp only [List.all_cons, Bool.and_eq_true] at h
    obtain ⟨h0, h255, hl⟩ := mayP_spec h.1
    rw [List.length_cons] at hf
    obtain ⟨f, rfl⟩ : ∃ g, f = g + 4 := ⟨f - 4, by omega⟩
    have ih := optR_pad L B f h.2 (by omega)
    have e : padB (x :: L) ++ 255 :: B = 0 :: 0 :: x.1 :: UInt8.ofNat x.2.length :: (x.2 ++ (0 :: (padB L ++ 255 :: B))) := by simp [padB, padB1]
    rw [e, optR_cons, if_pos rfl, optR_cons, if_pos rfl, optR_cons, if_neg h0, if_neg h255]
    show (if (x.2 ++ (0 :: (padB L ++ 255 :: B))).length < (UInt8.ofNat x.2.length).toNat then none else _) = _
    rw [len_nat hl, if_neg (by rw [List.length_append]; omega), List.drop_left, List.take_left, optR_cons, if_pos rfl, ih]
    rfl
/-- What is read may be told, and is no longer than what was read. -/
theorem optR_may : ∀ (f : Nat) (r : List UInt8) (L : List Opt) (B : List UInt8), optR f r = some (L, B) → L.all mayP = true ∧ (optB L).length + 1 + B.length ≤ r.length
  | 0, _, _, _, h => by simp [optR] at h
  | f + 1, [], _, _, h => by simp [optR] at h
  | f + 1, c :: r, L, B, h => by
    rw [optR_cons] at h
    split at h
    · obtain ⟨h1, h2⟩ := optR_may f r L B h
      exact ⟨h1, by rw [List.length_cons]; omega⟩
    · rename_i hc0
      split at h
      · cases h
        exact ⟨rfl, by simp [optB]; omega⟩
      · rename_i hc255
        match r, h with
        | n :: r2, h =>
          simp only at h
          split at h
          · cases h
          · rename_i hn
            rw [Option.map_eq_some_iff] at h
            obtain ⟨y, hy, h⟩ := h
            simp only [Prod.mk.injEq] at h
            obtain ⟨rfl, rfl⟩ := h
            obtain ⟨h1, h2⟩ := optR_may f _ y.1 y.2 hy
            have hlt := n.toNat_lt
            have hl : (r2.take n.toNat).length = n.toNat := by rw [List.length_take]; omega
            refine ⟨?_, ?_⟩
            · rw [List.all_cons, h1, Bool.and_true]
              simp only [mayP, Bool.and_eq_true, bne_iff_ne, decide_eq_true_eq]
              exact ⟨hc0, hc255, by rw [hl]; omega⟩
            · have e : (optB ((c, r2.take n.toNat) :: y.1)).length = n.toNat + (optB y.1).length + 2 := by
                simp only [optB, List.flatMap_cons, List.length_append, optB1, List.length_cons, hl]
                omega
              rw [List.length_drop] at h2
              rw [e, List.length_cons, List.length_cons]
              omega
/-- A head that may be. -/
structure OkH (h : List UInt8) : Prop where
  len : h.length = 236
  op : (byteAt h 0 == 1 || byteAt h 0 == 2) = true
  two : sub h 1 2 = [1, 6]
theorem byteAt_app {h r : List UInt8} {i : Nat} (hi : i < h.length) : byteAt (h ++ r) i = byteAt h i := by
  unfold byteAt
  rw [List.getD_eq_getElem?_getD, List.getD_eq_getElem?_getD, List.getElem?_append_left hi]
theorem sub_app {h r : List UInt8} {a n : Nat} (hi : a + n ≤ h.length) : sub (h ++ r) a n = sub h a n := by
  unfold sub
  rw [List.drop_append_of_le_length (by omega), List.take_append_of_le_length (by rw [List.length_drop]; omega)]
theorem cook_be : be cookL = 1669485411 := by decide
theorem okH_two {h : List UInt8} (o : OkH h) (r : List UInt8) : be (sub (h ++ r) 1 2) = 262 := by
  rw [sub_app (by rw [o.len]; omega), o.two]
  decide
theorem sub_cook {h : List UInt8} (hl : h.length = 236) (r : List UInt8) : sub (h ++ cookL ++ r) 236 4 = cookL := by
  unfold sub
  rw [List.append_assoc, List.drop_left' hl]
  rfl
/-- What Get tells of a head that may be. -/
theorem getR_head {h r : List UInt8} (o : OkH h) : getR (h ++ cookL ++ r) = match optR (r.length + 2) r with
    | none => (none, 4)
    | some y => (some (getH (h ++ cookL ++ r), y), 0) := by
  have hl : (h ++ cookL ++ r).length = 240 + r.length := by
    rw [List.length_append, List.length_append, o.len]
    rfl
  have e1 : byteAt (h ++ cookL ++ r) 0 = byteAt h 0 := by
    rw [List.append_assoc]
    exact byteAt_app (by rw [o.len]; omega)
  have e2 : be (sub (h ++ cookL ++ r) 1 2) = 262 := by
    rw [List.append_assoc]
    exact okH_two o _
  have e3 : be (sub (h ++ cookL ++ r) 236 4) = 1669485411 := by rw [sub_cook o.len]; exact cook_be
  have e4 : (h ++ cookL ++ r).drop 240 = r := List.drop_left' (by rw [List.length_append, o.len]; rfl)
  unfold getR
  rw [if_neg (by omega), e1, o.op, if_neg (by decide), e2, if_neg (by decide), e3, if_neg (by decide), e4, hl, show 240 + r.length - 240 + 2 = r.length + 2 by omega]
  cases optR (r.length + 2) r <;> rfl
theorem optB_two (L : List Opt) : 2 * L.length ≤ (optB L).length := by
  induction L with
  | nil => exact Nat.zero_le _
  | cons x L ih =>
    simp only [optB, List.flatMap_cons, List.length_append, optB1, List.length_cons] at ih ⊢
    omega
theorem padB_len (L : List Opt) : 4 * L.length ≤ (padB L).length := by
  induction L with
  | nil => exact Nat.zero_le _
  | cons x L ih =>
    simp only [padB, List.flatMap_cons, List.length_append, padB1, List.length_cons, List.length_nil] at ih ⊢
    omega
section
variable {h : List UInt8} {L : List Opt} {B : List UInt8}
/-- There and back. -/
theorem getR_told (o : OkH h) (hL : L.all mayP = true) : getR (h ++ cookL ++ (optB L ++ 255 :: B)) = (some (getH (h ++ cookL ++ (optB L ++ 255 :: B)), (L, B)), 0) := by
  rw [getR_head o, optR_told L B _ hL (by have := optB_two L; rw [List.length_append]; omega)]
theorem getR_padded (o : OkH h) (hL : L.all mayP = true) : getR (h ++ cookL ++ (padB L ++ 255 :: B)) = (some (getH (h ++ cookL ++ (padB L ++ 255 :: B)), (L, B)), 0) := by
  rw [getR_head o, optR_pad L B _ hL (by have := padB_len L; rw [List.length_append]; omega)]
theorem getR_cut (o : OkH h) (hL : L.all mayP = true) {k : Nat} (hk : k < 241 + (optB L).length) : getR ((h ++ cookL ++ (optB L ++ 255 :: B)).take k) = (none, 4) := by
  have hl : (h ++ cookL).length = 240 := by rw [List.length_append, o.len]; rfl
  by_cases h1 : k < 240
  · unfold getR
    rw [if_pos (by rw [List.length_take]; omega)]
  · have e : (h ++ cookL ++ (optB L ++ 255 :: B)).take k = h ++ cookL ++ (optB L).take (k - 240) := by
      rw [List.take_append, hl, List.take_of_length_le (by omega), List.take_append_of_le_length (by omega)]
    rw [e, getR_head o, optR_cut L _ _ hL (by omega)]
theorem head_told (o : OkH h) (r : List UInt8) : headL (getH (h ++ cookL ++ r)) = h := by
  rw [headL_getH (by rw [List.length_append, List.length_append, o.len]; omega) (by rw [List.append_assoc]; exact okH_two o _), List.append_assoc, List.take_left' o.len]
end
/-- What Get takes. -/
theorem getR_some {b : List UInt8} {H : Mh} {L : List Opt} {B : List UInt8} {e : Nat} (h : getR b = (some (H, (L, B)), e)) : e = 0 ∧ H = getH b ∧ OkH (b.take 236) ∧ L.all mayP = true ∧ 241 + (optB L).length + B.length ≤ b.length ∧ headL H = b.take 236 ∧ (H.op == 1 || H.op == 2) = true := by
  unfold getR at h
  split at h
  · cases h
  · rename_i h240
    split at h
    · cases h
    · rename_i hop
      split at h
      · cases h
      · rename_i h2
        split at h
        · cases h
        · rename_i hc
          have h2 : be (sub b 1 2) = 262 := by omega
          split at h
          · cases h
          · rename_i y hy
            cases h
            obtain ⟨m1, m2⟩ := optR_may _ _ L B hy
            rw [List.length_drop] at m2
            have hop : (byteAt b 0 == 1 || byteAt b 0 == 2) = true := by simpa only [Bool.not_eq_false] using hop
            have e0 : byteAt (b.take 236) 0 = byteAt b 0 := by
              have := byteAt_app (h := b.take 236) (r := b.drop 236) (i := 0) (by rw [List.length_take]; omega)
              rw [List.take_append_drop] at this
              exact this.symm
            have e1 : sub (b.take 236) 1 2 = sub b 1 2 := by
              have := sub_app (h := b.take 236) (r := b.drop 236) (a := 1) (n := 2) (by rw [List.length_take]; omega)
              rw [List.take_append_drop] at this
              exact this.symm
            have e2 : sub b 1 2 = [1, 6] := by
              have hl := sub_len (b := b) (a := 1) (n := 2) (by omega)
              obtain ⟨x, y, hxy⟩ : ∃ x y, sub b 1 2 = [x, y] := by
                match hs : sub b 1 2, hl with
                | [x, y], _ => exact ⟨x, y, rfl⟩
              rw [hxy] at h2 ⊢
              obtain ⟨rfl, rfl⟩ := be_262 h2
              rfl
            exact ⟨rfl, rfl, ⟨by rw [List.length_take]; omega, by rw [e0]; exact hop, by rw [e1]; exact e2⟩, m1, by omega, headL_getH (by omega) h2, hop⟩
theorem getR_none {b : List UInt8} {e : Nat} (h : getR b = (none, e)) : e = 4 ∨ e = 5 := by
  unfold getR at h
  split at h
  · exact .inl (Prod.mk.inj h).2.symm
  · split at h
    · exact .inr (Prod.mk.inj h).2.symm
    · split at h
      · exact .inr (Prod.mk.inj h).2.symm
      · split at h
        · exact .inr (Prod.mk.inj h).2.symm
        · split at h
          · exact .inl (Prod.mk.inj h).2.symm
          · cases h
end Go.Proofs.Ytpnocepepihflaa
namespace Go.Proofs.Ytpnocepepihflaa
open Go.RowKit

def broOp (x : UInt8) : UInt8 := UInt8.ofNat (1 + x.toNat % 2)
def broC (x : UInt8) : UInt8 := UInt8.ofNat (1 + x.toNat % 254)
theorem broOp_nat (c : UInt8) : (broOp c).toNat = 1 + c.toNat % 2 := by
  unfold broOp
  rw [UInt8.toNat_ofNat']
  omega
theorem broC_nat (c : UInt8) : (broC c).toNat = 1 + c.toNat % 254 := by
  unfold broC
  rw [UInt8.toNat_ofNat']
  omega
def broE (e : Oe) : Oe := ⟨broC e.code, e.s.cut (mn e.val.length 255), e.val.take 255⟩
def broM (m : Mh) : Mh := { m with op := broOp m.op }
/-- The options that brought leaves. -/
def broL (l : List Oe) : List Oe := (fewE l).map broE
theorem bro_next {l : List Oe} {n : Nat} (h : n < l.length) : (l.take (n + 1)).map broE = (l.take n).map broE ++ [broE l[n]] := by
  rw [List.take_succ_eq_append_getElem h, List.map_append]
  rfl
noncomputable abbrev brC : Code := bodyOf Try.f12
noncomputable abbrev brN : Nat := Try.f12.ntmps
/-- What brought leaves. -/
def broQ (w : World) (m : Mh) (sb : Sb) (l : List Oe) (bh : List UInt8) : Ending → World → Prop := fun x w' => ∃ u : Sb, x = .returned (.agg ((broM m).a u.v (sb.cut (mn bh.length 40)).v)) ∧ Keep No w w' ∧ Ro false w' u.v (broL l) ∧ Since w.heap.size u.v ∧ Under w'.heap.size u.v
structure BrI where
  j : Nat
  u : Sb
abbrev brRow (w : World) (m : Mh) (so sb : Sb) : List RowS := [⟨w.heap.size, ((broM m).a so.v sb.v).toList, true⟩, ⟨w.heap.size + 1, (mz.a nilV nilV).toList, true⟩]
noncomputable def brL (w : World) (m : Mh) (so sb : Sb) (l : List Oe) (i : BrI) (w' : World) : Cfg := ⟨frOf [1, 2, 3, 14, 15, 16] [pT w.heap.size, pT (w.heap.size + 1), i.u.v, so.v, .int .i64 (l.length : Int), .int .i64 ((l.length - i.j : Nat) : Int)], tagL [(1, 0), (2, 1)], ⟨brRow w m so sb, w'.heap.size⟩, atL brC 5⟩
structure BrJ (w : World) (m : Mh) (so sb : Sb) (l : List Oe) (i : BrI) (w' : World) : Prop where
  le : i.j ≤ l.length
  W : Wst w ⟨brRow w m so sb, w'.heap.size⟩ w'
  H : HxO false (brRow w m so sb) w' so.v l
  oo : Oo false 24 w' i.u.v ((l.take (l.length - i.j)).map broE)
  si : Since (w.heap.size + 2) i.u.v
  ne : ∀ b, so.v.ownBlock = some b → 0 < l.length → ¬ ownB i.u.v b
noncomputable def brR (w : World) (m : Mh) (so sb : Sb) (l : List Oe) (i : BrI) : Act → World → Prop := fun a' w' => ∃ k : BrI, k.j < i.j ∧ BrJ w m so sb l k w' ∧ agrees brN (brL w m so sb l k w') a'
section
variable {w : World} {m : Mh} {so sb : Sb} {l : List Oe} {bh : List UInt8} {Q : Ending → World → Prop}
theorem br_round (hv : ∀ e ∈ l, Rd w e.s.v e.val) (hl : l.length ≤ 1000000) (i : BrI) (w' : World) (hJ : BrJ w m so sb l i w') (j : Nat) (hj : i.j = j + 1) :
    Goal Try.prog (bodyPost Try.prog Try.f12 Q) brN { brL w m so sb l i w' with todo := .code (loopOf (atL brC 5)) :: .inv (brR w m so sb l i) :: (atL brC 5).tail } w' := by
  obtain ⟨hle, hW, H, oo, si, ne⟩ := hJ
  unfold brL
  rw [hj] at hle oo ⊢
  simp only
  obtain ⟨q, hq⟩ : ∃ q, l.length - (j + 1) = q := ⟨_, rfl⟩
  rw [hq] at oo ⊢
  have hql : q < l.length := by omega
  have hnext : l.length - j = q + 1 := by omega
  have rq := hv l[q] (List.getElem_mem hql)
  have hld : ∀ wx, (∀ k, Safe ⟨brRow w m so sb, w'.heap.size⟩ k → wx.heap[k]? = w'.heap[k]?) → (Instr.loadAt 24 (.pointer (some (ad2 so.v q)))).run Try.prog wx = .ok (.agg ((l[q]).a false)) wx := fun wx hx => (H.ro.same fun b hb hn => hx b (H.sf b hb hn)).sem_ld E2o hql
  have hlt := @bro_next l q hql
  obtain ⟨e, he⟩ : ∃ e, l[q] = e := ⟨_, rfl⟩
  rw [he] at hld rq hlt
  have hci : decide ((q : Int) < (l.length : Int)) = true := decide_eq_true (by omega)
  have hinc : IntKind.i64.wrap ((q : Int) + 1) = ((q + 1 : Nat) : Int) := by rw [IntWalk.i64_in _ (by omega)]; omega
  obtain ⟨ly, hly⟩ : ∃ ly, (l.take q).map broE = ly := ⟨_, rfl⟩
  rw [hly] at oo hlt
  have hlen : ly.length ≤ 1000000 := by rw [← hly, List.length_map, List.length_take]; omega
  have hc1 : Int.tmod ((e.code.toNat : Nat) : Int) 254 = ((e.code.toNat % 254 : Nat) : Int) := rem_nat e.code.toNat 254
  have hc2 : IntKind.u8.wrap (1 + ((e.code.toNat % 254 : Nat) : Int)) = (((broC e.code).toNat : Nat) : Int) := by
    rw [broC_nat, IntWalk.u8_in _ (by omega)]
    omega
  have hw2 : w.heap.size + 2 ≤ w'.heap.size := by
    obtain ⟨t, ht⟩ := hW.rows ⟨w.heap.size + 1, (mz.a nilV nilV).toList, true⟩ (by simp)
    exact block_of_row ht
  have sfu : ∀ b, i.u.v.ownBlock = some b → Safe ⟨brRow w m so sb, w'.heap.size⟩ b := fun b hb => ⟨oo.lt b hb, fun r hr _ => by
    have := si b hb
    simp only [List.mem_cons, List.not_mem_nil, or_false] at hr
    rcases hr with rfl | rfl
    · show w.heap.size ≠ b; omega
    · show w.heap.size + 1 ≠ b; omega⟩
  refine go_stop (gt := fun _ => Option.none) (unroll := false) 60 [(5, 0, .is (.bool true)), (6, 0, .sem (.pointer (some (ad2 so.v q)))), (6, 1, .sem (.agg (e.a false)))] [1, 2, 3, 5, 14, 15, 16] [pT w.heap.size, pT (w.heap.size + 1), i.u.v, pT w'.heap.size, so.v, .int .i64 (l.length : Int), .int .i64 (q : Int)] (brRow w m so sb ++ [⟨w'.heap.size, (e.a false).toList, true⟩]) [(1, 0), (2, 1), (5, 2)] (atR brC 7 (.inv (brR w m so sb l i)))
    [(.bool (decide ((q : Int) < (l.length : Int))), .bool true)] [(Instr.indexAt 25 so.v (.int .i64 (q : Int)), .pointer (some (ad2 so.v q))), (Instr.loadAt 24 (.pointer (some (ad2 so.v q))), .agg (e.a false))] hW (by kernel_rfl) ⟨congrArg Value.bool hci, trivial⟩ ⟨fun wx _ => H.ro.sem_at E2o hql wx, hld, trivial⟩ ?_
  intro w5 hW5 hS5
  have oo5 := oo.same fun b hb => hS5.same b (sfu b hb)
  have H5 := H.pass hS5 (fun r hr => by obtain rfl := List.mem_singleton.1 hr; exact Nat.le_refl _)
  have h5s : w'.heap.size < w5.heap.size := by
    obtain ⟨t, ht⟩ := hW5.rows ⟨w'.heap.size, (e.a false).toList, true⟩ (by simp)
    exact block_of_row ht
  have apart : ∀ {z : Value}, (∀ b, z.ownBlock = some b → w.heap.size + 2 ≤ b ∧ b ≠ w'.heap.size) → ∀ {wx : World}, Loose w ⟨brRow w m so sb ++ [⟨w'.heap.size, (e.a false).toList, true⟩], wx.heap.size⟩ (ownB z) := fun hz wx k hk => by
    have h1 := hz k hk
    refine ⟨by omega, fun r hr => ?_⟩
    simp only [List.cons_append, List.nil_append, List.mem_cons, List.not_mem_nil, or_false] at hr
    rcases hr with rfl | rfl | rfl
    · show w.heap.size ≠ k; omega
    · show w.heap.size + 1 ≠ k; omega
    · show w'.heap.size ≠ k; omega
  have hap := apart (z := i.u.v) (fun b hb => ⟨si b hb, by have := oo.lt b hb; omega⟩) (wx := w5)
  refine drawnM_ok (S0 := ownB i.u.v) (gt := fun _ => Option.none) (D := ApD false 24 i.u.v ly [broE e] w5) (g0 := gA i.u.v)
    [(3, .is (.int .u8 ((e.code.toNat % 254 : Nat) : Int))), (4, .is (bv (broC e.code))), (9, .sem (.int .i64 (e.val.length : Int))), (10, .sem (.int .i64 (mn e.val.length 255 : Nat))), (11, .sem (e.s.cut (mn e.val.length 255)).v), (13, .new (lsS false [broE e])), (14, .act padS), (15, .by padS)]
    [1, 2, 3, 14, 15, 16] [.is (pT w.heap.size), .is (pT (w.heap.size + 1)), padS, .is so.v, .is (.int .i64 (l.length : Int)), .is (.int .i64 (q : Int))]
    (True ∧ True ∧ True ∧ Value.int .u8 (Int.tmod ((e.code.toNat : Nat) : Int) 254) = .int .u8 ((e.code.toNat % 254 : Nat) : Int) ∧ Value.int .u8 (IntKind.u8.wrap (1 + ((e.code.toNat % 254 : Nat) : Int))) = bv (broC e.code) ∧ True ∧ True ∧ True ∧ True ∧
      SemM Try.prog (ownB i.u.v) w5 (Builtin.len_ #[22] 3 #[.slice e.s.o e.s.n e.s.c]) (.int .i64 (e.val.length : Int)) ∧
      SemM Try.prog (ownB i.u.v) w5 (Builtin.min_ #[3, 3] 3 #[.int .i64 (e.val.length : Int), .int .i64 255]) (.int .i64 (mn e.val.length 255 : Nat)) ∧
      SemM Try.prog (ownB i.u.v) w5 (Instr.sliceAt 22 (.slice e.s.o e.s.n e.s.c) Option.none (some (.int .i64 (mn e.val.length 255 : Nat))) Option.none) (e.s.cut (mn e.val.length 255)).v ∧
      True ∧
      NewM Try.prog (ownB i.u.v) w5 (Instr.buildSlice 25 1 #[(0, .agg ((broE e).a false))]) (lsS false [broE e]) ∧
      ActM Try.prog (ownB i.u.v) w5 (ApD false 24 i.u.v ly [broE e] w5) 0 (.call { callee := .builtin .append, args := #[.tmp 20, .tmp 33], argTypes := #[25, 25] }) 25 [(20, .is i.u.v), (33, lsS false [broE e])] padS ∧
      ByM Try.prog (ownB i.u.v) w5 (.assign (.tmp 34)) 25 [(34, padS)] padS ∧ True)
    1 (afterR brC 7 (.inv (brR w m so sb l i))) hW5 hap (by kernel_rfl) (by kernel_rfl) (by kernel_rfl) ApD.keep (gA_base oo5) (gA_D oo5)
    ⟨trivial, trivial, trivial, congrArg (Value.int .u8) hc1, congrArg (Value.int .u8) hc2, trivial, trivial, trivial, trivial, fun wx _ => rq.run_len (ty := 3) bt.sl, fun wx _ => run_mn #[3, 3] 3 e.val.length 255, fun wx _ => rq.sem_cutH (mn_le_left _ _) wx, trivial, new_ls (by simp [maxLen]) rfl (fun nx => by kernel_rfl), ap_app E2o (by simp; omega) _, by_assign, trivial⟩ ?_
  intro g w6 vs k6 _ hd hok
  match vs, hok with
  | [x1, x2, x3, x7, x8, x9], ⟨h1, h2, h3, h7, h8, h9, _⟩ =>
  obtain rfl : x1 = _ := h1
  obtain rfl : x2 = _ := h2
  obtain rfl : x7 = _ := h7
  obtain rfl : x8 = _ := h8
  obtain rfl : x9 = _ := h9
  have h3 : x3 = g.val := h3.2
  obtain ⟨_, _, hla, oo6⟩ := hd
  rw [← h3] at hla oo6
  obtain ⟨z, rfl⟩ := oo6.sb
  have hW6 := hW5.laterS k6 hap
  have hz : ∀ b, z.v.ownBlock = some b → w.heap.size + 2 ≤ b ∧ b ≠ w'.heap.size := fun b hb => by
    rcases hla with h | h
    · rw [h] at hb
      exact ⟨si b hb, by have := oo.lt b hb; omega⟩
    · have := h b hb
      omega
  have hapz := apart hz (wx := w6)
  have H6 : HxO false (brRow w m so sb) w6 so.v l := ⟨H5.ro.keep k6 (fun b hb e => ne b hb (by omega) e), fun b hb hn => ⟨Nat.lt_of_lt_of_le (H5.sf b hb hn).1 k6.size, (H.sf b hb hn).2⟩, fun e he => (hv e he).hx (hW6.fewer (rows := brRow w m so sb))⟩
  have ne6 : ∀ b, so.v.ownBlock = some b → 0 < l.length → ¬ ownB z.v b := fun b hb hn e => by
    rcases hla with h | h
    · exact ne b hb hn (h.symm.trans e)
    · have := h b e
      have := (H5.sf b hb hn).1
      simp only at this
      omega
  refine go_inv (gt := fun _ => Option.none) (unroll := false) 60 [(8, 0, .is (.int .i64 ((q + 1 : Nat) : Int)))] [1, 2, 3, 14, 15, 16] [pT w.heap.size, pT (w.heap.size + 1), z.v, so.v, .int .i64 (l.length : Int), .int .i64 ((q + 1 : Nat) : Int)] (brRow w m so sb ++ [⟨w'.heap.size, (e.a false).toList, true⟩]) (brR w m so sb l i)
    [(.int .i64 (IntKind.i64.wrap ((q : Int) + 1)), .int .i64 ((q + 1 : Nat) : Int))] [] hW6 (by kernel_rfl) ⟨congrArg (Value.int .i64) hinc, trivial⟩ trivial ?_
  intro w7 a hW7 hS7 hs
  have oo7 := oo6.same fun b hb => hS7.same b ⟨oo6.lt b hb, fun r hr _ => (hapz b hb).2 r hr⟩
  have H7 : HxO false (brRow w m so sb) w7 so.v l := ⟨H6.ro.same fun b hb hn => hS7.same b ⟨(H6.sf b hb hn).1, fun r hr ho => by
    rcases List.mem_append.1 hr with hr | hr
    · exact (H.sf b hb hn).2 r hr ho
    · obtain rfl := List.mem_singleton.1 hr
      have := (H.sf b hb hn).1
      simp only at this
      show w'.heap.size ≠ b
      omega⟩, fun b hb hn => ⟨Nat.lt_of_lt_of_le (H6.sf b hb hn).1 hS7.le, (H.sf b hb hn).2⟩, fun e he => (hv e he).hx (hW7.fewer (rows := brRow w m so sb))⟩
  refine ⟨⟨j, z⟩, by rw [hj]; exact Nat.lt_succ_self j, ⟨by show j ≤ l.length; omega, hW7.fewer (rows := brRow w m so sb), H7, ?_, fun b hb => (hz b hb).1, ne6⟩, ?_⟩
  · show Oo false 24 w7 z.v ((l.take (l.length - j)).map broE)
    rw [hnext, hlt]
    exact oo7
  · unfold brL
    simp only
    rw [hnext]
    exact hs
set_option maxRecDepth 8000 in
theorem brought_any (r : RoV false w so.v l) (rb : Rd w sb.v bh) (hl : l.length ≤ 9223372036854775807) : Calls Try.prog 12 #[.agg (m.a so.v sb.v)] w (broQ w m sb l bh) := by
  refine enter (args := [.agg (m.a so.v sb.v)]) Try.func12 (by kernel_rfl) ?_
  have hc1 : Int.tmod ((m.op.toNat : Nat) : Int) 2 = ((m.op.toNat % 2 : Nat) : Int) := rem_nat m.op.toNat 2
  have hc2 : IntKind.u8.wrap (1 + ((m.op.toNat % 2 : Nat) : Int)) = (((broOp m.op).toNat : Nat) : Int) := by
    rw [broOp_nat, IntWalk.u8_in _ (by omega)]
    omega
  refine go_call_is (gt := fun _ => Option.none) (unroll := false) 60 [] 18 [.agg (m.a so.v sb.v)] [1, 2] [pT w.heap.size, pT (w.heap.size + 1)] 7 [⟨w.heap.size, (m.a so.v sb.v).toList, true⟩, ⟨w.heap.size + 1, (mz.a nilV nilV).toList, true⟩] [(1, 0), (2, 1)] (inR brC 1 1) [] [] (Wst.start0 w) (by kernel_rfl) trivial trivial ?_
  intro w1 hW1 _
  refine (few_any (m := m) (r.keep0 hW1.keep) (rb.keep0 hW1.keep) hl).mono ?_
  rintro x w2 ⟨u, rfl, k2, ro2, si2, un2⟩
  refine ⟨_, rfl, ?_⟩
  have hW2 := hW1.later k2
  have hv2 : ∀ e ∈ fewE l, Rd w e.s.v e.val := fun e he => by
    obtain ⟨e0, h0, rfl⟩ := List.mem_map.1 he
    exact (r.each e0 (List.mem_of_mem_take h0)).cutS 300
  have hw2 : w.heap.size + 2 ≤ w1.heap.size := by
    obtain ⟨t, ht⟩ := hW1.rows ⟨w.heap.size + 1, (mz.a nilV nilV).toList, true⟩ (by simp)
    exact block_of_row ht
  obtain ⟨lf, hlf⟩ : ∃ lf, fewE l = lf := ⟨_, rfl⟩
  have hlen : lf.length ≤ 12 := by rw [← hlf]; exact fewE_len l
  have hbl : broL l = lf.map broE := by rw [← hlf]; rfl
  rw [hlf] at ro2 hv2
  obtain ⟨z, hz⟩ : ∃ z, sb.cut (mn bh.length 40) = z := ⟨_, rfl⟩
  rw [hz]
  have H2 : HxO false [⟨w.heap.size, (m.a so.v sb.v).toList, true⟩, ⟨w.heap.size + 1, (mz.a nilV nilV).toList, true⟩] w2 u.v lf := ⟨ro2, fun b hb _ => ⟨un2 b hb, fun r hr _ => by
    have := si2 b hb
    simp only [List.mem_cons, List.not_mem_nil, or_false] at hr
    rcases hr with rfl | rfl
    · show w.heap.size ≠ b; omega
    · show w.heap.size + 1 ≠ b; omega⟩, fun e he => (hv2 e he).hx hW2⟩
  refine go_stop (gt := fun _ => Option.none) (unroll := false) 60 [(2, 2, .is (.int .u8 ((m.op.toNat % 2 : Nat) : Int))), (2, 3, .is (bv (broOp m.op))), (4, 2, .sem (.int .i64 (lf.length : Int)))] [1, 2, 3, 14, 15, 16] [pT w.heap.size, pT (w.heap.size + 1), nilV, u.v, .int .i64 (lf.length : Int), .int .i64 0] (brRow w m u z) [(1, 0), (2, 1)] (atL brC 5) [(.int .u8 (Int.tmod ((m.op.toNat : Nat) : Int) 2), .int .u8 ((m.op.toNat % 2 : Nat) : Int)), (.int .u8 (IntKind.u8.wrap (1 + ((m.op.toNat % 2 : Nat) : Int))), bv (broOp m.op))] [(Builtin.len_ #[25] 3 #[u.v], .int .i64 (lf.length : Int))] hW2 (by kernel_rfl) ⟨congrArg (Value.int .u8) hc1, congrArg (Value.int .u8) hc2, trivial⟩ ⟨fun wx _ => ro2.sem_len E2o (ty := 3) wx, trivial⟩ ?_
  intro w3 hW3 hS3
  have h3s : w2.heap.size ≤ w3.heap.size := hS3.le
  have H3 : HxO false (brRow w m u z) w3 u.v lf := ⟨H2.ro.same fun b hb hn => hS3.same b (H2.sf b hb hn), fun b hb hn => ⟨Nat.lt_of_lt_of_le (H2.sf b hb hn).1 h3s, fun r hr _ => by
    have := si2 b hb
    simp only [List.mem_cons, List.not_mem_nil, or_false] at hr
    rcases hr with rfl | rfl
    · show w.heap.size ≠ b; omega
    · show w.heap.size + 1 ≠ b; omega⟩, fun e he => (hv2 e he).hx hW3⟩
  have key := loop_okT (P := Try.prog) (Q := bodyPost Try.prog Try.f12 (broQ w m sb l bh)) (n := brN) (x := loopOf (atL brC 5)) (k := (atL brC 5).tail) (fun i : BrI => i.j) (brL w m u z lf) (BrJ w m u z lf) (fun _ _ => by kernel_rfl) ?_ ⟨lf.length, ⟨none, 0, 0⟩⟩ w3
    ⟨Nat.le_refl _, hW3, H3, by rw [Nat.sub_self]; exact Oo.nil _ _, nilV_since _, fun b _ _ h => by simp [ownB, Value.ownBlock] at h⟩
  · unfold brL at key
    rw [Nat.sub_self] at key
    exact key
  intro i w' hJ
  rcases Nat.eq_zero_or_pos i.j with hi | hi
  case inr =>
    obtain ⟨j, hj⟩ := Nat.exists_eq_succ_of_ne_zero (Nat.ne_of_gt hi)
    exact br_round hv2 (by omega) i w' hJ j hj
  case inl =>
    obtain ⟨hle, hW, H, oo, si, ne⟩ := hJ
    rw [hi, Nat.sub_zero, List.take_length] at oo
    unfold brL
    rw [hi]
    simp only [Nat.sub_zero]
    obtain ⟨y, hy⟩ : ∃ y, i.u = y := ⟨_, rfl⟩
    rw [hy] at oo si ⊢
    refine go_ret (gt := fun _ => Option.none) (unroll := false) 60 [(5, 0, .is (.bool false))] [.cell 2 35] (.agg ((broM m).a y.v z.v)) [(.bool (decide ((lf.length : Int) < (lf.length : Int))), .bool false)] [] hW Try.results12 (by kernel_rfl) ⟨congrArg Value.bool (by simp), trivial⟩ trivial ?_
    intro w9 hW9 hS9
    have oo9 := oo.same fun b hb => hS9.same b ⟨oo.lt b hb, fun r hr _ => by
      have := si b hb
      simp only [List.mem_cons, List.not_mem_nil, or_false] at hr
      rcases hr with rfl | rfl
      · show w.heap.size ≠ b; omega
      · show w.heap.size + 1 ≠ b; omega⟩
    exact ⟨y, by rw [hz], hW9.keep, by rw [hbl]; exact oo9.rt, fun b hb => by have := si b hb; omega, oo9.lt⟩
end
end Go.Proofs.Ytpnocepepihflaa
namespace Go.Proofs.Ytpnocepepihflaa
open Go.RowKit

/-- Behind a step that turned rows and made new ones. -/
def RowGo (rows rows' : List RowS) (n : Nat) : Prop := ∀ r' ∈ rows', (∃ r ∈ rows, r.own = true ∧ r.b = r'.b) ∨ n ≤ r'.b
section
variable {rows rows' : List RowS} {w w' : World} {v : Value} {n : Nat} {bs : List UInt8} {q : Bool} {l : List Oe}
theorem Sf.go (h : Sf rows w v n) (hle : w.heap.size ≤ w'.heap.size) (hr : RowGo rows rows' w.heap.size) : Sf rows' w' v n := fun b hb hn =>
  ⟨Nat.lt_of_lt_of_le (h b hb hn).1 hle, fun r hm ho => by
    rcases hr r hm with ⟨r0, h1, h2, h3⟩ | h1
    · rw [← h3]
      exact (h b hb hn).2 r0 h1 h2
    · have h2 : b < w.heap.size := (h b hb hn).1
      omega⟩
theorem Hx.go (h : Hx rows w v bs) (hS : Seg ⟨rows, w.heap.size⟩ w ⟨rows', w'.heap.size⟩ w') (hr : RowGo rows rows' w.heap.size) : Hx rows' w' v bs := ⟨h.rd.same fun b hb hn => hS.same b (h.sf b hb hn), h.sf.go hS.le hr⟩
theorem HxO.go (h : HxO q rows w v l) (hS : Seg ⟨rows, w.heap.size⟩ w ⟨rows', w'.heap.size⟩ w') (hr : RowGo rows rows' w.heap.size) : HxO q rows' w' v l := ⟨h.ro.same fun b hb hn => hS.same b (h.sf b hb hn), h.sf.go hS.le hr, fun e he => (h.each e he).go hS hr⟩
/-- To other rows, the world being the same. -/
theorem Hx.to (h : Hx rows w v bs) (hr : ∀ r' ∈ rows', r'.own = true → ∃ r ∈ rows, r.own = true ∧ r.b = r'.b) : Hx rows' w v bs := ⟨h.rd, fun b hb hn => ⟨(h.sf b hb hn).1, fun r hm ho => by
  obtain ⟨r0, h1, h2, h3⟩ := hr r hm ho
  rw [← h3]
  exact (h.sf b hb hn).2 r0 h1 h2⟩⟩
end
/-- A message's slices, held. -/
structure HM (rows : List RowS) (w : World) (o b : Sb) (es : List Oe) (bl : List UInt8) : Prop where
  o : HxO false rows w o.v es
  b : Hx rows w b.v bl
section
variable {rows rows' more : List RowS} {W0 w w' : World} {o b : Sb} {es : List Oe} {bl : List UInt8}
theorem HM.go (h : HM rows w o b es bl) (hS : Seg ⟨rows, w.heap.size⟩ w ⟨rows', w'.heap.size⟩ w') (hr : RowGo rows rows' w.heap.size) : HM rows' w' o b es bl := ⟨h.o.go hS hr, h.b.go hS hr⟩
theorem HM.call (h : HM rows w o b es bl) (k : Keep No w w') : HM rows w' o b es bl := ⟨h.o.call k, h.b.call k⟩
theorem HM.fewer (h : HM (rows ++ more) w o b es bl) : HM rows w o b es bl := ⟨h.o.fewer, h.b.fewer⟩
theorem HM.none (h : HM rows w o b es bl) : HM [] w o b es bl := ⟨h.o.none, h.b.none⟩
/-- A message that was got. -/
theorem HM.got {W : World} (h1 : NewO w.heap.size w' o.v es) (h2 : NewB w.heap.size w' b.v bl) (hW : Wst W ⟨rows, w.heap.size⟩ w) : HM rows w' o b es bl := ⟨h1.hx hW, h2.hx hW⟩
end
/-- What of tells of a message. -/
def ofP (hl : List UInt8) (os : List Opt) (bl : List UInt8) (w : World) (x : Value) : Prop := ∃ (h o b : Sb) (es : List Oe), x = .agg #[h.v, o.v, b.v] ∧ Rd w h.v hl ∧ RoV true w o.v es ∧ es.map Oe.o = os ∧ Rd w b.v bl
theorem ofP.keep {hl bl : List UInt8} {os : List Opt} {w w' : World} {x : Value} (h : ofP hl os bl w x) (k : Keep No w w') : ofP hl os bl w' x := by
  obtain ⟨h, o, b, es, h1, h2, h3, h4, h5⟩ := h
  exact ⟨h, o, b, es, h1, h2.keep0 k, h3.keep0 k, h4, h5.keep0 k⟩
def ofSv (hl : List UInt8) (os : List Opt) (bl : List UInt8) : Sv := .such (ofP hl os bl) (fun _ _ _ k h => h.keep k)
section
variable {w0 : World} {m : Mh} {so sb : Sb} {l : List Oe} {bl hl : List UInt8} {os : List Opt}
theorem of_tell {w : World} (r : RoV false w so.v l) (rb : Rd w sb.v bl) (hn : l.length ≤ 1000000) : Calls Try.prog 16 #[.agg (m.a so.v sb.v)] w (fun e w' => ∃ v, e = .returned v ∧ Keep No w w' ∧ ofP (headL m) (l.map Oe.o) bl w' v) := by
  refine (of_any r hn).mono ?_
  rintro e w' ⟨h, o, rfl, k, h1, h2, h3, h4⟩
  exact ⟨_, rfl, k, h, o, sb, l, rfl, h1.rd, ⟨h2, fun e he => (r.each e he).keep0 k⟩, rfl, rb.keep0 k⟩
theorem of_ob (r : RoV false w0 so.v l) (rb : Rd w0 sb.v bl) (hn : l.length ≤ 1000000) (hh : headL m = hl) (ho : l.map Oe.o = os) : CallOb Try.prog w0 16 [.is (.agg (m.a so.v sb.v))] (ofSv hl os bl) := by
  subst hh ho
  intro w vals k ha
  match vals, ha with
  | [a], ⟨ha, _⟩ =>
    obtain rfl : a = _ := ha
    exact of_tell (r.keep0 k) (rb.keep0 k) hn
theorem same_ob (hn : os.length ≤ 1000000) : CallOb Try.prog w0 15 [ofSv hl os bl, ofSv hl os bl] (.is (.bool true)) := by
  intro w vals k ha
  obtain ⟨a, b, rfl, ha, hb⟩ := allOk2 ha
  obtain ⟨h1, o1, b1, e1, rfl, p1, p2, p3, p4⟩ : ofP hl os bl w a := ha
  obtain ⟨h2, o2, b2, e2, rfl, q1, q2, q3, q4⟩ : ofP hl os bl w b := hb
  have hl : e1.length ≤ 1000000 := by
    have := congrArg List.length p3
    rw [List.length_map] at this
    omega
  have hc := same_true p1 q1 p4 q4 p2 q2 (p3.trans q3.symm) hl
  refine Calls.mono hc ?_
  rintro e w' ⟨rfl, k⟩
  exact ⟨_, rfl, k, rfl⟩
theorem wakes_ob : CallOb Try.prog w0 11 [] (.is (.bool true)) := by
  intro w vals k ha
  match vals, ha with
  | [], _ =>
    refine (wakes_any w).mono ?_
    rintro e w' ⟨rfl, k⟩
    exact ⟨_, rfl, k, rfl⟩
end
/-- What may be, of any options: all may be told. -/
theorem broL_may {l : List Oe} : ((broL l).map Oe.o).all mayP = true := by
  rw [List.all_eq_true]
  intro x hx
  obtain ⟨e, he, rfl⟩ := List.mem_map.1 hx
  obtain ⟨e0, _, rfl⟩ := List.mem_map.1 he
  have h1 := broC_nat e0.code
  simp only [mayP, Oe.o, broE, Bool.and_eq_true, bne_iff_ne, decide_eq_true_eq, List.length_take]
  refine ⟨fun h => ?_, fun h => ?_, by omega⟩
  · rw [h] at h1; have : (0 : UInt8).toNat = 0 := rfl; omega
  · rw [h] at h1; have : (255 : UInt8).toNat = 255 := rfl; omega
theorem broM_op (m : Mh) : ((broM m).op == 1 || (broM m).op == 2) = true := by
  have h1 := broOp_nat m.op
  show (broOp m.op == 1 || broOp m.op == 2) = true
  rcases Nat.mod_two_eq_zero_or_one m.op.toNat with h | h
  · have : broOp m.op = 1 := UInt8.toNat_inj.1 (by rw [h1, h]; rfl)
    rw [this]; rfl
  · have : broOp m.op = 2 := UInt8.toNat_inj.1 (by rw [h1, h]; rfl)
    rw [this]; rfl
theorem okM_bro {m : Mh} (h : OkM m) : OkM (broM m) := ⟨h.xid, h.secs, h.flags, h.client, h.yours, h.next, h.relay⟩
theorem okH_headL {m : Mh} (h : (m.op == 1 || m.op == 2) = true) : OkH (headL m) := ⟨headL_len m, h, rfl⟩
theorem broL_len (l : List Oe) : (broL l).length ≤ 12 := by
  unfold broL
  rw [List.length_map]
  exact fewE_len l
theorem broL_each {w : World} {l : List Oe} (h : ∀ e ∈ l, Rd w e.s.v e.val) : ∀ e ∈ broL l, Rd w e.s.v e.val := fun e he => by
  obtain ⟨e1, h1, rfl⟩ := List.mem_map.1 he
  obtain ⟨e2, h2, rfl⟩ := List.mem_map.1 h1
  exact (((h e2 (List.mem_of_mem_take h2)).cutS 300).cutS 255)
theorem fewE_each {w : World} {l : List Oe} (h : ∀ e ∈ l, Rd w e.s.v e.val) : ∀ e ∈ fewE l, Rd w e.s.v e.val := fun e he => by
  obtain ⟨e2, h2, rfl⟩ := List.mem_map.1 he
  exact (h e2 (List.mem_of_mem_take h2)).cutS 300
end Go.Proofs.Ytpnocepepihflaa
namespace Go.Proofs.Ytpnocepepihflaa
open Go.RowKit
namespace H

/-- New, and not in the region's blocks. -/
def FrZ (N : Nat) (g : Gh) (w : World) (v : Value) : Prop := Since N v ∧ ∀ b, v.ownBlock = some b → b < w.heap.size ∧ ¬ g.priv b
theorem FrZ.tr {N : Nat} {g g' : Gh} {w w' : World} {v : Value} (h : FrZ N g w v) (k : Tr g w g' w') : FrZ N g' w' v := ⟨h.1, fun b hb => ⟨Nat.lt_of_lt_of_le (h.2 b hb).1 k.keep.size, fun hp => by
  rcases k.priv b hp with h1 | h1
  · exact (h.2 b hb).2 h1
  · have := (h.2 b hb).1; omega⟩⟩
structure GotF (N : Nat) (os : List Opt) (bl : List UInt8) (g : Gh) (w : World) (z b : Sb) (es : List Oe) : Prop where
  o : es.map Oe.o = os
  ro : Ro false w z.v es
  fz : FrZ N g w z.v
  each : ∀ e ∈ es, Rd w e.s.v e.val ∧ FrZ N g w e.s.v
  rb : Rd w b.v bl
  fb : FrZ N g w b.v
theorem GotF.tr {N : Nat} {os : List Opt} {bl : List UInt8} {g g' : Gh} {w w' : World} {z b : Sb} {es : List Oe} (h : GotF N os bl g w z b es) (k : Tr g w g' w') : GotF N os bl g' w' z b es :=
  ⟨h.o, h.ro.keep k.keep (fun b hb => (h.fz.2 b hb).2), h.fz.tr k, fun e he => ⟨(h.each e he).1.keep k.keep (fun b hb => ((h.each e he).2.2 b hb).2), (h.each e he).2.tr k⟩, h.rb.keep k.keep (fun b hb => (h.fb.2 b hb).2), h.fb.tr k⟩
def gotX (N : Nat) (m : Mh) (os : List Opt) (bl : List UInt8) (g : Gh) (w : World) (x : Value) : Prop := ∃ (z b : Sb) (es : List Oe), x = .agg (m.a z.v b.v) ∧ GotF N os bl g w z b es
theorem gotX.tr {N : Nat} {m : Mh} {os : List Opt} {bl : List UInt8} {g g' : Gh} {w w' : World} {x : Value} (h : gotX N m os bl g w x) (k : Tr g w g' w') : gotX N m os bl g' w' x := by
  obtain ⟨z, b, es, h1, h2⟩ := h
  exact ⟨z, b, es, h1, h2.tr k⟩
def gotS (N : Nat) (m : Mh) (os : List Opt) (bl : List UInt8) : Sm := .such (gotX N m os bl) (fun _ _ _ _ _ k h => h.tr k)
def tupS (N : Nat) (m : Mh) (os : List Opt) (bl : List UInt8) : Sm := .such (fun g w x => ∃ y, x = .tuple #[y, .int .i64 0] ∧ gotX N m os bl g w y) (fun _ _ _ _ _ k h => by obtain ⟨y, h1, h2⟩ := h; exact ⟨y, h1, h2.tr k⟩)
/-- Behind two appends, beside a row; behind the store. -/
def GetD (u : Value) (B : Nat → List UInt8) (w0 : World) (m : Mh) (os : List Opt) (bl : List UInt8) : Nat → Nat → Gh → World → Prop
  | 3, _, g, w => ∃ (z b : Sb) (es : List Oe) (q : Nat), (∀ y, (99, y) ∈ g.val → y = pT q) ∧ w0.heap.size ≤ q ∧ (∃ t, w.heap[q]? = some (.cells (m.a z.v b.v).toList.toArray t (0, 0))) ∧ g.priv q ∧ GotF w0.heap.size os bl g w z b es
  | k, n, g, w => ChD u (mz.a nilV nilV).toList B w0 k n g w
section
variable {u : Value} {B : Nat → List UInt8} {w0 : World} {m : Mh} {os : List Opt} {bl : List UInt8}
theorem GetD.low : ∀ {k n : Nat} {g : Gh} {w : World}, k ≤ 2 → (GetD u B w0 m os bl k n g w ↔ ChD u (mz.a nilV nilV).toList B w0 k n g w)
  | 0, _, _, _, _ => Iff.rfl
  | 1, _, _, _, _ => Iff.rfl
  | 2, _, _, _, _ => Iff.rfl
theorem GetD.keep : ∀ (k n : Nat) (g : Gh) (w w' : World), Keep No w w' → GetD u B w0 m os bl k n g w → GetD u B w0 m os bl k n g w'
  | 0, _, _, _, _, kp, h => ChD.keep _ _ _ _ _ kp h
  | 1, _, _, _, _, kp, h => ChD.keep _ _ _ _ _ kp h
  | 2, _, _, _, _, kp, h => ChD.keep _ _ _ _ _ kp h
  | 3, _, _, _, _, kp, ⟨z, b, es, q, h1, h2, ⟨t, h3⟩, h4, h5⟩ => ⟨z, b, es, q, h1, h2, ⟨t, (kp.block q (block_of_row h3) (fun f => f)).trans h3⟩, h4, h5.tr (Tr.quiet kp)⟩
  | _ + 4, _, _, _, _, kp, h => ChD.keep _ _ _ _ _ kp h
set_option maxRecDepth 8000 in
theorem mid_get {x : Tmp} {ty : TypeId} (hg : getR (B 2) = (some (m, (os, bl)), 0)) (hl : (B 2).length ≤ 1000000) :
    MidM Try.prog (ownB u) w0 (GetD u B w0 m os bl) 2 (.call { callee := .value (.func 14), args := #[.tmp x], argTypes := #[22] }) ty [(x, nth 2)] (tupS w0.heap.size m os bl) := by
  intro a o g w k ho hty hk hb hk2 ⟨n, hd⟩ hr
  obtain ⟨v, ob, h⟩ := (GetD.low hk2).1 hd
  have hx : (2, a.tmps.getD x undef) ∈ g.val := hr (x, nth 2) (by simp)
  have hk3 : k = 2 := by rcases h.le _ _ hx with h1 | h1 <;> omega
  subst hk3
  have ex := h.cur _ hx
  have ea : (#[Operand.tmp x] : Array Operand).map a.eval = #[a.tmps.getD x undef] := by simp [Act.eval]
  rw [run_call ho rfl (by kernel_rfl), ea]
  show Keep No w w ∧ Calls Try.prog 14 #[a.tmps.getD x undef] w (fun e w'' => ∃ v, e = .returned v ∧ Keep No w w'' ∧ (tupS w0.heap.size m os bl).ok g w'' v)
  rw [ex]
  refine ⟨Keep.refl _ _, ?_⟩
  refine (dget_any h.own.rd hl).mono ?_
  rintro e w' ⟨y, rfl, kp, hm⟩
  rw [hg] at hm
  obtain ⟨z, b, es, hy, h1, h2, h3⟩ := hm
  have fr : ∀ {v : Value}, Since w.heap.size v → Under w'.heap.size v → FrZ w0.heap.size g w' v := fun hs hu => ⟨hs.mono hk.size, fun i hi => ⟨hu i hi, fun hp => by have := (hb i hp).1; have := hs i hi; omega⟩⟩
  have hgf : GotF w0.heap.size os bl g w' z b es := ⟨h1, h2.ro, fr h2.si h2.un, fun e he => ⟨(h2.each e he).rd, fr (h2.each e he).si (h2.each e he).un⟩, h3.rd, fr h3.si h3.un⟩
  have hgx : gotX w0.heap.size m os bl g w' y := ⟨z, b, es, hy, hgf⟩
  refine ⟨_, rfl, kp, y, ?_, hgx⟩
  rw [hg]
  rfl
theorem by_move {P : Program} {S0 : Nat → Prop} {t : Tmp} {ty : TypeId} {s : Sm} : ByM P S0 w0 (.move (.tmp t)) ty [(t, s)] s := by
  intro a o g w ho hty k hb hr
  have h := hr (t, s) (by simp)
  unfold execOp
  rw [ho]
  exact ⟨Keep.refl _ _, h⟩
theorem by_ext0 {P : Program} {S0 : Nat → Prop} {t : Tmp} {ty : TypeId} {N : Nat} : ByM P S0 w0 (.extract (.tmp t) 0) ty [(t, tupS N m os bl)] (gotS N m os bl) := by
  intro a o g w ho hty k hb hr
  obtain ⟨y, h1, h2⟩ : ∃ y, a.tmps.getD t undef = .tuple #[y, .int .i64 0] ∧ gotX N m os bl g w y := hr (t, tupS N m os bl) (by simp)
  unfold execOp
  simp only [ho]
  rw [show a.eval (.tmp t) = _ from h1]
  exact ⟨Keep.refl _ _, h2⟩
theorem by_ext1 {P : Program} {S0 : Nat → Prop} {t : Tmp} {ty : TypeId} {N : Nat} : ByM P S0 w0 (.extract (.tmp t) 1) ty [(t, tupS N m os bl)] (.is (.int .i64 0)) := by
  intro a o g w ho hty k hb hr
  obtain ⟨y, h1, h2⟩ : ∃ y, a.tmps.getD t undef = .tuple #[y, .int .i64 0] ∧ gotX N m os bl g w y := hr (t, tupS N m os bl) (by simp)
  unfold execOp
  simp only [ho]
  rw [show a.eval (.tmp t) = _ from h1]
  exact ⟨Keep.refl _ _, rfl⟩
theorem act_fill {W : World} {p v : Tmp} {e ty : TypeId} (hK : ∀ w, Keep (ownB u) w0 w → Keep No W w) (l : Nat → List (Nat × Nat)) (hl : ∀ b, ∀ q ∈ l b, q.1 = q.2)
    (hq : ∀ zo zn zc bo bn bc b nx, gRun Try.prog (some 0) (Instr.storeAt e (.pointer (some ⟨b, 0, none⟩)) (.agg (m.a (.slice zo zn zc) (.slice bo bn bc)))) ⟨[⟨b, (mz.a nilV nilV).toList, true⟩], nx⟩ = some ((), ⟨[⟨b, (m.a (.slice zo zn zc) (.slice bo bn bc)).toList, true⟩], nx⟩, l b)) :
    ActM Try.prog (ownB u) w0 (GetD u B w0 m os bl) 2 (.store e (.tmp p) (.tmp v)) ty [(p, nth 99), (v, gotS w0.heap.size m os bl)] (.is undef) := by
  intro a o g w n ho _ hk hb hd hr
  obtain ⟨x, ob, h⟩ := (GetD.low (Nat.le_refl 2)).1 hd
  have hp : (99, a.tmps.getD p undef) ∈ g.val := hr (p, nth 99) (by simp)
  obtain ⟨z, b, es, e2, hf⟩ : gotX w0.heap.size m os bl g w (a.tmps.getD v undef) := hr (v, gotS w0.heap.size m os bl) (by simp)
  obtain ⟨q, hob, e1⟩ := h.row _ hp
  obtain ⟨hq0, hxq, t, hrow⟩ := h.obr q hob
  have hWq : W.heap.size ≤ q := by
    have h1 := hK w0 (Keep.refl _ _)
    exact Nat.le_trans h1.size hq0
  obtain ⟨w', t', he, k1, hs, hrow'⟩ := store_step (W := W) (b := q) (off := 0) (V := .agg (m.a z.v b.v)) ho e1 (show a.eval (.tmp v) = _ from e2) hrow (hK w hk) hWq (l q) (hl q) (hq z.o z.n z.c b.o b.n b.c q)
  rw [he]
  have hpq : g.priv q := (h.priv q).2 (.inr hob)
  have htr : Tr g w g w' := ⟨k1.mono fun i _ hi => by rw [show i = q from hi]; exact hpq, fun i hi => .inl hi, fun y hy => hy⟩
  refine ⟨g, htr, fun i hi => ⟨by have := (hb i hi).1; omega, (hb i hi).2⟩, ⟨z, b, es, q, fun y hy => ?_, hq0, ⟨t', hrow'⟩, hpq, hf.tr htr⟩, rfl⟩
  obtain ⟨q2, h2, h3⟩ := h.row y hy
  rw [hob] at h2
  rw [h3, ← Option.some.inj h2]
end
end H
end Go.Proofs.Ytpnocepepihflaa
namespace Go.Proofs.Ytpnocepepihflaa
open Go.RowKit

def tellL (h : List UInt8) (L : List Opt) (B : List UInt8) : List UInt8 := h ++ cookL ++ (optB L ++ 255 :: B)
theorem bytesH_may {h : List UInt8} {op : UInt8} {L : List Opt} {B : List UInt8} (ho : (op == 1 || op == 2) = true) (hL : L.all mayP = true) : bytesH h op L B = some (tellL h L B) := by
  unfold bytesH tellL
  rw [if_pos ho, if_pos hL, List.append_assoc (h ++ cookL)]
theorem tellL_len {h : List UInt8} {L : List Opt} {B : List UInt8} (hh : h.length = 236) : (tellL h L B).length = 241 + (optB L).length + B.length := by
  unfold tellL
  simp only [List.length_append, hh, List.length_cons]
  show 236 + 4 + _ = _
  omega
noncomputable abbrev bkC : Code := bodyOf Try.f4
noncomputable abbrev bkN : Nat := Try.f4.ntmps
abbrev bkR (w : World) (m : Mh) (u z : Sb) : List RowS := [⟨w.heap.size, (m.a u.v z.v).toList, true⟩]
theorem bk_go {w : World} {m m' : Mh} {u z u' z' : Sb} {n : Nat} : RowGo (bkR w m u z) (bkR w m' u' z') n := fun r hr => by
  obtain rfl := List.mem_singleton.1 hr
  exact .inl ⟨_, List.mem_singleton.2 rfl, rfl, rfl⟩
theorem bk_go2 {w : World} {m m' : Mh} {u z u' z' : Sb} {n k : Nat} {cs : List Value} (h : n ≤ k) : RowGo (bkR w m u z) (bkR w m' u' z' ++ [⟨k, cs, true⟩]) n := fun r hr => by
  rcases List.mem_append.1 hr with hr | hr
  · exact bk_go r hr
  · obtain rfl := List.mem_singleton.1 hr
    exact .inr h
section
variable {w : World} {m : Mh} {so sb : Sb} {l : List Oe} {bh : List UInt8} {v : Value} {c : Nat} {R : Ending → World → Prop}
set_option maxRecDepth 8000 in
theorem bk1 (ok : OkM m) (r : RoV false w so.v l) (rb : Rd w sb.v bh) (hl : l.length ≤ 9223372036854775807)
    (hk : ∀ (u z : Sb) (v7 : Value) w5, z = sb.cut (mn bh.length 40) → Wst w ⟨bkR w (broM m) u z, w5.heap.size⟩ w5 → HxO false (bkR w (broM m) u z) w5 u.v (broL l) → Since (w.heap.size + 1) u.v → Hx (bkR w (broM m) u z) w5 v7 (tellL (headL (broM m)) ((broL l).map Oe.o) (bh.take 40)) →
      Goal Try.prog (bodyPost Try.prog Try.f4 R) bkN ⟨frOf [1, 2, 3, 7, 50] [v, .int .u16 (c : Int), pT w.heap.size, v7, .bool false], tagL [(3, 0)], ⟨bkR w (broM m) u z, w5.heap.size⟩, afterR bkC 4⟩ w5) :
    Calls Try.prog 4 #[.agg (m.a so.v sb.v), v, .int .u16 (c : Int)] w R := by
  refine enter (args := [.agg (m.a so.v sb.v), v, .int .u16 (c : Int)]) Try.func4 (by kernel_rfl) ?_
  refine go_call_is (gt := fun _ => Option.none) (unroll := false) 60 [] 12 [.agg (m.a so.v sb.v)] [1, 2, 3] [v, .int .u16 (c : Int), pT w.heap.size] 26 (bkR w m so sb) [(3, 0)] (inR bkC 1 1) [] [] (Wst.start0 w) (by kernel_rfl) trivial trivial ?_
  intro w1 hW1 _
  refine (brought_any (m := m) (r.keep0 hW1.keep) (rb.keep0 hW1.keep) hl).mono ?_
  rintro x w2 ⟨u, rfl, k2, ro2, si2, un2⟩
  refine ⟨_, rfl, ?_⟩
  have hW2 := hW1.later k2
  have hw1 : w.heap.size + 1 ≤ w1.heap.size := by
    obtain ⟨t, ht⟩ := hW1.rows ⟨w.heap.size, (m.a so.v sb.v).toList, true⟩ (by simp)
    exact block_of_row ht
  have siu : Since (w.heap.size + 1) u.v := si2.mono hw1
  have rz : Rd w (sb.cut (mn bh.length 40)).v (bh.take 40) := rb.cutS 40
  obtain ⟨z, hz⟩ : ∃ z, sb.cut (mn bh.length 40) = z := ⟨_, rfl⟩
  rw [hz] at rz ⊢
  have hev : ∀ e ∈ broL l, Rd w e.s.v e.val := broL_each r.each
  obtain ⟨es, hes⟩ : ∃ es, broL l = es := ⟨_, rfl⟩
  have hmay : (es.map Oe.o).all mayP = true := by rw [← hes]; exact broL_may
  have hlen : es.length ≤ 12 := by rw [← hes]; exact broL_len l
  rw [hes] at ro2 hev hk
  have hop := broM_op m
  have okb := okM_bro ok
  obtain ⟨M, hM⟩ : ∃ M, broM m = M := ⟨_, rfl⟩
  rw [hM] at hop okb hk ⊢
  obtain ⟨os, hos⟩ : ∃ os, es.map Oe.o = os := ⟨_, rfl⟩
  obtain ⟨B, hB⟩ : ∃ B, bh.take 40 = B := ⟨_, rfl⟩
  have hBl : B.length ≤ 40 := by rw [← hB, List.length_take]; omega
  rw [hos] at hmay hk
  rw [hB] at rz hk
  have hoL : (optB os).length ≤ 257 * 12 := by
    have h1 := optB_len os hmay
    have h2 : os.length = es.length := by rw [← hos, List.length_map]
    omega
  have Hu2 : HxO false (bkR w m so sb) w2 u.v es := ⟨ro2, fun b hb _ => ⟨un2 b hb, fun r hr _ => by
    obtain rfl := List.mem_singleton.1 hr
    have := siu b hb
    show w.heap.size ≠ b
    omega⟩, fun e he => (hev e he).hx hW2⟩
  refine go_call_is (gt := fun _ => Option.none) (unroll := false) 60 [] 13 [.agg (M.a u.v z.v)] [1, 2, 3] [v, .int .u16 (c : Int), pT w.heap.size] 29 (bkR w M u z) [(3, 0)] (inR bkC 2 1) [] [] hW2 (by kernel_rfl) trivial trivial ?_
  intro w3 hW3 hS3
  have Hu3 := Hu2.go hS3 bk_go
  refine (dbytes_any (m := M) okb Hu3.rv (rz.keep0 hW3.keep) (by omega) (by omega)).mono ?_
  rintro x w4 ⟨k4, hr4⟩
  rw [hos, bytesH_may hop hmay] at hr4
  obtain ⟨v7, rfl, n7⟩ := hr4
  refine ⟨_, rfl, ?_⟩
  have hW4 := hW3.later k4
  have Hu4 := Hu3.call k4
  have H74 := n7.hx hW3
  have oh : OkH (headL M) := okH_headL hop
  have hbl := tellL_len (L := os) (B := B) oh.len
  have hg : getR (tellL (headL M) os B) = (some (getH (tellL (headL M) os B), (os, B)), 0) := getR_told oh hmay
  have hhd : headL (getH (tellL (headL M) os B)) = headL M := head_told oh _
  obtain ⟨bb, hbb⟩ : ∃ bb, tellL (headL M) os B = bb := ⟨_, rfl⟩
  rw [hbb] at H74 hbl hg hhd hk
  refine go_call_is (gt := fun _ => Option.none) (unroll := false) 60 [] 14 [v7] [1, 2, 3, 7, 8] [v, .int .u16 (c : Int), pT w.heap.size, v7, .int .i64 0] 34 (bkR w M u z) [(3, 0)] (inR bkC 3 1) [] [] hW4 (by kernel_rfl) trivial trivial ?_
  intro w5 hW5 hS5
  have Hu5 := Hu4.go hS5 bk_go
  have H75 := H74.go hS5 bk_go
  refine (dget_any H75.rd (by omega)).mono ?_
  rintro x w6 ⟨y, rfl, k6, hm6⟩
  refine ⟨_, rfl, ?_⟩
  rw [hg] at hm6 ⊢
  obtain ⟨z3, b3, es3, rfl, ho3, no3, nb3⟩ := hm6
  have hW6 := hW5.later k6
  have Hu6 := Hu5.call k6
  have H76 := H75.call k6
  have M6 : HM (bkR w M u z) w6 z3 b3 es3 B := .got no3 nb3 hW5
  obtain ⟨G, hG⟩ : ∃ G, getH bb = G := ⟨_, rfl⟩
  rw [hG] at hhd ⊢
  refine go_stop (gt := fun _ => Option.none) (unroll := false) 60 [] [1, 2, 3, 7, 8, 9, 10] [v, .int .u16 (c : Int), pT w.heap.size, v7, .int .i64 0, pT w6.heap.size, .int .i64 0] (bkR w M u z ++ [⟨w6.heap.size, (G.a z3.v b3.v).toList, true⟩]) [(3, 0), (9, 1)] (atR bkC 4) [] [] hW6 (by kernel_rfl) trivial trivial ?_
  intro w7 hW7 hS7
  have Hu7 := Hu6.go hS7 (bk_go2 (Nat.le_refl _))
  have H77 := H76.go hS7 (bk_go2 (Nat.le_refl _))
  have M7 := M6.go hS7 (bk_go2 (Nat.le_refl _))
  have hes3 : es3.length = os.length := by have := congrArg List.length ho3; simpa using this
  have hosl : os.length ≤ 12 := by rw [← hos, List.length_map]; exact hlen
  refine drawn_ok (gt := fun _ => Option.none) [(8, .call (ofSv (headL M) os B)), (10, .call (ofSv (headL M) os B)), (11, .call (.is (.bool true)))] [1, 2, 3, 7, 50] [.is v, .is (.int .u16 (c : Int)), .is (pT w.heap.size), .is v7, .is (.bool false)] []
    [(16, [.is (.agg (M.a u.v z.v))], ofSv (headL M) os B), (16, [.is (.agg (G.a z3.v b3.v))], ofSv (headL M) os B), (15, [ofSv (headL M) os B, ofSv (headL M) os B], .is (.bool true))] [] [] [] hW7 (by kernel_rfl) (by kernel_rfl) trivial
    ⟨of_ob Hu7.rv (rz.keep0 hW7.keep) (by omega) rfl hos, of_ob M7.o.rv M7.b.rd (by omega) hhd ho3, same_ob (by omega), trivial⟩ trivial trivial trivial ?_
  intro w8 vs k8 hv8
  obtain rfl := allOk_is (vs := [v, .int .u16 (c : Int), pT w.heap.size, v7, .bool false]) hv8
  have hW8 := hW7.later k8
  have Hu8 := (Hu7.call k8).fewer (rows := bkR w M u z)
  have H78 := (H77.call k8).fewer (rows := bkR w M u z)
  refine Goal.re (tags := tagL [(3, 0)]) (m := ⟨bkR w M u z, w8.heap.size⟩) ?_
  exact hk u z v7 w8 hz.symm (hW8.fewer (rows := bkR w M u z)) Hu8 siu H78
end
end Go.Proofs.Ytpnocepepihflaa
namespace Go.Proofs.Ytpnocepepihflaa
open Go.RowKit

theorem Rd.cutN {w : World} {v : Value} {bs : List UInt8} (r : Rd w v bs) {k : Nat} (h : k ≤ bs.length) : Rd w (cutv v 0 k) (bs.take k) := by
  have := r.cut (Nat.zero_le k) h
  rw [List.drop_zero, Nat.sub_zero] at this
  exact this
section
variable {w : World} {M : Mh} {u z : Sb} {es : List Oe} {os : List Opt} {B : List UInt8} {v v7 : Value} {c : Nat} {R : Ending → World → Prop}
set_option maxRecDepth 8000 in
theorem bk2 (hop : (M.op == 1 || M.op == 2) = true) (hmay : os.all mayP = true) (hol : os.length ≤ 12) (hB : B.length ≤ 40) (rz : Rd w z.v B) (hc : c < 65536) {w5 : World} (hW5 : Wst w ⟨bkR w M u z, w5.heap.size⟩ w5) (Hu : HxO false (bkR w M u z) w5 u.v es) (H7 : Hx (bkR w M u z) w5 v7 (tellL (headL M) os B))
    (hk : ∀ (x : Sb) w6, Wst w ⟨bkR w M u z, w6.heap.size⟩ w6 → HxO false (bkR w M u z) w6 u.v es → Ab w6 x.v (headL M ++ cookL) → Since (w.heap.size + 1) x.v → (∀ b, x.v.ownBlock = some b → 0 < es.length → u.v.ownBlock ≠ some b) →
      Goal Try.prog (bodyPost Try.prog Try.f4 R) bkN ⟨frOf [1, 3, 14, 75, 76, 77] [v, pT w.heap.size, x.v, u.v, .int .i64 (es.length : Int), .int .i64 0], tagL [(3, 0)], ⟨bkR w M u z, w6.heap.size⟩, atL bkC 14⟩ w6) :
    Goal Try.prog (bodyPost Try.prog Try.f4 R) bkN ⟨frOf [1, 2, 3, 7, 50] [v, .int .u16 (c : Int), pT w.heap.size, v7, .bool false], tagL [(3, 0)], ⟨bkR w M u z, w5.heap.size⟩, afterR bkC 4⟩ w5 := by
  have oh : OkH (headL M) := okH_headL hop
  have hbl := tellL_len (L := os) (B := B) oh.len
  have hoL := optB_len os hmay
  have hcut : ∀ {k : Nat}, k < 241 + (optB os).length → getR ((tellL (headL M) os B).take k) = (none, 4) := getR_cut oh hmay
  have h240 : (tellL (headL M) os B).take 240 = headL M ++ cookL := by
    unfold tellL
    exact List.take_left' (by rw [List.length_append, oh.len]; rfl)
  obtain ⟨bb, hbb⟩ : ∃ bb, tellL (headL M) os B = bb := ⟨_, rfl⟩
  obtain ⟨n, hn⟩ : ∃ n, 240 + (optB os).length = n := ⟨_, rfl⟩
  have hn1 : 241 + (optB os).length = n + 1 := by omega
  rw [hbb] at H7 hbl hcut h240
  rw [hn1] at hbl hcut
  have hk' := Nat.mod_lt c (show 0 < n + 1 by omega)
  obtain ⟨k, hkk⟩ : ∃ k, c % (n + 1) = k := ⟨_, rfl⟩
  rw [hkk] at hk'
  have e1 : IntKind.i64.wrap ((bb.length : Int) - (B.length : Int)) = ((n + 1 : Nat) : Int) := by rw [IntWalk.i64_in _ (by omega)]; omega
  have e2 : decide (((n + 1 : Nat) : Int) < 240) = false := decide_eq_false (by omega)
  have e3 : IntKind.i64.wrap (c : Int) = (c : Int) := i64_small (by omega) (by omega)
  have e4 : Int.tmod (c : Int) ((n + 1 : Nat) : Int) = (k : Int) := by rw [← hkk]; exact rem_nat c (n + 1)
  have s1 := fun wx : World => H7.rd.sem_cutH (k := k) (by omega) wx
  have r1 : ∀ {wx : World}, Rd wx v7 bb → Rd wx (cutv v7 0 k) (bb.take k) := fun r => r.cutN (by omega)
  have s2 := fun wx : World => H7.rd.sem_cutH (k := 240) (by omega) wx
  have r2 : ∀ {wx : World}, Rd wx v7 bb → Rd wx (cutv v7 0 240) (headL M ++ cookL) := fun r => by rw [← h240]; exact r.cutN (by omega)
  obtain ⟨y1, hy1⟩ : ∃ y, cutv v7 0 k = y := ⟨_, rfl⟩
  obtain ⟨y2, hy2⟩ : ∃ y, cutv v7 0 240 = y := ⟨_, rfl⟩
  rw [hy1] at s1 r1
  rw [hy2] at s2 r2
  have len7 := fun wx : World => H7.rd.run_len (P := Try.prog) (w' := wx) (ty := 3) bt.sl
  refine go_call_is (gt := fun _ => Option.none) (unroll := false) 60 [(6, 1, .sem (.int .i64 (bb.length : Int))), (6, 4, .sem (.int .i64 (B.length : Int))), (6, 5, .is (.int .i64 ((n + 1 : Nat) : Int))), (7, 1, .is (.bool false)), (9, 2, .is (.int .i64 (c : Int))), (9, 4, .is (.int .i64 (k : Int))), (9, 5, .sem y1)] 14 [y1] [1, 3, 7] [v, pT w.heap.size, v7] 66 (bkR w M u z) [(3, 0)] (inR bkC 9 6)
    [(.int .i64 (IntKind.i64.wrap ((bb.length : Int) - (B.length : Int))), .int .i64 ((n + 1 : Nat) : Int)), (.bool (decide (((n + 1 : Nat) : Int) < 240)), .bool false), (.int .i64 (IntKind.i64.wrap (c : Int)), .int .i64 (c : Int)), (.int .i64 (Int.tmod (c : Int) ((n + 1 : Nat) : Int)), .int .i64 (k : Int))]
    [(Builtin.len_ #[22] 3 #[v7], .int .i64 (bb.length : Int)), (Builtin.len_ #[22] 3 #[z.v], .int .i64 (B.length : Int)), (Instr.sliceAt 22 v7 Option.none (some (.int .i64 (k : Int))) Option.none, y1)] hW5 (by kernel_rfl) ⟨congrArg (Value.int .i64) e1, congrArg Value.bool e2, congrArg (Value.int .i64) e3, congrArg (Value.int .i64) e4, trivial⟩ ⟨fun wx _ => len7 wx, fun wx _ => rz.run_len (ty := 3) bt.sl, fun wx _ => s1 wx, trivial⟩ ?_
  intro w6 hW6 hS6
  have Hu6 := Hu.go hS6 bk_go
  have H76 := H7.go hS6 bk_go
  refine (dget_any (r1 H76.rd) (by rw [List.length_take]; omega)).mono ?_
  rintro x w7 ⟨y, rfl, k7, hm7⟩
  refine ⟨_, rfl, ?_⟩
  rw [hcut hk'] at hm7 ⊢
  obtain rfl : y = .agg (mz.a nilV nilV) := hm7
  have hW7 := hW6.later k7
  have Hu7 := Hu6.call k7
  have H77 := H76.call k7
  refine go_call_is (gt := fun _ => Option.none) (unroll := false) 60 [(12, 1, .sem y2)] 17 [y2] [1, 3] [v, pT w.heap.size] 73 (bkR w M u z ++ [⟨w7.heap.size, (mz.a nilV nilV).toList, true⟩]) [(3, 0)] (inR bkC 12 2) [] [(Instr.sliceAt 22 v7 Option.none (some (.int .i64 240)) Option.none, y2)] hW7 (by kernel_rfl) trivial ⟨fun wx _ => s2 wx, trivial⟩ ?_
  intro w8 hW8 hS8
  have Hu8 := (Hu7.go hS8 (bk_go2 (Nat.le_refl _))).fewer (rows := bkR w M u z)
  have H78 := H77.go hS8 (bk_go2 (Nat.le_refl _))
  have hWf := hW8.fewer (rows := bkR w M u z)
  have hl240 : (headL M ++ cookL).length = 240 := by rw [List.length_append, oh.len]; rfl
  refine (bclone_any y2 (headL M ++ cookL) w8 (r2 H78.rd) (by omega)).mono ?_
  rintro x w9 ⟨v9, rfl, fr9, _⟩
  refine ⟨_, rfl, ?_⟩
  have hW9 := hWf.later fr9.keep
  have Hu9 := Hu8.call fr9.keep
  obtain ⟨xo, xn, xc, rfl⟩ := fr9.own.rd.form
  have hlt8 : w.heap.size + 1 ≤ w8.heap.size := by
    obtain ⟨t, ht⟩ := hWf.rows ⟨w.heap.size, (M.a u.v z.v).toList, true⟩ (by simp)
    exact block_of_row ht
  refine Goal.re (tags := tagL [(3, 0)]) (m := ⟨bkR w M u z, w9.heap.size⟩) ?_
  refine go_stop (gt := fun _ => Option.none) (unroll := false) 60 [(13, 2, .sem (.int .i64 (es.length : Int)))] [1, 3, 14, 75, 76, 77] [v, pT w.heap.size, .slice xo xn xc, u.v, .int .i64 (es.length : Int), .int .i64 0] (bkR w M u z) [(3, 0)] (atL bkC 14) [] [(Builtin.len_ #[25] 3 #[u.v], .int .i64 (es.length : Int))] hW9 (by kernel_rfl) trivial ⟨fun wx _ => Hu9.ro.sem_len E2o (ty := 3) wx, trivial⟩ ?_
  intro w10 hW10 hS10
  have Hu10 := Hu9.go hS10 bk_go
  have hsx : Since (w.heap.size + 1) (.slice xo xn xc) := fr9.since.mono hlt8
  refine hk ⟨xo, xn, xc⟩ w10 hW10 Hu10 (.inl (fr9.own.same fun b hb => hS10.same b ⟨fr9.own.lt b hb, fun r hr _ => ?_⟩)) hsx (fun b hb hn e => ?_)
  · obtain rfl := List.mem_singleton.1 hr
    have := hsx b hb
    show w.heap.size ≠ b
    omega
  · have h1 := (Hu8.sf b e hn).1
    have h2 := fr9.since b hb
    simp only at h1
    omega
end
end Go.Proofs.Ytpnocepepihflaa
namespace Go.Proofs.Ytpnocepepihflaa
open Go.RowKit

def bkB1 (b y c : List UInt8) : Nat → List UInt8
  | 0 => b
  | 1 => b ++ y
  | 2 => b ++ y ++ c
  | _ => b ++ y ++ c ++ [0]
def bkB2 (b c : List UInt8) : Nat → List UInt8
  | 0 => b
  | 1 => b ++ [255]
  | _ => b ++ [255] ++ c
structure BkI where
  j : Nat
  x : Sb
noncomputable def bkL (w : World) (M : Mh) (u z : Sb) (v : Value) (n : Nat) (i : BkI) (w' : World) : Cfg := ⟨frOf [1, 3, 14, 75, 76, 77] [v, pT w.heap.size, i.x.v, u.v, .int .i64 (n : Int), .int .i64 ((n - i.j : Nat) : Int)], tagL [(3, 0)], ⟨bkR w M u z, w'.heap.size⟩, atL bkC 14⟩
structure BkJ (w : World) (M : Mh) (u z : Sb) (h : List UInt8) (es : List Oe) (i : BkI) (w' : World) : Prop where
  le : i.j ≤ es.length
  W : Wst w ⟨bkR w M u z, w'.heap.size⟩ w'
  Hu : HxO false (bkR w M u z) w' u.v es
  ab : Ab w' i.x.v (h ++ padB ((es.take (es.length - i.j)).map Oe.o))
  si : Since (w.heap.size + 1) i.x.v
  ne : ∀ b, i.x.v.ownBlock = some b → 0 < es.length → u.v.ownBlock ≠ some b
noncomputable def bkX (w : World) (M : Mh) (u z : Sb) (h : List UInt8) (v : Value) (es : List Oe) (i : BkI) : Act → World → Prop := fun a' w' => ∃ k : BkI, k.j < i.j ∧ BkJ w M u z h es k w' ∧ agrees bkN (bkL w M u z v es.length k w') a'
theorem padB_le : ∀ (L : List Opt), L.all mayP = true → (padB L).length ≤ 260 * L.length
  | [], _ => by simp [padB]
  | x :: L, h => by
    simp only [List.all_cons, Bool.and_eq_true] at h
    have h1 := padB_le L h.2
    have h2 := (mayP_spec h.1).2.2
    simp only [padB, List.flatMap_cons, List.length_append, padB1, List.length_cons, List.length_nil] at h1 ⊢
    omega
section
variable {w : World} {M : Mh} {u z : Sb} {es : List Oe} {os : List Opt} {B h : List UInt8} {v : Value} {R : Ending → World → Prop}
theorem bk_loose {x : Value} (hs : Since (w.heap.size + 1) x) {wx : World} : Loose w ⟨bkR w M u z, wx.heap.size⟩ (ownB x) := fun k hk => by
  have := hs k hk
  refine ⟨by omega, fun r hr => ?_⟩
  obtain rfl := List.mem_singleton.1 hr
  show w.heap.size ≠ k
  omega
theorem bk_safe {w' : World} {x : Value} {bs : List UInt8} (ha : Ab w' x bs) (hs : Since (w.heap.size + 1) x) : ∀ b, x.ownBlock = some b → Safe ⟨bkR w M u z, w'.heap.size⟩ b := fun b hb => ⟨ha.lt b hb, fun r hr _ => (bk_loose (M := M) (u := u) (z := z) hs (wx := w') b hb).2 r hr⟩
theorem bk_round (hh : h.length = 240) (hmay : (es.map Oe.o).all mayP = true) (hel : es.length ≤ 12) (hev : ∀ e ∈ es, Rd w e.s.v e.val) (i : BkI) (w' : World) (hJ : BkJ w M u z h es i w') (j : Nat) (hj : i.j = j + 1) :
    Goal Try.prog (bodyPost Try.prog Try.f4 R) bkN { bkL w M u z v es.length i w' with todo := .code (loopOf (atL bkC 14)) :: .inv (bkX w M u z h v es i) :: (atL bkC 14).tail } w' := by
  obtain ⟨hle, hW, Hu, ab, si, ne⟩ := hJ
  unfold bkL
  rw [hj] at hle ab ⊢
  simp only
  obtain ⟨q, hq⟩ : ∃ q, es.length - (j + 1) = q := ⟨_, rfl⟩
  rw [hq] at ab ⊢
  have hql : q < es.length := by omega
  have hnext : es.length - j = q + 1 := by omega
  have hsn : es.take (q + 1) = es.take q ++ [es[q]] := List.take_succ_eq_append_getElem hql
  have rq := hev es[q] (List.getElem_mem hql)
  have hld : ∀ wx, (∀ k, Safe ⟨bkR w M u z, w'.heap.size⟩ k → wx.heap[k]? = w'.heap[k]?) → (Instr.loadAt 24 (.pointer (some (ad2 u.v q)))).run Try.prog wx = .ok (.agg ((es[q]).a false)) wx := fun wx hx => (Hu.ro.same fun b hb hn => hx b (Hu.sf b hb hn)).sem_ld E2o hql
  have hmq : mayP (es[q]).o = true := List.all_eq_true.1 hmay _ (List.mem_map_of_mem (List.getElem_mem hql))
  have hmt : ((es.take q).map Oe.o).all mayP = true := by
    rw [List.all_eq_true] at hmay ⊢
    intro x hx
    obtain ⟨e, he, rfl⟩ := List.mem_map.1 hx
    exact hmay _ (List.mem_map_of_mem (List.mem_of_mem_take he))
  have hpl := padB_le _ hmt
  rw [List.length_map, List.length_take] at hpl
  obtain ⟨e, he⟩ : ∃ e, es[q] = e := ⟨_, rfl⟩
  rw [he] at hld hsn rq hmq
  have hvl : e.val.length ≤ 255 := (mayP_spec hmq).2.2
  have hci : decide ((q : Int) < (es.length : Int)) = true := decide_eq_true (by omega)
  have hinc : IntKind.i64.wrap ((q : Int) + 1) = ((q + 1 : Nat) : Int) := by rw [IntWalk.i64_in _ (by omega)]; omega
  have hbl : (h ++ padB ((es.take q).map Oe.o)).length ≤ 240 + 260 * 12 := by rw [List.length_append]; omega
  obtain ⟨bs, hbs⟩ : ∃ bs, h ++ padB ((es.take q).map Oe.o) = bs := ⟨_, rfl⟩
  rw [hbs] at ab hbl
  have haw : ∀ b, i.x.v.ownBlock = some b → b < w'.heap.size := ab.lt
  refine go_stop (gt := fun _ => Option.none) (unroll := false) 60 [(14, 0, .is (.bool true)), (15, 0, .sem (.pointer (some (ad2 u.v q)))), (15, 1, .sem (.agg (e.a false)))] [1, 3, 14, 16, 75, 76, 77] [v, pT w.heap.size, i.x.v, pT w'.heap.size, u.v, .int .i64 (es.length : Int), .int .i64 (q : Int)] (bkR w M u z ++ [⟨w'.heap.size, (e.a false).toList, true⟩]) [(3, 0), (16, 1)] (atR bkC 16 (.inv (bkX w M u z h v es i)))
    [(.bool (decide ((q : Int) < (es.length : Int))), .bool true)] [(Instr.indexAt 25 u.v (.int .i64 (q : Int)), .pointer (some (ad2 u.v q))), (Instr.loadAt 24 (.pointer (some (ad2 u.v q))), .agg (e.a false))] hW (by kernel_rfl) ⟨congrArg Value.bool hci, trivial⟩ ⟨fun wx _ => Hu.ro.sem_at E2o hql wx, hld, trivial⟩ ?_
  intro w5 hW5 hS5
  have ab5 := ab.same (fun b hb => hS5.same b (bk_safe ab si b hb)) hS5.le
  have Hu5 := Hu.go hS5 (bk_go2 (Nat.le_refl _))
  have h5s : w'.heap.size < w5.heap.size := by
    obtain ⟨t, ht⟩ := hW5.rows ⟨w'.heap.size, (e.a false).toList, true⟩ (by simp)
    exact block_of_row ht
  have hw0 : w.heap.size + 1 ≤ w'.heap.size := by
    obtain ⟨t, ht⟩ := hW.rows ⟨w.heap.size, (M.a u.v z.v).toList, true⟩ (by simp)
    exact block_of_row ht
  have loose : ∀ {x : Value}, (∀ b, x.ownBlock = some b → w.heap.size + 1 ≤ b ∧ b ≠ w'.heap.size) → ∀ (wx : World), Loose w ⟨bkR w M u z ++ [⟨w'.heap.size, (e.a false).toList, true⟩], wx.heap.size⟩ (ownB x) := fun hx wx k hk => by
    have h1 := hx k hk
    refine ⟨by omega, fun r hr => ?_⟩
    simp only [List.cons_append, List.nil_append, List.mem_cons, List.not_mem_nil, or_false] at hr
    rcases hr with rfl | rfl
    · show w.heap.size ≠ k; omega
    · show w'.heap.size ≠ k; omega
  have hlo := loose (x := i.x.v) (fun b hb => ⟨si b hb, by have := haw b hb; omega⟩) w5
  obtain ⟨y, hy⟩ : ∃ y, ([0, 0, e.code, UInt8.ofNat e.val.length] : List UInt8) = y := ⟨_, rfl⟩
  have hyl : y.length = 4 := by rw [← hy]; rfl
  have hnew : H.NewM Try.prog (ownB i.x.v) w5 (Instr.buildSlice 22 4 #[(0, .int .u8 0), (1, .int .u8 0), (2, bv e.code), (3, bv (UInt8.ofNat e.val.length))]) (H.rdH y) := by
    rw [← hy]
    exact H.rdH_new rfl (by simp [maxLen]) (fun _ => by kernel_rfl)
  have hval : ∀ (g : H.Gh) (wx : World) (t : Value), Keep (ownB i.x.v) w5 wx → H.Base (ownB i.x.v) w5 g wx → (H.Sm.is e.s.v).ok g wx t → Rd wx t e.val := fun g wx t hk _ ht => by
    obtain rfl : t = _ := ht
    exact rq.keep0 (hW5.laterS hk hlo).keep
  refine H.drawnM_ok (S0 := ownB i.x.v) (gt := fun _ => Option.none) (D := H.ChD i.x.v [] (bkB1 bs y e.val) w5) (g0 := H.gB i.x.v)
    [(5, .sem (.int .i64 (e.val.length : Int))), (6, .is (bv (UInt8.ofNat e.val.length))), (7, .new (H.rdH y)), (8, .act (H.nth 1)), (11, .act (H.nth 2)), (12, .new (H.rdH [0])), (13, .act (H.nth 3)), (14, .by (H.nth 3))]
    [1, 3, 14, 75, 76, 77] [.is v, .is (pT w.heap.size), H.nth 3, .is u.v, .is (.int .i64 (es.length : Int)), .is (.int .i64 (q : Int))]
    (True ∧ True ∧ True ∧ True ∧ True ∧
      H.SemM Try.prog (ownB i.x.v) w5 (Builtin.len_ #[22] 3 #[.slice e.s.o e.s.n e.s.c]) (.int .i64 (e.val.length : Int)) ∧
      Value.int .u8 (IntKind.u8.wrap (e.val.length : Int)) = bv (UInt8.ofNat e.val.length) ∧
      H.NewM Try.prog (ownB i.x.v) w5 (Instr.buildSlice 22 4 #[(0, .int .u8 0), (1, .int .u8 0), (2, bv e.code), (3, bv (UInt8.ofNat e.val.length))]) (H.rdH y) ∧
      H.ActM Try.prog (ownB i.x.v) w5 (H.ChD i.x.v [] (bkB1 bs y e.val) w5) 0 (.call { callee := .builtin .append, args := #[.tmp 81, .tmp 88], argTypes := #[22, 22] }) 22 [(81, .is i.x.v), (88, H.rdH y)] (H.nth 1) ∧ True ∧ True ∧
      H.ActM Try.prog (ownB i.x.v) w5 (H.ChD i.x.v [] (bkB1 bs y e.val) w5) 1 (.call { callee := .builtin .append, args := #[.tmp 89, .tmp 91], argTypes := #[22, 22] }) 22 [(89, H.nth 1), (91, .is e.s.v)] (H.nth 2) ∧
      H.NewM Try.prog (ownB i.x.v) w5 (Instr.buildSlice 22 1 #[(0, .int .u8 0)]) (H.rdH [0]) ∧
      H.ActM Try.prog (ownB i.x.v) w5 (H.ChD i.x.v [] (bkB1 bs y e.val) w5) 2 (.call { callee := .builtin .append, args := #[.tmp 92, .tmp 93], argTypes := #[22, 22] }) 22 [(92, H.nth 2), (93, H.rdH [0])] (H.nth 3) ∧
      H.ByM Try.prog (ownB i.x.v) w5 (.assign (.tmp 94)) 22 [(94, H.nth 3)] (H.nth 3) ∧ True)
    3 0 (afterR bkC 16 (.inv (bkX w M u z h v es i))) hW5 hlo (by kernel_rfl) (by kernel_rfl) (by kernel_rfl) H.ChD.keep (H.gB_base ab5) (H.gB_D ab5)
    ⟨trivial, trivial, trivial, trivial, trivial, fun wx _ => rq.run_len (ty := 3) bt.sl, congrArg (Value.int .u8) (b_lo e.val.length), hnew,
      H.ch_app (fun _ _ _ h => h) (fun _ _ _ h => h) (by omega) rfl (by show bs.length + y.length ≤ _; omega) (H.ok_is _) (H.ok_rd _ _ _) _, trivial, trivial,
      H.ch_app (fun _ _ _ h => h) (fun _ _ _ h => h) (by omega) rfl (by show (bs ++ y).length + _ ≤ _; rw [List.length_append]; omega) (H.ok_nth _ _) hval _,
      H.rdH_new (n := 1) rfl (by simp [maxLen]) (fun _ => by kernel_rfl),
      H.ch_app (fun _ _ _ h => h) (fun _ _ _ h => h) (by omega) rfl (by show (bs ++ y ++ e.val).length + 1 ≤ _; rw [List.length_append, List.length_append]; omega) (H.ok_nth _ _) (H.ok_rd _ _ _) _, H.by_assign, trivial⟩ ?_
  intro g w6 vs k6 _ hd hok
  match vs, hok with
  | [x1, x2, x3, x4, x5, x6], ⟨h1, h2, h3, h4, h5, h6, _⟩ =>
  obtain rfl : x1 = _ := h1
  obtain rfl : x2 = _ := h2
  obtain rfl : x4 = _ := h4
  obtain rfl : x5 = _ := h5
  obtain rfl : x6 = _ := h6
  obtain ⟨x, ob, hx⟩ := hd
  obtain rfl : x3 = x := hx.cur _ h3
  obtain ⟨ao, n, c, rfl⟩ := hx.own.sb
  have hW6 := hW5.laterS k6 hlo
  have hz : ∀ b, (Value.slice ao n c).ownBlock = some b → w.heap.size + 1 ≤ b ∧ b ≠ w'.heap.size := fun b hb => by
    rcases hx.later with e | e
    · rw [e] at hb
      exact ⟨si b hb, by have := haw b hb; omega⟩
    · have := e b hb
      omega
  have hlz := loose hz w6
  have Hu6 : HxO false (bkR w M u z) w6 u.v es := ⟨Hu5.ro.keep k6 (fun b hb e => ne b e (by omega) hb), fun b hb hn => ⟨Nat.lt_of_lt_of_le (Hu5.sf b hb hn).1 k6.size, (Hu.sf b hb hn).2⟩, fun e he => (hev e he).hx (hW6.fewer (rows := bkR w M u z))⟩
  have ne6 : ∀ b, (Value.slice ao n c).ownBlock = some b → 0 < es.length → u.v.ownBlock ≠ some b := fun b hb hn e => by
    rcases hx.later with e2 | e2
    · exact ne b (e2 ▸ hb) hn e
    · have := e2 b hb
      have := (Hu5.sf b e hn).1
      simp only at this
      omega
  refine go_inv (gt := fun _ => Option.none) (unroll := false) 60 [(17, 0, .is (.int .i64 ((q + 1 : Nat) : Int)))] [1, 3, 14, 75, 76, 77] [x1, pT w.heap.size, .slice ao n c, u.v, .int .i64 (es.length : Int), .int .i64 ((q + 1 : Nat) : Int)] (bkR w M u z ++ [⟨w'.heap.size, (e.a false).toList, true⟩]) (bkX w M u z h x1 es i)
    [(.int .i64 (IntKind.i64.wrap ((q : Int) + 1)), .int .i64 ((q + 1 : Nat) : Int))] [] hW6 (by kernel_rfl) ⟨congrArg (Value.int .i64) hinc, trivial⟩ trivial ?_
  intro w7 a hW7 hS7 hs
  have Hu7 : HxO false (bkR w M u z) w7 u.v es := ⟨Hu6.ro.same fun b hb hn => hS7.same b ⟨(Hu6.sf b hb hn).1, fun r hr ho => by
    rcases List.mem_append.1 hr with hr | hr
    · exact (Hu.sf b hb hn).2 r hr ho
    · obtain rfl := List.mem_singleton.1 hr
      have := (Hu.sf b hb hn).1
      simp only at this
      show w'.heap.size ≠ b
      omega⟩, fun b hb hn => ⟨Nat.lt_of_lt_of_le (Hu6.sf b hb hn).1 hS7.le, (Hu.sf b hb hn).2⟩, fun e he => (hev e he).hx (hW7.fewer (rows := bkR w M u z))⟩
  refine ⟨⟨j, ⟨ao, n, c⟩⟩, by rw [hj]; exact Nat.lt_succ_self j, ⟨by show j ≤ es.length; omega, hW7.fewer (rows := bkR w M u z), Hu7, ?_, fun b hb => (hz b hb).1, ne6⟩, ?_⟩
  · show Ab w7 (.slice ao n c) (h ++ padB ((es.take (es.length - j)).map Oe.o))
    have e2 : bkB1 bs y e.val 3 = h ++ padB ((es.take (es.length - j)).map Oe.o) := by
      rw [hnext, hsn, List.map_append]
      show bs ++ y ++ e.val ++ [0] = _
      rw [← hbs, ← hy]
      simp [padB, padB1, Oe.o]
    rw [← e2]
    exact hx.own.same (fun b hb => hS7.same b ⟨hx.own.lt b hb, fun r hr _ => (hlz b hb).2 r hr⟩) hS7.le
  · unfold bkL
    simp only
    rw [hnext]
    exact hs
set_option maxRecDepth 8000 in
theorem bk3 (hop : (M.op == 1 || M.op == 2) = true) (hos : es.map Oe.o = os) (hmay : os.all mayP = true) (hel : es.length ≤ 12) (hev : ∀ e ∈ es, Rd w e.s.v e.val) (hB : B.length ≤ 40) (rz : Rd w z.v B) {x : Sb} {w5 : World} (hW5 : Wst w ⟨bkR w M u z, w5.heap.size⟩ w5) (Hu : HxO false (bkR w M u z) w5 u.v es) (ab : Ab w5 x.v (headL M ++ cookL)) (si : Since (w.heap.size + 1) x.v) (ne : ∀ b, x.v.ownBlock = some b → 0 < es.length → u.v.ownBlock ≠ some b)
    (hk : ∀ w6, Wst w ⟨[], w6.heap.size⟩ w6 → Goal Try.prog (bodyPost Try.prog Try.f4 R) bkN ⟨frOf [1, 115] [v, .bool false], tagL [], ⟨[], w6.heap.size⟩, afterR bkC 19⟩ w6) :
    Goal Try.prog (bodyPost Try.prog Try.f4 R) bkN ⟨frOf [1, 3, 14, 75, 76, 77] [v, pT w.heap.size, x.v, u.v, .int .i64 (es.length : Int), .int .i64 0], tagL [(3, 0)], ⟨bkR w M u z, w5.heap.size⟩, atL bkC 14⟩ w5 := by
  have oh : OkH (headL M) := okH_headL hop
  have hl240 : (headL M ++ cookL).length = 240 := by rw [List.length_append, oh.len]; rfl
  have hmay' : (es.map Oe.o).all mayP = true := by rw [hos]; exact hmay
  have key := loop_okT (P := Try.prog) (Q := bodyPost Try.prog Try.f4 R) (n := bkN) (x := loopOf (atL bkC 14)) (k := (atL bkC 14).tail) (fun i : BkI => i.j) (bkL w M u z v es.length) (BkJ w M u z (headL M ++ cookL) es) (fun _ _ => by kernel_rfl) ?_ ⟨es.length, x⟩ w5
    ⟨Nat.le_refl _, hW5, Hu, by simpa [padB] using ab, si, ne⟩
  · unfold bkL at key
    rw [Nat.sub_self] at key
    exact key
  clear hW5 Hu ab si ne
  intro i w' hJ
  rcases Nat.eq_zero_or_pos i.j with hi | hi
  case inr =>
    obtain ⟨j, hj⟩ := Nat.exists_eq_succ_of_ne_zero (Nat.ne_of_gt hi)
    exact bk_round hl240 hmay' hel hev i w' hJ j hj
  case inl =>
    obtain ⟨hle, hW, Hu, ab, si, ne⟩ := hJ
    rw [hi, Nat.sub_zero, List.take_length, hos] at ab
    unfold bkL
    rw [hi]
    simp only [Nat.sub_zero]
    have hosl : os.length = es.length := by rw [← hos, List.length_map]
    have hpl := padB_le os hmay
    have hbl : (headL M ++ cookL ++ padB os).length ≤ 240 + 260 * 12 := by rw [List.length_append]; omega
    have epb : headL M ++ cookL ++ padB os ++ [255] ++ B = headL M ++ cookL ++ (padB os ++ 255 :: B) := by simp
    have hg : getR (headL M ++ cookL ++ padB os ++ [255] ++ B) = (some (getH (headL M ++ cookL ++ padB os ++ [255] ++ B), (os, B)), 0) := by rw [epb]; exact getR_padded oh hmay
    have hhd : headL (getH (headL M ++ cookL ++ padB os ++ [255] ++ B)) = headL M := by rw [epb]; exact head_told oh _
    obtain ⟨bs, hbs⟩ : ∃ bs, headL M ++ cookL ++ padB os = bs := ⟨_, rfl⟩
    rw [hbs] at ab hbl hg hhd
    obtain ⟨G, hG⟩ : ∃ G, getH (bs ++ [255] ++ B) = G := ⟨_, rfl⟩
    rw [hG] at hg hhd
    obtain ⟨y, hy⟩ : ∃ y, i.x = y := ⟨_, rfl⟩
    rw [hy] at ab si ⊢
    refine go_stop (gt := fun _ => Option.none) (unroll := false) 60 [(14, 0, .is (.bool false))] [1, 3, 14] [v, pT w.heap.size, y.v] (bkR w M u z) [(3, 0)] (atR bkC 18) [(.bool (decide ((es.length : Int) < (es.length : Int))), .bool false)] [] hW (by kernel_rfl) ⟨congrArg Value.bool (by simp), trivial⟩ trivial ?_
    intro w3 hW3 hS3
    have ab3 := ab.same (fun b hb => hS3.same b (bk_safe ab si b hb)) hS3.le
    have Hu3 := Hu.go hS3 bk_go
    have hlo : Loose w ⟨bkR w M u z, w3.heap.size⟩ (ownB y.v) := bk_loose si
    have hw0 : w.heap.size + 1 ≤ w3.heap.size := by
      obtain ⟨t, ht⟩ := hW3.rows ⟨w.heap.size, (M.a u.v z.v).toList, true⟩ (by simp)
      exact block_of_row ht
    have ney : ∀ b, y.v.ownBlock = some b → 0 < es.length → u.v.ownBlock ≠ some b := by rw [← hy]; exact ne
    have hval : ∀ (g : H.Gh) (wx : World) (t : Value), Keep (ownB y.v) w3 wx → H.Base (ownB y.v) w3 g wx → (H.Sm.is z.v).ok g wx t → Rd wx t B := fun g wx t hk _ ht => by
      obtain rfl : t = _ := ht
      exact rz.keep0 (hW3.laterS hk hlo).keep
    have lowD : ∀ {k : Nat}, k ≤ 2 → ∀ (n : Nat) (g : H.Gh) (wx : World), H.GetD y.v (bkB2 bs B) w3 G os B k n g wx → H.ChD y.v (mz.a nilV nilV).toList (bkB2 bs B) w3 k n g wx := fun h n g wx hd => (H.GetD.low h).1 hd
    have hiD : ∀ {k : Nat}, k ≤ 2 → ∀ (n : Nat) (g : H.Gh) (wx : World), H.ChD y.v (mz.a nilV nilV).toList (bkB2 bs B) w3 k n g wx → H.GetD y.v (bkB2 bs B) w3 G os B k n g wx := fun h n g wx hd => (H.GetD.low h).2 hd
    refine H.drawnM_ok (S0 := ownB y.v) (gt := fun _ => Option.none) (D := H.GetD y.v (bkB2 bs B) w3 G os B) (g0 := H.gB y.v)
      [(1, .new (H.rdH [255])), (2, .act (H.nth 1)), (5, .act (H.nth 2)), (6, .mid 2 (H.tupS w3.heap.size G os B)), (7, .by (H.tupS w3.heap.size G os B)), (8, .by (H.gotS w3.heap.size G os B)), (9, .by (.is (.int .i64 0))), (10, .stir 2 (H.nth 99)), (11, .act (.is undef))]
      [1, 3, 17, 18] [.is v, .is (pT w.heap.size), H.nth 99, .is (.int .i64 0)]
      (True ∧ H.NewM Try.prog (ownB y.v) w3 (Instr.buildSlice 22 1 #[(0, .int .u8 255)]) (H.rdH [255]) ∧
        H.ActM Try.prog (ownB y.v) w3 (H.GetD y.v (bkB2 bs B) w3 G os B) 0 (.call { callee := .builtin .append, args := #[.tmp 97, .tmp 98], argTypes := #[22, 22] }) 22 [(97, .is y.v), (98, H.rdH [255])] (H.nth 1) ∧ True ∧ True ∧
        H.ActM Try.prog (ownB y.v) w3 (H.GetD y.v (bkB2 bs B) w3 G os B) 1 (.call { callee := .builtin .append, args := #[.tmp 99, .tmp 101], argTypes := #[22, 22] }) 22 [(99, H.nth 1), (101, .is z.v)] (H.nth 2) ∧
        H.MidM Try.prog (ownB y.v) w3 (H.GetD y.v (bkB2 bs B) w3 G os B) 2 (.call { callee := .value (.func 14), args := #[.tmp 102], argTypes := #[22] }) 49 [(102, H.nth 2)] (H.tupS w3.heap.size G os B) ∧
        H.ByM Try.prog (ownB y.v) w3 (.move (.tmp 103)) 49 [(103, H.tupS w3.heap.size G os B)] (H.tupS w3.heap.size G os B) ∧
        H.ByM Try.prog (ownB y.v) w3 (.extract (.tmp 96) 0) 35 [(96, H.tupS w3.heap.size G os B)] (H.gotS w3.heap.size G os B) ∧
        H.ByM Try.prog (ownB y.v) w3 (.extract (.tmp 96) 1) 46 [(96, H.tupS w3.heap.size G os B)] (.is (.int .i64 0)) ∧
        H.StirM Try.prog (ownB y.v) w3 (H.GetD y.v (bkB2 bs B) w3 G os B) 1 2 (.alloc 35) 0 [] (H.nth 99) ∧
        H.ActM Try.prog (ownB y.v) w3 (H.GetD y.v (bkB2 bs B) w3 G os B) 2 (.store 35 (.tmp 17) (.tmp 104)) 0 [(17, H.nth 99), (104, H.gotS w3.heap.size G os B)] (.is undef) ∧ True ∧ True)
      3 1 (afterR bkC 18) hW3 hlo (by kernel_rfl) (by kernel_rfl) (by kernel_rfl) H.GetD.keep (H.gB_base ab3) (H.gB_D ab3)
      ⟨trivial, H.rdH_new (n := 1) rfl (by simp [maxLen]) (fun _ => by kernel_rfl), H.ch_app (lowD (by omega)) (hiD (by omega)) (by omega) rfl (by show bs.length + 1 ≤ _; omega) (H.ok_is _) (H.ok_rd _ _ _) _, trivial, trivial,
        H.ch_app (lowD (by omega)) (hiD (by omega)) (by omega) rfl (by show (bs ++ [255]).length + _ ≤ _; rw [List.length_append]; simp only [List.length_cons, List.length_nil]; omega) (H.ok_nth _ _) hval _,
        H.mid_get hg (by show (bs ++ [255] ++ B).length ≤ _; rw [List.length_append, List.length_append]; simp only [List.length_cons, List.length_nil]; omega), H.by_move, H.by_ext0, H.by_ext1,
        H.ch_alloc (K := 2) (fun k n g w hk => (H.GetD.low hk).1) (fun k n g w hk => (H.GetD.low hk).2) (by omega) (fun nx => by kernel_rfl),
        H.act_fill (W := w) (fun wx hk => (hW3.laterS hk hlo).keep) (fun b => List.replicate 219 (b, b)) (fun b q hq => by rw [List.eq_of_mem_replicate hq]) (fun zo zn zc bo bn bc b nx => by kernel_rfl), trivial, trivial⟩ ?_
    intro g w6 vs k6 _ hd hok
    match vs, hok with
    | [x1, x2, x3, x4], ⟨h1, h2, h3, h4, _⟩ =>
    obtain rfl : x1 = _ := h1
    obtain rfl : x2 = _ := h2
    obtain rfl : x4 = _ := h4
    obtain ⟨z3, b3, es3, Q, hq1, hq2, ⟨t, hrow⟩, hpq, hf⟩ := hd
    obtain rfl : x3 = pT Q := hq1 _ h3
    have hW6 := (hW3.laterS k6 hlo).addRow hrow (by omega) (fun r hr => by obtain rfl := List.mem_singleton.1 hr; show w.heap.size ≠ Q; omega)
    have hrows : ∀ (cs : List Value) {b : Nat}, b ≠ w.heap.size → b ≠ Q → ∀ r ∈ bkR w M u z ++ [⟨Q, cs, true⟩], r.own = true → r.b ≠ b := fun cs b h1 h2 r hr _ => by
      simp only [List.cons_append, List.nil_append, List.mem_cons, List.not_mem_nil, or_false] at hr
      rcases hr with rfl | rfl
      · exact fun e => h1 e.symm
      · exact fun e => h2 e.symm
    have Hu6 : HxO false (bkR w M u z ++ [⟨Q, (G.a z3.v b3.v).toList, true⟩]) w6 u.v es := ⟨Hu3.ro.same fun b hb hn => k6.block b (Hu3.sf b hb hn).1 (fun e => ney b e hn hb), fun b hb hn => ⟨Nat.lt_of_lt_of_le (Hu3.sf b hb hn).1 k6.size, hrows _ (fun e => (Hu3.sf b hb hn).2 ⟨w.heap.size, (M.a u.v z.v).toList, true⟩ (List.mem_singleton.2 rfl) rfl e.symm) (fun e => by have := (Hu3.sf b hb hn).1; simp only at this; omega)⟩, fun e he => (hev e he).hx hW6⟩
    have fz : ∀ {v : Value} {bl : List UInt8}, H.FrZ w3.heap.size g w6 v → Rd w6 v bl → Hx (bkR w M u z ++ [⟨Q, (G.a z3.v b3.v).toList, true⟩]) w6 v bl := fun hf hr => ⟨hr, fun b hb _ => ⟨(hf.2 b hb).1, hrows _ (by have := hf.1 b hb; omega) (fun e => (hf.2 b hb).2 (e ▸ hpq))⟩⟩
    have Mz : HM (bkR w M u z ++ [⟨Q, (G.a z3.v b3.v).toList, true⟩]) w6 z3 b3 es3 B := ⟨⟨hf.ro, fun b hb _ => ⟨(hf.fz.2 b hb).1, hrows _ (by have := hf.fz.1 b hb; omega) (fun e => (hf.fz.2 b hb).2 (e ▸ hpq))⟩, fun e he => fz (hf.each e he).2 (hf.each e he).1⟩, fz hf.fb hf.rb⟩
    refine Goal.re (tags := tagL [(3, 0), (17, 1)]) (m := ⟨bkR w M u z ++ [⟨Q, (G.a z3.v b3.v).toList, true⟩], w6.heap.size⟩) ?_
    refine go_stop (gt := fun _ => Option.none) (unroll := false) 60 [] [1, 3, 17, 18] [x1, pT w.heap.size, pT Q, .int .i64 0] (bkR w M u z ++ [⟨Q, (G.a z3.v b3.v).toList, true⟩]) [(3, 0), (17, 1)] (atR bkC 19) [] [] hW6 (by kernel_rfl) trivial trivial ?_
    intro w7 hW7 hS7
    have rgo : RowGo (bkR w M u z ++ [⟨Q, (G.a z3.v b3.v).toList, true⟩]) (bkR w M u z ++ [⟨Q, (G.a z3.v b3.v).toList, true⟩]) w6.heap.size := fun r hr => .inl ⟨r, hr, by
      simp only [List.cons_append, List.nil_append, List.mem_cons, List.not_mem_nil, or_false] at hr
      rcases hr with rfl | rfl <;> rfl, rfl⟩
    have Hu7 := Hu6.go hS7 rgo
    have M7 := Mz.go hS7 rgo
    have hes3 : es3.length = os.length := by have := congrArg List.length hf.o; simpa using this
    refine drawn_ok (gt := fun _ => Option.none) [(4, .call (ofSv (headL M) os B)), (6, .call (ofSv (headL M) os B)), (7, .call (.is (.bool true)))] [1, 115] [.is x1, .is (.bool false)] []
      [(16, [.is (.agg (M.a u.v z.v))], ofSv (headL M) os B), (16, [.is (.agg (G.a z3.v b3.v))], ofSv (headL M) os B), (15, [ofSv (headL M) os B, ofSv (headL M) os B], .is (.bool true))] [] [] [] hW7 (by kernel_rfl) (by kernel_rfl) trivial
      ⟨of_ob Hu7.rv (rz.keep0 hW7.keep) (by omega) rfl hos, of_ob M7.o.rv M7.b.rd (by omega) hhd hf.o, same_ob (by omega), trivial⟩ trivial trivial trivial ?_
    intro w8 vs k8 hv8
    obtain rfl := allOk_is (vs := [x1, .bool false]) hv8
    refine Goal.re (tags := tagL []) (m := ⟨[], w8.heap.size⟩) ?_
    exact hk w8 ((hW7.later k8).fewer (rows := []) (more := bkR w M u z ++ [⟨Q, (G.a z3.v b3.v).toList, true⟩]))
end
end Go.Proofs.Ytpnocepepihflaa
namespace Go.Proofs.Ytpnocepepihflaa
open Go.RowKit

abbrev anR (N : Nat) (m : Mh) (u z : Sb) : List RowS := [⟨N, (m.a u.v z.v).toList, true⟩]
theorem an_go {N n : Nat} {m : Mh} {u z : Sb} : RowGo (anR N m u z) (anR N m u z) n := fun r hr => by
  obtain rfl := List.mem_singleton.1 hr
  exact .inl ⟨_, List.mem_singleton.2 rfl, rfl, rfl⟩
theorem an_go2 {N n k : Nat} {m : Mh} {u z : Sb} {cs : List Value} (h : n ≤ k) : RowGo (anR N m u z) (anR N m u z ++ [⟨k, cs, true⟩]) n := fun r hr => by
  rcases List.mem_append.1 hr with hr | hr
  · exact an_go r hr
  · obtain rfl := List.mem_singleton.1 hr
    exact .inr h
section
variable {w : World} {v : Value} {bs : List UInt8}
set_option maxRecDepth 8000 in
theorem bk4 (r : Rd w v bs) {w5 : World} (hW5 : Wst w ⟨[], w5.heap.size⟩ w5) :
    Goal Try.prog (bodyPost Try.prog Try.f4 (trQ w)) bkN ⟨frOf [1, 115] [v, .bool false], tagL [], ⟨[], w5.heap.size⟩, afterR bkC 19⟩ w5 := by
  have hm := mn_le_left bs.length 1000
  have hm60 := mn_le_right bs.length 1000
  have rq : Rd w (cutv v 0 (mn bs.length 1000)) (bs.take (mn bs.length 1000)) := r.cutN hm
  have lq : (bs.take (mn bs.length 1000)).length ≤ 1000 := by rw [List.length_take]; omega
  have hcut := fun wx : World => r.sem_cutH (k := mn bs.length 1000) hm wx
  obtain ⟨qv, hqv⟩ : ∃ qv, cutv v 0 (mn bs.length 1000) = qv := ⟨_, rfl⟩
  obtain ⟨vl, hvl⟩ : ∃ vl, bs.take (mn bs.length 1000) = vl := ⟨_, rfl⟩
  rw [hqv] at rq hcut
  rw [hvl] at rq lq
  refine go_call_is (gt := fun _ => Option.none) (unroll := false) 60 [(21, 2, .sem (.int .i64 (bs.length : Int))), (21, 3, .sem (.int .i64 (mn bs.length 1000 : Nat))), (21, 4, .sem qv)] 14 [qv] [1] [qv] 123 [] [] (inR bkC 22 1) []
    [(Builtin.len_ #[22] 3 #[v], .int .i64 (bs.length : Int)), (Builtin.min_ #[3, 3] 3 #[.int .i64 (bs.length : Int), .int .i64 1000], .int .i64 (mn bs.length 1000 : Nat)), (Instr.sliceAt 22 v Option.none (some (.int .i64 (mn bs.length 1000 : Nat))) Option.none, qv)] hW5 (by kernel_rfl) trivial
    ⟨fun wx _ => r.run_len (ty := 3) bt.sl, fun wx _ => run_mn #[3, 3] 3 bs.length 1000, fun wx _ => hcut wx, trivial⟩ ?_
  intro w6 hW6 _
  refine (dget_any (rq.keep0 hW6.keep) (by omega)).mono ?_
  rintro x w7 ⟨y, rfl, k7, hm7⟩
  refine ⟨_, rfl, ?_⟩
  have hW7 := hW6.later k7
  match hg : getR vl with
  | (none, e) =>
    rw [hg] at hm7
    obtain rfl : y = .agg (mz.a nilV nilV) := hm7
    have fin : ∀ {w8 : World}, Wst w ⟨[⟨w7.heap.size, (mz.a nilV nilV).toList, true⟩], w8.heap.size⟩ w8 → Calls Try.prog 11 #[] w8 (fun e w' => ∃ x, e = .returned x ∧ Goal Try.prog (bodyPost Try.prog Try.f4 (trQ w)) bkN ⟨frOf [135, 134] [x, .bool true], tagL [], ⟨[⟨w7.heap.size, (mz.a nilV nilV).toList, true⟩], w'.heap.size⟩, inR bkC 24 7⟩ w') := fun {w8} hW8 => by
      refine (wakes_any w8).mono ?_
      rintro x w9 ⟨rfl, k9⟩
      refine ⟨_, rfl, ?_⟩
      exact go_ret (gt := fun _ => Option.none) (unroll := false) 60 [] [.tmp 6] (.bool true) [] [] (hW8.later k9) Try.results4 (by kernel_rfl) trivial trivial (fun w9 hW9 _ => ⟨rfl, hW9.keep⟩)
    rcases getR_none hg with rfl | rfl
    · refine go_call_is (gt := fun _ => Option.none) (unroll := false) 60 [] 11 [] [134] [.bool true] 135 [⟨w7.heap.size, (mz.a nilV nilV).toList, true⟩] [] (inR bkC 24 7) [] [] hW7 (by kernel_rfl) trivial trivial ?_
      intro w8 hW8 _
      exact fin hW8
    · refine go_call_is (gt := fun _ => Option.none) (unroll := false) 60 [] 11 [] [134] [.bool true] 135 [⟨w7.heap.size, (mz.a nilV nilV).toList, true⟩] [] (inR bkC 24 7) [] [] hW7 (by kernel_rfl) trivial trivial ?_
      intro w8 hW8 _
      exact fin hW8
  | (some (Hm, (os, B)), e) =>
    obtain ⟨rfl, hH, oh, hmay, hle, hhd, hop⟩ := getR_some hg
    rw [hg] at hm7
    obtain ⟨z, b, es, rfl, ho, no, nb⟩ := hm7
    have okm : OkM Hm := hH ▸ okM_getH vl
    have M7 : HM [] w7 z b es B := .got no nb hW6
    have hosl : 2 * os.length ≤ (optB os).length := optB_two os
    have hesl : es.length = os.length := by have := congrArg List.length ho; simpa using this
    have oh' : OkH (headL Hm) := by rw [hhd]; exact oh
    have hbl := tellL_len (L := os) (B := B) oh'.len
    have hg2 : getR (tellL (headL Hm) os B) = (some (getH (tellL (headL Hm) os B), (os, B)), 0) := getR_told oh' hmay
    have hhd2 : headL (getH (tellL (headL Hm) os B)) = headL Hm := head_told oh' _
    obtain ⟨cb, hcb⟩ : ∃ cb, tellL (headL Hm) os B = cb := ⟨_, rfl⟩
    have hby : bytesH (headL Hm) Hm.op (es.map Oe.o) B = some cb := by rw [ho, ← hcb]; exact bytesH_may hop hmay
    rw [hcb] at hbl hg2 hhd2
    obtain ⟨G, hG⟩ : ∃ G, getH cb = G := ⟨_, rfl⟩
    rw [hG] at hg2 hhd2
    refine go_call_is (gt := fun _ => Option.none) (unroll := false) 60 [] 13 [.agg (Hm.a z.v b.v)] [1, 19] [qv, pT w7.heap.size] 139 (anR w7.heap.size Hm z b) [(19, 0)] (inR bkC 25 1) [] [] hW7 (by kernel_rfl) trivial trivial ?_
    intro w8 hW8 hS8
    have M8 : HM (anR w7.heap.size Hm z b) w8 z b es B := M7.go hS8 (fun r hr => by obtain rfl := List.mem_singleton.1 hr; exact .inr (Nat.le_refl _))
    refine (dbytes_any (m := Hm) okm M8.o.rv M8.b.rd (by omega) (by omega)).mono ?_
    rintro x w9 ⟨k9, hr9⟩
    rw [hby] at hr9
    obtain ⟨v9, rfl, n9⟩ := hr9
    refine ⟨_, rfl, ?_⟩
    have hW9 := hW8.later k9
    have M9 := M8.call k9
    have H9 := n9.hx hW8
    refine go_call_is (gt := fun _ => Option.none) (unroll := false) 60 [] 14 [v9] [1, 19, 21, 22] [qv, pT w7.heap.size, v9, .int .i64 0] 144 (anR w7.heap.size Hm z b) [(19, 0)] (inR bkC 26 1) [] [] hW9 (by kernel_rfl) trivial trivial ?_
    intro w10 hW10 hS10
    have M10 := M9.go hS10 an_go
    have H10 := H9.go hS10 an_go
    refine (dget_any H10.rd (by omega)).mono ?_
    rintro x w11 ⟨y2, rfl, k11, hm11⟩
    refine ⟨_, rfl, ?_⟩
    rw [hg2] at hm11 ⊢
    obtain ⟨z2, b2, es2, rfl, ho2, no2, nb2⟩ := hm11
    have hW11 := hW10.later k11
    have M11 := M10.call k11
    have H11 := H10.call k11
    have N11 : HM (anR w7.heap.size Hm z b) w11 z2 b2 es2 B := .got no2 nb2 hW10
    refine go_stop (gt := fun _ => Option.none) (unroll := false) 60 [] [1, 19, 21, 22, 23, 24] [qv, pT w7.heap.size, v9, .int .i64 0, pT w11.heap.size, .int .i64 0] (anR w7.heap.size Hm z b ++ [⟨w11.heap.size, (G.a z2.v b2.v).toList, true⟩]) [(19, 0), (23, 1)] (atR bkC 27) [] [] hW11 (by kernel_rfl) trivial trivial ?_
    intro w12 hW12 hS12
    have M12 := M11.go hS12 (an_go2 (Nat.le_refl _))
    have H12 := H11.go hS12 (an_go2 (Nat.le_refl _))
    have N12 := N11.go hS12 (an_go2 (Nat.le_refl _))
    have hes2 : es2.length = os.length := by have := congrArg List.length ho2; simpa using this
    have hleq : decide ((cb.length : Int) ≤ (vl.length : Int)) = true := decide_eq_true (by omega)
    have len9 := fun wx : World => H9.rd.run_len (P := Try.prog) (w' := wx) (ty := 3) bt.sl
    have lenq := fun wx : World => rq.run_len (P := Try.prog) (w' := wx) (ty := 3) bt.sl
    refine drawn_ok (gt := fun _ => Option.none) [(8, .sem (.int .i64 (cb.length : Int))), (10, .sem (.int .i64 (vl.length : Int))), (11, .is (.bool true)), (15, .call (ofSv (headL Hm) os B)), (17, .call (ofSv (headL Hm) os B)), (18, .call (.is (.bool true))), (21, .call (.is (.bool true)))] [6] [.is (.bool true)] [(.bool (decide ((cb.length : Int) ≤ (vl.length : Int))), .bool true)]
      [(16, [.is (.agg (Hm.a z.v b.v))], ofSv (headL Hm) os B), (16, [.is (.agg (G.a z2.v b2.v))], ofSv (headL Hm) os B), (15, [ofSv (headL Hm) os B, ofSv (headL Hm) os B], .is (.bool true)), (11, [], .is (.bool true))] [] []
      [(Builtin.len_ #[22] 3 #[v9], .int .i64 (cb.length : Int)), (Builtin.len_ #[22] 3 #[qv], .int .i64 (vl.length : Int))] hW12 (by kernel_rfl) (by kernel_rfl) ⟨congrArg Value.bool hleq, trivial⟩
      ⟨of_ob M12.o.rv M12.b.rd (by omega) rfl ho, of_ob N12.o.rv N12.b.rd (by omega) hhd2 ho2, same_ob (by omega), wakes_ob, trivial⟩ trivial trivial ⟨fun wx _ => len9 wx, fun wx _ => lenq wx, trivial⟩ ?_
    intro w13 vs k13 hv13
    obtain rfl := allOk_is (vs := [.bool true]) hv13
    exact go_ret (gt := fun _ => Option.none) (unroll := false) 60 [] [.tmp 6] (.bool true) [] [] (hW12.later k13) Try.results4 (by kernel_rfl) trivial trivial (fun w9 hW9 _ => ⟨rfl, hW9.keep⟩)
end
section
variable {w : World} {m : Mh} {so sb : Sb} {l : List Oe} {bh : List UInt8} {v : Value} {bs : List UInt8} {c : Nat}
theorem dhcpback_walk (ok : OkM m) (r : RoV false w so.v l) (rb : Rd w sb.v bh) (hl : l.length ≤ 9223372036854775807) (rv : Rd w v bs) (hc : c < 65536) : Calls Try.prog 4 #[.agg (m.a so.v sb.v), v, .int .u16 (c : Int)] w (trQ w) := by
  refine bk1 ok r rb hl ?_
  rintro u z v7 w5 rfl hW5 Hu siu H7
  have rz : Rd w (sb.cut (mn bh.length 40)).v (bh.take 40) := rb.cutS 40
  have hB : (bh.take 40).length ≤ 40 := by rw [List.length_take]; omega
  have hel := broL_len l
  refine bk2 (broM_op m) broL_may (by rw [List.length_map]; exact hel) hB rz hc hW5 Hu H7 ?_
  intro x w6 hW6 Hu6 ab6 si6 ne6
  refine bk3 (broM_op m) rfl broL_may hel (broL_each r.each) hB rz hW6 Hu6 ab6 si6 ne6 ?_
  intro w7 hW7
  exact bk4 rv hW7
end
end Go.Proofs.Ytpnocepepihflaa
namespace Go.Proofs.Ytpnocepepihflaa
open Go.RowKit

/-- An append of something onto a slice without room: new bytes. -/
theorem run_append_fo {w : World} {v s : Value} {bs ys : List UInt8} (h : Fu w v bs) (r : Rd w s ys) (hp : 0 < ys.length) (hn : bs.length + ys.length ≤ 140737488351232) :
    ∃ v' w', (∀ ty, (Builtin.append_ #[22, 22] ty #[v, s]).run Try.prog w = .ok v' w') ∧ Own 5 w' v' (bs ++ ys) ∧ Keep No w w' ∧ Since w.heap.size v' := by
  obtain ⟨b, off, rfl, hu, hb⟩ := h
  obtain ⟨i, hi, hz1, hz2, hz3⟩ := bt.info
  obtain ⟨ao, cap, rfl, hc, hm, hn0, hbo⟩ := r.shape
  obtain ⟨b', o', rfl⟩ := hbo hp
  have hnews : ∀ j u, (bvs ys)[j]? = some u → w.cell? ((⟨b', o', none⟩ : Addr).add j) = some u := fun j u hj => by
    by_cases hjl : j < ys.length
    · rw [bvs_get hjl] at hj
      cases hj
      have := r.cell j hjl
      simpa [blk, offs, Addr_add_mk] using this
    · rw [List.getElem?_eq_none (by simpa [bvs_length] using hjl)] at hj; cases hj
  have key := fun ty => run_append_arg_grows (P := Try.prog) w 22 ty 5 i (.int .u8 0) 1 1 bt.sl hi hz3 hz1 hz2 rfl (by decide) ⟨b, off, none⟩ bs.length bs.length (bvs bs) (by simp [bvs_length])
    (fun j u hj => by
      by_cases hjl : j < bs.length
      · have := hu.cell j hjl
        rw [bvs_get hjl] at hj
        cases hj
        simpa [blk, offs, Addr_add_mk] using this
      · rw [List.getElem?_eq_none (by simpa [bvs_length] using hjl)] at hj; cases hj)
    ⟨b', o', none⟩ ys.length cap (bvs ys) (by simp [bvs_length]) hnews (by omega) (by simp only [maxLen]; omega) (by omega)
  obtain ⟨v', w', hr, h2, h3⟩ := key 0
  have ho : Own 5 w' v' (bs ++ ys) := by
    obtain ⟨q1, q2⟩ := h2
    unfold Own
    rw [List.length_append, bvs_append]
    refine ⟨q1, ?_⟩
    rcases q2 with q2 | ⟨g, cp, cur, e1, e2, e3, e4⟩
    · exact .inl q2
    · exact .inr ⟨g, cp, cur, e1, Nat.zero_le _, e3, e4⟩
  refine ⟨v', w', fun ty => hr, ho, ⟨h3.os, h3.tape, h3.output, h3.size, fun k hk hn => h3.block k hk (fun e => by cases e)⟩, fun k hk => ?_⟩
  obtain ⟨q1, q2⟩ := h2
  rcases q2 with ⟨_, q2⟩ | ⟨g, cp, cur, e1, e2, e3, e4, e5, e6, e7⟩
  · omega
  · rw [e1] at hk
    obtain rfl : g = k := by simpa [Value.ownBlock] using hk
    exact e2
section
variable {w : World} {v : Value} {ys : List UInt8}
set_option maxRecDepth 8000 in
theorem plainO_any (r : Rd w v ys) (hl : ys.length ≤ 1000000) (h0 : 0 < ys.length) : Calls Try.prog 26 #[v] w (fun x w' => ∃ v, x = .returned v ∧ Keep No w w' ∧ Own 5 w' v (plainL ++ ys) ∧ Since w.heap.size v) := by
  refine enter (args := [v]) Try.func26 (by kernel_rfl) ?_
  refine go_mk (gt := fun _ => Option.none) (unroll := false) 60 [(1, 0, .stop)] 22 (.int .i64 240) (.int .i64 240) [0] [v] 4 [] [] (inR plC 1 0) [] [] (Wst.start0 w) (by kernel_rfl) trivial trivial ?_
  intro w1 hW1 _
  obtain ⟨w2, t2, hrun, hrow, k2⟩ := mk_zero w1 240 (by omega) (by omega)
  refine ⟨_, w2, hrun, ?_⟩
  have h1s := hW1.keep.size
  have hW2 : Wst w ⟨[] ++ [⟨w1.heap.size, bvs (List.replicate 240 0), true⟩], w2.heap.size⟩ w2 := (hW1.later k2).addRow hrow h1s (fun _ h => nomatch h)
  refine Goal.re (tags := tagL [(4, 0)]) (m := ⟨[⟨w1.heap.size, bvs (List.replicate 240 0), true⟩], w2.heap.size⟩) ?_
  refine go_cp (gt := fun _ => Option.none) (unroll := false) 60 [(2, 2, .stop)] (.slice (some ⟨w1.heap.size, 0, none⟩) 240 240) (.slice (some ⟨w2.heap.size, 0, none⟩) 3 3) 22 [0, 3] [v, .slice (some ⟨w1.heap.size, 0, none⟩) 240 240] 7 [⟨w1.heap.size, bvs (List.replicate 240 0), true⟩, ⟨w2.heap.size, bvs [1, 1, 6], true⟩] [] (inR plC 2 2) [] [] hW2 (by kernel_rfl) trivial trivial ?_
  intro w3 hW3 _
  obtain ⟨t3, hr3⟩ := hW3.rows ⟨w1.heap.size, bvs (List.replicate 240 0), true⟩ (by simp)
  have src : Rd w3 (.slice (some ⟨w2.heap.size, 0, none⟩) 3 3) [1, 1, 6] := Rd.of_row (bs := [1, 1, 6]) (cs := bvs [1, 1, 6]) (ow := true) hW3 (by simp) 3 rfl (by simp [maxLen]) (fun i hi => by rw [Nat.zero_add]; exact bvs_get hi)
  have c1 := fun ty => run_copy_b (P := Try.prog) (w := w3) bt ty (dl := 240) (dc := 240) (o := 0) hr3 src (by simp) (by simp [bvs_length])
  have e1 : ((bvs (List.replicate 240 0)).toArray.toList.take 0 ++ bvs [1, 1, 6] ++ (bvs (List.replicate 240 0)).toArray.toList.drop (0 + ([1, 1, 6] : List UInt8).length)) = bvs ([1, 1, 6] ++ List.replicate 237 0) := by kernel_rfl
  rw [e1] at c1
  have k3 : Keep (One w1.heap.size) w3 (w3.setRow w1.heap.size (bvs ([1, 1, 6] ++ List.replicate 237 0)).toArray) := Keep.setRow _ _
  have hg3 := setRow_heap w3 w1.heap.size _ (bvs ([1, 1, 6] ++ List.replicate 237 0)).toArray _ _ hr3
  refine ⟨_, _, c1, ?_⟩
  generalize w3.setRow w1.heap.size (bvs ([1, 1, 6] ++ List.replicate 237 0)).toArray = w4 at *
  have hlo : ∀ {wx : World}, Loose w ⟨[], wx.heap.size⟩ (One w1.heap.size) := fun k hk => ⟨by rw [show k = w1.heap.size from hk]; exact h1s, fun _ h => nomatch h⟩
  have hW4 : Wst w ⟨[] ++ [⟨w1.heap.size, bvs ([1, 1, 6] ++ List.replicate 237 0), true⟩], w4.heap.size⟩ w4 := ((hW3.fewer (rows := [])).laterS k3 hlo).addRow hg3 h1s (fun _ h => nomatch h)
  refine Goal.re (tags := tagL [(3, 0)]) (m := ⟨[⟨w1.heap.size, bvs ([1, 1, 6] ++ List.replicate 237 0), true⟩], w4.heap.size⟩) ?_
  refine go_cp (gt := fun _ => Option.none) (unroll := false) 60 [(3, 3, .stop)] (.slice (some ⟨w1.heap.size, 236, none⟩) 4 4) (.slice (some ⟨w4.heap.size, 0, none⟩) 4 4) 22 [0, 3] [v, .slice (some ⟨w1.heap.size, 0, none⟩) 240 240] 11 [⟨w1.heap.size, bvs ([1, 1, 6] ++ List.replicate 237 0), true⟩, ⟨w4.heap.size, bvs [99, 130, 83, 99], true⟩] [] (inR plC 3 3) [] [] hW4 (by kernel_rfl) trivial trivial ?_
  intro w5 hW5 _
  obtain ⟨t5, hr5⟩ := hW5.rows ⟨w1.heap.size, bvs ([1, 1, 6] ++ List.replicate 237 0), true⟩ (by simp)
  have src5 : Rd w5 (.slice (some ⟨w4.heap.size, 0, none⟩) 4 4) [99, 130, 83, 99] := Rd.of_row (bs := [99, 130, 83, 99]) (cs := bvs [99, 130, 83, 99]) (ow := true) hW5 (by simp) 4 rfl (by simp [maxLen]) (fun i hi => by rw [Nat.zero_add]; exact bvs_get hi)
  have c2 := fun ty => run_copy_b (P := Try.prog) (w := w5) bt ty (dl := 4) (dc := 4) (o := 236) hr5 src5 (by simp) (by simp [bvs_length])
  have e2 : ((bvs ([1, 1, 6] ++ List.replicate 237 0)).toArray.toList.take 236 ++ bvs [99, 130, 83, 99] ++ (bvs ([1, 1, 6] ++ List.replicate 237 0)).toArray.toList.drop (236 + ([99, 130, 83, 99] : List UInt8).length)) = bvs plainL := by kernel_rfl
  rw [e2] at c2
  have k5 : Keep (One w1.heap.size) w5 (w5.setRow w1.heap.size (bvs plainL).toArray) := Keep.setRow _ _
  have hg5 := setRow_heap w5 w1.heap.size _ (bvs plainL).toArray _ _ hr5
  refine ⟨_, _, c2, ?_⟩
  generalize w5.setRow w1.heap.size (bvs plainL).toArray = w6 at *
  have hW6 : Wst w ⟨[] ++ [⟨w1.heap.size, bvs plainL, true⟩], w6.heap.size⟩ w6 := ((hW5.fewer (rows := [])).laterS k5 hlo).addRow hg5 h1s (fun _ h => nomatch h)
  refine Goal.re (tags := tagL [(3, 0)]) (m := ⟨[⟨w1.heap.size, bvs plainL, true⟩], w6.heap.size⟩) ?_
  refine go_appX (gt := fun _ => Option.none) (unroll := false) 60 [(4, 2, .stop)] (.slice (some ⟨w1.heap.size, 0, none⟩) 240 240) v 22 [] [] 14 [⟨w1.heap.size, bvs plainL, true⟩] [] (inR plC 4 2) [] [] hW6 (by kernel_rfl) trivial trivial ?_
  intro w7 hW7 _
  have hpl : plainL.length = 240 := rfl
  have rp : Rd w7 (.slice (some ⟨w1.heap.size, 0, none⟩) 240 240) plainL := Rd.of_row (bs := plainL) (cs := bvs plainL) (ow := true) hW7 (by simp) 240 hpl (by simp [maxLen]) (fun i hi => by rw [Nat.zero_add]; exact bvs_get hi)
  have hlt7 : w1.heap.size < w7.heap.size := by obtain ⟨t, ht⟩ := hW7.rows _ (List.mem_singleton.2 rfl); exact block_of_row ht
  obtain ⟨v', w8, hrun8, own8, k8, si8⟩ := run_append_fo (⟨w1.heap.size, 0, rfl, rp, hlt7⟩ : Fu w7 (.slice (some ⟨w1.heap.size, 0, none⟩) 240 240) plainL) (r.keep0 hW7.keep) h0 (by omega)
  refine ⟨v', w8, hrun8, ?_⟩
  have hW8 : Wst w ⟨[], w8.heap.size⟩ w8 := (hW7.fewer (rows := [])).later k8
  refine Goal.re (tags := tagL []) (m := ⟨[], w8.heap.size⟩) ?_
  refine go_ret (gt := fun _ => Option.none) (unroll := false) 60 [] [.tmp 2] v' [] [] hW8 Try.results26 (by kernel_rfl) trivial trivial ?_
  intro w9 hW9 hS9
  have h7s := hW7.keep.size
  exact ⟨v', rfl, hW9.keep, own8.same fun b hb => hS9.same b ⟨own8.lt b hb, fun _ h => nomatch h⟩, si8.mono h7s⟩
end
noncomputable abbrev k1C : Code := bodyOf Try.f25
abbrev k1Q (w : World) (e : Int) : Ending → World → Prop := fun x w' => x = .returned (.int .i64 e) ∧ Keep No w w'
theorem gc_a : getR ((plainL ++ [255]).set 0 3) = (none, 5) := by kernel_rfl
set_option maxRecDepth 8000 in
theorem code_a (w : World) : Calls Try.prog 25 #[.int .i64 0, .int .u8 3] w (k1Q w 5) := by
  refine enter (args := [.int .i64 0, .int .u8 3]) Try.func25 (by kernel_rfl) ?_
  refine go_call_is (gt := fun _ => Option.none) (unroll := false) 60 [] 26 [.slice (some ⟨w.heap.size, 0, none⟩) 1 1] [0, 1] [.int .i64 0, .int .u8 3] 9 [⟨w.heap.size, bvs [255], true⟩] [] (inR k1C 1 1) [] [] (Wst.start0 w) (by kernel_rfl) trivial trivial ?_
  intro w1 hW1 _
  have src : Rd w1 (.slice (some ⟨w.heap.size, 0, none⟩) 1 1) [255] := Rd.of_row (bs := [255]) (cs := bvs [255]) (ow := true) hW1 (by simp) 1 rfl (by simp [maxLen]) (fun i hi => by rw [Nat.zero_add]; exact bvs_get hi)
  refine (plainO_any src (by decide) (by decide)).mono ?_
  rintro x w2 ⟨v2, rfl, k2, own2, si2⟩
  refine ⟨_, rfl, ?_⟩
  obtain ⟨g, cap, rest, hv2, hrow, hcap, hmax⟩ := own2.row (by decide)
  have hg : w.heap.size ≤ g := Nat.le_trans hW1.keep.size (si2 g (by rw [hv2]; rfl))
  subst hv2
  have hWf : Wst w ⟨[], w1.heap.size⟩ w1 := hW1.fewer (rows := [])
  have hW2 : Wst w ⟨[] ++ [⟨g, bvs (plainL ++ [255]) ++ rest, true⟩], w2.heap.size⟩ w2 := (hWf.later k2).addRow hrow hg (fun _ h => nomatch h)
  refine Goal.re (tags := tagL [(9, 0)]) (m := ⟨[⟨g, bvs (plainL ++ [255]) ++ rest, true⟩], w2.heap.size⟩) ?_
  refine go_call_is (gt := fun _ => Option.none) (unroll := false) 60 [] 14 [.slice (some ⟨g, 0, none⟩) 241 cap] [] [] 16 [⟨g, bvs ((plainL ++ [255]).set 0 3) ++ rest, true⟩] [] (inR k1C 3 1) [] [] hW2 (by kernel_rfl) trivial trivial ?_
  intro w3 hW3 _
  have r3 : Rd w3 (.slice (some ⟨g, 0, none⟩) 241 cap) ((plainL ++ [255]).set 0 3) := Rd.of_rowc hW3 (rest := rest) (ow := true) (by simp) 241 rfl hcap hmax
  refine (dget_any r3 (by decide)).mono ?_
  rintro x w4 ⟨y, rfl, k4, hm⟩
  refine ⟨_, rfl, ?_⟩
  rw [gc_a] at hm ⊢
  obtain rfl : y = .agg (mz.a nilV nilV) := hm
  exact go_ret (gt := fun _ => Option.none) (unroll := false) 60 [] [.tmp 4] (.int .i64 5) [] [] (hW3.later k4) Try.results25 (by kernel_rfl) trivial trivial (fun w9 hW9 _ => ⟨rfl, hW9.keep⟩)
theorem gc_b : getR ((plainL ++ [255]).set 1 2) = (none, 5) := by kernel_rfl
set_option maxRecDepth 8000 in
theorem code_b (w : World) : Calls Try.prog 25 #[.int .i64 1, .int .u8 2] w (k1Q w 5) := by
  refine enter (args := [.int .i64 1, .int .u8 2]) Try.func25 (by kernel_rfl) ?_
  refine go_call_is (gt := fun _ => Option.none) (unroll := false) 60 [] 26 [.slice (some ⟨w.heap.size, 0, none⟩) 1 1] [0, 1] [.int .i64 1, .int .u8 2] 9 [⟨w.heap.size, bvs [255], true⟩] [] (inR k1C 1 1) [] [] (Wst.start0 w) (by kernel_rfl) trivial trivial ?_
  intro w1 hW1 _
  have src : Rd w1 (.slice (some ⟨w.heap.size, 0, none⟩) 1 1) [255] := Rd.of_row (bs := [255]) (cs := bvs [255]) (ow := true) hW1 (by simp) 1 rfl (by simp [maxLen]) (fun i hi => by rw [Nat.zero_add]; exact bvs_get hi)
  refine (plainO_any src (by decide) (by decide)).mono ?_
  rintro x w2 ⟨v2, rfl, k2, own2, si2⟩
  refine ⟨_, rfl, ?_⟩
  obtain ⟨g, cap, rest, hv2, hrow, hcap, hmax⟩ := own2.row (by decide)
  have hg : w.heap.size ≤ g := Nat.le_trans hW1.keep.size (si2 g (by rw [hv2]; rfl))
  subst hv2
  have hWf : Wst w ⟨[], w1.heap.size⟩ w1 := hW1.fewer (rows := [])
  have hW2 : Wst w ⟨[] ++ [⟨g, bvs (plainL ++ [255]) ++ rest, true⟩], w2.heap.size⟩ w2 := (hWf.later k2).addRow hrow hg (fun _ h => nomatch h)
  refine Goal.re (tags := tagL [(9, 0)]) (m := ⟨[⟨g, bvs (plainL ++ [255]) ++ rest, true⟩], w2.heap.size⟩) ?_
  refine go_call_is (gt := fun _ => Option.none) (unroll := false) 60 [] 14 [.slice (some ⟨g, 0, none⟩) 241 cap] [] [] 16 [⟨g, bvs ((plainL ++ [255]).set 1 2) ++ rest, true⟩] [] (inR k1C 3 1) [] [] hW2 (by kernel_rfl) trivial trivial ?_
  intro w3 hW3 _
  have r3 : Rd w3 (.slice (some ⟨g, 0, none⟩) 241 cap) ((plainL ++ [255]).set 1 2) := Rd.of_rowc hW3 (rest := rest) (ow := true) (by simp) 241 rfl hcap hmax
  refine (dget_any r3 (by decide)).mono ?_
  rintro x w4 ⟨y, rfl, k4, hm⟩
  refine ⟨_, rfl, ?_⟩
  rw [gc_b] at hm ⊢
  obtain rfl : y = .agg (mz.a nilV nilV) := hm
  exact go_ret (gt := fun _ => Option.none) (unroll := false) 60 [] [.tmp 4] (.int .i64 5) [] [] (hW3.later k4) Try.results25 (by kernel_rfl) trivial trivial (fun w9 hW9 _ => ⟨rfl, hW9.keep⟩)
theorem gc_c : getR ((plainL ++ [255]).set 2 5) = (none, 5) := by kernel_rfl
set_option maxRecDepth 8000 in
theorem code_c (w : World) : Calls Try.prog 25 #[.int .i64 2, .int .u8 5] w (k1Q w 5) := by
  refine enter (args := [.int .i64 2, .int .u8 5]) Try.func25 (by kernel_rfl) ?_
  refine go_call_is (gt := fun _ => Option.none) (unroll := false) 60 [] 26 [.slice (some ⟨w.heap.size, 0, none⟩) 1 1] [0, 1] [.int .i64 2, .int .u8 5] 9 [⟨w.heap.size, bvs [255], true⟩] [] (inR k1C 1 1) [] [] (Wst.start0 w) (by kernel_rfl) trivial trivial ?_
  intro w1 hW1 _
  have src : Rd w1 (.slice (some ⟨w.heap.size, 0, none⟩) 1 1) [255] := Rd.of_row (bs := [255]) (cs := bvs [255]) (ow := true) hW1 (by simp) 1 rfl (by simp [maxLen]) (fun i hi => by rw [Nat.zero_add]; exact bvs_get hi)
  refine (plainO_any src (by decide) (by decide)).mono ?_
  rintro x w2 ⟨v2, rfl, k2, own2, si2⟩
  refine ⟨_, rfl, ?_⟩
  obtain ⟨g, cap, rest, hv2, hrow, hcap, hmax⟩ := own2.row (by decide)
  have hg : w.heap.size ≤ g := Nat.le_trans hW1.keep.size (si2 g (by rw [hv2]; rfl))
  subst hv2
  have hWf : Wst w ⟨[], w1.heap.size⟩ w1 := hW1.fewer (rows := [])
  have hW2 : Wst w ⟨[] ++ [⟨g, bvs (plainL ++ [255]) ++ rest, true⟩], w2.heap.size⟩ w2 := (hWf.later k2).addRow hrow hg (fun _ h => nomatch h)
  refine Goal.re (tags := tagL [(9, 0)]) (m := ⟨[⟨g, bvs (plainL ++ [255]) ++ rest, true⟩], w2.heap.size⟩) ?_
  refine go_call_is (gt := fun _ => Option.none) (unroll := false) 60 [] 14 [.slice (some ⟨g, 0, none⟩) 241 cap] [] [] 16 [⟨g, bvs ((plainL ++ [255]).set 2 5) ++ rest, true⟩] [] (inR k1C 3 1) [] [] hW2 (by kernel_rfl) trivial trivial ?_
  intro w3 hW3 _
  have r3 : Rd w3 (.slice (some ⟨g, 0, none⟩) 241 cap) ((plainL ++ [255]).set 2 5) := Rd.of_rowc hW3 (rest := rest) (ow := true) (by simp) 241 rfl hcap hmax
  refine (dget_any r3 (by decide)).mono ?_
  rintro x w4 ⟨y, rfl, k4, hm⟩
  refine ⟨_, rfl, ?_⟩
  rw [gc_c] at hm ⊢
  obtain rfl : y = .agg (mz.a nilV nilV) := hm
  exact go_ret (gt := fun _ => Option.none) (unroll := false) 60 [] [.tmp 4] (.int .i64 5) [] [] (hW3.later k4) Try.results25 (by kernel_rfl) trivial trivial (fun w9 hW9 _ => ⟨rfl, hW9.keep⟩)
theorem gc_d : getR ((plainL ++ [255]).set 239 0) = (none, 5) := by kernel_rfl
set_option maxRecDepth 8000 in
theorem code_d (w : World) : Calls Try.prog 25 #[.int .i64 239, .int .u8 0] w (k1Q w 5) := by
  refine enter (args := [.int .i64 239, .int .u8 0]) Try.func25 (by kernel_rfl) ?_
  refine go_call_is (gt := fun _ => Option.none) (unroll := false) 60 [] 26 [.slice (some ⟨w.heap.size, 0, none⟩) 1 1] [0, 1] [.int .i64 239, .int .u8 0] 9 [⟨w.heap.size, bvs [255], true⟩] [] (inR k1C 1 1) [] [] (Wst.start0 w) (by kernel_rfl) trivial trivial ?_
  intro w1 hW1 _
  have src : Rd w1 (.slice (some ⟨w.heap.size, 0, none⟩) 1 1) [255] := Rd.of_row (bs := [255]) (cs := bvs [255]) (ow := true) hW1 (by simp) 1 rfl (by simp [maxLen]) (fun i hi => by rw [Nat.zero_add]; exact bvs_get hi)
  refine (plainO_any src (by decide) (by decide)).mono ?_
  rintro x w2 ⟨v2, rfl, k2, own2, si2⟩
  refine ⟨_, rfl, ?_⟩
  obtain ⟨g, cap, rest, hv2, hrow, hcap, hmax⟩ := own2.row (by decide)
  have hg : w.heap.size ≤ g := Nat.le_trans hW1.keep.size (si2 g (by rw [hv2]; rfl))
  subst hv2
  have hWf : Wst w ⟨[], w1.heap.size⟩ w1 := hW1.fewer (rows := [])
  have hW2 : Wst w ⟨[] ++ [⟨g, bvs (plainL ++ [255]) ++ rest, true⟩], w2.heap.size⟩ w2 := (hWf.later k2).addRow hrow hg (fun _ h => nomatch h)
  refine Goal.re (tags := tagL [(9, 0)]) (m := ⟨[⟨g, bvs (plainL ++ [255]) ++ rest, true⟩], w2.heap.size⟩) ?_
  refine go_call_is (gt := fun _ => Option.none) (unroll := false) 60 [] 14 [.slice (some ⟨g, 0, none⟩) 241 cap] [] [] 16 [⟨g, bvs ((plainL ++ [255]).set 239 0) ++ rest, true⟩] [] (inR k1C 3 1) [] [] hW2 (by kernel_rfl) trivial trivial ?_
  intro w3 hW3 _
  have r3 : Rd w3 (.slice (some ⟨g, 0, none⟩) 241 cap) ((plainL ++ [255]).set 239 0) := Rd.of_rowc hW3 (rest := rest) (ow := true) (by simp) 241 rfl hcap hmax
  refine (dget_any r3 (by decide)).mono ?_
  rintro x w4 ⟨y, rfl, k4, hm⟩
  refine ⟨_, rfl, ?_⟩
  rw [gc_d] at hm ⊢
  obtain rfl : y = .agg (mz.a nilV nilV) := hm
  exact go_ret (gt := fun _ => Option.none) (unroll := false) 60 [] [.tmp 4] (.int .i64 5) [] [] (hW3.later k4) Try.results25 (by kernel_rfl) trivial trivial (fun w9 hW9 _ => ⟨rfl, hW9.keep⟩)
theorem gc_e : getR ((plainL ++ [255]).set 3 9) = (some (getH ((plainL ++ [255]).set 3 9), ([], [])), 0) := by kernel_rfl
set_option maxRecDepth 8000 in
theorem code_e (w : World) : Calls Try.prog 25 #[.int .i64 3, .int .u8 9] w (k1Q w 0) := by
  refine enter (args := [.int .i64 3, .int .u8 9]) Try.func25 (by kernel_rfl) ?_
  refine go_call_is (gt := fun _ => Option.none) (unroll := false) 60 [] 26 [.slice (some ⟨w.heap.size, 0, none⟩) 1 1] [0, 1] [.int .i64 3, .int .u8 9] 9 [⟨w.heap.size, bvs [255], true⟩] [] (inR k1C 1 1) [] [] (Wst.start0 w) (by kernel_rfl) trivial trivial ?_
  intro w1 hW1 _
  have src : Rd w1 (.slice (some ⟨w.heap.size, 0, none⟩) 1 1) [255] := Rd.of_row (bs := [255]) (cs := bvs [255]) (ow := true) hW1 (by simp) 1 rfl (by simp [maxLen]) (fun i hi => by rw [Nat.zero_add]; exact bvs_get hi)
  refine (plainO_any src (by decide) (by decide)).mono ?_
  rintro x w2 ⟨v2, rfl, k2, own2, si2⟩
  refine ⟨_, rfl, ?_⟩
  obtain ⟨g, cap, rest, hv2, hrow, hcap, hmax⟩ := own2.row (by decide)
  have hg : w.heap.size ≤ g := Nat.le_trans hW1.keep.size (si2 g (by rw [hv2]; rfl))
  subst hv2
  have hWf : Wst w ⟨[], w1.heap.size⟩ w1 := hW1.fewer (rows := [])
  have hW2 : Wst w ⟨[] ++ [⟨g, bvs (plainL ++ [255]) ++ rest, true⟩], w2.heap.size⟩ w2 := (hWf.later k2).addRow hrow hg (fun _ h => nomatch h)
  refine Goal.re (tags := tagL [(9, 0)]) (m := ⟨[⟨g, bvs (plainL ++ [255]) ++ rest, true⟩], w2.heap.size⟩) ?_
  refine go_call_is (gt := fun _ => Option.none) (unroll := false) 60 [] 14 [.slice (some ⟨g, 0, none⟩) 241 cap] [] [] 16 [⟨g, bvs ((plainL ++ [255]).set 3 9) ++ rest, true⟩] [] (inR k1C 3 1) [] [] hW2 (by kernel_rfl) trivial trivial ?_
  intro w3 hW3 _
  have r3 : Rd w3 (.slice (some ⟨g, 0, none⟩) 241 cap) ((plainL ++ [255]).set 3 9) := Rd.of_rowc hW3 (rest := rest) (ow := true) (by simp) 241 rfl hcap hmax
  refine (dget_any r3 (by decide)).mono ?_
  rintro x w4 ⟨y, rfl, k4, hm⟩
  refine ⟨_, rfl, ?_⟩
  rw [gc_e] at hm ⊢
  obtain ⟨z, b, es, rfl, _, _, _⟩ := hm
  exact go_ret (gt := fun _ => Option.none) (unroll := false) 60 [] [.tmp 4] (.int .i64 0) [] [] (hW3.later k4) Try.results25 (by kernel_rfl) trivial trivial (fun w9 hW9 _ => ⟨rfl, hW9.keep⟩)
end Go.Proofs.Ytpnocepepihflaa
namespace Go.Proofs.Ytpnocepepihflaa
open Go.RowKit
section
variable {P : Program} {W0 : World} {Q : Exit → Act → World → Prop} {n : Nat} {gt : Nat → Option Nat} {unroll : Bool}
theorem run_callX {ρ : Operand → Value} {o : Oper} {x : Operand} {f : FuncId} {args : Array Operand} {ts : Array TypeId} (ho : o.op = .call { callee := .value x, args := args, argTypes := ts }) (hρ : ρ x = .func (.func f) #[] #[]) (hk : callOk P f = true) (w : World) :
    (execOp ρ o).run P w = .ok (.enter f (args.map ρ)) w := by
  unfold callOk at hk
  cases hf : P.funcs[f]? with
  | none => rw [hf] at hk; cases hk
  | some fn =>
    rw [hf] at hk
    simp only [Bool.and_eq_true, Bool.not_eq_true'] at hk
    obtain ⟨h1, h2⟩ := hk
    have h1' : ¬ fn.name = "runtime.NumGoroutine" := by simpa using h1
    have h3 : ¬ fn.body = none := by cases hb : fn.body <;> simp_all
    have hprog : ∀ w', Sem.run P program w' = .ok P w' := fun _ => rfl
    unfold execOp
    simp [ho, resolve, hρ, Deferred.ofValue, invoke, callFunc, hprog, hf, h1', h3]
def fnOf : Value → Option FuncId | .func (.func f) a b => if Nat.beq a.size 0 && Nat.beq b.size 0 then some f else none | _ => none
theorem fnOf_eq {v : Value} {f : FuncId} (h : fnOf v = some f) : v = .func (.func f) #[] #[] := by
  unfold fnOf at h
  split at h
  · rename_i f' a b
    split at h
    · rename_i hc
      simp only [Bool.and_eq_true, Nat.beq_eq] at hc
      cases h
      rw [Array.eq_empty_of_size_eq_zero hc.1, Array.eq_empty_of_size_eq_zero hc.2]
    · cases h
  · cases h
/-- Is the walk at a call of a function value? -/
def atCallX (P : Program) (n : Nat) (c : Cfg) : Option (FuncId × List Value) :=
  match c.todo with
  | .ops ops (o :: _) _ _ :: _ => match wantV ops c.fr o with
    | some true => if allV c.fr o && dstOk n o then match o.op with
        | .call { callee := .value x, args := args, argTypes := _ } => match fnOf (rho c.fr x) with
          | some f => if callOk P f then some (f, args.toList.map (rho c.fr)) else none
          | none => none
        | _ => none
      else none
    | _ => none
  | _ => none
theorem callX_ok {c : Cfg} {w : World} {f : FuncId} {args : List Value} (ha : atCallX P n c = some (f, args))
    (hc : Calls P f args.toArray w (fun e w' => ∃ v, e = .returned v ∧ Goal P Q n (resume c v w'.heap.size) w')) : Goal P Q n c w := by
  obtain ⟨fr, tags, m, todo⟩ := c
  unfold atCallX at ha
  simp only at ha
  split at ha
  case h_2 => cases ha
  split at ha
  case h_2 => cases ha
  rename_i ops o l i id k _ hw
  split at ha
  case isFalse => cases ha
  rename_i hall
  simp only [Bool.and_eq_true] at hall
  split at ha
  case h_2 => cases ha
  rename_i x xs ts hop
  split at ha
  case h_2 => cases ha
  rename_i f' hfn
  split at ha
  case isFalse => cases ha
  rename_i hk
  cases ha
  intro a hd hn ha
  show wpList P ops (KX P Q k) (o :: l) a w
  have hsel : ∀ cs b, o.op ≠ .select cs b := fun cs b e => by rw [hop] at e; cases e
  unfold wpList
  rw [wantV_wanted ha hw, if_pos rfl]
  refine .inl ?_
  unfold Oper.wp
  rw [execOp_congr o hsel (fun x hx => rho_eval ha hall.1 hx), run_callX hop (fnOf_eq hfn) hk]
  have e1 : (xs.toList.map (rho fr)).toArray = xs.map (rho fr) := by apply Array.ext'; simp
  rw [e1] at hc
  refine Calls.mono hc ?_
  rintro e w' ⟨v, rfl, hg⟩
  have := hg (a.put o.dst v) (by rw [(put_size a o.dst v).2]; exact hd) (by rw [(put_size a o.dst v).1]; exact hn) (putV_spec ha hn hall.2 (fun u hu => Option.some.inj hu))
  exact this
theorem go_callX_is (fuel : Nat) (hs : List (Nat × Nat × HintS)) (f : FuncId) (args : List Value) (ts : List Tmp) (vs : List Value) (r : Tmp) (rows : List RowS) (tg : List (Nat × Nat)) (T : List K) (eqs : List (Value × Value)) (sems : List (Sem Value × Value)) {c : Cfg} {w : World}
    (hW : Wst W0 c.m w)
    (he : ((atCallX P n (run P n gt unroll hs fuel c).1, ts.map (run P n gt unroll hs fuel c).1.fr, (run P n gt unroll hs fuel c).1.m.rows, callDst (run P n gt unroll hs fuel c).1, (run P n gt unroll hs fuel c).2.eqs, (run P n gt unroll hs fuel c).2.sems), (run P n gt unroll hs fuel c).2.blks.map (·.1)) =
      ((some (f, args), vs.map some, rows, some (r, T), eqs, sems), (run P n gt unroll hs fuel c).2.blks.map (·.2)))
    (h1 : Eqs eqs) (h2 : SemObs P c.m w sems)
    (hk : ∀ w', Wst W0 ⟨rows, w'.heap.size⟩ w' → Seg c.m w ⟨rows, w'.heap.size⟩ w' →
      Calls P f args.toArray w' (fun e w2 => ∃ v, e = .returned v ∧ Goal P Q n ⟨frOf (r :: ts) (v :: vs), tagL tg, ⟨rows, w2.heap.size⟩, T⟩ w2)) : Goal P Q n c w := by
  simp only [Prod.mk.injEq] at he
  obtain ⟨⟨e1, e0, er, ed, e2, e3⟩, e4⟩ := he
  refine run_ok fuel hW (Seg.refl _ _) ⟨?_, all_of_maps e4, ?_⟩ fun w' hW' hS' => callX_ok e1 ?_
  · rw [e2]; exact h1.mem
  · rw [e3]; exact h2.mem
  · have em : (run P n gt unroll hs fuel c).1.m = ⟨rows, w'.heap.size⟩ := by rw [← er, hW'.size]
    rw [em] at hW' hS'
    refine (hk w' hW' hS').mono ?_
    rintro e w2 ⟨v, rfl, hg⟩
    refine ⟨v, rfl, ?_⟩
    generalize (run P n gt unroll hs fuel c).1 = c1 at *
    obtain ⟨fr, tags, m, todo⟩ := c1
    unfold callDst at ed
    simp only at ed
    match todo, ed with
    | .ops ops (o :: l) i id :: k, ed =>
      simp only [Option.map_eq_some_iff, Prod.mk.injEq] at ed
      obtain ⟨d, hd, rfl, rfl⟩ := ed
      intro a had hn ha
      refine hg a had hn fun t u hu => ?_
      simp only [frOf] at hu
      simp only [resume, putV, hd] at ha
      split at hu
      · rename_i he'
        have := ha t v (by simp [he'])
        rw [this]; exact Option.some.inj hu
      · rename_i he'
        have : fr t = some u ∨ True := .inr trivial
        have hfr : ∀ t' u', frOf ts vs t' = some u' → fr t' = some u' := frOf_fr e0
        exact ha t u (by simp [he', hfr t u hu])
end
end Go.Proofs.Ytpnocepepihflaa
namespace Go.Proofs.Ytpnocepepihflaa
open Go.RowKit

abbrev slB (b n : Nat) : Sb := ⟨some ⟨b, 0, none⟩, n, n⟩
abbrev nilS : Sb := ⟨none, 0, 0⟩
def km : Mh := ⟨2, 3, 16909060, 1286, 32768, 167772161, 167772162, 167772163, 167772164, [2, 0, 0, 0, 0, 7], [], [], []⟩
def mOp (x : UInt8) : Mh := ⟨x, 0, 0, 0, 0, 0, 0, 0, 0, [], [], [], []⟩
theorem okOp (x : UInt8) : OkM (mOp x) := ⟨by show (0 : Nat) < 4294967296; omega, by show (0 : Nat) < 65536; omega, by show (0 : Nat) < 65536; omega, by show (0 : Nat) < 4294967296; omega, by show (0 : Nat) < 4294967296; omega, by show (0 : Nat) < 4294967296; omega, by show (0 : Nat) < 4294967296; omega⟩
theorem km_ok : OkM km := ⟨by decide, by decide, by decide, by decide, by decide, by decide, by decide⟩
def es0 (n : Nat) : List Oe := [⟨53, slB n 1, [5]⟩, ⟨51, slB (n + 1) 4, [0, 0, 14, 16]⟩, ⟨50, slB (n + 2) 4, [10, 0, 0, 9]⟩]
def os0 : List Opt := [(53, [5]), (51, [0, 0, 14, 16]), (50, [10, 0, 0, 9])]
def kb : List UInt8 := tellL (headL km) os0 []
theorem kb_is : bytesH (headL km) km.op os0 [] = some kb := by kernel_rfl
theorem kb_len : kb.length = 256 := by kernel_rfl
def k34 : List UInt8 := [2, 1, 6, 3, 1, 2, 3, 4, 5, 6, 128, 0, 10, 0, 0, 1, 10, 0, 0, 2, 10, 0, 0, 3, 10, 0, 0, 4, 2, 0, 0, 0, 0, 7]
theorem kb_34 : kb.take 34 = k34 := by kernel_rfl
theorem kb_255 : byteAt kb 255 = 255 := by kernel_rfl
theorem es0_lease (n : Nat) : numR (valE 51 (es0 n)) = (3600, true) := by kernel_rfl
theorem es0_want (n : Nat) : numR (valE 50 (es0 n)) = (167772169, true) := by kernel_rfl
theorem es0_type (n : Nat) : typR (valE 53 (es0 n)) = 5 := by kernel_rfl
theorem es0_val (n : Nat) (c : UInt8) : (valE c (es0 n)).length ≤ 1099511627776 := by
  have h : valE c (es0 n) = valE c [⟨53, slB n 1, [5]⟩] ++ (valE c [⟨51, slB (n + 1) 4, [0, 0, 14, 16]⟩] ++ valE c [⟨50, slB (n + 2) 4, [10, 0, 0, 9]⟩]) := by
    rw [← valE_append, ← valE_append]
    rfl
  rw [h, List.length_append, List.length_append, valE_one, valE_one, valE_one]
  split <;> split <;> split <;> simp only [List.length_cons, List.length_nil] <;> omega
def L1 : List UInt8 := [53, 2, 1, 255]
def L2' : List UInt8 := [53]
def L3' : List UInt8 := [53, 0, 255]
def L4' : List UInt8 := [53, 0, 255, 1, 2]
theorem kg1 : getR (plainL ++ L1) = (none, 4) := by kernel_rfl
theorem kg2 : getR (plainL ++ L2') = (none, 4) := by kernel_rfl
theorem kg3 : getR ((plainL ++ L3').take 239) = (none, 4) := by kernel_rfl
theorem kg4 : getR (plainL ++ L4') = (some (getH (plainL ++ L4'), ([(53, [])], [1, 2])), 0) := by kernel_rfl
theorem kn3 : bytesH (headL (mOp 3)) (mOp 3).op [] [] = none := by kernel_rfl
theorem kn4 : bytesH (headL (mOp 1)) (mOp 1).op [(255, [])] [] = none := by kernel_rfl
theorem kn5 : bytesH (headL (mOp 1)) (mOp 1).op [(7, List.replicate 256 0)] [] = none := by kernel_rfl
noncomputable abbrev dkC : Code := bodyOf Try.f6
abbrev knR (w : World) : List RowS := [⟨w.heap.size + 4, (km.a (slB (w.heap.size + 3) 3).v nilV).toList, true⟩]
theorem RowGo.self {rows : List RowS} {n : Nat} (h : ∀ r ∈ rows, r.own = true) : RowGo rows rows n := fun r hr => .inl ⟨r, hr, h r hr, rfl⟩
theorem RowGo.app {rows rows' more : List RowS} {n : Nat} (h : RowGo rows rows' n) (hm : ∀ r ∈ more, n ≤ r.b) : RowGo rows (rows' ++ more) n := fun r hr => by
  rcases List.mem_append.1 hr with hr | hr
  · exact h r hr
  · exact .inr (hm r hr)
theorem kn_go {w : World} {n : Nat} : RowGo (knR w) (knR w) n := .self fun r hr => by obtain rfl := List.mem_singleton.1 hr; rfl
abbrev fnV : Value := .func (.func 25) #[] #[]
abbrev mzR (n : Nat) : RowS := ⟨n, (mz.a nilV nilV).toList, true⟩
abbrev bR (n : Nat) (l : List UInt8) : RowS := ⟨n, bvs l, true⟩
theorem ge_one {n : Nat} {a : RowS} (h : n ≤ a.b) : ∀ r ∈ [a], n ≤ r.b := fun r hr => by obtain rfl := List.mem_singleton.1 hr; exact h
theorem ge_two {n : Nat} {a b : RowS} (h : n ≤ a.b) (k : n ≤ b.b) : ∀ r ∈ [a, b], n ≤ r.b := fun r hr => by
  simp only [List.mem_cons, List.not_mem_nil, or_false] at hr
  rcases hr with rfl | rfl
  · exact h
  · exact k
theorem Rd.of_b {W0 w : World} {m : Mem} {n k : Nat} {l : List UInt8} (hW : Wst W0 m w) (hr : bR n l ∈ m.rows) (hl : l.length = k) (hk : k ≤ 1000) : Rd w (.slice (some ⟨n, 0, none⟩) k k) l := Rd.of_row (bs := l) (cs := bvs l) (ow := true) hW hr k hl (by simp only [maxLen]; omega) (fun i hi => by rw [Nat.zero_add]; exact bvs_get hi)
set_option maxRecDepth 16000 in
theorem dhcpknown_walk (w : World) : Calls Try.prog 6 #[] w (trQ w) := by
  refine enter (args := []) Try.func6 (by kernel_rfl) ?_
  refine go_call_is (gt := fun _ => Option.none) (unroll := false) 60 [] 13 [.agg (km.a (slB (w.heap.size + 3) 3).v nilV)] [1] [pT (w.heap.size + 4)] 34 [bR w.heap.size [5], bR (w.heap.size + 1) [0, 0, 14, 16], bR (w.heap.size + 2) [10, 0, 0, 9], ⟨w.heap.size + 3, csO false (es0 w.heap.size), true⟩, ⟨w.heap.size + 4, (km.a (slB (w.heap.size + 3) 3).v nilV).toList, true⟩] [(1, 4)] (inR dkC 2 1) [] [] (Wst.start0 w) (by kernel_rfl) trivial trivial ?_
  intro w1 hW1 _
  have rA : Rd w1 (slB w.heap.size 1).v [5] := Rd.of_b hW1 (by simp) rfl (Nat.le_of_ble_eq_true rfl)
  have rB : Rd w1 (slB (w.heap.size + 1) 4).v [0, 0, 14, 16] := Rd.of_b hW1 (by simp) rfl (Nat.le_of_ble_eq_true rfl)
  have rC : Rd w1 (slB (w.heap.size + 2) 4).v [10, 0, 0, 9] := Rd.of_b hW1 (by simp) rfl (Nat.le_of_ble_eq_true rfl)
  obtain ⟨tD, hD⟩ := hW1.rows ⟨w.heap.size + 3, csO false (es0 w.heap.size), true⟩ (by simp)
  obtain ⟨tE, hE⟩ := hW1.rows ⟨w.heap.size + 4, (km.a (slB (w.heap.size + 3) 3).v nilV).toList, true⟩ (by simp)
  have hlt1 : w.heap.size + 4 < w1.heap.size := block_of_row hE
  have roD : Ro false w1 (slB (w.heap.size + 3) 3).v (es0 w.heap.size) := Ro.of_row (l := es0 w.heap.size) hD rfl (by show 3 ≤ maxLen; simp [maxLen])
  have hWk : Wst w ⟨knR w, w1.heap.size⟩ w1 := ⟨rfl, fun r hr => by obtain rfl := List.mem_singleton.1 hr; exact ⟨tE, hE⟩, by simp, fun r hr ho => hW1.own r (by obtain rfl := List.mem_singleton.1 hr; simp) ho, hW1.keep⟩
  have hx : ∀ (b n : Nat) (l : List UInt8), b < w.heap.size + 4 → Rd w1 (slB b n).v l → Hx (knR w) w1 (slB b n).v l := fun b n l hb hr => ⟨hr, fun i hi _ => by
    have e : b = i := Option.some.inj hi
    rw [← e]
    exact ⟨by show b < w1.heap.size; omega, fun r hr _ => by obtain rfl := List.mem_singleton.1 hr; show w.heap.size + 4 ≠ b; omega⟩⟩
  have HK1 : HxO false (knR w) w1 (slB (w.heap.size + 3) 3).v (es0 w.heap.size) := ⟨roD, fun i hi _ => by
    obtain rfl := Option.some.inj hi
    exact ⟨by show w.heap.size + 3 < w1.heap.size; omega, fun r hr _ => by obtain rfl := List.mem_singleton.1 hr; show w.heap.size + 4 ≠ w.heap.size + 3; omega⟩, fun e he => by
    simp only [es0, List.mem_cons, List.not_mem_nil, or_false] at he
    rcases he with rfl | rfl | rfl
    · exact hx _ _ _ (by omega) rA
    · exact hx _ _ _ (by omega) rB
    · exact hx _ _ _ (by omega) rC⟩
  clear hx
  have hq1 := dbytes_any (m := km) (so := slB (w.heap.size + 3) 3) (sb := nilS) (bh := []) km_ok HK1.rv (Rd.nil w1) (by show 3 ≤ 1000000; omega) (by show 0 ≤ 1000000; omega)
  rw [show (es0 w.heap.size).map Oe.o = os0 from rfl, kb_is] at hq1
  refine hq1.mono ?_
  rintro x w2 ⟨k2, v2, rfl, n2⟩
  refine ⟨_, rfl, ?_⟩
  have hW2 := hWk.later k2
  have HK2 := HK1.call k2
  have H2 : Hx (knR w) w2 v2 kb := n2.hx hWk
  have s34 := fun wx : World => H2.rd.sem_cutH (k := 34) (by rw [kb_len]; omega) wx
  have r34 : ∀ {wx : World}, Rd wx v2 kb → Rd wx (cutv v2 0 34) k34 := fun r => by rw [← kb_34]; exact r.cutN (by rw [kb_len]; omega)
  obtain ⟨y1, hy1⟩ : ∃ y, cutv v2 0 34 = y := ⟨_, rfl⟩
  rw [hy1] at s34 r34
  have len2 : ∀ wx : World, (Builtin.len_ #[22] 3 #[v2]).run Try.prog wx = .ok (.int .i64 256) wx := fun wx => by
    have := H2.rd.run_len (P := Try.prog) (w' := wx) (ty := 3) bt.sl
    rw [kb_len] at this
    exact this
  refine Goal.re (tags := tagL [(1, 0)]) (m := ⟨knR w, w2.heap.size⟩) ?_
  refine go_call_is (gt := fun _ => Option.none) (unroll := false) 60 [(3, 4, .sem (.int .i64 256)), (3, 9, .sem y1)] 9 [y1, .slice (some ⟨w2.heap.size, 0, none⟩) 34 34] [1, 2, 44] [pT (w.heap.size + 4), v2, .bool false] 48 (knR w ++ [bR w2.heap.size k34]) [(1, 0)] (inR dkC 3 11) [] [(Builtin.len_ #[22] 3 #[v2], .int .i64 256), (Instr.sliceAt 22 v2 Option.none (some (.int .i64 34)) Option.none, y1)] hW2 (by kernel_rfl) trivial ⟨fun wx _ => len2 wx, fun wx _ => s34 wx, trivial⟩ ?_
  intro w3 hW3 hS3
  have HK3 := (HK2.go hS3 (kn_go.app (ge_one (Nat.le_refl _)))).fewer (rows := knR w)
  have H3 := (H2.go hS3 (kn_go.app (ge_one (Nat.le_refl _)))).fewer (rows := knR w)
  refine (bequal_any (r34 H3.rd) (Rd.of_b hW3 (l := k34) (by simp) rfl (Nat.le_of_ble_eq_true rfl))).mono ?_
  rintro x w4 ⟨rfl, rfl⟩
  refine ⟨_, rfl, ?_⟩
  rw [show (k34 == k34) = true by simp]
  have hW3 := hW3.fewer (rows := knR w)
  have at255 := fun wx : World => H3.rd.sem_at (i := 255) (by rw [kb_len]; omega) wx
  have ld255 : ∀ wx : World, (∀ k, Safe ⟨knR w, w3.heap.size⟩ k → wx.heap[k]? = w3.heap[k]?) → (Instr.loadAt 5 (.pointer (some (adr v2 255)))).run Try.prog wx = .ok (bv 255) wx := fun wx hx => by
    have := (H3.later hx).sem_ld (i := 255) (by rw [kb_len]; omega)
    rw [kb_255] at this
    exact this
  refine Goal.re (tags := tagL [(1, 0)]) (m := ⟨knR w, w3.heap.size⟩) ?_
  refine go_call_is (gt := fun _ => Option.none) (unroll := false) 60 [(3, 16, .sem (.pointer (some (adr v2 255)))), (3, 17, .sem (bv 255))] 23 [.agg (km.a (slB (w.heap.size + 3) 3).v nilV)] [1] [pT (w.heap.size + 4)] 59 (knR w) [(1, 0)] (inR dkC 5 1) [] [(Instr.indexAt 22 v2 (.int .i64 255), .pointer (some (adr v2 255))), (Instr.loadAt 5 (.pointer (some (adr v2 255))), bv 255)] hW3 (by kernel_rfl) trivial ⟨fun wx _ => at255 wx, ld255, trivial⟩ ?_
  intro w5 hW5 hS5
  have HK5 := HK3.go hS5 kn_go
  refine (mlease_any (m := km) (sb := nilS) HK5.rv (by show 3 ≤ 1000000; omega) (es0_val _ 51)).mono ?_
  rintro x w6 ⟨rfl, k6⟩
  refine ⟨_, rfl, ?_⟩
  rw [es0_lease]
  have hW6 := hW5.later k6
  have HK6 := HK5.call k6
  refine go_call_is (gt := fun _ => Option.none) (unroll := false) 60 [] 22 [.agg (km.a (slB (w.heap.size + 3) 3).v nilV)] [1, 4, 5] [pT (w.heap.size + 4), .int .u32 3600, .bool true] 64 (knR w) [(1, 0)] (inR dkC 6 1) [] [] hW6 (by kernel_rfl) trivial trivial ?_
  intro w7 hW7 hS7
  have HK7 := HK6.go hS7 kn_go
  refine (mwanted_any (m := km) (sb := nilS) HK7.rv (by show 3 ≤ 1000000; omega) (es0_val _ 50)).mono ?_
  rintro x w8 ⟨rfl, k8⟩
  refine ⟨_, rfl, ?_⟩
  rw [es0_want]
  have hW8 := hW7.later k8
  have HK8 := HK7.call k8
  refine go_call_is (gt := fun _ => Option.none) (unroll := false) 60 [] 26 [.slice (some ⟨w8.heap.size, 0, none⟩) 4 4] [1, 4, 5, 6, 7, 8] [pT (w.heap.size + 4), .int .u32 3600, .bool true, .int .u32 167772169, .bool true, fnV] 69 (knR w ++ [bR w8.heap.size L1]) [(1, 0)] (inR dkC 8 1) [] [] hW8 (by kernel_rfl) trivial trivial ?_
  intro w9 hW9 hS9
  have HK9 := (HK8.go hS9 (kn_go.app (ge_one (Nat.le_refl _)))).fewer (rows := knR w)
  refine (plain_any (Rd.of_b hW9 (l := L1) (by simp) rfl (Nat.le_of_ble_eq_true rfl)) (by decide)).mono ?_
  rintro x w10 ⟨v10, rfl, k10, n10⟩
  refine ⟨_, rfl, ?_⟩
  have hW9 := hW9.fewer (rows := knR w)
  have hW10 := hW9.later k10
  have HK10 := HK9.call k10
  have n10 := n10.hx hW9
  refine Goal.re (tags := tagL [(1, 0)]) (m := ⟨knR w, w10.heap.size⟩) ?_
  refine go_call_is (gt := fun _ => Option.none) (unroll := false) 60 [] 14 [v10] [1, 4, 5, 6, 7, 8] [pT (w.heap.size + 4), .int .u32 3600, .bool true, .int .u32 167772169, .bool true, fnV] 70 (knR w) [(1, 0)] (inR dkC 8 2) [] [] hW10 (by kernel_rfl) trivial trivial ?_
  intro w11 hW11 hS11
  have HK11 := HK10.go hS11 kn_go
  have n11 := n10.go hS11 kn_go
  refine (dget_any n11.rd (by decide)).mono ?_
  rintro x w12 ⟨m12, rfl, k12, g12⟩
  refine ⟨_, rfl, ?_⟩
  rw [kg1] at g12 ⊢
  obtain rfl : m12 = .agg (mz.a nilV nilV) := g12
  have hW12 := hW11.later k12
  have HK12 := HK11.call k12
  refine go_call_is (gt := fun _ => Option.none) (unroll := false) 60 [] 26 [.slice (some ⟨w12.heap.size + 1, 0, none⟩) 1 1] [1, 4, 5, 6, 7, 8, 10] [pT (w.heap.size + 4), .int .u32 3600, .bool true, .int .u32 167772169, .bool true, fnV, .int .i64 4] 75 (knR w ++ [mzR w12.heap.size, bR (w12.heap.size + 1) L2']) [(1, 0)] (inR dkC 9 1) [] [] hW12 (by kernel_rfl) trivial trivial ?_
  intro w13 hW13 hS13
  have HK13 := (HK12.go hS13 (kn_go.app (ge_two (Nat.le_refl _) (Nat.le_succ _)))).fewer (rows := knR w)
  refine (plain_any (Rd.of_b hW13 (l := L2') (by simp) rfl (Nat.le_of_ble_eq_true rfl)) (by decide)).mono ?_
  rintro x w14 ⟨v14, rfl, k14, n14⟩
  refine ⟨_, rfl, ?_⟩
  have hW13 := hW13.fewer (rows := knR w)
  have hW14 := hW13.later k14
  have HK14 := HK13.call k14
  have n14 := n14.hx hW13
  refine Goal.re (tags := tagL [(1, 0)]) (m := ⟨knR w, w14.heap.size⟩) ?_
  refine go_call_is (gt := fun _ => Option.none) (unroll := false) 60 [] 14 [v14] [1, 4, 5, 6, 7, 8, 10] [pT (w.heap.size + 4), .int .u32 3600, .bool true, .int .u32 167772169, .bool true, fnV, .int .i64 4] 76 (knR w) [(1, 0)] (inR dkC 9 2) [] [] hW14 (by kernel_rfl) trivial trivial ?_
  intro w15 hW15 hS15
  have HK15 := HK14.go hS15 kn_go
  have n15 := n14.go hS15 kn_go
  refine (dget_any n15.rd (by decide)).mono ?_
  rintro x w16 ⟨m16, rfl, k16, g16⟩
  refine ⟨_, rfl, ?_⟩
  rw [kg2] at g16 ⊢
  obtain rfl : m16 = .agg (mz.a nilV nilV) := g16
  have hW16 := hW15.later k16
  have HK16 := HK15.call k16
  refine go_call_is (gt := fun _ => Option.none) (unroll := false) 60 [] 26 [.slice (some ⟨w16.heap.size + 1, 0, none⟩) 3 3] [1, 4, 5, 6, 7, 8, 10, 12] [pT (w.heap.size + 4), .int .u32 3600, .bool true, .int .u32 167772169, .bool true, fnV, .int .i64 4, .int .i64 4] 81 (knR w ++ [mzR w16.heap.size, bR (w16.heap.size + 1) L3']) [(1, 0)] (inR dkC 10 1) [] [] hW16 (by kernel_rfl) trivial trivial ?_
  intro w17 hW17 hS17
  have HK17 := (HK16.go hS17 (kn_go.app (ge_two (Nat.le_refl _) (Nat.le_succ _)))).fewer (rows := knR w)
  refine (plain_any (Rd.of_b hW17 (l := L3') (by simp) rfl (Nat.le_of_ble_eq_true rfl)) (by decide)).mono ?_
  rintro x w18 ⟨v18, rfl, k18, n18⟩
  refine ⟨_, rfl, ?_⟩
  have hW17 := hW17.fewer (rows := knR w)
  have hW18 := hW17.later k18
  have HK18 := HK17.call k18
  have n18 := n18.hx hW17
  refine Goal.re (tags := tagL [(1, 0)]) (m := ⟨knR w, w18.heap.size⟩) ?_
  have sc18 := fun wx : World => n18.rd.sem_cutH (k := 239) (by decide) wx
  have rc18 : ∀ {wx : World}, Rd wx v18 (plainL ++ L3') → Rd wx (cutv v18 0 239) ((plainL ++ L3').take 239) := fun r => r.cutN (by decide)
  obtain ⟨y18, hy18⟩ : ∃ y, cutv v18 0 239 = y := ⟨_, rfl⟩
  rw [hy18] at sc18 rc18
  refine go_call_is (gt := fun _ => Option.none) (unroll := false) 60 [(10, 2, .sem y18)] 14 [y18] [1, 4, 5, 6, 7, 8, 10, 12] [pT (w.heap.size + 4), .int .u32 3600, .bool true, .int .u32 167772169, .bool true, fnV, .int .i64 4, .int .i64 4] 83 (knR w) [(1, 0)] (inR dkC 10 3) [] [(Instr.sliceAt 22 v18 Option.none (some (.int .i64 239)) Option.none, y18)] hW18 (by kernel_rfl) trivial ⟨fun wx _ => sc18 wx, trivial⟩ ?_
  intro w19 hW19 hS19
  have HK19 := HK18.go hS19 kn_go
  have n19 := n18.go hS19 kn_go
  refine (dget_any (rc18 n19.rd) (by decide)).mono ?_
  rintro x w20 ⟨m20, rfl, k20, g20⟩
  refine ⟨_, rfl, ?_⟩
  rw [kg3] at g20 ⊢
  obtain rfl : m20 = .agg (mz.a nilV nilV) := g20
  have hW20 := hW19.later k20
  have HK20 := HK19.call k20
  refine go_call_is (gt := fun _ => Option.none) (unroll := false) 60 [] 26 [.slice (some ⟨w20.heap.size + 1, 0, none⟩) 5 5] [1, 4, 5, 6, 7, 8, 10, 12, 14] [pT (w.heap.size + 4), .int .u32 3600, .bool true, .int .u32 167772169, .bool true, fnV, .int .i64 4, .int .i64 4, .int .i64 4] 88 (knR w ++ [mzR w20.heap.size, bR (w20.heap.size + 1) L4']) [(1, 0)] (inR dkC 11 1) [] [] hW20 (by kernel_rfl) trivial trivial ?_
  intro w21 hW21 hS21
  have HK21 := (HK20.go hS21 (kn_go.app (ge_two (Nat.le_refl _) (Nat.le_succ _)))).fewer (rows := knR w)
  refine (plain_any (Rd.of_b hW21 (l := L4') (by simp) rfl (Nat.le_of_ble_eq_true rfl)) (by decide)).mono ?_
  rintro x w22 ⟨v22, rfl, k22, n22⟩
  refine ⟨_, rfl, ?_⟩
  have hW21 := hW21.fewer (rows := knR w)
  have hW22 := hW21.later k22
  have HK22 := HK21.call k22
  have n22 := n22.hx hW21
  refine Goal.re (tags := tagL [(1, 0)]) (m := ⟨knR w, w22.heap.size⟩) ?_
  refine go_call_is (gt := fun _ => Option.none) (unroll := false) 60 [] 14 [v22] [1, 4, 5, 6, 7, 8, 10, 12, 14] [pT (w.heap.size + 4), .int .u32 3600, .bool true, .int .u32 167772169, .bool true, fnV, .int .i64 4, .int .i64 4, .int .i64 4] 89 (knR w) [(1, 0)] (inR dkC 11 2) [] [] hW22 (by kernel_rfl) trivial trivial ?_
  intro w23 hW23 hS23
  have HK23 := HK22.go hS23 kn_go
  have n23 := n22.go hS23 kn_go
  refine (dget_any n23.rd (by decide)).mono ?_
  rintro x w24 ⟨m24, rfl, k24, g24⟩
  refine ⟨_, rfl, ?_⟩
  rw [kg4] at g24 ⊢
  obtain ⟨zx, bx, esx, rfl, hox, nox, nbx⟩ := g24
  have hW24 := hW23.later k24
  have HK24 := HK23.call k24
  have MX24 : HM (knR w) w24 zx bx esx [1, 2] := .got nox nbx hW23
  obtain ⟨G, hG⟩ : ∃ G, getH (plainL ++ L4') = G := ⟨_, rfl⟩
  rw [hG]
  obtain ⟨R, hR⟩ : ∃ R, w24.heap.size = R := ⟨_, rfl⟩
  have rgo : ∀ n, RowGo (knR w ++ [⟨R, (G.a zx.v bx.v).toList, true⟩]) (knR w ++ [⟨R, (G.a zx.v bx.v).toList, true⟩]) n := fun n => .self fun r hr => by
    simp only [List.cons_append, List.nil_append, List.mem_cons, List.not_mem_nil, or_false] at hr
    rcases hr with rfl | rfl <;> rfl
  refine go_call_is (gt := fun _ => Option.none) (unroll := false) 60 [] 13 [.agg ((mOp 3).a nilV nilV)] [1, 4, 5, 6, 7, 8, 10, 12, 14, 15, 16] [pT (w.heap.size + 4), .int .u32 3600, .bool true, .int .u32 167772169, .bool true, fnV, .int .i64 4, .int .i64 4, .int .i64 4, pT R, .int .i64 0] 94 (knR w ++ [⟨R, (G.a zx.v bx.v).toList, true⟩]) [(1, 0), (15, 1)] (inR dkC 12 1) [] [] hW24 (by subst hR; kernel_rfl) trivial trivial ?_
  intro w25 hW25 hS25
  have HK25 := HK24.go hS25 (kn_go.app (ge_one (Nat.le_of_eq hR)))
  have MX25 := MX24.go hS25 (kn_go.app (ge_one (Nat.le_of_eq hR)))
  have hq25 := dbytes_any (m := mOp 3) (so := nilS) (sb := nilS) (bh := []) (okOp 3) (RoV.nil w25) (Rd.nil w25) (by show 0 ≤ 1000000; omega) (by show 0 ≤ 1000000; omega)
  rw [List.map_nil, kn3] at hq25
  refine hq25.mono ?_
  rintro x w26 ⟨k26, rfl⟩
  refine ⟨_, rfl, ?_⟩
  have hW26 := hW25.later k26
  have HK26 := HK25.call k26
  have MX26 := MX25.call k26
  refine go_call_is (gt := fun _ => Option.none) (unroll := false) 60 [] 13 [.agg ((mOp 1).a (slB w26.heap.size 1).v nilV)] [1, 4, 5, 6, 7, 8, 10, 12, 14, 15, 16, 18] [pT (w.heap.size + 4), .int .u32 3600, .bool true, .int .u32 167772169, .bool true, fnV, .int .i64 4, .int .i64 4, .int .i64 4, pT R, .int .i64 0, .int .i64 1] 101 (knR w ++ [⟨R, (G.a zx.v bx.v).toList, true⟩] ++ [⟨w26.heap.size, csO false [⟨255, nilS, []⟩], true⟩]) [(1, 0), (15, 1)] (inR dkC 13 3) [] [] hW26 (by kernel_rfl) trivial trivial ?_
  intro w27 hW27 hS27
  have HK27 := (HK26.go hS27 ((rgo _).app (ge_one (Nat.le_refl _)))).fewer (rows := knR w ++ [⟨R, (G.a zx.v bx.v).toList, true⟩])
  have MX27 := (MX26.go hS27 ((rgo _).app (ge_one (Nat.le_refl _)))).fewer (rows := knR w ++ [⟨R, (G.a zx.v bx.v).toList, true⟩])
  obtain ⟨t27, ht27⟩ := hW27.rows ⟨w26.heap.size, csO false [⟨255, nilS, []⟩], true⟩ (by simp)
  have ro27 : RoV false w27 (slB w26.heap.size 1).v [⟨255, nilS, []⟩] := ⟨Ro.of_row (l := [⟨255, nilS, []⟩]) ht27 rfl (by simp [maxLen]), fun e he => by obtain rfl := List.mem_singleton.1 he; exact Rd.nil _⟩
  have hq27 := dbytes_any (m := mOp 1) (sb := nilS) (bh := []) (okOp 1) ro27 (Rd.nil w27) (by show 1 ≤ 1000000; omega) (by show 0 ≤ 1000000; omega)
  rw [show ([⟨255, nilS, []⟩] : List Oe).map Oe.o = [(255, [])] from rfl, kn4] at hq27
  refine hq27.mono ?_
  rintro x w28 ⟨k28, rfl⟩
  refine ⟨_, rfl, ?_⟩
  have hW28 := (hW27.fewer (rows := knR w ++ [⟨R, (G.a zx.v bx.v).toList, true⟩])).later k28
  have HK28 := HK27.call k28
  have MX28 := MX27.call k28
  refine Goal.re (tags := tagL [(1, 0), (15, 1)]) (m := ⟨knR w ++ [⟨R, (G.a zx.v bx.v).toList, true⟩], w28.heap.size⟩) ?_
  refine go_mk (gt := fun _ => Option.none) (unroll := false) 60 [(14, 0, .stop)] 22 (.int .i64 256) (.int .i64 256) [1, 4, 5, 6, 7, 8, 10, 12, 14, 15, 16, 18, 20] [pT (w.heap.size + 4), .int .u32 3600, .bool true, .int .u32 167772169, .bool true, fnV, .int .i64 4, .int .i64 4, .int .i64 4, pT R, .int .i64 0, .int .i64 1, .int .i64 1] 105 (knR w ++ [⟨R, (G.a zx.v bx.v).toList, true⟩]) [(1, 0), (15, 1)] (inR dkC 14 0) [] [] hW28 (by kernel_rfl) trivial trivial ?_
  intro w29 hW29 hS29
  have HK29 := HK28.go hS29 (rgo _)
  have MX29 := MX28.go hS29 (rgo _)
  obtain ⟨w30, tz, hrunz, hrowz, k30⟩ := mk_zero w29 256 (by omega) (by omega)
  refine ⟨_, w30, hrunz, ?_⟩
  have hW30 := hW29.later k30
  have HK30 := HK29.call k30
  have MX30 := MX29.call k30
  have HZ30 : Hx (knR w ++ [⟨R, (G.a zx.v bx.v).toList, true⟩]) w30 (slB w29.heap.size 256).v (List.replicate 256 0) := by
    refine ⟨⟨⟨some ⟨w29.heap.size, 0, none⟩, 256, rfl, by decide, by simp [maxLen], by simp, fun _ => ⟨_, _, rfl⟩⟩, fun i hi => ?_⟩, fun i hi _ => ?_⟩
    · simp only [blk, offs, Nat.zero_add, World.cell?, hrowz]
      have := bvs_get hi
      simpa using this
    · obtain rfl := Option.some.inj hi
      refine ⟨block_of_row hrowz, fun r hr _ => ?_⟩
      obtain ⟨t, ht⟩ := hW29.rows r hr
      have h1 : r.b < w29.heap.size := block_of_row ht
      show r.b ≠ w29.heap.size
      omega
  obtain ⟨zs, hzs⟩ : ∃ zs, w29.heap.size = zs := ⟨_, rfl⟩
  rw [hzs] at HZ30 ⊢
  refine go_call_is (gt := fun _ => Option.none) (unroll := false) 60 [] 13 [.agg ((mOp 1).a (slB w30.heap.size 1).v nilV)] [1, 4, 5, 6, 7, 8, 10, 12, 14, 15, 16, 18, 20] [pT (w.heap.size + 4), .int .u32 3600, .bool true, .int .u32 167772169, .bool true, fnV, .int .i64 4, .int .i64 4, .int .i64 4, pT R, .int .i64 0, .int .i64 1, .int .i64 1] 109 (knR w ++ [⟨R, (G.a zx.v bx.v).toList, true⟩] ++ [⟨w30.heap.size, csO false [⟨7, slB zs 256, List.replicate 256 0⟩], true⟩]) [(1, 0), (15, 1)] (inR dkC 14 4) [] [] hW30 (by kernel_rfl) trivial trivial ?_
  intro w31 hW31 hS31
  have HK31 := (HK30.go hS31 ((rgo _).app (ge_one (Nat.le_refl _)))).fewer (rows := knR w ++ [⟨R, (G.a zx.v bx.v).toList, true⟩])
  have MX31 := (MX30.go hS31 ((rgo _).app (ge_one (Nat.le_refl _)))).fewer (rows := knR w ++ [⟨R, (G.a zx.v bx.v).toList, true⟩])
  have HZ31 := (HZ30.go hS31 ((rgo _).app (ge_one (Nat.le_refl _)))).fewer (rows := knR w ++ [⟨R, (G.a zx.v bx.v).toList, true⟩])
  obtain ⟨t31, ht31⟩ := hW31.rows ⟨w30.heap.size, csO false [⟨7, slB zs 256, List.replicate 256 0⟩], true⟩ (by simp)
  have ro31 : RoV false w31 (slB w30.heap.size 1).v [⟨7, slB zs 256, List.replicate 256 0⟩] := ⟨Ro.of_row (l := [⟨7, slB zs 256, List.replicate 256 0⟩]) ht31 rfl (by simp [maxLen]), fun e he => by obtain rfl := List.mem_singleton.1 he; exact HZ31.rd⟩
  have hq31 := dbytes_any (m := mOp 1) (sb := nilS) (bh := []) (okOp 1) ro31 (Rd.nil w31) (by show 1 ≤ 1000000; omega) (by show 0 ≤ 1000000; omega)
  rw [show ([⟨7, slB zs 256, List.replicate 256 0⟩] : List Oe).map Oe.o = [(7, List.replicate 256 0)] from rfl, kn5] at hq31
  refine hq31.mono ?_
  rintro x w32 ⟨k32, rfl⟩
  refine ⟨_, rfl, ?_⟩
  have hW32 := (hW31.fewer (rows := knR w ++ [⟨R, (G.a zx.v bx.v).toList, true⟩])).later k32
  have HK32 := HK31.call k32
  have MX32 := MX31.call k32
  refine Goal.re (tags := tagL [(1, 0), (15, 1)]) (m := ⟨knR w ++ [⟨R, (G.a zx.v bx.v).toList, true⟩], w32.heap.size⟩) ?_
  refine go_call_is (gt := fun _ => Option.none) (unroll := false) 60 [] 10 [.agg (km.a (slB (w.heap.size + 3) 3).v nilV)] [8, 10, 12, 14, 15, 16, 18, 20, 22, 124] [fnV, .int .i64 4, .int .i64 4, .int .i64 4, pT R, .int .i64 0, .int .i64 1, .int .i64 1, .int .i64 1, .bool true] 126 (knR w ++ [⟨R, (G.a zx.v bx.v).toList, true⟩]) [(15, 1)] (inR dkC 15 14) [] [] hW32 (by kernel_rfl) trivial trivial ?_
  intro w33 hW33 hS33
  have HK33 := HK32.go hS33 (rgo _)
  have MX33 := MX32.go hS33 (rgo _)
  refine (mtype_any (m := km) (sb := nilS) HK33.rv (by show 3 ≤ 1000000; omega) (es0_val _ 53)).mono ?_
  rintro x w34 ⟨rfl, k34⟩
  refine ⟨_, rfl, ?_⟩
  rw [es0_type]
  have hW34 := hW33.later k34
  have MX34 := MX33.call k34
  refine go_callX_is (gt := fun _ => Option.none) (unroll := false) 60 [] 25 [.int .i64 0, .int .u8 3] [8, 10, 12, 14, 15, 16, 18, 20, 22, 129] [fnV, .int .i64 4, .int .i64 4, .int .i64 4, pT R, .int .i64 0, .int .i64 1, .int .i64 1, .int .i64 1, .bool true] 131 (knR w ++ [⟨R, (G.a zx.v bx.v).toList, true⟩]) [(15, 1)] (inR dkC 15 19) [] [] hW34 (by kernel_rfl) trivial trivial ?_
  intro w35 hW35 hS35
  have MX35 := MX34.go hS35 (rgo _)
  refine (code_a w35).mono ?_
  rintro x w36 ⟨rfl, k36⟩
  refine ⟨_, rfl, ?_⟩
  have hW36 := hW35.later k36
  have MX36 := MX35.call k36
  refine go_callX_is (gt := fun _ => Option.none) (unroll := false) 60 [] 25 [.int .i64 1, .int .u8 2] [8, 10, 12, 14, 15, 16, 18, 20, 22, 134] [fnV, .int .i64 4, .int .i64 4, .int .i64 4, pT R, .int .i64 0, .int .i64 1, .int .i64 1, .int .i64 1, .bool true] 136 (knR w ++ [⟨R, (G.a zx.v bx.v).toList, true⟩]) [(15, 1)] (inR dkC 15 24) [] [] hW36 (by kernel_rfl) trivial trivial ?_
  intro w37 hW37 hS37
  have MX37 := MX36.go hS37 (rgo _)
  refine (code_b w37).mono ?_
  rintro x w38 ⟨rfl, k38⟩
  refine ⟨_, rfl, ?_⟩
  have hW38 := hW37.later k38
  have MX38 := MX37.call k38
  refine go_callX_is (gt := fun _ => Option.none) (unroll := false) 60 [] 25 [.int .i64 2, .int .u8 5] [8, 10, 12, 14, 15, 16, 18, 20, 22, 139] [fnV, .int .i64 4, .int .i64 4, .int .i64 4, pT R, .int .i64 0, .int .i64 1, .int .i64 1, .int .i64 1, .bool true] 141 (knR w ++ [⟨R, (G.a zx.v bx.v).toList, true⟩]) [(15, 1)] (inR dkC 15 29) [] [] hW38 (by kernel_rfl) trivial trivial ?_
  intro w39 hW39 hS39
  have MX39 := MX38.go hS39 (rgo _)
  refine (code_c w39).mono ?_
  rintro x w40 ⟨rfl, k40⟩
  refine ⟨_, rfl, ?_⟩
  have hW40 := hW39.later k40
  have MX40 := MX39.call k40
  refine go_callX_is (gt := fun _ => Option.none) (unroll := false) 60 [] 25 [.int .i64 239, .int .u8 0] [8, 10, 12, 14, 15, 16, 18, 20, 22, 144] [fnV, .int .i64 4, .int .i64 4, .int .i64 4, pT R, .int .i64 0, .int .i64 1, .int .i64 1, .int .i64 1, .bool true] 146 (knR w ++ [⟨R, (G.a zx.v bx.v).toList, true⟩]) [(15, 1)] (inR dkC 15 34) [] [] hW40 (by kernel_rfl) trivial trivial ?_
  intro w41 hW41 hS41
  have MX41 := MX40.go hS41 (rgo _)
  refine (code_d w41).mono ?_
  rintro x w42 ⟨rfl, k42⟩
  refine ⟨_, rfl, ?_⟩
  have hW42 := hW41.later k42
  have MX42 := MX41.call k42
  refine go_callX_is (gt := fun _ => Option.none) (unroll := false) 60 [] 25 [.int .i64 3, .int .u8 9] [8, 10, 12, 14, 15, 16, 18, 20, 22, 149] [fnV, .int .i64 4, .int .i64 4, .int .i64 4, pT R, .int .i64 0, .int .i64 1, .int .i64 1, .int .i64 1, .bool true] 151 (knR w ++ [⟨R, (G.a zx.v bx.v).toList, true⟩]) [(15, 1)] (inR dkC 15 39) [] [] hW42 (by kernel_rfl) trivial trivial ?_
  intro w43 hW43 hS43
  have MX43 := MX42.go hS43 (rgo _)
  refine (code_e w43).mono ?_
  rintro x w44 ⟨rfl, k44⟩
  refine ⟨_, rfl, ?_⟩
  have hW44 := hW43.later k44
  have MX44 := MX43.call k44
  have hlx : esx.length = 1 := by have := congrArg List.length hox; simpa using this
  obtain ⟨ex, rfl⟩ : ∃ ex, esx = [ex] := by match esx, hlx with | [ex], _ => exact ⟨ex, rfl⟩
  have hvx : ex.val = [] := (Prod.mk.inj (List.cons.inj hox).1).2
  have rvx := (MX44.o.each ex (by simp)).rd
  rw [hvx] at rvx
  have lenx := fun wx : World => MX44.o.ro.sem_len E2o (ty := 3) wx
  have atx := fun wx : World => MX44.o.ro.sem_at E2o (i := 0) (by show 0 < 1; omega) wx
  have ldx : ∀ wx : World, (∀ k, Safe ⟨knR w ++ [⟨R, (G.a zx.v bx.v).toList, true⟩], w44.heap.size⟩ k → wx.heap[k]? = w44.heap[k]?) → (Instr.loadAt 22 (.pointer (some ⟨blk zx.v, offs zx.v + 0 * 2 + 1, none⟩))).run Try.prog wx = .ok ex.s.v wx := fun wx hx => (MX44.o.ro.same fun b hb hn => hx b (MX44.o.sf b hb hn)).ld_val (i := 0) (by show 0 < 1; omega)
  refine go_call_is (gt := fun _ => Option.none) (unroll := false) 100 [(15, 61, .sem (.int .i64 1)), (15, 67, .sem (.pointer (some (ad2 zx.v 0)))), (15, 69, .sem ex.s.v), (15, 70, .sem (.int .i64 0))] 9 [bx.v, .slice (some ⟨w44.heap.size, 0, none⟩) 2 2] [18, 20, 22, 185] [.int .i64 1, .int .i64 1, .int .i64 1, .bool true] 189 (knR w ++ [⟨R, (G.a zx.v bx.v).toList, true⟩] ++ [bR w44.heap.size [1, 2]]) [] (inR dkC 15 77) [] [(Builtin.len_ #[25] 3 #[zx.v], .int .i64 1), (Instr.indexAt 25 zx.v (.int .i64 0), .pointer (some (ad2 zx.v 0))), (Instr.loadAt 22 (.pointer (some ⟨blk zx.v, offs zx.v + 0 * 2 + 1, none⟩)), ex.s.v), (Builtin.len_ #[22] 3 #[ex.s.v], .int .i64 0)] hW44 (by kernel_rfl) trivial ⟨fun wx _ => lenx wx, fun wx _ => atx wx, ldx, fun wx _ => rvx.run_len (ty := 3) bt.sl, trivial⟩ ?_
  intro w45 hW45 hS45
  have MX45 := MX44.go hS45 ((rgo _).app (ge_one (Nat.le_refl _)))
  refine (bequal_any MX45.b.rd (Rd.of_b hW45 (l := [1, 2]) (by simp) rfl (Nat.le_of_ble_eq_true rfl))).mono ?_
  rintro x w46 ⟨rfl, rfl⟩
  refine ⟨_, rfl, ?_⟩
  rw [show (([1, 2] : List UInt8) == [1, 2]) = true by decide]
  have hW46 := hW45.fewer (rows := []) (more := knR w ++ [⟨R, (G.a zx.v bx.v).toList, true⟩] ++ [bR w44.heap.size [1, 2]])
  refine Goal.re (tags := tagL []) (m := ⟨[], w45.heap.size⟩) ?_
  refine go_call_is (gt := fun _ => Option.none) (unroll := false) 100 [] 11 [] [209] [.bool true] 210 [] [] (inR dkC 15 98) [] [] hW46 (by kernel_rfl) trivial trivial ?_
  intro w47 hW47 _
  refine (wakes_any w47).mono ?_
  rintro x w48 ⟨rfl, k48⟩
  refine ⟨_, rfl, ?_⟩
  exact go_ret (gt := fun _ => Option.none) (unroll := false) 60 [] [.tmp 0] (.bool true) [] [] (hW47.later k48) Try.results6 (by kernel_rfl) trivial trivial (fun w9 hW9 _ => ⟨rfl, hW9.keep⟩)
end Go.Proofs.Ytpnocepepihflaa
namespace Go.Proofs.Ytpnocepepihflaa.lawDhcpKnown
open Go.ChangeShapes Go.WideShapes Go.ChangeAt Go.RowKit

set_option maxRecDepth 100000 in
theorem lifted (os : Os) (started : os.Started) (H : Type) (enc : TypeId × Value → H) :
    ReturnsInHanded {} Try.checked os 6 .any (Rows.dhcpKnownSpec.pre6 enc Try.prog Try.f6 Rows.dhcpKnownRow.domain false) (Rows.dhcpKnownSpec.post enc Try.prog Try.f6 false true false false) := by
  refine returnsInHanded_of_change (C := Try.checked) own started (by kernel_rfl) Try.func6
    (ChangeSpec.witness6 (enc := enc) (C := Try.checked) false ⟨#[], #[], []⟩ 8 (by kernel_rfl) (by kernel_rfl) (by kernel_rfl) (by kernel_rfl)) ?_
  intro W base args ds gs before hval0 hW _ _
  have hval : ∀ (j : Nat) t v, Try.f6.params[j]? = some t → args[j]? = some v → Value.okWide Try.prog W .any base t v := hval0
  have hW' := hW
  obtain ⟨p, q, hA0, hV, rfl, _, _⟩ := hW
  have hA : DataW.TrodAll enc Try.prog W 0 (fun _ => true) true Try.f6.params.toList args.toList ds p := hA0
  rw [Try.params6] at hA hval
  obtain ⟨rfl, rfl, rfl⟩ := trodAll_none hA
  obtain ⟨rfl, rfl⟩ := trodVars_none hV
  clear hA0 hval0
  refine (dhcpknown_walk W).mono fun e W' ⟨he, bel0⟩ => ?_
  have bel := bel0.to_below
  subst he
  exact ⟨_, rfl, _, _, _, [], _, [], hW', trodAll_mk1 (shut_bool Try.underlying4 _), trodAll_mk0, rfl, bel.frame _, fun h => by cases h⟩

theorem over : Rows.dhcpKnownRow.holds Try.pinned (OpenSpec.ofChange Rows.dhcpKnownSpec) :=
  OpenClaim.holds_of_wide 6 Try.f6 rfl rfl rfl rfl rfl rfl rfl ⟨rfl, rfl, rfl, rfl, rfl⟩ rfl rfl rfl rfl rfl (by kernel_rfl) Try.func6 (by kernel_rfl)
    (of_decide_eq_true (by kernel_rfl)) (by unfold Func.isWrapper; first | (rw [if_pos (by decide +kernel)]; kernel_rfl) | (rw [if_neg (by decide +kernel)]; exact ⟨rfl, rfl⟩))
    (fun os started H enc _ => lifted os started H enc)

theorem proved : Rows.DhcpKnownSaid := over
end Go.Proofs.Ytpnocepepihflaa.lawDhcpKnown
