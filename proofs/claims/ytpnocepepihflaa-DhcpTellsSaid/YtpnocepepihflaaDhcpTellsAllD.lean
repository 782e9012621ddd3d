/-
  DhcpTells: for every input the call returns true and each argument reads afterwards as before. No condition.
-/
import Derived.Test.YtpnocepepihflaaDhcpTellsAllC
namespace Go.Proofs.Ytpnocepepihflaa
open Go.RowKit

section
variable {w : World} {h o b : Sb} {l : List Oe} {c : UInt8}
theorem rwide_any (r : RoV true w o.v l) (hl : l.length ≤ 1000000) (hv : (valE c l).length ≤ 1099511627776) : Calls Try.prog 21 #[.agg #[h.v, o.v, b.v], .int .i64 (c.toNat : Int)] w (dnQ w (numR (valE c l))) := by
  refine enter (args := [.agg #[h.v, o.v, b.v], .int .i64 (c.toNat : Int)]) Try.func21 (by kernel_rfl) ?_
  refine go_call_is (gt := fun _ => Option.none) (unroll := false) 60 [] 20 [.agg #[h.v, o.v, b.v], .int .i64 (c.toNat : Int)] [] [] 11 (rvRow w h o b) [] (inR (bodyOf Try.f21) 1 2) [] [] (Wst.start0 w) (by kernel_rfl) trivial trivial ?_
  intro w1 hW1 _
  refine (rvalue_any (h := h) (b := b) (r.keep0 hW1.keep) hl hv).mono ?_
  rintro x w2 ⟨v, rfl, rv, k2, si, un⟩
  refine ⟨_, rfl, ?_⟩
  have hW2 : Wst w ⟨[], w2.heap.size⟩ w2 := (hW1.later k2).fewer (rows := [])
  refine Goal.re (tags := tagL []) (m := ⟨[], w2.heap.size⟩) ?_
  generalize valE c l = bs at *
  by_cases h4 : bs.length = 4
  · have e : numR bs = (be bs, true) := if_pos h4
    rw [e]
    refine go_call_is (gt := fun _ => Option.none) (unroll := false) 60 [(2, 1, .sem (.int .i64 (bs.length : Int))), (2, 2, .is (.bool false))] 45 [v, .int .i64 0] [] [] 18 [] [] (inR (bodyOf Try.f21) 4 1) [(.bool ((bs.length : Int) != 4), .bool false)] [(Builtin.len_ #[22] 3 #[v], .int .i64 (bs.length : Int))] hW2 (by kernel_rfl) ⟨congrArg Value.bool (by simp [h4]), trivial⟩ ⟨fun wx _ => rv.run_len (ty := 3) bt.sl, trivial⟩ ?_
    intro w3 hW3 hS3
    have rv3 : Rd w3 v bs := rv.safe (m := ⟨[], w2.heap.size⟩) (fun b hb => ⟨un b hb, fun _ h => nomatch h⟩) hS3.same
    refine (rnumber_any rv3 h4).mono ?_
    rintro x w4 ⟨rfl, k4⟩
    refine ⟨_, rfl, ?_⟩
    exact go_ret (gt := fun _ => Option.none) (unroll := false) 60 [] [.tmp 4, .tmp 5] (.tuple #[.int .u32 (be bs : Nat), .bool true]) [] [] (hW3.later k4) Try.results21 (by kernel_rfl) trivial trivial (fun w9 hW9 _ => ⟨rfl, hW9.keep⟩)
  · have e : numR bs = (0, false) := if_neg h4
    rw [e]
    exact go_ret (gt := fun _ => Option.none) (unroll := false) 60 [(2, 1, .sem (.int .i64 (bs.length : Int))), (2, 2, .is (.bool true))] [.tmp 4, .tmp 5] (.tuple #[.int .u32 0, .bool false]) [(.bool ((bs.length : Int) != 4), .bool true)] [(Builtin.len_ #[22] 3 #[v], .int .i64 (bs.length : Int))] hW2 Try.results21 (by kernel_rfl)
      ⟨congrArg Value.bool (by simp; omega), trivial⟩ ⟨fun wx _ => rv.run_len (ty := 3) bt.sl, trivial⟩ (fun w9 hW9 _ => ⟨rfl, hW9.keep⟩)
theorem rtype_any (r : RoV true w o.v l) (hl : l.length ≤ 1000000) (hv : (valE 53 l).length ≤ 1099511627776) : Calls Try.prog 24 #[.agg #[h.v, o.v, b.v]] w (dtQ w (typR (valE 53 l))) := by
  refine enter (args := [.agg #[h.v, o.v, b.v]]) Try.func24 (by kernel_rfl) ?_
  refine go_call_is (gt := fun _ => Option.none) (unroll := false) 60 [] 20 [.agg #[h.v, o.v, b.v], .int .i64 53] [] [] 7 (rvRow w h o b) [] (inR (bodyOf Try.f24) 1 1) [] [] (Wst.start0 w) (by kernel_rfl) trivial trivial ?_
  intro w1 hW1 _
  refine (rvalue_any (h := h) (b := b) (c := 53) (r.keep0 hW1.keep) hl hv).mono ?_
  rintro x w2 ⟨v, rfl, rv, k2, si, un⟩
  refine ⟨_, rfl, ?_⟩
  have hW2 : Wst w ⟨[], w2.heap.size⟩ w2 := (hW1.later k2).fewer (rows := [])
  refine Goal.re (tags := tagL []) (m := ⟨[], w2.heap.size⟩) ?_
  generalize valE 53 l = bs at *
  have ld : ∀ (hn : 0 < bs.length) (wx : World), (∀ k, Safe ⟨[], w2.heap.size⟩ k → wx.heap[k]? = w2.heap[k]?) → (Instr.loadAt 5 (.pointer (some (adr v 0)))).run Try.prog wx = .ok (bv (byteAt bs 0)) wx := fun hn wx hx => (rv.safe (m := ⟨[], w2.heap.size⟩) (fun b hb => ⟨un b hb, fun _ h => nomatch h⟩) hx).sem_ld (i := 0) hn
  by_cases h1 : bs.length = 1
  · by_cases h8 : (byteAt bs 0).toNat ≤ 8
    · have e : typR bs = (byteAt bs 0).toNat := if_pos ⟨h1, h8⟩
      rw [e]
      by_cases h0 : (byteAt bs 0).toNat = 0
      · rw [h0]
        exact go_ret (gt := fun _ => Option.none) (unroll := false) 60 [(2, 1, .sem (.int .i64 (bs.length : Int))), (2, 2, .is (.bool true)), (2, 5, .sem (.pointer (some (adr v 0)))), (2, 6, .sem (bv (byteAt bs 0))), (2, 7, .is (.bool false))] [.tmp 2] (.int .i64 0)
          [(.bool ((bs.length : Int) == 1), .bool true), (.bool (decide (((byteAt bs 0).toNat : Int) ≥ 1)), .bool false)]
          [(Builtin.len_ #[22] 3 #[v], .int .i64 (bs.length : Int)), (Instr.indexAt 22 v (.int .i64 0), .pointer (some (adr v 0))), (Instr.loadAt 5 (.pointer (some (adr v 0))), bv (byteAt bs 0))]
          hW2 Try.results24 (by kernel_rfl) ⟨congrArg Value.bool (by simp [h1]), congrArg Value.bool (decide_eq_false (by omega)), trivial⟩
          ⟨fun wx _ => rv.run_len (ty := 3) bt.sl, fun wx _ => rv.sem_at (i := 0) (by omega) wx, ld (by omega), trivial⟩ (fun w9 hW9 _ => ⟨rfl, hW9.keep⟩)
      exact go_ret (gt := fun _ => Option.none) (unroll := false) 60 [(2, 1, .sem (.int .i64 (bs.length : Int))), (2, 2, .is (.bool true)), (2, 5, .sem (.pointer (some (adr v 0)))), (2, 6, .sem (bv (byteAt bs 0))), (2, 7, .is (.bool true)), (2, 11, .sem (.pointer (some (adr v 0)))), (2, 12, .sem (bv (byteAt bs 0))), (2, 13, .is (.bool true)), (3, 1, .sem (.pointer (some (adr v 0)))), (3, 2, .sem (bv (byteAt bs 0))), (3, 3, .is (.int .i64 ((byteAt bs 0).toNat : Int)))] [.tmp 2] (.int .i64 ((byteAt bs 0).toNat : Int))
        [(.bool ((bs.length : Int) == 1), .bool true), (.bool (decide (((byteAt bs 0).toNat : Int) ≥ 1)), .bool true), (.bool (decide (((byteAt bs 0).toNat : Int) ≤ 8)), .bool true), (.int .i64 (IntKind.i64.wrap ((byteAt bs 0).toNat : Int)), .int .i64 ((byteAt bs 0).toNat : Int))]
        [(Builtin.len_ #[22] 3 #[v], .int .i64 (bs.length : Int)), (Instr.indexAt 22 v (.int .i64 0), .pointer (some (adr v 0))), (Instr.loadAt 5 (.pointer (some (adr v 0))), bv (byteAt bs 0)), (Instr.indexAt 22 v (.int .i64 0), .pointer (some (adr v 0))), (Instr.loadAt 5 (.pointer (some (adr v 0))), bv (byteAt bs 0)), (Instr.indexAt 22 v (.int .i64 0), .pointer (some (adr v 0))), (Instr.loadAt 5 (.pointer (some (adr v 0))), bv (byteAt bs 0))]
        hW2 Try.results24 (by kernel_rfl) ⟨congrArg Value.bool (by simp [h1]), congrArg Value.bool (decide_eq_true (by omega)), congrArg Value.bool (decide_eq_true (by omega)), congrArg (Value.int .i64) (i64_small (by omega) (by omega)), trivial⟩
        ⟨fun wx _ => rv.run_len (ty := 3) bt.sl, fun wx _ => rv.sem_at (i := 0) (by omega) wx, ld (by omega), fun wx _ => rv.sem_at (i := 0) (by omega) wx, ld (by omega), fun wx _ => rv.sem_at (i := 0) (by omega) wx, ld (by omega), trivial⟩ (fun w9 hW9 _ => ⟨rfl, hW9.keep⟩)
    · have e : typR bs = 0 := if_neg (fun h => h8 h.2)
      rw [e]
      exact go_ret (gt := fun _ => Option.none) (unroll := false) 60 [(2, 1, .sem (.int .i64 (bs.length : Int))), (2, 2, .is (.bool true)), (2, 5, .sem (.pointer (some (adr v 0)))), (2, 6, .sem (bv (byteAt bs 0))), (2, 7, .is (.bool true)), (2, 11, .sem (.pointer (some (adr v 0)))), (2, 12, .sem (bv (byteAt bs 0))), (2, 13, .is (.bool false))] [.tmp 2] (.int .i64 0)
        [(.bool ((bs.length : Int) == 1), .bool true), (.bool (decide (((byteAt bs 0).toNat : Int) ≥ 1)), .bool true), (.bool (decide (((byteAt bs 0).toNat : Int) ≤ 8)), .bool false)]
        [(Builtin.len_ #[22] 3 #[v], .int .i64 (bs.length : Int)), (Instr.indexAt 22 v (.int .i64 0), .pointer (some (adr v 0))), (Instr.loadAt 5 (.pointer (some (adr v 0))), bv (byteAt bs 0)), (Instr.indexAt 22 v (.int .i64 0), .pointer (some (adr v 0))), (Instr.loadAt 5 (.pointer (some (adr v 0))), bv (byteAt bs 0))]
        hW2 Try.results24 (by kernel_rfl) ⟨congrArg Value.bool (by simp [h1]), congrArg Value.bool (decide_eq_true (by omega)), congrArg Value.bool (decide_eq_false (by omega)), trivial⟩
        ⟨fun wx _ => rv.run_len (ty := 3) bt.sl, fun wx _ => rv.sem_at (i := 0) (by omega) wx, ld (by omega), fun wx _ => rv.sem_at (i := 0) (by omega) wx, ld (by omega), trivial⟩ (fun w9 hW9 _ => ⟨rfl, hW9.keep⟩)
  · have e : typR bs = 0 := if_neg (fun h => h1 h.1)
    rw [e]
    exact go_ret (gt := fun _ => Option.none) (unroll := false) 60 [(2, 1, .sem (.int .i64 (bs.length : Int))), (2, 2, .is (.bool false))] [.tmp 2] (.int .i64 0) [(.bool ((bs.length : Int) == 1), .bool false)] [(Builtin.len_ #[22] 3 #[v], .int .i64 (bs.length : Int))] hW2 Try.results24 (by kernel_rfl)
      ⟨congrArg Value.bool (by simp; omega), trivial⟩ ⟨fun wx _ => rv.run_len (ty := 3) bt.sl, trivial⟩ (fun w9 hW9 _ => ⟨rfl, hW9.keep⟩)
end
end Go.Proofs.Ytpnocepepihflaa
namespace Go.Proofs.Ytpnocepepihflaa
open Go.RowKit

/-- What lies in the pad, call by call. -/
def dbB1 (m : Mh) : Nat → List UInt8
  | 0 => []
  | 1 => [m.op]
  | 2 => [m.op] ++ [262].flatMap bytes2
  | 3 => [m.op] ++ [262].flatMap bytes2 ++ [m.hops]
  | 4 => [m.op] ++ [262].flatMap bytes2 ++ [m.hops] ++ [m.xid].flatMap bytes4
  | _ => [m.op] ++ [262].flatMap bytes2 ++ [m.hops] ++ [m.xid].flatMap bytes4 ++ [m.secs, m.flags].flatMap bytes2
def dbB2 (m : Mh) : Nat → List UInt8
  | 0 => hd1 m
  | 1 => hd1 m ++ (ips m).flatMap bytes4
  | _ => hd1 m ++ (ips m).flatMap bytes4 ++ [m.station].flatMap macL
def dbB3 (m : Mh) : Nat → List UInt8
  | 0 => hd2 m ++ tk 6 m.station
  | 1 => hd2 m ++ tk 6 m.station ++ tk 10 m.pad
  | 2 => hd2 m ++ tk 6 m.station ++ tk 10 m.pad ++ tk 64 m.server
  | 3 => headL m
  | _ => headL m ++ [1669485411].flatMap bytes4
def cookL : List UInt8 := [99, 130, 83, 99]
theorem dbB1_all (m : Mh) : dbB1 m 5 = hd1 m := by kernel_rfl
theorem dbB2_all (m : Mh) : dbB2 m 2 = hd2 m ++ tk 6 m.station := by
  show hd1 m ++ (ips m).flatMap bytes4 ++ [m.station].flatMap macL = _
  rfl
theorem dbB3_all (m : Mh) : dbB3 m 4 = headL m ++ cookL := rfl
theorem dbB1_len (m : Mh) : ∀ k, (dbB1 m k).length ≤ 12
  | 0 => by show 0 ≤ 12; omega
  | 1 => by show 1 ≤ 12; omega
  | 2 => by show 3 ≤ 12; omega
  | 3 => by show 4 ≤ 12; omega
  | 4 => by show 8 ≤ 12; omega
  | k + 5 => by show 12 ≤ 12; omega
theorem dbB2_len (m : Mh) : ∀ k, (dbB2 m k).length ≤ 34
  | 0 => by show 12 ≤ 34; omega
  | 1 => by show 28 ≤ 34; omega
  | k + 2 => by show 34 ≤ 34; omega
theorem dbB3_len (m : Mh) : ∀ k, (dbB3 m k).length ≤ 240
  | 0 => by simp [dbB3, hd2_len, tk_length]
  | 1 => by simp [dbB3, hd2_len, tk_length]
  | 2 => by simp [dbB3, hd2_len, tk_length]
  | 3 => by simp [dbB3, headL_len]
  | k + 4 => by
    show (headL m ++ cookL).length ≤ 240
    rw [List.length_append, headL_len]
    decide
noncomputable abbrev dbC : Code := bodyOf Try.f13
noncomputable abbrev dbN : Nat := Try.f13.ntmps
abbrev dbR (w : World) (m : Mh) (so sb : Sb) : List RowS := [⟨w.heap.size, (m.a so.v sb.v).toList, true⟩]
section
variable {w : World} {m : Mh} {so sb : Sb} {R : Ending → World → Prop}
theorem db_loose {p : Nat} {sv : Value} (hp : w.heap.size < p) (hs : Since (w.heap.size + 1) sv) {wx : World} : Loose w ⟨dbR w m so sb, wx.heap.size⟩ (Foot p sv) := fun k hk => by
  have h1 : w.heap.size < k := by
    rcases hk with rfl | hk
    · exact hp
    · exact hs k hk
  refine ⟨Nat.le_of_lt h1, fun r hr => ?_⟩
  obtain rfl := List.mem_singleton.1 hr
  show w.heap.size ≠ k
  omega
theorem nums1 {n x : Nat} (h : x < n) : ∀ i, i < [x].length → [x].getD i 0 < n := fun i hi => by obtain rfl : i = 0 := (by simpa using hi); exact h
set_option maxRecDepth 8000 in
theorem db_region3 (ok : OkM m) {w3 : World} (hW3 : Wst w ⟨dbR w m so sb, w3.heap.size⟩ w3)
    (hk : ∀ (p : Nat) (sv : Value) w6, Wst w ⟨dbR w m so sb, w6.heap.size⟩ w6 → Pd w6 p sv (hd1 m) → w.heap.size < p → Since (w.heap.size + 1) sv → Goal Try.prog (bodyPost Try.prog Try.f13 R) dbN ⟨frOf [1, 4] [pT w.heap.size, pT p], tagL [(1, 0)], ⟨dbR w m so sb, w6.heap.size⟩, afterR dbC 3⟩ w6) :
    Goal Try.prog (bodyPost Try.prog Try.f13 R) dbN ⟨frOf [1] [pT w.heap.size], tagL [(1, 0)], ⟨dbR w m so sb, w3.heap.size⟩, atR dbC 3⟩ w3 := by
  have hlt : w.heap.size < w3.heap.size := by
    obtain ⟨t, ht⟩ := hW3.rows ⟨w.heap.size, (m.a so.v sb.v).toList, true⟩ (by simp)
    exact block_of_row ht
  refine drawnM_ok (S0 := No) (gt := fun _ => Option.none) (D := PadD (dbB1 m) w3) (g0 := noGh)
    [(0, .loud padS), (3, .new (frB w3.heap.size [m.op])), (4, .loud padS), (5, .new (rowS 1 [262].length (fun i => .int .u16 (([262] : List Nat).getD i 0 : Nat)))), (6, .loud padS), (9, .new (frB w3.heap.size [m.hops])), (10, .loud padS), (13, .new (rowS 1 [m.xid].length (fun i => .int .u32 (([m.xid] : List Nat).getD i 0 : Nat)))), (14, .loud padS), (19, .new (rowS 1 [m.secs, m.flags].length (fun i => .int .u16 (([m.secs, m.flags] : List Nat).getD i 0 : Nat)))), (20, .loud padS), (21, .by padS)]
    [1, 4] [.is (pT w.heap.size), padS]
    (LoudM Try.prog No w3 (PadD (dbB1 m) w3) 0 30 [] padS ∧ True ∧ True ∧
      NewM Try.prog No w3 (Instr.buildSlice 22 1 #[(0, bv m.op)]) (frB w3.heap.size [m.op]) ∧
      LoudM Try.prog No w3 (PadD (dbB1 m) w3) 1 31 [padS, frB w3.heap.size [m.op]] padS ∧
      NewM Try.prog No w3 (Instr.buildSlice 96 1 #[(0, .int .u16 262)]) (rowS 1 [262].length (fun i => .int .u16 (([262] : List Nat).getD i 0 : Nat))) ∧
      LoudM Try.prog No w3 (PadD (dbB1 m) w3) 2 32 [padS, rowS 1 [262].length (fun i => .int .u16 (([262] : List Nat).getD i 0 : Nat))] padS ∧ True ∧ True ∧
      NewM Try.prog No w3 (Instr.buildSlice 22 1 #[(0, bv m.hops)]) (frB w3.heap.size [m.hops]) ∧
      LoudM Try.prog No w3 (PadD (dbB1 m) w3) 3 31 [padS, frB w3.heap.size [m.hops]] padS ∧ True ∧ True ∧
      NewM Try.prog No w3 (Instr.buildSlice 97 1 #[(0, .int .u32 m.xid)]) (rowS 1 [m.xid].length (fun i => .int .u32 (([m.xid] : List Nat).getD i 0 : Nat))) ∧
      LoudM Try.prog No w3 (PadD (dbB1 m) w3) 4 33 [padS, rowS 1 [m.xid].length (fun i => .int .u32 (([m.xid] : List Nat).getD i 0 : Nat))] padS ∧ True ∧ True ∧ True ∧ True ∧
      NewM Try.prog No w3 (Instr.buildSlice 96 2 #[(0, .int .u16 m.secs), (1, .int .u16 m.flags)]) (rowS 1 [m.secs, m.flags].length (fun i => .int .u16 (([m.secs, m.flags] : List Nat).getD i 0 : Nat))) ∧
      LoudM Try.prog No w3 (PadD (dbB1 m) w3) 5 32 [padS, rowS 1 [m.secs, m.flags].length (fun i => .int .u16 (([m.secs, m.flags] : List Nat).getD i 0 : Nat))] padS ∧
      ByM Try.prog No w3 (.assign (.tmp 30)) 72 [(30, padS)] padS ∧ True)
    6 (afterR dbC 3) hW3 (fun _ h => h.elim) (by kernel_rfl) (by kernel_rfl) (by kernel_rfl) PadD.keep (noGh_base w3) (noGh_D w3)
    ⟨loud_lay rfl, trivial, trivial, frB_new rfl (by simp [maxLen]) (fun _ => by kernel_rfl), loud_byteN (r := 0) rfl (by have := dbB1_len m 0; simp only [List.length_cons, List.length_nil]; omega),
      new_row (cs := [.int .u16 262]) (by simp [maxLen]) (fun _ => by kernel_rfl) (fun j hj => by obtain rfl : j = 0 := (by simpa using hj); rfl), loud_two (r := 1) (xs := [262]) rfl (by have := dbB1_len m 1; simp only [List.length_cons, List.length_nil]; omega) (nums1 (by omega)), trivial, trivial,
      frB_new rfl (by simp [maxLen]) (fun _ => by kernel_rfl), loud_byteN (r := 2) rfl (by have := dbB1_len m 2; simp only [List.length_cons, List.length_nil]; omega), trivial, trivial,
      new_row (cs := [.int .u32 m.xid]) (by simp [maxLen]) (fun _ => by kernel_rfl) (fun j hj => by obtain rfl : j = 0 := (by simpa using hj); rfl), loud_four (r := 3) (xs := [m.xid]) rfl (by have := dbB1_len m 3; simp only [List.length_cons, List.length_nil]; omega) (nums1 ok.xid), trivial, trivial, trivial, trivial,
      new_row (cs := [.int .u16 m.secs, .int .u16 m.flags]) (by simp [maxLen]) (fun _ => by kernel_rfl) (fun j hj => by have : j = 0 ∨ j = 1 := (by simp at hj; omega); rcases this with rfl | rfl <;> rfl), loud_two (r := 4) (xs := [m.secs, m.flags]) rfl (by have := dbB1_len m 4; simp only [List.length_cons, List.length_nil]; omega) (fun i hi => by have : i = 0 ∨ i = 1 := (by simp at hi; omega); rcases this with rfl | rfl; (· exact ok.secs); (· exact ok.flags)), by_assign, trivial⟩ ?_
  intro g w6 vs k6 _ hd hok
  match vs, hok with
  | [x1, x2], ⟨h1, h2, _⟩ =>
  obtain rfl : x1 = _ := h1
  obtain ⟨_, p, sv, hv, hpd, _, hp, hs⟩ := hd
  obtain rfl : x2 = pT p := h2.2.trans hv
  rw [dbB1_all] at hpd
  exact hk p sv w6 (hW3.later k6) hpd (by omega) (hs.mono hlt)
set_option maxRecDepth 8000 in
theorem db_region4 (ok : OkM m) {p : Nat} {sv : Value} {w3 : World} (hW3 : Wst w ⟨dbR w m so sb, w3.heap.size⟩ w3) (pd : Pd w3 p sv (hd1 m)) (hp : w.heap.size < p) (hs : Since (w.heap.size + 1) sv)
    (hk : ∀ (sv : Value) w6, Wst w ⟨dbR w m so sb, w6.heap.size⟩ w6 → Pd w6 p sv (hd2 m ++ tk 6 m.station) → Since (w.heap.size + 1) sv → Goal Try.prog (bodyPost Try.prog Try.f13 R) dbN ⟨frOf [1, 4] [pT w.heap.size, pT p], tagL [(1, 0)], ⟨dbR w m so sb, w6.heap.size⟩, afterR dbC 4⟩ w6) :
    Goal Try.prog (bodyPost Try.prog Try.f13 R) dbN ⟨frOf [1, 4] [pT w.heap.size, pT p], tagL [(1, 0)], ⟨dbR w m so sb, w3.heap.size⟩, atR dbC 4⟩ w3 := by
  have hlt : w.heap.size < w3.heap.size := by
    obtain ⟨t, ht⟩ := hW3.rows ⟨w.heap.size, (m.a so.v sb.v).toList, true⟩ (by simp)
    exact block_of_row ht
  refine drawnM_ok (S0 := Foot p sv) (gt := fun _ => Option.none) (D := PadE (dbB2 m) p sv w3) (g0 := gE p sv)
    [(9, .new (rowS 1 (ips m).length (fun i => .int .u32 ((ips m).getD i 0 : Nat)))), (10, .loud padS), (13, .new (rowS 6 [m.station].length (fun j => .int .u8 ((byteAt (([m.station] : List (List UInt8)).getD (j / 6) []) (j % 6)).toNat : Int)))), (14, .loud padS)]
    [1, 4] [.is (pT w.heap.size), .is (pT p)]
    (True ∧ True ∧ True ∧ True ∧ True ∧ True ∧ True ∧ True ∧ True ∧
      NewM Try.prog (Foot p sv) w3 (Instr.buildSlice 97 4 #[(0, .int .u32 m.client), (1, .int .u32 m.yours), (2, .int .u32 m.next), (3, .int .u32 m.relay)]) (rowS 1 (ips m).length (fun i => .int .u32 ((ips m).getD i 0 : Nat))) ∧
      LoudM Try.prog (Foot p sv) w3 (PadE (dbB2 m) p sv w3) 0 33 [.is (pT p), rowS 1 (ips m).length (fun i => .int .u32 ((ips m).getD i 0 : Nat))] padS ∧ True ∧ True ∧
      NewM Try.prog (Foot p sv) w3 (Instr.buildSlice 98 1 #[(0, .agg #[bv (byteAt m.station 0), bv (byteAt m.station 1), bv (byteAt m.station 2), bv (byteAt m.station 3), bv (byteAt m.station 4), bv (byteAt m.station 5)])]) (rowS 6 [m.station].length (fun j => .int .u8 ((byteAt (([m.station] : List (List UInt8)).getD (j / 6) []) (j % 6)).toNat : Int))) ∧
      LoudM Try.prog (Foot p sv) w3 (PadE (dbB2 m) p sv w3) 1 34 [padS, rowS 6 [m.station].length (fun j => .int .u8 ((byteAt (([m.station] : List (List UInt8)).getD (j / 6) []) (j % 6)).toNat : Int))] padS ∧ True)
    2 (afterR dbC 4) hW3 (db_loose hp hs) (by kernel_rfl) (by kernel_rfl) (by kernel_rfl) PadE.keep (gE_base pd) (gE_D pd)
    ⟨trivial, trivial, trivial, trivial, trivial, trivial, trivial, trivial, trivial,
      new_row (cs := [.int .u32 m.client, .int .u32 m.yours, .int .u32 m.next, .int .u32 m.relay]) (by show 4 ≤ maxLen; simp [maxLen]) (fun _ => by kernel_rfl) (fun j hj => by have hj : j < 4 := hj; have : j = 0 ∨ j = 1 ∨ j = 2 ∨ j = 3 := (by omega); rcases this with rfl | rfl | rfl | rfl <;> rfl),
      loudE_four rfl (by have := dbB2_len m 0; show (dbB2 m 0).length + 4 * 4 ≤ _; omega) (fun i hi => by have hi : i < 4 := hi; have : i = 0 ∨ i = 1 ∨ i = 2 ∨ i = 3 := (by omega); rcases this with rfl | rfl | rfl | rfl; (· exact ok.client); (· exact ok.yours); (· exact ok.next); (· exact ok.relay)) pE_is, trivial, trivial,
      new_row (cs := bvs (macL m.station)) (by simp [maxLen]) (fun _ => by kernel_rfl) (fun j hj => by have : j = 0 ∨ j = 1 ∨ j = 2 ∨ j = 3 ∨ j = 4 ∨ j = 5 := (by simp at hj; omega); rcases this with rfl | rfl | rfl | rfl | rfl | rfl <;> rfl),
      loudE_mac rfl (by have := dbB2_len m 1; simp only [List.length_cons, List.length_nil]; omega) pE_pad, trivial⟩ ?_
  intro g w6 vs k6 _ hd hok
  obtain rfl := allOkM_is (vs := [pT w.heap.size, pT p]) hok
  obtain ⟨_, _, sv', pd', _, hla⟩ := hd
  rw [dbB2_all] at pd'
  exact hk sv' w6 (hW3.laterS k6 (db_loose hp hs)) pd' (of_since hs hla hlt)
set_option maxRecDepth 8000 in
theorem db_region5 {p : Nat} {sv : Value} {w3 : World} (hW3 : Wst w ⟨dbR w m so sb, w3.heap.size⟩ w3) (pd : Pd w3 p sv (hd2 m ++ tk 6 m.station)) (hp : w.heap.size < p) (hs : Since (w.heap.size + 1) sv)
    (hk : ∀ (sv : Value) w6, Wst w ⟨dbR w m so sb, w6.heap.size⟩ w6 → Pd w6 p sv (headL m ++ cookL) → Since (w.heap.size + 1) sv → Goal Try.prog (bodyPost Try.prog Try.f13 R) dbN ⟨frOf [1, 4] [pT w.heap.size, pT p], tagL [(1, 0)], ⟨dbR w m so sb, w6.heap.size⟩, afterR dbC 5⟩ w6) :
    Goal Try.prog (bodyPost Try.prog Try.f13 R) dbN ⟨frOf [1, 4] [pT w.heap.size, pT p], tagL [(1, 0)], ⟨dbR w m so sb, w3.heap.size⟩, atR dbC 5⟩ w3 := by
  have hlt : w.heap.size < w3.heap.size := by
    obtain ⟨t, ht⟩ := hW3.rows ⟨w.heap.size, (m.a so.v sb.v).toList, true⟩ (by simp)
    exact block_of_row ht
  have src : ∀ {off n : Nat} {ys : List UInt8}, (((m.a so.v sb.v).toList).drop off).take n = bvs ys → ys.length = n → n ≤ 128 → ∀ (wx : World), Keep (Foot p sv) w3 wx → Rd wx (.slice (some ⟨w.heap.size, off, none⟩) n n) ys := fun h1 h2 h3 wx hk =>
    Rd.part (hW3.laterS hk (db_loose hp hs)) (cs := (m.a so.v sb.v).toList) (ow := true) (by simp) h1 h2 (by simp only [maxLen]; omega)
  refine drawnM_ok (S0 := Foot p sv) (gt := fun _ => Option.none) (D := PadE (dbB3 m) p sv w3) (g0 := gE p sv)
    [(3, .loud padS), (6, .loud padS), (9, .loud padS), (10, .new (rowS 1 [1669485411].length (fun i => .int .u32 (([1669485411] : List Nat).getD i 0 : Nat)))), (11, .loud padS)]
    [1, 4] [.is (pT w.heap.size), .is (pT p)]
    (True ∧ True ∧ True ∧
      LoudM Try.prog (Foot p sv) w3 (PadE (dbB3 m) p sv w3) 0 31 [.is (pT p), .is (.slice (some ⟨w.heap.size, 15, none⟩) 10 10)] padS ∧ True ∧ True ∧
      LoudM Try.prog (Foot p sv) w3 (PadE (dbB3 m) p sv w3) 1 31 [padS, .is (.slice (some ⟨w.heap.size, 25, none⟩) 64 64)] padS ∧ True ∧ True ∧
      LoudM Try.prog (Foot p sv) w3 (PadE (dbB3 m) p sv w3) 2 31 [padS, .is (.slice (some ⟨w.heap.size, 89, none⟩) 128 128)] padS ∧
      NewM Try.prog (Foot p sv) w3 (Instr.buildSlice 97 1 #[(0, .int .u32 1669485411)]) (rowS 1 [1669485411].length (fun i => .int .u32 (([1669485411] : List Nat).getD i 0 : Nat))) ∧
      LoudM Try.prog (Foot p sv) w3 (PadE (dbB3 m) p sv w3) 3 33 [padS, rowS 1 [1669485411].length (fun i => .int .u32 (([1669485411] : List Nat).getD i 0 : Nat))] padS ∧ True)
    4 (afterR dbC 5) hW3 (db_loose hp hs) (by kernel_rfl) (by kernel_rfl) (by kernel_rfl) PadE.keep (gE_base pd) (gE_D pd)
    ⟨trivial, trivial, trivial, loudE_byte rfl (by have := dbB3_len m 0; rw [tk_length]; omega) pE_is (pE_old (src (pt_pad m _ _) (tk_length _ _) (by omega))), trivial, trivial,
      loudE_byte rfl (by have := dbB3_len m 1; rw [tk_length]; omega) pE_pad (pE_old (src (pt_server m _ _) (tk_length _ _) (by omega))), trivial, trivial,
      loudE_byte rfl (by have := dbB3_len m 2; rw [tk_length]; omega) pE_pad (pE_old (src (pt_file m _ _) (tk_length _ _) (by omega))),
      new_row (cs := [.int .u32 1669485411]) (by simp [maxLen]) (fun _ => by kernel_rfl) (fun j hj => by obtain rfl : j = 0 := (by simpa using hj); rfl),
      loudE_four rfl (by have := dbB3_len m 3; simp only [List.length_cons, List.length_nil]; omega) (nums1 (by omega)) pE_pad, trivial⟩ ?_
  intro g w6 vs k6 _ hd hok
  obtain rfl := allOkM_is (vs := [pT w.heap.size, pT p]) hok
  obtain ⟨_, _, sv', pd', _, hla⟩ := hd
  rw [dbB3_all] at pd'
  exact hk sv' w6 (hW3.laterS k6 (db_loose hp hs)) pd' (of_since hs hla hlt)
end
end Go.Proofs.Ytpnocepepihflaa
namespace Go.Proofs.Ytpnocepepihflaa
open Go.RowKit

/-- May an option be told? -/
def mayP (x : Opt) : Bool := x.1 != 0 && (x.1 != 255 && decide (x.2.length ≤ 255))
theorem mayO_o (e : Oe) : mayO e = mayP e.o := rfl
def optB1 (x : Opt) : List UInt8 := x.1 :: UInt8.ofNat x.2.length :: x.2
def optB (l : List Opt) : List UInt8 := l.flatMap optB1
/-- A message's bytes, of its head and what it bears. -/
def bytesH (h : List UInt8) (op : UInt8) (l : List Opt) (bh : List UInt8) : Option (List UInt8) := if (op == 1 || op == 2) = true then if l.all mayP then some (h ++ cookL ++ optB l ++ 255 :: bh) else none else none
theorem optB_len : ∀ (l : List Opt), l.all mayP = true → (optB l).length ≤ 257 * l.length
  | [], _ => by simp [optB]
  | x :: l, h => by
    simp only [List.all_cons, Bool.and_eq_true] at h
    have h1 := optB_len l h.2
    have h2 : x.2.length ≤ 255 := by
      have := h.1
      simp only [mayP, Bool.and_eq_true, decide_eq_true_eq] at this
      exact this.2.2
    simp only [optB, List.flatMap_cons, List.length_append, optB1, List.length_cons] at h1 ⊢
    omega
/-- What Bytes leaves. -/
def dbQ (w : World) (r : Option (List UInt8)) : Ending → World → Prop := fun x w' => Keep No w w' ∧ match r with
  | some bs => ∃ v, x = .returned (.tuple #[v, .int .i64 0]) ∧ NewB w.heap.size w' v bs
  | none => x = .returned (.tuple #[nilV, .int .i64 1])
structure DbI where
  j : Nat
  sv : Value
noncomputable def dbL (w : World) (m : Mh) (so sb : Sb) (p n : Nat) (i : DbI) (w' : World) : Cfg := ⟨frOf [1, 4, 59, 60, 61] [pT w.heap.size, pT p, so.v, .int .i64 (n : Int), .int .i64 ((n - i.j : Nat) : Int)], tagL [(1, 0)], ⟨dbR w m so sb, w'.heap.size⟩, atL dbC 7⟩
structure DbJ (w : World) (m : Mh) (so sb : Sb) (p : Nat) (l : List Oe) (i : DbI) (w' : World) : Prop where
  le : i.j ≤ l.length
  W : Wst w ⟨dbR w m so sb, w'.heap.size⟩ w'
  pd : Pd w' p i.sv (headL m ++ cookL ++ optB ((l.take (l.length - i.j)).map Oe.o))
  si : Since (w.heap.size + 1) i.sv
  all : ((l.take (l.length - i.j)).map Oe.o).all mayP = true
noncomputable def dbX (w : World) (m : Mh) (so sb : Sb) (p : Nat) (l : List Oe) (i : DbI) : Act → World → Prop := fun a' w' => ∃ k : DbI, k.j < i.j ∧ DbJ w m so sb p l k w' ∧ agrees dbN (dbL w m so sb p l.length k w') a'
/-- Behind each of two calls. -/
def dbB4 (b y z : List UInt8) : Nat → List UInt8
  | 0 => b
  | 1 => b ++ y
  | _ => b ++ y ++ z
def dbB5 (b y z : List UInt8) : Nat → List UInt8
  | 0 => b
  | 1 => b ++ y
  | 2 => b ++ y ++ z
  | _ => b ++ y ++ z
section
variable {w : World} {m : Mh} {so sb : Sb} {l : List Oe} {bh : List UInt8}
theorem db_no (hop : (m.op == 1 || m.op == 2) = true) {e : Oe} (he : e ∈ l) (h : mayO e = false) : bytesH (headL m) m.op (l.map Oe.o) bh = none := by
  unfold bytesH
  rw [if_pos hop, if_neg]
  intro hc
  have := List.all_eq_true.1 hc e.o (List.mem_map_of_mem he)
  rw [← mayO_o, h] at this
  cases this
theorem db_round (hop : (m.op == 1 || m.op == 2) = true) (r : RoV false w so.v l) (hl : l.length ≤ 1000000) {p : Nat} (hp : w.heap.size < p) (i : DbI) (w' : World) (hJ : DbJ w m so sb p l i w') (j : Nat) (hj : i.j = j + 1) :
    Goal Try.prog (bodyPost Try.prog Try.f13 (dbQ w (bytesH (headL m) m.op (l.map Oe.o) bh))) dbN { dbL w m so sb p l.length i w' with todo := .code (loopOf (atL dbC 7)) :: .inv (dbX w m so sb p l i) :: (atL dbC 7).tail } w' := by
  obtain ⟨hle, hW, pd, si, all⟩ := hJ
  unfold dbL
  rw [hj] at hle pd all ⊢
  simp only
  obtain ⟨q, hq⟩ : ∃ q, l.length - (j + 1) = q := ⟨_, rfl⟩
  rw [hq] at pd all ⊢
  have hql : q < l.length := by omega
  have hnext : l.length - j = q + 1 := by omega
  have hsn : l.take (q + 1) = l.take q ++ [l[q]] := List.take_succ_eq_append_getElem hql
  have hmem := List.getElem_mem hql
  have rq := r.each l[q] hmem
  have hld : ∀ wx, (∀ k, Safe ⟨dbR w m so sb, w'.heap.size⟩ k → wx.heap[k]? = w'.heap[k]?) → (Instr.loadAt 24 (.pointer (some (ad2 so.v q)))).run Try.prog wx = .ok (.agg ((l[q]).a false)) wx := fun wx hx => (r.ro.walk hW hx).sem_ld E2o hql
  obtain ⟨e, he⟩ : ∃ e, l[q] = e := ⟨_, rfl⟩
  rw [he] at hld hsn rq hmem
  have hci : decide ((q : Int) < (l.length : Int)) = true := decide_eq_true (by omega)
  have hinc : IntKind.i64.wrap ((q : Int) + 1) = ((q + 1 : Nat) : Int) := by rw [IntWalk.i64_in _ (by omega)]; omega
  have hol := optB_len _ all
  rw [List.length_map, List.length_take] at hol
  have hbl : (headL m ++ cookL ++ optB ((l.take q).map Oe.o)).length ≤ 240 + 257 * 1000000 := by
    rw [List.length_append, List.length_append, headL_len]
    show 236 + 4 + _ ≤ _
    omega
  obtain ⟨bs, hbs⟩ : ∃ bs, headL m ++ cookL ++ optB ((l.take q).map Oe.o) = bs := ⟨_, rfl⟩
  rw [hbs] at pd hbl
  have hrw : ∀ (z : Value) (n : Nat) (cs : List Value), Since (w.heap.size + 1) z → Under n z → p < n → ∀ r ∈ dbR w m so sb ++ [⟨n, cs, true⟩], r.b ≠ p ∧ z.ownBlock ≠ some r.b := fun z n cs hz hu hpn r hr => by
    simp only [List.cons_append, List.nil_append, List.mem_cons, List.not_mem_nil, or_false] at hr
    rcases hr with rfl | rfl
    · exact ⟨fun e => by have : w.heap.size = p := e; omega, fun e => by have := hz _ e; have : w.heap.size + 1 ≤ w.heap.size := this; omega⟩
    · exact ⟨fun e => by have : n = p := e; omega, fun e => Nat.lt_irrefl _ (hu _ e)⟩
  have hrow1 : ∀ r ∈ dbR w m so sb, r.own = true → r.b ≠ p ∧ i.sv.ownBlock ≠ some r.b := fun r hr _ => by
    obtain rfl := List.mem_singleton.1 hr
    exact ⟨fun e => by have : w.heap.size = p := e; omega, fun e => by have := si _ e; have : w.heap.size + 1 ≤ w.heap.size := this; omega⟩
  have hpw := pd.lt
  have huw : Under w'.heap.size i.sv := pd.own.lt
  refine go_call_is (gt := fun _ => Option.none) (unroll := false) 60 [(7, 0, .is (.bool true)), (8, 0, .sem (.pointer (some (ad2 so.v q)))), (8, 1, .sem (.agg (e.a false)))] 35 [.agg (e.a false)] [1, 4, 6, 59, 60, 61] [pT w.heap.size, pT p, pT w'.heap.size, so.v, .int .i64 (l.length : Int), .int .i64 (q : Int)] 66 (dbR w m so sb ++ [⟨w'.heap.size, (e.a false).toList, true⟩]) [(1, 0), (6, 1)] (inR dbC 9 1 (.inv (dbX w m so sb p l i)))
    [(.bool (decide ((q : Int) < (l.length : Int))), .bool true)] [(Instr.indexAt 25 so.v (.int .i64 (q : Int)), .pointer (some (ad2 so.v q))), (Instr.loadAt 24 (.pointer (some (ad2 so.v q))), .agg (e.a false))] hW (by kernel_rfl) ⟨congrArg Value.bool hci, trivial⟩ ⟨fun wx _ => r.ro.sem_at E2o hql wx, hld, trivial⟩ ?_
  intro w1 hW1 hS1
  have pd1 := pd.walk hrow1 hS1
  refine (omay_any (rq.keep0 hW1.keep)).mono ?_
  rintro x w2 ⟨rfl, k2⟩
  refine ⟨_, rfl, ?_⟩
  have hW2 := hW1.later k2
  have pd2 := pd1.keep0 k2
  cases hmay : mayO e with
  | false =>
    rw [db_no hop hmem hmay]
    exact go_ret (gt := fun _ => Option.none) (unroll := false) 60 [] [.tmp 2, .tmp 3] (.tuple #[nilV, .int .i64 1]) [] [] hW2 Try.results13 (by kernel_rfl) trivial trivial (fun w9 hW9 _ => ⟨hW9.keep, rfl⟩)
  | true =>
    have hmp : mayP e.o = true := by rw [← mayO_o]; exact hmay
    have hel : e.val.length ≤ 255 := by
      simp only [mayO, Bool.and_eq_true, decide_eq_true_eq] at hmay
      exact hmay.2.2
    refine go_stop (gt := fun _ => Option.none) (unroll := false) 60 [] [1, 4, 6, 59, 60, 61] [pT w.heap.size, pT p, pT w'.heap.size, so.v, .int .i64 (l.length : Int), .int .i64 (q : Int)] (dbR w m so sb ++ [⟨w'.heap.size, (e.a false).toList, true⟩]) [(1, 0), (6, 1)] (atR dbC 11 (.inv (dbX w m so sb p l i))) [] [] hW2 (by kernel_rfl) trivial trivial ?_
    intro w3 hW3 hS3
    have hne : ∀ r ∈ dbR w m so sb ++ [⟨w'.heap.size, (e.a false).toList, true⟩], r.b ≠ p ∧ i.sv.ownBlock ≠ some r.b := hrw _ _ _ si huw hpw
    have pd3 := pd2.walk (rows := dbR w m so sb ++ [⟨w'.heap.size, (e.a false).toList, true⟩]) (fun r hr _ => hne r hr) hS3
    have hloose : Loose w ⟨dbR w m so sb ++ [⟨w'.heap.size, (e.a false).toList, true⟩], w3.heap.size⟩ (Foot p i.sv) := fun k hk => by
      rcases hk with rfl | hk
      · exact ⟨Nat.le_of_lt hp, fun r hr => (hne r hr).1⟩
      · exact ⟨by have := si k hk; omega, fun r hr e => (hne r hr).2 (by rw [e]; exact hk)⟩
    have hKN : ∀ wx, Keep (Foot p i.sv) w3 wx → Keep No w wx := fun wx k => hW3.keep.trans' k (fun b hb h => by
      rcases h with h | h
      · omega
      · have := si b h; omega)
    obtain ⟨y, hy⟩ : ∃ y, ([e.code, UInt8.ofNat e.val.length] : List UInt8) = y := ⟨_, rfl⟩
    have hyl : y.length = 2 := by rw [← hy]; rfl
    have hnew : NewM Try.prog (Foot p i.sv) w3 (Instr.buildSlice 22 2 #[(0, bv e.code), (1, bv (UInt8.ofNat e.val.length))]) (frB w3.heap.size y) := by
      rw [← hy]
      exact frB_new rfl (by simp [maxLen]) (fun _ => by kernel_rfl)
    refine drawnM_ok (S0 := Foot p i.sv) (gt := fun _ => Option.none) (D := PadE (dbB4 bs y e.val) p i.sv w3) (g0 := gE p i.sv)
      [(5, .sem (.int .i64 (e.val.length : Int))), (6, .is (bv (UInt8.ofNat e.val.length))), (7, .new (frB w3.heap.size y)), (8, .loud padS), (11, .loud padS)]
      [1, 4, 59, 60, 61] [.is (pT w.heap.size), .is (pT p), .is so.v, .is (.int .i64 (l.length : Int)), .is (.int .i64 (q : Int))]
      (True ∧ True ∧ True ∧ True ∧ True ∧
        SemM Try.prog (Foot p i.sv) w3 (Builtin.len_ #[22] 3 #[.slice e.s.o e.s.n e.s.c]) (.int .i64 (e.val.length : Int)) ∧
        Value.int .u8 (IntKind.u8.wrap (e.val.length : Int)) = bv (UInt8.ofNat e.val.length) ∧
        NewM Try.prog (Foot p i.sv) w3 (Instr.buildSlice 22 2 #[(0, bv e.code), (1, bv (UInt8.ofNat e.val.length))]) (frB w3.heap.size y) ∧
        LoudM Try.prog (Foot p i.sv) w3 (PadE (dbB4 bs y e.val) p i.sv w3) 0 31 [.is (pT p), frB w3.heap.size y] padS ∧ True ∧ True ∧
        LoudM Try.prog (Foot p i.sv) w3 (PadE (dbB4 bs y e.val) p i.sv w3) 1 31 [padS, .is e.s.v] padS ∧ True)
      2 (afterR dbC 11 (.inv (dbX w m so sb p l i))) hW3 hloose (by kernel_rfl) (by kernel_rfl) (by kernel_rfl) PadE.keep (gE_base pd3) (gE_D pd3)
      ⟨trivial, trivial, trivial, trivial, trivial, fun wx _ => rq.run_len (ty := 3) bt.sl, congrArg (Value.int .u8) (b_lo e.val.length), hnew,
        loudE_byte rfl (by show bs.length + y.length ≤ _; omega) pE_is (pE_rd _ _), trivial, trivial, loudE_byte rfl (by show (bs ++ y).length + _ ≤ _; rw [List.length_append]; omega) pE_pad (pE_old fun wx k => rq.keep0 (hKN wx k)), trivial⟩ ?_
    intro g w4 vs k4 _ hd hok
    obtain rfl := allOkM_is (vs := [pT w.heap.size, pT p, so.v, .int .i64 (l.length : Int), .int .i64 (q : Int)]) hok
    obtain ⟨_, _, sv, pd4, _, hla⟩ := hd
    have hW4 := hW3.laterS k4 hloose
    have hw0 : w.heap.size + 1 ≤ w3.heap.size := by
      obtain ⟨t, ht⟩ := hW3.rows ⟨w.heap.size, (m.a so.v sb.v).toList, true⟩ (by simp)
      exact block_of_row ht
    have si4 := of_since si hla hw0
    have h3s : w'.heap.size < w3.heap.size := by
      obtain ⟨t, ht⟩ := hW3.rows ⟨w'.heap.size, (e.a false).toList, true⟩ (by simp)
      exact block_of_row ht
    have hne4 : ∀ r ∈ dbR w m so sb ++ [⟨w'.heap.size, (e.a false).toList, true⟩], r.b ≠ p ∧ sv.ownBlock ≠ some r.b := fun r hr => by
      refine ⟨(hne r hr).1, fun h => ?_⟩
      rcases hla with e | e
      · rw [e] at h; exact (hne r hr).2 h
      · have h3 := e _ h
        obtain ⟨t', ht'⟩ := hW3.rows r hr
        have := block_of_row ht'
        omega
    refine go_inv (gt := fun _ => Option.none) (unroll := false) 60 [(12, 0, .is (.int .i64 ((q + 1 : Nat) : Int)))] [1, 4, 59, 60, 61] [pT w.heap.size, pT p, so.v, .int .i64 (l.length : Int), .int .i64 ((q + 1 : Nat) : Int)] (dbR w m so sb ++ [⟨w'.heap.size, (e.a false).toList, true⟩]) (dbX w m so sb p l i) [(.int .i64 (IntKind.i64.wrap ((q : Int) + 1)), .int .i64 ((q + 1 : Nat) : Int))] [] hW4 (by kernel_rfl) ⟨congrArg (Value.int .i64) hinc, trivial⟩ trivial ?_
    intro w5 a hW5 hS5 hs
    refine ⟨⟨j, sv⟩, by rw [hj]; exact Nat.lt_succ_self j, ⟨by show j ≤ l.length; omega, hW5.fewer (rows := dbR w m so sb), ?_, si4, ?_⟩, ?_⟩
    · have := pd4.walk (rows := dbR w m so sb ++ [⟨w'.heap.size, (e.a false).toList, true⟩]) (fun r hr _ => hne4 r hr) hS5
      show Pd w5 p sv (headL m ++ cookL ++ optB ((l.take (l.length - j)).map Oe.o))
      have e2 : dbB4 bs y e.val 2 = headL m ++ cookL ++ optB ((l.take (l.length - j)).map Oe.o) := by
        rw [hnext, hsn, List.map_append]
        show bs ++ y ++ e.val = _
        rw [← hbs, ← hy]
        simp [optB, optB1, Oe.o]
      rw [← e2]
      exact this
    · show ((l.take (l.length - j)).map Oe.o).all mayP = true
      rw [hnext, hsn, List.map_append, List.all_append, all]
      simp [hmp]
    · unfold dbL
      simp only
      rw [hnext]
      exact hs
set_option maxRecDepth 8000 in
theorem dbytes_any (ok : OkM m) (r : RoV false w so.v l) (rb : Rd w sb.v bh) (hl : l.length ≤ 1000000) (hb : bh.length ≤ 1000000) : Calls Try.prog 13 #[.agg (m.a so.v sb.v)] w (dbQ w (bytesH (headL m) m.op (l.map Oe.o) bh)) := by
  refine enter (args := [.agg (m.a so.v sb.v)]) Try.func13 (by kernel_rfl) ?_
  refine go_call_is (gt := fun _ => Option.none) (unroll := false) 60 [] 29 [.agg (m.a so.v sb.v)] [1] [pT w.heap.size] 8 (dbR w m so sb) [(1, 0)] (inR dbC 1 1) [] [] (Wst.start0 w) (by kernel_rfl) trivial trivial ?_
  intro w1 hW1 _
  refine (mmay_any (m := m)).mono ?_
  rintro x w2 ⟨rfl, k2⟩
  refine ⟨_, rfl, ?_⟩
  have hW2 := hW1.later k2
  cases hop : (m.op == 1 || m.op == 2) with
  | false =>
    have e : bytesH (headL m) m.op (l.map Oe.o) bh = none := by
      unfold bytesH
      rw [if_neg (by rw [hop]; decide)]
    rw [e]
    exact go_ret (gt := fun _ => Option.none) (unroll := false) 60 [] [.tmp 2, .tmp 3] (.tuple #[nilV, .int .i64 1]) [] [] hW2 Try.results13 (by kernel_rfl) trivial trivial (fun w9 hW9 _ => ⟨hW9.keep, rfl⟩)
  | true =>
    refine go_stop (gt := fun _ => Option.none) (unroll := false) 60 [] [1] [pT w.heap.size] (dbR w m so sb) [(1, 0)] (atR dbC 3) [] [] hW2 (by kernel_rfl) trivial trivial ?_
    intro w3 hW3 _
    refine db_region3 ok hW3 ?_
    intro p sv w4 hW4 pd4 hp si4
    refine go_stop (gt := fun _ => Option.none) (unroll := false) 60 [] [1, 4] [pT w.heap.size, pT p] (dbR w m so sb) [(1, 0)] (atR dbC 4) [] [] hW4 (by kernel_rfl) trivial trivial ?_
    intro w5 hW5 hS5
    have hrow : ∀ {sv : Value}, Since (w.heap.size + 1) sv → ∀ r ∈ dbR w m so sb, r.own = true → r.b ≠ p ∧ sv.ownBlock ≠ some r.b := fun hs r hr _ => by
      obtain rfl := List.mem_singleton.1 hr
      exact ⟨fun e => by have : w.heap.size = p := e; omega, fun e => by have := hs _ e; have : w.heap.size + 1 ≤ w.heap.size := this; omega⟩
    have pd5 := pd4.walk (hrow si4) hS5
    refine db_region4 ok hW5 pd5 hp si4 ?_
    intro sv6 w6 hW6 pd6 si6
    refine go_stop (gt := fun _ => Option.none) (unroll := false) 60 [] [1, 4] [pT w.heap.size, pT p] (dbR w m so sb) [(1, 0)] (atR dbC 5) [] [] hW6 (by kernel_rfl) trivial trivial ?_
    intro w7 hW7 hS7
    have pd7 := pd6.walk (hrow si6) hS7
    refine db_region5 hW7 pd7 hp si6 ?_
    intro sv8 w8 hW8 pd8 si8
    refine go_stop (gt := fun _ => Option.none) (unroll := false) 60 [(6, 2, .sem (.int .i64 (l.length : Int)))] [1, 4, 59, 60, 61] [pT w.heap.size, pT p, so.v, .int .i64 (l.length : Int), .int .i64 0] (dbR w m so sb) [(1, 0)] (atL dbC 7) [] [(Builtin.len_ #[25] 3 #[so.v], .int .i64 (l.length : Int))] hW8 (by kernel_rfl) trivial ⟨fun wx _ => r.ro.sem_len E2o (ty := 3) wx, trivial⟩ ?_
    intro w9 hW9 hS9
    have pd9 := pd8.walk (hrow si8) hS9
    have key := loop_okT (P := Try.prog) (Q := bodyPost Try.prog Try.f13 (dbQ w (bytesH (headL m) m.op (l.map Oe.o) bh))) (n := dbN) (x := loopOf (atL dbC 7)) (k := (atL dbC 7).tail) (fun i : DbI => i.j) (dbL w m so sb p l.length) (DbJ w m so sb p l) (fun _ _ => by kernel_rfl) ?_ ⟨l.length, sv8⟩ w9
      ⟨Nat.le_refl _, hW9, by simpa [optB] using pd9, si8, by simp⟩
    · unfold dbL at key
      rw [Nat.sub_self] at key
      exact key
    clear pd4 pd5 pd6 pd7 pd8 pd9 hS5 hS7 hS9 hW9 hW8 hW7 hW6 hW5 hW4 hW3
    intro i w' hJ
    rcases Nat.eq_zero_or_pos i.j with hi | hi
    case inr =>
      obtain ⟨j, hj⟩ := Nat.exists_eq_succ_of_ne_zero (Nat.ne_of_gt hi)
      exact db_round hop r hl hp i w' hJ j hj
    case inl =>
      obtain ⟨hle, hW, pd, si, all⟩ := hJ
      rw [hi, Nat.sub_zero, List.take_length] at pd all
      unfold dbL
      rw [hi]
      simp only [Nat.sub_zero]
      have hol := optB_len _ all
      rw [List.length_map] at hol
      have hbl : (headL m ++ cookL ++ optB (l.map Oe.o)).length ≤ 240 + 257 * 1000000 := by
        rw [List.length_append, List.length_append, headL_len]
        show 236 + 4 + _ ≤ _
        omega
      have eR : bytesH (headL m) m.op (l.map Oe.o) bh = some (headL m ++ cookL ++ optB (l.map Oe.o) ++ [255] ++ bh) := by
        unfold bytesH
        rw [if_pos hop, if_pos all, List.append_assoc _ [255] bh]
        rfl
      rw [eR]
      obtain ⟨bs, hbs⟩ : ∃ bs, headL m ++ cookL ++ optB (l.map Oe.o) = bs := ⟨_, rfl⟩
      rw [hbs] at pd hbl ⊢
      refine go_stop (gt := fun _ => Option.none) (unroll := false) 60 [(7, 0, .is (.bool false))] [1, 4] [pT w.heap.size, pT p] (dbR w m so sb) [(1, 0)] (atR dbC 13) [(.bool (decide ((l.length : Int) < (l.length : Int))), .bool false)] [] hW (by kernel_rfl) ⟨congrArg Value.bool (by simp), trivial⟩ trivial ?_
      intro w3 hW3 hS3
      have pd3 := pd.walk (hrow si) hS3
      have hKN : ∀ wx, Keep (Foot p i.sv) w3 wx → Keep No w wx := fun wx k => hW3.keep.trans' k (fun b hb h => by
        rcases h with h | h
        · omega
        · have := si b h; omega)
      have hw0 : w.heap.size + 1 ≤ w3.heap.size := by
        obtain ⟨t, ht⟩ := hW3.rows ⟨w.heap.size, (m.a so.v sb.v).toList, true⟩ (by simp)
        exact block_of_row ht
      refine drawnM_ok (S0 := Foot p i.sv) (gt := fun _ => Option.none) (D := PadE (dbB5 bs [255] bh) p i.sv w3) (g0 := gE p i.sv)
        [(1, .new (frB w3.heap.size [255])), (2, .loud padS), (5, .loud padS), (6, .loud (doneS w3 (bs ++ [255] ++ bh))), (7, .by (doneS w3 (bs ++ [255] ++ bh)))]
        [2, 3] [doneS w3 (bs ++ [255] ++ bh), .is (.int .i64 0)]
        (True ∧ NewM Try.prog (Foot p i.sv) w3 (Instr.buildSlice 22 1 #[(0, .int .u8 255)]) (frB w3.heap.size [255]) ∧
          LoudM Try.prog (Foot p i.sv) w3 (PadE (dbB5 bs [255] bh) p i.sv w3) 0 31 [.is (pT p), frB w3.heap.size [255]] padS ∧ True ∧ True ∧
          LoudM Try.prog (Foot p i.sv) w3 (PadE (dbB5 bs [255] bh) p i.sv w3) 1 31 [padS, .is sb.v] padS ∧
          LoudM Try.prog (Foot p i.sv) w3 (PadE (dbB5 bs [255] bh) p i.sv w3) 2 36 [padS] (doneS w3 (bs ++ [255] ++ bh)) ∧
          ByM Try.prog (Foot p i.sv) w3 (.assign (.tmp 87)) 22 [(87, doneS w3 (bs ++ [255] ++ bh))] (doneS w3 (bs ++ [255] ++ bh)) ∧ True ∧ True)
        3 (afterR dbC 13) hW3 (db_loose hp si) (by kernel_rfl) (by kernel_rfl) (by kernel_rfl) PadE.keep (gE_base pd3) (gE_D pd3)
        ⟨trivial, frB_new rfl (by simp [maxLen]) (fun _ => by kernel_rfl), loudE_byte rfl (by show bs.length + 1 ≤ _; omega) pE_is (pE_rd _ _), trivial, trivial,
          loudE_byte rfl (by show (bs ++ [255]).length + _ ≤ _; rw [List.length_append]; simp only [List.length_cons, List.length_nil]; omega) pE_pad (pE_old fun wx k => rb.keep0 (hKN wx k)), loudE_done rfl rfl (by rw [List.length_append, List.length_append]; simp only [List.length_cons, List.length_nil]; omega) pE_pad, by_assign, trivial, trivial⟩ ?_
      intro g w4 vs k4 _ _ hok
      match vs, hok with
      | [x, y], ⟨hx, hy, _⟩ =>
      obtain rfl : y = _ := hy
      obtain ⟨h1, h2, _⟩ := hx
      refine go_ret (gt := fun _ => Option.none) (unroll := false) 60 [] [.tmp 2, .tmp 3] (.tuple #[x, .int .i64 0]) [] [] (hW3.laterS k4 (db_loose hp si)) Try.results13 (by kernel_rfl) trivial trivial ?_
      intro w5 hW5 hS5
      have hs5 : w4.heap.size ≤ w5.heap.size := by rw [hW5.size]; exact hS5.le
      refine ⟨hW5.keep, x, rfl, ⟨h1.rd.safe (m := ⟨dbR w m so sb, w4.heap.size⟩) (fun b hb => ⟨h1.lt b hb, fun r hr _ => ?_⟩) hS5.same, fun b hb => by have := h2 b hb; omega, fun b hb => Nat.lt_of_lt_of_le (h1.lt b hb) hs5⟩⟩
      obtain rfl := List.mem_singleton.1 hr
      have := h2 b hb
      show w.heap.size ≠ b
      omega
end
end Go.Proofs.Ytpnocepepihflaa
namespace Go.Proofs.Ytpnocepepihflaa
open Go.RowKit

noncomputable abbrev rbC : Code := bodyOf Try.f19
noncomputable abbrev rbN : Nat := Try.f19.ntmps
structure RbI where
  j : Nat
  u : Sb
noncomputable def rbL (w : World) (h o b : Sb) (n : Nat) (i : RbI) (w' : World) : Cfg := ⟨frOf [1, 4, 5] [pT w.heap.size, i.u.v, .int .i64 ((n - i.j : Nat) : Int)], tagL [(1, 0)], ⟨rvRow w h o b, w'.heap.size⟩, atL rbC 7⟩
structure RbJ (w : World) (h o b : Sb) (hl : List UInt8) (l : List Oe) (i : RbI) (w' : World) : Prop where
  le : i.j ≤ l.length
  W : Wst w ⟨rvRow w h o b, w'.heap.size⟩ w'
  ab : Ab w' i.u.v (hl ++ cookL ++ optB ((l.take (l.length - i.j)).map Oe.o))
  si : Since (w.heap.size + 1) i.u.v
  all : ((l.take (l.length - i.j)).map Oe.o).all mayP = true
noncomputable def rbX (w : World) (h o b : Sb) (hl : List UInt8) (l : List Oe) (i : RbI) : Act → World → Prop := fun a' w' => ∃ k : RbI, k.j < i.j ∧ RbJ w h o b hl l k w' ∧ agrees rbN (rbL w h o b l.length k w') a'
section
variable {w : World} {h o b : Sb} {l : List Oe} {hl bl : List UInt8}
theorem rb_loose {u : Value} (hs : Since (w.heap.size + 1) u) {wx : World} : Loose w ⟨rvRow w h o b, wx.heap.size⟩ (fun k => u.ownBlock = some k) := fun k hk => by
  have := hs k hk
  refine ⟨by omega, fun r hr => ?_⟩
  obtain rfl := List.mem_singleton.1 hr
  show w.heap.size ≠ k
  omega
theorem rb_no (hop : (byteAt hl 0 == 1 || byteAt hl 0 == 2) = true) {e : Oe} (he : e ∈ l) (hm : mayP e.o = false) : bytesH hl (byteAt hl 0) (l.map Oe.o) bl = none := by
  unfold bytesH
  rw [if_pos hop, if_neg]
  intro hc
  have := List.all_eq_true.1 hc e.o (List.mem_map_of_mem he)
  rw [hm] at this
  cases this
theorem rb_row {w' : World} (hW : Wst w ⟨rvRow w h o b, w'.heap.size⟩ w') : w.heap.size + 1 ≤ w'.heap.size := by
  obtain ⟨t, ht⟩ := hW.rows ⟨w.heap.size, [h.v, o.v, b.v], true⟩ (by simp)
  exact block_of_row ht
theorem rb_round (hop : (byteAt hl 0 == 1 || byteAt hl 0 == 2) = true) (hhl : hl.length = 236) (r : RoV true w o.v l) (hn : l.length ≤ 1000000) (i : RbI) (w' : World) (hJ : RbJ w h o b hl l i w') (j : Nat) (hj : i.j = j + 1) :
    Goal Try.prog (bodyPost Try.prog Try.f19 (dbQ w (bytesH hl (byteAt hl 0) (l.map Oe.o) bl))) rbN { rbL w h o b l.length i w' with todo := .code (loopOf (atL rbC 7)) :: .inv (rbX w h o b hl l i) :: (atL rbC 7).tail } w' := by
  obtain ⟨hle, hW, ab, si, all⟩ := hJ
  unfold rbL
  rw [hj] at hle ab all ⊢
  simp only
  obtain ⟨q, hq⟩ : ∃ q, l.length - (j + 1) = q := ⟨_, rfl⟩
  rw [hq] at ab all ⊢
  have hql : q < l.length := by omega
  have hnext : l.length - j = q + 1 := by omega
  have hsn : l.take (q + 1) = l.take q ++ [l[q]] := List.take_succ_eq_append_getElem hql
  have hmem := List.getElem_mem hql
  have rq := r.each l[q] hmem
  have hld : ∀ wx, (∀ k, Safe ⟨rvRow w h o b, w'.heap.size⟩ k → wx.heap[k]? = w'.heap[k]?) → (Instr.loadAt 87 (.pointer (some (ad2 o.v q)))).run Try.prog wx = .ok (.agg ((l[q]).a true)) wx := fun wx hx => (r.ro.walk hW hx).sem_ld E2r hql
  obtain ⟨e, he⟩ : ∃ e, l[q] = e := ⟨_, rfl⟩
  rw [he] at hld hsn rq hmem
  have hci : decide ((q : Int) < (l.length : Int)) = true := decide_eq_true (by omega)
  have hinc : IntKind.i64.wrap ((q : Int) + 1) = ((q + 1 : Nat) : Int) := by rw [IntWalk.i64_in _ (by omega)]; omega
  have hol := optB_len _ all
  rw [List.length_map, List.length_take] at hol
  have hbl : (hl ++ cookL ++ optB ((l.take q).map Oe.o)).length ≤ 240 + 257 * 1000000 := by
    rw [List.length_append, List.length_append, hhl]
    show 236 + 4 + _ ≤ _
    omega
  obtain ⟨bs, hbs⟩ : ∃ bs, hl ++ cookL ++ optB ((l.take q).map Oe.o) = bs := ⟨_, rfl⟩
  rw [hbs] at ab hbl
  have hlenS : ∀ wx : World, (Builtin.len_ #[52] 3 #[o.v]).run Try.prog wx = .ok (.int .i64 (l.length : Int)) wx := fun wx => r.ro.sem_len E2r (ty := 3) wx
  have k0 : ((e.code.toNat : Int) == 0) = (e.code == 0) := i8_eq e.code 0
  have k255 : ((e.code.toNat : Int) == 255) = (e.code == 255) := i8_eq e.code 255
  cases h0 : (e.code == 0) with
  | true =>
    have hm : mayP e.o = false := by simp only [mayP, Oe.o, bne, h0]; rfl
    rw [rb_no hop hmem hm]
    exact go_ret (gt := fun _ => Option.none) (unroll := false) 60 [(7, 3, .sem (.int .i64 (l.length : Int))), (7, 4, .is (.bool true)), (9, 3, .sem (.pointer (some (ad2 o.v q)))), (9, 4, .sem (.agg (e.a true))), (10, 2, .is (.bool true))] [.tmp 2, .tmp 3] (.tuple #[nilV, .int .i64 1])
      [(.bool (decide ((q : Int) < (l.length : Int))), .bool true), (.bool ((e.code.toNat : Int) == 0), .bool true)]
      [(Builtin.len_ #[52] 3 #[o.v], .int .i64 (l.length : Int)), (Instr.indexAt 52 o.v (.int .i64 (q : Int)), .pointer (some (ad2 o.v q))), (Instr.loadAt 87 (.pointer (some (ad2 o.v q))), .agg (e.a true))] hW Try.results19 (by kernel_rfl) ⟨congrArg Value.bool hci, congrArg Value.bool (k0.trans h0), trivial⟩ ⟨fun wx _ => hlenS wx, fun wx _ => r.ro.sem_at E2r hql wx, hld, trivial⟩ (fun w9 hW9 _ => ⟨hW9.keep, rfl⟩)
  | false =>
  cases h255 : (e.code == 255) with
  | true =>
    have hm : mayP e.o = false := by simp only [mayP, Oe.o, bne, h0, h255]; rfl
    rw [rb_no hop hmem hm]
    exact go_ret (gt := fun _ => Option.none) (unroll := false) 60 [(7, 3, .sem (.int .i64 (l.length : Int))), (7, 4, .is (.bool true)), (9, 3, .sem (.pointer (some (ad2 o.v q)))), (9, 4, .sem (.agg (e.a true))), (10, 2, .is (.bool false)), (10, 6, .is (.bool true))] [.tmp 2, .tmp 3] (.tuple #[nilV, .int .i64 1])
      [(.bool (decide ((q : Int) < (l.length : Int))), .bool true), (.bool ((e.code.toNat : Int) == 0), .bool false), (.bool ((e.code.toNat : Int) == 255), .bool true)]
      [(Builtin.len_ #[52] 3 #[o.v], .int .i64 (l.length : Int)), (Instr.indexAt 52 o.v (.int .i64 (q : Int)), .pointer (some (ad2 o.v q))), (Instr.loadAt 87 (.pointer (some (ad2 o.v q))), .agg (e.a true))] hW Try.results19 (by kernel_rfl) ⟨congrArg Value.bool hci, congrArg Value.bool (k0.trans h0), congrArg Value.bool (k255.trans h255), trivial⟩ ⟨fun wx _ => hlenS wx, fun wx _ => r.ro.sem_at E2r hql wx, hld, trivial⟩ (fun w9 hW9 _ => ⟨hW9.keep, rfl⟩)
  | false =>
  by_cases hvl : 255 < e.val.length
  · have hm : mayP e.o = false := by
      simp only [mayP, Oe.o, bne, h0, h255, Bool.not_false, Bool.true_and]
      exact decide_eq_false (by omega)
    rw [rb_no hop hmem hm]
    exact go_ret (gt := fun _ => Option.none) (unroll := false) 60 [(7, 3, .sem (.int .i64 (l.length : Int))), (7, 4, .is (.bool true)), (9, 3, .sem (.pointer (some (ad2 o.v q)))), (9, 4, .sem (.agg (e.a true))), (10, 2, .is (.bool false)), (10, 6, .is (.bool false)), (10, 11, .sem (.int .i64 (e.val.length : Int))), (10, 12, .is (.bool true))] [.tmp 2, .tmp 3] (.tuple #[nilV, .int .i64 1])
      [(.bool (decide ((q : Int) < (l.length : Int))), .bool true), (.bool ((e.code.toNat : Int) == 0), .bool false), (.bool ((e.code.toNat : Int) == 255), .bool false), (.bool (decide ((e.val.length : Int) > 255)), .bool true)]
      [(Builtin.len_ #[52] 3 #[o.v], .int .i64 (l.length : Int)), (Instr.indexAt 52 o.v (.int .i64 (q : Int)), .pointer (some (ad2 o.v q))), (Instr.loadAt 87 (.pointer (some (ad2 o.v q))), .agg (e.a true)), (Builtin.len_ #[22] 3 #[.slice e.s.o e.s.n e.s.c], .int .i64 (e.val.length : Int))] hW Try.results19 (by kernel_rfl) ⟨congrArg Value.bool hci, congrArg Value.bool (k0.trans h0), congrArg Value.bool (k255.trans h255), congrArg Value.bool (decide_eq_true (by omega)), trivial⟩ ⟨fun wx _ => hlenS wx, fun wx _ => r.ro.sem_at E2r hql wx, hld, fun wx _ => rq.run_len (ty := 3) bt.sl, trivial⟩ (fun w9 hW9 _ => ⟨hW9.keep, rfl⟩)
  have hm : mayP e.o = true := by
    simp only [mayP, Oe.o, bne, h0, h255, Bool.not_false, Bool.true_and]
    exact decide_eq_true (by omega)
  have hcode : IntKind.u8.wrap (e.code.toNat : Int) = ((e.code.toNat : Nat) : Int) := IntWalk.u8_in _ (by have := e.code.toNat_lt; omega)
  obtain ⟨y, hy⟩ : ∃ y, ([e.code, UInt8.ofNat e.val.length] : List UInt8) = y := ⟨_, rfl⟩
  have hyl : y.length = 2 := by rw [← hy]; rfl
  have hbw := ab.lt
  refine go_appX (gt := fun _ => Option.none) (unroll := false) 60 [(7, 3, .sem (.int .i64 (l.length : Int))), (7, 4, .is (.bool true)), (9, 3, .sem (.pointer (some (ad2 o.v q)))), (9, 4, .sem (.agg (e.a true))), (10, 2, .is (.bool false)), (10, 6, .is (.bool false)), (10, 11, .sem (.int .i64 (e.val.length : Int))), (10, 12, .is (.bool false)), (12, 3, .is (bv e.code)), (12, 6, .sem (.int .i64 (e.val.length : Int))), (12, 7, .is (bv (UInt8.ofNat e.val.length))), (12, 9, .stop)] i.u.v (.slice (some ⟨w'.heap.size + 1, 0, none⟩) 2 2) 22 [1, 5, 6] [pT w.heap.size, .int .i64 (q : Int), pT w'.heap.size] 61
    (rvRow w h o b ++ [⟨w'.heap.size, (e.a true).toList, true⟩] ++ [⟨w'.heap.size + 1, bvs y, true⟩]) [(1, 0), (6, 1)] (inR rbC 12 9 (.inv (rbX w h o b hl l i)))
    [(.bool (decide ((q : Int) < (l.length : Int))), .bool true), (.bool ((e.code.toNat : Int) == 0), .bool false), (.bool ((e.code.toNat : Int) == 255), .bool false), (.bool (decide ((e.val.length : Int) > 255)), .bool false), (.int .u8 (IntKind.u8.wrap (e.code.toNat : Int)), bv e.code), (.int .u8 (IntKind.u8.wrap (e.val.length : Int)), bv (UInt8.ofNat e.val.length))]
    [(Builtin.len_ #[52] 3 #[o.v], .int .i64 (l.length : Int)), (Instr.indexAt 52 o.v (.int .i64 (q : Int)), .pointer (some (ad2 o.v q))), (Instr.loadAt 87 (.pointer (some (ad2 o.v q))), .agg (e.a true)), (Builtin.len_ #[22] 3 #[.slice e.s.o e.s.n e.s.c], .int .i64 (e.val.length : Int)), (Builtin.len_ #[22] 3 #[.slice e.s.o e.s.n e.s.c], .int .i64 (e.val.length : Int))] hW (by subst hy; kernel_rfl)
    ⟨congrArg Value.bool hci, congrArg Value.bool (k0.trans h0), congrArg Value.bool (k255.trans h255), congrArg Value.bool (decide_eq_false (by omega)), congrArg (Value.int .u8) hcode, congrArg (Value.int .u8) (b_lo e.val.length), trivial⟩ ⟨fun wx _ => hlenS wx, fun wx _ => r.ro.sem_at E2r hql wx, hld, fun wx _ => rq.run_len (ty := 3) bt.sl, fun wx _ => rq.run_len (ty := 3) bt.sl, trivial⟩ ?_
  intro w5 hW5 hS5
  have sf0 : ∀ k, i.u.v.ownBlock = some k → Safe ⟨rvRow w h o b, w'.heap.size⟩ k := fun k hk => ⟨hbw k hk, fun r hr _ => (rb_loose (h := h) (o := o) (b := b) si (wx := w') k hk).2 r hr⟩
  have ab5 := ab.same (fun k hk => hS5.same k (sf0 k hk)) hS5.le
  have src : Rd w5 (.slice (some ⟨w'.heap.size + 1, 0, none⟩) 2 2) y := Rd.of_row (bs := y) (cs := bvs y) (ow := true) hW5 (by simp) 2 hyl (by simp [maxLen]) (fun i hi => by rw [Nat.zero_add]; exact bvs_get hi)
  obtain ⟨x1, w6, hrun, ab6, k6, hb6⟩ := run_append_ab ab5 src (by omega)
  refine ⟨x1, w6, hrun, ?_⟩
  have hWf : Wst w ⟨rvRow w h o b ++ [⟨w'.heap.size, (e.a true).toList, true⟩], w5.heap.size⟩ w5 := hW5.fewer (rows := rvRow w h o b ++ [⟨w'.heap.size, (e.a true).toList, true⟩])
  have hle5 : w'.heap.size + 1 ≤ w5.heap.size := by
    obtain ⟨t, ht⟩ := hWf.rows ⟨w'.heap.size, (e.a true).toList, true⟩ (by simp)
    exact block_of_row ht
  have hw0 := rb_row hW
  have lo : ∀ {u : Value}, (∀ k, u.ownBlock = some k → w.heap.size + 1 ≤ k ∧ k ≠ w'.heap.size) → ∀ wx : World, Loose w ⟨rvRow w h o b ++ [⟨w'.heap.size, (e.a true).toList, true⟩], wx.heap.size⟩ (fun k => u.ownBlock = some k) := fun hu wx k hk => by
    have h1 := hu k hk
    refine ⟨by omega, fun r hr => ?_⟩
    simp only [List.cons_append, List.nil_append, List.mem_cons, List.not_mem_nil, or_false] at hr
    rcases hr with rfl | rfl
    · show w.heap.size ≠ k; omega
    · show w'.heap.size ≠ k; omega
  have hu0 : ∀ k, i.u.v.ownBlock = some k → w.heap.size + 1 ≤ k ∧ k ≠ w'.heap.size := fun k hk => ⟨si k hk, by have := hbw k hk; omega⟩
  have hW6 := hWf.laterS k6 (lo hu0 w5)
  have hu1 : ∀ k, x1.ownBlock = some k → w.heap.size + 1 ≤ k ∧ k ≠ w'.heap.size := fun k hk => by
    rcases hb6 with h2 | h2
    · exact hu0 k (h2 ▸ hk)
    · have := h2 k hk; omega
  refine Goal.re (tags := tagL [(1, 0), (6, 1)]) (m := ⟨rvRow w h o b ++ [⟨w'.heap.size, (e.a true).toList, true⟩], w6.heap.size⟩) ?_
  refine go_appX (gt := fun _ => Option.none) (unroll := false) 60 [(13, 3, .stop)] x1 (.slice e.s.o e.s.n e.s.c) 22 [1, 5] [pT w.heap.size, .int .i64 (q : Int)] 65 (rvRow w h o b ++ [⟨w'.heap.size, (e.a true).toList, true⟩]) [(1, 0)] (inR rbC 13 3 (.inv (rbX w h o b hl l i))) [] [] hW6 (by kernel_rfl) trivial trivial ?_
  intro w7 hW7 hS7
  have ab7 := ab6.same (fun k hk => hS7.same k ⟨ab6.lt k hk, fun r hr _ => (lo hu1 w6 k hk).2 r hr⟩) hS7.le
  obtain ⟨x2, w8, hrun2, ab8, k8, hb8⟩ := run_append_ab ab7 (rq.keep0 hW7.keep) (by rw [List.length_append]; omega)
  refine ⟨x2, w8, hrun2, ?_⟩
  have hW8 := ((hW7.laterS k8 (lo hu1 w7)).fewer (rows := rvRow w h o b))
  have hle7 : w5.heap.size ≤ w7.heap.size := Nat.le_trans k6.size hS7.le
  have si8 : Since (w.heap.size + 1) x2 := fun k hk => by
    rcases hb8 with h2 | h2
    · exact (hu1 k (h2 ▸ hk)).1
    · have := h2 k hk; omega
  obtain ⟨zo, zn, zc, rfl⟩ := ab8.sb
  refine Goal.re (tags := tagL [(1, 0)]) (m := ⟨rvRow w h o b, w8.heap.size⟩) ?_
  refine go_inv (gt := fun _ => Option.none) (unroll := false) 60 [(8, 1, .is (.int .i64 ((q + 1 : Nat) : Int)))] [1, 4, 5] [pT w.heap.size, .slice zo zn zc, .int .i64 ((q + 1 : Nat) : Int)] (rvRow w h o b) (rbX w h o b hl l i) [(.int .i64 (IntKind.i64.wrap ((q : Int) + 1)), .int .i64 ((q + 1 : Nat) : Int))] [] hW8 (by kernel_rfl) ⟨congrArg (Value.int .i64) hinc, trivial⟩ trivial ?_
  intro w9 a hW9 hS9 hs
  refine ⟨⟨j, ⟨zo, zn, zc⟩⟩, by rw [hj]; exact Nat.lt_succ_self j, ⟨by show j ≤ l.length; omega, hW9, ?_, si8, ?_⟩, ?_⟩
  · show Ab w9 (.slice zo zn zc) (hl ++ cookL ++ optB ((l.take (l.length - j)).map Oe.o))
    have e2 : bs ++ y ++ e.val = hl ++ cookL ++ optB ((l.take (l.length - j)).map Oe.o) := by
      rw [hnext, hsn, List.map_append, ← hbs, ← hy]
      simp [optB, optB1, Oe.o]
    rw [← e2]
    exact ab8.same (fun k hk => hS9.same k ⟨ab8.lt k hk, fun r hr _ => (rb_loose (h := h) (o := o) (b := b) si8 (wx := w8) k hk).2 r hr⟩) hS9.le
  · show ((l.take (l.length - j)).map Oe.o).all mayP = true
    rw [hnext, hsn, List.map_append, List.all_append, all]
    simp [hm]
  · unfold rbL
    simp only
    rw [hnext]
    exact hs
theorem rb_tail (rh : Rd w h.v hl) (hop : (byteAt hl 0 == 1 || byteAt hl 0 == 2) = true) (hhl : hl.length = 236) (r : RoV true w o.v l) (rb : Rd w b.v bl) (hn : l.length ≤ 1000000) (hbn : bl.length ≤ 1000000) {w1 : World} (hW1 : Wst w ⟨rvRow w h o b, w1.heap.size⟩ w1) :
    Goal Try.prog (bodyPost Try.prog Try.f19 (dbQ w (bytesH hl (byteAt hl 0) (l.map Oe.o) bl))) rbN ⟨frOf [1] [pT w.heap.size], tagL [(1, 0)], ⟨rvRow w h o b, w1.heap.size⟩, opsR rbC 3⟩ w1 := by
  refine go_appX (gt := fun _ => Option.none) (unroll := false) 60 [(4, 3, .stop)] nilV h.v 22 [1] [pT w.heap.size] 22 (rvRow w h o b) [(1, 0)] (inR rbC 4 3) [] [] hW1 (by kernel_rfl) trivial trivial ?_
  intro w2 hW2 _
  obtain ⟨x1, w3, hrun1, ab3, k3, hb3⟩ := run_append_ab (.inl (Own.nil 5 w2) : Ab w2 nilV []) (rh.keep0 hW2.keep) (by simp only [List.length_nil]; omega)
  rw [List.nil_append] at ab3
  refine ⟨x1, w3, hrun1, ?_⟩
  have hW3 := hW2.laterS k3 (rb_loose (nilV_since _))
  have hw2 := rb_row hW2
  have si3 : Since (w.heap.size + 1) x1 := of_since (nilV_since _) (N := w2.heap.size) hb3 hw2
  refine go_appX (gt := fun _ => Option.none) (unroll := false) 60 [(5, 2, .stop)] x1 (.slice (some ⟨w3.heap.size, 0, none⟩) 4 4) 22 [1] [pT w.heap.size] 25 (rvRow w h o b ++ [⟨w3.heap.size, bvs cookL, true⟩]) [(1, 0)] (inR rbC 5 2) [] [] hW3 (by kernel_rfl) trivial trivial ?_
  intro w4 hW4 hS4
  have sf3 : ∀ {x : Value} {bs : List UInt8} {wx : World}, Ab wx x bs → Since (w.heap.size + 1) x → ∀ k, x.ownBlock = some k → Safe ⟨rvRow w h o b, wx.heap.size⟩ k := fun ha hs k hk => ⟨ha.lt k hk, fun r hr _ => (rb_loose (h := h) (o := o) (b := b) hs (wx := w4) k hk).2 r hr⟩
  have ab4 := ab3.same (fun k hk => hS4.same k (sf3 ab3 si3 k hk)) hS4.le
  have src4 : Rd w4 (.slice (some ⟨w3.heap.size, 0, none⟩) 4 4) cookL := Rd.of_row (bs := cookL) (cs := bvs cookL) (ow := true) hW4 (by simp) 4 rfl (by simp [maxLen]) (fun i hi => by rw [Nat.zero_add]; exact bvs_get hi)
  obtain ⟨x2, w5, hrun2, ab5, k5, hb5⟩ := run_append_ab ab4 src4 (by show hl.length + 4 ≤ _; omega)
  refine ⟨x2, w5, hrun2, ?_⟩
  have hW5 := (hW4.fewer (rows := rvRow w h o b)).laterS k5 (rb_loose si3)
  have si5 : Since (w.heap.size + 1) x2 := of_since si3 (N := w4.heap.size) hb5 (rb_row (hW4.fewer (rows := rvRow w h o b)))
  obtain ⟨yo, yn, yc, rfl⟩ := ab5.sb
  refine Goal.re (tags := tagL [(1, 0)]) (m := ⟨rvRow w h o b, w5.heap.size⟩) ?_
  refine go_stop (gt := fun _ => Option.none) (unroll := false) 60 [] [1, 4, 5] [pT w.heap.size, .slice yo yn yc, .int .i64 0] (rvRow w h o b) [(1, 0)] (atL rbC 7) [] [] hW5 (by kernel_rfl) trivial trivial ?_
  intro w6 hW6 hS6
  have ab6 := ab5.same (fun k hk => hS6.same k (sf3 ab5 si5 k hk)) hS6.le
  have key := loop_okT (P := Try.prog) (Q := bodyPost Try.prog Try.f19 (dbQ w (bytesH hl (byteAt hl 0) (l.map Oe.o) bl))) (n := rbN) (x := loopOf (atL rbC 7)) (k := (atL rbC 7).tail) (fun i : RbI => i.j) (rbL w h o b l.length) (RbJ w h o b hl l) (fun _ _ => by kernel_rfl) ?_ ⟨l.length, ⟨yo, yn, yc⟩⟩ w6
    ⟨Nat.le_refl _, hW6, by simpa [optB] using ab6, si5, by simp⟩
  · unfold rbL at key
    rw [Nat.sub_self] at key
    exact key
  clear ab6 hS6 hW6 ab5 k5 hb5 hW5 si5 ab4 hS4 src4 hrun2 hrun1 ab3 k3 hb3 hW3 si3
  intro i w' hJ
  rcases Nat.eq_zero_or_pos i.j with hi | hi
  case inr =>
    obtain ⟨j, hj⟩ := Nat.exists_eq_succ_of_ne_zero (Nat.ne_of_gt hi)
    exact rb_round hop hhl r hn i w' hJ j hj
  case inl =>
    obtain ⟨hle, hW, ab, si, all⟩ := hJ
    rw [hi, Nat.sub_zero, List.take_length] at ab all
    unfold rbL
    rw [hi]
    simp only [Nat.sub_zero]
    have hol := optB_len _ all
    rw [List.length_map] at hol
    have hbl : (hl ++ cookL ++ optB (l.map Oe.o)).length ≤ 240 + 257 * 1000000 := by
      rw [List.length_append, List.length_append, hhl]
      show 236 + 4 + _ ≤ _
      omega
    have eR : bytesH hl (byteAt hl 0) (l.map Oe.o) bl = some (hl ++ cookL ++ optB (l.map Oe.o) ++ [255] ++ bl) := by
      unfold bytesH
      rw [if_pos hop, if_pos all, List.append_assoc _ [255] bl]
      rfl
    rw [eR]
    obtain ⟨bs, hbs⟩ : ∃ bs, hl ++ cookL ++ optB (l.map Oe.o) = bs := ⟨_, rfl⟩
    rw [hbs] at ab hbl ⊢
    refine go_appX (gt := fun _ => Option.none) (unroll := false) 60 [(7, 3, .sem (.int .i64 (l.length : Int))), (7, 4, .is (.bool false)), (14, 2, .stop)] i.u.v (.slice (some ⟨w'.heap.size, 0, none⟩) 1 1) 22 [1] [pT w.heap.size] 68 (rvRow w h o b ++ [⟨w'.heap.size, bvs [255], true⟩]) [(1, 0)] (inR rbC 14 2) [(.bool (decide ((l.length : Int) < (l.length : Int))), .bool false)] [(Builtin.len_ #[52] 3 #[o.v], .int .i64 (l.length : Int))] hW (by kernel_rfl) ⟨congrArg Value.bool (by simp), trivial⟩ ⟨fun wx _ => r.ro.sem_len E2r (ty := 3) wx, trivial⟩ ?_
    intro w7 hW7 hS7
    have ab7 := ab.same (fun k hk => hS7.same k (sf3 ab si k hk)) hS7.le
    have src7 : Rd w7 (.slice (some ⟨w'.heap.size, 0, none⟩) 1 1) [255] := Rd.of_row (bs := [255]) (cs := bvs [255]) (ow := true) hW7 (by simp) 1 rfl (by simp [maxLen]) (fun i hi => by rw [Nat.zero_add]; exact bvs_get hi)
    obtain ⟨x3, w8, hrun3, ab8, k8, hb8⟩ := run_append_ab ab7 src7 (by show bs.length + 1 ≤ _; omega)
    refine ⟨x3, w8, hrun3, ?_⟩
    have hWf := hW7.fewer (rows := rvRow w h o b)
    have hW8 := hWf.laterS k8 (rb_loose si)
    have si8 : Since (w.heap.size + 1) x3 := of_since si (N := w7.heap.size) hb8 (rb_row hWf)
    refine Goal.re (tags := tagL [(1, 0)]) (m := ⟨rvRow w h o b, w8.heap.size⟩) ?_
    refine go_appX (gt := fun _ => Option.none) (unroll := false) 60 [(15, 3, .stop)] x3 b.v 22 [] [] 72 (rvRow w h o b) [] (inR rbC 15 3) [] [] hW8 (by kernel_rfl) trivial trivial ?_
    intro w9 hW9 hS9
    have ab9 := ab8.same (fun k hk => hS9.same k (sf3 ab8 si8 k hk)) hS9.le
    obtain ⟨x4, w10, hrun4, ab10, k10, hb10⟩ := run_append_ab ab9 (rb.keep0 hW9.keep) (by rw [List.length_append]; simp only [List.length_cons, List.length_nil]; omega)
    refine ⟨x4, w10, hrun4, ?_⟩
    have hW10 := hW9.laterS k10 (rb_loose si8)
    have si10 : Since (w.heap.size + 1) x4 := of_since si8 (N := w9.heap.size) hb10 (rb_row hW9)
    refine go_ret (gt := fun _ => Option.none) (unroll := false) 60 [] [.tmp 2, .tmp 3] (.tuple #[x4, .int .i64 0]) [] [] hW10 Try.results19 (by kernel_rfl) trivial trivial ?_
    intro w11 hW11 hS11
    have hs11 : w10.heap.size ≤ w11.heap.size := by rw [hW11.size]; exact hS11.le
    exact ⟨hW11.keep, x4, rfl, ab10.rd.safe (sf3 ab10 si10) hS11.same, fun k hk => by have := si10 k hk; omega, fun k hk => Nat.lt_of_lt_of_le (ab10.lt k hk) hs11⟩
theorem rbytes_any (rh : Rd w h.v hl) (hhl : hl.length = 236) (r : RoV true w o.v l) (rb : Rd w b.v bl) (hn : l.length ≤ 1000000) (hbn : bl.length ≤ 1000000) : Calls Try.prog 19 #[.agg #[h.v, o.v, b.v]] w (dbQ w (bytesH hl (byteAt hl 0) (l.map Oe.o) bl)) := by
  refine enter (args := [.agg #[h.v, o.v, b.v]]) Try.func19 (by kernel_rfl) ?_
  have sat := fun wx : World => rh.sem_at (i := 0) (by omega) wx
  have sld : ∀ wx : World, (∀ k, Safe ⟨[], w.heap.size⟩ k → wx.heap[k]? = w.heap[k]?) → (Instr.loadAt 5 (.pointer (some (adr h.v 0)))).run Try.prog wx = .ok (bv (byteAt hl 0)) wx := fun wx hx => (rh.walk (Wst.start0 w) hx).sem_ld (i := 0) (by omega)
  have e1 := i8_ne (byteAt hl 0) 1
  have e2 := i8_ne (byteAt hl 0) 2
  cases h1 : (byteAt hl 0 == 1) with
  | true =>
    refine go_stop (gt := fun _ => Option.none) (unroll := false) 60 [(1, 2, .sem (.pointer (some (adr h.v 0)))), (1, 3, .sem (bv (byteAt hl 0))), (1, 4, .is (.bool false)), (3, 0, .stop)] [1] [pT w.heap.size] (rvRow w h o b) [(1, 0)] (opsR rbC 3) [(.bool (((byteAt hl 0).toNat : Int) != 1), .bool false)] [(Instr.indexAt 22 h.v (.int .i64 0), .pointer (some (adr h.v 0))), (Instr.loadAt 5 (.pointer (some (adr h.v 0))), bv (byteAt hl 0))] (Wst.start0 w) (by kernel_rfl) ⟨congrArg Value.bool (e1.trans (by simp only [bne, h1]; rfl)), trivial⟩ ⟨fun wx _ => sat wx, sld, trivial⟩ ?_
    intro w1 hW1 _
    exact rb_tail rh (by rw [h1]; rfl) hhl r rb hn hbn hW1
  | false =>
    cases h2 : (byteAt hl 0 == 2) with
    | true =>
      refine go_stop (gt := fun _ => Option.none) (unroll := false) 60 [(1, 2, .sem (.pointer (some (adr h.v 0)))), (1, 3, .sem (bv (byteAt hl 0))), (1, 4, .is (.bool true)), (1, 8, .sem (.pointer (some (adr h.v 0)))), (1, 9, .sem (bv (byteAt hl 0))), (1, 10, .is (.bool false)), (3, 0, .stop)] [1] [pT w.heap.size] (rvRow w h o b) [(1, 0)] (opsR rbC 3) [(.bool (((byteAt hl 0).toNat : Int) != 1), .bool true), (.bool (((byteAt hl 0).toNat : Int) != 2), .bool false)] [(Instr.indexAt 22 h.v (.int .i64 0), .pointer (some (adr h.v 0))), (Instr.loadAt 5 (.pointer (some (adr h.v 0))), bv (byteAt hl 0)), (Instr.indexAt 22 h.v (.int .i64 0), .pointer (some (adr h.v 0))), (Instr.loadAt 5 (.pointer (some (adr h.v 0))), bv (byteAt hl 0))] (Wst.start0 w) (by kernel_rfl) ⟨congrArg Value.bool (e1.trans (by simp only [bne, h1]; rfl)), congrArg Value.bool (e2.trans (by simp only [bne, h2]; rfl)), trivial⟩ ⟨fun wx _ => sat wx, sld, fun wx _ => sat wx, sld, trivial⟩ ?_
      intro w1 hW1 _
      exact rb_tail rh (by rw [h1, h2]; rfl) hhl r rb hn hbn hW1
    | false =>
      have e : bytesH hl (byteAt hl 0) (l.map Oe.o) bl = none := by
        unfold bytesH
        rw [if_neg (by rw [h1, h2]; decide)]
      rw [e]
      exact go_ret (gt := fun _ => Option.none) (unroll := false) 60 [(1, 2, .sem (.pointer (some (adr h.v 0)))), (1, 3, .sem (bv (byteAt hl 0))), (1, 4, .is (.bool true)), (1, 8, .sem (.pointer (some (adr h.v 0)))), (1, 9, .sem (bv (byteAt hl 0))), (1, 10, .is (.bool true))] [.tmp 2, .tmp 3] (.tuple #[nilV, .int .i64 1]) [(.bool (((byteAt hl 0).toNat : Int) != 1), .bool true), (.bool (((byteAt hl 0).toNat : Int) != 2), .bool true)] [(Instr.indexAt 22 h.v (.int .i64 0), .pointer (some (adr h.v 0))), (Instr.loadAt 5 (.pointer (some (adr h.v 0))), bv (byteAt hl 0)), (Instr.indexAt 22 h.v (.int .i64 0), .pointer (some (adr h.v 0))), (Instr.loadAt 5 (.pointer (some (adr h.v 0))), bv (byteAt hl 0))] (Wst.start0 w) Try.results19 (by kernel_rfl) ⟨congrArg Value.bool (e1.trans (by simp only [bne, h1]; rfl)), congrArg Value.bool (e2.trans (by simp only [bne, h2]; rfl)), trivial⟩ ⟨fun wx _ => sat wx, sld, fun wx _ => sat wx, sld, trivial⟩ (fun w9 hW9 _ => ⟨hW9.keep, rfl⟩)
end
end Go.Proofs.Ytpnocepepihflaa
namespace Go.Proofs.Ytpnocepepihflaa
open Go.RowKit

theorem b4_be (a b c d : UInt8) : bytes4 (be [a, b, c, d]) = [a, b, c, d] := by
  have ha := a.toNat_lt
  have hb := b.toNat_lt
  have hc := c.toNat_lt
  have hd := d.toNat_lt
  simp only [be, bytes4, bytes2, List.cons_append, List.nil_append, List.foldl_cons, List.foldl_nil, List.cons.injEq, and_true]
  refine ⟨?_, ?_, ?_, ?_⟩ <;> (apply UInt8.toNat_inj.1; rw [UInt8.toNat_ofNat']; omega)
theorem b2_be (a b : UInt8) : bytes2 (be [a, b]) = [a, b] := by
  have ha := a.toNat_lt
  have hb := b.toNat_lt
  simp only [be, bytes2, List.foldl_cons, List.foldl_nil, List.cons.injEq, and_true]
  refine ⟨?_, ?_⟩ <;> (apply UInt8.toNat_inj.1; rw [UInt8.toNat_ofNat']; omega)
theorem b4_len : ∀ {l : List UInt8}, l.length = 4 → bytes4 (be l) = l
  | [a, b, c, d], _ => b4_be a b c d
theorem b2_len : ∀ {l : List UInt8}, l.length = 2 → bytes2 (be l) = l
  | [a, b], _ => b2_be a b
theorem tk_self {l : List UInt8} {n : Nat} (h : l.length = n) : tk n l = l := by
  subst h
  apply List.ext_getElem
  · simp [tk]
  · intro i h1 h2
    simp [tk, byteAt, h2]
theorem sub_len {b : List UInt8} {a n : Nat} (h : a + n ≤ b.length) : (sub b a n).length = n := by
  unfold sub
  rw [List.length_take, List.length_drop]
  omega
theorem take_sub (b : List UInt8) (a n : Nat) : b.take (a + n) = b.take a ++ sub b a n := List.take_add
theorem be_two (a b : UInt8) : be [a, b] = a.toNat * 256 + b.toNat := by simp [be]
theorem be_262 {a b : UInt8} (h : be [a, b] = 262) : a = 1 ∧ b = 6 := by
  rw [be_two] at h
  have hb := b.toNat_lt
  exact ⟨UInt8.toNat_inj.1 (show a.toNat = 1 by omega), UInt8.toNat_inj.1 (show b.toNat = 6 by omega)⟩
theorem four_head : ∀ {b : List UInt8}, 4 ≤ b.length → be (sub b 1 2) = 262 → [byteAt b 0, 1, 6, byteAt b 3] = b.take 4
  | a0 :: a1 :: a2 :: a3 :: r, _, h => by
    obtain ⟨rfl, rfl⟩ := be_262 (a := a1) (b := a2) h
    rfl
/-- The head of what was read is what stood ahead. -/
theorem headL_getH {b : List UInt8} (h : 236 ≤ b.length) (hs : be (sub b 1 2) = 262) : headL (getH b) = b.take 236 := by
  have e : b.take 236 = b.take 4 ++ sub b 4 4 ++ (sub b 8 2 ++ sub b 10 2) ++ (sub b 12 4 ++ sub b 16 4 ++ sub b 20 4 ++ sub b 24 4) ++ sub b 28 6 ++ sub b 34 10 ++ sub b 44 64 ++ sub b 108 128 := by
    rw [show 236 = 108 + 128 from rfl, take_sub, show 108 = 44 + 64 from rfl, take_sub, show 44 = 34 + 10 from rfl, take_sub, show 34 = 28 + 6 from rfl, take_sub, show 28 = 24 + 4 from rfl, take_sub, show 24 = 20 + 4 from rfl, take_sub, show 20 = 16 + 4 from rfl, take_sub, show 16 = 12 + 4 from rfl, take_sub, show 12 = 10 + 2 from rfl, take_sub, show 10 = 8 + 2 from rfl, take_sub, show 8 = 4 + 4 from rfl, take_sub]
    simp only [List.append_assoc]
  rw [e]
  unfold headL hd2 hd1 ips
  simp only [getH, List.flatMap_cons, List.flatMap_nil, List.append_nil]
  rw [b4_len (sub_len (by omega)), b2_len (sub_len (by omega)), b2_len (sub_len (by omega)), b4_len (sub_len (by omega)), b4_len (sub_len (by omega)), b4_len (sub_len (by omega)), b4_len (sub_len (by omega)), tk_self (sub_len (by omega)), tk_self (sub_len (by omega)), tk_self (sub_len (by omega)), tk_self (sub_len (by omega))]
  have h0 : hd0 (getH b) = b.take 4 := four_head (by omega) hs
  unfold getH at h0
  rw [h0]
  simp only [List.append_assoc]
theorem be_sub_lt (b : List UInt8) (a n m : Nat) (h : 256 ^ n = m) : be (sub b a n) < m := by
  rw [← h]
  exact be_small (by unfold sub; rw [List.length_take]; omega)
theorem okM_getH (b : List UInt8) : OkM (getH b) := ⟨be_sub_lt b 4 4 _ rfl, be_sub_lt b 8 2 _ rfl, be_sub_lt b 10 2 _ rfl, be_sub_lt b 12 4 _ rfl, be_sub_lt b 16 4 _ rfl, be_sub_lt b 20 4 _ rfl, be_sub_lt b 24 4 _ rfl⟩
theorem mayP_spec {x : Opt} (h : mayP x = true) : x.1 ≠ 0 ∧ x.1 ≠ 255 ∧ x.2.length ≤ 255 := by
  simp only [mayP, Bool.and_eq_true, bne_iff_ne, decide_eq_true_eq] at h
  exact ⟨h.1, h.2.1, h.2.2⟩
theorem len_nat {x : Opt} (h : x.2.length ≤ 255) : (UInt8.ofNat x.2.length).toNat = x.2.length := by
  rw [UInt8.toNat_ofNat']
  omega
/-- Told options are read as they were. -/
theorem optR_told : ∀ (L : List Opt) (B : List UInt8) (f : Nat), L.all mayP = true → L.length < f → optR f (optB L ++ 255 :: B) = some (L, B)
  | [], B, f + 1, _, _ => by
    show optR (f + 1) (255 :: B) = _
    rw [optR_cons, if_neg (by decide), if_pos rfl]
  | x :: L, B, f + 1, h, hf => by
    simp only [List.all_cons, Bool.and_eq_true] at h
    obtain ⟨h0, h255, hl⟩ := mayP_spec h.1
    have ih := optR_told L B f h.2 (by simpa using hf)
    have e : optB (x :: L) ++ 255 :: B = x.1 :: UInt8.ofNat x.2.length :: (x.2 ++ (optB L ++ 255 :: B)) := by simp [optB, optB1]
    rw [e, optR_cons, if_neg h0, if_neg h255]
    show (if (x.2 ++ (optB L ++ 255 :: B)).length < (UInt8.ofNat x.2.length).toNat then none else _) = _
    rw [len_nat hl, if_neg (by rw [List.length_append]; omega), List.drop_left, List.take_left, ih]
    rfl
theorem optR_nil : ∀ f, optR f [] = none
  | 0 => rfl
  | _ + 1 => rfl
/-- Cut ahead of the end they are not. -/
theorem optR_cut : ∀ (L : List Opt) (k f : Nat), L.all mayP = true → k ≤ (optB L).length → optR f ((optB L).take k) = none
  | [], k, f, _, _ => by
    show optR f (([] : List UInt8).take k) = none
    rw [List.take_nil]
    exact optR_nil f
  | x :: L, k, 0, _, _ => rfl
  | x :: L, 0, f + 1, _, _ => rfl
  | x :: L, 1, f + 1, h, _ => by
    simp only [List.all_cons, Bool.and_eq_true] at h
    obtain ⟨h0, h255, hl⟩ := mayP_spec h.1
    have e : (optB (x :: L)).take 1 = [x.1] := by simp [optB, optB1]
    rw [e, optR_cons, if_neg h0, if_neg h255]
  | x :: L, k + 2, f + 1, h, hk => by
    simp only [List.all_cons, Bool.and_eq_true] at h
    obtain ⟨h0, h255, hl⟩ := mayP_spec h.1
    have e : (optB (x :: L)).take (k + 2) = x.1 :: UInt8.ofNat x.2.length :: (x.2 ++ optB L).take k := by simp [optB, optB1]
    have e2 : (optB (x :: L)).length = x.2.length + (optB L).length + 2 := by simp [optB, optB1]
    rw [e, optR_cons, if_neg h0, if_neg h255]
    show (if ((x.2 ++ optB L).take k).length < (UInt8.ofNat x.2.length).toNat then none else _) = _
    rw [len_nat hl]
    split
    · rfl
    · rename_i hn
      rw [List.length_take, List.length_append] at hn
      have e3 : ((x.2 ++ optB L).take k).drop x.2.length = (optB L).take (k - x.2.length) := by
        rw [List.drop_take, List.drop_left]
      rw [e3, optR_cut L (k - x.2.length) f h.2 (by omega)]
      rfl
/-- With nothings between. -/
def padB1 (x : Opt) : List UInt8 := [0, 0, x.1, UInt8.ofNat x.2.length] ++ x.2 ++ [0]
def padB (l : List Opt) : List UInt8 := l.flatMap padB1
theorem optR_pad : ∀ (L : List Opt) (B : List UInt8) (f : Nat), L.all mayP = true → 4 * L.length < f → optR f (padB L ++ 255 :: B) = some (L, B)
  | [], B, f + 1, _, _ => by
    show optR (f + 1) (255 :: B) = _
    rw [optR_cons, if_neg (by decide), if_pos rfl]
  | x :: L, B, f, h, hf => by
    simp only [List.all_cons, Bool.and_eq_true] at h
    obtain ⟨h0, h255, hl⟩ := mayP_spec h.1
    rw [List.length_cons] at hf
    obtain ⟨f, rfl⟩ : ∃ g, f = g + 4 := ⟨f - 4, by omega⟩
    have ih := optR_pad L B f h.2 (by omega)
    have e : padB (x :: L) ++ 255 :: B = 0 :: 0 :: x.1 :: UInt8.ofNat x.2.length :: (x.2 ++ (0 :: (padB L ++ 255 :: B))) := by simp [padB, padB1]
    rw [e, optR_cons, if_pos rfl, optR_cons, if_pos rfl, optR_cons, if_neg h0, if_neg h255]
    show (if (x.2 ++ (0 :: (padB L ++ 255 :: B))).length < (UInt8.ofNat x.2.length).toNat then none else _) = _
    rw [len_nat hl, if_neg (by rw [List.length_append]; omega), List.drop_left, List.take_left, optR_cons, if_pos rfl, ih]
    rfl
/-- What is read may be told, and is no longer than what was read. -/
theorem optR_may : ∀ (f : Nat) (r : List UInt8) (L : List Opt) (B : List UInt8), optR f r = some (L, B) → L.all mayP = true ∧ (optB L).length + 1 + B.length ≤ r.length
  | 0, _, _, _, h => by simp [optR] at h
  | f + 1, [], _, _, h => by simp [optR] at h
  | f + 1, c :: r, L, B, h => by
    rw [optR_cons] at h
    split at h
    · obtain ⟨h1, h2⟩ := optR_may f r L B h
      exact ⟨h1, by rw [List.length_cons]; omega⟩
    · rename_i hc0
      split at h
      · cases h
        exact ⟨rfl, by simp [optB]; omega⟩
      · rename_i hc255
        match r, h with
        | n :: r2, h =>
          simp only at h
          split at h
          · cases h
          · rename_i hn
            rw [Option.map_eq_some_iff] at h
            obtain ⟨y, hy, h⟩ := h
            simp only [Prod.mk.injEq] at h
            obtain ⟨rfl, rfl⟩ := h
            obtain ⟨h1, h2⟩ := optR_may f _ y.1 y.2 hy
            have hlt := n.toNat_lt
            have hl : (r2.take n.toNat).length = n.toNat := by rw [List.length_take]; omega
            refine ⟨?_, ?_⟩
            · rw [List.all_cons, h1, Bool.and_true]
              simp only [mayP, Bool.and_eq_true, bne_iff_ne, decide_eq_true_eq]
              exact ⟨hc0, hc255, by rw [hl]; omega⟩
            · have e : (optB ((c, r2.take n.toNat) :: y.1)).length = n.toNat + (optB y.1).length + 2 := by
                simp only [optB, List.flatMap_cons, List.length_append, optB1, List.length_cons, hl]
                omega
              rw [List.length_drop] at h2
              rw [e, List.length_cons, List.length_cons]
              omega
/-- A head that may be. -/
structure OkH (h : List UInt8) : Prop where
  len : h.length = 236
  op : (byteAt h 0 == 1 || byteAt h 0 == 2) = true
  two : sub h 1 2 = [1, 6]
theorem byteAt_app {h r : List UInt8} {i : Nat} (hi : i < h.length) : byteAt (h ++ r) i = byteAt h i := by
  unfold byteAt
  rw [List.getD_eq_getElem?_getD, List.getD_eq_getElem?_getD, List.getElem?_append_left hi]
theorem sub_app {h r : List UInt8} {a n : Nat} (hi : a + n ≤ h.length) : sub (h ++ r) a n = sub h a n := by
  unfold sub
  rw [List.drop_append_of_le_length (by omega), List.take_append_of_le_length (by rw [List.length_drop]; omega)]
theorem cook_be : be cookL = 1669485411 := by decide
theorem okH_two {h : List UInt8} (o : OkH h) (r : List UInt8) : be (sub (h ++ r) 1 2) = 262 := by
  rw [sub_app (by rw [o.len]; omega), o.two]
  decide
theorem sub_cook {h : List UInt8} (hl : h.length = 236) (r : List UInt8) : sub (h ++ cookL ++ r) 236 4 = cookL := by
  unfold sub
  rw [List.append_assoc, List.drop_left' hl]
  rfl
/-- What Get tells of a head that may be. -/
theorem getR_head {h r : List UInt8} (o : OkH h) : getR (h ++ cookL ++ r) = match optR (r.length + 2) r with
    | none => (none, 4)
    | some y => (some (getH (h ++ cookL ++ r), y), 0) := by
  have hl : (h ++ cookL ++ r).length = 240 + r.length := by
    rw [List.length_append, List.length_append, o.len]
    rfl
  have e1 : byteAt (h ++ cookL ++ r) 0 = byteAt h 0 := by
    rw [List.append_assoc]
    exact byteAt_app (by rw [o.len]; omega)
  have e2 : be (sub (h ++ cookL ++ r) 1 2) = 262 := by
    rw [List.append_assoc]
    exact okH_two o _
  have e3 : be (sub (h ++ cookL ++ r) 236 4) = 1669485411 := by rw [sub_cook o.len]; exact cook_be
  have e4 : (h ++ cookL ++ r).drop 240 = r := List.drop_left' (by rw [List.length_append, o.len]; rfl)
  unfold getR
  rw [if_neg (by omega), e1, o.op, if_neg (by decide), e2, if_neg (by decide), e3, if_neg (by decide), e4, hl, show 240 + r.length - 240 + 2 = r.length + 2 by omega]
  cases optR (r.length + 2) r <;> rfl
theorem optB_two (L : List Opt) : 2 * L.length ≤ (optB L).length := by
  induction L with
  | nil => exact Nat.zero_le _
  | cons x L ih =>
    simp only [optB, List.flatMap_cons, List.length_append, optB1, List.length_cons] at ih ⊢
    omega
theorem padB_len (L : List Opt) : 4 * L.length ≤ (padB L).length := by
  induction L with
  | nil => exact Nat.zero_le _
  | cons x L ih =>
    simp only [padB, List.flatMap_cons, List.length_append, padB1, List.length_cons, List.length_nil] at ih ⊢
    omega
section
variable {h : List UInt8} {L : List Opt} {B : List UInt8}
/-- There and back. -/
theorem getR_told (o : OkH h) (hL : L.all mayP = true) : getR (h ++ cookL ++ (optB L ++ 255 :: B)) = (some (getH (h ++ cookL ++ (optB L ++ 255 :: B)), (L, B)), 0) := by
  rw [getR_head o, optR_told L B _ hL (by have := optB_two L; rw [List.length_append]; omega)]
theorem getR_padded (o : OkH h) (hL : L.all mayP = true) : getR (h ++ cookL ++ (padB L ++ 255 :: B)) = (some (getH (h ++ cookL ++ (padB L ++ 255 :: B)), (L, B)), 0) := by
  rw [getR_head o, optR_pad L B _ hL (by have := padB_len L; rw [List.length_append]; omega)]
theorem getR_cut (o : OkH h) (hL : L.all mayP = true) {k : Nat} (hk : k < 241 + (optB L).length) : getR ((h ++ cookL ++ (optB L ++ 255 :: B)).take k) = (none, 4) := by
  have hl : (h ++ cookL).length = 240 := by rw [List.length_append, o.len]; rfl
  by_cases h1 : k < 240
  · unfold getR
    rw [if_pos (by rw [List.length_take]; omega)]
  · have e : (h ++ cookL ++ (optB L ++ 255 :: B)).take k = h ++ cookL ++ (optB L).take (k - 240) := by
      rw [List.take_append, hl, List.take_of_length_le (by omega), List.take_append_of_le_length (by omega)]
    rw [e, getR_head o, optR_cut L _ _ hL (by omega)]
theorem head_told (o : OkH h) (r : List UInt8) : headL (getH (h ++ cookL ++ r)) = h := by
  rw [headL_getH (by rw [List.length_append, List.length_append, o.len]; omega) (by rw [List.append_assoc]; exact okH_two o _), List.append_assoc, List.take_left' o.len]
end
/-- What Get takes. -/
theorem getR_some {b : List UInt8} {H : Mh} {L : List Opt} {B : List UInt8} {e : Nat} (h : getR b = (some (H, (L, B)), e)) : e = 0 ∧ H = getH b ∧ OkH (b.take 236) ∧ L.all mayP = true ∧ 241 + (optB L).length + B.length ≤ b.length ∧ headL H = b.take 236 ∧ (H.op == 1 || H.op == 2) = true := by
  unfold getR at h
  split at h
  · cases h
  · rename_i h240
    split at h
    · cases h
    · rename_i hop
      split at h
      · cases h
      · rename_i h2
        split at h
        · cases h
        · rename_i hc
          have h2 : be (sub b 1 2) = 262 := by omega
          split at h
          · cases h
          · rename_i y hy
            cases h
            obtain ⟨m1, m2⟩ := optR_may _ _ L B hy
            rw [List.length_drop] at m2
            have hop : (byteAt b 0 == 1 || byteAt b 0 == 2) = true := by simpa only [Bool.not_eq_false] using hop
            have e0 : byteAt (b.take 236) 0 = byteAt b 0 := by
              have := byteAt_app (h := b.take 236) (r := b.drop 236) (i := 0) (by rw [List.length_take]; omega)
              rw [List.take_append_drop] at this
              exact this.symm
            have e1 : sub (b.take 236) 1 2 = sub b 1 2 := by
              have := sub_app (h := b.take 236) (r := b.drop 236) (a := 1) (n := 2) (by rw [List.length_take]; omega)
              rw [List.take_append_drop] at this
              exact this.symm
            have e2 : sub b 1 2 = [1, 6] := by
              have hl := sub_len (b := b) (a := 1) (n := 2) (by omega)
              obtain ⟨x, y, hxy⟩ : ∃ x y, sub b 1 2 = [x, y] := by
                match hs : sub b 1 2, hl with
                | [x, y], _ => exact ⟨x, y, rfl⟩
              rw [hxy] at h2 ⊢
              obtain ⟨rfl, rfl⟩ := be_262 h2
              rfl
            exact ⟨rfl, rfl, ⟨by rw [List.length_take]; omega, by rw [e0]; exact hop, by rw [e1]; exact e2⟩, m1, by omega, headL_getH (by omega) h2, hop⟩
theorem getR_none {b : List UInt8} {e : Nat} (h : getR b = (none, e)) : e = 4 ∨ e = 5 := by
  unfold getR at h
  split at h
  · exact .inl (Prod.mk.inj h).2.symm
  · split at h
    · exact .inr (Prod.mk.inj h).2.symm
    · split at h
      · exact .inr (Prod.mk.inj h).2.symm
      · split at h
        · exact .inr (Prod.mk.inj h).2.symm
        · split at h
          · exact .inl (Prod.mk.inj h).2.symm
          · cases h
end Go.Proofs.Ytpnocepepihflaa
namespace Go.Proofs.Ytpnocepepihflaa
open Go.RowKit

def broOp (x : UInt8) : UInt8 := UInt8.ofNat (1 + x.toNat % 2)
def broC (x : UInt8) : UInt8 := UInt8.ofNat (1 + x.toNat % 254)
theorem broOp_nat (c : UInt8) : (broOp c).toNat = 1 + c.toNat % 2 := by
  unfold broOp
  rw [UInt8.toNat_ofNat']
  omega
theorem broC_nat (c : UInt8) : (broC c).toNat = 1 + c.toNat % 254 := by
  unfold broC
  rw [UInt8.toNat_ofNat']
  omega
def broE (e : Oe) : Oe := ⟨broC e.code, e.s.cut (mn e.val.length 255), e.val.take 255⟩
def broM (m : Mh) : Mh := { m with op := broOp m.op }
/-- The options that brought leaves. -/
def broL (l : List Oe) : List Oe := (fewE l).map broE
theorem bro_next {l : List Oe} {n : Nat} (h : n < l.length) : (l.take (n + 1)).map broE = (l.take n).map broE ++ [broE l[n]] := by
  rw [List.take_succ_eq_append_getElem h, List.map_append]
  rfl
noncomputable abbrev brC : Code := bodyOf Try.f12
noncomputable abbrev brN : Nat := Try.f12.ntmps
/-- What brought leaves. -/
def broQ (w : World) (m : Mh) (sb : Sb) (l : List Oe) (bh : List UInt8) : Ending → World → Prop := fun x w' => ∃ u : Sb, x = .returned (.agg ((broM m).a u.v (sb.cut (mn bh.length 40)).v)) ∧ Keep No w w' ∧ Ro false w' u.v (broL l) ∧ Since w.heap.size u.v ∧ Under w'.heap.size u.v
structure BrI where
  j : Nat
  u : Sb
abbrev brRow (w : World) (m : Mh) (so sb : Sb) : List RowS := [⟨w.heap.size, ((broM m).a so.v sb.v).toList, true⟩, ⟨w.heap.size + 1, (mz.a nilV nilV).toList, true⟩]
noncomputable def brL (w : World) (m : Mh) (so sb : Sb) (l : List Oe) (i : BrI) (w' : World) : Cfg := ⟨frOf [1, 2, 3, 14, 15, 16] [pT w.heap.size, pT (w.heap.size + 1), i.u.v, so.v, .int .i64 (l.length : Int), .int .i64 ((l.length - i.j : Nat) : Int)], tagL [(1, 0), (2, 1)], ⟨brRow w m so sb, w'.heap.size⟩, atL brC 5⟩
structure BrJ (w : World) (m : Mh) (so sb : Sb) (l : List Oe) (i : BrI) (w' : World) : Prop where
  le : i.j ≤ l.length
  W : Wst w ⟨brRow w m so sb, w'.heap.size⟩ w'
  H : HxO false (brRow w m so sb) w' so.v l
  oo : Oo false 24 w' i.u.v ((l.take (l.length - i.j)).map broE)
  si : Since (w.heap.size + 2) i.u.v
  ne : ∀ b, so.v.ownBlock = some b → 0 < l.length → ¬ ownB i.u.v b
noncomputable def brR (w : World) (m : Mh) (so sb : Sb) (l : List Oe) (i : BrI) : Act → World → Prop := fun a' w' => ∃ k : BrI, k.j < i.j ∧ BrJ w m so sb l k w' ∧ agrees brN (brL w m so sb l k w') a'
section
variable {w : World} {m : Mh} {so sb : Sb} {l : List Oe} {bh : List UInt8} {Q : Ending → World → Prop}
theorem br_round (hv : ∀ e ∈ l, Rd w e.s.v e.val) (hl : l.length ≤ 1000000) (i : BrI) (w' : World) (hJ : BrJ w m so sb l i w') (j : Nat) (hj : i.j = j + 1) :
    Goal Try.prog (bodyPost Try.prog Try.f12 Q) brN { brL w m so sb l i w' with todo := .code (loopOf (atL brC 5)) :: .inv (brR w m so sb l i) :: (atL brC 5).tail } w' := by
  obtain ⟨hle, hW, H, oo, si, ne⟩ := hJ
  unfold brL
  rw [hj] at hle oo ⊢
  simp only
  obtain ⟨q, hq⟩ : ∃ q, l.length - (j + 1) = q := ⟨_, rfl⟩
  rw [hq] at oo ⊢
  have hql : q < l.length := by omega
  have hnext : l.length - j = q + 1 := by omega
  have rq := hv l[q] (List.getElem_mem hql)
  have hld : ∀ wx, (∀ k, Safe ⟨brRow w m so sb, w'.heap.size⟩ k → wx.heap[k]? = w'.heap[k]?) → (Instr.loadAt 24 (.pointer (some (ad2 so.v q)))).run Try.prog wx = .ok (.agg ((l[q]).a false)) wx := fun wx hx => (H.ro.same fun b hb hn => hx b (H.sf b hb hn)).sem_ld E2o hql
  have hlt := @bro_next l q hql
  obtain ⟨e, he⟩ : ∃ e, l[q] = e := ⟨_, rfl⟩
  rw [he] at hld rq hlt
  have hci : decide ((q : Int) < (l.length : Int)) = true := decide_eq_true (by omega)
  have hinc : IntKind.i64.wrap ((q : Int) + 1) = ((q + 1 : Nat) : Int) := by rw [IntWalk.i64_in _ (by omega)]; omega
  obtain ⟨ly, hly⟩ : ∃ ly, (l.take q).map broE = ly := ⟨_, rfl⟩
  rw [hly] at oo hlt
  have hlen : ly.length ≤ 1000000 := by rw [← hly, List.length_map, List.length_take]; omega
  have hc1 : Int.tmod ((e.code.toNat : Nat) : Int) 254 = ((e.code.toNat % 254 : Nat) : Int) := rem_nat e.code.toNat 254
  have hc2 : IntKind.u8.wrap (1 + ((e.code.toNat % 254 : Nat) : Int)) = (((broC e.code).toNat : Nat) : Int) := by
    rw [broC_nat, IntWalk.u8_in _ (by omega)]
    omega
  have hw2 : w.heap.size + 2 ≤ w'.heap.size := by
    obtain ⟨t, ht⟩ := hW.rows ⟨w.heap.size + 1, (mz.a nilV nilV).toList, true⟩ (by simp)
    exact block_of_row ht
  have sfu : ∀ b, i.u.v.ownBlock = some b → Safe ⟨brRow w m so sb, w'.heap.size⟩ b := fun b hb => ⟨oo.lt b hb, fun r hr _ => by
    have := si b hb
    simp only [List.mem_cons, List.not_mem_nil, or_false] at hr
    rcases hr with rfl | rfl
    · show w.heap.size ≠ b; omega
    · show w.heap.size + 1 ≠ b; omega⟩
  refine go_stop (gt := fun _ => Option.none) (unroll := false) 60 [(5, 0, .is (.bool true)), (6, 0, .sem (.pointer (some (ad2 so.v q)))), (6, 1, .sem (.agg (e.a false)))] [1, 2, 3, 5, 14, 15, 16] [pT w.heap.size, pT (w.heap.size + 1), i.u.v, pT w'.heap.size, so.v, .int .i64 (l.length : Int), .int .i64 (q : Int)] (brRow w m so sb ++ [⟨w'.heap.size, (e.a false).toList, true⟩]) [(1, 0), (2, 1), (5, 2)] (atR brC 7 (.inv (brR w m so sb l i)))
    [(.bool (decide ((q : Int) < (l.length : Int))), .bool true)] [(Instr.indexAt 25 so.v (.int .i64 (q : Int)), .pointer (some (ad2 so.v q))), (Instr.loadAt 24 (.pointer (some (ad2 so.v q))), .agg (e.a false))] hW (by kernel_rfl) ⟨congrArg Value.bool hci, trivial⟩ ⟨fun wx _ => H.ro.sem_at E2o hql wx, hld, trivial⟩ ?_
  intro w5 hW5 hS5
  have oo5 := oo.same fun b hb => hS5.same b (sfu b hb)
  have H5 := H.pass hS5 (fun r hr => by obtain rfl := List.mem_singleton.1 hr; exact Nat.le_refl _)
  have h5s : w'.heap.size < w5.heap.size := by
    obtain ⟨t, ht⟩ := hW5.rows ⟨w'.heap.size, (e.a false).toList, true⟩ (by simp)
    exact block_of_row ht
  have apart : ∀ {z : Value}, (∀ b, z.ownBlock = some b → w.heap.size + 2 ≤ b ∧ b ≠ w'.heap.size) → ∀ {wx : World}, Loose w ⟨brRow w m so sb ++ [⟨w'.heap.size, (e.a false).toList, true⟩], wx.heap.size⟩ (ownB z) := fun hz wx k hk => by
    have h1 := hz k hk
    refine ⟨by omega, fun r hr => ?_⟩
    simp only [List.cons_append, List.nil_append, List.mem_cons, List.not_mem_nil, or_false] at hr
    rcases hr with rfl | rfl | rfl
    · show w.heap.size ≠ k; omega
    · show w.heap.size + 1 ≠ k; omega
    · show w'.heap.size ≠ k; omega
  have hap := apart (z := i.u.v) (fun b hb => ⟨si b hb, by have := oo.lt b hb; omega⟩) (wx := w5)
  refine drawnM_ok (S0 := ownB i.u.v) (gt := fun _ => Option.none) (D := ApD false 24 i.u.v ly [broE e] w5) (g0 := gA i.u.v)
    [(3, .is (.int .u8 ((e.code.toNat % 254 : Nat) : Int))), (4, .is (bv (broC e.code))), (9, .sem (.int .i64 (e.val.length : Int))), (10, .sem (.int .i64 (mn e.val.length 255 : Nat))), (11, .sem (e.s.cut (mn e.val.length 255)).v), (13, .new (lsS false [broE e])), (14, .act padS), (15, .by padS)]
    [1, 2, 3, 14, 15, 16] [.is (pT w.heap.size), .is (pT (w.heap.size + 1)), padS, .is so.v, .is (.int .i64 (l.length : Int)), .is (.int .i64 (q : Int))]
    (True ∧ True ∧ True ∧ Value.int .u8 (Int.tmod ((e.code.toNat : Nat) : Int) 254) = .int .u8 ((e.code.toNat % 254 : Nat) : Int) ∧ Value.int .u8 (IntKind.u8.wrap (1 + ((e.code.toNat % 254 : Nat) : Int))) = bv (broC e.code) ∧ True ∧ True ∧ True ∧ True ∧
      SemM Try.prog (ownB i.u.v) w5 (Builtin.len_ #[22] 3 #[.slice e.s.o e.s.n e.s.c]) (.int .i64 (e.val.length : Int)) ∧
      SemM Try.prog (ownB i.u.v) w5 (Builtin.min_ #[3, 3] 3 #[.int .i64 (e.val.length : Int), .int .i64 255]) (.int .i64 (mn e.val.length 255 : Nat)) ∧
      SemM Try.prog (ownB i.u.v) w5 (Instr.sliceAt 22 (.slice e.s.o e.s.n e.s.c) Option.none (some (.int .i64 (mn e.val.length 255 : Nat))) Option.none) (e.s.cut (mn e.val.length 255)).v ∧
      True ∧
      NewM Try.prog (ownB i.u.v) w5 (Instr.buildSlice 25 1 #[(0, .agg ((broE e).a false))]) (lsS false [broE e]) ∧
      ActM Try.prog (ownB i.u.v) w5 (ApD false 24 i.u.v ly [broE e] w5) 0 (.call { callee := .builtin .append, args := #[.tmp 20, .tmp 33], argTypes := #[25, 25] }) 25 [(20, .is i.u.v), (33, lsS false [broE e])] padS ∧
      ByM Try.prog (ownB i.u.v) w5 (.assign (.tmp 34)) 25 [(34, padS)] padS ∧ True)
    1 (afterR brC 7 (.inv (brR w m so sb l i))) hW5 hap (by kernel_rfl) (by kernel_rfl) (by kernel_rfl) ApD.keep (gA_base oo5) (gA_D oo5)
    ⟨trivial, trivial, trivial, congrArg (Value.int .u8) hc1, congrArg (Value.int .u8) hc2, trivial, trivial, trivial, trivial, fun wx _ => rq.run_len (ty := 3) bt.sl, fun wx _ => run_mn #[3, 3] 3 e.val.length 255, fun wx _ => rq.sem_cutH (mn_le_left _ _) wx, trivial, new_ls (by simp [maxLen]) rfl (fun nx => by kernel_rfl), ap_app E2o (by simp; omega) _, by_assign, trivial⟩ ?_
  intro g w6 vs k6 _ hd hok
  match vs, hok with
  | [x1, x2, x3, x7, x8, x9], ⟨h1, h2, h3, h7, h8, h9, _⟩ =>
  obtain rfl : x1 = _ := h1
  obtain rfl : x2 = _ := h2
  obtain rfl : x7 = _ := h7
  obtain rfl : x8 = _ := h8
  obtain rfl : x9 = _ := h9
  have h3 : x3 = g.val := h3.2
  obtain ⟨_, _, hla, oo6⟩ := hd
  rw [← h3] at hla oo6
  obtain ⟨z, rfl⟩ := oo6.sb
  have hW6 := hW5.laterS k6 hap
  have hz : ∀ b, z.v.ownBlock = some b → w.heap.size + 2 ≤ b ∧ b ≠ w'.heap.size := fun b hb => by
    rcases hla with h | h
    · rw [h] at hb
      exact ⟨si b hb, by have := oo.lt b hb; omega⟩
    · have := h b hb
      omega
  have hapz := apart hz (wx := w6)
  have H6 : HxO false (brRow w m so sb) w6 so.v l := ⟨H5.ro.keep k6 (fun b hb e => ne b hb (by omega) e), fun b hb hn => ⟨Nat.lt_of_lt_of_le (H5.sf b hb hn).1 k6.size, (H.sf b hb hn).2⟩, fun e he => (hv e he).hx (hW6.fewer (rows := brRow w m so sb))⟩
  have ne6 : ∀ b, so.v.ownBlock = some b → 0 < l.length → ¬ ownB z.v b := fun b hb hn e => by
    rcases hla with h | h
    · exact ne b hb hn (h.symm.trans e)
    · have := h b e
      have := (H5.sf b hb hn).1
      simp only at this
      omega
  refine go_inv (gt := fun _ => Option.none) (unroll := false) 60 [(8, 0, .is (.int .i64 ((q + 1 : Nat) : Int)))] [1, 2, 3, 14, 15, 16] [pT w.heap.size, pT (w.heap.size + 1), z.v, so.v, .int .i64 (l.length : Int), .int .i64 ((q + 1 : Nat) : Int)] (brRow w m so sb ++ [⟨w'.heap.size, (e.a false).toList, true⟩]) (brR w m so sb l i)
    [(.int .i64 (IntKind.i64.wrap ((q : Int) + 1)), .int .i64 ((q + 1 : Nat) : Int))] [] hW6 (by kernel_rfl) ⟨congrArg (Value.int .i64) hinc, trivial⟩ trivial ?_
  intro w7 a hW7 hS7 hs
  have oo7 := oo6.same fun b hb => hS7.same b ⟨oo6.lt b hb, fun r hr _ => (hapz b hb).2 r hr⟩
  have H7 : HxO false (brRow w m so sb) w7 so.v l := ⟨H6.ro.same fun b hb hn => hS7.same b ⟨(H6.sf b hb hn).1, fun r hr ho => by
    rcases List.mem_append.1 hr with hr | hr
    · exact (H.sf b hb hn).2 r hr ho
    · obtain rfl := List.mem_singleton.1 hr
      have := (H.sf b hb hn).1
      simp only at this
      show w'.heap.size ≠ b
      omega⟩, fun b hb hn => ⟨Nat.lt_of_lt_of_le (H6.sf b hb hn).1 hS7.le, (H.sf b hb hn).2⟩, fun e he => (hv e he).hx (hW7.fewer (rows := brRow w m so sb))⟩
  refine ⟨⟨j, z⟩, by rw [hj]; exact Nat.lt_succ_self j, ⟨by show j ≤ l.length; omega, hW7.fewer (rows := brRow w m so sb), H7, ?_, fun b hb => (hz b hb).1, ne6⟩, ?_⟩
  · show Oo false 24 w7 z.v ((l.take (l.length - j)).map broE)
    rw [hnext, hlt]
    exact oo7
  · unfold brL
    simp only
    rw [hnext]
    exact hs
set_option maxRecDepth 8000 in
theorem brought_any (r : RoV false w so.v l) (rb : Rd w sb.v bh) (hl : l.length ≤ 9223372036854775807) : Calls Try.prog 12 #[.agg (m.a so.v sb.v)] w (broQ w m sb l bh) := by
  refine enter (args := [.agg (m.a so.v sb.v)]) Try.func12 (by kernel_rfl) ?_
  have hc1 : Int.tmod ((m.op.toNat : Nat) : Int) 2 = ((m.op.toNat % 2 : Nat) : Int) := rem_nat m.op.toNat 2
  have hc2 : IntKind.u8.wrap (1 + ((m.op.toNat % 2 : Nat) : Int)) = (((broOp m.op).toNat : Nat) : Int) := by
    rw [broOp_nat, IntWalk.u8_in _ (by omega)]
    omega
  refine go_call_is (gt := fun _ => Option.none) (unroll := false) 60 [] 18 [.agg (m.a so.v sb.v)] [1, 2] [pT w.heap.size, pT (w.heap.size + 1)] 7 [⟨w.heap.size, (m.a so.v sb.v).toList, true⟩, ⟨w.heap.size + 1, (mz.a nilV nilV).toList, true⟩] [(1, 0), (2, 1)] (inR brC 1 1) [] [] (Wst.start0 w) (by kernel_rfl) trivial trivial ?_
  intro w1 hW1 _
  refine (few_any (m := m) (r.keep0 hW1.keep) (rb.keep0 hW1.keep) hl).mono ?_
  rintro x w2 ⟨u, rfl, k2, ro2, si2, un2⟩
  refine ⟨_, rfl, ?_⟩
  have hW2 := hW1.later k2
  have hv2 : ∀ e ∈ fewE l, Rd w e.s.v e.val := fun e he => by
    obtain ⟨e0, h0, rfl⟩ := List.mem_map.1 he
    exact (r.each e0 (List.mem_of_mem_take h0)).cutS 300
  have hw2 : w.heap.size + 2 ≤ w1.heap.size := by
    obtain ⟨t, ht⟩ := hW1.rows ⟨w.heap.size + 1, (mz.a nilV nilV).toList, true⟩ (by simp)
    exact block_of_row ht
  obtain ⟨lf, hlf⟩ : ∃ lf, fewE l = lf := ⟨_, rfl⟩
  have hlen : lf.length ≤ 12 := by rw [← hlf]; exact fewE_len l
  have hbl : broL l = lf.map broE := by rw [← hlf]; rfl
  rw [hlf] at ro2 hv2
  obtain ⟨z, hz⟩ : ∃ z, sb.cut (mn bh.length 40) = z := ⟨_, rfl⟩
  rw [hz]
  have H2 : HxO false [⟨w.heap.size, (m.a so.v sb.v).toList, true⟩, ⟨w.heap.size + 1, (mz.a nilV nilV).toList, true⟩] w2 u.v lf := ⟨ro2, fun b hb _ => ⟨un2 b hb, fun r hr _ => by
    have := si2 b hb
    simp only [List.mem_cons, List.not_mem_nil, or_false] at hr
    rcases hr with rfl | rfl
    · show w.heap.size ≠ b; omega
    · show w.heap.size + 1 ≠ b; omega⟩, fun e he => (hv2 e he).hx hW2⟩
  refine go_stop (gt := fun _ => Option.none) (unroll := false) 60 [(2, 2, .is (.int .u8 ((m.op.toNat % 2 : Nat) : Int))), (2, 3, .is (bv (broOp m.op))), (4, 2, .sem (.int .i64 (lf.length : Int)))] [1, 2, 3, 14, 15, 16] [pT w.heap.size, pT (w.heap.size + 1), nilV, u.v, .int .i64 (lf.length : Int), .int .i64 0] (brRow w m u z) [(1, 0), (2, 1)] (atL brC 5) [(.int .u8 (Int.tmod ((m.op.toNat : Nat) : Int) 2), .int .u8 ((m.op.toNat % 2 : Nat) : Int)), (.int .u8 (IntKind.u8.wrap (1 + ((m.op.toNat % 2 : Nat) : Int))), bv (broOp m.op))] [(Builtin.len_ #[25] 3 #[u.v], .int .i64 (lf.length : Int))] hW2 (by kernel_rfl) ⟨congrArg (Value.int .u8) hc1, congrArg (Value.int .u8) hc2, trivial⟩ ⟨fun wx _ => ro2.sem_len E2o (ty := 3) wx, trivial⟩ ?_
  intro w3 hW3 hS3
  have h3s : w2.heap.size ≤ w3.heap.size := hS3.le
  have H3 : HxO false (brRow w m u z) w3 u.v lf := ⟨H2.ro.same fun b hb hn => hS3.same b (H2.sf b hb hn), fun b hb hn => ⟨Nat.lt_of_lt_of_le (H2.sf b hb hn).1 h3s, fun r hr _ => by
    have := si2 b hb
    simp only [List.mem_cons, List.not_mem_nil, or_false] at hr
    rcases hr with rfl | rfl
    · show w.heap.size ≠ b; omega
    · show w.heap.size + 1 ≠ b; omega⟩, fun e he => (hv2 e he).hx hW3⟩
  have key := loop_okT (P := Try.prog) (Q := bodyPost Try.prog Try.f12 (broQ w m sb l bh)) (n := brN) (x := loopOf (atL brC 5)) (k := (atL brC 5).tail) (fun i : BrI => i.j) (brL w m u z lf) (BrJ w m u z lf) (fun _ _ => by kernel_rfl) ?_ ⟨lf.length, ⟨none, 0, 0⟩⟩ w3
    ⟨Nat.le_refl _, hW3, H3, by rw [Nat.sub_self]; exact Oo.nil _ _, nilV_since _, fun b _ _ h => by simp [ownB, Value.ownBlock] at h⟩
  · unfold brL at key
    rw [Nat.sub_self] at key
    exact key
  intro i w' hJ
  rcases Nat.eq_zero_or_pos i.j with hi | hi
  case inr =>
    obtain ⟨j, hj⟩ := Nat.exists_eq_succ_of_ne_zero (Nat.ne_of_gt hi)
    exact br_round hv2 (by omega) i w' hJ j hj
  case inl =>
    obtain ⟨hle, hW, H, oo, si, ne⟩ := hJ
    rw [hi, Nat.sub_zero, List.take_length] at oo
    unfold brL
    rw [hi]
    simp only [Nat.sub_zero]
    obtain ⟨y, hy⟩ : ∃ y, i.u = y := ⟨_, rfl⟩
    rw [hy] at oo si ⊢
    refine go_ret (gt := fun _ => Option.none) (unroll := false) 60 [(5, 0, .is (.bool false))] [.cell 2 35] (.agg ((broM m).a y.v z.v)) [(.bool (decide ((lf.length : Int) < (lf.length : Int))), .bool false)] [] hW Try.results12 (by kernel_rfl) ⟨congrArg Value.bool (by simp), trivial⟩ trivial ?_
    intro w9 hW9 hS9
    have oo9 := oo.same fun b hb => hS9.same b ⟨oo.lt b hb, fun r hr _ => by
      have := si b hb
      simp only [List.mem_cons, List.not_mem_nil, or_false] at hr
      rcases hr with rfl | rfl
      · show w.heap.size ≠ b; omega
      · show w.heap.size + 1 ≠ b; omega⟩
    exact ⟨y, by rw [hz], hW9.keep, by rw [hbl]; exact oo9.rt, fun b hb => by have := si b hb; omega, oo9.lt⟩
end
end Go.Proofs.Ytpnocepepihflaa
namespace Go.Proofs.Ytpnocepepihflaa
open Go.RowKit

/-- Behind a step that turned rows and made new ones. -/
def RowGo (rows rows' : List RowS) (n : Nat) : Prop := ∀ r' ∈ rows', (∃ r ∈ rows, r.own = true ∧ r.b = r'.b) ∨ n ≤ r'.b
section
variable {rows rows' : List RowS} {w w' : World} {v : Value} {n : Nat} {bs : List UInt8} {q : Bool} {l : List Oe}
theorem Sf.go (h : Sf rows w v n) (hle : w.heap.size ≤ w'.heap.size) (hr : RowGo rows rows' w.heap.size) : Sf rows' w' v n := fun b hb hn =>
  ⟨Nat.lt_of_lt_of_le (h b hb hn).1 hle, fun r hm ho => by
    rcases hr r hm with ⟨r0, h1, h2, h3⟩ | h1
    · rw [← h3]
      exact (h b hb hn).2 r0 h1 h2
    · have h2 : b < w.heap.size := (h b hb hn).1
      omega⟩
theorem Hx.go (h : Hx rows w v bs) (hS : Seg ⟨rows, w.heap.size⟩ w ⟨rows', w'.heap.size⟩ w') (hr : RowGo rows rows' w.heap.size) : Hx rows' w' v bs := ⟨h.rd.same fun b hb hn => hS.same b (h.sf b hb hn), h.sf.go hS.le hr⟩
theorem HxO.go (h : HxO q rows w v l) (hS : Seg ⟨rows, w.heap.size⟩ w ⟨rows', w'.heap.size⟩ w') (hr : RowGo rows rows' w.heap.size) : HxO q rows' w' v l := ⟨h.ro.same fun b hb hn => hS.same b (h.sf b hb hn), h.sf.go hS.le hr, fun e he => (h.each e he).go hS hr⟩
/-- To other rows, the world being the same. -/
theorem Hx.to (h : Hx rows w v bs) (hr : ∀ r' ∈ rows', r'.own = true → ∃ r ∈ rows, r.own = true ∧ r.b = r'.b) : Hx rows' w v bs := ⟨h.rd, fun b hb hn => ⟨(h.sf b hb hn).1, fun r hm ho => by
  obtain ⟨r0, h1, h2, h3⟩ := hr r hm ho
  rw [← h3]
  exact (h.sf b hb hn).2 r0 h1 h2⟩⟩
end
/-- A message's slices, held. -/
structure HM (rows : List RowS) (w : World) (o b : Sb) (es : List Oe) (bl : List UInt8) : Prop where
  o : HxO false rows w o.v es
  b : Hx rows w b.v bl
section
variable {rows rows' more : List RowS} {W0 w w' : World} {o b : Sb} {es : List Oe} {bl : List UInt8}
theorem HM.go (h : HM rows w o b es bl) (hS : Seg ⟨rows, w.heap.size⟩ w ⟨rows', w'.heap.size⟩ w') (hr : RowGo rows rows' w.heap.size) : HM rows' w' o b es bl := ⟨h.o.go hS hr, h.b.go hS hr⟩
theorem HM.call (h : HM rows w o b es bl) (k : Keep No w w') : HM rows w' o b es bl := ⟨h.o.call k, h.b.call k⟩
theorem HM.fewer (h : HM (rows ++ more) w o b es bl) : HM rows w o b es bl := ⟨h.o.fewer, h.b.fewer⟩
theorem HM.none (h : HM rows w o b es bl) : HM [] w o b es bl := ⟨h.o.none, h.b.none⟩
/-- A message that was got. -/
theorem HM.got {W : World} (h1 : NewO w.heap.size w' o.v es) (h2 : NewB w.heap.size w' b.v bl) (hW : Wst W ⟨rows, w.heap.size⟩ w) : HM rows w' o b es bl := ⟨h1.hx hW, h2.hx hW⟩
end
/-- What of tells of a message. -/
def ofP (hl : List UInt8) (os : List Opt) (bl : List UInt8) (w : World) (x : Value) : Prop := ∃ (h o b : Sb) (es : List Oe), x = .agg #[h.v, o.v, b.v] ∧ Rd w h.v hl ∧ RoV true w o.v es ∧ es.map Oe.o = os ∧ Rd w b.v bl
theorem ofP.keep {hl bl : List UInt8} {os : List Opt} {w w' : World} {x : Value} (h : ofP hl os bl w x) (k : Keep No w w') : ofP hl os bl w' x := by
  obtain ⟨h, o, b, es, h1, h2, h3, h4, h5⟩ := h
  exact ⟨h, o, b, es, h1, h2.keep0 k, h3.keep0 k, h4, h5.keep0 k⟩
def ofSv (hl : List UInt8) (os : List Opt) (bl : List UInt8) : Sv := .such (ofP hl os bl) (fun _ _ _ k h => h.keep k)
section
variable {w0 : World} {m : Mh} {so sb : Sb} {l : List Oe} {bl hl : List UInt8} {os : List Opt}
theorem of_tell {w : World} (r : RoV false w so.v l) (rb : Rd w sb.v bl) (hn : l.length ≤ 1000000) : Calls Try.prog 16 #[.agg (m.a so.v sb.v)] w (fun e w' => ∃ v, e = .returned v ∧ Keep No w w' ∧ ofP (headL m) (l.map Oe.o) bl w' v) := by
  refine (of_any r hn).mono ?_
  rintro e w' ⟨h, o, rfl, k, h1, h2, h3, h4⟩
  exact ⟨_, rfl, k, h, o, sb, l, rfl, h1.rd, ⟨h2, fun e he => (r.each e he).keep0 k⟩, rfl, rb.keep0 k⟩
theorem of_ob (r : RoV false w0 so.v l) (rb : Rd w0 sb.v bl) (hn : l.length ≤ 1000000) (hh : headL m = hl) (ho : l.map Oe.o = os) : CallOb Try.prog w0 16 [.is (.agg (m.a so.v sb.v))] (ofSv hl os bl) := by
  subst hh ho
  intro w vals k ha
  match vals, ha with
  | [a], ⟨ha, _⟩ =>
    obtain rfl : a = _ := ha
    exact of_tell (r.keep0 k) (rb.keep0 k) hn
theorem same_ob (hn : os.length ≤ 1000000) : CallOb Try.prog w0 15 [ofSv hl os bl, ofSv hl os bl] (.is (.bool true)) := by
  intro w vals k ha
  obtain ⟨a, b, rfl, ha, hb⟩ := allOk2 ha
  obtain ⟨h1, o1, b1, e1, rfl, p1, p2, p3, p4⟩ : ofP hl os bl w a := ha
  obtain ⟨h2, o2, b2, e2, rfl, q1, q2, q3, q4⟩ : ofP hl os bl w b := hb
  have hl : e1.length ≤ 1000000 := by
    have := congrArg List.length p3
    rw [List.length_map] at this
    omega
  have hc := same_true p1 q1 p4 q4 p2 q2 (p3.trans q3.symm) hl
  refine Calls.mono hc ?_
  rintro e w' ⟨rfl, k⟩
  exact ⟨_, rfl, k, rfl⟩
theorem wakes_ob : CallOb Try.prog w0 11 [] (.is (.bool true)) := by
  intro w vals k ha
  match vals, ha with
  | [], _ =>
    refine (wakes_any w).mono ?_
    rintro e w' ⟨rfl, k⟩
    exact ⟨_, rfl, k, rfl⟩
end
/-- What may be, of any options: all may be told. -/
theorem broL_may {l : List Oe} : ((broL l).map Oe.o).all mayP = true := by
  rw [List.all_eq_true]
  intro x hx
  obtain ⟨e, he, rfl⟩ := List.mem_map.1 hx
  obtain ⟨e0, _, rfl⟩ := List.mem_map.1 he
  have h1 := broC_nat e0.code
  simp only [mayP, Oe.o, broE, Bool.and_eq_true, bne_iff_ne, decide_eq_true_eq, List.length_take]
  refine ⟨fun h => ?_, fun h => ?_, by omega⟩
  · rw [h] at h1; have : (0 : UInt8).toNat = 0 := rfl; omega
  · rw [h] at h1; have : (255 : UInt8).toNat = 255 := rfl; omega
theorem broM_op (m : Mh) : ((broM m).op == 1 || (broM m).op == 2) = true := by
  have h1 := broOp_nat m.op
  show (broOp m.op == 1 || broOp m.op == 2) = true
  rcases Nat.mod_two_eq_zero_or_one m.op.toNat with h | h
  · have : broOp m.op = 1 := UInt8.toNat_inj.1 (by rw [h1, h]; rfl)
    rw [this]; rfl
  · have : broOp m.op = 2 := UInt8.toNat_inj.1 (by rw [h1, h]; rfl)
    rw [this]; rfl
theorem okM_bro {m : Mh} (h : OkM m) : OkM (broM m) := ⟨h.xid, h.secs, h.flags, h.client, h.yours, h.next, h.relay⟩
theorem okH_headL {m : Mh} (h : (m.op == 1 || m.op == 2) = true) : OkH (headL m) := ⟨headL_len m, h, rfl⟩
theorem broL_len (l : List Oe) : (broL l).length ≤ 12 := by
  unfold broL
  rw [List.length_map]
  exact fewE_len l
theorem broL_each {w : World} {l : List Oe} (h : ∀ e ∈ l, Rd w e.s.v e.val) : ∀ e ∈ broL l, Rd w e.s.v e.val := fun e he => by
  obtain ⟨e1, h1, rfl⟩ := List.mem_map.1 he
  obtain ⟨e2, h2, rfl⟩ := List.mem_map.1 h1
  exact (((h e2 (List.mem_of_mem_take h2)).cutS 300).cutS 255)
theorem fewE_each {w : World} {l : List Oe} (h : ∀ e ∈ l, Rd w e.s.v e.val) : ∀ e ∈ fewE l, Rd w e.s.v e.val := fun e he => by
  obtain ⟨e2, h2, rfl⟩ := List.mem_map.1 he
  exact (h e2 (List.mem_of_mem_take h2)).cutS 300
end Go.Proofs.Ytpnocepepihflaa
namespace Go.Proofs.Ytpnocepepihflaa
open Go.RowKit
namespace H

/-- New, and not in the region's blocks. -/
def FrZ (N : Nat) (g : Gh) (w : World) (v : Value) : Prop := Since N v ∧ ∀ b, v.ownBlock = some b → b < w.heap.size ∧ ¬ g.priv b
theorem FrZ.tr {N : Nat} {g g' : Gh} {w w' : World} {v : Value} (h : FrZ N g w v) (k : Tr g w g' w') : FrZ N g' w' v := ⟨h.1, fun b hb => ⟨Nat.lt_of_lt_of_le (h.2 b hb).1 k.keep.size, fun hp => by
  rcases k.priv b hp with h1 | h1
  · exact (h.2 b hb).2 h1
  · have := (h.2 b hb).1; omega⟩⟩
structure GotF (N : Nat) (os : List Opt) (bl : List UInt8) (g : Gh) (w : World) (z b : Sb) (es : List Oe) : Prop where
  o : es.map Oe.o = os
  ro : Ro false w z.v es
  fz : FrZ N g w z.v
  each : ∀ e ∈ es, Rd w e.s.v e.val ∧ FrZ N g w e.s.v
  rb : Rd w b.v bl
  fb : FrZ N g w b.v
theorem GotF.tr {N : Nat} {os : List Opt} {bl : List UInt8} {g g' : Gh} {w w' : World} {z b : Sb} {es : List Oe} (h : GotF N os bl g w z b es) (k : Tr g w g' w') : GotF N os bl g' w' z b es :=
  ⟨h.o, h.ro.keep k.keep (fun b hb => (h.fz.2 b hb).2), h.fz.tr k, fun e he => ⟨(h.each e he).1.keep k.keep (fun b hb => ((h.each e he).2.2 b hb).2), (h.each e he).2.tr k⟩, h.rb.keep k.keep (fun b hb => (h.fb.2 b hb).2), h.fb.tr k⟩
def gotX (N : Nat) (m : Mh) (os : List Opt) (bl : List UInt8) (g : Gh) (w : World) (x : Value) : Prop := ∃ (z b : Sb) (es : List Oe), x = .agg (m.a z.v b.v) ∧ GotF N os bl g w z b es
theorem gotX.tr {N : Nat} {m : Mh} {os : List Opt} {bl : List UInt8} {g g' : Gh} {w w' : World} {x : Value} (h : gotX N m os bl g w x) (k : Tr g w g' w') : gotX N m os bl g' w' x := by
  obtain ⟨z, b, es, h1, h2⟩ := h
  exact ⟨z, b, es, h1, h2.tr k⟩
def gotS (N : Nat) (m : Mh) (os : List Opt) (bl : List UInt8) : Sm := .such (gotX N m os bl) (fun _ _ _ _ _ k h => h.tr k)
def tupS (N : Nat) (m : Mh) (os : List Opt) (bl : List UInt8) : Sm := .such (fun g w x => ∃ y, x = .tuple #[y, .int .i64 0] ∧ gotX N m os bl g w y) (fun _ _ _ _ _ k h => by obtain ⟨y, h1, h2⟩ := h; exact ⟨y, h1, h2.tr k⟩)
/-- Behind two appends, beside a row; behind the store. -/
def GetD (u : Value) (B : Nat → List UInt8) (w0 : World) (m : Mh) (os : List Opt) (bl : List UInt8) : Nat → Nat → Gh → World → Prop
  | 3, _, g, w => ∃ (z b : Sb) (es : List Oe) (q : Nat), (∀ y, (99, y) ∈ g.val → y = pT q) ∧ w0.heap.size ≤ q ∧ (∃ t, w.heap[q]? = some (.cells (m.a z.v b.v).toList.toArray t (0, 0))) ∧ g.priv q ∧ GotF w0.heap.size os bl g w z b es
  | k, n, g, w => ChD u (mz.a nilV nilV).toList B w0 k n g w
section
variable {u : Value} {B : Nat → List UInt8} {w0 : World} {m : Mh} {os : List Opt} {bl : List UInt8}
theorem GetD.low : ∀ {k n : Nat} {g : Gh} {w : World}, k ≤ 2 → (GetD u B w0 m os bl k n g w ↔ ChD u (mz.a nilV nilV).toList B w0 k n g w)
  | 0, _, _, _, _ => Iff.rfl
  | 1, _, _, _, _ => Iff.rfl
  | 2, _, _, _, _ => Iff.rfl
theorem GetD.keep : ∀ (k n : Nat) (g : Gh) (w w' : World), Keep No w w' → GetD u B w0 m os bl k n g w → GetD u B w0 m os bl k n g w'
  | 0, _, _, _, _, kp, h => ChD.keep _ _ _ _ _ kp h
  | 1, _, _, _, _, kp, h => ChD.keep _ _ _ _ _ kp h
  | 2, _, _, _, _, kp, h => ChD.keep _ _ _ _ _ kp h
  | 3, _, _, _, _, kp, ⟨z, b, es, q, h1, h2, ⟨t, h3⟩, h4, h5⟩ => ⟨z, b, es, q, h1, h2, ⟨t, (kp.block q (block_of_row h3) (fun f => f)).trans h3⟩, h4, h5.tr (Tr.quiet kp)⟩
  | _ + 4, _, _, _, _, kp, h => ChD.keep _ _ _ _ _ kp h
set_option maxRecDepth 8000 in
theorem mid_get {x : Tmp} {ty : TypeId} (hg : getR (B 2) = (some (m, (os, bl)), 0)) (hl : (B 2).length ≤ 1000000) :
    MidM Try.prog (ownB u) w0 (GetD u B w0 m os bl) 2 (.call { callee := .value (.func 14), args := #[.tmp x], argTypes := #[22] }) ty [(x, nth 2)] (tupS w0.heap.size m os bl) := by
  intro a o g w k ho hty hk hb hk2 ⟨n, hd⟩ hr
  obtain ⟨v, ob, h⟩ := (GetD.low hk2).1 hd
  have hx : (2, a.tmps.getD x undef) ∈ g.val := hr (x, nth 2) (by simp)
  have hk3 : k = 2 := by rcases h.le _ _ hx with h1 | h1 <;> omega
  subst hk3
  have ex := h.cur _ hx
  have ea : (#[Operand.tmp x] : Array Operand).map a.eval = #[a.tmps.getD x undef] := by simp [Act.eval]
  rw [run_call ho rfl (by kernel_rfl), ea]
  show Keep No w w ∧ Calls Try.prog 14 #[a.tmps.getD x undef] w (fun e w'' => ∃ v, e = .returned v ∧ Keep No w w'' ∧ (tupS w0.heap.size m os bl).ok g w'' v)
  rw [ex]
  refine ⟨Keep.refl _ _, ?_⟩
  refine (dget_any h.own.rd hl).mono ?_
  rintro e w' ⟨y, rfl, kp, hm⟩
  rw [hg] at hm
  obtain ⟨z, b, es, hy, h1, h2, h3⟩ := hm
  have fr : ∀ {v : Value}, Since w.heap.size v → Under w'.heap.size v → FrZ w0.heap.size g w' v := fun hs hu => ⟨hs.mono hk.size, fun i hi => ⟨hu i hi, fun hp => by have := (hb i hp).1; have := hs i hi; omega⟩⟩
  have hgf : GotF w0.heap.size os bl g w' z b es := ⟨h1, h2.ro, fr h2.si h2.un, fun e he => ⟨(h2.each e he).rd, fr (h2.each e he).si (h2.each e he).un⟩, h3.rd, fr h3.si h3.un⟩
  have hgx : gotX w0.heap.size m os bl g w' y := ⟨z, b, es, hy, hgf⟩
  refine ⟨_, rfl, kp, y, ?_, hgx⟩
  rw [hg]
  rfl
theorem by_move {P : Program} {S0 : Nat → Prop} {t : Tmp} {ty : TypeId} {s : Sm} : ByM P S0 w0 (.move (.tmp t)) ty [(t, s)] s := by
  intro a o g w ho hty k hb hr
  have h := hr (t, s) (by simp)
  unfold execOp
  rw [ho]
  exact ⟨Keep.refl _ _, h⟩
theorem by_ext0 {P : Program} {S0 : Nat → Prop} {t : Tmp} {ty : TypeId} {N : Nat} : ByM P S0 w0 (.extract (.tmp t) 0) ty [(t, tupS N m os bl)] (gotS N m os bl) := by
  intro a o g w ho hty k hb hr
  obtain ⟨y, h1, h2⟩ : ∃ y, a.tmps.getD t undef = .tuple #[y, .int .i64 0] ∧ gotX N m os bl g w y := hr (t, tupS N m os bl) (by simp)
  unfold execOp
  simp only [ho]
  rw [show a.eval (.tmp t) = _ from h1]
  exact ⟨Keep.refl _ _, h2⟩
theorem by_ext1 {P : Program} {S0 : Nat → Prop} {t : Tmp} {ty : TypeId} {N : Nat} : ByM P S0 w0 (.extract (.tmp t) 1) ty [(t, tupS N m os bl)] (.is (.int .i64 0)) := by
  intro a o g w ho hty k hb hr
  obtain ⟨y, h1, h2⟩ : ∃ y, a.tmps.getD t undef = .tuple #[y, .int .i64 0] ∧ gotX N m os bl g w y := hr (t, tupS N m os bl) (by simp)
  unfold execOp
  simp only [ho]
  rw [show a.eval (.tmp t) = _ from h1]
  exact ⟨Keep.refl _ _, rfl⟩
theorem act_fill {W : World} {p v : Tmp} {e ty : TypeId} (hK : ∀ w, Keep (ownB u) w0 w → Keep No W w) (l : Nat → List (Nat × Nat)) (hl : ∀ b, ∀ q ∈ l b, q.1 = q.2)
    (hq : ∀ zo zn zc bo bn bc b nx, gRun Try.prog (some 0) (Instr.storeAt e (.pointer (some ⟨b, 0, none⟩)) (.agg (m.a (.slice zo zn zc) (.slice bo bn bc)))) ⟨[⟨b, (mz.a nilV nilV).toList, true⟩], nx⟩ = some ((), ⟨[⟨b, (m.a (.slice zo zn zc) (.slice bo bn bc)).toList, true⟩], nx⟩, l b)) :
    ActM Try.prog (ownB u) w0 (GetD u B w0 m os bl) 2 (.store e (.tmp p) (.tmp v)) ty [(p, nth 99), (v, gotS w0.heap.size m os bl)] (.is undef) := by
  intro a o g w n ho _ hk hb hd hr
  obtain ⟨x, ob, h⟩ := (GetD.low (Nat.le_refl 2)).1 hd
  have hp : (99, a.tmps.getD p undef) ∈ g.val := hr (p, nth 99) (by simp)
  obtain ⟨z, b, es, e2, hf⟩ : gotX w0.heap.size m os bl g w (a.tmps.getD v undef) := hr (v, gotS w0.heap.size m os bl) (by simp)
  obtain ⟨q, hob, e1⟩ := h.row _ hp
  obtain ⟨hq0, hxq, t, hrow⟩ := h.obr q hob
  have hWq : W.heap.size ≤ q := by
    have h1 := hK w0 (Keep.refl _ _)
    exact Nat.le_trans h1.size hq0
  obtain ⟨w', t', he, k1, hs, hrow'⟩ := store_step (W := W) (b := q) (off := 0) (V := .agg (m.a z.v b.v)) ho e1 (show a.eval (.tmp v) = _ from e2) hrow (hK w hk) hWq (l q) (hl q) (hq z.o z.n z.c b.o b.n b.c q)
  rw [he]
  have hpq : g.priv q := (h.priv q).2 (.inr hob)
  have htr : Tr g w g w' := ⟨k1.mono fun i _ hi => by rw [show i = q from hi]; exact hpq, fun i hi => .inl hi, fun y hy => hy⟩
  refine ⟨g, htr, fun i hi => ⟨by have := (hb i hi).1; omega, (hb i hi).2⟩, ⟨z, b, es, q, fun y hy => ?_, hq0, ⟨t', hrow'⟩, hpq, hf.tr htr⟩, rfl⟩
  obtain ⟨q2, h2, h3⟩ := h.row y hy
  rw [hob] at h2
  rw [h3, ← Option.some.inj h2]
end
end H
end Go.Proofs.Ytpnocepepihflaa
namespace Go.Proofs.Ytpnocepepihflaa
open Go.RowKit

def tellL (h : List UInt8) (L : List Opt) (B : List UInt8) : List UInt8 := h ++ cookL ++ (optB L ++ 255 :: B)
theorem bytesH_may {h : List UInt8} {op : UInt8} {L : List Opt} {B : List UInt8} (ho : (op == 1 || op == 2) = true) (hL : L.all mayP = true) : bytesH h op L B = some (tellL h L B) := by
  unfold bytesH tellL
  rw [if_pos ho, if_pos hL, List.append_assoc (h ++ cookL)]
theorem tellL_len {h : List UInt8} {L : List Opt} {B : List UInt8} (hh : h.length = 236) : (tellL h L B).length = 241 + (optB L).length + B.length := by
  unfold tellL
  simp only [List.length_append, hh, List.length_cons]
  show 236 + 4 + _ = _
  omega
noncomputable abbrev bkC : Code := bodyOf Try.f4
noncomputable abbrev bkN : Nat := Try.f4.ntmps
abbrev bkR (w : World) (m : Mh) (u z : Sb) : List RowS := [⟨w.heap.size, (m.a u.v z.v).toList, true⟩]
theorem bk_go {w : World} {m m' : Mh} {u z u' z' : Sb} {n : Nat} : RowGo (bkR w m u z) (bkR w m' u' z') n := fun r hr => by
  obtain rfl := List.mem_singleton.1 hr
  exact .inl ⟨_, List.mem_singleton.2 rfl, rfl, rfl⟩
theorem bk_go2 {w : World} {m m' : Mh} {u z u' z' : Sb} {n k : Nat} {cs : List Value} (h : n ≤ k) : RowGo (bkR w m u z) (bkR w m' u' z' ++ [⟨k, cs, true⟩]) n := fun r hr => by
  rcases List.mem_append.1 hr with hr | hr
  · exact bk_go r hr
  · obtain rfl := List.mem_singleton.1 hr
    exact .inr h
section
variable {w : World} {m : Mh} {so sb : Sb} {l : List Oe} {bh : List UInt8} {v : Value} {c : Nat} {R : Ending → World → Prop}
set_option maxRecDepth 8000 in
theorem bk1 (ok : OkM m) (r : RoV false w so.v l) (rb : Rd w sb.v bh) (hl : l.length ≤ 9223372036854775807)
    (hk : ∀ (u z : Sb) (v7 : Value) w5, z = sb.cut (mn bh.length 40) → Wst w ⟨bkR w (broM m) u z, w5.heap.size⟩ w5 → HxO false (bkR w (broM m) u z) w5 u.v (broL l) → Since (w.heap.size + 1) u.v → Hx (bkR w (broM m) u z) w5 v7 (tellL (headL (broM m)) ((broL l).map Oe.o) (bh.take 40)) →
      Goal Try.prog (bodyPost Try.prog Try.f4 R) bkN ⟨frOf [1, 2, 3, 7, 50] [v, .int .u16 (c : Int), pT w.heap.size, v7, .bool false], tagL [(3, 0)], ⟨bkR w (broM m) u z, w5.heap.size⟩, afterR bkC 4⟩ w5) :
    Calls Try.prog 4 #[.agg (m.a so.v sb.v), v, .int .u16 (c : Int)] w R := by
  refine enter (args := [.agg (m.a so.v sb.v), v, .int .u16 (c : Int)]) Try.func4 (by kernel_rfl) ?_
  refine go_call_is (gt := fun _ => Option.none) (unroll := false) 60 [] 12 [.agg (m.a so.v sb.v)] [1, 2, 3] [v, .int .u16 (c : Int), pT w.heap.size] 26 (bkR w m so sb) [(3, 0)] (inR bkC 1 1) [] [] (Wst.start0 w) (by kernel_rfl) trivial trivial ?_
  intro w1 hW1 _
  refine (brought_any (m := m) (r.keep0 hW1.keep) (rb.keep0 hW1.keep) hl).mono ?_
  rintro x w2 ⟨u, rfl, k2, ro2, si2, un2⟩
  refine ⟨_, rfl, ?_⟩
  have hW2 := hW1.later k2
  have hw1 : w.heap.size + 1 ≤ w1.heap.size := by
    obtain ⟨t, ht⟩ := hW1.rows ⟨w.heap.size, (m.a so.v sb.v).toList, true⟩ (by simp)
    exact block_of_row ht
  have siu : Since (w.heap.size + 1) u.v := si2.mono hw1
  have rz : Rd w (sb.cut (mn bh.length 40)).v (bh.take 40) := rb.cutS 40
  obtain ⟨z, hz⟩ : ∃ z, sb.cut (mn bh.length 40) = z := ⟨_, rfl⟩
  rw [hz] at rz ⊢
  have hev : ∀ e ∈ broL l, Rd w e.s.v e.val := broL_each r.each
  obtain ⟨es, hes⟩ : ∃ es, broL l = es := ⟨_, rfl⟩
  have hmay : (es.map Oe.o).all mayP = true := by rw [← hes]; exact broL_may
  have hlen : es.length ≤ 12 := by rw [← hes]; exact broL_len l
  rw [hes] at ro2 hev hk
  have hop := broM_op m
  have okb := okM_bro ok
  obtain ⟨M, hM⟩ : ∃ M, broM m = M := ⟨_, rfl⟩
  rw [hM] at hop okb hk ⊢
  obtain ⟨os, hos⟩ : ∃ os, es.map Oe.o = os := ⟨_, rfl⟩
  obtain ⟨B, hB⟩ : ∃ B, bh.take 40 = B := ⟨_, rfl⟩
  have hBl : B.length ≤ 40 := by rw [← hB, List.length_take]; omega
  rw [hos] at hmay hk
  rw [hB] at rz hk
  have hoL : (optB os).length ≤ 257 * 12 := by
    have h1 := optB_len os hmay
    have h2 : os.length = es.length := by rw [← hos, List.length_map]
    omega
  have Hu2 : HxO false (bkR w m so sb) w2 u.v es := ⟨ro2, fun b hb _ => ⟨un2 b hb, fun r hr _ => by
    obtain rfl := List.mem_singleton.1 hr
    have := siu b hb
    show w.heap.size ≠ b
    omega⟩, fun e he => (hev e he).hx hW2⟩
  refine go_call_is (gt := fun _ => Option.none) (unroll := false) 60 [] 13 [.agg (M.a u.v z.v)] [1, 2, 3] [v, .int .u16 (c : Int), pT w.heap.size] 29 (bkR w M u z) [(3, 0)] (inR bkC 2 1) [] [] hW2 (by kernel_rfl) trivial trivial ?_
  intro w3 hW3 hS3
  have Hu3 := Hu2.go hS3 bk_go
  refine (dbytes_any (m := M) okb Hu3.rv (rz.keep0 hW3.keep) (by omega) (by omega)).mono ?_
  rintro x w4 ⟨k4, hr4⟩
  rw [hos, bytesH_may hop hmay] at hr4
  obtain ⟨v7, rfl, n7⟩ := hr4
  refine ⟨_, rfl, ?_⟩
  have hW4 := hW3.later k4
  have Hu4 := Hu3.call k4
  have H74 := n7.hx hW3
  have oh : OkH (headL M) := okH_headL hop
  have hbl := tellL_len (L := os) (B := B) oh.len
  have hg : getR (tellL (headL M) os B) = (some (getH (tellL (headL M) os B), (os, B)), 0) := getR_told oh hmay
  have hhd : headL (getH (tellL (headL M) os B)) = headL M := head_told oh _
  obtain ⟨bb, hbb⟩ : ∃ bb, tellL (headL M) os B = bb := ⟨_, rfl⟩
  rw [hbb] at H74 hbl hg hhd hk
  refine go_call_is (gt := fun _ => Option.none) (unroll := false) 60 [] 14 [v7] [1, 2, 3, 7, 8] [v, .int .u16 (c : Int), pT w.heap.size, v7, .int .i64 0] 34 (bkR w M u z) [(3, 0)] (inR bkC 3 1) [] [] hW4 (by kernel_rfl) trivial trivial ?_
  intro w5 hW5 hS5
  have Hu5 := Hu4.go hS5 bk_go
  have H75 := H74.go hS5 bk_go
  refine (dget_any H75.rd (by omega)).mono ?_
  rintro x w6 ⟨y, rfl, k6, hm6⟩
  refine ⟨_, rfl, ?_⟩
  rw [hg] at hm6 ⊢
  obtain ⟨z3, b3, es3, rfl, ho3, no3, nb3⟩ := hm6
  have hW6 := hW5.later k6
  have Hu6 := Hu5.call k6
  have H76 := H75.call k6
  have M6 : HM (bkR w M u z) w6 z3 b3 es3 B := .got no3 nb3 hW5
  obtain ⟨G, hG⟩ : ∃ G, getH bb = G := ⟨_, rfl⟩
  rw [hG] at hhd ⊢
  refine go_stop (gt := fun _ => Option.none) (unroll := false) 60 [] [1, 2, 3, 7, 8, 9, 10] [v, .int .u16 (c : Int), pT w.heap.size, v7, .int .i64 0, pT w6.heap.size, .int .i64 0] (bkR w M u z ++ [⟨w6.heap.size, (G.a z3.v b3.v).toList, true⟩]) [(3, 0), (9, 1)] (atR bkC 4) [] [] hW6 (by kernel_rfl) trivial trivial ?_
  intro w7 hW7 hS7
  have Hu7 := Hu6.go hS7 (bk_go2 (Nat.le_refl _))
  have H77 := H76.go hS7 (bk_go2 (Nat.le_refl _))
  have M7 := M6.go hS7 (bk_go2 (Nat.le_refl _))
  have hes3 : es3.length = os.length := by have := congrArg List.length ho3; simpa using this
  have hosl : os.length ≤ 12 := by rw [← hos, List.length_map]; exact hlen
  refine drawn_ok (gt := fun _ => Option.none) [(8, .call (ofSv (headL M) os B)), (10, .call (ofSv (headL M) os B)), (11, .call (.is (.bool true)))] [1, 2, 3, 7, 50] [.is v, .is (.int .u16 (c : Int)), .is (pT w.heap.size), .is v7, .is (.bool false)] []
    [(16, [.is (.agg (M.a u.v z.v))], ofSv (headL M) os B), (16, [.is (.agg (G.a z3.v b3.v))], ofSv (headL M) os B), (15, [ofSv (headL M) os B, ofSv (headL M) os B], .is (.bool true))] [] [] [] hW7 (by kernel_rfl) (by kernel_rfl) trivial
    ⟨of_ob Hu7.rv (rz.keep0 hW7.keep) (by omega) rfl hos, of_ob M7.o.rv M7.b.rd (by omega) hhd ho3, same_ob (by omega), trivial⟩ trivial trivial trivial ?_
  intro w8 vs k8 hv8
  obtain rfl := allOk_is (vs := [v, .int .u16 (c : Int), pT w.heap.size, v7, .bool false]) hv8
  have hW8 := hW7.later k8
  have Hu8 := (Hu7.call k8).fewer (rows := bkR w M u z)
  have H78 := (H77.call k8).fewer (rows := bkR w M u z)
  refine Goal.re (tags := tagL [(3, 0)]) (m := ⟨bkR w M u z, w8.heap.size⟩) ?_
  exact hk u z v7 w8 hz.symm (hW8.fewer (rows := bkR w M u z)) Hu8 siu H78
end
end Go.Proofs.Ytpnocepepihflaa
namespace Go.Proofs.Ytpnocepepihflaa
open Go.RowKit

theorem valE_len (c : UInt8) : ∀ (l : List Oe), (∀ e ∈ l, e.val.length ≤ 300) → (valE c l).length ≤ 300 * l.length
  | [], _ => by simp [valE]
  | e :: l, h => by
    have h1 := valE_len c l (fun x hx => h x (by simp [hx]))
    have h2 := h e (by simp)
    have h3 : valE c (e :: l) = valE c [e] ++ valE c l := valE_append c [e] l
    rw [h3, List.length_append, valE_one, List.length_cons]
    split
    · omega
    · simp only [List.length_nil]; omega
theorem fewE_val (l : List Oe) : ∀ e ∈ fewE l, e.val.length ≤ 300 := fun e he => by
  obtain ⟨e0, _, rfl⟩ := List.mem_map.1 he
  simp only [cutE, List.length_take]
  omega
/-- Bytes, held. -/
def HB (rows : List RowS) (w : World) (L : List (Value × List UInt8)) : Prop := ∀ p ∈ L, Hx rows w p.1 p.2
section
variable {rows rows' : List RowS} {w w' : World} {L : List (Value × List UInt8)}
theorem HB.go (h : HB rows w L) (hS : Seg ⟨rows, w.heap.size⟩ w ⟨rows', w'.heap.size⟩ w') (hr : RowGo rows rows' w.heap.size) : HB rows' w' L := fun p hp => (h p hp).go hS hr
theorem HB.call (h : HB rows w L) (k : Keep No w w') : HB rows w' L := fun p hp => (h p hp).call k
theorem HB.add (h : HB rows w L) {v : Value} {bs : List UInt8} (hv : Hx rows w v bs) : HB rows w ((v, bs) :: L) := fun p hp => by
  rcases List.mem_cons.1 hp with rfl | hp
  · exact hv
  · exact h p hp
end
/-- A message as both have it, held. -/
structure TlH (rows : List RowS) (w : World) (u h o : Sb) (es : List Oe) (hl : List UInt8) (L : List (Value × List UInt8)) : Prop where
  u : HxO false rows w u.v es
  o : HxO true rows w o.v es
  h : Hx rows w h.v hl
  l : HB rows w L
section
variable {rows rows' : List RowS} {w w' : World} {u h o : Sb} {es : List Oe} {hl : List UInt8} {L : List (Value × List UInt8)}
theorem TlH.go (t : TlH rows w u h o es hl L) (hS : Seg ⟨rows, w.heap.size⟩ w ⟨rows', w'.heap.size⟩ w') (hr : RowGo rows rows' w.heap.size) : TlH rows' w' u h o es hl L := ⟨t.u.go hS hr, t.o.go hS hr, t.h.go hS hr, t.l.go hS hr⟩
theorem TlH.call (t : TlH rows w u h o es hl L) (k : Keep No w w') : TlH rows w' u h o es hl L := ⟨t.u.call k, t.o.call k, t.h.call k, t.l.call k⟩
theorem TlH.add (t : TlH rows w u h o es hl L) {v : Value} {bs : List UInt8} (hv : Hx rows w v bs) : TlH rows w u h o es hl ((v, bs) :: L) := ⟨t.u, t.o, t.h, t.l.add hv⟩
end
def okE (r : Option (List UInt8)) : Nat := match r with | some _ => 0 | none => 1
def okB (r : Option (List UInt8)) : List UInt8 := match r with | some bs => bs | none => []
theorem dbQ_get {w w' : World} {r : Option (List UInt8)} {x : Ending} (h : dbQ w r x w') : ∃ v, x = .returned (.tuple #[v, .int .i64 (okE r : Int)]) ∧ Keep No w w' ∧ NewB w.heap.size w' v (okB r) := by
  obtain ⟨k, h⟩ := h
  cases r with
  | some bs =>
    obtain ⟨v, rfl, n⟩ := h
    exact ⟨v, rfl, k, n⟩
  | none =>
    obtain rfl : x = _ := h
    exact ⟨nilV, rfl, k, Rd.nil w', nilV_since _, nilV_under _⟩
theorem dvQ_get {w w' : World} {bs : List UInt8} {b : Bool} {x : Ending} (h : dvQ w bs b x w') : ∃ v, x = .returned (.tuple #[v, .bool b]) ∧ Keep No w w' ∧ NewB w.heap.size w' v bs := by
  obtain ⟨v, rfl, rd, k, si, un⟩ := h
  exact ⟨v, rfl, k, rd, si, un⟩
noncomputable abbrev tlC : Code := bodyOf Try.f5
noncomputable abbrev tlN : Nat := Try.f5.ntmps
abbrev tlR (w : World) (m : Mh) (u z : Sb) (R : Nat) (h o : Sb) : List RowS := bkR w m u z ++ [⟨R, [h.v, o.v, z.v], true⟩]
theorem tl_go {w : World} {m : Mh} {u z h o : Sb} {R n : Nat} : RowGo (tlR w m u z R h o) (tlR w m u z R h o) n := fun r hr => .inl ⟨r, hr, by
  simp only [List.cons_append, List.nil_append, List.mem_cons, List.not_mem_nil, or_false] at hr
  rcases hr with rfl | rfl <;> rfl, rfl⟩
section
variable {w0 : World} {w : World} {m : Mh} {so sb : Sb} {l : List Oe} {bh : List UInt8} {c : UInt8}
theorem mtype_ob {u z : Sb} {es : List Oe} (r : RoV false w0 u.v es) (hl : es.length ≤ 1000000) (hv : (valE 53 es).length ≤ 1099511627776) : CallOb Try.prog w0 10 [.is (.agg (m.a u.v z.v))] (.is (.int .i64 (typR (valE 53 es) : Int))) := by
  intro w vals k ha
  obtain ⟨a, rfl, hb⟩ := allOk1 ha
  obtain rfl : a = _ := hb
  refine (mtype_any (m := m) (r.keep0 k) hl hv).mono ?_
  rintro e w' ⟨rfl, k⟩
  exact ⟨_, rfl, k, rfl⟩
theorem rtype_ob {h o z : Sb} {es : List Oe} (r : RoV true w0 o.v es) (hl : es.length ≤ 1000000) (hv : (valE 53 es).length ≤ 1099511627776) : CallOb Try.prog w0 24 [.is (.agg #[h.v, o.v, z.v])] (.is (.int .i64 (typR (valE 53 es) : Int))) := by
  intro w vals k ha
  obtain ⟨a, rfl, hb⟩ := allOk1 ha
  obtain rfl : a = _ := hb
  refine (rtype_any (r.keep0 k) hl hv).mono ?_
  rintro e w' ⟨rfl, k⟩
  exact ⟨_, rfl, k, rfl⟩
theorem beq_ob {x y : Value} {bs : List UInt8} (rx : Rd w0 x bs) (ry : Rd w0 y bs) : CallOb Try.prog w0 9 [.is x, .is y] (.is (.bool true)) := by
  intro w vals k ha
  obtain ⟨a, b, rfl, ha, hb⟩ := allOk2 ha
  obtain rfl : a = _ := ha
  obtain rfl : b = _ := hb
  refine (bequal_any (rx.keep0 k) (ry.keep0 k)).mono ?_
  rintro e w' ⟨rfl, rfl⟩
  exact ⟨_, rfl, Keep.refl _ _, by show _ = _; simp⟩
set_option maxRecDepth 8000 in
theorem dhcptells_walk (ok : OkM m) (r : RoV false w so.v l) (rb : Rd w sb.v bh) (hl : l.length ≤ 9223372036854775807) : Calls Try.prog 5 #[.agg (m.a so.v sb.v), bv c] w (trQ w) := by
  refine enter (args := [.agg (m.a so.v sb.v), bv c]) Try.func5 (by kernel_rfl) ?_
  refine go_call_is (gt := fun _ => Option.none) (unroll := false) 60 [] 18 [.agg (m.a so.v sb.v)] [1, 2] [bv c, pT w.heap.size] 27 (bkR w m so sb) [(2, 0)] (inR tlC 1 1) [] [] (Wst.start0 w) (by kernel_rfl) trivial trivial ?_
  intro w1 hW1 _
  refine (few_any (m := m) (r.keep0 hW1.keep) (rb.keep0 hW1.keep) hl).mono ?_
  rintro x w2 ⟨u, rfl, k2, ro2, si2, un2⟩
  refine ⟨_, rfl, ?_⟩
  have hW2 := hW1.later k2
  have hw1 : w.heap.size + 1 ≤ w1.heap.size := by
    obtain ⟨t, ht⟩ := hW1.rows ⟨w.heap.size, (m.a so.v sb.v).toList, true⟩ (by simp)
    exact block_of_row ht
  have siu : Since (w.heap.size + 1) u.v := si2.mono hw1
  have rz : Rd w (sb.cut (mn bh.length 40)).v (bh.take 40) := rb.cutS 40
  obtain ⟨z, hz⟩ : ∃ z, sb.cut (mn bh.length 40) = z := ⟨_, rfl⟩
  rw [hz] at rz ⊢
  have hev : ∀ e ∈ fewE l, Rd w e.s.v e.val := fewE_each r.each
  have hval := fewE_val l
  have hlen := fewE_len l
  obtain ⟨es, hes⟩ : ∃ es, fewE l = es := ⟨_, rfl⟩
  rw [hes] at ro2 hev hval hlen
  obtain ⟨B, hB⟩ : ∃ B, bh.take 40 = B := ⟨_, rfl⟩
  have hBl : B.length ≤ 40 := by rw [← hB, List.length_take]; omega
  rw [hB] at rz
  have hvc : ∀ c, (valE c es).length ≤ 1099511627776 := fun c => by have := valE_len c es hval; omega
  have hc64 : IntKind.i64.wrap ((c.toNat : Nat) : Int) = ((c.toNat : Nat) : Int) := i64_small (by omega) (by have := c.toNat_lt; omega)
  have Hu2 : HxO false (bkR w m so sb) w2 u.v es := ⟨ro2, fun b hb _ => ⟨un2 b hb, fun r hr _ => by
    obtain rfl := List.mem_singleton.1 hr
    have := siu b hb
    show w.heap.size ≠ b
    omega⟩, fun e he => (hev e he).hx hW2⟩
  refine go_call_is (gt := fun _ => Option.none) (unroll := false) 60 [] 16 [.agg (m.a u.v z.v)] [1, 2] [bv c, pT w.heap.size] 29 (bkR w m u z) [(2, 0)] (inR tlC 2 1) [] [] hW2 (by kernel_rfl) trivial trivial ?_
  intro w3 hW3 hS3
  have Hu3 := Hu2.go hS3 bk_go
  refine (of_any (m := m) Hu3.rv (by omega)).mono ?_
  rintro x w4 ⟨h, o, rfl, k4, nh, ro4, so4, uo4⟩
  refine ⟨_, rfl, ?_⟩
  have hW4 := hW3.later k4
  have Hu4 := Hu3.call k4
  have Hh4 : Hx (bkR w m u z) w4 h.v (headL m) := nh.hx hW3
  have Ho4 : HxO true (bkR w m u z) w4 o.v es := ⟨ro4, fun b hb _ => ⟨uo4 b hb, fun r hr _ => by
    obtain ⟨t, ht⟩ := hW3.rows r hr
    have h1 : r.b < w3.heap.size := block_of_row ht
    have h2 := so4 b hb
    omega⟩, fun e he => (hev e he).hx hW4⟩
  have T4 : TlH (bkR w m u z) w4 u h o es (headL m) [] := ⟨Hu4, Ho4, Hh4, fun _ hp => by cases hp⟩
  obtain ⟨R, hR⟩ : ∃ R, w4.heap.size = R := ⟨_, rfl⟩
  obtain ⟨br, hbr⟩ : ∃ br, bytesH (headL m) m.op (es.map Oe.o) B = br := ⟨_, rfl⟩
  have hbr2 : bytesH (headL m) (byteAt (headL m) 0) (es.map Oe.o) B = br := hbr
  have hhl : (headL m).length = 236 := headL_len m
  obtain ⟨vc, hvcq⟩ : ∃ q, valE c es = q := ⟨_, rfl⟩
  obtain ⟨ic, hicq⟩ : ∃ q, isE c es = q := ⟨_, rfl⟩
  obtain ⟨nc, hnc⟩ : ∃ q, numR vc = q := ⟨_, rfl⟩
  obtain ⟨n50, h50⟩ : ∃ q, numR (valE 50 es) = q := ⟨_, rfl⟩
  obtain ⟨n51, h51⟩ : ∃ q, numR (valE 51 es) = q := ⟨_, rfl⟩
  refine go_call_is (gt := fun _ => Option.none) (unroll := false) 60 [] 13 [.agg (m.a u.v z.v)] [1, 2, 5] [bv c, pT w.heap.size, pT R] 32 (tlR w m u z R h o) [(2, 0), (5, 1)] (inR tlC 3 1) [] [] hW4 (by subst hR; kernel_rfl) trivial trivial ?_
  intro w5 hW5 hS5
  have T5 : TlH (tlR w m u z R h o) w5 u h o es (headL m) [] := T4.go hS5 (bk_go2 (by omega))
  refine (hbr ▸ dbytes_any (m := m) ok T5.u.rv (rz.keep0 hW5.keep) (by omega) (by omega)).mono ?_
  rintro x w6 hq6
  obtain ⟨v6, rfl, k6, n6⟩ := dbQ_get hq6
  refine ⟨_, rfl, ?_⟩
  have hW6 := hW5.later k6
  have T6 := (T5.call k6).add (n6.hx hW5)
  refine go_call_is (gt := fun _ => Option.none) (unroll := false) 60 [] 19 [.agg #[h.v, o.v, z.v]] [1, 2, 5, 6, 7] [bv c, pT w.heap.size, pT R, v6, .int .i64 (okE br : Int)] 37 (tlR w m u z R h o) [(2, 0), (5, 1)] (inR tlC 4 1) [] [] hW6 (by kernel_rfl) trivial trivial ?_
  intro w7 hW7 hS7
  have T7 := T6.go hS7 tl_go
  refine (hbr2 ▸ rbytes_any T7.h.rd hhl T7.o.rv (rz.keep0 hW7.keep) (by omega) (by omega)).mono ?_
  rintro x w8 hq8
  obtain ⟨v8, rfl, k8, n8⟩ := dbQ_get hq8
  refine ⟨_, rfl, ?_⟩
  have hW8 := hW7.later k8
  have T8 := (T7.call k8).add (n8.hx hW7)
  refine go_call_is (gt := fun _ => Option.none) (unroll := false) 60 [] 7 [.agg (m.a u.v z.v), bv c] [1, 2, 5, 6, 7, 8, 9] [bv c, pT w.heap.size, pT R, v6, .int .i64 (okE br : Int), v8, .int .i64 (okE br : Int)] 43 (tlR w m u z R h o) [(2, 0), (5, 1)] (inR tlC 5 2) [] [] hW8 (by kernel_rfl) trivial trivial ?_
  intro w9 hW9 hS9
  have T9 := T8.go hS9 tl_go
  refine (hvcq ▸ hicq ▸ value_any (m := m) (sb := z) (c := c) T9.u.rv (by omega) (hvc c)).mono ?_
  rintro x w10 hq10
  obtain ⟨v10, rfl, k10, n10⟩ := dvQ_get hq10
  refine ⟨_, rfl, ?_⟩
  have hW10 := hW9.later k10
  have T10 := (T9.call k10).add (n10.hx hW9)
  refine go_call_is (gt := fun _ => Option.none) (unroll := false) 60 [(6, 2, .is (.int .i64 ((c.toNat : Nat) : Int)))] 20 [.agg #[h.v, o.v, z.v], .int .i64 ((c.toNat : Nat) : Int)] [1, 2, 5, 6, 7, 8, 9, 10, 11] [bv c, pT w.heap.size, pT R, v6, .int .i64 (okE br : Int), v8, .int .i64 (okE br : Int), v10, .bool ic] 50 (tlR w m u z R h o) [(2, 0), (5, 1)] (inR tlC 6 3) [(.int .i64 (IntKind.i64.wrap ((c.toNat : Nat) : Int)), .int .i64 ((c.toNat : Nat) : Int))] [] hW10 (by kernel_rfl) ⟨congrArg (Value.int .i64) hc64, trivial⟩ trivial ?_
  intro w11 hW11 hS11
  have T11 := T10.go hS11 tl_go
  refine (hvcq ▸ hicq ▸ rvalue_any (h := h) (b := z) (c := c) T11.o.rv (by omega) (hvc c)).mono ?_
  rintro x w12 hq12
  obtain ⟨v12, rfl, k12, n12⟩ := dvQ_get hq12
  refine ⟨_, rfl, ?_⟩
  have hW12 := hW11.later k12
  have T12 := (T11.call k12).add (n12.hx hW11)
  refine go_call_is (gt := fun _ => Option.none) (unroll := false) 60 [] 8 [.agg (m.a u.v z.v), bv c] [1, 2, 5, 6, 7, 8, 9, 10, 11, 12, 13] [bv c, pT w.heap.size, pT R, v6, .int .i64 (okE br : Int), v8, .int .i64 (okE br : Int), v10, .bool ic, v12, .bool ic] 56 (tlR w m u z R h o) [(2, 0), (5, 1)] (inR tlC 7 2) [] [] hW12 (by kernel_rfl) trivial trivial ?_
  intro w13 hW13 hS13
  have T13 := T12.go hS13 tl_go
  refine (hnc ▸ hvcq ▸ mnumber_any (m := m) (sb := z) (c := c) T13.u.rv (by omega) (hvc c)).mono ?_
  rintro x w14 ⟨rfl, k14⟩
  refine ⟨_, rfl, ?_⟩
  have hW14 := hW13.later k14
  have T14 := T13.call k14
  refine go_call_is (gt := fun _ => Option.none) (unroll := false) 60 [(8, 2, .is (.int .i64 ((c.toNat : Nat) : Int)))] 21 [.agg #[h.v, o.v, z.v], .int .i64 ((c.toNat : Nat) : Int)] [1, 2, 5, 6, 7, 8, 9, 10, 11, 12, 13, 14, 15] [bv c, pT w.heap.size, pT R, v6, .int .i64 (okE br : Int), v8, .int .i64 (okE br : Int), v10, .bool ic, v12, .bool ic, .int .u32 (nc.1 : Int), .bool nc.2] 63 (tlR w m u z R h o) [(2, 0), (5, 1)] (inR tlC 8 3) [(.int .i64 (IntKind.i64.wrap ((c.toNat : Nat) : Int)), .int .i64 ((c.toNat : Nat) : Int))] [] hW14 (by kernel_rfl) ⟨congrArg (Value.int .i64) hc64, trivial⟩ trivial ?_
  intro w15 hW15 hS15
  have T15 := T14.go hS15 tl_go
  refine (hnc ▸ hvcq ▸ rwide_any (h := h) (b := z) (c := c) T15.o.rv (by omega) (hvc c)).mono ?_
  rintro x w16 ⟨rfl, k16⟩
  refine ⟨_, rfl, ?_⟩
  have hW16 := hW15.later k16
  have T16 := T15.call k16
  refine go_call_is (gt := fun _ => Option.none) (unroll := false) 60 [] 22 [.agg (m.a u.v z.v)] [1, 2, 5, 6, 7, 8, 9, 10, 11, 12, 13, 14, 15, 16, 17] [bv c, pT w.heap.size, pT R, v6, .int .i64 (okE br : Int), v8, .int .i64 (okE br : Int), v10, .bool ic, v12, .bool ic, .int .u32 (nc.1 : Int), .bool nc.2, .int .u32 (nc.1 : Int), .bool nc.2] 68 (tlR w m u z R h o) [(2, 0), (5, 1)] (inR tlC 9 1) [] [] hW16 (by kernel_rfl) trivial trivial ?_
  intro w17 hW17 hS17
  have T17 := T16.go hS17 tl_go
  refine (h50 ▸ mwanted_any (m := m) (sb := z) T17.u.rv (by omega) (hvc 50)).mono ?_
  rintro x w18 ⟨rfl, k18⟩
  refine ⟨_, rfl, ?_⟩
  have hW18 := hW17.later k18
  have T18 := T17.call k18
  refine go_call_is (gt := fun _ => Option.none) (unroll := false) 60 [] 21 [.agg #[h.v, o.v, z.v], .int .i64 50] [1, 2, 5, 6, 7, 8, 9, 10, 11, 12, 13, 14, 15, 16, 17, 18, 19] [bv c, pT w.heap.size, pT R, v6, .int .i64 (okE br : Int), v8, .int .i64 (okE br : Int), v10, .bool ic, v12, .bool ic, .int .u32 (nc.1 : Int), .bool nc.2, .int .u32 (nc.1 : Int), .bool nc.2, .int .u32 (n50.1 : Int), .bool n50.2] 73 (tlR w m u z R h o) [(2, 0), (5, 1)] (inR tlC 10 1) [] [] hW18 (by kernel_rfl) trivial trivial ?_
  intro w19 hW19 hS19
  have T19 := T18.go hS19 tl_go
  refine (h50 ▸ rwide_any (h := h) (b := z) (c := 50) T19.o.rv (by omega) (hvc 50)).mono ?_
  rintro x w20 ⟨rfl, k20⟩
  refine ⟨_, rfl, ?_⟩
  have hW20 := hW19.later k20
  have T20 := T19.call k20
  refine go_call_is (gt := fun _ => Option.none) (unroll := false) 60 [] 23 [.agg (m.a u.v z.v)] [1, 2, 5, 6, 7, 8, 9, 10, 11, 12, 13, 14, 15, 16, 17, 18, 19, 20, 21] [bv c, pT w.heap.size, pT R, v6, .int .i64 (okE br : Int), v8, .int .i64 (okE br : Int), v10, .bool ic, v12, .bool ic, .int .u32 (nc.1 : Int), .bool nc.2, .int .u32 (nc.1 : Int), .bool nc.2, .int .u32 (n50.1 : Int), .bool n50.2, .int .u32 (n50.1 : Int), .bool n50.2] 78 (tlR w m u z R h o) [(2, 0), (5, 1)] (inR tlC 11 1) [] [] hW20 (by kernel_rfl) trivial trivial ?_
  intro w21 hW21 hS21
  have T21 := T20.go hS21 tl_go
  refine (h51 ▸ mlease_any (m := m) (sb := z) T21.u.rv (by omega) (hvc 51)).mono ?_
  rintro x w22 ⟨rfl, k22⟩
  refine ⟨_, rfl, ?_⟩
  have hW22 := hW21.later k22
  have T22 := T21.call k22
  refine go_call_is (gt := fun _ => Option.none) (unroll := false) 60 [] 21 [.agg #[h.v, o.v, z.v], .int .i64 51] [1, 2, 5, 6, 7, 8, 9, 10, 11, 12, 13, 14, 15, 16, 17, 18, 19, 20, 21, 22, 23] [bv c, pT w.heap.size, pT R, v6, .int .i64 (okE br : Int), v8, .int .i64 (okE br : Int), v10, .bool ic, v12, .bool ic, .int .u32 (nc.1 : Int), .bool nc.2, .int .u32 (nc.1 : Int), .bool nc.2, .int .u32 (n50.1 : Int), .bool n50.2, .int .u32 (n50.1 : Int), .bool n50.2, .int .u32 (n51.1 : Int), .bool n51.2] 83 (tlR w m u z R h o) [(2, 0), (5, 1)] (inR tlC 12 1) [] [] hW22 (by kernel_rfl) trivial trivial ?_
  intro w23 hW23 hS23
  have T23 := T22.go hS23 tl_go
  refine (h51 ▸ rwide_any (h := h) (b := z) (c := 51) T23.o.rv (by omega) (hvc 51)).mono ?_
  rintro x w24 ⟨rfl, k24⟩
  refine ⟨_, rfl, ?_⟩
  have hW24 := hW23.later k24
  have T24 := T23.call k24
  refine go_stop (gt := fun _ => Option.none) (unroll := false) 60 [] [2, 5, 6, 7, 8, 9, 10, 11, 12, 13, 14, 15, 16, 17, 18, 19, 20, 21, 22, 23, 24, 25] [pT w.heap.size, pT R, v6, .int .i64 (okE br : Int), v8, .int .i64 (okE br : Int), v10, .bool ic, v12, .bool ic, .int .u32 (nc.1 : Int), .bool nc.2, .int .u32 (nc.1 : Int), .bool nc.2, .int .u32 (n50.1 : Int), .bool n50.2, .int .u32 (n50.1 : Int), .bool n50.2, .int .u32 (n51.1 : Int), .bool n51.2, .int .u32 (n51.1 : Int), .bool n51.2] (tlR w m u z R h o) [(2, 0), (5, 1)] (atR tlC 13) [] [] hW24 (by kernel_rfl) trivial trivial ?_
  intro w25 hW25 hS25
  have T25 := T24.go hS25 tl_go
  have r6 := (T25.l (v6, okB br) (by simp)).rd
  have r8 := (T25.l (v8, okB br) (by simp)).rd
  have r10 := (T25.l (v10, vc) (by simp)).rd
  have r12 := (T25.l (v12, vc) (by simp)).rd
  obtain ⟨ty, hty⟩ : ∃ q, typR (valE 53 es) = q := ⟨_, rfl⟩
  refine drawn_ok (gt := fun _ => Option.none) [(2, .call (.is (.bool true))), (6, .is (.bool true)), (11, .call (.is (.bool true))), (16, .is (.bool true)), (21, .is (.bool true)), (26, .is (.bool true)), (31, .is (.bool true)), (36, .is (.bool true)), (41, .is (.bool true)), (46, .is (.bool true)), (50, .call (.is (.int .i64 (ty : Int)))), (52, .call (.is (.int .i64 (ty : Int)))), (53, .is (.bool true)), (56, .call (.is (.bool true)))] [4] [.is (.bool true)]
    [(.bool ((okE br : Int) == (okE br : Int)), .bool true), (.bool (ic == ic), .bool true), (.bool ((nc.1 : Int) == (nc.1 : Int)), .bool true), (.bool (nc.2 == nc.2), .bool true), (.bool ((n50.1 : Int) == (n50.1 : Int)), .bool true), (.bool (n50.2 == n50.2), .bool true), (.bool ((n51.1 : Int) == (n51.1 : Int)), .bool true), (.bool (n51.2 == n51.2), .bool true), (.bool ((ty : Int) == (ty : Int)), .bool true)]
    [(9, [.is v6, .is v8], .is (.bool true)), (9, [.is v10, .is v12], .is (.bool true)), (10, [.is (.agg (m.a u.v z.v))], .is (.int .i64 (ty : Int))), (24, [.is (.agg #[h.v, o.v, z.v])], .is (.int .i64 (ty : Int))), (11, [], .is (.bool true))] [] [] []
    hW25 (by kernel_rfl) (by kernel_rfl) ⟨congrArg Value.bool (by simp), congrArg Value.bool (by simp), congrArg Value.bool (by simp), congrArg Value.bool (by simp), congrArg Value.bool (by simp), congrArg Value.bool (by simp), congrArg Value.bool (by simp), congrArg Value.bool (by simp), congrArg Value.bool (by simp), trivial⟩
    ⟨beq_ob r6 r8, beq_ob r10 r12, hty ▸ mtype_ob T25.u.rv (by omega) (hvc 53), hty ▸ rtype_ob T25.o.rv (by omega) (hvc 53), wakes_ob, trivial⟩ trivial trivial trivial ?_
  intro w26 vs k26 hv26
  obtain rfl := allOk_is (vs := [.bool true]) hv26
  exact go_ret (gt := fun _ => Option.none) (unroll := false) 60 [] [.tmp 4] (.bool true) [] [] (hW25.later k26) Try.results5 (by kernel_rfl) trivial trivial (fun w9 hW9 _ => ⟨rfl, hW9.keep⟩)
end
end Go.Proofs.Ytpnocepepihflaa
namespace Go.Proofs.Ytpnocepepihflaa.lawDhcpTells
open Go.ChangeShapes Go.WideShapes Go.ChangeAt Go.RowKit

set_option maxRecDepth 100000 in
theorem lifted (os : Os) (started : os.Started) (H : Type) (enc : TypeId × Value → H) :
    ReturnsInHanded {} Try.checked os 5 .any (Rows.dhcpTellsSpec.pre6 enc Try.prog Try.f5 Rows.dhcpTellsRow.domain false) (Rows.dhcpTellsSpec.post enc Try.prog Try.f5 false true false false) := by
  refine returnsInHanded_of_change (C := Try.checked) own started (by kernel_rfl) Try.func5
    (ChangeSpec.witness6 (enc := enc) (C := Try.checked) false ⟨#[], #[.agg (mz.a nilV nilV), .int .u8 0], []⟩ 8 (by kernel_rfl) (by kernel_rfl) (by kernel_rfl) (by kernel_rfl)) ?_
  intro W base args ds gs before hval0 hW _ _
  have hval : ∀ (j : Nat) t v, Try.f5.params[j]? = some t → args[j]? = some v → Value.okWide Try.prog W .any base t v := hval0
  have hW' := hW
  obtain ⟨p, q, hA0, hV, rfl, _, _⟩ := hW
  have hA : DataW.TrodAll enc Try.prog W 0 (fun _ => true) true Try.f5.params.toList args.toList ds p := hA0
  rw [Try.params5] at hA hval
  obtain ⟨v0, vs0, d0, ds0, p0, q0, hargs, rfl, rfl, h0, r0⟩ := trodAll_cons hA
  obtain ⟨v1, vs1, d1, ds1, p1, q1, rfl, rfl, rfl, h1, r1⟩ := trodAll_cons r0
  obtain ⟨rfl, rfl, rfl⟩ := trodAll_nil r1
  obtain rfl : args = #[v0, v1] := by cases args; simp_all
  obtain ⟨rfl, rfl⟩ := trodVars_none hV
  obtain ⟨c0, rfl, s0⟩ := okWide_row Try.underlying35 rfl (hval 0 35 v0 rfl rfl)
  have k0 := h0
  have lt0 : ∀ x ∈ p0, x.block < W.heap.size := by obtain ⟨m, hm⟩ := k0; exact DataW.trod_lt m _ _ _ hm
  obtain ⟨m0, so0, sb0, l0, bh0, rfl, ok0, ro0, rb0⟩ := open_msg s0 h0.choose_spec
  obtain ⟨a1, rfl, rfl, rfl, w1⟩ := open_int Try.underlying5 (hval 1 5 v1 rfl rfl) h1
  obtain ⟨x1, ex1⟩ : ∃ x : UInt8, Value.int .u8 a1 = bv x := ⟨UInt8.ofNat a1.toNat, by rw [bv, byte_of_int (wf_u8 w1)]⟩
  have hw := dhcptells_walk (c := x1) ok0 ro0 rb0 ro0.len
  rw [← ex1] at hw
  clear hA0 hval0
  refine (hw).mono fun e W' ⟨he, bel0⟩ => ?_
  have bel := bel0.to_below
  subst he
  exact ⟨_, rfl, _, _, _, [], _, [], hW', trodAll_mk1 (shut_bool Try.underlying4 _), (trodAll_cons_mk (Below.trod laidOut (by kernel_rfl) (of_decide_eq_true (by kernel_rfl)) k0 bel lt0) (trodAll_cons_mk (shut_int Try.underlying5 w1) trodAll_mk0)), rfl, bel.frame _, fun h => by cases h⟩

theorem over : Rows.dhcpTellsRow.holds Try.pinned (OpenSpec.ofChange Rows.dhcpTellsSpec) :=
  OpenClaim.holds_of_wide 5 Try.f5 rfl rfl rfl rfl rfl rfl rfl ⟨rfl, rfl, rfl, rfl, rfl⟩ rfl rfl rfl rfl rfl (by kernel_rfl) Try.func5 (by kernel_rfl)
    (of_decide_eq_true (by kernel_rfl)) (by unfold Func.isWrapper; first | (rw [if_pos (by decide +kernel)]; kernel_rfl) | (rw [if_neg (by decide +kernel)]; exact ⟨rfl, rfl⟩))
    (fun os started H enc _ => lifted os started H enc)

theorem proved : Rows.DhcpTellsSaid := over
end Go.Proofs.Ytpnocepepihflaa.lawDhcpTells
