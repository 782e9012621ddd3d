/-
  tolllaw01's CutBack: the rounds that take the things. No condition.
-/
import Derived.Test.YtpididcghilbjaaCutBack2
namespace Go.Proofs.Ytpididcghilbjaa
open Go.RowKit

noncomputable abbrev cb3X : Code := loopOf (atL cbC 26)
noncomputable abbrev cb3K (R2 : Act → World → Prop) : List K := (atL cbC 26 (.inv R2)).tail
structure Cb3I where
  j : Nat
  a : Nat
  e : Int
  wr : Int
noncomputable def cb3L (R2 : Act → World → Prop) (pc : Nat) (vl v : Value) (less n : Nat) (i : Cb3I) (w' : World) : Cfg := ⟨frOf [0, 7, 8, 9, 10, 80, 94, 95, 96] [vl, v, .int .i64 (less : Int), pT pc, .int .i64 i.wr, .int .i64 (less : Int), vl, .int .i64 (n : Int), .int .i64 ((n - i.j : Nat) : Int)], tagL [], ⟨[], w'.heap.size⟩, atL cbC 26 (.inv R2)⟩
structure Cb3J (w : World) (pc : Nat) (svc : Value) (cs : List UInt8) (v : Value) (bs : List UInt8) (xs : List Thg) (less : Nat) (i : Cb3I) (w' : World) : Prop where
  le : i.j ≤ xs.length
  W : Wst w ⟨[], w'.heap.size⟩ w'
  cu : Cu w' pc svc cs i.a i.e
  st : CbS xs less (xs.length - i.j) i.a i.e
  wr : less = 0 → i.wr = 0
  hd : HdB [] w' v bs
noncomputable def cb3R (w : World) (R2 : Act → World → Prop) (pc : Nat) (svc : Value) (cs : List UInt8) (vl v : Value) (bs : List UInt8) (xs : List Thg) (less : Nat) (i : Cb3I) : Act → World → Prop := fun a' w' => ∃ k : Cb3I, k.j < i.j ∧ Cb3J w pc svc cs v bs xs less k w' ∧ agrees cbN (cb3L R2 pc vl v less xs.length k w') a'
section
variable {w : World} {R2 : Act → World → Prop} {pc : Nat} {svc : Value} {cs : List UInt8} {vl v : Value} {bs : List UInt8} {xs : List Thg} {less : Nat}
theorem cb3_tail (i : Cb3I) {j k : Nat} (hj : i.j = j + 1) (hk : xs.length - (j + 1) = k) (hjn : j + 1 ≤ xs.length) (h60 : xs.length ≤ 60) (hl : less ≤ 1) (hwr : less = 0 → i.wr = 0) {w2 : World} {a' : Nat} {e' : Int} (hW : Wst w ⟨[], w2.heap.size⟩ w2) (cu : Cu w2 pc svc cs a' e') (st : CbS xs less (k + 1) a' e') (hd : HdB [] w2 v bs) (okb : Bool) (hok : less = 0 → okb = true) :
    Goal Try.prog (bodyPost Try.prog Try.f6 (cbQ w)) cbN ⟨frOf [15, 0, 7, 8, 9, 10, 80, 94, 95, 96] (.bool okb :: [vl, v, .int .i64 (less : Int), pT pc, .int .i64 i.wr, .int .i64 (less : Int), vl, .int .i64 (xs.length : Int), .int .i64 (k : Int)]), tagL [], ⟨[], w2.heap.size⟩, opsR cb3X 41 ++ (.inv (cb3R w R2 pc svc cs vl v bs xs less i) :: cb3K R2)⟩ w2 := by
  have hnext : xs.length - j = k + 1 := by omega
  have hin : IntKind.i64.wrap ((k : Int) + 1) = ((k + 1 : Nat) : Int) := by rw [IntWalk.i64_in _ (by omega)]; omega
  have key : ∀ w3, Wst w ⟨[], w3.heap.size⟩ w3 → Seg ⟨[], w2.heap.size⟩ w2 ⟨[], w3.heap.size⟩ w3 → Calls Try.prog 12 #[pT pc] w3 (fun x w4 => ∃ y, x = .returned y ∧ Goal Try.prog (bodyPost Try.prog Try.f6 (cbQ w)) cbN ⟨frOf [160, 0, 7, 8, 9, 10, 80, 94, 95, 96] (y :: [vl, v, .int .i64 (less : Int), pT pc, .int .i64 i.wr, .int .i64 (less : Int), vl, .int .i64 (xs.length : Int), .int .i64 (k : Int)]), tagL [], ⟨[], w4.heap.size⟩, inR cb3X 43 1 ++ (.inv (cb3R w R2 pc svc cs vl v bs xs less i) :: cb3K R2)⟩ w4) := by
    intro w3 hW3 hS3
    have cu3 := cu.walk (rows := []) (fun _ h => nomatch h) hS3 hW3
    have hd3 := hd.pass0 hS3
    refine (err_any cu3).mono ?_
    rintro x w4 ⟨rfl, rfl⟩
    refine ⟨_, rfl, ?_⟩
    rcases st with ⟨rfl, ha⟩ | ⟨h1, rfl⟩
    · refine go_inv (gt := fun _ => Option.none) (unroll := false) 60 [(45, 0, .is (.int .i64 ((k + 1 : Nat) : Int)))] [0, 7, 8, 9, 10, 80, 94, 95, 96] [vl, v, .int .i64 (less : Int), pT pc, .int .i64 i.wr, .int .i64 (less : Int), vl, .int .i64 (xs.length : Int), .int .i64 ((k + 1 : Nat) : Int)] [] (cb3R w R2 pc svc cs vl v bs xs less i) [(.int .i64 (IntKind.i64.wrap ((k : Int) + 1)), .int .i64 ((k + 1 : Nat) : Int))] [] hW3 (by kernel_rfl) ⟨congrArg (Value.int .i64) hin, trivial⟩ trivial ?_
      intro w5 a hW5 hS5 hs
      refine ⟨⟨j, a', 0, i.wr⟩, by rw [hj]; exact Nat.lt_succ_self j, ⟨by show j ≤ xs.length; omega, hW5, cu3.walk (rows := []) (fun _ h => nomatch h) hS5 hW5, by show CbS xs less (xs.length - j) a' 0; rw [hnext]; exact .inl ⟨rfl, ha⟩, hwr, hd3.pass0 hS5⟩, ?_⟩
      unfold cb3L
      simp only
      rw [hnext]
      exact hs
    · refine go_inv (gt := fun _ => Option.none) (unroll := false) 60 [(45, 0, .is (.int .i64 ((k + 1 : Nat) : Int)))] [0, 7, 8, 9, 10, 80, 94, 95, 96] [vl, v, .int .i64 (less : Int), pT pc, .int .i64 (IntKind.i64.wrap (i.wr + 1)), .int .i64 (less : Int), vl, .int .i64 (xs.length : Int), .int .i64 ((k + 1 : Nat) : Int)] [] (cb3R w R2 pc svc cs vl v bs xs less i) [(.int .i64 (IntKind.i64.wrap ((k : Int) + 1)), .int .i64 ((k + 1 : Nat) : Int))] [] hW3 (by kernel_rfl) ⟨congrArg (Value.int .i64) hin, trivial⟩ trivial ?_
      intro w5 a hW5 hS5 hs
      refine ⟨⟨j, a', 4, IntKind.i64.wrap (i.wr + 1)⟩, by rw [hj]; exact Nat.lt_succ_self j, ⟨by show j ≤ xs.length; omega, hW5, cu3.walk (rows := []) (fun _ h => nomatch h) hS5 hW5, .inr ⟨h1, rfl⟩, fun h0 => by omega, hd3.pass0 hS5⟩, ?_⟩
      unfold cb3L
      simp only
      rw [hnext]
      exact hs
  cases okb with
  | true => exact go_call_is (gt := fun _ => Option.none) (unroll := false) 60 [] 12 [pT pc] [0, 7, 8, 9, 10, 80, 94, 95, 96] [vl, v, .int .i64 (less : Int), pT pc, .int .i64 i.wr, .int .i64 (less : Int), vl, .int .i64 (xs.length : Int), .int .i64 (k : Int)] 160 [] [] (inR cb3X 43 1 ++ (.inv (cb3R w R2 pc svc cs vl v bs xs less i) :: cb3K R2)) [] [] hW (by kernel_rfl) trivial trivial key
  | false =>
    obtain rfl : less = 1 := by
      have : less ≠ 0 := fun h => by simpa using hok h
      omega
    exact go_call_is (gt := fun _ => Option.none) (unroll := false) 60 [] 12 [pT pc] [0, 7, 8, 9, 10, 80, 94, 95, 96] [vl, v, .int .i64 ((1 : Nat) : Int), pT pc, .int .i64 i.wr, .int .i64 ((1 : Nat) : Int), vl, .int .i64 (xs.length : Int), .int .i64 (k : Int)] 160 [] [] (inR cb3X 43 1 ++ (.inv (cb3R w R2 pc svc cs vl v bs xs 1 i) :: cb3K R2)) [] [] hW (by kernel_rfl) trivial trivial key
set_option maxRecDepth 4000 in
theorem cb3_arm0 (i : Cb3I) {j k : Nat} (hj : i.j = j + 1) (hk : xs.length - (j + 1) = k) (h60 : xs.length ≤ 60) (hl : less ≤ 1) (hcs : cs = (xs.flatMap thB).take ((xs.flatMap thB).length - less)) (hpc : w.heap.size ≤ pc) (hvp : v.ownBlock ≠ some pc) (w' : World) (hJ : Cb3J w pc svc cs v bs xs less i w') {x : Thg} (hx : xs.getD k thE = x) (ho : ThOk w x)
    (sl : SemObs Try.prog ⟨[], w'.heap.size⟩ w' [(Instr.indexAt 59 vl (.int .i64 (k : Int)), .pointer (some (adT vl k))), (Instr.loadAt 61 (.pointer (some (adT vl k))), .agg (thA x))]) (hm : x.kd % 5 = 0) :
    Goal Try.prog (bodyPost Try.prog Try.f6 (cbQ w)) cbN ⟨frOf [0, 7, 8, 9, 10, 80, 94, 95, 96] [vl, v, .int .i64 (less : Int), pT pc, .int .i64 i.wr, .int .i64 (less : Int), vl, .int .i64 (xs.length : Int), .int .i64 (k : Int)], tagL [], ⟨[], w'.heap.size⟩, .code cb3X :: (.inv (cb3R w R2 pc svc cs vl v bs xs less i) :: cb3K R2)⟩ w' := by
  obtain ⟨hle, hW, hcu, hst, hwr, hd⟩ := hJ
  rw [hj] at hle hst
  rw [hk] at hst
  have hc : (k : Int) < (xs.length : Int) := by omega
  have _ := ho.kd
  have hB : thB x = [UInt8.ofNat x.v] := by simp only [thB, hm]
  have hst := cb_step (by omega) hl hcs hst 1 (by rw [hx, hB]; rfl)
  rw [hx, hB] at hst
  have hrow : ∀ r ∈ ([⟨w'.heap.size, (thA x).toList, true⟩, ⟨w'.heap.size + 1, (macV (thM x.v)).toList, true⟩] : List RowS), ∀ q, One pc q → r.b ≠ q := fun r hr q hq => by
    have h1 := hcu.lt
    rw [show q = pc from hq]
    rcases List.mem_cons.1 hr with rfl | hr
    · show w'.heap.size ≠ pc; omega
    · obtain rfl := List.mem_singleton.1 hr
      show w'.heap.size + 1 ≠ pc; omega
  refine go_stop (gt := fun _ => Option.none) (unroll := false) 100 [(26, 0, .is (.bool true)), (27, 0, .sem (.pointer (some (adT vl k)))), (27, 1, .sem (.agg (thA x))), (28, 2, .is (.int .u8 ((UInt8.ofNat x.v).toNat : Int))), (28, 6, .is (.int .u8 ((UInt8.ofNat (x.v / 256)).toNat : Int))), (29, 4, .sem (.int .i64 (x.l.length : Int))), (29, 5, .sem (.int .i64 (mn x.l.length 40 : Nat))), (29, 6, .sem (cutv x.b 0 (mn x.l.length 40))), (31, 2, .is (.int .u8 0))] [0, 7, 8, 9, 10, 12, 13, 80, 94, 95, 96] [vl, v, .int .i64 (less : Int), pT pc, .int .i64 i.wr, pT w'.heap.size, pT (w'.heap.size + 1), .int .i64 (less : Int), vl, .int .i64 (xs.length : Int), .int .i64 (k : Int)] ([⟨w'.heap.size, (thA x).toList, true⟩, ⟨w'.heap.size + 1, (macV (thM x.v)).toList, true⟩]) [(12, 0), (13, 1)] (atR cb3X 34 ++ (.inv (cb3R w R2 pc svc cs vl v bs xs less i) :: cb3K R2)) [(.bool (decide ((k : Int) < (xs.length : Int))), .bool true), (.int .u8 (IntKind.u8.wrap (x.v : Int)), .int .u8 ((UInt8.ofNat x.v).toNat : Int)), (.int .u8 (IntKind.u8.wrap (Int.fdiv (x.v : Int) (2 ^ 8))), .int .u8 ((UInt8.ofNat (x.v / 256)).toNat : Int)), (.int .u8 (Int.tmod (x.kd : Int) 5), .int .u8 0)] [(Instr.indexAt 59 vl (.int .i64 (k : Int)), .pointer (some (adT vl k))), (Instr.loadAt 61 (.pointer (some (adT vl k))), .agg (thA x)), (Builtin.len_ #[22] 3 #[x.b], .int .i64 (x.l.length : Int)), (Builtin.min_ #[3, 3] 3 #[.int .i64 (x.l.length : Int), .int .i64 40], .int .i64 (mn x.l.length 40 : Nat)), (Instr.sliceAt 22 x.b Option.none (some (.int .i64 (mn x.l.length 40 : Nat))) Option.none, cutv x.b 0 (mn x.l.length 40))] hW (by kernel_rfl) ⟨congrArg Value.bool (by simpa using hc), congrArg (Value.int .u8) (m_lo x.v), congrArg (Value.int .u8) (m_hi x.v), congrArg (Value.int .u8) (m_kd hm), trivial⟩ ⟨fun wx hx => sl.1 wx hx, fun wx hx => sl.2.1 wx hx, fun wx _ => ho.rd.run_len (ty := 3) bt.sl, fun wx _ => run_mn #[3, 3] 3 x.l.length 40, fun wx _ => ho.rd.sem_cutH (mn_le_left _ _) wx, trivial⟩ ?_
  intro w1 hW1 hS1
  have cu1 := hcu.walk (rows := []) (fun _ h => nomatch h) hS1 hW1
  have hd1 : HdB [] w1 v bs := (hd.pass ([⟨w'.heap.size, (thA x).toList, true⟩, ⟨w'.heap.size + 1, (macV (thM x.v)).toList, true⟩]) hS1 (fun r hr => by
    rcases List.mem_cons.1 hr with rfl | hr
    · exact Nat.le_refl _
    · obtain rfl := List.mem_singleton.1 hr
      exact Nat.le_succ _)).none
  refine drawnM_ok (S0 := One pc) (gt := fun _ => Option.none) (D := CbD pc svc cs i.a i.e 1) (g0 := ⟨False, undef, One pc⟩)
    [(1, .loud (.is (.int .u8 (be (takeB cs i.a i.e 1) : Nat)))), (4, .is (.int .u8 ((UInt8.ofNat x.v).toNat : Int)))] [15, 0, 7, 8, 9, 10, 80, 94, 95, 96] [.is (.bool (((be (takeB cs i.a i.e 1) : Nat) : Int) == ((UInt8.ofNat x.v).toNat : Int))), .is (vl), .is (v), .is (.int .i64 (less : Int)), .is (pT pc), .is (.int .i64 i.wr), .is (.int .i64 (less : Int)), .is (vl), .is (.int .i64 (xs.length : Int)), .is (.int .i64 (k : Int))]
    (True ∧ LoudM Try.prog (One pc) w1 (CbD pc svc cs i.a i.e 1) 0 15 [.is (pT pc)] (.is (.int .u8 (be (takeB cs i.a i.e 1) : Nat))) ∧ True ∧ True ∧ ((.int .u8 (IntKind.u8.wrap (x.v : Int)) : Value) = (.int .u8 ((UInt8.ofNat x.v).toNat : Int) : Value)) ∧ True ∧ True ∧ True) 1 (afterR cb3X 34 ++ (.inv (cb3R w R2 pc svc cs vl v bs xs less i) :: cb3K R2)) hW1 (fun q hq => ⟨by rw [show q = pc from hq]; exact hpc, fun r hr => hrow r hr q hq⟩) (by kernel_rfl) (by kernel_rfl) (by kernel_rfl) CbD.keep (cb_base cu1) ⟨rfl, cu1⟩
    ⟨trivial, cb_loud fun wx hwx => byte_any hwx, trivial, trivial, congrArg (Value.int .u8) (m_lo x.v), trivial, trivial, trivial⟩ ?_
  intro g w2 vs k2 _ hD hok
  obtain rfl := allOkM_is (vs := [.bool (((be (takeB cs i.a i.e 1) : Nat) : Int) == ((UInt8.ofNat x.v).toNat : Int)), vl, v, .int .i64 (less : Int), pT pc, .int .i64 i.wr, .int .i64 (less : Int), vl, .int .i64 (xs.length : Int), .int .i64 (k : Int)]) hok
  obtain ⟨_, cu2⟩ := hD
  have hd2 : HdB [] w2 v bs := ⟨hd1.rd.keep k2 (fun b hb hx => hvp (by rw [hb, show b = pc from hx])), hd1.lt.mono k2.size, Ap.nil _⟩
  have hW1' : Wst w ⟨[], w1.heap.size⟩ w1 := hW1.fewer (rows := [])
  have hW2 : Wst w ⟨[], w2.heap.size⟩ w2 := hW1'.laterS k2 (fun q hq => ⟨by rw [show q = pc from hq]; exact hpc, fun _ h => nomatch h⟩)
  refine Goal.re (tags := tagL []) (m := ⟨[], w2.heap.size⟩) ?_
  refine go_stop (gt := fun _ => Option.none) (unroll := false) 60 [(41, 0, .stop)] [15, 0, 7, 8, 9, 10, 80, 94, 95, 96] (.bool (((be (takeB cs i.a i.e 1) : Nat) : Int) == ((UInt8.ofNat x.v).toNat : Int)) :: [vl, v, .int .i64 (less : Int), pT pc, .int .i64 i.wr, .int .i64 (less : Int), vl, .int .i64 (xs.length : Int), .int .i64 (k : Int)]) [] [] (opsR cb3X 41 ++ (.inv (cb3R w R2 pc svc cs vl v bs xs less i) :: cb3K R2)) [] [] hW2 (by kernel_rfl) trivial trivial ?_
  intro w3 hW3 hS3
  refine cb3_tail i hj hk hle h60 hl hwr hW3 (cu2.walk (rows := []) (fun _ h => nomatch h) hS3 hW3) hst.1 (hd2.pass0 hS3) _ (fun h0 => ?_)
  have := hst.2 h0
  rw [show takeB cs i.a i.e 1 = [UInt8.ofNat x.v] from this]
  simp [be]
set_option maxRecDepth 4000 in
theorem cb3_arm1 (i : Cb3I) {j k : Nat} (hj : i.j = j + 1) (hk : xs.length - (j + 1) = k) (h60 : xs.length ≤ 60) (hl : less ≤ 1) (hcs : cs = (xs.flatMap thB).take ((xs.flatMap thB).length - less)) (hpc : w.heap.size ≤ pc) (hvp : v.ownBlock ≠ some pc) (w' : World) (hJ : Cb3J w pc svc cs v bs xs less i w') {x : Thg} (hx : xs.getD k thE = x) (ho : ThOk w x)
    (sl : SemObs Try.prog ⟨[], w'.heap.size⟩ w' [(Instr.indexAt 59 vl (.int .i64 (k : Int)), .pointer (some (adT vl k))), (Instr.loadAt 61 (.pointer (some (adT vl k))), .agg (thA x))]) (hm : x.kd % 5 = 1) :
    Goal Try.prog (bodyPost Try.prog Try.f6 (cbQ w)) cbN ⟨frOf [0, 7, 8, 9, 10, 80, 94, 95, 96] [vl, v, .int .i64 (less : Int), pT pc, .int .i64 i.wr, .int .i64 (less : Int), vl, .int .i64 (xs.length : Int), .int .i64 (k : Int)], tagL [], ⟨[], w'.heap.size⟩, .code cb3X :: (.inv (cb3R w R2 pc svc cs vl v bs xs less i) :: cb3K R2)⟩ w' := by
  obtain ⟨hle, hW, hcu, hst, hwr, hd⟩ := hJ
  rw [hj] at hle hst
  rw [hk] at hst
  have hc : (k : Int) < (xs.length : Int) := by omega
  have _ := ho.kd
  have hB : thB x = bytes2 (x.v % 65536) := by simp only [thB, hm]
  have hst := cb_step (by omega) hl hcs hst 2 (by rw [hx, hB]; rfl)
  rw [hx, hB] at hst
  have hrow : ∀ r ∈ ([⟨w'.heap.size, (thA x).toList, true⟩, ⟨w'.heap.size + 1, (macV (thM x.v)).toList, true⟩] : List RowS), ∀ q, One pc q → r.b ≠ q := fun r hr q hq => by
    have h1 := hcu.lt
    rw [show q = pc from hq]
    rcases List.mem_cons.1 hr with rfl | hr
    · show w'.heap.size ≠ pc; omega
    · obtain rfl := List.mem_singleton.1 hr
      show w'.heap.size + 1 ≠ pc; omega
  refine go_stop (gt := fun _ => Option.none) (unroll := false) 100 [(26, 0, .is (.bool true)), (27, 0, .sem (.pointer (some (adT vl k)))), (27, 1, .sem (.agg (thA x))), (28, 2, .is (.int .u8 ((UInt8.ofNat x.v).toNat : Int))), (28, 6, .is (.int .u8 ((UInt8.ofNat (x.v / 256)).toNat : Int))), (29, 4, .sem (.int .i64 (x.l.length : Int))), (29, 5, .sem (.int .i64 (mn x.l.length 40 : Nat))), (29, 6, .sem (cutv x.b 0 (mn x.l.length 40))), (31, 2, .is (.int .u8 1))] [0, 7, 8, 9, 10, 12, 13, 80, 94, 95, 96] [vl, v, .int .i64 (less : Int), pT pc, .int .i64 i.wr, pT w'.heap.size, pT (w'.heap.size + 1), .int .i64 (less : Int), vl, .int .i64 (xs.length : Int), .int .i64 (k : Int)] ([⟨w'.heap.size, (thA x).toList, true⟩, ⟨w'.heap.size + 1, (macV (thM x.v)).toList, true⟩]) [(12, 0), (13, 1)] (atR cb3X 36 ++ (.inv (cb3R w R2 pc svc cs vl v bs xs less i) :: cb3K R2)) [(.bool (decide ((k : Int) < (xs.length : Int))), .bool true), (.int .u8 (IntKind.u8.wrap (x.v : Int)), .int .u8 ((UInt8.ofNat x.v).toNat : Int)), (.int .u8 (IntKind.u8.wrap (Int.fdiv (x.v : Int) (2 ^ 8))), .int .u8 ((UInt8.ofNat (x.v / 256)).toNat : Int)), (.int .u8 (Int.tmod (x.kd : Int) 5), .int .u8 1)] [(Instr.indexAt 59 vl (.int .i64 (k : Int)), .pointer (some (adT vl k))), (Instr.loadAt 61 (.pointer (some (adT vl k))), .agg (thA x)), (Builtin.len_ #[22] 3 #[x.b], .int .i64 (x.l.length : Int)), (Builtin.min_ #[3, 3] 3 #[.int .i64 (x.l.length : Int), .int .i64 40], .int .i64 (mn x.l.length 40 : Nat)), (Instr.sliceAt 22 x.b Option.none (some (.int .i64 (mn x.l.length 40 : Nat))) Option.none, cutv x.b 0 (mn x.l.length 40))] hW (by kernel_rfl) ⟨congrArg Value.bool (by simpa using hc), congrArg (Value.int .u8) (m_lo x.v), congrArg (Value.int .u8) (m_hi x.v), congrArg (Value.int .u8) (m_kd hm), trivial⟩ ⟨fun wx hx => sl.1 wx hx, fun wx hx => sl.2.1 wx hx, fun wx _ => ho.rd.run_len (ty := 3) bt.sl, fun wx _ => run_mn #[3, 3] 3 x.l.length 40, fun wx _ => ho.rd.sem_cutH (mn_le_left _ _) wx, trivial⟩ ?_
  intro w1 hW1 hS1
  have cu1 := hcu.walk (rows := []) (fun _ h => nomatch h) hS1 hW1
  have hd1 : HdB [] w1 v bs := (hd.pass ([⟨w'.heap.size, (thA x).toList, true⟩, ⟨w'.heap.size + 1, (macV (thM x.v)).toList, true⟩]) hS1 (fun r hr => by
    rcases List.mem_cons.1 hr with rfl | hr
    · exact Nat.le_refl _
    · obtain rfl := List.mem_singleton.1 hr
      exact Nat.le_succ _)).none
  refine drawnM_ok (S0 := One pc) (gt := fun _ => Option.none) (D := CbD pc svc cs i.a i.e 2) (g0 := ⟨False, undef, One pc⟩)
    [(1, .loud (.is (.int .u16 (be (takeB cs i.a i.e 2) : Nat)))), (4, .is (.int .u16 (x.v % 65536 : Nat)))] [15, 0, 7, 8, 9, 10, 80, 94, 95, 96] [.is (.bool (((be (takeB cs i.a i.e 2) : Nat) : Int) == ((x.v % 65536 : Nat) : Int))), .is (vl), .is (v), .is (.int .i64 (less : Int)), .is (pT pc), .is (.int .i64 i.wr), .is (.int .i64 (less : Int)), .is (vl), .is (.int .i64 (xs.length : Int)), .is (.int .i64 (k : Int))]
    (True ∧ LoudM Try.prog (One pc) w1 (CbD pc svc cs i.a i.e 2) 0 16 [.is (pT pc)] (.is (.int .u16 (be (takeB cs i.a i.e 2) : Nat))) ∧ True ∧ True ∧ ((.int .u16 (IntKind.u16.wrap (x.v : Int)) : Value) = .int .u16 (x.v % 65536 : Nat)) ∧ True ∧ True ∧ True) 1 (afterR cb3X 36 ++ (.inv (cb3R w R2 pc svc cs vl v bs xs less i) :: cb3K R2)) hW1 (fun q hq => ⟨by rw [show q = pc from hq]; exact hpc, fun r hr => hrow r hr q hq⟩) (by kernel_rfl) (by kernel_rfl) (by kernel_rfl) CbD.keep (cb_base cu1) ⟨rfl, cu1⟩
    ⟨trivial, cb_loud fun wx hwx => two_any hwx, trivial, trivial, congrArg (Value.int .u16) (m_two x.v), trivial, trivial, trivial⟩ ?_
  intro g w2 vs k2 _ hD hok
  obtain rfl := allOkM_is (vs := [.bool (((be (takeB cs i.a i.e 2) : Nat) : Int) == ((x.v % 65536 : Nat) : Int)), vl, v, .int .i64 (less : Int), pT pc, .int .i64 i.wr, .int .i64 (less : Int), vl, .int .i64 (xs.length : Int), .int .i64 (k : Int)]) hok
  obtain ⟨_, cu2⟩ := hD
  have hd2 : HdB [] w2 v bs := ⟨hd1.rd.keep k2 (fun b hb hx => hvp (by rw [hb, show b = pc from hx])), hd1.lt.mono k2.size, Ap.nil _⟩
  have hW1' : Wst w ⟨[], w1.heap.size⟩ w1 := hW1.fewer (rows := [])
  have hW2 : Wst w ⟨[], w2.heap.size⟩ w2 := hW1'.laterS k2 (fun q hq => ⟨by rw [show q = pc from hq]; exact hpc, fun _ h => nomatch h⟩)
  refine Goal.re (tags := tagL []) (m := ⟨[], w2.heap.size⟩) ?_
  refine go_stop (gt := fun _ => Option.none) (unroll := false) 60 [(41, 0, .stop)] [15, 0, 7, 8, 9, 10, 80, 94, 95, 96] (.bool (((be (takeB cs i.a i.e 2) : Nat) : Int) == ((x.v % 65536 : Nat) : Int)) :: [vl, v, .int .i64 (less : Int), pT pc, .int .i64 i.wr, .int .i64 (less : Int), vl, .int .i64 (xs.length : Int), .int .i64 (k : Int)]) [] [] (opsR cb3X 41 ++ (.inv (cb3R w R2 pc svc cs vl v bs xs less i) :: cb3K R2)) [] [] hW2 (by kernel_rfl) trivial trivial ?_
  intro w3 hW3 hS3
  refine cb3_tail i hj hk hle h60 hl hwr hW3 (cu2.walk (rows := []) (fun _ h => nomatch h) hS3 hW3) hst.1 (hd2.pass0 hS3) _ (fun h0 => ?_)
  have := hst.2 h0
  rw [show takeB cs i.a i.e 2 = bytes2 (x.v % 65536) from this, be2 _ (Nat.mod_lt _ (by omega))]
  simp
set_option maxRecDepth 4000 in
theorem cb3_arm2 (i : Cb3I) {j k : Nat} (hj : i.j = j + 1) (hk : xs.length - (j + 1) = k) (h60 : xs.length ≤ 60) (hl : less ≤ 1) (hcs : cs = (xs.flatMap thB).take ((xs.flatMap thB).length - less)) (hpc : w.heap.size ≤ pc) (hvp : v.ownBlock ≠ some pc) (w' : World) (hJ : Cb3J w pc svc cs v bs xs less i w') {x : Thg} (hx : xs.getD k thE = x) (ho : ThOk w x)
    (sl : SemObs Try.prog ⟨[], w'.heap.size⟩ w' [(Instr.indexAt 59 vl (.int .i64 (k : Int)), .pointer (some (adT vl k))), (Instr.loadAt 61 (.pointer (some (adT vl k))), .agg (thA x))]) (hm : x.kd % 5 = 2) :
    Goal Try.prog (bodyPost Try.prog Try.f6 (cbQ w)) cbN ⟨frOf [0, 7, 8, 9, 10, 80, 94, 95, 96] [vl, v, .int .i64 (less : Int), pT pc, .int .i64 i.wr, .int .i64 (less : Int), vl, .int .i64 (xs.length : Int), .int .i64 (k : Int)], tagL [], ⟨[], w'.heap.size⟩, .code cb3X :: (.inv (cb3R w R2 pc svc cs vl v bs xs less i) :: cb3K R2)⟩ w' := by
  obtain ⟨hle, hW, hcu, hst, hwr, hd⟩ := hJ
  rw [hj] at hle hst
  rw [hk] at hst
  have hc : (k : Int) < (xs.length : Int) := by omega
  have _ := ho.kd
  have hB : thB x = bytes4 x.v := by simp only [thB, hm]
  have hst := cb_step (by omega) hl hcs hst 4 (by rw [hx, hB]; rfl)
  rw [hx, hB] at hst
  have hrow : ∀ r ∈ ([⟨w'.heap.size, (thA x).toList, true⟩, ⟨w'.heap.size + 1, (macV (thM x.v)).toList, true⟩] : List RowS), ∀ q, One pc q → r.b ≠ q := fun r hr q hq => by
    have h1 := hcu.lt
    rw [show q = pc from hq]
    rcases List.mem_cons.1 hr with rfl | hr
    · show w'.heap.size ≠ pc; omega
    · obtain rfl := List.mem_singleton.1 hr
      show w'.heap.size + 1 ≠ pc; omega
  refine go_stop (gt := fun _ => Option.none) (unroll := false) 100 [(26, 0, .is (.bool true)), (27, 0, .sem (.pointer (some (adT vl k)))), (27, 1, .sem (.agg (thA x))), (28, 2, .is (.int .u8 ((UInt8.ofNat x.v).toNat : Int))), (28, 6, .is (.int .u8 ((UInt8.ofNat (x.v / 256)).toNat : Int))), (29, 4, .sem (.int .i64 (x.l.length : Int))), (29, 5, .sem (.int .i64 (mn x.l.length 40 : Nat))), (29, 6, .sem (cutv x.b 0 (mn x.l.length 40))), (31, 2, .is (.int .u8 2))] [0, 7, 8, 9, 10, 12, 13, 80, 94, 95, 96] [vl, v, .int .i64 (less : Int), pT pc, .int .i64 i.wr, pT w'.heap.size, pT (w'.heap.size + 1), .int .i64 (less : Int), vl, .int .i64 (xs.length : Int), .int .i64 (k : Int)] ([⟨w'.heap.size, (thA x).toList, true⟩, ⟨w'.heap.size + 1, (macV (thM x.v)).toList, true⟩]) [(12, 0), (13, 1)] (atR cb3X 38 ++ (.inv (cb3R w R2 pc svc cs vl v bs xs less i) :: cb3K R2)) [(.bool (decide ((k : Int) < (xs.length : Int))), .bool true), (.int .u8 (IntKind.u8.wrap (x.v : Int)), .int .u8 ((UInt8.ofNat x.v).toNat : Int)), (.int .u8 (IntKind.u8.wrap (Int.fdiv (x.v : Int) (2 ^ 8))), .int .u8 ((UInt8.ofNat (x.v / 256)).toNat : Int)), (.int .u8 (Int.tmod (x.kd : Int) 5), .int .u8 2)] [(Instr.indexAt 59 vl (.int .i64 (k : Int)), .pointer (some (adT vl k))), (Instr.loadAt 61 (.pointer (some (adT vl k))), .agg (thA x)), (Builtin.len_ #[22] 3 #[x.b], .int .i64 (x.l.length : Int)), (Builtin.min_ #[3, 3] 3 #[.int .i64 (x.l.length : Int), .int .i64 40], .int .i64 (mn x.l.length 40 : Nat)), (Instr.sliceAt 22 x.b Option.none (some (.int .i64 (mn x.l.length 40 : Nat))) Option.none, cutv x.b 0 (mn x.l.length 40))] hW (by kernel_rfl) ⟨congrArg Value.bool (by simpa using hc), congrArg (Value.int .u8) (m_lo x.v), congrArg (Value.int .u8) (m_hi x.v), congrArg (Value.int .u8) (m_kd hm), trivial⟩ ⟨fun wx hx => sl.1 wx hx, fun wx hx => sl.2.1 wx hx, fun wx _ => ho.rd.run_len (ty := 3) bt.sl, fun wx _ => run_mn #[3, 3] 3 x.l.length 40, fun wx _ => ho.rd.sem_cutH (mn_le_left _ _) wx, trivial⟩ ?_
  intro w1 hW1 hS1
  have cu1 := hcu.walk (rows := []) (fun _ h => nomatch h) hS1 hW1
  have hd1 : HdB [] w1 v bs := (hd.pass ([⟨w'.heap.size, (thA x).toList, true⟩, ⟨w'.heap.size + 1, (macV (thM x.v)).toList, true⟩]) hS1 (fun r hr => by
    rcases List.mem_cons.1 hr with rfl | hr
    · exact Nat.le_refl _
    · obtain rfl := List.mem_singleton.1 hr
      exact Nat.le_succ _)).none
  refine drawnM_ok (S0 := One pc) (gt := fun _ => Option.none) (D := CbD pc svc cs i.a i.e 4) (g0 := ⟨False, undef, One pc⟩)
    [(1, .loud (.is (.int .u32 (be (takeB cs i.a i.e 4) : Nat))))] [15, 0, 7, 8, 9, 10, 80, 94, 95, 96] [.is (.bool (((be (takeB cs i.a i.e 4) : Nat) : Int) == (x.v : Int))), .is (vl), .is (v), .is (.int .i64 (less : Int)), .is (pT pc), .is (.int .i64 i.wr), .is (.int .i64 (less : Int)), .is (vl), .is (.int .i64 (xs.length : Int)), .is (.int .i64 (k : Int))]
    (True ∧ LoudM Try.prog (One pc) w1 (CbD pc svc cs i.a i.e 4) 0 17 [.is (pT pc)] (.is (.int .u32 (be (takeB cs i.a i.e 4) : Nat))) ∧ True ∧ True ∧ True ∧ True ∧ True) 1 (afterR cb3X 38 ++ (.inv (cb3R w R2 pc svc cs vl v bs xs less i) :: cb3K R2)) hW1 (fun q hq => ⟨by rw [show q = pc from hq]; exact hpc, fun r hr => hrow r hr q hq⟩) (by kernel_rfl) (by kernel_rfl) (by kernel_rfl) CbD.keep (cb_base cu1) ⟨rfl, cu1⟩
    ⟨trivial, cb_loud fun wx hwx => four_any hwx, trivial, trivial, trivial, trivial, trivial⟩ ?_
  intro g w2 vs k2 _ hD hok
  obtain rfl := allOkM_is (vs := [.bool (((be (takeB cs i.a i.e 4) : Nat) : Int) == (x.v : Int)), vl, v, .int .i64 (less : Int), pT pc, .int .i64 i.wr, .int .i64 (less : Int), vl, .int .i64 (xs.length : Int), .int .i64 (k : Int)]) hok
  obtain ⟨_, cu2⟩ := hD
  have hd2 : HdB [] w2 v bs := ⟨hd1.rd.keep k2 (fun b hb hx => hvp (by rw [hb, show b = pc from hx])), hd1.lt.mono k2.size, Ap.nil _⟩
  have hW1' : Wst w ⟨[], w1.heap.size⟩ w1 := hW1.fewer (rows := [])
  have hW2 : Wst w ⟨[], w2.heap.size⟩ w2 := hW1'.laterS k2 (fun q hq => ⟨by rw [show q = pc from hq]; exact hpc, fun _ h => nomatch h⟩)
  refine Goal.re (tags := tagL []) (m := ⟨[], w2.heap.size⟩) ?_
  refine go_stop (gt := fun _ => Option.none) (unroll := false) 60 [(41, 0, .stop)] [15, 0, 7, 8, 9, 10, 80, 94, 95, 96] (.bool (((be (takeB cs i.a i.e 4) : Nat) : Int) == (x.v : Int)) :: [vl, v, .int .i64 (less : Int), pT pc, .int .i64 i.wr, .int .i64 (less : Int), vl, .int .i64 (xs.length : Int), .int .i64 (k : Int)]) [] [] (opsR cb3X 41 ++ (.inv (cb3R w R2 pc svc cs vl v bs xs less i) :: cb3K R2)) [] [] hW2 (by kernel_rfl) trivial trivial ?_
  intro w3 hW3 hS3
  refine cb3_tail i hj hk hle h60 hl hwr hW3 (cu2.walk (rows := []) (fun _ h => nomatch h) hS3 hW3) hst.1 (hd2.pass0 hS3) _ (fun h0 => ?_)
  have := hst.2 h0
  rw [show takeB cs i.a i.e 4 = bytes4 x.v from this, be4 _ ho.v]
  simp
set_option maxRecDepth 4000 in
theorem cb3_arm3 (i : Cb3I) {j k : Nat} (hj : i.j = j + 1) (hk : xs.length - (j + 1) = k) (h60 : xs.length ≤ 60) (hl : less ≤ 1) (hcs : cs = (xs.flatMap thB).take ((xs.flatMap thB).length - less)) (hpc : w.heap.size ≤ pc) (hvp : v.ownBlock ≠ some pc) (w' : World) (hJ : Cb3J w pc svc cs v bs xs less i w') {x : Thg} (hx : xs.getD k thE = x) (ho : ThOk w x)
    (sl : SemObs Try.prog ⟨[], w'.heap.size⟩ w' [(Instr.indexAt 59 vl (.int .i64 (k : Int)), .pointer (some (adT vl k))), (Instr.loadAt 61 (.pointer (some (adT vl k))), .agg (thA x))]) (hm : x.kd % 5 = 3) :
    Goal Try.prog (bodyPost Try.prog Try.f6 (cbQ w)) cbN ⟨frOf [0, 7, 8, 9, 10, 80, 94, 95, 96] [vl, v, .int .i64 (less : Int), pT pc, .int .i64 i.wr, .int .i64 (less : Int), vl, .int .i64 (xs.length : Int), .int .i64 (k : Int)], tagL [], ⟨[], w'.heap.size⟩, .code cb3X :: (.inv (cb3R w R2 pc svc cs vl v bs xs less i) :: cb3K R2)⟩ w' := by
  obtain ⟨hle, hW, hcu, hst, hwr, hd⟩ := hJ
  rw [hj] at hle hst
  rw [hk] at hst
  have hc : (k : Int) < (xs.length : Int) := by omega
  have _ := ho.kd
  have hB : thB x = thM x.v := by simp only [thB, hm]
  have hst := cb_step (by omega) hl hcs hst 6 (by rw [hx, hB]; rfl)
  rw [hx, hB] at hst
  have hrow : ∀ r ∈ ([⟨w'.heap.size, (thA x).toList, true⟩, ⟨w'.heap.size + 1, (macV (thM x.v)).toList, true⟩] : List RowS), ∀ q, One pc q → r.b ≠ q := fun r hr q hq => by
    have h1 := hcu.lt
    rw [show q = pc from hq]
    rcases List.mem_cons.1 hr with rfl | hr
    · show w'.heap.size ≠ pc; omega
    · obtain rfl := List.mem_singleton.1 hr
      show w'.heap.size + 1 ≠ pc; omega
  refine go_stop (gt := fun _ => Option.none) (unroll := false) 100 [(26, 0, .is (.bool true)), (27, 0, .sem (.pointer (some (adT vl k)))), (27, 1, .sem (.agg (thA x))), (28, 2, .is (.int .u8 ((UInt8.ofNat x.v).toNat : Int))), (28, 6, .is (.int .u8 ((UInt8.ofNat (x.v / 256)).toNat : Int))), (29, 4, .sem (.int .i64 (x.l.length : Int))), (29, 5, .sem (.int .i64 (mn x.l.length 40 : Nat))), (29, 6, .sem (cutv x.b 0 (mn x.l.length 40))), (31, 2, .is (.int .u8 3))] [0, 7, 8, 9, 10, 12, 13, 80, 94, 95, 96] [vl, v, .int .i64 (less : Int), pT pc, .int .i64 i.wr, pT w'.heap.size, pT (w'.heap.size + 1), .int .i64 (less : Int), vl, .int .i64 (xs.length : Int), .int .i64 (k : Int)] ([⟨w'.heap.size, (thA x).toList, true⟩, ⟨w'.heap.size + 1, (macV (thM x.v)).toList, true⟩]) [(12, 0), (13, 1)] (atR cb3X 40 ++ (.inv (cb3R w R2 pc svc cs vl v bs xs less i) :: cb3K R2)) [(.bool (decide ((k : Int) < (xs.length : Int))), .bool true), (.int .u8 (IntKind.u8.wrap (x.v : Int)), .int .u8 ((UInt8.ofNat x.v).toNat : Int)), (.int .u8 (IntKind.u8.wrap (Int.fdiv (x.v : Int) (2 ^ 8))), .int .u8 ((UInt8.ofNat (x.v / 256)).toNat : Int)), (.int .u8 (Int.tmod (x.kd : Int) 5), .int .u8 3)] [(Instr.indexAt 59 vl (.int .i64 (k : Int)), .pointer (some (adT vl k))), (Instr.loadAt 61 (.pointer (some (adT vl k))), .agg (thA x)), (Builtin.len_ #[22] 3 #[x.b], .int .i64 (x.l.length : Int)), (Builtin.min_ #[3, 3] 3 #[.int .i64 (x.l.length : Int), .int .i64 40], .int .i64 (mn x.l.length 40 : Nat)), (Instr.sliceAt 22 x.b Option.none (some (.int .i64 (mn x.l.length 40 : Nat))) Option.none, cutv x.b 0 (mn x.l.length 40))] hW (by kernel_rfl) ⟨congrArg Value.bool (by simpa using hc), congrArg (Value.int .u8) (m_lo x.v), congrArg (Value.int .u8) (m_hi x.v), congrArg (Value.int .u8) (m_kd hm), trivial⟩ ⟨fun wx hx => sl.1 wx hx, fun wx hx => sl.2.1 wx hx, fun wx _ => ho.rd.run_len (ty := 3) bt.sl, fun wx _ => run_mn #[3, 3] 3 x.l.length 40, fun wx _ => ho.rd.sem_cutH (mn_le_left _ _) wx, trivial⟩ ?_
  intro w1 hW1 hS1
  have cu1 := hcu.walk (rows := []) (fun _ h => nomatch h) hS1 hW1
  have hd1 : HdB [] w1 v bs := (hd.pass ([⟨w'.heap.size, (thA x).toList, true⟩, ⟨w'.heap.size + 1, (macV (thM x.v)).toList, true⟩]) hS1 (fun r hr => by
    rcases List.mem_cons.1 hr with rfl | hr
    · exact Nat.le_refl _
    · obtain rfl := List.mem_singleton.1 hr
      exact Nat.le_succ _)).none
  refine drawnM_ok (S0 := One pc) (gt := fun _ => Option.none) (D := CbD pc svc cs i.a i.e 6) (g0 := ⟨False, undef, One pc⟩)
    [(1, .loud (.is (.agg (macV (takeB cs i.a i.e 6))))), (3, .bin (.bool ((List.range 6).all fun j => bn (takeB cs i.a i.e 6) j == bn (thM x.v) j)))] [15, 0, 7, 8, 9, 10, 80, 94, 95, 96] [.is (.bool ((List.range 6).all fun j => bn (takeB cs i.a i.e 6) j == bn (thM x.v) j)), .is (vl), .is (v), .is (.int .i64 (less : Int)), .is (pT pc), .is (.int .i64 i.wr), .is (.int .i64 (less : Int)), .is (vl), .is (.int .i64 (xs.length : Int)), .is (.int .i64 (k : Int))]
    (True ∧ LoudM Try.prog (One pc) w1 (CbD pc svc cs i.a i.e 6) 0 18 [.is (pT pc)] (.is (.agg (macV (takeB cs i.a i.e 6)))) ∧ True ∧ SemM Try.prog (One pc) w1 (binOp .eql 37 (.agg (macV (takeB cs i.a i.e 6))) (.agg (macV (thM x.v)))) (.bool ((List.range 6).all fun j => bn (takeB cs i.a i.e 6) j == bn (thM x.v) j)) ∧ True ∧ True) 1 (afterR cb3X 40 ++ (.inv (cb3R w R2 pc svc cs vl v bs xs less i) :: cb3K R2)) hW1 (fun q hq => ⟨by rw [show q = pc from hq]; exact hpc, fun r hr => hrow r hr q hq⟩) (by kernel_rfl) (by kernel_rfl) (by kernel_rfl) CbD.keep (cb_base cu1) ⟨rfl, cu1⟩
    ⟨trivial, cb_loud fun wx hwx => cmac_any hwx, trivial, fun wx _ => eq_mac2 wx _ _, trivial, trivial⟩ ?_
  intro g w2 vs k2 _ hD hok
  obtain rfl := allOkM_is (vs := [.bool ((List.range 6).all fun j => bn (takeB cs i.a i.e 6) j == bn (thM x.v) j), vl, v, .int .i64 (less : Int), pT pc, .int .i64 i.wr, .int .i64 (less : Int), vl, .int .i64 (xs.length : Int), .int .i64 (k : Int)]) hok
  obtain ⟨_, cu2⟩ := hD
  have hd2 : HdB [] w2 v bs := ⟨hd1.rd.keep k2 (fun b hb hx => hvp (by rw [hb, show b = pc from hx])), hd1.lt.mono k2.size, Ap.nil _⟩
  have hW1' : Wst w ⟨[], w1.heap.size⟩ w1 := hW1.fewer (rows := [])
  have hW2 : Wst w ⟨[], w2.heap.size⟩ w2 := hW1'.laterS k2 (fun q hq => ⟨by rw [show q = pc from hq]; exact hpc, fun _ h => nomatch h⟩)
  refine Goal.re (tags := tagL []) (m := ⟨[], w2.heap.size⟩) ?_
  refine go_stop (gt := fun _ => Option.none) (unroll := false) 60 [(41, 0, .stop)] [15, 0, 7, 8, 9, 10, 80, 94, 95, 96] (.bool ((List.range 6).all fun j => bn (takeB cs i.a i.e 6) j == bn (thM x.v) j) :: [vl, v, .int .i64 (less : Int), pT pc, .int .i64 i.wr, .int .i64 (less : Int), vl, .int .i64 (xs.length : Int), .int .i64 (k : Int)]) [] [] (opsR cb3X 41 ++ (.inv (cb3R w R2 pc svc cs vl v bs xs less i) :: cb3K R2)) [] [] hW2 (by kernel_rfl) trivial trivial ?_
  intro w3 hW3 hS3
  refine cb3_tail i hj hk hle h60 hl hwr hW3 (cu2.walk (rows := []) (fun _ h => nomatch h) hS3 hW3) hst.1 (hd2.pass0 hS3) _ (fun h0 => ?_)
  have := hst.2 h0
  exact eq_mac_same this
set_option maxRecDepth 4000 in
theorem cb3_arm4 (i : Cb3I) {j k : Nat} (hj : i.j = j + 1) (hk : xs.length - (j + 1) = k) (h60 : xs.length ≤ 60) (hl : less ≤ 1) (hcs : cs = (xs.flatMap thB).take ((xs.flatMap thB).length - less)) (hpc : w.heap.size ≤ pc) (hvp : v.ownBlock ≠ some pc) (w' : World) (hJ : Cb3J w pc svc cs v bs xs less i w') {x : Thg} (hx : xs.getD k thE = x) (ho : ThOk w x)
    (sl : SemObs Try.prog ⟨[], w'.heap.size⟩ w' [(Instr.indexAt 59 vl (.int .i64 (k : Int)), .pointer (some (adT vl k))), (Instr.loadAt 61 (.pointer (some (adT vl k))), .agg (thA x))]) (hm : x.kd % 5 = 4) :
    Goal Try.prog (bodyPost Try.prog Try.f6 (cbQ w)) cbN ⟨frOf [0, 7, 8, 9, 10, 80, 94, 95, 96] [vl, v, .int .i64 (less : Int), pT pc, .int .i64 i.wr, .int .i64 (less : Int), vl, .int .i64 (xs.length : Int), .int .i64 (k : Int)], tagL [], ⟨[], w'.heap.size⟩, .code cb3X :: (.inv (cb3R w R2 pc svc cs vl v bs xs less i) :: cb3K R2)⟩ w' := by
  obtain ⟨hle, hW, hcu, hst, hwr, hd⟩ := hJ
  rw [hj] at hle hst
  rw [hk] at hst
  have hc : (k : Int) < (xs.length : Int) := by omega
  have _ := ho.kd
  have hB : thB x = x.l.take (mn x.l.length 40) := by simp only [thB, hm]
  have hst := cb_step (by omega) hl hcs hst (mn x.l.length 40) (by rw [hx, hB]; simp [mn_le_left])
  rw [hx, hB] at hst
  have hrow : ∀ r ∈ ([⟨w'.heap.size, (thA x).toList, true⟩, ⟨w'.heap.size + 1, (macV (thM x.v)).toList, true⟩] : List RowS), ∀ q, One pc q → r.b ≠ q := fun r hr q hq => by
    have h1 := hcu.lt
    rw [show q = pc from hq]
    rcases List.mem_cons.1 hr with rfl | hr
    · show w'.heap.size ≠ pc; omega
    · obtain rfl := List.mem_singleton.1 hr
      show w'.heap.size + 1 ≠ pc; omega
  have rc : Rd w (cutv x.b 0 (mn x.l.length 40)) (x.l.take (mn x.l.length 40)) := by
    have := ho.rd.cut (l := 0) (Nat.zero_le _) (mn_le_left x.l.length 40)
    simpa using this
  have hcl : (x.l.take (mn x.l.length 40)).length = mn x.l.length 40 := by simp [mn_le_left]
  refine go_call_is (gt := fun _ => Option.none) (unroll := false) 100 [(26, 0, .is (.bool true)), (27, 0, .sem (.pointer (some (adT vl k)))), (27, 1, .sem (.agg (thA x))), (28, 2, .is (.int .u8 ((UInt8.ofNat x.v).toNat : Int))), (28, 6, .is (.int .u8 ((UInt8.ofNat (x.v / 256)).toNat : Int))), (29, 4, .sem (.int .i64 (x.l.length : Int))), (29, 5, .sem (.int .i64 (mn x.l.length 40 : Nat))), (29, 6, .sem (cutv x.b 0 (mn x.l.length 40))), (31, 2, .is (.int .u8 4)), (32, 2, .sem (.int .i64 (mn x.l.length 40 : Nat)))] 19 [pT pc, .int .i64 (mn x.l.length 40 : Nat)] [0, 7, 8, 9, 10, 14, 80, 94, 95, 96] [vl, v, .int .i64 (less : Int), pT pc, .int .i64 i.wr, cutv x.b 0 (mn x.l.length 40), .int .i64 (less : Int), vl, .int .i64 (xs.length : Int), .int .i64 (k : Int)] 121 ([⟨w'.heap.size, (thA x).toList, true⟩, ⟨w'.heap.size + 1, (macV (thM x.v)).toList, true⟩]) [] (inR cb3X 32 3 ++ (.inv (cb3R w R2 pc svc cs vl v bs xs less i) :: cb3K R2)) [(.bool (decide ((k : Int) < (xs.length : Int))), .bool true), (.int .u8 (IntKind.u8.wrap (x.v : Int)), .int .u8 ((UInt8.ofNat x.v).toNat : Int)), (.int .u8 (IntKind.u8.wrap (Int.fdiv (x.v : Int) (2 ^ 8))), .int .u8 ((UInt8.ofNat (x.v / 256)).toNat : Int)), (.int .u8 (Int.tmod (x.kd : Int) 5), .int .u8 4)] [(Instr.indexAt 59 vl (.int .i64 (k : Int)), .pointer (some (adT vl k))), (Instr.loadAt 61 (.pointer (some (adT vl k))), .agg (thA x)), (Builtin.len_ #[22] 3 #[x.b], .int .i64 (x.l.length : Int)), (Builtin.min_ #[3, 3] 3 #[.int .i64 (x.l.length : Int), .int .i64 40], .int .i64 (mn x.l.length 40 : Nat)), (Instr.sliceAt 22 x.b Option.none (some (.int .i64 (mn x.l.length 40 : Nat))) Option.none, cutv x.b 0 (mn x.l.length 40)), (Builtin.len_ #[22] 3 #[cutv x.b 0 (mn x.l.length 40)], .int .i64 (mn x.l.length 40 : Nat))] hW (by kernel_rfl) ⟨congrArg Value.bool (by simpa using hc), congrArg (Value.int .u8) (m_lo x.v), congrArg (Value.int .u8) (m_hi x.v), congrArg (Value.int .u8) (m_kd hm), trivial⟩ ⟨fun wx hx => sl.1 wx hx, fun wx hx => sl.2.1 wx hx, fun wx _ => ho.rd.run_len (ty := 3) bt.sl, fun wx _ => run_mn #[3, 3] 3 x.l.length 40, fun wx _ => ho.rd.sem_cutH (mn_le_left _ _) wx, fun wx _ => by have := rc.run_len (P := Try.prog) (w' := wx) (ty := 3) bt.sl; rw [hcl] at this; exact this, trivial⟩ ?_
  intro w1 hW1 hS1
  have cu1 := hcu.walk (rows := []) (fun _ h => nomatch h) hS1 hW1
  have hd1 : HdB [] w1 v bs := (hd.pass ([⟨w'.heap.size, (thA x).toList, true⟩, ⟨w'.heap.size + 1, (macV (thM x.v)).toList, true⟩]) hS1 (fun r hr => by
    rcases List.mem_cons.1 hr with rfl | hr
    · exact Nat.le_refl _
    · obtain rfl := List.mem_singleton.1 hr
      exact Nat.le_succ _)).none
  refine (take_any cu1 _).mono ?_
  rintro y w2 ⟨v4, rfl, t⟩
  refine ⟨_, rfl, ?_⟩
  have k2 := t.keep
  have hd2 : HdB [] w2 v bs := ⟨hd1.rd.keep k2 (fun b hb hx => hvp (by rw [hb, show b = pc from hx])), hd1.lt.mono k2.size, Ap.nil _⟩
  have hW1' : Wst w ⟨[], w1.heap.size⟩ w1 := hW1.fewer (rows := [])
  have hW2 : Wst w ⟨[], w2.heap.size⟩ w2 := hW1'.laterS k2 (fun q hq => ⟨by rw [show q = pc from hq]; exact hpc, fun _ h => nomatch h⟩)
  have H4 : HdB [] w2 v4 (takeB cs i.a i.e (mn x.l.length 40 : Nat)) := ⟨t.rd, t.own.lt, Ap.nil _⟩
  refine Goal.re (tags := tagL []) (m := ⟨[], w2.heap.size⟩) ?_
  refine go_call_is (gt := fun _ => Option.none) (unroll := false) 60 [] 25 [v4, cutv x.b 0 (mn x.l.length 40)] [0, 7, 8, 9, 10, 80, 94, 95, 96] [vl, v, .int .i64 (less : Int), pT pc, .int .i64 i.wr, .int .i64 (less : Int), vl, .int .i64 (xs.length : Int), .int .i64 (k : Int)] 123 [] [] (inR cb3X 32 5 ++ (.inv (cb3R w R2 pc svc cs vl v bs xs less i) :: cb3K R2)) [] [] hW2 (by kernel_rfl) trivial trivial ?_
  intro w3 hW3 hS3
  refine (bequal_any (H4.pass0 hS3).rd (rc.keep0 hW3.keep)).mono ?_
  rintro y w4 ⟨rfl, rfl⟩
  refine ⟨_, rfl, ?_⟩
  have cu3 := t.cu.walk (rows := []) (fun _ h => nomatch h) hS3 hW3
  have hd3 := hd2.pass0 hS3
  refine go_stop (gt := fun _ => Option.none) (unroll := false) 60 [(41, 0, .stop)] [15, 0, 7, 8, 9, 10, 80, 94, 95, 96] (.bool (takeB cs i.a i.e (mn x.l.length 40 : Nat) == x.l.take (mn x.l.length 40)) :: [vl, v, .int .i64 (less : Int), pT pc, .int .i64 i.wr, .int .i64 (less : Int), vl, .int .i64 (xs.length : Int), .int .i64 (k : Int)]) [] [] (opsR cb3X 41 ++ (.inv (cb3R w R2 pc svc cs vl v bs xs less i) :: cb3K R2)) [] [] hW3 (by kernel_rfl) trivial trivial ?_
  intro w5 hW5 hS5
  refine cb3_tail i hj hk hle h60 hl hwr hW5 (cu3.walk (rows := []) (fun _ h => nomatch h) hS5 hW5) hst.1 (hd3.pass0 hS5) _ (fun h0 => ?_)
  rw [hst.2 h0]
  simp
end
end Go.Proofs.Ytpididcghilbjaa
