/-
  tolllaw01's CutTakes, walked. No condition but that the arguments were read.
-/
import Derived.Test.YtpididcghilbjaaCutTakes2
import Derived.Test.YtpididcghilbjaaWakes1
namespace Go.Proofs.Ytpididcghilbjaa
open Go.RowKit

/-- A byte turned over. -/
def xb (x : UInt8) : Int := IntKind.u8.wrap ((BitVec.ofInt 8 ((x.toNat : Nat) : Int) ^^^ BitVec.ofInt 8 255).toNat : Int)
theorem xb_byte (x : UInt8) : ∃ y : UInt8, Value.int .u8 (xb x) = bv y := by
  refine ⟨UInt8.ofNat (BitVec.ofInt 8 ((x.toNat : Nat) : Int) ^^^ BitVec.ofInt 8 255).toNat, ?_⟩
  have h : (BitVec.ofInt 8 ((x.toNat : Nat) : Int) ^^^ BitVec.ofInt 8 255).toNat < 256 := BitVec.isLt _
  unfold xb bv
  rw [IntWalk.u8_in _ (by omega), UInt8.toNat_ofNat_of_lt' (by simpa using h)]
abbrev c1Rows (pw : Nat) (u : Value) : List RowS := [⟨pw, [u, .int .i64 0, .int .i64 0], true⟩]
noncomputable def c1L (pc pw : Nat) (u vo vl : Value) (m : Nat) (i : Nat × List UInt8) (w' : World) : Cfg := ⟨frOf [1, 5, 6, 7, 25, 26] [vl, vo, ptC pc, ptC pw, .int .i64 (m : Int), .int .i64 ((m - i.1 : Nat) : Int)], tagL [], ⟨c1Rows pw u, w'.heap.size⟩, atL ctC 7⟩
structure C1J (w : World) (pc : Nat) (svc : Value) (pw : Nat) (u vo : Value) (bs : List UInt8) (m : Nat) (i : Nat × List UInt8) (w' : World) : Prop where
  le : i.1 ≤ m
  W : Wst w ⟨c1Rows pw u, w'.heap.size⟩ w'
  own : Own 5 w' vo i.2
  len : i.2.length = m
  cu : Cu w' pc svc bs 0 0
noncomputable def c1R (w : World) (pc : Nat) (svc : Value) (pw : Nat) (u vo vl : Value) (bs : List UInt8) (m : Nat) (i : Nat × List UInt8) : Act → World → Prop := fun a' w' => ∃ k : Nat × List UInt8, k.1 < i.1 ∧ C1J w pc svc pw u vo bs m k w' ∧ agrees ctN (c1L pc pw u vo vl m k w') a'
section
variable {w : World} {pc pw : Nat} {svc u vo vl : Value} {bs : List UInt8} {m : Nat}
theorem c1_round (hso : Since w.heap.size vo) (hp : ∀ b, vo.ownBlock = some b → b ≠ pc ∧ b ≠ pw ∧ svc.ownBlock ≠ some b) (hpw : pc ≠ pw ∧ svc.ownBlock ≠ some pw) (hm : m ≤ 1000000) (i : Nat × List UInt8) (w' : World) (hJ : C1J w pc svc pw u vo bs m i w') (j : Nat) (hj : i.1 = j + 1) :
    Goal Try.prog (bodyPost Try.prog Try.f4 (ctQ w)) ctN { c1L pc pw u vo vl m i w' with todo := .code (loopOf (atL ctC 7)) :: .inv (c1R w pc svc pw u vo vl bs m i) :: (atL ctC 7).tail } w' := by
  obtain ⟨hle, hW, ho, hlen, hcu⟩ := hJ
  unfold c1L
  rw [hj] at hle ⊢
  have hi : m - (j + 1) < m := by omega
  have hnext : m - (j + 1) + 1 = m - j := by omega
  generalize hI : m - (j + 1) = k at *
  have hc : (k : Int) < (m : Int) := by omega
  have hkl : k < i.2.length := by omega
  have hvb := ho.rd.block_eq hkl
  obtain ⟨hb1, hb2, hb3⟩ := hp _ hvb
  obtain ⟨y, hy⟩ := xb_byte (byteAt i.2 k)
  have hsafe : ∀ b, vo.ownBlock = some b → Safe ⟨c1Rows pw u, w'.heap.size⟩ b := fun b hb => ⟨ho.lt b hb, fun r hr _ => by obtain rfl := List.mem_singleton.1 hr; exact fun e => (hp b hb).2.1 e.symm⟩
  refine go_stX (gt := fun _ => Option.none) (unroll := false) 60 [(5, 0, .is (.bool true)), (7, 2, .sem (.pointer (some (adr vo k)))), (7, 3, .sem (bv (byteAt i.2 k))), (7, 4, .is (bv y)), (7, 5, .sem (.pointer (some (adr vo k)))), (7, 6, .stop)] (.pointer (some (adr vo k))) (bv y) 5 [1, 5, 6, 7, 25, 26] [vl, vo, ptC pc, ptC pw, .int .i64 (m : Int), .int .i64 (k : Int)] (c1Rows pw u) [] (inR ctC 7 6 (.inv (c1R w pc svc pw u vo vl bs m i)))
    [(.bool (decide ((k : Int) < (m : Int))), .bool true), (.int .u8 (xb (byteAt i.2 k)), bv y)] [(Instr.indexAt 22 vo (.int .i64 (k : Int)), .pointer (some (adr vo k))), (Instr.loadAt 5 (.pointer (some (adr vo k))), bv (byteAt i.2 k)), (Instr.indexAt 22 vo (.int .i64 (k : Int)), .pointer (some (adr vo k)))]
    hW (by kernel_rfl) ⟨congrArg Value.bool (by simpa using hc), hy, trivial⟩ ⟨fun wx _ => ho.rd.sem_at hkl wx, fun wx hx => (ho.rd.safe hsafe hx).sem_ld hkl, fun wx _ => ho.rd.sem_at hkl wx, trivial⟩ ?_
  intro w1 hW1 hS1
  have ho1 := ho.same fun b hb => hS1.same b (hsafe b hb)
  have hcu1 := hcu.walk (rows := c1Rows pw u) (fun r hr _ => by obtain rfl := List.mem_singleton.1 hr; exact ⟨fun e => hpw.1 e.symm, hpw.2⟩) hS1 hW1
  refine ⟨_, ho1.sem_st hkl y, ?_⟩
  have k2 : Keep (One (blk vo)) w1 (w1.setCell (adr vo k) (bv y)) := (Keep.refl (One (blk vo)) w1).setCell (p := adr vo k) (fun _ => rfl) _
  have ho2 := ho1.set hkl y
  have hcu2 := hcu1.keep k2 (fun e => hb1 (Eq.symm e)) (fun b hb e => hb3 (by rw [hb, show b = blk vo from e]))
  have hW2 := hW1.laterS k2 (fun q hq => ⟨by rw [show q = blk vo from hq]; exact hso _ hvb, fun r hr => by obtain rfl := List.mem_singleton.1 hr; rw [show q = blk vo from hq]; exact fun e => hb2 e.symm⟩)
  generalize w1.setCell (adr vo k) (bv y) = w2 at *
  refine go_inv (gt := fun _ => Option.none) (unroll := false) 60 [(8, 0, .is (.int .i64 ((k + 1 : Nat) : Int)))] [1, 5, 6, 7, 25, 26] [vl, vo, ptC pc, ptC pw, .int .i64 (m : Int), .int .i64 ((k + 1 : Nat) : Int)] (c1Rows pw u) (c1R w pc svc pw u vo vl bs m i) [(.int .i64 (IntKind.i64.wrap ((k : Int) + 1)), .int .i64 ((k + 1 : Nat) : Int))] [] hW2 (by kernel_rfl)
    ⟨congrArg (Value.int .i64) (by rw [IntWalk.i64_in _ (by omega)]; omega), trivial⟩ trivial ?_
  intro w5 act hW5 hS5 hs
  have hsafe2 : ∀ b, vo.ownBlock = some b → Safe ⟨c1Rows pw u, w2.heap.size⟩ b := fun b hb => ⟨ho2.lt b hb, fun r hr _ => by obtain rfl := List.mem_singleton.1 hr; exact fun e => (hp b hb).2.1 e.symm⟩
  refine ⟨(j, i.2.set k y), by rw [hj]; exact Nat.lt_succ_self j, ⟨by show j ≤ m; omega, hW5, ho2.same fun b hb => hS5.same b (hsafe2 b hb), by simp [hlen], hcu2.walk (rows := c1Rows pw u) (fun r hr _ => by obtain rfl := List.mem_singleton.1 hr; exact ⟨fun e => hpw.1 e.symm, hpw.2⟩) hS5 hW5⟩, ?_⟩
  unfold c1L
  simp only
  rw [← hnext]
  exact hs
end
section
variable {w : World}
set_option maxRecDepth 4000 in
theorem cuttakes_walk {v vl : Value} {bs : List UInt8} {n : Nat} (r : Rd w v bs) (hacts : ActsAt w vl n) : Calls Try.prog 4 #[v, vl] w (ctQ w) := by
  have hm := mn_le_left bs.length 300
  have hwk : ∀ wx, Keep No w wx → Calls Try.prog 14 #[] wx fun x w9 => x = .returned (.bool true) ∧ Keep No wx w9 := fun wx _ => wakes_any wx
  refine enter (args := [v, vl]) Try.func4 (by kernel_rfl) ?_
  refine go_call_is (gt := fun _ => Option.none) (unroll := false) 60 [(1, 2, .sem (.int .i64 (bs.length : Int))), (1, 3, .sem (.int .i64 (mn bs.length 300 : Nat))), (1, 4, .sem (cutv v 0 (mn bs.length 300)))] 22 [cutv v 0 (mn bs.length 300)] [0, 1] [cutv v 0 (mn bs.length 300), vl] 18 [] [] (inR ctC 2 1) []
    [(Builtin.len_ #[22] 3 #[v], .int .i64 (bs.length : Int)), (Builtin.min_ #[3, 3] 3 #[.int .i64 (bs.length : Int), .int .i64 300], .int .i64 (mn bs.length 300 : Nat)), (Instr.sliceAt 22 v Option.none (some (.int .i64 (mn bs.length 300 : Nat))) Option.none, cutv v 0 (mn bs.length 300))]
    (Wst.start0 w) (by kernel_rfl) trivial ⟨fun wx _ => r.run_len (ty := 3) bt.sl, fun wx _ => run_mn #[3, 3] 3 bs.length 300, fun wx _ => r.sem_cutH hm wx, trivial⟩ ?_
  intro w1 hW1 _
  have hcl : ((bs.drop 0).take (mn bs.length 300 - 0)).length ≤ 300 := by have := mn_le_right bs.length 300; simp; omega
  have ru := r.cut (l := 0) (h := mn bs.length 300) (Nat.zero_le _) hm
  generalize (bs.drop 0).take (mn bs.length 300 - 0) = cs at *
  generalize cutv v 0 (mn bs.length 300) = u at *
  refine (bclone_any _ _ _ (ru.keep0 hW1.keep) (by omega)).mono ?_
  rintro x w2 ⟨vo, rfl, fo, _⟩
  refine ⟨_, rfl, ?_⟩
  refine go_call_is (gt := fun _ => Option.none) (unroll := false) 60 [] 9 [vo] [0, 1, 5] [u, vl, vo] 20 [] [] (inR ctC 3 1) [] [] (hW1.later fo.keep) (by kernel_rfl) trivial trivial ?_
  intro w3 hW3 hS3
  have ho3 : Own 5 w3 vo cs := fo.own.same fun b hb => hS3.same b ⟨fo.own.lt b hb, fun _ h => nomatch h⟩
  refine (new_any ho3.rd (by omega)).mono ?_
  rintro x w4 ⟨pc, svc, rfl, hcu, k4, hpc, hsv⟩
  refine ⟨_, rfl, ?_⟩
  have hW4 := hW3.later k4
  have ho4 := ho3.keep k4 (fun _ _ f => f)
  obtain ⟨ao, un, uc, rfl⟩ := ru.form
  refine go_stop (gt := fun _ => Option.none) (unroll := false) 60 [(4, 1, .sem (.int .i64 (cs.length : Int)))] [1, 5, 6, 7, 25, 26] [vl, vo, ptC pc, ptC w4.heap.size, .int .i64 (cs.length : Int), .int .i64 0] (c1Rows w4.heap.size (.slice ao un uc)) [] (atL ctC 7) [] [(Builtin.len_ #[22] 3 #[vo], .int .i64 (cs.length : Int))] hW4 (by kernel_rfl) trivial ⟨fun wx _ => ho4.rd.run_len (ty := 3) bt.sl, trivial⟩ ?_
  intro w5 hW5 hS5
  have ho5 := ho4.same fun b hb => hS5.same b ⟨ho4.lt b hb, fun _ h => nomatch h⟩
  have hcu5 := hcu.walk (rows := []) (fun _ h => nomatch h) hS5 hW5
  have hso : Since w.heap.size vo := fo.since.mono hW1.keep.size
  have hvo : ∀ b, vo.ownBlock = some b → b ≠ pc ∧ b ≠ w4.heap.size ∧ svc.ownBlock ≠ some b := fun b hb => by
    have q1 := ho3.lt b hb
    have q2 := ho4.lt b hb
    exact ⟨by omega, by omega, fun h => by have := hsv b h; omega⟩
  have hpw : pc ≠ w4.heap.size ∧ svc.ownBlock ≠ some w4.heap.size := ⟨by have := hcu.lt; omega, fun h => by have := hcu.under _ h; omega⟩
  have hpc0 : w.heap.size ≤ pc := Nat.le_trans hW3.keep.size hpc
  have hpw0 : w.heap.size ≤ w4.heap.size := hW4.keep.size
  have hsv0 : Since w.heap.size svc := hsv.mono hW3.keep.size
  generalize w4.heap.size = pw at *
  have key := loop_okT (P := Try.prog) (Q := bodyPost Try.prog Try.f4 (ctQ w)) (n := ctN) (x := loopOf (atL ctC 7)) (k := (atL ctC 7).tail) (fun i : Nat × List UInt8 => i.1) (c1L pc pw (.slice ao un uc) vo vl cs.length) (C1J w pc svc pw (.slice ao un uc) vo cs cs.length) (fun _ _ => by kernel_rfl) ?_ (cs.length, cs) w5 ⟨Nat.le_refl _, hW5, ho5, rfl, hcu5⟩
  · unfold c1L at key
    simp only at key
    rw [Nat.sub_self] at key
    exact key
  rintro ⟨j, bs'⟩ w6 hJ
  cases j with
  | succ j => exact c1_round hso hvo hpw (by omega) (j + 1, bs') w6 hJ j rfl
  | zero =>
  obtain ⟨_, hW6, ho6, hl6, hcu6⟩ := hJ
  unfold c1L
  simp only
  have hact := hacts
  obtain ⟨c, slc, hel⟩ := hact
  refine go_stop (gt := fun _ => Option.none) (unroll := false) 60 [(5, 0, .is (.bool false)), (9, 1, .sem (.int .i64 (n : Int)))] [6, 7, 36, 37, 38] [ptC pc, ptC pw, vl, .int .i64 (n : Int), .int .i64 0] (c1Rows pw (.slice ao un uc)) [] (atL ctC 10) [(.bool (decide (((cs.length - 0 : Nat) : Int) < (cs.length : Int))), .bool false)] [(Builtin.len_ #[42] 3 #[vl], .int .i64 (n : Int))] hW6 (by kernel_rfl) ⟨congrArg Value.bool (by simp), trivial⟩ ⟨fun wx _ => act_len slc wx, trivial⟩ ?_
  intro w7 hW7 hS7
  have hcu7 := hcu6.walk (rows := c1Rows pw (.slice ao un uc)) (fun r hr _ => by obtain rfl := List.mem_singleton.1 hr; exact ⟨fun e => hpw.1 e.symm, hpw.2⟩) hS7 hW7
  obtain ⟨tt, hrow⟩ := hW7.rows ⟨pw, [.slice ao un uc, .int .i64 0, .int .i64 0], true⟩ (by simp)
  have hold : 0 < cs.length → Under w.heap.size (.slice ao un uc) := fun h0 => ru.blockLt h0
  have hcw7 : Cw w7 pw (.slice ao un uc) cs 0 0 := ⟨cells_of hrow 0, cells_of hrow 1, cells_of hrow 2, fun o => free_of hrow o, ru.keep0 hW7.keep, fun h0 e => by have := hold h0 _ e; omega, Nat.zero_le _, by omega⟩
  have hW7' : Wst w ⟨[], w7.heap.size⟩ w7 := hW7.fewer (rows := []) (more := c1Rows pw (.slice ao un uc))
  refine Goal.re (tags := tagL []) (m := ⟨[], w7.heap.size⟩) ?_
  have key := loop_okT (P := Try.prog) (Q := bodyPost Try.prog Try.f4 (ctQ w)) (n := ctN) (x := loopOf (atL ctC 10)) (k := (atL ctC 10).tail) (fun i : CtI => i.j) (ctL pc pw vl n) (CtJ w pc svc pw (.slice ao un uc) cs n) (fun _ _ => by kernel_rfl) ?_ ⟨n, 0, 0⟩ w7 ⟨Nat.le_refl _, hW7', hcu7, hcw7, hpc0, hpw0, hpw.1, hsv0, hpw.2, hold⟩
  · unfold ctL at key
    simp only at key
    rw [Nat.sub_self] at key
    exact key
  rintro ⟨j, a, e⟩ w8 hJ
  cases j with
  | succ j => exact ct_round hacts ⟨j + 1, a, e⟩ w8 hJ j rfl hwk
  | zero =>
  have hW8 := hJ.W
  unfold ctL
  simp only
  refine go_call_is (gt := fun _ => Option.none) (unroll := false) 60 [(10, 0, .is (.bool false))] 14 [] [] [] 145 [] [] (inR ctC 36 0) [(.bool (decide (((n - 0 : Nat) : Int) < (n : Int))), .bool false)] [] hW8 (by kernel_rfl) ⟨congrArg Value.bool (by simp), trivial⟩ trivial ?_
  intro w9 hW9 _
  refine (hwk w9 hW9.keep).mono ?_
  rintro x wa ⟨rfl, ka⟩
  refine ⟨_, rfl, ?_⟩
  exact go_ret (gt := fun _ => Option.none) (unroll := false) 60 [] [.tmp 4] (.bool true) [] [] (hW9.later ka) Try.results4 (by kernel_rfl) trivial trivial (fun w9 hW9 _ => ⟨rfl, hW9.keep⟩)
end
end Go.Proofs.Ytpididcghilbjaa
