/-
  tolllaw01's CutTakes: a round for each kind of call. No condition.
-/
import Derived.Test.YtpididcghilbjaaCutTakes
import Derived.Test.YtpididcghilbjaaHb
import Derived.Deep.MidRow
namespace Go.Proofs.Ytpididcghilbjaa
open Go.RowKit

theorem eeq_mac (w : World) (x y : Operand) (l : List UInt8) : (do eqGuard .eql 37 x y (.agg (macV l)) (.agg (macV l)); binOp .eql 37 (.agg (macV l)) (.agg (macV l)) : Sem Value).run Try.prog w = .ok (.bool true) w := by
  have h4 : (eqGuard .eql 37 x y (.agg (macV l)) (.agg (macV l))).run Try.prog w = .ok () w := aRun_none (l := []) (by kernel_rfl)
  simp only [Sem.run_bind, h4, Result.andThen_ok]
  obtain ⟨i, hi, _⟩ := bt.info
  have he := run_equal_ints (P := Try.prog) 9998 Try.underlying37 hi Try.underlying5 (by kernel_rfl) w (macV l) (macV l) (bn l) (bn l) (fun j hj => by
    have : j = 0 ∨ j = 1 ∨ j = 2 ∨ j = 3 ∨ j = 4 ∨ j = 5 := by omega
    rcases this with rfl | rfl | rfl | rfl | rfl | rfl <;> exact ⟨rfl, rfl⟩)
  rw [run_eql_struct, he]
  simp [List.range_succ]
theorem allOkM_is {g : Gh} {w : World} : ∀ {vs us : List Value}, allOkM (vs.map .is) g w us → us = vs
  | [], [], _ => rfl
  | [], _ :: _, h => h.elim
  | _ :: _, [], h => h.elim
  | v :: vs, u :: us, h => by
    have h1 : u = v := h.1
    rw [h1, allOkM_is h.2]
/-- The acts, as the walk wants them. -/
def ActsAt (w : World) (vl : Value) (n : Nat) : Prop := ∃ c, Sl 4 w vl n c ∧ ∀ i, i < n → ∃ wh nn vv ao ln cp, c (i * 4) = .int .i64 wh ∧ c (i * 4 + 1) = .int .i64 nn ∧ c (i * 4 + 2) = .int .u32 vv ∧ c (i * 4 + 3) = .slice ao ln cp
abbrev adA (vl : Value) (i : Nat) : Addr := ⟨blk vl, offs vl + i * 4, none⟩
section
variable {w : World} {vl : Value} {n : Nat} {c : Nat → Value}
theorem act_len (sl : Sl 4 w vl n c) (wx : World) : (Builtin.len_ #[42] 3 #[vl]).run Try.prog wx = .ok (.int .i64 (n : Int)) wx := sl.run_len Try.underlying42
theorem act_at (sl : Sl 4 w vl n c) {i : Nat} (hi : i < n) (wx : World) : (Instr.indexAt 42 vl (.int .i64 (i : Int))).run Try.prog wx = .ok (.pointer (some (adA vl i))) wx := by
  have := sl.run_at (P := Try.prog) (w' := wx) Try.underlying42 (show (Try.prog.info? 48).map (·.size) = some 4 by kernel_rfl) (k := .i64) (i := (i : Int)) (by omega) (by omega)
  simpa using this
theorem act_ld (sl : Sl 4 w vl n c) {i : Nat} (hi : i < n) {wh nn vv : Int} {s : Value} (h0 : c (i * 4) = .int .i64 wh) (h1 : c (i * 4 + 1) = .int .i64 nn) (h2 : c (i * 4 + 2) = .int .u32 vv) (h3 : c (i * 4 + 3) = s) :
    (Instr.loadAt 48 (.pointer (some (adA vl i)))).run Try.prog w = .ok (.agg (actA wh nn vv s)) w := by
  have := run_loadAt_mid (P := Try.prog) w (blk vl) (offs vl + i * 4) 48 (actA wh nn vv s).toList _ (fun j u hj => by
    match j, hj with
    | 0, hj => cases hj; have := sl.cell (i * 4) (by omega); rw [h0] at this; exact this
    | 1, hj => cases hj; have := sl.cell (i * 4 + 1) (by omega); rw [h1] at this; rw [Nat.add_assoc]; exact this
    | 2, hj => cases hj; have := sl.cell (i * 4 + 2) (by omega); rw [h2] at this; rw [Nat.add_assoc]; exact this
    | 3, hj => cases hj; have := sl.cell (i * 4 + 3) (by omega); rw [h3] at this; rw [Nat.add_assoc]; exact this) Try.underlying48 rfl (by kernel_rfl)
  simpa using this
end
section
variable {w : World} {pc pw : Nat} {svc u vl : Value} {bs : List UInt8} {n : Nat}
set_option maxRecDepth 4000 in
theorem ct_arm0 (i : CtI) {j k : Nat} (hj : i.j = j + 1) (hk : n - (j + 1) = k) (w' : World) (hJ : CtJ w pc svc pw u bs n i w') (h60 : ¬ (k : Int) = 60) {wh nn vv : Int} {ao : Option Addr} {ln cp : Nat} (hn : n ≤ 9223372036854775807)
    (sl : SemObs Try.prog ⟨[], w'.heap.size⟩ w' [(Instr.indexAt 42 vl (.int .i64 (k : Int)), .pointer (some (adA vl k))), (Instr.loadAt 48 (.pointer (some (adA vl k))), .agg (actA wh nn vv (.slice ao ln cp)))]) (hm : wh = 0) :
    Goal Try.prog (bodyPost Try.prog Try.f4 (ctQ w)) ctN ⟨frOf [6, 7, 36, 37, 38] [ptC pc, ptC pw, vl, .int .i64 (n : Int), .int .i64 (k : Int)], tagL [], ⟨[], w'.heap.size⟩, .code (loopOf (atL ctC 10)) :: .inv (ctR w pc svc pw u bs vl n i) :: (atL ctC 10).tail⟩ w' := by
  obtain ⟨hle, hW, F⟩ := hJ
  rw [hj] at hle
  have hc : (k : Int) < (n : Int) := by omega
  have hb : w'.heap.size ≠ pc ∧ w'.heap.size ≠ pw ∧ svc.ownBlock ≠ some w'.heap.size := ⟨by have := F.cu.lt; omega, by have := F.cw.lt; omega, fun h => by have := F.cu.under _ h; omega⟩
  have hrow : ∀ r ∈ (ctRow w'.heap.size wh nn vv (.slice ao ln cp)), w.heap.size ≤ r.b ∧ r.b ≠ pc ∧ r.b ≠ pw ∧ svc.ownBlock ≠ some r.b := fun r hr => by
    obtain rfl := List.mem_singleton.1 hr
    exact ⟨hW.keep.size, hb⟩
  have lC : ∀ {wx : World}, Loose w ⟨(ctRow w'.heap.size wh nn vv (.slice ao ln cp)), wx.heap.size⟩ (One pc) := fun q hq => ⟨by rw [show q = pc from hq]; exact F.hp, fun r hr => by rw [show q = pc from hq]; exact (hrow r hr).2.1⟩
  have lW : ∀ {wx : World}, Loose w ⟨(ctRow w'.heap.size wh nn vv (.slice ao ln cp)), wx.heap.size⟩ (One pw) := fun q hq => ⟨by rw [show q = pw from hq]; exact F.hq, fun r hr => by rw [show q = pw from hq]; exact (hrow r hr).2.2.1⟩
  refine go_call_is (gt := fun _ => Option.none) (unroll := false) 100 [(10, 0, .is (.bool true)), (11, 1, .sem (.pointer (some (adA vl k)))), (11, 2, .sem (.agg (actA wh nn vv (.slice ao ln cp)))), (12, 1, .is (.bool false)), (15, 0, .is (.bool true))] 15 [ptC pc] [6, 7, 10, 36, 37, 38] [ptC pc, ptC pw, ptC w'.heap.size, vl, .int .i64 (n : Int), .int .i64 (k : Int)] 50 (ctRow w'.heap.size wh nn vv (.slice ao ln cp)) [(10, 0)] (inR ctC 16 1 (.inv (ctR w pc svc pw u bs vl n i))) [(.bool (decide ((k : Int) < (n : Int))), .bool true), (.bool ((k : Int) == 60), .bool false), (.bool (wh == 0), .bool true)] [(Instr.indexAt 42 vl (.int .i64 (k : Int)), .pointer (some (adA vl k))), (Instr.loadAt 48 (.pointer (some (adA vl k))), .agg (actA wh nn vv (.slice ao ln cp)))] hW (by kernel_rfl) ⟨congrArg Value.bool (by simpa using hc), congrArg Value.bool (by simpa using h60), congrArg Value.bool (by subst hm; rfl), trivial⟩ sl ?_
  intro w1 hW1 hS1
  have F := F.pass (rows := []) (fun _ h => nomatch h) hS1 hW1
  refine (byte_any F.cu).mono ?_
  rintro x w2 ⟨rfl, cu2, k2⟩
  refine ⟨_, rfl, ?_⟩
  have F := F.stepC k2 cu2
  have hW2 := hW1.laterS k2 lC
  have hbe : IntKind.u32.wrap ((be (takeB bs i.a i.e 1) : Nat) : Int) = ((be (takeB bs i.a i.e 1) : Nat) : Int) := IntWalk.u32_in _ (by have := be_small (l := takeB bs i.a i.e 1) (n := 1) (by unfold takeB; split <;> simp <;> omega); omega)
  refine go_call_is (gt := fun _ => Option.none) (unroll := false) 60 [(16, 2, .is (.int .u32 (be (takeB bs i.a i.e 1) : Nat)))] 23 [ptC pw, .int .i64 1] [6, 7, 36, 37, 38, 51] [ptC pc, ptC pw, vl, .int .i64 (n : Int), .int .i64 (k : Int), .int .u32 (be (takeB bs i.a i.e 1) : Nat)] 53 (ctRow w'.heap.size wh nn vv (.slice ao ln cp)) [] (inR ctC 16 4 (.inv (ctR w pc svc pw u bs vl n i))) [(.int .u32 (IntKind.u32.wrap ((be (takeB bs i.a i.e 1) : Nat) : Int)), .int .u32 (be (takeB bs i.a i.e 1) : Nat))] [] hW2 (by kernel_rfl) ⟨congrArg (Value.int .u32) hbe, trivial⟩ trivial ?_
  intro w3 hW3 hS3
  have F := F.pass (rows := (ctRow w'.heap.size wh nn vv (.slice ao ln cp))) hrow hS3 hW3
  refine (wnumber_any F.cw 1 (by omega)).mono ?_
  rintro x w4 ⟨rfl, cw4, k4⟩
  refine ⟨_, rfl, ?_⟩
  have F := F.stepW k4 cw4
  have hW4 := hW3.laterS k4 lW
  refine go_stop (gt := fun _ => Option.none) (unroll := false) 100 [(16, 5, .is (.bool true))] [6, 7, 11, 36, 37, 38] [ptC pc, ptC pw, .bool true, vl, .int .i64 (n : Int), .int .i64 (k : Int)] (ctRow w'.heap.size wh nn vv (.slice ao ln cp)) [] (atR ctC 33 (.inv (ctR w pc svc pw u bs vl n i))) [(.bool (((be (takeB bs i.a i.e 1) : Nat) : Int) == ((be (takeB bs i.a i.e 1) : Nat) : Int)), .bool true)] [] hW4 (by kernel_rfl) ⟨congrArg Value.bool (by simp), trivial⟩ trivial ?_
  intro wz hWz hSz
  have Fz := F.pass (rows := (ctRow w'.heap.size wh nn vv (.slice ao ln cp))) hrow hSz hWz
  exact ct_tail i hj (by omega) hk hn hWz hb Fz
set_option maxRecDepth 4000 in
theorem ct_arm1 (i : CtI) {j k : Nat} (hj : i.j = j + 1) (hk : n - (j + 1) = k) (w' : World) (hJ : CtJ w pc svc pw u bs n i w') (h60 : ¬ (k : Int) = 60) {wh nn vv : Int} {ao : Option Addr} {ln cp : Nat} (hn : n ≤ 9223372036854775807)
    (sl : SemObs Try.prog ⟨[], w'.heap.size⟩ w' [(Instr.indexAt 42 vl (.int .i64 (k : Int)), .pointer (some (adA vl k))), (Instr.loadAt 48 (.pointer (some (adA vl k))), .agg (actA wh nn vv (.slice ao ln cp)))]) (hm : wh = 1) :
    Goal Try.prog (bodyPost Try.prog Try.f4 (ctQ w)) ctN ⟨frOf [6, 7, 36, 37, 38] [ptC pc, ptC pw, vl, .int .i64 (n : Int), .int .i64 (k : Int)], tagL [], ⟨[], w'.heap.size⟩, .code (loopOf (atL ctC 10)) :: .inv (ctR w pc svc pw u bs vl n i) :: (atL ctC 10).tail⟩ w' := by
  obtain ⟨hle, hW, F⟩ := hJ
  rw [hj] at hle
  have hc : (k : Int) < (n : Int) := by omega
  have hb : w'.heap.size ≠ pc ∧ w'.heap.size ≠ pw ∧ svc.ownBlock ≠ some w'.heap.size := ⟨by have := F.cu.lt; omega, by have := F.cw.lt; omega, fun h => by have := F.cu.under _ h; omega⟩
  have hrow : ∀ r ∈ (ctRow w'.heap.size wh nn vv (.slice ao ln cp)), w.heap.size ≤ r.b ∧ r.b ≠ pc ∧ r.b ≠ pw ∧ svc.ownBlock ≠ some r.b := fun r hr => by
    obtain rfl := List.mem_singleton.1 hr
    exact ⟨hW.keep.size, hb⟩
  have lC : ∀ {wx : World}, Loose w ⟨(ctRow w'.heap.size wh nn vv (.slice ao ln cp)), wx.heap.size⟩ (One pc) := fun q hq => ⟨by rw [show q = pc from hq]; exact F.hp, fun r hr => by rw [show q = pc from hq]; exact (hrow r hr).2.1⟩
  have lW : ∀ {wx : World}, Loose w ⟨(ctRow w'.heap.size wh nn vv (.slice ao ln cp)), wx.heap.size⟩ (One pw) := fun q hq => ⟨by rw [show q = pw from hq]; exact F.hq, fun r hr => by rw [show q = pw from hq]; exact (hrow r hr).2.2.1⟩
  refine go_call_is (gt := fun _ => Option.none) (unroll := false) 100 [(10, 0, .is (.bool true)), (11, 1, .sem (.pointer (some (adA vl k)))), (11, 2, .sem (.agg (actA wh nn vv (.slice ao ln cp)))), (12, 1, .is (.bool false)), (15, 0, .is (.bool false)), (17, 0, .is (.bool true))] 16 [ptC pc] [6, 7, 10, 36, 37, 38] [ptC pc, ptC pw, ptC w'.heap.size, vl, .int .i64 (n : Int), .int .i64 (k : Int)] 58 (ctRow w'.heap.size wh nn vv (.slice ao ln cp)) [(10, 0)] (inR ctC 18 1 (.inv (ctR w pc svc pw u bs vl n i))) [(.bool (decide ((k : Int) < (n : Int))), .bool true), (.bool ((k : Int) == 60), .bool false), (.bool (wh == 0), .bool false), (.bool (wh == 1), .bool true)] [(Instr.indexAt 42 vl (.int .i64 (k : Int)), .pointer (some (adA vl k))), (Instr.loadAt 48 (.pointer (some (adA vl k))), .agg (actA wh nn vv (.slice ao ln cp)))] hW (by kernel_rfl) ⟨congrArg Value.bool (by simpa using hc), congrArg Value.bool (by simpa using h60), congrArg Value.bool (by subst hm; rfl), congrArg Value.bool (by subst hm; rfl), trivial⟩ sl ?_
  intro w1 hW1 hS1
  have F := F.pass (rows := []) (fun _ h => nomatch h) hS1 hW1
  refine (two_any F.cu).mono ?_
  rintro x w2 ⟨rfl, cu2, k2⟩
  refine ⟨_, rfl, ?_⟩
  have F := F.stepC k2 cu2
  have hW2 := hW1.laterS k2 lC
  have hbe : IntKind.u32.wrap ((be (takeB bs i.a i.e 2) : Nat) : Int) = ((be (takeB bs i.a i.e 2) : Nat) : Int) := IntWalk.u32_in _ (by have := be_small (l := takeB bs i.a i.e 2) (n := 2) (by unfold takeB; split <;> simp <;> omega); omega)
  refine go_call_is (gt := fun _ => Option.none) (unroll := false) 60 [(18, 2, .is (.int .u32 (be (takeB bs i.a i.e 2) : Nat)))] 23 [ptC pw, .int .i64 2] [6, 7, 36, 37, 38, 59] [ptC pc, ptC pw, vl, .int .i64 (n : Int), .int .i64 (k : Int), .int .u32 (be (takeB bs i.a i.e 2) : Nat)] 61 (ctRow w'.heap.size wh nn vv (.slice ao ln cp)) [] (inR ctC 18 4 (.inv (ctR w pc svc pw u bs vl n i))) [(.int .u32 (IntKind.u32.wrap ((be (takeB bs i.a i.e 2) : Nat) : Int)), .int .u32 (be (takeB bs i.a i.e 2) : Nat))] [] hW2 (by kernel_rfl) ⟨congrArg (Value.int .u32) hbe, trivial⟩ trivial ?_
  intro w3 hW3 hS3
  have F := F.pass (rows := (ctRow w'.heap.size wh nn vv (.slice ao ln cp))) hrow hS3 hW3
  refine (wnumber_any F.cw 2 (by omega)).mono ?_
  rintro x w4 ⟨rfl, cw4, k4⟩
  refine ⟨_, rfl, ?_⟩
  have F := F.stepW k4 cw4
  have hW4 := hW3.laterS k4 lW
  refine go_stop (gt := fun _ => Option.none) (unroll := false) 100 [(18, 5, .is (.bool true))] [6, 7, 11, 36, 37, 38] [ptC pc, ptC pw, .bool true, vl, .int .i64 (n : Int), .int .i64 (k : Int)] (ctRow w'.heap.size wh nn vv (.slice ao ln cp)) [] (atR ctC 33 (.inv (ctR w pc svc pw u bs vl n i))) [(.bool (((be (takeB bs i.a i.e 2) : Nat) : Int) == ((be (takeB bs i.a i.e 2) : Nat) : Int)), .bool true)] [] hW4 (by kernel_rfl) ⟨congrArg Value.bool (by simp), trivial⟩ trivial ?_
  intro wz hWz hSz
  have Fz := F.pass (rows := (ctRow w'.heap.size wh nn vv (.slice ao ln cp))) hrow hSz hWz
  exact ct_tail i hj (by omega) hk hn hWz hb Fz
set_option maxRecDepth 4000 in
theorem ct_arm2 (i : CtI) {j k : Nat} (hj : i.j = j + 1) (hk : n - (j + 1) = k) (w' : World) (hJ : CtJ w pc svc pw u bs n i w') (h60 : ¬ (k : Int) = 60) {wh nn vv : Int} {ao : Option Addr} {ln cp : Nat} (hn : n ≤ 9223372036854775807)
    (sl : SemObs Try.prog ⟨[], w'.heap.size⟩ w' [(Instr.indexAt 42 vl (.int .i64 (k : Int)), .pointer (some (adA vl k))), (Instr.loadAt 48 (.pointer (some (adA vl k))), .agg (actA wh nn vv (.slice ao ln cp)))]) (hm : wh = 2) :
    Goal Try.prog (bodyPost Try.prog Try.f4 (ctQ w)) ctN ⟨frOf [6, 7, 36, 37, 38] [ptC pc, ptC pw, vl, .int .i64 (n : Int), .int .i64 (k : Int)], tagL [], ⟨[], w'.heap.size⟩, .code (loopOf (atL ctC 10)) :: .inv (ctR w pc svc pw u bs vl n i) :: (atL ctC 10).tail⟩ w' := by
  obtain ⟨hle, hW, F⟩ := hJ
  rw [hj] at hle
  have hc : (k : Int) < (n : Int) := by omega
  have hb : w'.heap.size ≠ pc ∧ w'.heap.size ≠ pw ∧ svc.ownBlock ≠ some w'.heap.size := ⟨by have := F.cu.lt; omega, by have := F.cw.lt; omega, fun h => by have := F.cu.under _ h; omega⟩
  have hrow : ∀ r ∈ (ctRow w'.heap.size wh nn vv (.slice ao ln cp)), w.heap.size ≤ r.b ∧ r.b ≠ pc ∧ r.b ≠ pw ∧ svc.ownBlock ≠ some r.b := fun r hr => by
    obtain rfl := List.mem_singleton.1 hr
    exact ⟨hW.keep.size, hb⟩
  have lC : ∀ {wx : World}, Loose w ⟨(ctRow w'.heap.size wh nn vv (.slice ao ln cp)), wx.heap.size⟩ (One pc) := fun q hq => ⟨by rw [show q = pc from hq]; exact F.hp, fun r hr => by rw [show q = pc from hq]; exact (hrow r hr).2.1⟩
  have lW : ∀ {wx : World}, Loose w ⟨(ctRow w'.heap.size wh nn vv (.slice ao ln cp)), wx.heap.size⟩ (One pw) := fun q hq => ⟨by rw [show q = pw from hq]; exact F.hq, fun r hr => by rw [show q = pw from hq]; exact (hrow r hr).2.2.1⟩
  refine go_call_is (gt := fun _ => Option.none) (unroll := false) 100 [(10, 0, .is (.bool true)), (11, 1, .sem (.pointer (some (adA vl k)))), (11, 2, .sem (.agg (actA wh nn vv (.slice ao ln cp)))), (12, 1, .is (.bool false)), (15, 0, .is (.bool false)), (17, 0, .is (.bool false)), (19, 0, .is (.bool true))] 17 [ptC pc] [6, 7, 10, 36, 37, 38] [ptC pc, ptC pw, ptC w'.heap.size, vl, .int .i64 (n : Int), .int .i64 (k : Int)] 66 (ctRow w'.heap.size wh nn vv (.slice ao ln cp)) [(10, 0)] (inR ctC 20 1 (.inv (ctR w pc svc pw u bs vl n i))) [(.bool (decide ((k : Int) < (n : Int))), .bool true), (.bool ((k : Int) == 60), .bool false), (.bool (wh == 0), .bool false), (.bool (wh == 1), .bool false), (.bool (wh == 2), .bool true)] [(Instr.indexAt 42 vl (.int .i64 (k : Int)), .pointer (some (adA vl k))), (Instr.loadAt 48 (.pointer (some (adA vl k))), .agg (actA wh nn vv (.slice ao ln cp)))] hW (by kernel_rfl) ⟨congrArg Value.bool (by simpa using hc), congrArg Value.bool (by simpa using h60), congrArg Value.bool (by subst hm; rfl), congrArg Value.bool (by subst hm; rfl), congrArg Value.bool (by subst hm; rfl), trivial⟩ sl ?_
  intro w1 hW1 hS1
  have F := F.pass (rows := []) (fun _ h => nomatch h) hS1 hW1
  refine (four_any F.cu).mono ?_
  rintro x w2 ⟨rfl, cu2, k2⟩
  refine ⟨_, rfl, ?_⟩
  have F := F.stepC k2 cu2
  have hW2 := hW1.laterS k2 lC
  refine go_call_is (gt := fun _ => Option.none) (unroll := false) 60 [] 23 [ptC pw, .int .i64 4] [6, 7, 36, 37, 38, 66] [ptC pc, ptC pw, vl, .int .i64 (n : Int), .int .i64 (k : Int), .int .u32 (be (takeB bs i.a i.e 4) : Nat)] 68 (ctRow w'.heap.size wh nn vv (.slice ao ln cp)) [] (inR ctC 20 3 (.inv (ctR w pc svc pw u bs vl n i))) [] [] hW2 (by kernel_rfl) trivial trivial ?_
  intro w3 hW3 hS3
  have F := F.pass (rows := (ctRow w'.heap.size wh nn vv (.slice ao ln cp))) hrow hS3 hW3
  refine (wnumber_any F.cw 4 (by omega)).mono ?_
  rintro x w4 ⟨rfl, cw4, k4⟩
  refine ⟨_, rfl, ?_⟩
  have F := F.stepW k4 cw4
  have hW4 := hW3.laterS k4 lW
  refine go_stop (gt := fun _ => Option.none) (unroll := false) 100 [(20, 4, .is (.bool true))] [6, 7, 11, 36, 37, 38] [ptC pc, ptC pw, .bool true, vl, .int .i64 (n : Int), .int .i64 (k : Int)] (ctRow w'.heap.size wh nn vv (.slice ao ln cp)) [] (atR ctC 33 (.inv (ctR w pc svc pw u bs vl n i))) [(.bool (((be (takeB bs i.a i.e 4) : Nat) : Int) == ((be (takeB bs i.a i.e 4) : Nat) : Int)), .bool true)] [] hW4 (by kernel_rfl) ⟨congrArg Value.bool (by simp), trivial⟩ trivial ?_
  intro wz hWz hSz
  have Fz := F.pass (rows := (ctRow w'.heap.size wh nn vv (.slice ao ln cp))) hrow hSz hWz
  exact ct_tail i hj (by omega) hk hn hWz hb Fz
set_option maxRecDepth 4000 in
theorem ct_arm3 (i : CtI) {j k : Nat} (hj : i.j = j + 1) (hk : n - (j + 1) = k) (w' : World) (hJ : CtJ w pc svc pw u bs n i w') (h60 : ¬ (k : Int) = 60) {wh nn vv : Int} {ao : Option Addr} {ln cp : Nat} (hn : n ≤ 9223372036854775807)
    (sl : SemObs Try.prog ⟨[], w'.heap.size⟩ w' [(Instr.indexAt 42 vl (.int .i64 (k : Int)), .pointer (some (adA vl k))), (Instr.loadAt 48 (.pointer (some (adA vl k))), .agg (actA wh nn vv (.slice ao ln cp)))]) (hm : wh = 3) :
    Goal Try.prog (bodyPost Try.prog Try.f4 (ctQ w)) ctN ⟨frOf [6, 7, 36, 37, 38] [ptC pc, ptC pw, vl, .int .i64 (n : Int), .int .i64 (k : Int)], tagL [], ⟨[], w'.heap.size⟩, .code (loopOf (atL ctC 10)) :: .inv (ctR w pc svc pw u bs vl n i) :: (atL ctC 10).tail⟩ w' := by
  obtain ⟨hle, hW, F⟩ := hJ
  rw [hj] at hle
  have hc : (k : Int) < (n : Int) := by omega
  have hb : w'.heap.size ≠ pc ∧ w'.heap.size ≠ pw ∧ svc.ownBlock ≠ some w'.heap.size := ⟨by have := F.cu.lt; omega, by have := F.cw.lt; omega, fun h => by have := F.cu.under _ h; omega⟩
  have hrow : ∀ r ∈ (ctRow w'.heap.size wh nn vv (.slice ao ln cp)), w.heap.size ≤ r.b ∧ r.b ≠ pc ∧ r.b ≠ pw ∧ svc.ownBlock ≠ some r.b := fun r hr => by
    obtain rfl := List.mem_singleton.1 hr
    exact ⟨hW.keep.size, hb⟩
  have lC : ∀ {wx : World}, Loose w ⟨(ctRow w'.heap.size wh nn vv (.slice ao ln cp)), wx.heap.size⟩ (One pc) := fun q hq => ⟨by rw [show q = pc from hq]; exact F.hp, fun r hr => by rw [show q = pc from hq]; exact (hrow r hr).2.1⟩
  have lW : ∀ {wx : World}, Loose w ⟨(ctRow w'.heap.size wh nn vv (.slice ao ln cp)), wx.heap.size⟩ (One pw) := fun q hq => ⟨by rw [show q = pw from hq]; exact F.hq, fun r hr => by rw [show q = pw from hq]; exact (hrow r hr).2.2.1⟩
  refine go_call_is (gt := fun _ => Option.none) (unroll := false) 100 [(10, 0, .is (.bool true)), (11, 1, .sem (.pointer (some (adA vl k)))), (11, 2, .sem (.agg (actA wh nn vv (.slice ao ln cp)))), (12, 1, .is (.bool false)), (15, 0, .is (.bool false)), (17, 0, .is (.bool false)), (19, 0, .is (.bool false)), (21, 0, .is (.bool true))] 18 [ptC pc] [6, 7, 10, 36, 37, 38] [ptC pc, ptC pw, ptC w'.heap.size, vl, .int .i64 (n : Int), .int .i64 (k : Int)] 73 (ctRow w'.heap.size wh nn vv (.slice ao ln cp)) [(10, 0)] (inR ctC 22 1 (.inv (ctR w pc svc pw u bs vl n i))) [(.bool (decide ((k : Int) < (n : Int))), .bool true), (.bool ((k : Int) == 60), .bool false), (.bool (wh == 0), .bool false), (.bool (wh == 1), .bool false), (.bool (wh == 2), .bool false), (.bool (wh == 3), .bool true)] [(Instr.indexAt 42 vl (.int .i64 (k : Int)), .pointer (some (adA vl k))), (Instr.loadAt 48 (.pointer (some (adA vl k))), .agg (actA wh nn vv (.slice ao ln cp)))] hW (by kernel_rfl) ⟨congrArg Value.bool (by simpa using hc), congrArg Value.bool (by simpa using h60), congrArg Value.bool (by subst hm; rfl), congrArg Value.bool (by subst hm; rfl), congrArg Value.bool (by subst hm; rfl), congrArg Value.bool (by subst hm; rfl), trivial⟩ sl ?_
  intro w1 hW1 hS1
  have F := F.pass (rows := []) (fun _ h => nomatch h) hS1 hW1
  refine (cmac_any F.cu).mono ?_
  rintro x w2 ⟨rfl, cu2, k2⟩
  refine ⟨_, rfl, ?_⟩
  have F := F.stepC k2 cu2
  have hW2 := hW1.laterS k2 lC
  refine go_call_is (gt := fun _ => Option.none) (unroll := false) 60 [] 24 [ptC pw] [6, 7, 36, 37, 38, 73] [ptC pc, ptC pw, vl, .int .i64 (n : Int), .int .i64 (k : Int), .agg (macV (takeB bs i.a i.e 6))] 75 (ctRow w'.heap.size wh nn vv (.slice ao ln cp)) [] (inR ctC 22 3 (.inv (ctR w pc svc pw u bs vl n i))) [] [] hW2 (by kernel_rfl) trivial trivial ?_
  intro w3 hW3 hS3
  have F := F.pass (rows := (ctRow w'.heap.size wh nn vv (.slice ao ln cp))) hrow hS3 hW3
  refine (wmac_any F.cw (fun h0 => (F.old h0).mono hW3.keep.size)).mono ?_
  rintro x w4 ⟨rfl, cw4, k4⟩
  refine ⟨_, rfl, ?_⟩
  have F := F.stepW k4 cw4
  have hW4 := hW3.laterS k4 lW
  refine go_stop (gt := fun _ => Option.none) (unroll := false) 100 [(22, 4, .sem (.bool true))] [6, 7, 11, 36, 37, 38] [ptC pc, ptC pw, .bool true, vl, .int .i64 (n : Int), .int .i64 (k : Int)] (ctRow w'.heap.size wh nn vv (.slice ao ln cp)) [] (atR ctC 33 (.inv (ctR w pc svc pw u bs vl n i))) [] [((do eqGuard .eql 37 (.tmp 73) (.tmp 75) (.agg (macV (takeB bs i.a i.e 6))) (.agg (macV (takeB bs i.a i.e 6))); binOp .eql 37 (.agg (macV (takeB bs i.a i.e 6))) (.agg (macV (takeB bs i.a i.e 6))) : Sem Value), .bool true)] hW4 (by kernel_rfl) trivial ⟨fun wx _ => eeq_mac wx _ _ _, trivial⟩ ?_
  intro wz hWz hSz
  have Fz := F.pass (rows := (ctRow w'.heap.size wh nn vv (.slice ao ln cp))) hrow hSz hWz
  exact ct_tail i hj (by omega) hk hn hWz hb Fz
/-- New bytes, within a region. -/
def brM (out : List UInt8) : Sm := .such (fun g w x => Rd w x out ∧ ∀ b, x.ownBlock = some b → b < w.heap.size ∧ ¬ g.priv b)
  (fun g w g' w' x k h => ⟨h.1.keep k.keep (fun b hb => (h.2 b hb).2), fun b hb => ⟨Nat.lt_of_lt_of_le (h.2 b hb).1 k.keep.size, fun hp => by
    rcases k.priv b hp with h1 | h1
    · exact (h.2 b hb).2 h1
    · have := (h.2 b hb).1; omega⟩⟩)
def ctS (pc pw : Nat) : Nat → Prop := fun b => b = pc ∨ b = pw
def CtD (w : World) (pc : Nat) (svc : Value) (pw : Nat) (u : Value) (bs : List UInt8) (a : Nat) (e nn : Int) : Nat → Gh → World → Prop
  | 0, g, w1 => g.priv = ctS pc pw ∧ CtF w w1 pc svc pw u bs a e a e
  | 1, g, w1 => g.priv = ctS pc pw ∧ CtF w w1 pc svc pw u bs (takeA bs a e nn) (takeE bs a e nn) a e
  | _, g, w1 => g.priv = ctS pc pw ∧ CtF w w1 pc svc pw u bs (takeA bs a e nn) (takeE bs a e nn) (takeA bs a e nn) (takeE bs a e nn)
theorem CtD.keep {a : Nat} {e nn : Int} : ∀ (k : Nat) (g : Gh) (w1 w2 : World), Keep No w1 w2 → CtD w pc svc pw u bs a e nn k g w1 → CtD w pc svc pw u bs a e nn k g w2
  | 0, _, _, _, kp, h => ⟨h.1, h.2.keep0 kp⟩
  | 1, _, _, _, kp, h => ⟨h.1, h.2.keep0 kp⟩
  | _ + 2, _, _, _, kp, h => ⟨h.1, h.2.keep0 kp⟩
theorem ct_new {w1 w2 : World} {g : Gh} {S0 : Nat → Prop} {w0 : World} {v : Value} {out : List UInt8} (hb : Base S0 w0 g w1) (o : Own 5 w2 v out) (hs : Since w1.heap.size v) : (brM out).ok g w2 v :=
  ⟨o.rd, fun b hb' => ⟨o.lt b hb', fun hp => by have := (hb b hp).1; have := hs b hb'; omega⟩⟩
theorem ct_take {a : Nat} {e nn : Int} {w0 : World} : LoudM Try.prog (ctS pc pw) w0 (CtD w pc svc pw u bs a e nn) 0 19 [.is (ptC pc), .is (.int .i64 nn)] (brM (takeB bs a e nn)) := by
  intro g w1 vals hk hb hd ha
  match vals, ha with
  | [x, y], ha =>
    obtain rfl : x = _ := ha.1
    obtain rfl : y = _ := ha.2.1
    obtain ⟨hp, F⟩ := hd
    refine (take_any F.cu nn).mono ?_
    rintro z w2 ⟨v, rfl, t⟩
    exact ⟨v, g, rfl, ⟨t.keep.mono fun q _ h => by rw [hp]; exact .inl h, fun q h => .inl h, fun h => ⟨h, rfl⟩⟩, fun q h => ⟨Nat.lt_of_lt_of_le (hb q h).1 t.keep.size, (hb q h).2⟩, ⟨hp, F.stepC t.keep t.cu⟩, ct_new hb t.own t.since⟩
theorem ct_wtake {a : Nat} {e nn : Int} {w0 : World} : LoudM Try.prog (ctS pc pw) w0 (CtD w pc svc pw u bs a e nn) 1 26 [.is (ptC pw), .is (.int .i64 nn)] (brM (takeB bs a e nn)) := by
  intro g w1 vals hk hb hd ha
  match vals, ha with
  | [x, y], ha =>
    obtain rfl : x = _ := ha.1
    obtain rfl : y = _ := ha.2.1
    obtain ⟨hp, F⟩ := hd
    refine (wtake_any F.cw nn).mono ?_
    rintro z w2 ⟨v, rfl, t⟩
    exact ⟨v, g, rfl, ⟨t.keep.mono fun q _ h => by rw [hp]; exact .inr h, fun q h => .inl h, fun h => ⟨h, rfl⟩⟩, fun q h => ⟨Nat.lt_of_lt_of_le (hb q h).1 t.keep.size, (hb q h).2⟩, ⟨hp, F.stepW t.keep t.cu⟩, ct_new hb t.own t.since⟩
set_option maxRecDepth 4000 in
theorem ct_arm4 (i : CtI) {j k : Nat} (hj : i.j = j + 1) (hk : n - (j + 1) = k) (w' : World) (hJ : CtJ w pc svc pw u bs n i w') (h60 : ¬ (k : Int) = 60) {wh nn vv : Int} {ao : Option Addr} {ln cp : Nat} (hn : n ≤ 9223372036854775807)
    (sl : SemObs Try.prog ⟨[], w'.heap.size⟩ w' [(Instr.indexAt 42 vl (.int .i64 (k : Int)), .pointer (some (adA vl k))), (Instr.loadAt 48 (.pointer (some (adA vl k))), .agg (actA wh nn vv (.slice ao ln cp)))]) (hm : wh = 4) :
    Goal Try.prog (bodyPost Try.prog Try.f4 (ctQ w)) ctN ⟨frOf [6, 7, 36, 37, 38] [ptC pc, ptC pw, vl, .int .i64 (n : Int), .int .i64 (k : Int)], tagL [], ⟨[], w'.heap.size⟩, .code (loopOf (atL ctC 10)) :: .inv (ctR w pc svc pw u bs vl n i) :: (atL ctC 10).tail⟩ w' := by
  obtain ⟨hle, hW, F⟩ := hJ
  rw [hj] at hle
  have hc : (k : Int) < (n : Int) := by omega
  have hb : w'.heap.size ≠ pc ∧ w'.heap.size ≠ pw ∧ svc.ownBlock ≠ some w'.heap.size := ⟨by have := F.cu.lt; omega, by have := F.cw.lt; omega, fun h => by have := F.cu.under _ h; omega⟩
  have hrow : ∀ r ∈ (ctRow w'.heap.size wh nn vv (.slice ao ln cp)), w.heap.size ≤ r.b ∧ r.b ≠ pc ∧ r.b ≠ pw ∧ svc.ownBlock ≠ some r.b := fun r hr => by
    obtain rfl := List.mem_singleton.1 hr
    exact ⟨hW.keep.size, hb⟩
  have lC : ∀ {wx : World}, Loose w ⟨(ctRow w'.heap.size wh nn vv (.slice ao ln cp)), wx.heap.size⟩ (One pc) := fun q hq => ⟨by rw [show q = pc from hq]; exact F.hp, fun r hr => by rw [show q = pc from hq]; exact (hrow r hr).2.1⟩
  have lW : ∀ {wx : World}, Loose w ⟨(ctRow w'.heap.size wh nn vv (.slice ao ln cp)), wx.heap.size⟩ (One pw) := fun q hq => ⟨by rw [show q = pw from hq]; exact F.hq, fun r hr => by rw [show q = pw from hq]; exact (hrow r hr).2.2.1⟩
  refine go_stop (gt := fun _ => Option.none) (unroll := false) 100 [(10, 0, .is (.bool true)), (11, 1, .sem (.pointer (some (adA vl k)))), (11, 2, .sem (.agg (actA wh nn vv (.slice ao ln cp)))), (12, 1, .is (.bool false)), (15, 0, .is (.bool false)), (17, 0, .is (.bool false)), (19, 0, .is (.bool false)), (21, 0, .is (.bool false)), (23, 0, .is (.bool true))] [6, 7, 10, 36, 37, 38] [ptC pc, ptC pw, ptC w'.heap.size, vl, .int .i64 (n : Int), .int .i64 (k : Int)] (ctRow w'.heap.size wh nn vv (.slice ao ln cp)) [(10, 0)] (atR ctC 24 (.inv (ctR w pc svc pw u bs vl n i))) [(.bool (decide ((k : Int) < (n : Int))), .bool true), (.bool ((k : Int) == 60), .bool false), (.bool (wh == 0), .bool false), (.bool (wh == 1), .bool false), (.bool (wh == 2), .bool false), (.bool (wh == 3), .bool false), (.bool (wh == 4), .bool true)] [(Instr.indexAt 42 vl (.int .i64 (k : Int)), .pointer (some (adA vl k))), (Instr.loadAt 48 (.pointer (some (adA vl k))), .agg (actA wh nn vv (.slice ao ln cp)))] hW (by kernel_rfl) ⟨congrArg Value.bool (by simpa using hc), congrArg Value.bool (by simpa using h60), congrArg Value.bool (by subst hm; rfl), congrArg Value.bool (by subst hm; rfl), congrArg Value.bool (by subst hm; rfl), congrArg Value.bool (by subst hm; rfl), congrArg Value.bool (by subst hm; rfl), trivial⟩ sl ?_
  intro w1 hW1 hS1
  have F := F.pass (rows := []) (fun _ h => nomatch h) hS1 hW1
  refine drawnM_ok (S0 := ctS pc pw) (gt := fun _ => Option.none) (D := CtD w pc svc pw u bs i.a i.e nn) (g0 := ⟨False, undef, ctS pc pw⟩)
    [(3, .loud (brM (takeB bs i.a i.e nn))), (7, .loud (brM (takeB bs i.a i.e nn))), (8, .call (.is (.bool true)))] [6, 7, 11, 36, 37, 38] [.is (ptC pc), .is (ptC pw), .is (.bool true), .is vl, .is (.int .i64 (n : Int)), .is (.int .i64 (k : Int))]
    (True ∧ True ∧ True ∧ LoudM Try.prog (ctS pc pw) w1 (CtD w pc svc pw u bs i.a i.e nn) 0 19 [.is (ptC pc), .is (.int .i64 nn)] (brM (takeB bs i.a i.e nn)) ∧ True ∧ True ∧ True ∧
      LoudM Try.prog (ctS pc pw) w1 (CtD w pc svc pw u bs i.a i.e nn) 1 26 [.is (ptC pw), .is (.int .i64 nn)] (brM (takeB bs i.a i.e nn)) ∧
      CallM Try.prog (ctS pc pw) w1 25 [brM (takeB bs i.a i.e nn), brM (takeB bs i.a i.e nn)] (.is (.bool true)) ∧ True ∧ True)
    2 (afterR ctC 24 (.inv (ctR w pc svc pw u bs vl n i))) hW1 (fun q hq => ⟨by rcases hq with rfl | rfl; exact F.hp; exact F.hq, fun r hr => by rcases hq with rfl | rfl; exact (hrow r hr).2.1; exact (hrow r hr).2.2.1⟩) (by kernel_rfl) (by kernel_rfl) (by kernel_rfl) CtD.keep
    (fun q hq => ⟨by rcases hq with rfl | rfl; exact F.cu.lt; exact F.cw.lt, fun _ => hq⟩) ⟨rfl, F⟩ ⟨trivial, trivial, trivial, ct_take, trivial, trivial, trivial, ct_wtake, ?_, trivial, trivial⟩ ?_
  · intro g wx vals kx hbase hv
    match vals, hv with
    | [x, y], hv =>
      refine (bequal_any hv.1.1 hv.2.1.1).mono ?_
      rintro z w9 ⟨rfl, rfl⟩
      exact ⟨_, rfl, Keep.refl _ _, by simp [Sm.ok]⟩
  intro g w2 vs k2 _ hd hok
  obtain rfl : vs = [ptC pc, ptC pw, .bool true, vl, .int .i64 (n : Int), .int .i64 (k : Int)] := allOkM_is (vs := [ptC pc, ptC pw, .bool true, vl, .int .i64 (n : Int), .int .i64 (k : Int)]) hok
  obtain ⟨_, F⟩ := hd
  have hW2 := hW1.laterS k2 (fun q hq => ⟨by rcases hq with rfl | rfl; exact F.hp; exact F.hq, fun r hr => by rcases hq with rfl | rfl; exact (hrow r hr).2.1; exact (hrow r hr).2.2.1⟩)
  refine go_stop (gt := fun _ => Option.none) (unroll := false) 100 [] [6, 7, 11, 36, 37, 38] [ptC pc, ptC pw, .bool true, vl, .int .i64 (n : Int), .int .i64 (k : Int)] (ctRow w'.heap.size wh nn vv (.slice ao ln cp)) [] (atR ctC 33 (.inv (ctR w pc svc pw u bs vl n i))) [] [] hW2 (by kernel_rfl) trivial trivial ?_
  intro wz hWz hSz
  have Fz := F.pass (rows := (ctRow w'.heap.size wh nn vv (.slice ao ln cp))) hrow hSz hWz
  exact ct_tail i hj (by omega) hk hn hWz hb Fz
set_option maxRecDepth 4000 in
theorem ct_arm5 (i : CtI) {j k : Nat} (hj : i.j = j + 1) (hk : n - (j + 1) = k) (w' : World) (hJ : CtJ w pc svc pw u bs n i w') (h60 : ¬ (k : Int) = 60) {wh nn vv : Int} {ao : Option Addr} {ln cp : Nat} (hn : n ≤ 9223372036854775807)
    (sl : SemObs Try.prog ⟨[], w'.heap.size⟩ w' [(Instr.indexAt 42 vl (.int .i64 (k : Int)), .pointer (some (adA vl k))), (Instr.loadAt 48 (.pointer (some (adA vl k))), .agg (actA wh nn vv (.slice ao ln cp)))]) (hm : wh = 5) :
    Goal Try.prog (bodyPost Try.prog Try.f4 (ctQ w)) ctN ⟨frOf [6, 7, 36, 37, 38] [ptC pc, ptC pw, vl, .int .i64 (n : Int), .int .i64 (k : Int)], tagL [], ⟨[], w'.heap.size⟩, .code (loopOf (atL ctC 10)) :: .inv (ctR w pc svc pw u bs vl n i) :: (atL ctC 10).tail⟩ w' := by
  obtain ⟨hle, hW, F⟩ := hJ
  rw [hj] at hle
  have hc : (k : Int) < (n : Int) := by omega
  have hb : w'.heap.size ≠ pc ∧ w'.heap.size ≠ pw ∧ svc.ownBlock ≠ some w'.heap.size := ⟨by have := F.cu.lt; omega, by have := F.cw.lt; omega, fun h => by have := F.cu.under _ h; omega⟩
  have hrow : ∀ r ∈ (ctRow w'.heap.size wh nn vv (.slice ao ln cp)), w.heap.size ≤ r.b ∧ r.b ≠ pc ∧ r.b ≠ pw ∧ svc.ownBlock ≠ some r.b := fun r hr => by
    obtain rfl := List.mem_singleton.1 hr
    exact ⟨hW.keep.size, hb⟩
  have lC : ∀ {wx : World}, Loose w ⟨(ctRow w'.heap.size wh nn vv (.slice ao ln cp)), wx.heap.size⟩ (One pc) := fun q hq => ⟨by rw [show q = pc from hq]; exact F.hp, fun r hr => by rw [show q = pc from hq]; exact (hrow r hr).2.1⟩
  have lW : ∀ {wx : World}, Loose w ⟨(ctRow w'.heap.size wh nn vv (.slice ao ln cp)), wx.heap.size⟩ (One pw) := fun q hq => ⟨by rw [show q = pw from hq]; exact F.hq, fun r hr => by rw [show q = pw from hq]; exact (hrow r hr).2.2.1⟩
  refine go_call_is (gt := fun _ => Option.none) (unroll := false) 100 [(10, 0, .is (.bool true)), (11, 1, .sem (.pointer (some (adA vl k)))), (11, 2, .sem (.agg (actA wh nn vv (.slice ao ln cp)))), (12, 1, .is (.bool false)), (15, 0, .is (.bool false)), (17, 0, .is (.bool false)), (19, 0, .is (.bool false)), (21, 0, .is (.bool false)), (23, 0, .is (.bool false)), (25, 0, .is (.bool true))] 10 [ptC pc, .int .i64 nn] [6, 7, 10, 11, 36, 37, 38] [ptC pc, ptC pw, ptC w'.heap.size, .bool true, vl, .int .i64 (n : Int), .int .i64 (k : Int)] 93 (ctRow w'.heap.size wh nn vv (.slice ao ln cp)) [(10, 0)] (inR ctC 26 3 (.inv (ctR w pc svc pw u bs vl n i))) [(.bool (decide ((k : Int) < (n : Int))), .bool true), (.bool ((k : Int) == 60), .bool false), (.bool (wh == 0), .bool false), (.bool (wh == 1), .bool false), (.bool (wh == 2), .bool false), (.bool (wh == 3), .bool false), (.bool (wh == 4), .bool false), (.bool (wh == 5), .bool true)] [(Instr.indexAt 42 vl (.int .i64 (k : Int)), .pointer (some (adA vl k))), (Instr.loadAt 48 (.pointer (some (adA vl k))), .agg (actA wh nn vv (.slice ao ln cp)))] hW (by kernel_rfl) ⟨congrArg Value.bool (by simpa using hc), congrArg Value.bool (by simpa using h60), congrArg Value.bool (by subst hm; rfl), congrArg Value.bool (by subst hm; rfl), congrArg Value.bool (by subst hm; rfl), congrArg Value.bool (by subst hm; rfl), congrArg Value.bool (by subst hm; rfl), congrArg Value.bool (by subst hm; rfl), trivial⟩ sl ?_
  intro w1 hW1 hS1
  have F := F.pass (rows := []) (fun _ h => nomatch h) hS1 hW1
  refine (skip_any F.cu nn).mono ?_
  rintro x w2 ⟨rfl, cu2, k2⟩
  refine ⟨_, rfl, ?_⟩
  have F := F.stepC k2 cu2
  have hW2 := hW1.laterS k2 lC
  refine go_call_is (gt := fun _ => Option.none) (unroll := false) 60 [] 26 [ptC pw, .int .i64 nn] [6, 7, 11, 36, 37, 38] [ptC pc, ptC pw, .bool true, vl, .int .i64 (n : Int), .int .i64 (k : Int)] 97 (ctRow w'.heap.size wh nn vv (.slice ao ln cp)) [] (inR ctC 27 3 (.inv (ctR w pc svc pw u bs vl n i))) [] [] hW2 (by kernel_rfl) trivial trivial ?_
  intro w3 hW3 hS3
  have F := F.pass (rows := (ctRow w'.heap.size wh nn vv (.slice ao ln cp))) hrow hS3 hW3
  refine (wtake_any F.cw nn).mono ?_
  rintro x w4 ⟨v4, rfl, t4⟩
  refine ⟨_, rfl, ?_⟩
  have F := F.stepW t4.keep t4.cu
  have hW4 := hW3.laterS t4.keep lW
  refine go_stop (gt := fun _ => Option.none) (unroll := false) 100 [] [6, 7, 11, 36, 37, 38] [ptC pc, ptC pw, .bool true, vl, .int .i64 (n : Int), .int .i64 (k : Int)] (ctRow w'.heap.size wh nn vv (.slice ao ln cp)) [] (atR ctC 33 (.inv (ctR w pc svc pw u bs vl n i))) [] [] hW4 (by kernel_rfl) trivial trivial ?_
  intro wz hWz hSz
  have Fz := F.pass (rows := (ctRow w'.heap.size wh nn vv (.slice ao ln cp))) hrow hSz hWz
  exact ct_tail i hj (by omega) hk hn hWz hb Fz
set_option maxRecDepth 4000 in
theorem ct_arm6 (i : CtI) {j k : Nat} (hj : i.j = j + 1) (hk : n - (j + 1) = k) (w' : World) (hJ : CtJ w pc svc pw u bs n i w') (h60 : ¬ (k : Int) = 60) {wh nn vv : Int} {ao : Option Addr} {ln cp : Nat} (hn : n ≤ 9223372036854775807)
    (sl : SemObs Try.prog ⟨[], w'.heap.size⟩ w' [(Instr.indexAt 42 vl (.int .i64 (k : Int)), .pointer (some (adA vl k))), (Instr.loadAt 48 (.pointer (some (adA vl k))), .agg (actA wh nn vv (.slice ao ln cp)))]) (hm : wh = 6) :
    Goal Try.prog (bodyPost Try.prog Try.f4 (ctQ w)) ctN ⟨frOf [6, 7, 36, 37, 38] [ptC pc, ptC pw, vl, .int .i64 (n : Int), .int .i64 (k : Int)], tagL [], ⟨[], w'.heap.size⟩, .code (loopOf (atL ctC 10)) :: .inv (ctR w pc svc pw u bs vl n i) :: (atL ctC 10).tail⟩ w' := by
  obtain ⟨hle, hW, F⟩ := hJ
  rw [hj] at hle
  have hc : (k : Int) < (n : Int) := by omega
  have hb : w'.heap.size ≠ pc ∧ w'.heap.size ≠ pw ∧ svc.ownBlock ≠ some w'.heap.size := ⟨by have := F.cu.lt; omega, by have := F.cw.lt; omega, fun h => by have := F.cu.under _ h; omega⟩
  have hrow : ∀ r ∈ (ctRow w'.heap.size wh nn vv (.slice ao ln cp)), w.heap.size ≤ r.b ∧ r.b ≠ pc ∧ r.b ≠ pw ∧ svc.ownBlock ≠ some r.b := fun r hr => by
    obtain rfl := List.mem_singleton.1 hr
    exact ⟨hW.keep.size, hb⟩
  have lC : ∀ {wx : World}, Loose w ⟨(ctRow w'.heap.size wh nn vv (.slice ao ln cp)), wx.heap.size⟩ (One pc) := fun q hq => ⟨by rw [show q = pc from hq]; exact F.hp, fun r hr => by rw [show q = pc from hq]; exact (hrow r hr).2.1⟩
  have lW : ∀ {wx : World}, Loose w ⟨(ctRow w'.heap.size wh nn vv (.slice ao ln cp)), wx.heap.size⟩ (One pw) := fun q hq => ⟨by rw [show q = pw from hq]; exact F.hq, fun r hr => by rw [show q = pw from hq]; exact (hrow r hr).2.2.1⟩
  refine go_call_is (gt := fun _ => Option.none) (unroll := false) 100 [(10, 0, .is (.bool true)), (11, 1, .sem (.pointer (some (adA vl k)))), (11, 2, .sem (.agg (actA wh nn vv (.slice ao ln cp)))), (12, 1, .is (.bool false)), (15, 0, .is (.bool false)), (17, 0, .is (.bool false)), (19, 0, .is (.bool false)), (21, 0, .is (.bool false)), (23, 0, .is (.bool false)), (25, 0, .is (.bool false)), (28, 0, .is (.bool true))] 20 [ptC pc] [6, 7, 10, 36, 37, 38] [ptC pc, ptC pw, ptC w'.heap.size, vl, .int .i64 (n : Int), .int .i64 (k : Int)] 101 (ctRow w'.heap.size wh nn vv (.slice ao ln cp)) [(10, 0)] (inR ctC 29 1 (.inv (ctR w pc svc pw u bs vl n i))) [(.bool (decide ((k : Int) < (n : Int))), .bool true), (.bool ((k : Int) == 60), .bool false), (.bool (wh == 0), .bool false), (.bool (wh == 1), .bool false), (.bool (wh == 2), .bool false), (.bool (wh == 3), .bool false), (.bool (wh == 4), .bool false), (.bool (wh == 5), .bool false), (.bool (wh == 6), .bool true)] [(Instr.indexAt 42 vl (.int .i64 (k : Int)), .pointer (some (adA vl k))), (Instr.loadAt 48 (.pointer (some (adA vl k))), .agg (actA wh nn vv (.slice ao ln cp)))] hW (by kernel_rfl) ⟨congrArg Value.bool (by simpa using hc), congrArg Value.bool (by simpa using h60), congrArg Value.bool (by subst hm; rfl), congrArg Value.bool (by subst hm; rfl), congrArg Value.bool (by subst hm; rfl), congrArg Value.bool (by subst hm; rfl), congrArg Value.bool (by subst hm; rfl), congrArg Value.bool (by subst hm; rfl), congrArg Value.bool (by subst hm; rfl), trivial⟩ sl ?_
  intro w1 hW1 hS1
  have F := F.pass (rows := []) (fun _ h => nomatch h) hS1 hW1
  refine (rest_any F.cu).mono ?_
  rintro x w2 ⟨v2, rfl, t2⟩
  refine ⟨_, rfl, ?_⟩
  have F0 := F
  have F := F.stepC t2.keep t2.cu
  have hW2 := hW1.laterS t2.keep lC
  have H2 : HdB (ctRow w'.heap.size wh nn vv (.slice ao ln cp)) w2 v2 (takeB bs i.a i.e (leftR bs i.a i.e)) := ⟨t2.rd, t2.own.lt, Ap.fresh hW1 t2.since⟩
  refine go_call_is (gt := fun _ => Option.none) (unroll := false) 60 [] 27 [ptC pw] [6, 7, 36, 37, 38, 101, 102] [ptC pc, ptC pw, vl, .int .i64 (n : Int), .int .i64 (k : Int), v2, ptC pw] 104 (ctRow w'.heap.size wh nn vv (.slice ao ln cp)) [] (inR ctC 29 4 (.inv (ctR w pc svc pw u bs vl n i))) [] [] hW2 (by kernel_rfl) trivial trivial ?_
  intro w3 hW3 hS3
  have F := F.pass (rows := (ctRow w'.heap.size wh nn vv (.slice ao ln cp))) hrow hS3 hW3
  have H2 := H2.pass0 hS3
  refine (wleft_any F.cw).mono ?_
  rintro x w4 ⟨rfl, nd, rfl⟩
  refine ⟨_, rfl, ?_⟩
  have k4 : Keep No w3 (w3.drewN nd) := (Keep.refl _ _).drewN nd
  have F := F.keep0 k4
  have H2 := H2.call k4
  refine go_call_is (gt := fun _ => Option.none) (unroll := false) 60 [] 26 [ptC pw, .int .i64 (leftR bs i.a i.e : Nat)] [6, 7, 36, 37, 38, 101] [ptC pc, ptC pw, vl, .int .i64 (n : Int), .int .i64 (k : Int), v2] 105 (ctRow w'.heap.size wh nn vv (.slice ao ln cp)) [] (inR ctC 29 5 (.inv (ctR w pc svc pw u bs vl n i))) [] [] (hW3.later k4) (by kernel_rfl) trivial trivial ?_
  intro w5 hW5 hS5
  have F := F.pass (rows := (ctRow w'.heap.size wh nn vv (.slice ao ln cp))) hrow hS5 hW5
  have H2 := H2.pass0 hS5
  refine (wtake_any F.cw _).mono ?_
  rintro x w6 ⟨v6, rfl, t6⟩
  refine ⟨_, rfl, ?_⟩
  have F := F.stepW t6.keep t6.cu
  have hW6 := hW5.laterS t6.keep lW
  have H2 : HdB (ctRow w'.heap.size wh nn vv (.slice ao ln cp)) w6 v2 (takeB bs i.a i.e (leftR bs i.a i.e)) := ⟨H2.rd.keep t6.keep (fun b hb hx => (by
    have q1 := t2.since b hb
    have q2 := F0.cw.lt
    rw [show b = pw from hx] at q1
    omega)), H2.lt.mono t6.keep.size, H2.ap⟩
  have H6 : HdB (ctRow w'.heap.size wh nn vv (.slice ao ln cp)) w6 v6 (takeB bs i.a i.e (leftR bs i.a i.e)) := ⟨t6.rd, t6.own.lt, Ap.fresh hW5 t6.since⟩
  refine go_call_is (gt := fun _ => Option.none) (unroll := false) 60 [] 25 [v2, v6] [6, 7, 36, 37, 38] [ptC pc, ptC pw, vl, .int .i64 (n : Int), .int .i64 (k : Int)] 106 (ctRow w'.heap.size wh nn vv (.slice ao ln cp)) [] (inR ctC 29 6 (.inv (ctR w pc svc pw u bs vl n i))) [] [] hW6 (by kernel_rfl) trivial trivial ?_
  intro w7 hW7 hS7
  have F := F.pass (rows := (ctRow w'.heap.size wh nn vv (.slice ao ln cp))) hrow hS7 hW7
  refine (bequal_any (H2.pass0 hS7).rd (H6.pass0 hS7).rd).mono ?_
  rintro x w8 ⟨rfl, rfl⟩
  refine ⟨_, rfl, ?_⟩
  simp only [BEq.rfl]
  refine go_stop (gt := fun _ => Option.none) (unroll := false) 100 [] [6, 7, 11, 36, 37, 38] [ptC pc, ptC pw, .bool true, vl, .int .i64 (n : Int), .int .i64 (k : Int)] (ctRow w'.heap.size wh nn vv (.slice ao ln cp)) [] (atR ctC 33 (.inv (ctR w pc svc pw u bs vl n i))) [] [] hW7 (by kernel_rfl) trivial trivial ?_
  intro wz hWz hSz
  have Fz := F.pass (rows := (ctRow w'.heap.size wh nn vv (.slice ao ln cp))) hrow hSz hWz
  exact ct_tail i hj (by omega) hk hn hWz hb Fz
set_option maxRecDepth 4000 in
theorem ct_arm7 (i : CtI) {j k : Nat} (hj : i.j = j + 1) (hk : n - (j + 1) = k) (w' : World) (hJ : CtJ w pc svc pw u bs n i w') (h60 : ¬ (k : Int) = 60) {wh nn vv : Int} {ao : Option Addr} {ln cp : Nat} (hn : n ≤ 9223372036854775807)
    (sl : SemObs Try.prog ⟨[], w'.heap.size⟩ w' [(Instr.indexAt 42 vl (.int .i64 (k : Int)), .pointer (some (adA vl k))), (Instr.loadAt 48 (.pointer (some (adA vl k))), .agg (actA wh nn vv (.slice ao ln cp)))]) (hm : wh = 7) :
    Goal Try.prog (bodyPost Try.prog Try.f4 (ctQ w)) ctN ⟨frOf [6, 7, 36, 37, 38] [ptC pc, ptC pw, vl, .int .i64 (n : Int), .int .i64 (k : Int)], tagL [], ⟨[], w'.heap.size⟩, .code (loopOf (atL ctC 10)) :: .inv (ctR w pc svc pw u bs vl n i) :: (atL ctC 10).tail⟩ w' := by
  obtain ⟨hle, hW, F⟩ := hJ
  rw [hj] at hle
  have hc : (k : Int) < (n : Int) := by omega
  have hb : w'.heap.size ≠ pc ∧ w'.heap.size ≠ pw ∧ svc.ownBlock ≠ some w'.heap.size := ⟨by have := F.cu.lt; omega, by have := F.cw.lt; omega, fun h => by have := F.cu.under _ h; omega⟩
  have hrow : ∀ r ∈ (ctRow w'.heap.size wh nn vv (.slice ao ln cp)), w.heap.size ≤ r.b ∧ r.b ≠ pc ∧ r.b ≠ pw ∧ svc.ownBlock ≠ some r.b := fun r hr => by
    obtain rfl := List.mem_singleton.1 hr
    exact ⟨hW.keep.size, hb⟩
  have lC : ∀ {wx : World}, Loose w ⟨(ctRow w'.heap.size wh nn vv (.slice ao ln cp)), wx.heap.size⟩ (One pc) := fun q hq => ⟨by rw [show q = pc from hq]; exact F.hp, fun r hr => by rw [show q = pc from hq]; exact (hrow r hr).2.1⟩
  have lW : ∀ {wx : World}, Loose w ⟨(ctRow w'.heap.size wh nn vv (.slice ao ln cp)), wx.heap.size⟩ (One pw) := fun q hq => ⟨by rw [show q = pw from hq]; exact F.hq, fun r hr => by rw [show q = pw from hq]; exact (hrow r hr).2.2.1⟩
  refine go_call_is (gt := fun _ => Option.none) (unroll := false) 100 [(10, 0, .is (.bool true)), (11, 1, .sem (.pointer (some (adA vl k)))), (11, 2, .sem (.agg (actA wh nn vv (.slice ao ln cp)))), (12, 1, .is (.bool false)), (15, 0, .is (.bool false)), (17, 0, .is (.bool false)), (19, 0, .is (.bool false)), (21, 0, .is (.bool false)), (23, 0, .is (.bool false)), (25, 0, .is (.bool false)), (28, 0, .is (.bool false)), (30, 0, .is (.bool true))] 11 [ptC pc, .int .i64 nn] [6, 7, 10, 11, 36, 37, 38] [ptC pc, ptC pw, ptC w'.heap.size, .bool true, vl, .int .i64 (n : Int), .int .i64 (k : Int)] 112 (ctRow w'.heap.size wh nn vv (.slice ao ln cp)) [(10, 0)] (inR ctC 31 3 (.inv (ctR w pc svc pw u bs vl n i))) [(.bool (decide ((k : Int) < (n : Int))), .bool true), (.bool ((k : Int) == 60), .bool false), (.bool (wh == 0), .bool false), (.bool (wh == 1), .bool false), (.bool (wh == 2), .bool false), (.bool (wh == 3), .bool false), (.bool (wh == 4), .bool false), (.bool (wh == 5), .bool false), (.bool (wh == 6), .bool false), (.bool (wh == 7), .bool true)] [(Instr.indexAt 42 vl (.int .i64 (k : Int)), .pointer (some (adA vl k))), (Instr.loadAt 48 (.pointer (some (adA vl k))), .agg (actA wh nn vv (.slice ao ln cp)))] hW (by kernel_rfl) ⟨congrArg Value.bool (by simpa using hc), congrArg Value.bool (by simpa using h60), congrArg Value.bool (by subst hm; rfl), congrArg Value.bool (by subst hm; rfl), congrArg Value.bool (by subst hm; rfl), congrArg Value.bool (by subst hm; rfl), congrArg Value.bool (by subst hm; rfl), congrArg Value.bool (by subst hm; rfl), congrArg Value.bool (by subst hm; rfl), congrArg Value.bool (by subst hm; rfl), trivial⟩ sl ?_
  intro w1 hW1 hS1
  have F := F.pass (rows := []) (fun _ h => nomatch h) hS1 hW1
  refine (fail_any F.cu nn).mono ?_
  rintro x w2 ⟨rfl, cu2, k2⟩
  refine ⟨_, rfl, ?_⟩
  have F := F.stepC k2 cu2
  have hW2 := hW1.laterS k2 lC
  refine go_call_is (gt := fun _ => Option.none) (unroll := false) 60 [] 28 [ptC pw, .int .i64 nn] [6, 7, 11, 36, 37, 38] [ptC pc, ptC pw, .bool true, vl, .int .i64 (n : Int), .int .i64 (k : Int)] 116 (ctRow w'.heap.size wh nn vv (.slice ao ln cp)) [] (inR ctC 32 3 (.inv (ctR w pc svc pw u bs vl n i))) [] [] hW2 (by kernel_rfl) trivial trivial ?_
  intro w3 hW3 hS3
  have F := F.pass (rows := (ctRow w'.heap.size wh nn vv (.slice ao ln cp))) hrow hS3 hW3
  refine (wfail_any F.cw nn).mono ?_
  rintro x w4 ⟨rfl, cw4, k4⟩
  refine ⟨_, rfl, ?_⟩
  have F := F.stepW k4 cw4
  have hW4 := hW3.laterS k4 lW
  refine go_stop (gt := fun _ => Option.none) (unroll := false) 100 [] [6, 7, 11, 36, 37, 38] [ptC pc, ptC pw, .bool true, vl, .int .i64 (n : Int), .int .i64 (k : Int)] (ctRow w'.heap.size wh nn vv (.slice ao ln cp)) [] (atR ctC 33 (.inv (ctR w pc svc pw u bs vl n i))) [] [] hW4 (by kernel_rfl) trivial trivial ?_
  intro wz hWz hSz
  have Fz := F.pass (rows := (ctRow w'.heap.size wh nn vv (.slice ao ln cp))) hrow hSz hWz
  exact ct_tail i hj (by omega) hk hn hWz hb Fz
set_option maxRecDepth 4000 in
theorem ct_armE (i : CtI) {j k : Nat} (hj : i.j = j + 1) (hk : n - (j + 1) = k) (w' : World) (hJ : CtJ w pc svc pw u bs n i w') (h60 : ¬ (k : Int) = 60) {wh nn vv : Int} {ao : Option Addr} {ln cp : Nat} (hn : n ≤ 9223372036854775807)
    (sl : SemObs Try.prog ⟨[], w'.heap.size⟩ w' [(Instr.indexAt 42 vl (.int .i64 (k : Int)), .pointer (some (adA vl k))), (Instr.loadAt 48 (.pointer (some (adA vl k))), .agg (actA wh nn vv (.slice ao ln cp)))]) (hw0 : ¬ wh = 0) (hw1 : ¬ wh = 1) (hw2 : ¬ wh = 2) (hw3 : ¬ wh = 3) (hw4 : ¬ wh = 4) (hw5 : ¬ wh = 5) (hw6 : ¬ wh = 6) (hw7 : ¬ wh = 7) :
    Goal Try.prog (bodyPost Try.prog Try.f4 (ctQ w)) ctN ⟨frOf [6, 7, 36, 37, 38] [ptC pc, ptC pw, vl, .int .i64 (n : Int), .int .i64 (k : Int)], tagL [], ⟨[], w'.heap.size⟩, .code (loopOf (atL ctC 10)) :: .inv (ctR w pc svc pw u bs vl n i) :: (atL ctC 10).tail⟩ w' := by
  obtain ⟨hle, hW, F⟩ := hJ
  rw [hj] at hle
  have hc : (k : Int) < (n : Int) := by omega
  have hb : w'.heap.size ≠ pc ∧ w'.heap.size ≠ pw ∧ svc.ownBlock ≠ some w'.heap.size := ⟨by have := F.cu.lt; omega, by have := F.cw.lt; omega, fun h => by have := F.cu.under _ h; omega⟩
  have hrow : ∀ r ∈ (ctRow w'.heap.size wh nn vv (.slice ao ln cp)), w.heap.size ≤ r.b ∧ r.b ≠ pc ∧ r.b ≠ pw ∧ svc.ownBlock ≠ some r.b := fun r hr => by
    obtain rfl := List.mem_singleton.1 hr
    exact ⟨hW.keep.size, hb⟩
  have lC : ∀ {wx : World}, Loose w ⟨(ctRow w'.heap.size wh nn vv (.slice ao ln cp)), wx.heap.size⟩ (One pc) := fun q hq => ⟨by rw [show q = pc from hq]; exact F.hp, fun r hr => by rw [show q = pc from hq]; exact (hrow r hr).2.1⟩
  have lW : ∀ {wx : World}, Loose w ⟨(ctRow w'.heap.size wh nn vv (.slice ao ln cp)), wx.heap.size⟩ (One pw) := fun q hq => ⟨by rw [show q = pw from hq]; exact F.hq, fun r hr => by rw [show q = pw from hq]; exact (hrow r hr).2.2.1⟩
  refine go_stop (gt := fun _ => Option.none) (unroll := false) 100 [(10, 0, .is (.bool true)), (11, 1, .sem (.pointer (some (adA vl k)))), (11, 2, .sem (.agg (actA wh nn vv (.slice ao ln cp)))), (12, 1, .is (.bool false)), (15, 0, .is (.bool false)), (17, 0, .is (.bool false)), (19, 0, .is (.bool false)), (21, 0, .is (.bool false)), (23, 0, .is (.bool false)), (25, 0, .is (.bool false)), (28, 0, .is (.bool false)), (30, 0, .is (.bool false))] [6, 7, 11, 36, 37, 38] [ptC pc, ptC pw, .bool true, vl, .int .i64 (n : Int), .int .i64 (k : Int)] (ctRow w'.heap.size wh nn vv (.slice ao ln cp)) [] (atR ctC 33 (.inv (ctR w pc svc pw u bs vl n i))) [(.bool (decide ((k : Int) < (n : Int))), .bool true), (.bool ((k : Int) == 60), .bool false), (.bool (wh == 0), .bool false), (.bool (wh == 1), .bool false), (.bool (wh == 2), .bool false), (.bool (wh == 3), .bool false), (.bool (wh == 4), .bool false), (.bool (wh == 5), .bool false), (.bool (wh == 6), .bool false), (.bool (wh == 7), .bool false)] [(Instr.indexAt 42 vl (.int .i64 (k : Int)), .pointer (some (adA vl k))), (Instr.loadAt 48 (.pointer (some (adA vl k))), .agg (actA wh nn vv (.slice ao ln cp)))] hW (by kernel_rfl) ⟨congrArg Value.bool (by simpa using hc), congrArg Value.bool (by simpa using h60), congrArg Value.bool (by simpa using hw0), congrArg Value.bool (by simpa using hw1), congrArg Value.bool (by simpa using hw2), congrArg Value.bool (by simpa using hw3), congrArg Value.bool (by simpa using hw4), congrArg Value.bool (by simpa using hw5), congrArg Value.bool (by simpa using hw6), congrArg Value.bool (by simpa using hw7), trivial⟩ sl ?_
  intro wz hWz hSz
  have Fz := F.pass (rows := []) (fun _ h => nomatch h) hSz hWz
  exact ct_tail i hj (by omega) hk hn hWz hb Fz
set_option maxRecDepth 4000 in
theorem ct_round (hacts : ActsAt w vl n) (i : CtI) (w' : World) (hJ : CtJ w pc svc pw u bs n i w') (j : Nat) (hj : i.j = j + 1) (hwk : ∀ wx, Keep No w wx → Calls Try.prog 14 #[] wx fun x w9 => x = .returned (.bool true) ∧ Keep No wx w9) :
    Goal Try.prog (bodyPost Try.prog Try.f4 (ctQ w)) ctN { ctL pc pw vl n i w' with todo := .code (loopOf (atL ctC 10)) :: .inv (ctR w pc svc pw u bs vl n i) :: (atL ctC 10).tail } w' := by
  unfold ctL
  obtain ⟨c, slc, hel⟩ := hacts
  have hle := hJ.le
  have hW := hJ.W
  have hn : n ≤ 9223372036854775807 := by
    obtain ⟨ao, cap, _, h1, h2, _⟩ := slc.shape
    simp only [maxLen] at h2
    omega
  rw [hj] at hle ⊢
  simp only
  have hki : n - (j + 1) < n := by omega
  obtain ⟨k, hk⟩ : ∃ k, n - (j + 1) = k := ⟨_, rfl⟩
  rw [hk] at hki ⊢
  obtain ⟨wh, nn, vv, ao, ln, cp, e0, e1, e2, e3⟩ := hel k hki
  have sl : SemObs Try.prog ⟨[], w'.heap.size⟩ w' [(Instr.indexAt 42 vl (.int .i64 (k : Int)), .pointer (some (adA vl k))), (Instr.loadAt 48 (.pointer (some (adA vl k))), .agg (actA wh nn vv (.slice ao ln cp)))] :=
    ⟨fun wx _ => act_at slc hki wx, fun wx hx => act_ld (w := wx) ⟨slc.shape, fun q hq => by
      have hcc := slc.cell q hq
      rw [← (slc.keep0 hW.keep).cell q hq]
      exact World.cell?_of_block (hx _ ⟨Nat.lt_of_lt_of_le (World.block_lt_of_cell? w _ hcc) hW.keep.size, fun _ h => nomatch h⟩)⟩ hki e0 e1 e2 e3, trivial⟩
  by_cases h60 : (k : Int) = 60
  · refine go_call_is (gt := fun _ => Option.none) (unroll := false) 100 [(10, 0, .is (.bool true)), (11, 1, .sem (.pointer (some (adA vl k)))), (11, 2, .sem (.agg (actA wh nn vv (.slice ao ln cp)))), (12, 1, .is (.bool true))] 14 [] [] [] 145 (ctRow w'.heap.size wh nn vv (.slice ao ln cp)) [] (inR ctC 36 0) [(.bool (decide ((k : Int) < (n : Int))), .bool true), (.bool ((k : Int) == 60), .bool true)]
      [(Instr.indexAt 42 vl (.int .i64 (k : Int)), .pointer (some (adA vl k))), (Instr.loadAt 48 (.pointer (some (adA vl k))), .agg (actA wh nn vv (.slice ao ln cp)))] hW (by kernel_rfl) ⟨congrArg Value.bool (by simpa using hki), congrArg Value.bool (by simpa using h60), trivial⟩ sl ?_
    intro w1 hW1 _
    refine (hwk w1 hW1.keep).mono ?_
    rintro x w2 ⟨rfl, k2⟩
    refine ⟨_, rfl, ?_⟩
    exact go_ret (gt := fun _ => Option.none) (unroll := false) 60 [] [.tmp 4] (.bool true) [] [] (hW1.later k2) Try.results4 (by kernel_rfl) trivial trivial (fun w9 hW9 _ => ⟨rfl, hW9.keep⟩)
  by_cases hw0 : wh = 0
  · exact ct_arm0 i hj hk w' hJ h60 hn sl hw0
  by_cases hw1 : wh = 1
  · exact ct_arm1 i hj hk w' hJ h60 hn sl hw1
  by_cases hw2 : wh = 2
  · exact ct_arm2 i hj hk w' hJ h60 hn sl hw2
  by_cases hw3 : wh = 3
  · exact ct_arm3 i hj hk w' hJ h60 hn sl hw3
  by_cases hw4 : wh = 4
  · exact ct_arm4 i hj hk w' hJ h60 hn sl hw4
  by_cases hw5 : wh = 5
  · exact ct_arm5 i hj hk w' hJ h60 hn sl hw5
  by_cases hw6 : wh = 6
  · exact ct_arm6 i hj hk w' hJ h60 hn sl hw6
  by_cases hw7 : wh = 7
  · exact ct_arm7 i hj hk w' hJ h60 hn sl hw7
  exact ct_armE i hj hk w' hJ h60 hn sl hw0 hw1 hw2 hw3 hw4 hw5 hw6 hw7
end
end Go.Proofs.Ytpididcghilbjaa
