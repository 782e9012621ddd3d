/-
  tolllaw01's CutTakes: the cutter and the document's, call by call. No condition.
-/
import Derived.Test.YtpididcghilbjaaStX
import Derived.Test.YtpididcghilbjaaObj
import Derived.Test.YtpididcghilbjaaCutMore
import Derived.Test.YtpididcghilbjaaNum8
import Derived.Test.YtpididcghilbjaaNum16
import Derived.Test.YtpididcghilbjaaNum32
import Derived.Test.YtpididcghilbjaaRef1b
import Derived.Test.YtpididcghilbjaaLater
namespace Go.Proofs.Ytpididcghilbjaa
open Go.RowKit

/-- The cutter at pc stands at a, e; the document's at pw at a2, e2. -/
structure CtF (w w' : World) (pc : Nat) (svc : Value) (pw : Nat) (u : Value) (bs : List UInt8) (a : Nat) (e : Int) (a2 : Nat) (e2 : Int) : Prop where
  cu : Cu w' pc svc bs a e
  cw : Cw w' pw u bs a2 e2
  hp : w.heap.size ≤ pc
  hq : w.heap.size ≤ pw
  ne : pc ≠ pw
  sv : Since w.heap.size svc
  svw : svc.ownBlock ≠ some pw
  old : 0 < bs.length → Under w.heap.size u
section
variable {w w1 w2 : World} {pc pw : Nat} {svc u : Value} {bs : List UInt8} {a a2 : Nat} {e e2 : Int} {rows : List RowS} {m' : Mem}
theorem CtF.keep0 (h : CtF w w1 pc svc pw u bs a e a2 e2) (k : Keep No w1 w2) : CtF w w2 pc svc pw u bs a e a2 e2 := ⟨h.cu.keep0 k, h.cw.keep0 k, h.hp, h.hq, h.ne, h.sv, h.svw, h.old⟩
theorem CtF.pass (h : CtF w w1 pc svc pw u bs a e a2 e2) (hr : ∀ r ∈ rows, w.heap.size ≤ r.b ∧ r.b ≠ pc ∧ r.b ≠ pw ∧ svc.ownBlock ≠ some r.b) (hS : Seg ⟨rows, w1.heap.size⟩ w1 m' w2) (hW : Wst w m' w2) : CtF w w2 pc svc pw u bs a e a2 e2 := by
  have hle : w1.heap.size ≤ w2.heap.size := by rw [hW.size]; exact hS.le
  refine ⟨h.cu.same hle (hS.same pc ⟨h.cu.lt, fun r hm _ => (hr r hm).2.1⟩) (fun b hb => hS.same b ⟨h.cu.under b hb, fun r hm _ e => (hr r hm).2.2.2 (by rw [e]; exact hb)⟩), ?_, h.hp, h.hq, h.ne, h.sv, h.svw, h.old⟩
  have hpw := hS.same pw ⟨h.cw.lt, fun r hm _ => (hr r hm).2.2.1⟩
  exact ⟨(World.cell?_of_block hpw).trans h.cw.c0, (World.cell?_of_block hpw).trans h.cw.c1, (World.cell?_of_block hpw).trans h.cw.c2, fun o => (World.frozen?_of_block (a := ⟨pw, o, none⟩) hpw).trans (h.cw.fz o),
    ⟨h.cw.rd.shape, fun i hi => by
      rw [← h.cw.rd.cell i hi]
      have hb := h.cw.rd.block_eq hi
      have hlt := h.old (by omega) _ hb
      have hl2 := h.cw.rd.blockLt (by omega) _ hb
      exact World.cell?_of_block (hS.same _ ⟨hl2, fun r hm _ e => by have := (hr r hm).1; have e' : r.b = blk u := e; omega⟩)⟩, h.cw.apart, h.cw.le, h.cw.big⟩
theorem CtF.stepC (h : CtF w w1 pc svc pw u bs a e a2 e2) (k : Keep (One pc) w1 w2) {a' : Nat} {e' : Int} (cu : Cu w2 pc svc bs a' e') : CtF w w2 pc svc pw u bs a' e' a2 e2 :=
  ⟨cu, h.cw.keep k (fun x => h.ne (Eq.symm x)) (fun h0 b hb hx => by have := h.old h0 b hb; have := h.hp; rw [show b = pc from hx] at *; omega), h.hp, h.hq, h.ne, h.sv, h.svw, h.old⟩
theorem CtF.stepW (h : CtF w w1 pc svc pw u bs a e a2 e2) (k : Keep (One pw) w1 w2) {a' : Nat} {e' : Int} (cw : Cw w2 pw u bs a' e') : CtF w w2 pc svc pw u bs a e a' e' :=
  ⟨h.cu.keep k (fun x => h.ne x) (fun b hb hx => h.svw (by rw [hb, show b = pw from hx])), cw, h.hp, h.hq, h.ne, h.sv, h.svw, h.old⟩
end
abbrev ptC (b : Nat) : Value := .pointer (some ⟨b, 0, none⟩)
noncomputable abbrev ctC : Code := bodyOf Try.f4
noncomputable abbrev ctN : Nat := Try.f4.ntmps
abbrev ctQ (w : World) : Ending → World → Prop := fun x w' => x = .returned (.bool true) ∧ Keep No w w'
/-- An act's cells. -/
def actA (wh nn : Int) (vv : Int) (sl : Value) : Array Value := #[.int .i64 wh, .int .i64 nn, .int .u32 vv, sl]
structure CtI where
  j : Nat
  a : Nat
  e : Int
noncomputable def ctL (pc pw : Nat) (vl : Value) (n : Nat) (i : CtI) (w' : World) : Cfg := ⟨frOf [6, 7, 36, 37, 38] [ptC pc, ptC pw, vl, .int .i64 (n : Int), .int .i64 ((n - i.j : Nat) : Int)], tagL [], ⟨[], w'.heap.size⟩, atL ctC 10⟩
structure CtJ (w : World) (pc : Nat) (svc : Value) (pw : Nat) (u : Value) (bs : List UInt8) (n : Nat) (i : CtI) (w' : World) : Prop where
  le : i.j ≤ n
  W : Wst w ⟨[], w'.heap.size⟩ w'
  F : CtF w w' pc svc pw u bs i.a i.e i.a i.e
noncomputable def ctR (w : World) (pc : Nat) (svc : Value) (pw : Nat) (u : Value) (bs : List UInt8) (vl : Value) (n : Nat) (i : CtI) : Act → World → Prop := fun a' w' => ∃ k : CtI, k.j < i.j ∧ CtJ w pc svc pw u bs n k w' ∧ agrees ctN (ctL pc pw vl n k w') a'
section
variable {w : World} {pc pw : Nat} {svc u vl : Value} {bs : List UInt8} {n : Nat} {a : Nat} {e : Int}
theorem Cw.sem_at {wx : World} (h : Cw wx pw u bs a e) : (Instr.loadAt 3 (.pointer (some ⟨pw, 1, none⟩))).run Try.prog wx = .ok (.int .i64 (a : Int)) wx := by
  have hu := run_underlying (P := Try.prog) (w := wx) Try.underlying3
  simp [Instr.loadAt, Instr.sureAddr, loadVar, isAgg, hu, load, Sem.run, h.c1]
theorem Cw.sem_e {wx : World} (h : Cw wx pw u bs a e) : (Instr.loadAt 3 (.pointer (some ⟨pw, 2, none⟩))).run Try.prog wx = .ok (.int .i64 e) wx := by
  have hu := run_underlying (P := Try.prog) (w := wx) Try.underlying3
  simp [Instr.loadAt, Instr.sureAddr, loadVar, isAgg, hu, load, Sem.run, h.c2]
abbrev ctRow (b : Nat) (wh nn vv : Int) (sl : Value) : List RowS := [⟨b, (actA wh nn vv sl).toList, true⟩]
set_option maxRecDepth 4000 in
/-- The check at a round's end. -/
theorem ct_tail (i : CtI) {j k : Nat} (hj : i.j = j + 1) (hjn : j + 1 ≤ n) (hk : n - (j + 1) = k) (hn : n ≤ 9223372036854775807) {b : Nat} {wh nn vv : Int} {sl : Value} {w1 : World} (hW : Wst w ⟨ctRow b wh nn vv sl, w1.heap.size⟩ w1) (hb : b ≠ pc ∧ b ≠ pw ∧ svc.ownBlock ≠ some b) (F : CtF w w1 pc svc pw u bs a e a e) :
    Goal Try.prog (bodyPost Try.prog Try.f4 (ctQ w)) ctN ⟨frOf [6, 7, 11, 36, 37, 38] [ptC pc, ptC pw, .bool true, vl, .int .i64 (n : Int), .int .i64 (k : Int)], tagL [], ⟨ctRow b wh nn vv sl, w1.heap.size⟩, atR ctC 33 (.inv (ctR w pc svc pw u bs vl n i))⟩ w1 := by
  have hwb : w.heap.size ≤ b := hW.own _ (List.mem_singleton.2 rfl) rfl
  refine drawn_ok (gt := fun _ => Option.none) [(4, .call (.is (.int .i64 (leftR bs a e : Nat)))), (6, .call (.is (.int .i64 (leftR bs a e : Nat)))), (7, .is (.bool false)), (11, .call (.is (.int .i64 (a : Int)))), (15, .sem (.int .i64 (a : Int))), (16, .is (.bool false)), (20, .call (.is (.int .i64 e))), (24, .sem (.int .i64 e)), (25, .is (.bool false))]
    [143, 6, 7, 36, 37, 38] [.is (.bool false), .is (ptC pc), .is (ptC pw), .is vl, .is (.int .i64 (n : Int)), .is (.int .i64 (k : Int))]
    [(.bool ((((leftR bs a e : Nat)) : Int) != ((leftR bs a e : Nat) : Int)), .bool false), (.bool ((a : Int) != (a : Int)), .bool false), (.bool (e != e), .bool false)]
    [(13, [.is (ptC pc)], .is (.int .i64 (leftR bs a e : Nat))), (27, [.is (ptC pw)], .is (.int .i64 (leftR bs a e : Nat))), (21, [.is (ptC pc)], .is (.int .i64 (a : Int))), (12, [.is (ptC pc)], .is (.int .i64 e))] [] []
    [(Instr.loadAt 3 (.pointer (some ⟨pw, 1, none⟩)), .int .i64 (a : Int)), (Instr.loadAt 3 (.pointer (some ⟨pw, 2, none⟩)), .int .i64 e)]
    hW (by kernel_rfl) (by kernel_rfl) ⟨congrArg Value.bool (by simp), congrArg Value.bool (by simp), congrArg Value.bool (by simp), trivial⟩
    ⟨CallOb.of1 fun w8 kp => (left_any (F.keep0 kp).cu).mono fun x w9 ⟨h1, n', h2⟩ => ⟨h1, h2 ▸ (Keep.refl _ _).drewN n'⟩, CallOb.of1 fun w8 kp => (wleft_any (F.keep0 kp).cw).mono fun x w9 ⟨h1, n', h2⟩ => ⟨h1, h2 ▸ (Keep.refl _ _).drewN n'⟩,
      CallOb.of1 fun w8 kp => (at_any (F.keep0 kp).cu).mono fun x w9 ⟨h1, h2⟩ => ⟨h1, h2 ▸ Keep.refl _ _⟩, CallOb.of1 fun w8 kp => (err_any (F.keep0 kp).cu).mono fun x w9 ⟨h1, h2⟩ => ⟨h1, h2 ▸ Keep.refl _ _⟩, trivial⟩
    trivial trivial ⟨fun w8 kp => (F.keep0 kp).cw.sem_at, fun w8 kp => (F.keep0 kp).cw.sem_e, trivial⟩ ?_
  intro w2 vs k2 hv
  obtain rfl := allOk_is (vs := [.bool false, ptC pc, ptC pw, vl, .int .i64 (n : Int), .int .i64 (k : Int)]) hv
  have F := F.keep0 k2
  refine go_inv (gt := fun _ => Option.none) (unroll := false) 60 [(35, 0, .is (.int .i64 ((k + 1 : Nat) : Int)))] [6, 7, 36, 37, 38] [ptC pc, ptC pw, vl, .int .i64 (n : Int), .int .i64 ((k + 1 : Nat) : Int)] (ctRow b wh nn vv sl) (ctR w pc svc pw u bs vl n i) [(.int .i64 (IntKind.i64.wrap ((k : Int) + 1)), .int .i64 ((k + 1 : Nat) : Int))] [] (hW.later k2) (by kernel_rfl)
    ⟨congrArg (Value.int .i64) (by rw [IntWalk.i64_in _ (by omega)]; omega), trivial⟩ trivial ?_
  intro w5 act hW5 hS5 hs
  refine ⟨⟨j, a, e⟩, by rw [hj]; exact Nat.lt_succ_self j, ⟨by show j ≤ n; omega, hW5.fewer (rows := []), F.pass (rows := ctRow b wh nn vv sl) (fun r hr => by obtain rfl := List.mem_singleton.1 hr; exact ⟨hwb, hb⟩) hS5 hW5⟩, ?_⟩
  unfold ctL
  simp only
  rw [show n - j = k + 1 by omega]
  exact hs
end
end Go.Proofs.Ytpididcghilbjaa
