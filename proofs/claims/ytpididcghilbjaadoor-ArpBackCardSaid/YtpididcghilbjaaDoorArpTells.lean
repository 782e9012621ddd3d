/-
  tolllaw05's ArpTells, walked. Condition: the numbers are of their kinds; the table is as it was laid.
-/
import Derived.Test.YtpididcghilbjaaDoorRowD
import Derived.Test.YtpididcghilbjaaDoorArpRefA
import Derived.Test.YtpididcghilbjaaDoorArpBytes
namespace Go.Proofs.YtpididcghilbjaaDoor
open Go.RowKit

noncomputable abbrev tB : Code := bodyOf Tryd.f6
theorem CallOb.rd1 {P : Program} {w0 : World} {f : FuncId} {a : Value} {bs : List UInt8} (h : ∀ w, Keep No w0 w → Calls P f #[a] w fun e w' => ∃ v, e = .returned v ∧ Keep No w w' ∧ Rd w' v bs) : CallOb P w0 f [.is a] (rdS bs) := by
  rintro w vals k ha
  match vals, ha with
  | [x], hx => obtain rfl : x = a := hx.1; exact h w k
theorem bequal_ob {w0 : World} {xs : List UInt8} : CallOb Tryd.prog w0 16 [rdS xs, rdS xs] (.is (.bool true)) := by
  rintro w vals k ha
  match vals, ha with
  | [x, y], hx => exact (bequal_any hx.1 hx.2.1).mono fun e w' ⟨h1, h2⟩ => ⟨_, h1, h2 ▸ Keep.refl _ _, by simp [Sv.ok]⟩
section
variable {w : World} {op fi ti : Nat} {rop rfi rti : Int} {f t m rf rt : List UInt8} {b : Bool}
def pz : List Value := [.int .i64 0, .int .u8 0, .int .u8 0, .int .u8 0, .int .u8 0, .int .u8 0, .int .u8 0, .int .u8 0, .int .u8 0, .int .u8 0, .int .u8 0, .int .u8 0, .int .u8 0, .int .u32 0, .int .u32 0]
set_option maxRecDepth 4000 in
theorem arptells_walk (ho : op < 65536) (hfi : fi < 4294967296) (hti : ti < 4294967296) (hr0 : 0 ≤ rop) (hr1 : rop < 65536) (hrep : replyV op fi ti f m = pkA rop rfi rti rf rt) (hb : ((op : Int) == 1) = b) (href : (if (op : Int) = 1 then rkA 2 ti fi m f else rkA 0 0 0 [] []) = rkA rop rfi rti rf rt) (ha : Ah w) :
    Calls Tryd.prog 6 #[.agg (pkA op fi ti f t), .agg (macV m)] w fun x w' => x = .returned (.bool true) ∧ Keep No w w' := by
  have ho' : ((op : Int)) < 65536 := by omega
  refine enter (args := [.agg (pkA op fi ti f t), .agg (macV m)]) Tryd.func6 (by kernel_rfl) ?_
  refine go_call_is (gt := fun _ => Option.none) (unroll := true) 60 [] 8 [.agg (pkA op fi ti f t), .agg (macV m)] [2, 3] [.pointer (some ⟨w.heap.size, 0, Option.none⟩), .pointer (some ⟨w.heap.size + 1, 0, Option.none⟩)] 12
    [⟨w.heap.size, (pkA op fi ti f t).toList, true⟩, ⟨w.heap.size + 1, (macV m).toList, true⟩] [(2, 0), (3, 1)] (inR tB 1 2) [] [] (Wst.start0 w) (by kernel_rfl) trivial trivial ?_
  intro w1 hW1 hS1
  refine (reply_any _ _ _ _ _ _ m).mono ?_
  rintro x w2 ⟨rfl, k2⟩
  refine ⟨_, rfl, ?_⟩
  rw [hrep, hb]
  have hW2 := hW1.later k2
  refine go_stop (gt := fun _ => Option.none) (unroll := true) 60 [] [2, 3, 5, 6] [.pointer (some ⟨w.heap.size, 0, Option.none⟩), .pointer (some ⟨w.heap.size + 1, 0, Option.none⟩), .pointer (some ⟨w2.heap.size, 0, Option.none⟩), .bool b]
    [⟨w.heap.size, (pkA op fi ti f t).toList, true⟩, ⟨w.heap.size + 1, (macV m).toList, true⟩, ⟨w2.heap.size, (pkA rop rfi rti rf rt).toList, true⟩] [(2, 0), (3, 1), (5, 2)] (atR tB 2) [] [] hW2 (by kernel_rfl) trivial trivial ?_
  intro w3 hW3 hS3
  refine drawnM_ok (S0 := No) (gt := fun _ => Option.none) (D := RowD pz (rkA rop rfi rti rf rt).toList w3) (g0 := noGh)
    [(1, .call (.is (.agg (rkA op fi ti f t)))), (3, .call (.is (.tuple #[.agg (rkA rop rfi rti rf rt), .bool b]))), (7, .act padS), (8, .act (.is undef))] [2, 3, 5, 6, 7, 8]
    [.is (.pointer (some ⟨w.heap.size, 0, Option.none⟩)), .is (.pointer (some ⟨w.heap.size + 1, 0, Option.none⟩)), .is (.pointer (some ⟨w2.heap.size, 0, Option.none⟩)), .is (.bool b), padS, .is (.bool b)]
    (True ∧ CallM Tryd.prog No w3 15 [.is (.agg (pkA op fi ti f t))] (.is (.agg (rkA op fi ti f t))) ∧ True ∧ CallM Tryd.prog No w3 19 [.is (.agg (rkA op fi ti f t)), .is (.agg (macV m))] (.is (.tuple #[.agg (rkA rop rfi rti rf rt), .bool b])) ∧ True ∧ True ∧ True ∧
      ActM Tryd.prog No w3 (RowD pz (rkA rop rfi rti rf rt).toList w3) 0 (.alloc 39) 0 [] padS ∧
      ActM Tryd.prog No w3 (RowD pz (rkA rop rfi rti rf rt).toList w3) 1 (.store 39 (.tmp 7) (.tmp 20)) 0 [(7, padS), (20, .is (.agg (rkA rop rfi rti rf rt)))] (.is undef) ∧ True ∧ True)
    2 (afterR tB 2) hW3 (fun _ h => h.elim) (by kernel_rfl) (by kernel_rfl) (by kernel_rfl) RowD.keep (noGh_base w3) noGh_R
    ⟨trivial, ?_, trivial, ?_, trivial, trivial, trivial, act_alloc (fun nx => by kernel_rfl), act_store (fun b => List.replicate 15 (b, b)) (fun b q hq => by rw [List.eq_of_mem_replicate hq]) (fun b nx => by kernel_rfl), trivial, trivial⟩ ?_
  · intro g wx vals k hbase hv
    match vals, hv with
    | [x], hx => obtain rfl : x = _ := hx.1; exact (of_any wx op fi ti f t (by omega) ho').mono fun e w' ⟨h1, h2⟩ => ⟨_, h1, h2, rfl⟩
  · intro g wx vals k hbase hv
    match vals, hv with
    | [x, y], hx =>
      obtain rfl : x = _ := hx.1
      obtain rfl : y = _ := hx.2.1
      refine refreply_any.mono fun e w' ⟨h1, h2⟩ => ⟨_, h1, h2, ?_⟩
      rw [href, hb]; rfl
  intro g w4 vs k4 _ hd hok
  match vs, hok with
  | [x2, x3, x5, x6, x7, x8], hx =>
  obtain ⟨rfl, rfl, rfl, rfl, ⟨_, h7⟩, rfl, _⟩ : x2 = _ ∧ x3 = _ ∧ x5 = _ ∧ x6 = _ ∧ (g.live ∧ x7 = g.val) ∧ x8 = _ ∧ True := hx
  obtain ⟨_, q, tq, hq1, _, hq2, hq3⟩ := hd
  rw [hq1] at h7
  subst h7
  simp only [Nat.one_ne_zero, if_false] at hq3
  have hW4 := (hW3.later k4).addRow hq3 (Nat.le_trans hW3.keep.size hq2) (fun r hr => by
    obtain ⟨t', ht⟩ := hW3.rows r hr
    have := block_of_row ht
    omega)
  refine Goal.re (tags := tagL [(2, 0), (3, 1), (5, 2), (7, 3)]) (m := ⟨[⟨w.heap.size, (pkA op fi ti f t).toList, true⟩, ⟨w.heap.size + 1, (macV m).toList, true⟩, ⟨w2.heap.size, (pkA rop rfi rti rf rt).toList, true⟩, ⟨q, (rkA rop rfi rti rf rt).toList, true⟩], w4.heap.size⟩) ?_
  refine go_stop (gt := fun _ => Option.none) (unroll := true) 60 [] [2, 3, 5, 6, 7, 8] [.pointer (some ⟨w.heap.size, 0, Option.none⟩), .pointer (some ⟨w.heap.size + 1, 0, Option.none⟩), .pointer (some ⟨w2.heap.size, 0, Option.none⟩), .bool b, .pointer (some ⟨q, 0, Option.none⟩), .bool b]
    [⟨w.heap.size, (pkA op fi ti f t).toList, true⟩, ⟨w.heap.size + 1, (macV m).toList, true⟩, ⟨w2.heap.size, (pkA rop rfi rti rf rt).toList, true⟩, ⟨q, (rkA rop rfi rti rf rt).toList, true⟩] [(2, 0), (3, 1), (5, 2), (7, 3)] (atR tB 3) [] [] hW4 (by kernel_rfl) trivial trivial ?_
  clear hW4
  intro w4 hW4 _
  have ha4 : ∀ w5, Keep No w4 w5 → Ah w5 := fun w5 k => ha.keep0 (hW4.keep.trans k)
  have cof : CallOb Tryd.prog w4 15 [.is (.agg (pkA op fi ti f t))] (.is (.agg (rkA op fi ti f t))) := CallOb.of1 fun w8 _ => of_any w8 op fi ti f t (by omega) ho'
  have crb : CallOb Tryd.prog w4 20 [.is (.agg (rkA op fi ti f t))] (rdS (bytesR op fi ti f t)) := CallOb.rd1 fun w8 _ => (refbytes_any hfi hti).mono fun e w9 ⟨v, h1, h2⟩ => ⟨v, h1, h2.keep, h2.rd⟩
  have cab : CallOb Tryd.prog w4 17 [.is (.agg (pkA op fi ti f t))] (rdS (bytesR op fi ti f t)) := CallOb.rd1 fun w8 k => (arpbytes_any ho hfi hti (ha4 w8 k)).mono fun e w9 ⟨v, h1, h2⟩ => ⟨v, h1, h2.keep, h2.rd⟩
  refine drawn_ok (gt := fun _ => Option.none) [(1, .call (.is (.agg (rkA rop rfi rti rf rt)))), (3, .bin (.bool true)), (7, .is (.bool true)), (11, .call (rdS (bytesR op fi ti f t))), (13, .call (.is (.agg (rkA op fi ti f t)))), (14, .call (rdS (bytesR op fi ti f t))), (15, .call (.is (.bool true))),
      (19, .call (.is (.bool (mayR op)))), (21, .call (.is (.agg (rkA op fi ti f t)))), (22, .call (rdS (bytesR op fi ti f t))), (23, .by (.is (.int .i64 (bytesR op fi ti f t).length))), (24, .is (.bool (mayR op))), (25, .is (.bool true)),
      (29, .call (.is (.bool (probesR op fi)))), (31, .call (.is (.agg (rkA op fi ti f t)))), (32, .call (.is (.bool (probesR op fi)))), (33, .is (.bool true)),
      (37, .call (.is (.bool (itselfR op fi ti)))), (39, .call (.is (.agg (rkA op fi ti f t)))), (40, .call (.is (.bool (itselfR op fi ti)))), (41, .is (.bool true)), (44, .call (.is (.bool true)))]
    [4] [.is (.bool true)]
    [(.bool (b == b), .bool true), (.bool (decide (((bytesR op fi ti f t).length : Int) > 0)), .bool (mayR op)), (.bool (mayR op == mayR op), .bool true), (.bool (probesR op fi == probesR op fi), .bool true), (.bool (itselfR op fi ti == itselfR op fi ti), .bool true)]
    [(15, [.is (.agg (pkA rop rfi rti rf rt))], .is (.agg (rkA rop rfi rti rf rt))), (17, [.is (.agg (pkA op fi ti f t))], rdS (bytesR op fi ti f t)), (15, [.is (.agg (pkA op fi ti f t))], .is (.agg (rkA op fi ti f t))),
      (20, [.is (.agg (rkA op fi ti f t))], rdS (bytesR op fi ti f t)), (16, [rdS (bytesR op fi ti f t), rdS (bytesR op fi ti f t)], .is (.bool true)),
      (18, [.is (.agg (pkA op fi ti f t))], .is (.bool (mayR op))), (15, [.is (.agg (pkA op fi ti f t))], .is (.agg (rkA op fi ti f t))), (20, [.is (.agg (rkA op fi ti f t))], rdS (bytesR op fi ti f t)),
      (10, [.is (.agg (pkA op fi ti f t))], .is (.bool (probesR op fi))), (15, [.is (.agg (pkA op fi ti f t))], .is (.agg (rkA op fi ti f t))), (21, [.is (.agg (rkA op fi ti f t))], .is (.bool (probesR op fi))),
      (11, [.is (.agg (pkA op fi ti f t))], .is (.bool (itselfR op fi ti))), (15, [.is (.agg (pkA op fi ti f t))], .is (.agg (rkA op fi ti f t))), (22, [.is (.agg (rkA op fi ti f t))], .is (.bool (itselfR op fi ti))),
      (9, [], .is (.bool true))]
    [(.eql, 39, .agg (rkA rop rfi rti rf rt), .agg (rkA rop rfi rti rf rt), .bool true)]
    [(.call { callee := .builtin .len, args := #[.tmp 44], argTypes := #[33] }, 3, [(44, rdS (bytesR op fi ti f t))], .is (.int .i64 (bytesR op fi ti f t).length))] []
    hW4 (by kernel_rfl) (by kernel_rfl) ⟨congrArg Value.bool (by simp), congrArg Value.bool (by cases hm : mayR (op : Int) <;> simp [bytesR, hm, arpB, aheadL] <;> omega), congrArg Value.bool (by simp), congrArg Value.bool (by simp), congrArg Value.bool (by simp), trivial⟩
    ⟨CallOb.of1 fun w8 _ => of_any w8 rop rfi rti rf rt hr0 hr1, cab, cof, crb, bequal_ob, CallOb.of1 fun w8 _ => may_any w8 op fi ti f t, cof, crb, CallOb.of1 fun w8 _ => probes_any w8 op fi ti f t, cof, CallOb.of1 fun w8 _ => refprobes_any, CallOb.of1 fun w8 _ => itself_any w8 op fi ti f t, cof, CallOb.of1 fun w8 _ => refitself_any, CallOb.of0 fun w8 k => wakes5_any w8 (ha4 w8 k), trivial⟩
    ⟨fun w8 _ => by rw [run_eql_struct, eq_rk]; simp [mEq_self], trivial⟩ ⟨?_, trivial⟩ trivial ?_
  · intro a o w8 ho hty k hr
    have h44 : Rd w8 (a.tmps.getD 44 undef) (bytesR op fi ti f t) := hr _ (List.mem_singleton.2 rfl)
    have h := semOf_run (P := Tryd.prog) (ρ := a.eval) (o := o) (w := w8) (s := Builtin.len_ #[33] 3 #[a.tmps.getD 44 undef]) (v := .int .i64 (bytesR op fi ti f t).length) (by simp [semOf, ho, hty, Act.eval]) (h44.run_len (ty := 3) bt.sl)
    rw [h]
    exact ⟨Keep.refl _ _, rfl⟩
  · intro w5 vs5 k5 hv5
    match vs5, hv5 with
    | [x], hx =>
      obtain rfl : x = .bool true := hx.1
      exact go_ret (gt := fun _ => Option.none) (unroll := true) 60 [] [.tmp 4] (.bool true) [] [] (hW4.later k5) Tryd.results6 (by kernel_rfl) trivial trivial (fun w9 hW9 _ => ⟨rfl, hW9.keep⟩)
end
end Go.Proofs.YtpididcghilbjaaDoor
