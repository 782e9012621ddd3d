/-
  tolllaw03's wakes. Condition: the kinds are as they were laid.
-/
import Derived.Test.YtcimfojbggckhaaDoorTagPush
import Derived.Test.YtcimfojbggckhaaDoorTagRead
namespace Go.Proofs.YtcimfojbggckhaaDoor
open Go.RowKit

def wkB : List UInt8 := [136, 168, 0, 5, 129, 0, 0, 7, 129, 0]
def wkT : Tg := ⟨33024, 5, true, 100⟩
def wkL : List Tg := [⟨34984, 0, false, 5⟩, ⟨33024, 0, false, 7⟩]
theorem wk_read : readT 3 [] wkB = (wkL, [129, 0], 0) := by kernel_rfl
theorem wk_bytes : bytesB [wkT] = [129, 0, 176, 100] := by kernel_rfl
theorem wk_push : pushR [⟨34984, 0, false, 1⟩] ⟨34984, 0, false, 2⟩ = ([], 1) := by kernel_rfl
section
variable {w : World} {v : Value} {l : List Tg}
theorem Rt.sem_ldv (r : Rt w v l) {i : Nat} (hi : i < l.length) : (Instr.loadAt 55 (.pointer (some ⟨blk v, offs v + i * 4 + 3, none⟩))).run Tryd.prog w = .ok (.int .u16 ((l[i]).v : Nat)) w := by
  obtain ⟨u, h1, h2⟩ := r.cellAt hi (j := 3) (by omega)
  have hu : u = .int .u16 ((l[i]).v : Nat) := by simpa [tgA] using h1.symm
  subst hu
  have hu := run_underlying (P := Tryd.prog) (w := w) Tryd.underlying55
  simp [Instr.loadAt, Instr.sureAddr, loadVar, isAgg, hu, load, Sem.run, h2]
end
noncomputable abbrev wkC : Code := bodyOf Tryd.f34
set_option maxRecDepth 4000 in
theorem wakes3_any (w : World) (hk : Kh w) : Calls Tryd.prog 34 #[] w fun x w' => x = .returned (.bool true) ∧ Keep No w w' := by
  refine enter (args := []) Tryd.func34 (by kernel_rfl) ?_
  refine go_call_is (gt := fun _ => Option.none) (unroll := true) 60 [] 32 [.slice (some ⟨w.heap.size + 1, 0, none⟩) 10 10] [1] [.pointer (some ⟨w.heap.size, 0, none⟩)] 10 [⟨w.heap.size, wkT.a.toList, true⟩, ⟨w.heap.size + 1, bvs wkB, true⟩] [(1, 0)] (inR wkC 2 1) [] [] (Wst.start0 w) (by kernel_rfl) trivial trivial ?_
  intro w1 hW1 _
  have rb : Rd w1 (.slice (some ⟨w.heap.size + 1, 0, none⟩) 10 10) wkB := Rd.of_row (b := w.heap.size + 1) (off := 0) (ow := true) (cs := bvs wkB) hW1 (by simp) 10 rfl (by decide) (fun i hi => by rw [Nat.zero_add]; exact bvs_get hi)
  refine (read_any rb (by decide) (hk.keep0 hW1.keep)).mono ?_
  rintro x w2 ⟨vl, u, rfl, rr⟩
  rw [wk_read]
  refine ⟨_, rfl, ?_⟩
  have hW2 := (hW1.fewer (rows := [⟨w.heap.size, wkT.a.toList, true⟩]) (more := [⟨w.heap.size + 1, bvs wkB, true⟩])).later rr.keep
  have rt2 : Rt w2 vl wkL := by have := rr.rt; rwa [wk_read] at this
  have rd2 : Rd w2 u [129, 0] := by have := rr.rd; rwa [wk_read] at this
  have lv := rr.lv
  have sv := rr.sv
  have lu := rr.lu
  have su := rr.su
  have h01 : w.heap.size < w1.heap.size := by
    obtain ⟨t', ht⟩ := hW1.rows ⟨w.heap.size, wkT.a.toList, true⟩ (by simp)
    exact block_of_row ht
  clear rr
  refine Goal.re (tags := tagL [(1, 0)]) (m := ⟨[⟨w.heap.size, wkT.a.toList, true⟩], w2.heap.size⟩) ?_
  refine go_call_is (gt := fun _ => Option.none) (unroll := true) 60 [] 26 [.slice (some ⟨w2.heap.size, 0, none⟩) 1 1, .agg (Tg.mk 34984 0 false 2).a] [1, 2, 3, 4] [.pointer (some ⟨w.heap.size, 0, none⟩), vl, u, .int .i64 0] 18
    [⟨w.heap.size, wkT.a.toList, true⟩, ⟨w2.heap.size, (Tg.mk 34984 0 false 1).a.toList, true⟩] [(1, 0)] (inR wkC 3 3) [] [] hW2 (by kernel_rfl) trivial trivial ?_
  intro w3 hW3 hS3
  have ap2 : ∀ {z : Value}, Since w1.heap.size z → ∀ b, z.ownBlock = some b → ∀ q ∈ ([⟨w.heap.size, wkT.a.toList, true⟩] : List RowS), q.b ≠ b := fun hs b hb q hq => by
    obtain rfl := List.mem_singleton.1 hq
    have := hs b hb
    show w.heap.size ≠ b
    omega
  obtain ⟨rt3, lv3⟩ := rt2.pass lv (ap2 sv) hS3 hW3
  have rd3 : Rd w3 u [129, 0] := rd2.safe (fun b hb => ⟨lu b hb, fun q hq _ => ap2 su b hb q hq⟩) hS3.same
  have lu3 : Under w3.heap.size u := lu.mono (by have := hS3.le; rw [← hW3.size] at this; exact this)
  obtain ⟨tt, hrow⟩ := hW3.rows ⟨w2.heap.size, (Tg.mk 34984 0 false 1).a.toList, true⟩ (by simp)
  refine (push_any (l := [⟨34984, 0, false, 1⟩]) (Rt.of_row (l := [⟨34984, 0, false, 1⟩]) hrow (by simp [csT]) (by simp [maxLen])) (by simp) ⟨34984, 0, false, 2⟩ (hk.keep0 hW3.keep)).mono ?_
  rintro x w4 ⟨pv, rfl, fp⟩
  rw [wk_push]
  refine ⟨_, rfl, ?_⟩
  have hW4 := (hW3.fewer (rows := [⟨w.heap.size, wkT.a.toList, true⟩]) (more := [⟨w2.heap.size, (Tg.mk 34984 0 false 1).a.toList, true⟩])).later fp.keep
  have rt4 := rt3.keep0 fp.keep
  have rd4 := rd3.keep0 fp.keep
  have lv4 := lv3.mono fp.keep.size
  have lu4 := lu3.mono fp.keep.size
  refine Goal.re (tags := tagL [(1, 0)]) (m := ⟨[⟨w.heap.size, wkT.a.toList, true⟩], w4.heap.size⟩) ?_
  refine go_call_is (gt := fun _ => Option.none) (unroll := true) 60 [] 28 [.agg wkT.a] [2, 3, 4, 6] [vl, u, .int .i64 0, .int .i64 1] 22 [⟨w.heap.size, wkT.a.toList, true⟩] [] (inR wkC 4 1) [] [] hW4 (by kernel_rfl) trivial trivial ?_
  intro w5 hW5 hS5
  obtain ⟨rt5, lv5⟩ := rt4.pass lv4 (ap2 sv) hS5 hW5
  have rd5 : Rd w5 u [129, 0] := rd4.safe (fun b hb => ⟨lu4 b hb, fun q hq _ => ap2 su b hb q hq⟩) hS5.same
  have lu5 : Under w5.heap.size u := lu4.mono (by have := hS5.le; rw [← hW5.size] at this; exact this)
  refine (tbytes_any wkT (hk.keep0 hW5.keep)).mono ?_
  rintro x w6 ⟨tb, rfl, ft⟩
  refine ⟨_, rfl, ?_⟩
  have hW6 := hW5.later ft.keep
  have rt6 := rt5.keep0 ft.keep
  have rd6 := rd5.keep0 ft.keep
  have lv6 := lv5.mono ft.keep.size
  have lu6 := lu5.mono ft.keep.size
  have h06 : w.heap.size < w5.heap.size := by
    obtain ⟨t', ht⟩ := hW5.rows ⟨w.heap.size, wkT.a.toList, true⟩ (by simp)
    exact block_of_row ht
  refine go_call_is (gt := fun _ => Option.none) (unroll := true) 60 [] 33 [tb, .slice (some ⟨w6.heap.size, 0, none⟩) 4 4] [2, 3, 4, 6] [vl, u, .int .i64 0, .int .i64 1] 24 [⟨w.heap.size, wkT.a.toList, true⟩, ⟨w6.heap.size, bvs [129, 0, 176, 100], true⟩] [] (inR wkC 4 3) [] [] hW6 (by kernel_rfl) trivial trivial ?_
  intro w7 hW7 hS7
  obtain ⟨rt7, lv7⟩ := rt6.pass lv6 (ap2 sv) hS7 hW7
  have rd7 : Rd w7 u [129, 0] := rd6.safe (fun b hb => ⟨lu6 b hb, fun q hq _ => ap2 su b hb q hq⟩) hS7.same
  have lu7 : Under w7.heap.size u := lu6.mono (by have := hS7.le; rw [← hW7.size] at this; exact this)
  have rtb : Rd w7 tb [129, 0, 176, 100] := by
    have h := ft.own
    rw [wk_bytes] at h
    exact h.rd.safe (fun b hb => ⟨h.lt b hb, fun q hq _ => by
      obtain rfl := List.mem_singleton.1 hq
      have := ft.since b hb
      show w.heap.size ≠ b
      omega⟩) hS7.same
  have rq : Rd w7 (.slice (some ⟨w6.heap.size, 0, none⟩) 4 4) [129, 0, 176, 100] := Rd.of_row (b := w6.heap.size) (off := 0) (ow := true) (cs := bvs [129, 0, 176, 100]) hW7 (by simp) 4 rfl (by decide) (fun i hi => by rw [Nat.zero_add]; exact bvs_get hi)
  refine (bequal_any rtb rq).mono ?_
  rintro x w8 ⟨rfl, rfl⟩
  refine ⟨_, rfl, ?_⟩
  simp only [BEq.rfl]
  have hq2 : ∀ {z : Value}, Since w1.heap.size z → Under w6.heap.size z → ∀ b, z.ownBlock = some b → ∀ q ∈ ([⟨w.heap.size, wkT.a.toList, true⟩, ⟨w6.heap.size, bvs [129, 0, 176, 100], true⟩] : List RowS), q.b ≠ b := fun hs hl b hb q hq => by
    have h1 := hs b hb
    have h2 := hl b hb
    rcases List.mem_cons.1 hq with rfl | hq
    · show w.heap.size ≠ b; omega
    · obtain rfl := List.mem_singleton.1 hq
      show w6.heap.size ≠ b; omega
  have hrx : ∀ wx, (∀ k, Safe ⟨[⟨w.heap.size, wkT.a.toList, true⟩, ⟨w6.heap.size, bvs [129, 0, 176, 100], true⟩], w7.heap.size⟩ k → wx.heap[k]? = w7.heap[k]?) → Rt wx vl wkL := fun wx hx => rt7.same fun b hb _ => hx b ⟨lv7 b hb, fun q hq _ => hq2 sv lv6 b hb q hq⟩
  refine go_call_is (gt := fun _ => Option.none) (unroll := true) 100 [(4, 10, .sem (.int .i64 2)), (4, 15, .sem (.pointer (some (adt vl 0)))), (4, 17, .sem (.int .u16 5)), (4, 22, .sem (.pointer (some (adt vl 1)))), (4, 24, .sem (.int .u16 7))] 33 [u, .slice (some ⟨w7.heap.size, 0, none⟩) 2 2] [6, 48] [.int .i64 1, .bool true] 51
    [⟨w.heap.size, wkT.a.toList, true⟩, ⟨w6.heap.size, bvs [129, 0, 176, 100], true⟩, ⟨w7.heap.size, bvs [129, 0], true⟩] [] (inR wkC 4 30) []
    [(Builtin.len_ #[24] 3 #[vl], .int .i64 2), (Instr.indexAt 24 vl (.int .i64 0), .pointer (some (adt vl 0))), (Instr.loadAt 55 (.pointer (some ⟨blk vl, offs vl + 0 * 4 + 3, none⟩)), .int .u16 5), (Instr.indexAt 24 vl (.int .i64 1), .pointer (some (adt vl 1))), (Instr.loadAt 55 (.pointer (some ⟨blk vl, offs vl + 1 * 4 + 3, none⟩)), .int .u16 7)]
    hW7 (by kernel_rfl) trivial ⟨fun wx _ => rt7.sem_len ett (ty := 3) wx, fun wx _ => rt7.sem_at ett (i := 0) (by decide) wx, fun wx hx => ?_, fun wx _ => rt7.sem_at ett (i := 1) (by decide) wx, fun wx hx => ?_, trivial⟩ ?_
  · exact (hrx wx hx).sem_ldv (i := 0) (by decide)
  · exact (hrx wx hx).sem_ldv (i := 1) (by decide)
  intro w9 hW9 hS9
  have rd9 : Rd w9 u [129, 0] := rd7.safe (fun b hb => ⟨lu7 b hb, fun q hq _ => hq2 su lu6 b hb q hq⟩) hS9.same
  have rq9 : Rd w9 (.slice (some ⟨w7.heap.size, 0, none⟩) 2 2) [129, 0] := Rd.of_row (b := w7.heap.size) (off := 0) (ow := true) (cs := bvs [129, 0]) hW9 (by simp) 2 rfl (by decide) (fun i hi => by rw [Nat.zero_add]; exact bvs_get hi)
  refine (bequal_any rd9 rq9).mono ?_
  rintro x wa ⟨rfl, rfl⟩
  refine ⟨_, rfl, ?_⟩
  simp only [BEq.rfl]
  exact go_ret (gt := fun _ => Option.none) (unroll := true) 60 [] [.tmp 0] (.bool true) [] [] hW9 Tryd.results34 (by kernel_rfl) trivial trivial (fun w9 hW9 _ => ⟨rfl, hW9.keep⟩)
end Go.Proofs.YtcimfojbggckhaaDoor
