/-
  Helpers for walks: bytes in rows, rows forgotten, calls owed. No condition.
-/
import Derived.Test.YtpididcghilbjaaRowD
import Derived.Test.YtpididcghilbjaaBytes
import Derived.IntWalk
namespace Go.Proofs.Ytpididcghilbjaa
open Go.RowKit
section
variable {w : World} {v : Value} {bs : List UInt8}
theorem Rd.sem_at (r : Rd w v bs) {i : Nat} (hi : i < bs.length) (wx : World) : (Instr.indexAt 22 v (.int .i64 (i : Int))).run Try.prog wx = .ok (.pointer (some (adr v i))) wx := by
  have := r.run_at (P := Try.prog) (w' := wx) bt.sl bsize (k := .i64) (i := (i : Int)) (by omega) (by omega)
  simpa using this
theorem Rd.sem_ld (r : Rd w v bs) {i : Nat} (hi : i < bs.length) : (Instr.loadAt 5 (.pointer (some (adr v i)))).run Try.prog w = .ok (bv (byteAt bs i)) w := by
  have hc := r.cell i hi
  have hu := run_underlying (P := Try.prog) (w := w) Try.underlying5
  simp [Instr.loadAt, Instr.sureAddr, loadVar, isAgg, hu, load, Sem.run, hc]

theorem Rd.sem_cutH (r : Rd w v bs) {k : Nat} (h : k ≤ bs.length) (wx : World) : (Instr.sliceAt 22 v Option.none (some (.int .i64 (k : Int))) Option.none).run Try.prog wx = .ok (cutv v 0 k) wx := by
  have := r.run_cutH (P := Try.prog) (w' := wx) bt.sl bsize (k' := .i64) (h := (k : Int)) (by omega) (by omega)
  unfold Instr.sliceAt
  simp only [Sem.run_bind, run_underlying (P := Try.prog) Try.underlying22, Result.andThen_ok]
  simpa using this

theorem Rd.sem_cutL (r : Rd w v bs) {k : Nat} (h : k ≤ bs.length) (wx : World) : (Instr.sliceAt 22 v (some (.int .i64 (k : Int))) Option.none Option.none).run Try.prog wx = .ok (cutv v k bs.length) wx := by
  have := r.run_cutL (P := Try.prog) (w' := wx) bt.sl bsize (k := .i64) (l := (k : Int)) (by omega) (by omega)
  unfold Instr.sliceAt
  simp only [Sem.run_bind, run_underlying (P := Try.prog) Try.underlying22, Result.andThen_ok]
  simpa using this

end
theorem Rd.sem_cut {w : World} {v : Value} {bs : List UInt8} (r : Rd w v bs) {k h : Nat} (h1 : k ≤ h) (h2 : h ≤ bs.length) (wx : World) : (Instr.sliceAt 22 v (some (.int .i64 (k : Int))) (some (.int .i64 (h : Int))) Option.none).run Try.prog wx = .ok (cutv v k h) wx := by
  obtain ⟨ao, cap, rfl, hc, _⟩ := r.shape
  simp [Instr.sliceAt, Instr.slice, run_underlying bt.sl, Instr.sliceBounds, run_bound k h h1, run_bound h cap (by omega), size_of bsize, cutv]
theorem Own.same {e : TypeId} {w w' : World} {v : Value} {bs : List UInt8} (h : Own e w v bs) (hs : ∀ b, v.ownBlock = some b → w'.heap[b]? = w.heap[b]?) : Own e w' v bs := by
  obtain ⟨hl, h⟩ := h
  refine ⟨hl, ?_⟩
  rcases h with h | ⟨g, cap, cur, rfl, hb, hg, r⟩
  · exact .inl h
  · exact .inr ⟨g, cap, cur, rfl, hb, (hs g rfl).trans hg, r⟩
theorem by_assign {P : Program} {S0 : Nat → Prop} {w0 : World} {t : Tmp} {ty : TypeId} {s : Sm} : ByM P S0 w0 (.assign (.tmp t)) ty [(t, s)] s := by
  intro a o g w ho hty k hb hr
  have h := hr (t, s) (by simp)
  unfold execOp
  rw [ho]
  exact ⟨Keep.refl _ _, h⟩
theorem Rd.of_row {W0 w : World} {m : Mem} (hW : Wst W0 m w) {b off : Nat} {cs : List Value} {ow : Bool} (hr : ⟨b, cs, ow⟩ ∈ m.rows) {bs : List UInt8} (n : Nat) (hl : bs.length = n) (hn : n ≤ maxLen) (hc : ∀ i, i < bs.length → cs[off + i]? = some (bv (byteAt bs i))) : Rd w (.slice (some ⟨b, off, none⟩) n n) bs := by
  subst hl
  obtain ⟨t, ht⟩ := hW.rows _ hr
  refine ⟨⟨_, bs.length, rfl, Nat.le_refl _, hn, by simp, fun _ => ⟨_, _, rfl⟩⟩, fun i hi => ?_⟩
  simp only [blk, offs, World.cell?, ht]
  simpa using hc i hi
theorem Own.walk {e : TypeId} {W0 w w' : World} {rows : List RowS} {m' : Mem} {v : Value} {bs : List UInt8} (h : Own e w v bs) (hl : Loose W0 ⟨rows, w.heap.size⟩ (fun k => v.ownBlock = some k)) (hS : Seg ⟨rows, w.heap.size⟩ w m' w') (ho : ∀ r ∈ m'.rows, r.own = true) :
    Own e w' v bs ∧ Loose W0 m' (fun k => v.ownBlock = some k) := by
  have hs : ∀ b, v.ownBlock = some b → Safe ⟨rows, w.heap.size⟩ b := fun b hb => ⟨h.lt b hb, fun r hr _ => (hl b hb).2 r hr⟩
  exact ⟨h.same fun b hb => hS.same b (hs b hb), fun k hk => ⟨(hl k hk).1, fun r hr => (hS.safe k (hs k hk)).2 r hr (ho r hr)⟩⟩
theorem loose_nil {W0 : World} {m : Mem} : Loose W0 m (fun k => (Value.slice Option.none 0 0).ownBlock = some k) := fun k hk => by cases hk

theorem quo_nat (a b : Nat) : Int.tdiv (a : Int) (b : Int) = ((a / b : Nat) : Int) := by
  rw [Int.tdiv_eq_ediv_of_nonneg (by omega)]; rfl
theorem rem_nat (a b : Nat) : Int.tmod (a : Int) (b : Int) = ((a % b : Nat) : Int) := by
  rw [Int.tmod_eq_emod_of_nonneg (by omega)]; rfl

theorem Rd.of_rowc {W0 w : World} {m : Mem} (hW : Wst W0 m w) {b cap : Nat} {rest : List Value} {ow : Bool} {bs : List UInt8} (hr : ⟨b, bvs bs ++ rest, ow⟩ ∈ m.rows) (n : Nat) (hl : bs.length = n) (hc : n ≤ cap) (hn : cap ≤ maxLen) : Rd w (.slice (some ⟨b, 0, none⟩) n cap) bs := by
  subst hl
  obtain ⟨t, ht⟩ := hW.rows _ hr
  refine ⟨⟨_, cap, rfl, hc, hn, by simp, fun _ => ⟨_, _, rfl⟩⟩, fun i hi => ?_⟩
  simp only [blk, offs, Nat.zero_add, World.cell?, ht]
  have hi' : i < (bvs bs).length := by rw [bvs_length]; exact hi
  have := bvs_get hi
  simpa [List.getElem?_append_left hi'] using this
theorem Own.row {e : TypeId} {w : World} {v : Value} {bs : List UInt8} (h : Own e w v bs) (hb : bs.length ≠ 0) :
    ∃ g cap rest, v = .slice (some ⟨g, 0, none⟩) bs.length cap ∧ w.heap[g]? = some (.cells (bvs bs ++ rest).toArray e (0, 0)) ∧ bs.length ≤ cap ∧ cap ≤ maxLen := by
  obtain ⟨_, h⟩ := h
  rcases h with ⟨_, h0⟩ | ⟨g, cap, cur, rfl, _, hg, hc, hm, _, ht⟩
  · exact absurd h0 hb
  · refine ⟨g, cap, cur.toList.drop (bs.length * 1), rfl, ?_, hc, hm⟩
    rw [← ht, List.take_append_drop]
    simpa using hg
theorem Wst.fewer {W0 w : World} {rows more : List RowS} {nx : Nat} (h : Wst W0 ⟨rows ++ more, nx⟩ w) : Wst W0 ⟨rows, nx⟩ w := by
  refine ⟨h.size, fun r hr => h.rows r (List.mem_append.2 (.inl hr)), ?_, fun r hr => h.own r (List.mem_append.2 (.inl hr)), h.keep⟩
  have := h.one
  simp only [List.map_append] at this
  exact (List.nodup_append.1 this).1

theorem Keep.same {S : Nat → Prop} {w w' : World} (h : w = w') : Keep S w w' := h ▸ Keep.refl _ _
theorem CallOb.rd1 {P : Program} {w0 : World} {f : FuncId} {a : Value} {bs : List UInt8} (h : ∀ w, Keep No w0 w → Calls P f #[a] w fun e w' => ∃ v, e = .returned v ∧ Keep No w w' ∧ Rd w' v bs) : CallOb P w0 f [.is a] (rdS bs) := by
  rintro w vals k ha
  match vals, ha with
  | [x], hx => obtain rfl : x = a := hx.1; exact h w k
theorem bequal_ob {w0 : World} {xs : List UInt8} : CallOb Try.prog w0 25 [rdS xs, rdS xs] (.is (.bool true)) := by
  rintro w vals k ha
  match vals, ha with
  | [x, y], hx => exact (bequal_any hx.1 hx.2.1).mono fun e w' ⟨h1, h2⟩ => ⟨_, h1, h2 ▸ Keep.refl _ _, by simp [Sv.ok]⟩
abbrev bn (bs : List UInt8) (i : Nat) : Int := ((byteAt bs i).toNat : Int)
theorem bn_lt (bs : List UInt8) (i : Nat) : 0 ≤ bn bs i ∧ bn bs i < 256 := by have := byteAt_lt bs i; show (0 : Int) ≤ ((byteAt bs i).toNat : Int) ∧ ((byteAt bs i).toNat : Int) < 256; omega
theorem i64_small {x : Int} (h0 : 0 ≤ x) (h1 : x < 4294967296) : IntKind.i64.wrap x = x := IntWalk.i64_in _ (by omega)
/-- A loop whose heads are not numbered: they get smaller by a measure. -/
theorem loop_okT {P : Program} {Q : Exit → Act → World → Prop} {n : Nat} {ι : Type} {x : Code} {k : List K} (μ : ι → Nat) (L : ι → World → Cfg) (J : ι → World → Prop) (hL : ∀ i w, (L i w).todo = .code (.loop x) :: k)
    (round : ∀ i w, J i w → Goal P Q n { L i w with todo := .code x :: .inv (fun a' w' => ∃ j, μ j < μ i ∧ J j w' ∧ agrees n (L j w') a') :: k } w) (i0 : ι) (w : World) (h0 : J i0 w) : Goal P Q n (L i0 w) w := by
  intro a hd hn ha
  rw [hL i0]
  show (Code.loop x).wp P (KX P Q k) a w
  have hex : ∀ (S : Nat → Prop), (∃ i, S i) → ∃ i, S i ∧ ∀ j, S j → i ≤ j := by
    intro S ⟨i, hi⟩
    induction i using Nat.strongRecOn with
    | _ i ih =>
      by_cases hm : ∃ j, j < i ∧ S j
      · obtain ⟨j, hj, hs⟩ := hm; exact ih j hj hs
      · exact ⟨i, hi, fun j hj => Nat.le_of_not_lt fun hlt => hm ⟨j, hlt, hj⟩⟩
  let S (a : Act) (w : World) (m : Nat) : Prop := ∃ i, μ i = m ∧ J i w ∧ agrees n (L i w) a
  let ν (a : Act) (w : World) : Nat := open Classical in if h : ∃ m, S a w m then Classical.choose (hex _ h) else 0
  have hν : ∀ a w, (∃ m, S a w m) → S a w (ν a w) ∧ ∀ j, S a w j → ν a w ≤ j := fun a w h => by
    have := Classical.choose_spec (hex _ h)
    have e : ν a w = Classical.choose (hex _ h) := dif_pos h
    rw [e]; exact this
  refine wp_loop (fun a w => ∃ m, S a w m) ν ⟨μ i0, i0, rfl, h0, hd, hn, ha⟩ fun a w hI => ?_
  obtain ⟨⟨i, hi, hJ, hag⟩, _⟩ := hν a w hI
  have := round i w hJ a hag.1 hag.2.1 hag.2.2
  refine Code.wp_mono ?_ this
  intro e a' w' hq
  cases e with
  | normal =>
    obtain ⟨j, hj, hJj, hagj⟩ := hq
    have hS : S a' w' (μ j) := ⟨j, rfl, hJj, hagj⟩
    exact ⟨⟨μ j, hS⟩, Nat.lt_of_le_of_lt ((hν a' w' ⟨μ j, hS⟩).2 _ hS) (hi ▸ hj)⟩
  | _ => exact hq

def Apart (rows : List RowS) (v : Value) : Prop := ∀ b, v.ownBlock = some b → ∀ r ∈ rows, r.b ≠ b
theorem apart_safe {rows : List RowS} {w' : World} {v : Value} {bs : List UInt8} (hap : Apart rows v) (ho : Own 5 w' v bs) : ∀ b, v.ownBlock = some b → Safe ⟨rows, w'.heap.size⟩ b := fun b hb => ⟨ho.lt b hb, fun r hr _ => hap b hb r hr⟩
end Go.Proofs.Ytpididcghilbjaa
