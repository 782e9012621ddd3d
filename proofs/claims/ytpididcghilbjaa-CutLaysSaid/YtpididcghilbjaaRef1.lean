/-
  The document's cutter (tollref01): Take, Left, Fail, Number. Condition: its bytes are at most 2^47 - 4096.
-/
import Derived.Test.YtpididcghilbjaaCut
import Derived.Test.YtpididcghilbjaaNumber
import Derived.Deep.RegionLaw
namespace Go.Proofs.Ytpididcghilbjaa
open Go.RowKit

/-- At block p lies the document's cutter of the bytes bs (the slice sv), of which at_ were taken, with the error e. -/
structure Cw (w : World) (p : Nat) (sv : Value) (bs : List UInt8) (at_ : Nat) (e : Int) : Prop where
  c0 : w.cell? ⟨p, 0, none⟩ = some sv
  c1 : w.cell? ⟨p, 1, none⟩ = some (.int .i64 (at_ : Int))
  c2 : w.cell? ⟨p, 2, none⟩ = some (.int .i64 e)
  fz : ∀ o, w.frozen? ⟨p, o, none⟩ = false
  rd : Rd w sv bs
  apart : 0 < bs.length → sv.ownBlock ≠ some p
  le : at_ ≤ bs.length
  big : bs.length ≤ 140737488351232

theorem Rd.keepNe {S : Nat → Prop} {w w' : World} {v : Value} {bs : List UInt8} (h : Rd w v bs) (k : Keep S w w') (hs : 0 < bs.length → ∀ b, v.ownBlock = some b → ¬ S b) : Rd w' v bs :=
  ⟨h.shape, fun i hi => k.cell (h.cell i hi) (hs (by omega) _ (h.block_eq hi))⟩

theorem Rd.blockLt {w : World} {v : Value} {bs : List UInt8} (h : Rd w v bs) (h0 : 0 < bs.length) : ∀ b, v.ownBlock = some b → b < w.heap.size := by
  intro b hb
  rw [h.block_eq h0] at hb
  cases hb
  exact World.block_lt_of_cell? w _ (h.cell 0 h0)
theorem Cw.lt {w : World} {p : Nat} {sv : Value} {bs : List UInt8} {at_ : Nat} {e : Int} (h : Cw w p sv bs at_ e) : p < w.heap.size := World.block_lt_of_cell? w _ h.c0
theorem Cw.keep {S : Nat → Prop} {w w' : World} {p : Nat} {sv : Value} {bs : List UInt8} {at_ : Nat} {e : Int} (h : Cw w p sv bs at_ e) (k : Keep S w w') (hp : ¬ S p) (hs : 0 < bs.length → ∀ b, sv.ownBlock = some b → ¬ S b) : Cw w' p sv bs at_ e where
  c0 := k.cell h.c0 hp
  c1 := k.cell h.c1 hp
  c2 := k.cell h.c2 hp
  fz := fun o => (k.frozen (a := ⟨p, o, none⟩) h.lt hp).trans (h.fz o)
  rd := h.rd.keepNe k hs
  apart := h.apart
  le := h.le
  big := h.big
theorem Cw.keep0 {w w' : World} {p : Nat} {sv : Value} {bs : List UInt8} {at_ : Nat} {e : Int} (h : Cw w p sv bs at_ e) (k : Keep No w w') : Cw w' p sv bs at_ e := h.keep k (fun f => f) (fun _ _ _ f => f)
theorem Cw.setAt {w : World} {p : Nat} {sv : Value} {bs : List UInt8} {at_ : Nat} {e : Int} (h : Cw w p sv bs at_ e) (n : Nat) (hn : n ≤ bs.length) : Cw (w.setCell ⟨p, 1, none⟩ (.int .i64 (n : Int))) p sv bs n e where
  c0 := by rw [World.cell?_setCell_other _ _ _ _ (by simp)]; exact h.c0
  c1 := by rw [World.cell?_setCell_same _ _ _ h.c1]
  c2 := by rw [World.cell?_setCell_other _ _ _ _ (by simp)]; exact h.c2
  fz := fun o => by rw [World.frozen?_setCell]; exact h.fz o
  rd := h.rd.keepNe (Keep.set1 _ _ _ _) (fun h0 b hb hS => h.apart h0 (by rw [hb, show b = p from hS]))
  apart := h.apart
  le := hn
  big := h.big
theorem Cw.setErr {w : World} {p : Nat} {sv : Value} {bs : List UInt8} {at_ : Nat} {e : Int} (h : Cw w p sv bs at_ e) (n : Int) : Cw (w.setCell ⟨p, 2, none⟩ (.int .i64 n)) p sv bs at_ n where
  c0 := by rw [World.cell?_setCell_other _ _ _ _ (by simp)]; exact h.c0
  c1 := by rw [World.cell?_setCell_other _ _ _ _ (by simp)]; exact h.c1
  c2 := by rw [World.cell?_setCell_same _ _ _ h.c2]
  fz := fun o => by rw [World.frozen?_setCell]; exact h.fz o
  rd := h.rd.keepNe (Keep.set1 _ _ _ _) (fun h0 b hb hS => h.apart h0 (by rw [hb, show b = p from hS]))
  apart := h.apart
  le := h.le
  big := h.big
/-- What a call that makes new bytes and works on the document's cutter at p leaves. -/
structure Tow (w : World) (p : Nat) (sv : Value) (bs : List UInt8) (at' : Nat) (e' : Int) (out : List UInt8) (v : Value) (w' : World) : Prop where
  own : Own 5 w' v out
  since : Since w.heap.size v
  cu : Cw w' p sv bs at' e'
  keep : Keep (One p) w w'
theorem Tow.rd {w : World} {p : Nat} {sv : Value} {bs : List UInt8} {at' : Nat} {e' : Int} {out : List UInt8} {v : Value} {w' : World} (h : Tow w p sv bs at' e' out v w') : Rd w' v out := h.own.rd
theorem made1 (w : World) (x : UInt8) : Rd (w.alloc (.cells #[.int .u8 (x.toNat : Int)] 5)) (.slice (some ⟨w.heap.size, 0, none⟩) 1 1) [x] := (Own.made (e := 5) w [x] (by simp [maxLen])).rd
theorem take_drop_snoc {l : List UInt8} {a k : Nat} (h : a + k < l.length) : (l.drop a).take (k + 1) = (l.drop a).take k ++ [byteAt l (a + k)] := by
  rw [take_snoc (by simp; omega)]
  simp [byteAt, List.getElem?_drop]

section
variable {w : World} {p : Nat} {sv : Value} {bs : List UInt8} {at_ : Nat} {e : Int}

set_option maxHeartbeats 400000 in
theorem wleft_any (h : Cw w p sv bs at_ e) :
    Calls Try.prog 27 #[.pointer (some ⟨p, 0, Option.none⟩)] w fun x w' => x = .returned (.int .i64 (leftR bs at_ e : Nat)) ∧ ∃ n, w' = w.drewN n := by
  have hle := h.le
  have hbig := h.big
  have h2 := h.c2
  by_cases he : e = 0
  · have hb : (e != 0) = false := by simp [he]
    have h0 := h.c0
    have h1 := h.c1
    have hlen : ∀ wx, (Builtin.len_ #[22] 3 #[sv]).run Try.prog wx = .ok (.int .i64 (bs.length : Int)) wx := fun wx => h.rd.run_len bt.sl
    have HE := Lib.hid he
    clear he
    go_enter Try.func27, Try.ntmps27
    go_wp2
    go_quiet (fail)
    go_wp2
    go_ret
    refine ⟨?_, _, rfl⟩
    rw [leftR, if_pos HE.out, Int.ofNat_sub hle]; rfl
  · have hb : (e != 0) = true := by simp [he]
    go_enter Try.func27, Try.ntmps27
    go_wp2
    go_ret
    exact ⟨by rw [leftR, if_neg he]; rfl, 0, rfl⟩

set_option maxHeartbeats 400000 in
theorem wfail_any (h : Cw w p sv bs at_ e) (n : Int) :
    Calls Try.prog 28 #[.pointer (some ⟨p, 0, Option.none⟩), .int .i64 n] w fun x w' => x = .returned (.tuple #[]) ∧ Cw w' p sv bs at_ (failR e n) ∧ Keep (One p) w w' := by
  have h2 := h.c2
  have hf := h.fz 2
  by_cases he : e = 0
  · subst he
    go_enter Try.func28, Try.ntmps28
    go_wp2
    go_end0
    exact ⟨rfl, h.setErr n, Keep.set1 _ _ _ _⟩
  · have hb : (e == 0) = false := by simp [he]
    go_enter Try.func28, Try.ntmps28
    go_wp2
    go_end0
    refine ⟨rfl, ?_, Keep.refl _ _⟩
    rw [failR, if_neg he]; exact h

set_option maxHeartbeats 1000000 in
theorem wtake_any (h : Cw w p sv bs at_ e) (n : Int) :
    Calls Try.prog 26 #[.pointer (some ⟨p, 0, Option.none⟩), .int .i64 n] w fun x w' => ∃ v, x = .returned v ∧ Tow w p sv bs (takeA bs at_ e n) (takeE bs at_ e n) (takeB bs at_ e n) v w' := by
  have hle := h.le
  have hbig := h.big
  have h0 := h.c0
  have h1 := h.c1
  have h2 := h.c2
  have hf := h.fz 2
  have hlen : ∀ wx, (Builtin.len_ #[22] 3 #[sv]).run Try.prog wx = .ok (.int .i64 (bs.length : Int)) wx := fun wx => h.rd.run_len bt.sl
  by_cases he : e = 0
  · subst he
    by_cases hneg : n < 0
    · have e1 : takeA bs at_ 0 n = at_ := if_neg (by omega)
      have e2 : takeE bs at_ 0 n = 1 := by rw [takeE, if_pos rfl, if_pos hneg]
      have e3 : takeB bs at_ 0 n = [] := if_neg (by omega)
      rw [e1, e2, e3]
      clear e1 e2 e3
      go_enter Try.func26, Try.ntmps26
      go_wp2
      go_ret
      exact ⟨_, rfl, Own.nil _ _, by intro b hb; simp [Value.ownBlock] at hb, h.setErr 1, Keep.set1 _ _ _ _⟩
    · by_cases hb : (bs.length : Int) - (at_ : Int) < n
      · have e1 : takeA bs at_ 0 n = at_ := if_neg (by omega)
        have e2 : takeE bs at_ 0 n = 4 := by rw [takeE, if_pos rfl, if_neg hneg, if_pos (by omega)]
        have e3 : takeB bs at_ 0 n = [] := if_neg (by omega)
        rw [e1, e2, e3]
        clear e1 e2 e3
        go_enter Try.func26, Try.ntmps26
        go_wp2
        go_quiet (fail)
        go_wp2
        go_ret
        exact ⟨_, rfl, Own.nil _ _, by intro b hb; simp [Value.ownBlock] at hb, (h.keep0 ((Keep.refl _ _).drewN _)).setErr 4, ((Keep.refl _ _).drewN _).trans (Keep.set1 _ _ _ _)⟩
      · obtain ⟨m, rfl⟩ := Int.eq_ofNat_of_zero_le (show 0 ≤ n by omega)
        have hm : at_ + m ≤ bs.length := by omega
        have e1 : takeA bs at_ 0 (m : Int) = at_ + m := by rw [takeA, if_pos (by omega)]; simp
        have e2 : takeE bs at_ 0 (m : Int) = 0 := by rw [takeE, if_pos rfl, if_neg (by omega), if_neg (by omega)]
        have e3 : takeB bs at_ 0 (m : Int) = (bs.drop at_).take m := by rw [takeB, if_pos (by omega)]; simp
        rw [e1, e2, e3]
        clear e1 e2 e3
        go_enter Try.func26, Try.ntmps26
        go_wp2
        go_quiet (fail)
        go_wp2
        have hq := h.keep0 ((Keep.refl _ _).drewN nq)
        have kq : Keep (One p) w (w.drewN nq) := (Keep.refl _ _).drewN nq
        clear h0 h1 h2 hf
        generalize w.drewN nq = W at *
        go_loopw [5, 6] (fun v i wr => ∃ k : Nat, k ≤ m ∧ i = .int .i64 k ∧ Own 5 wr v ((bs.drop at_).take k) ∧ Since w.heap.size v ∧ Cw wr p sv bs (at_ + k) 0 ∧ Keep (One p) w wr) (fun _ i _ => m - (intOf i).toNat)
        case atStart => exact ⟨0, Nat.zero_le _, rfl, by simpa using Own.nil _ _, by intro b hb; simp [Value.ownBlock] at hb, hq, kq⟩
        case round =>
          obtain ⟨k, hk, rfl, hown, hsin, hcw, hkp⟩ := hrel
          by_cases hlt : k < m
          · have g0 := hcw.c0
            have g1 : wr.cell? ⟨p, 1, Option.none⟩ = some (.int .i64 ((at_ : Int) + (k : Int))) := by have := hcw.c1; simpa using this
            have hat : ∀ wx, (Instr.indexAt 22 sv (.int .i64 ((at_ : Int) + (k : Int)))).run Try.prog wx = .ok (.pointer (some ⟨blk sv, offs sv + (at_ + k), Option.none⟩)) wx := fun wx => by
              have := hcw.rd.run_at (P := Try.prog) (w' := wx) bt.sl bsize (k := .i64) (i := ((at_ + k : Nat) : Int)) (by omega) (by omega)
              rw [Int.toNat_natCast] at this
              simpa using this
            have hcell := hcw.rd.cell (at_ + k) (by omega)
            have hsn := take_drop_snoc (l := bs) (a := at_) (k := k) (by omega)
            have HSN := Lib.hid hsn
            clear hsn
            have r1 := made1 wr (byteAt bs (at_ + k))
            go_wp2
            go_region_law (refine step_append_b (v := u5) (sv := .slice (some ⟨wr.heap.size, 0, Option.none⟩) 1 1) rfl _ _ bt rfl rfl (hown.keep ((Keep.refl No wr).alloc _).drew (fun _ _ f => f)) rfl (r1.keep0 (Keep.refl _ _).drew) (by simp; omega) ?_; intro v' wy hown2 hkeep2 hblk hnn)
            all_goals
              have ky : Keep (fun j => u5.ownBlock = some j) wr wy := (((Keep.refl _ wr).alloc (.cells #[.int .u8 ((byteAt bs (at_ + k)).toNat : Int)] 5)).drew).trans' hkeep2 (fun _ _ e => e)
              have hcw2 := hcw.keep ky (fun e => by have := hsin p e; have := h.lt; omega) (fun h0 b hb e => by have := hsin b e; have := h.rd.blockLt h0 b hb; omega)
              have g0 := hcw2.c0
              have g1 : wy.cell? ⟨p, 1, Option.none⟩ = some (.int .i64 ((at_ : Int) + (k : Int))) := by have := hcw2.c1; simpa using this
              have g3 := hcw2.fz 1
              clear hcell hat
              go_wp2
              go_roundw
              case rel =>
                refine ⟨k + 1, by omega, by go_num, ?_, ?_, ?_, ?_⟩
                · rw [HSN.out]
                  have ks : Keep (One p) wy (wy.setCell ⟨p, 1, Option.none⟩ (.int .i64 ((at_ : Int) + (k : Int) + 1))) := Keep.set1 _ _ _ _
                  refine hown2.keep ks (fun b hb (e : b = p) => ?_)
                  have h3 : w.heap.size ≤ b := by
                    rcases hblk with e2 | e2
                    · rw [e2] at hb; exact hsin b hb
                    · rw [e2] at hb; simp at hb; have := hkp.size; omega
                  have := h.lt
                  omega
                · intro b hb
                  rcases hblk with e2 | e2
                  · rw [e2] at hb; exact hsin b hb
                  · rw [e2] at hb; simp at hb; have := hkp.size; omega
                · have := hcw2.setAt (at_ + k + 1) (by omega)
                  simpa [Nat.add_assoc, Int.add_assoc] using this
                · exact (hkp.trans' ky (fun i hi e => by have := hsin i e; omega)).trans (Keep.set1 _ _ _ _)
              case measure => simp [intOf]; omega
          · have hke : k = m := by omega
            subst hke
            go_wp2
            go_ret
            exact ⟨_, rfl, hown, hsin, hcw, hkp⟩
  · have hb : (e != 0) = true := by simp [he]
    have e1 : takeA bs at_ e n = at_ := if_neg (by simp [he])
    have e2 : takeE bs at_ e n = e := if_neg he
    have e3 : takeB bs at_ e n = [] := if_neg (by simp [he])
    rw [e1, e2, e3]
    clear e1 e2 e3 he
    go_enter Try.func26, Try.ntmps26
    go_wp2
    go_ret
    exact ⟨_, rfl, Own.nil _ _, by intro b hb; simp [Value.ownBlock] at hb, h, Keep.refl _ _⟩
end
end Go.Proofs.Ytpididcghilbjaa
