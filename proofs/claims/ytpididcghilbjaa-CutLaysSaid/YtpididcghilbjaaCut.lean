/-
  The cutter: what its calls do to it. Condition: the cutter was made by New, its bytes are at most 2^47 - 4096.
-/
import Derived.Test.YtpididcghilbjaaClone
import Derived.StillTailTactics
import Derived.Lib.Hide
import Derived.IntWalk
namespace Go.Proofs.Ytpididcghilbjaa
open Go.RowKit

/-- At block p lies a cutter of the bytes bs (the slice sv), of which at_ were taken, with the error e. -/
structure Cu (w : World) (p : Nat) (sv : Value) (bs : List UInt8) (at_ : Nat) (e : Int) : Prop where
  c0 : w.cell? ⟨p, 0, none⟩ = some sv
  c1 : w.cell? ⟨p, 1, none⟩ = some (.int .i64 (at_ : Int))
  c2 : w.cell? ⟨p, 2, none⟩ = some (.int .i64 e)
  c3 : w.cell? ⟨p, 3, none⟩ = some (.bool true)
  fz : ∀ o, w.frozen? ⟨p, o, none⟩ = false
  rd : Rd w sv bs
  apart : sv.ownBlock ≠ some p
  under : Under w.heap.size sv
  le : at_ ≤ bs.length
  big : bs.length ≤ 140737488351232

theorem Cu.lt {w : World} {p : Nat} {sv : Value} {bs : List UInt8} {at_ : Nat} {e : Int} (h : Cu w p sv bs at_ e) : p < w.heap.size := World.block_lt_of_cell? w _ h.c0

theorem Cu.keep {S : Nat → Prop} {w w' : World} {p : Nat} {sv : Value} {bs : List UInt8} {at_ : Nat} {e : Int} (h : Cu w p sv bs at_ e) (k : Keep S w w') (hp : ¬ S p) (hs : ∀ b, sv.ownBlock = some b → ¬ S b) : Cu w' p sv bs at_ e where
  c0 := k.cell h.c0 hp
  c1 := k.cell h.c1 hp
  c2 := k.cell h.c2 hp
  c3 := k.cell h.c3 hp
  fz := fun o => (k.frozen (a := ⟨p, o, none⟩) h.lt hp).trans (h.fz o)
  rd := h.rd.keep k hs
  apart := h.apart
  under := fun b hb => Nat.lt_of_lt_of_le (h.under b hb) k.size
  le := h.le
  big := h.big
theorem Cu.keep0 {w w' : World} {p : Nat} {sv : Value} {bs : List UInt8} {at_ : Nat} {e : Int} (h : Cu w p sv bs at_ e) (k : Keep No w w') : Cu w' p sv bs at_ e := h.keep k (fun f => f) (fun _ _ f => f)

theorem Cu.setAt {w : World} {p : Nat} {sv : Value} {bs : List UInt8} {at_ : Nat} {e : Int} (h : Cu w p sv bs at_ e) (n : Nat) (hn : n ≤ bs.length) : Cu (w.setCell ⟨p, 1, none⟩ (.int .i64 (n : Int))) p sv bs n e where
  c0 := by rw [World.cell?_setCell_other _ _ _ _ (by simp)]; exact h.c0
  c1 := by rw [World.cell?_setCell_same _ _ _ h.c1]
  c2 := by rw [World.cell?_setCell_other _ _ _ _ (by simp)]; exact h.c2
  c3 := by rw [World.cell?_setCell_other _ _ _ _ (by simp)]; exact h.c3
  fz := fun o => by rw [World.frozen?_setCell]; exact h.fz o
  rd := h.rd.keep (Keep.set1 _ _ _ _) (fun b hb hS => h.apart (by rw [hb, show b = p from hS]))
  apart := h.apart
  under := fun b hb => by rw [World.size_setCell]; exact h.under b hb
  le := hn
  big := h.big
theorem Cu.setErr {w : World} {p : Nat} {sv : Value} {bs : List UInt8} {at_ : Nat} {e : Int} (h : Cu w p sv bs at_ e) (n : Int) : Cu (w.setCell ⟨p, 2, none⟩ (.int .i64 n)) p sv bs at_ n where
  c0 := by rw [World.cell?_setCell_other _ _ _ _ (by simp)]; exact h.c0
  c1 := by rw [World.cell?_setCell_other _ _ _ _ (by simp)]; exact h.c1
  c2 := by rw [World.cell?_setCell_same _ _ _ h.c2]
  c3 := by rw [World.cell?_setCell_other _ _ _ _ (by simp)]; exact h.c3
  fz := fun o => by rw [World.frozen?_setCell]; exact h.fz o
  rd := h.rd.keep (Keep.set1 _ _ _ _) (fun b hb hS => h.apart (by rw [hb, show b = p from hS]))
  apart := h.apart
  under := fun b hb => by rw [World.size_setCell]; exact h.under b hb
  le := h.le
  big := h.big

section
variable {w : World} {p : Nat} {sv : Value} {bs : List UInt8} {at_ : Nat} {e : Int}

set_option maxHeartbeats 400000 in
theorem cnone_any (h : w.cell? ⟨p, 3, Option.none⟩ = some (.bool true)) :
    Calls Try.prog 41 #[.pointer (some ⟨p, 0, Option.none⟩)] w fun e w' => e = .returned (.bool false) ∧ w = w' := by
  go_enter Try.func41, Try.ntmps41
  go_wp2
  go_ret
  exact ⟨rfl, rfl⟩

set_option maxHeartbeats 400000 in
theorem err_any (h : Cu w p sv bs at_ e) :
    Calls Try.prog 12 #[.pointer (some ⟨p, 0, Option.none⟩)] w fun x w' => x = .returned (.int .i64 e) ∧ w = w' := by
  have h2 := h.c2
  go_enter Try.func12, Try.ntmps12
  go_wp2_with (go_at_call 41; refine (cnone_any h.c3).mono ?_; rintro e w' ⟨rfl, rfl⟩)
  go_ret
  exact ⟨rfl, rfl⟩

def leftR (bs : List UInt8) (at_ : Nat) (e : Int) : Nat := if e = 0 then bs.length - at_ else 0

set_option maxHeartbeats 400000 in
theorem left_any (h : Cu w p sv bs at_ e) :
    Calls Try.prog 13 #[.pointer (some ⟨p, 0, Option.none⟩)] w fun x w' => x = .returned (.int .i64 (leftR bs at_ e : Nat)) ∧ ∃ n, w' = w.drewN n := by
  have hle := h.le
  have hbig := h.big
  by_cases he : e = 0
  · have hb : (e != 0) = false := by simp [he]
    have h0 := h.c0
    have h1 := h.c1
    have hlen : ∀ wx, (Builtin.len_ #[22] 3 #[sv]).run Try.prog wx = .ok (.int .i64 (bs.length : Int)) wx := fun wx => h.rd.run_len bt.sl
    have HE := Lib.hid he
    clear he
    go_enter Try.func13, Try.ntmps13
    go_wp2_with (go_at_call 12; refine (err_any h).mono ?_; rintro x w' ⟨rfl, rfl⟩)
    go_quiet (fail)
    go_wp2
    go_ret
    refine ⟨?_, _, rfl⟩
    rw [leftR, if_pos HE.out, Int.ofNat_sub hle]; rfl
  · have hb : (e != 0) = true := by simp [he]
    go_enter Try.func13, Try.ntmps13
    go_wp2_with (go_at_call 12; refine (err_any h).mono ?_; rintro x w' ⟨rfl, rfl⟩)
    go_ret
    exact ⟨by rw [leftR, if_neg he]; rfl, 0, rfl⟩

def failR (e n : Int) : Int := if e = 0 then n else e

set_option maxHeartbeats 400000 in
theorem fail_any (h : Cu w p sv bs at_ e) (n : Int) :
    Calls Try.prog 11 #[.pointer (some ⟨p, 0, Option.none⟩), .int .i64 n] w fun x w' => x = .returned (.tuple #[]) ∧ Cu w' p sv bs at_ (failR e n) ∧ Keep (One p) w w' := by
  have h2 := h.c2
  have hf := h.fz 2
  by_cases he : e = 0
  · subst he
    go_enter Try.func11, Try.ntmps11
    go_wp2_with (go_at_call 41; refine (cnone_any h.c3).mono ?_; rintro e w' ⟨rfl, rfl⟩)
    go_end0
    exact ⟨rfl, h.setErr n, Keep.set1 _ _ _ _⟩
  · have hb : (e == 0) = false := by simp [he]
    go_enter Try.func11, Try.ntmps11
    go_wp2_with (go_at_call 41; refine (cnone_any h.c3).mono ?_; rintro e w' ⟨rfl, rfl⟩)
    go_end0
    refine ⟨rfl, ?_, Keep.refl _ _⟩
    rw [failR, if_neg he]; exact h

/-- What Take(n) leaves: the bytes, how many were taken, the error. -/
def takeB (bs : List UInt8) (at_ : Nat) (e n : Int) : List UInt8 := if e = 0 ∧ 0 ≤ n ∧ n ≤ (bs.length - at_ : Nat) then (bs.drop at_).take n.toNat else []
def takeA (bs : List UInt8) (at_ : Nat) (e n : Int) : Nat := if e = 0 ∧ 0 ≤ n ∧ n ≤ (bs.length - at_ : Nat) then at_ + n.toNat else at_
def takeE (bs : List UInt8) (at_ : Nat) (e n : Int) : Int := if e = 0 then (if n < 0 then 1 else if (bs.length - at_ : Nat) < n then 4 else 0) else e

/-- What a call that makes new bytes and works on the cutter at p leaves. -/
structure Took (w : World) (p : Nat) (sv : Value) (bs : List UInt8) (at' : Nat) (e' : Int) (out : List UInt8) (v : Value) (w' : World) : Prop where
  own : Own 5 w' v out
  since : Since w.heap.size v
  cu : Cu w' p sv bs at' e'
  keep : Keep (One p) w w'

theorem Took.none {w' : World} {at' : Nat} {e' : Int} (hc : Cu w' p sv bs at' e') (k : Keep (One p) w w') : Took w p sv bs at' e' [] (.slice Option.none 0 0) w' :=
  ⟨Own.nil _ _, by intro b hb; simp [Value.ownBlock] at hb, hc, k⟩
theorem Took.rd {w' : World} {at' : Nat} {e' : Int} {out : List UInt8} {v : Value} (h : Took w p sv bs at' e' out v w') : Rd w' v out := h.own.rd

set_option maxRecDepth 4000 in
set_option maxHeartbeats 1000000 in
theorem take_any (h : Cu w p sv bs at_ e) (n : Int) :
    Calls Try.prog 19 #[.pointer (some ⟨p, 0, Option.none⟩), .int .i64 n] w fun x w' => ∃ v, x = .returned v ∧ Took w p sv bs (takeA bs at_ e n) (takeE bs at_ e n) (takeB bs at_ e n) v w' := by
  have hle := h.le
  have hbig := h.big
  by_cases he : e = 0
  · have hb : (e != 0) = false := by simp [he]
    by_cases hneg : n < 0
    · have e1 : takeA bs at_ e n = at_ := if_neg (by omega)
      have e2 : takeE bs at_ e n = 1 := by rw [takeE, if_pos he, if_pos hneg]
      have e3 : takeB bs at_ e n = [] := if_neg (by omega)
      rw [e1, e2, e3]
      have e4 : failR e 1 = 1 := if_pos he
      have E4 := Lib.hid e4
      clear he e1 e2 e3 e4
      go_enter Try.func19, Try.ntmps19
      go_wp2_with (first | (go_at_call 12; refine (err_any h).mono ?_; rintro x w' ⟨rfl, rfl⟩) | (go_at_call 11; refine (fail_any h 1).mono ?_; rintro x w1 ⟨rfl, hc, hk⟩))
      go_ret
      rw [E4.out] at hc
      exact ⟨_, rfl, Took.none hc hk⟩
    · by_cases hbig : (bs.length - at_ : Nat) < n
      · have e1 : takeA bs at_ e n = at_ := if_neg (by omega)
        have e2 : takeE bs at_ e n = 4 := by rw [takeE, if_pos he, if_neg hneg, if_pos hbig]
        have e3 : takeB bs at_ e n = [] := if_neg (by omega)
        rw [e1, e2, e3]
        have e4 : failR e 4 = 4 := if_pos he
        have E4 := Lib.hid e4
        have e5 : leftR bs at_ e = bs.length - at_ := if_pos he
        have hlt : (leftR bs at_ e : Int) < n := by rw [e5]; exact hbig
        clear he e1 e2 e3 e4 e5 hbig
        go_enter Try.func19, Try.ntmps19
        go_wp2_with (first | (go_at_call 12; refine (err_any h).mono ?_; rintro x w' ⟨rfl, rfl⟩) | (go_at_call 13; refine (left_any h).mono ?_; rintro x w1 ⟨rfl, nd, rfl⟩) | (go_at_call 11; refine (fail_any (h.keep0 ((Keep.refl _ _).drewN _)) 4).mono ?_; rintro x w1 ⟨rfl, hc, hk⟩))
        go_ret
        rw [E4.out] at hc
        exact ⟨_, rfl, Took.none hc (((Keep.refl _ _).drewN _).trans hk)⟩
      · obtain ⟨m, rfl⟩ := Int.eq_ofNat_of_zero_le (show 0 ≤ n by omega)
        have hm : at_ + m ≤ bs.length := by simp at hbig; omega
        have e1 : takeA bs at_ e (m : Int) = at_ + m := by rw [takeA, if_pos (by omega)]; simp
        have e2 : takeE bs at_ e (m : Int) = e := by rw [takeE, if_pos he, if_neg (by omega), if_neg (by omega)]; exact he.symm
        have e3 : takeB bs at_ e (m : Int) = (bs.drop at_).take m := by rw [takeB, if_pos (by omega)]; simp
        rw [e1, e2, e3]
        have e5 : leftR bs at_ e = bs.length - at_ := if_pos he
        have hlt : ¬ (leftR bs at_ e : Int) < (m : Int) := by rw [e5]; simp at hbig; omega
        have h1 := h.c1
        have hf := h.fz 1
        clear he e1 e2 e3 e5 hbig hneg
        go_enter Try.func19, Try.ntmps19
        go_wp2_with (first | (go_at_call 12; refine (err_any h).mono ?_; rintro x w' ⟨rfl, rfl⟩) | (go_at_call 13; refine (left_any h).mono ?_; rintro x w1 ⟨rfl, nd, rfl⟩))
        have hcu : Cu ((w.drewN nd).setCell ⟨p, 1, Option.none⟩ (.int .i64 ((at_ : Int) + (m : Int)))) p sv bs (at_ + m) e := by
          have := (h.keep0 ((Keep.refl _ _).drewN nd)).setAt (at_ + m) hm
          simpa using this
        have hk : Keep (One p) w ((w.drewN nd).setCell ⟨p, 1, Option.none⟩ (.int .i64 ((at_ : Int) + (m : Int)))) := (Keep.refl (One p) w).drewN nd |>.trans (Keep.set1 _ _ _ _)
        generalize (w.drewN nd).setCell ⟨p, 1, Option.none⟩ (.int .i64 ((at_ : Int) + (m : Int))) = W at *
        have g0 := hcu.c0
        have g1 : W.cell? ⟨p, 1, Option.none⟩ = some (.int .i64 ((at_ : Int) + (m : Int))) := by have := hcu.c1; simpa using this
        have hsub : IntKind.i64.wrap (at_ : Int) = (at_ : Int) := IntWalk.i64_in _ (by omega)
        have hcut : ∀ wx, (Instr.slice 22 sv (some (.int .i64 (at_ : Int))) (some (.int .i64 ((at_ : Int) + (m : Int)))) Option.none).run Try.prog wx = .ok (cutv sv at_ (at_ + m)) wx := fun wx => by
          have := hcu.rd.run_cut (P := Try.prog) (w' := wx) bt.sl bsize (k := .i64) (k' := .i64) (l := (at_ : Int)) (h := (at_ : Int) + (m : Int)) (by omega) (by omega) (by omega)
          rw [this]
          rfl
        go_still_tail 15, (by kernel_rfl)
        change wpList _ _ _ _ _ W.drew
        have hr : Rd W.drew (cutv sv at_ (at_ + m)) ((bs.drop at_).take m) := by
          have := (hcu.rd.drewN 1).cut (l := at_) (h := at_ + m) (by omega) (by omega)
          rw [Nat.add_sub_cancel_left] at this
          exact this
        go_wp2_with (go_at_call 40; refine (sclone_any _ _ _ hr (by simp; omega)).mono ?_; rintro x w2 ⟨v, rfl, hfr, _⟩)
        go_ret
        have hs : W.heap.size = W.drew.heap.size := rfl
        exact ⟨v, rfl, hfr.own, hfr.since.mono hk.size, (hcu.keep0 ((Keep.refl _ _).drewN 1)).keep0 hfr.keep, (hk.trans ((Keep.refl _ _).drewN 1)).trans hfr.keep.no⟩
  · have hb : (e != 0) = true := by simp [he]
    have e1 : takeA bs at_ e n = at_ := if_neg (by simp [he])
    have e2 : takeE bs at_ e n = e := if_neg he
    have e3 : takeB bs at_ e n = [] := if_neg (by simp [he])
    rw [e1, e2, e3]
    clear e1 e2 e3 he
    go_enter Try.func19, Try.ntmps19
    go_wp2_with (first | (go_at_call 12; refine (err_any h).mono ?_; rintro x w' ⟨rfl, rfl⟩))
    go_ret
    exact ⟨_, rfl, Took.none h (Keep.refl _ _)⟩

set_option maxHeartbeats 1000000 in
theorem new_any {v : Value} (r : Rd w v bs) (hn : bs.length ≤ 140737488351232) :
    Calls Try.prog 9 #[v] w fun x w' => ∃ p sv, x = .returned (.pointer (some ⟨p, 0, Option.none⟩)) ∧ Cu w' p sv bs 0 0 ∧ Keep No w w' ∧ w.heap.size ≤ p ∧ Since w.heap.size sv := by
  go_enter Try.func9, Try.ntmps9
  go_wp2_with (go_at_call 40; refine (sclone_any _ _ _ r hn).mono ?_; rintro x w1 ⟨v', rfl, hfr, _⟩; obtain ⟨ao, cap, rfl, hx⟩ := hfr.rd.shape; clear hx)
  go_ret
  have hap : (Value.slice ao bs.length cap).ownBlock ≠ some w1.heap.size := by
    intro hb
    obtain ⟨hl, h0⟩ := hfr.own
    rcases h0 with ⟨h0, _⟩ | ⟨g, c, cur, h0, _, hg, _⟩
    · rw [h0] at hb; simp [Value.ownBlock] at hb
    · rw [h0] at hb; simp [Value.ownBlock] at hb; subst hb; simp at hg
  refine ⟨w1.heap.size, .slice ao bs.length cap, rfl, ⟨?_, ?_, ?_, ?_, ?_, hfr.rd.keep0 ((Keep.refl _ _).alloc _), hap, fun b hb => by have := hfr.own.lt b hb; simp; omega, Nat.zero_le _, hn⟩, hfr.keep.alloc _, hfr.keep.size, hfr.since⟩
  · exact cell_new _ _ _ _
  · exact cell_new _ _ _ _
  · exact cell_new _ _ _ _
  · exact cell_new _ _ _ _
  · exact fun o => frozen_new _ _ _ _

end
end Go.Proofs.Ytpididcghilbjaa
