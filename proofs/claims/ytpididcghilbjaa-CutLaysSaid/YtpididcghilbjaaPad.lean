/-
  The pad: Lay, Byte, Two and Done. Condition: the pad was made by Lay; at most 2^40 bytes.
-/
import Derived.Test.YtpididcghilbjaaClone
import Derived.Lib.Hide
import Derived.IntWalk
namespace Go.Proofs.Ytpididcghilbjaa
open Go.RowKit

/-- At block p lies a pad to which the bytes bs were laid (the slice sv). -/
structure Pd (w : World) (p : Nat) (sv : Value) (bs : List UInt8) : Prop where
  c0 : w.cell? ⟨p, 0, none⟩ = some sv
  c1 : w.cell? ⟨p, 1, none⟩ = some (.bool true)
  fz : ∀ o, w.frozen? ⟨p, o, none⟩ = false
  own : Own 5 w sv bs
  apart : sv.ownBlock ≠ some p
/-- What a call that lays writes. -/
def Foot (p : Nat) (sv : Value) : Nat → Prop := fun k => k = p ∨ sv.ownBlock = some k
/-- sv' lies where sv lay, or is new. -/
def Later (n : Nat) (sv sv' : Value) : Prop := sv'.ownBlock = sv.ownBlock ∨ Since n sv'

theorem Later.refl (n : Nat) (sv : Value) : Later n sv sv := .inl rfl
theorem Later.trans {n m : Nat} {a b c : Value} (h : Later n a b) (k : Later m b c) (hm : n ≤ m) : Later n a c := by
  rcases k with k | k
  · rcases h with h | h
    · exact .inl (k.trans h)
    · exact .inr (fun x hx => h x (by rw [← k]; exact hx))
  · exact .inr (k.mono hm)
theorem Later.mono {n m : Nat} {a b : Value} (h : Later m a b) (hm : n ≤ m) : Later n a b := by
  rcases h with h | h
  · exact .inl h
  · exact .inr (h.mono hm)
theorem Keep.foot {a b c : World} {p : Nat} {sv sv1 : Value} (h : Keep (Foot p sv) a b) (l : Later a.heap.size sv sv1) (k : Keep (Foot p sv1) b c) : Keep (Foot p sv) a c :=
  h.trans' k fun i hi hf => by
    rcases hf with hf | hf
    · exact .inl hf
    · rcases l with l | l
      · exact .inr (by rw [← l]; exact hf)
      · have := l i hf; omega

theorem Pd.lt {w : World} {p : Nat} {sv : Value} {bs : List UInt8} (h : Pd w p sv bs) : p < w.heap.size := World.block_lt_of_cell? w _ h.c0
theorem Pd.keep {S : Nat → Prop} {w w' : World} {p : Nat} {sv : Value} {bs : List UInt8} (h : Pd w p sv bs) (k : Keep S w w') (hp : ¬ S p) (hs : ∀ b, sv.ownBlock = some b → ¬ S b) : Pd w' p sv bs where
  c0 := k.cell h.c0 hp
  c1 := k.cell h.c1 hp
  fz := fun o => (k.frozen (a := ⟨p, o, none⟩) h.lt hp).trans (h.fz o)
  own := h.own.keep k hs
  apart := h.apart
theorem Pd.keep0 {w w' : World} {p : Nat} {sv : Value} {bs : List UInt8} (h : Pd w p sv bs) (k : Keep No w w') : Pd w' p sv bs := h.keep k (fun f => f) (fun _ _ f => f)

theorem bv_of {a : Int} {x : UInt8} (h : a = (x.toNat : Int)) : (Value.int .u8 a) = bv x := by rw [h]

/-- The two bytes of a number. -/
def bytes2 (n : Nat) : List UInt8 := [UInt8.ofNat (n / 256), UInt8.ofNat n]
theorem byte_hi {n : Nat} (h : n < 65536) : ((UInt8.ofNat (n / 256)).toNat : Int) = (n : Int) / 256 := by
  rw [UInt8.toNat_ofNat']; simp; omega
theorem byte_lo (n : Nat) : ((UInt8.ofNat n).toNat : Int) = (n : Int) % 256 := by
  rw [UInt8.toNat_ofNat']; simp

section
variable {w : World} {p : Nat} {sv : Value} {bs : List UInt8}

set_option maxHeartbeats 400000 in
theorem pnone_any (h : w.cell? ⟨p, 1, Option.none⟩ = some (.bool true)) :
    Calls Try.prog 45 #[.pointer (some ⟨p, 0, Option.none⟩)] w fun e w' => e = .returned (.bool false) ∧ w = w' := by
  go_enter Try.func45, Try.ntmps45
  go_wp2
  go_ret
  exact ⟨rfl, rfl⟩

set_option maxHeartbeats 400000 in
theorem lay_any (w : World) :
    Calls Try.prog 30 #[] w fun x w' => ∃ p, x = .returned (.pointer (some ⟨p, 0, Option.none⟩)) ∧ Pd w' p (.slice Option.none 0 0) [] ∧ Keep No w w' ∧ w.heap.size ≤ p := by
  go_enter Try.func30, Try.ntmps30
  go_wp2
  go_ret
  exact ⟨_, rfl, ⟨cell_new _ _ _ _, cell_new _ _ _ _, fun o => frozen_new _ _ _ _, Own.nil _ _, by simp [Value.ownBlock]⟩, (Keep.refl _ _).alloc _, Nat.le_refl _⟩

set_option maxHeartbeats 1000000 in
theorem pbyte_any (h : Pd w p sv bs) {v : Value} {ys : List UInt8} (r : Rd w v ys) (hn : bs.length + ys.length ≤ 1099511627776) :
    Calls Try.prog 31 #[.pointer (some ⟨p, 0, Option.none⟩), v] w fun x w' => ∃ sv', x = .returned (.pointer (some ⟨p, 0, Option.none⟩)) ∧ Pd w' p sv' (bs ++ ys) ∧ Keep (Foot p sv) w w' ∧ Later w.heap.size sv sv' := by
  have h0 := h.c0
  have hf := h.fz 0
  go_enter Try.func31, Try.ntmps31
  go_wp2_with fail
  refine (pnone_any h.c1).mono ?_
  rintro x w1 ⟨rfl, rfl⟩
  go_wp2_with (at_builtin; refine wpList_append_b (v := sv) (sv := v) rfl _ _ bt rfl rfl h.own rfl r (by omega) ?_; intro v' w1 hown hkeep hblk hnn; have hf1 := (hkeep.frozen (a := ⟨p, 0, Option.none⟩) h.lt h.apart).trans hf; have hc1 := hkeep.cell h0 h.apart; obtain ⟨ao, N, cap, rfl⟩ := hown.rd.form)
  go_ret
  have hpn : (Value.slice ao N cap).ownBlock ≠ some p := by
    intro hb
    rcases hblk with e | e
    · exact h.apart (by rw [← e]; exact hb)
    · rw [e] at hb
      have := h.lt
      simp at hb; omega
  have ks : Keep (One p) w1 (w1.setCell ⟨p, 0, Option.none⟩ (.slice ao N cap)) := Keep.set1 _ _ _ _
  refine ⟨_, rfl, ⟨World.cell?_setCell_same _ _ _ hc1, ?_, ?_, hown.keep ks (fun b hb (e : b = p) => hpn (by rw [hb, e])), hpn⟩, ?_, ?_⟩
  · rw [World.cell?_setCell_other _ _ _ _ (by simp)]; exact hkeep.cell h.c1 h.apart
  · intro o
    rw [World.frozen?_setCell]; exact (hkeep.frozen (a := ⟨p, o, Option.none⟩) h.lt h.apart).trans (h.fz o)
  · exact (hkeep.mono (fun k _ hk => .inr hk)).trans' ks (fun i _ e => .inl e)
  · rcases hblk with e | e
    · exact .inl e
    · exact .inr (fun b hb => by rw [e] at hb; simp at hb; omega)

set_option maxHeartbeats 1000000 in
theorem done_any (h : Pd w p sv bs) (hn : bs.length ≤ 140737488351232) :
    Calls Try.prog 33 #[.pointer (some ⟨p, 0, Option.none⟩)] w fun x w' => ∃ v, x = .returned v ∧ Fresh w bs v w' := by
  have h0 := h.c0
  go_enter Try.func33, Try.ntmps33
  go_wp2_with fail
  refine (pnone_any h.c1).mono ?_
  rintro x w1 ⟨rfl, rfl⟩
  go_wp2_with fail
  refine (sclone_any _ _ _ h.own.rd hn).mono ?_
  rintro x w1 ⟨v, rfl, hf, _⟩
  go_wp2_with fail
  go_ret
  exact ⟨_, rfl, hf⟩
end
end Go.Proofs.Ytpididcghilbjaa
