/-
  arp's bytes and what is read from them: there and back. No program in sight.
-/
import Derived.Test.YtpididcghilbjaaDoorArpBytes
import Derived.Test.YtpididcghilbjaaDoorArpGets
namespace Go.Proofs.YtpididcghilbjaaDoor
open Go.RowKit

theorem be_b4 {n : Nat} (h : n < 4294967296) : be (bytes4 n) = n := by
  simp only [be, bytes4, bytes2, List.cons_append, List.nil_append, List.foldl_cons, List.foldl_nil, UInt8.toNat_ofNat']
  omega
theorem b4_be (a b c d : UInt8) : bytes4 (be [a, b, c, d]) = [a, b, c, d] := by
  have ha := a.toNat_lt
  have hb := b.toNat_lt
  have hc := c.toNat_lt
  have hd := d.toNat_lt
  simp only [be, bytes4, bytes2, List.cons_append, List.nil_append, List.foldl_cons, List.foldl_nil, List.cons.injEq, and_true]
  refine ⟨?_, ?_, ?_, ?_⟩ <;> (apply UInt8.toNat_inj.1; rw [UInt8.toNat_ofNat']; omega)
theorem b2_be (a b : UInt8) : bytes2 (be [a, b]) = [a, b] := by
  have ha := a.toNat_lt
  have hb := b.toNat_lt
  simp only [be, bytes2, List.foldl_cons, List.foldl_nil, List.cons.injEq, and_true]
  refine ⟨?_, ?_⟩ <;> (apply UInt8.toNat_inj.1; rw [UInt8.toNat_ofNat']; omega)
section
variable {q fi ti : Nat} {f t cs : List UInt8}
theorem back_list (hq : q = 1 ∨ q = 2) : bytesR q fi ti f t = [0, 1, 8, 0, 6, 4, 0, UInt8.ofNat q] ++ macL f ++ bytes4 fi ++ macL t ++ bytes4 ti := by
  rcases hq with rfl | rfl
  · rw [bytesR, if_pos (by decide)]
    have h : bytes2 1 = [0, 1] := by decide
    simp [arpB, aheadL, h]
  · rw [bytesR, if_pos (by decide)]
    have h : bytes2 2 = [0, 2] := by decide
    simp [arpB, aheadL, h]
theorem back_len (hq : q = 1 ∨ q = 2) : (bytesR q fi ti f t).length = 28 := by rw [back_list hq]; rfl
theorem back_ok (hq : q = 1 ∨ q = 2) : gOk (bytesR q fi ti f t ++ cs) = true := by
  rw [back_list hq]
  rcases hq with rfl | rfl <;> kernel_rfl
theorem back_E (hq : q = 1 ∨ q = 2) : getE (bytesR q fi ti f t ++ cs) = 0 := by
  have hl := back_len (fi := fi) (ti := ti) (f := f) (t := t) hq
  rw [getE, if_neg (by rw [List.length_append]; omega), if_pos (back_ok hq)]
theorem back_V (hq : q = 1 ∨ q = 2) (hfi : fi < 4294967296) (hti : ti < 4294967296) : getV (bytesR q fi ti f t ++ cs) = pkA q fi ti f t := by
  have hl := back_len (fi := fi) (ti := ti) (f := f) (t := t) hq
  rw [getV, if_pos ⟨by rw [List.length_append]; omega, back_ok hq⟩]
  have e1 : gOp (bytesR q fi ti f t ++ cs) = q := by rw [back_list hq]; rcases hq with rfl | rfl <;> rfl
  have e2 : gFi (bytesR q fi ti f t ++ cs) = fi := by
    rw [back_list hq]
    exact be_b4 hfi
  have e3 : gTi (bytesR q fi ti f t ++ cs) = ti := by
    rw [back_list hq]
    exact be_b4 hti
  have e4 : gF (bytesR q fi ti f t ++ cs) = macL f := by rw [back_list hq]; rfl
  have e5 : gT (bytesR q fi ti f t ++ cs) = macL t := by rw [back_list hq]; rfl
  rw [e1, e2, e3, e4, e5]
  rfl
end
theorem cons28 {cs : List UInt8} (h : 28 ≤ cs.length) : ∃ a0 a1 a2 a3 a4 a5 a6 a7 a8 a9 a10 a11 a12 a13 a14 a15 a16 a17 a18 a19 a20 a21 a22 a23 a24 a25 a26 a27 r, cs = a0 :: a1 :: a2 :: a3 :: a4 :: a5 :: a6 :: a7 :: a8 :: a9 :: a10 :: a11 :: a12 :: a13 :: a14 :: a15 :: a16 :: a17 :: a18 :: a19 :: a20 :: a21 :: a22 :: a23 :: a24 :: a25 :: a26 :: a27 :: r := by
  have h1 : (cs.take 28).length = 28 := by simp; omega
  have h2 : cs = cs.take 28 ++ cs.drop 28 := (List.take_append_drop 28 cs).symm
  generalize cs.take 28 = l at h1 h2
  match l, h1, h2 with
  | [a0, a1, a2, a3, a4, a5, a6, a7, a8, a9, a10, a11, a12, a13, a14, a15, a16, a17, a18, a19, a20, a21, a22, a23, a24, a25, a26, a27], _, h2 => exact ⟨a0, a1, a2, a3, a4, a5, a6, a7, a8, a9, a10, a11, a12, a13, a14, a15, a16, a17, a18, a19, a20, a21, a22, a23, a24, a25, a26, a27, _, h2⟩
theorem read_back {cs : List UInt8} (h : 28 ≤ cs.length) (hok : gOk cs = true) : bytesR (gOp cs) (gFi cs) (gTi cs) (gF cs) (gT cs) = cs.take 28 := by
  obtain ⟨a0, a1, a2, a3, a4, a5, a6, a7, a8, a9, a10, a11, a12, a13, a14, a15, a16, a17, a18, a19, a20, a21, a22, a23, a24, a25, a26, a27, r, rfl⟩ := cons28 h
  rw [gOk, Bool.and_eq_true] at hok
  obtain ⟨h1, h2⟩ := hok
  rw [bytesR, if_pos h2]
  have e : ∀ (x : UInt8) (n : Nat), n < 256 → (x.toNat : Int) = n → x = UInt8.ofNat n := fun x n hn hx => by
    apply UInt8.toNat_inj.1
    rw [UInt8.toNat_ofNat']; omega
  have h3 : (((((((a0.toNat : Int) == ((0 : UInt8).toNat : Int)) && ((a1.toNat : Int) == ((1 : UInt8).toNat : Int))) && ((a2.toNat : Int) == ((8 : UInt8).toNat : Int))) && ((a3.toNat : Int) == ((0 : UInt8).toNat : Int))) && ((a4.toNat : Int) == ((6 : UInt8).toNat : Int))) && ((a5.toNat : Int) == ((4 : UInt8).toNat : Int))) = true := h1
  simp only [Bool.and_eq_true, beq_iff_eq] at h3
  obtain ⟨⟨⟨⟨⟨g0, g1⟩, g2⟩, g3⟩, g4⟩, g5⟩ := h3
  obtain rfl := e a0 0 (by decide) g0
  obtain rfl := e a1 1 (by decide) g1
  obtain rfl := e a2 8 (by decide) g2
  obtain rfl := e a3 0 (by decide) g3
  obtain rfl := e a4 6 (by decide) g4
  obtain rfl := e a5 4 (by decide) g5
  show aheadL ++ (bytes2 (be [a6, a7]) ++ []) ++ ([a8, a9, a10, a11, a12, a13] ++ []) ++ (bytes4 (be [a14, a15, a16, a17]) ++ []) ++ ([a18, a19, a20, a21, a22, a23] ++ []) ++ (bytes4 (be [a24, a25, a26, a27]) ++ []) = _
  rw [b2_be, b4_be, b4_be]
  rfl
end Go.Proofs.YtpididcghilbjaaDoor
