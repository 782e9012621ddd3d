/-
  tollref05's Bytes, Reply, Probes, Itself. Condition: the numbers are of their kinds.
-/
import Derived.Test.YtpididcghilbjaaDoorArpBytes
import Derived.Test.YtpididcghilbjaaDoorArpGets
namespace Go.Proofs.YtpididcghilbjaaDoor
open Go.RowKit

/-- Bytes in a known row. -/
theorem Rd.of_row {W0 w : World} {m : Mem} (hW : Wst W0 m w) {b off : Nat} {cs : List Value} {ow : Bool} (hr : ⟨b, cs, ow⟩ ∈ m.rows) {bs : List UInt8} (n : Nat) (hl : bs.length = n) (hn : n ≤ maxLen) (hc : ∀ i, i < bs.length → cs[off + i]? = some (bv (byteAt bs i))) : Rd w (.slice (some ⟨b, off, none⟩) n n) bs := by
  subst hl
  obtain ⟨t, ht⟩ := hW.rows _ hr
  refine ⟨⟨_, bs.length, rfl, Nat.le_refl _, hn, by simp, fun _ => ⟨_, _, rfl⟩⟩, fun i hi => ?_⟩
  simp only [blk, offs, World.cell?, ht]
  simpa using hc i hi
theorem Own.walk {e : TypeId} {W0 w w' : World} {rows : List RowS} {m' : Mem} {v : Value} {bs : List UInt8} (h : Own e w v bs) (hl : Loose W0 ⟨rows, w.heap.size⟩ (fun k => v.ownBlock = some k)) (hS : Seg ⟨rows, w.heap.size⟩ w m' w') (ho : ∀ r ∈ m'.rows, r.own = true) :
    Own e w' v bs ∧ Loose W0 m' (fun k => v.ownBlock = some k) := by
  have hs : ∀ b, v.ownBlock = some b → Safe ⟨rows, w.heap.size⟩ b := fun b hb => ⟨h.lt b hb, fun r hr _ => (hl b hb).2 r hr⟩
  exact ⟨h.same fun b hb => hS.same b (hs b hb), fun k hk => ⟨(hl k hk).1, fun r hr => (hS.safe k (hs k hk)).2 r hr (ho r hr)⟩⟩
theorem loose_nil {W0 : World} {m : Mem} : Loose W0 m (fun k => (Value.slice Option.none 0 0).ownBlock = some k) := fun k hk => by cases hk

theorem quo_nat (a b : Nat) : Int.tdiv (a : Int) (b : Int) = ((a / b : Nat) : Int) := by
  rw [Int.tdiv_eq_ediv_of_nonneg (by omega)]; rfl
theorem rem_nat (a b : Nat) : Int.tmod (a : Int) (b : Int) = ((a % b : Nat) : Int) := by
  rw [Int.tmod_eq_emod_of_nonneg (by omega)]; rfl

noncomputable abbrev rbB : Code := bodyOf Tryd.f20

theorem q0 {n : Nat} (h : n < 4294967296) : IntKind.u8.wrap (IntKind.u32.wrap (Int.tdiv (n : Int) 16777216)) = ((byteAt (bytes4 n) 0).toNat : Int) := by
  have e : Int.tdiv (n : Int) 16777216 = ((n / 16777216 : Nat) : Int) := quo_nat n 16777216
  rw [e, u32_in (by omega) (by omega), IntWalk.u8_in _ (by omega)]
  show _ = ((UInt8.ofNat (n / 65536 / 256)).toNat : Int)
  rw [UInt8.toNat_ofNat_of_lt' (by show _ < 256; omega)]; omega
theorem q1 {n : Nat} (h : n < 4294967296) : IntKind.u8.wrap (Int.tmod (IntKind.u32.wrap (Int.tdiv (n : Int) 65536)) 256) = ((byteAt (bytes4 n) 1).toNat : Int) := by
  have e : Int.tdiv (n : Int) 65536 = ((n / 65536 : Nat) : Int) := quo_nat n 65536
  have e2 : Int.tmod (((n / 65536 : Nat)) : Int) 256 = ((n / 65536 % 256 : Nat) : Int) := rem_nat (n / 65536) 256
  rw [e, u32_in (by omega) (by omega), e2, IntWalk.u8_in _ (by omega)]
  show _ = ((UInt8.ofNat (n / 65536)).toNat : Int)
  rw [UInt8.toNat_ofNat']
theorem q2 {n : Nat} (h : n < 4294967296) : IntKind.u8.wrap (Int.tmod (IntKind.u32.wrap (Int.tdiv (n : Int) 256)) 256) = ((byteAt (bytes4 n) 2).toNat : Int) := by
  have e : Int.tdiv (n : Int) 256 = ((n / 256 : Nat) : Int) := quo_nat n 256
  have e2 : Int.tmod (((n / 256 : Nat)) : Int) 256 = ((n / 256 % 256 : Nat) : Int) := rem_nat (n / 256) 256
  rw [e, u32_in (by omega) (by omega), e2, IntWalk.u8_in _ (by omega)]
  show _ = ((UInt8.ofNat (n % 65536 / 256)).toNat : Int)
  rw [UInt8.toNat_ofNat']; omega
theorem q3 {n : Nat} : IntKind.u8.wrap (Int.tmod (n : Int) 256) = ((byteAt (bytes4 n) 3).toNat : Int) := by
  have e2 : Int.tmod (n : Int) 256 = ((n % 256 : Nat) : Int) := rem_nat n 256
  rw [e2, IntWalk.u8_in _ (by omega)]
  show _ = ((UInt8.ofNat (n % 65536)).toNat : Int)
  rw [UInt8.toNat_ofNat']; omega

section
variable {w : World} {op fi ti : Nat} {f t : List UInt8}
def hd8 (op : Nat) : List UInt8 := [0, 1, 8, 0, 6, 4, 0, UInt8.ofNat op]
def row4 (n : Nat) : List Value := [bv (byteAt (bytes4 n) 0), bv (byteAt (bytes4 n) 1), bv (byteAt (bytes4 n) 2), bv (byteAt (bytes4 n) 3)]
def eqs4 (n : Nat) : List (Value × Value) := [(.int .u8 (IntKind.u8.wrap (IntKind.u32.wrap (Int.tdiv (n : Int) 16777216))), bv (byteAt (bytes4 n) 0)), (.int .u8 (IntKind.u8.wrap (Int.tmod (IntKind.u32.wrap (Int.tdiv (n : Int) 65536)) 256)), bv (byteAt (bytes4 n) 1)),
  (.int .u8 (IntKind.u8.wrap (Int.tmod (IntKind.u32.wrap (Int.tdiv (n : Int) 256)) 256)), bv (byteAt (bytes4 n) 2)), (.int .u8 (IntKind.u8.wrap (Int.tmod (n : Int) 256)), bv (byteAt (bytes4 n) 3))]
theorem eqs4_ok {n : Nat} (h : n < 4294967296) : Eqs (eqs4 n) := ⟨congrArg (Value.int .u8) (q0 h), congrArg (Value.int .u8) (q1 h), congrArg (Value.int .u8) (q2 h), congrArg (Value.int .u8) q3, trivial⟩
def hs4 (g : Nat) (n : Nat) : List (Nat × Nat × HintS) := [(g, 4, .is (bv (byteAt (bytes4 n) 0))), (g, 9, .is (bv (byteAt (bytes4 n) 1))), (g, 14, .is (bv (byteAt (bytes4 n) 2))), (g, 18, .is (bv (byteAt (bytes4 n) 3)))]
theorem row4_at (n : Nat) : ∀ i, i < (bytes4 n).length → (row4 n)[0 + i]? = some (bv (byteAt (bytes4 n) i)) := by
  intro i hi
  have : i = 0 ∨ i = 1 ∨ i = 2 ∨ i = 3 := by have := hi; rw [show (bytes4 n).length = 4 from rfl] at this; omega
  rcases this with rfl | rfl | rfl | rfl <;> rfl

/-- What the walk lays behind the tests. -/
def rbytes (op fi ti : Nat) (f t : List UInt8) : List UInt8 := [] ++ hd8 op ++ macL f ++ bytes4 fi ++ macL t ++ bytes4 ti
theorem rb_tail (ho : op < 256) (hfi : fi < 4294967296) (hti : ti < 4294967296) (w1 : World) (hW : Wst w ⟨[⟨w.heap.size, (rkA op fi ti f t).toList, true⟩], w1.heap.size⟩ w1) :
    Goal Tryd.prog (bodyPost Tryd.prog Tryd.f20 fun x w' => ∃ v, x = .returned v ∧ Fresh w (rbytes op fi ti f t) v w') Tryd.f20.ntmps
      ⟨frOf [1, 3] [.pointer (some ⟨w.heap.size, 0, Option.none⟩), .slice Option.none 0 0], tagL [(1, 0)], ⟨[⟨w.heap.size, (rkA op fi ti f t).toList, true⟩], w1.heap.size⟩, opsR rbB 4⟩ w1 := by
  have hop : IntKind.u8.wrap (op : Int) = ((UInt8.ofNat op).toNat : Int) := by rw [IntWalk.u8_in _ (by omega), UInt8.toNat_ofNat_of_lt' (by simpa using ho)]
  refine go_app (gt := fun _ => Option.none) (unroll := true) 60 [(4, 3, .is (bv (UInt8.ofNat op)))] (.slice Option.none 0 0) (.slice (some ⟨w1.heap.size, 0, Option.none⟩) 8 8) 33 5 [1] [.pointer (some ⟨w.heap.size, 0, Option.none⟩)] 18
    [⟨w.heap.size, (rkA op fi ti f t).toList, true⟩, ⟨w1.heap.size, bvs (hd8 op), true⟩] [(1, 0)] (inR rbB 4 5) [(.int .u8 (IntKind.u8.wrap (op : Int)), bv (UInt8.ofNat op))] [] bt hW (by kernel_rfl) ⟨congrArg (Value.int .u8) hop, trivial⟩ trivial ?_
  intro w2 hW2 _
  refine ⟨[], hd8 op, Own.nil _ _, Rd.of_row (b := w1.heap.size) (off := 0) (ow := true) (cs := bvs (hd8 op)) hW2 (by simp) _ rfl (by decide) (fun i hi => by rw [Nat.zero_add]; exact bvs_get hi), by simp [hd8], loose_nil, ?_⟩
  intro v3 w3 own3 _ ls3 lt3 hW3
  refine go_app (gt := fun _ => Option.none) (unroll := true) 60 [(5, 3, .stop)] v3 (.slice (some ⟨w.heap.size, 1, Option.none⟩) 6 6) 33 5 [1] [.pointer (some ⟨w.heap.size, 0, Option.none⟩)] 22
    [⟨w.heap.size, (rkA op fi ti f t).toList, true⟩, ⟨w1.heap.size, bvs (hd8 op), true⟩] [(1, 0)] (inR rbB 5 3) [] [] bt hW3 (by kernel_rfl) trivial trivial ?_
  intro w4 hW4 hS4
  obtain ⟨own4, ls4⟩ := own3.walk ls3 hS4 (by simp)
  refine ⟨_, macL f, own4, Rd.of_row (b := w.heap.size) (off := 1) (ow := true) (cs := (rkA op fi ti f t).toList) hW4 (by simp) _ rfl (by decide) (fun i hi => by
    have : i = 0 ∨ i = 1 ∨ i = 2 ∨ i = 3 ∨ i = 4 ∨ i = 5 := by have h : i < 6 := hi; omega
    rcases this with rfl | rfl | rfl | rfl | rfl | rfl <;> rfl), by simp [hd8, macL], ls4, ?_⟩
  intro v5 w5 own5 _ ls5 lt5 hW5
  refine go_app (gt := fun _ => Option.none) (unroll := true) 60 (hs4 6 fi ++ [(6, 20, .stop)]) v5 (.slice (some ⟨w5.heap.size, 0, Option.none⟩) 4 4) 33 5 [1] [.pointer (some ⟨w.heap.size, 0, Option.none⟩)] 43
    [⟨w.heap.size, (rkA op fi ti f t).toList, true⟩, ⟨w1.heap.size, bvs (hd8 op), true⟩, ⟨w5.heap.size, row4 fi, true⟩] [(1, 0)] (inR rbB 6 20) (eqs4 fi) [] bt hW5 (by kernel_rfl) (eqs4_ok hfi) trivial ?_
  intro w6 hW6 hS6
  obtain ⟨own6, ls6⟩ := own5.walk ls5 hS6 (by simp)
  refine ⟨_, bytes4 fi, own6, Rd.of_row (b := w5.heap.size) (off := 0) (ow := true) (cs := row4 fi) hW6 (by simp) _ rfl (by decide) (row4_at fi), by simp [hd8, macL, bytes4, bytes2], ls6, ?_⟩
  intro v7 w7 own7 _ ls7 lt7 hW7
  refine go_app (gt := fun _ => Option.none) (unroll := true) 60 [(7, 3, .stop)] v7 (.slice (some ⟨w.heap.size, 7, Option.none⟩) 6 6) 33 5 [1] [.pointer (some ⟨w.heap.size, 0, Option.none⟩)] 47
    [⟨w.heap.size, (rkA op fi ti f t).toList, true⟩, ⟨w1.heap.size, bvs (hd8 op), true⟩, ⟨w5.heap.size, row4 fi, true⟩] [(1, 0)] (inR rbB 7 3) [] [] bt hW7 (by kernel_rfl) trivial trivial ?_
  intro w8 hW8 hS8
  obtain ⟨own8, ls8⟩ := own7.walk ls7 hS8 (by simp)
  refine ⟨_, macL t, own8, Rd.of_row (b := w.heap.size) (off := 7) (ow := true) (cs := (rkA op fi ti f t).toList) hW8 (by simp) _ rfl (by decide) (fun i hi => by
    have : i = 0 ∨ i = 1 ∨ i = 2 ∨ i = 3 ∨ i = 4 ∨ i = 5 := by have h : i < 6 := hi; omega
    rcases this with rfl | rfl | rfl | rfl | rfl | rfl <;> rfl), by simp [hd8, macL, bytes4, bytes2], ls8, ?_⟩
  intro v9 w9 own9 _ ls9 lt9 hW9
  refine go_app (gt := fun _ => Option.none) (unroll := true) 60 (hs4 8 ti ++ [(8, 20, .stop)]) v9 (.slice (some ⟨w9.heap.size, 0, Option.none⟩) 4 4) 33 5 [1] [.pointer (some ⟨w.heap.size, 0, Option.none⟩)] 68
    [⟨w.heap.size, (rkA op fi ti f t).toList, true⟩, ⟨w1.heap.size, bvs (hd8 op), true⟩, ⟨w5.heap.size, row4 fi, true⟩, ⟨w9.heap.size, row4 ti, true⟩] [(1, 0)] (inR rbB 8 20) (eqs4 ti) [] bt hW9 (by kernel_rfl) (eqs4_ok hti) trivial ?_
  intro wa hWa hSa
  obtain ⟨owna, lsa⟩ := own9.walk ls9 hSa (by simp)
  refine ⟨_, bytes4 ti, owna, Rd.of_row (b := w9.heap.size) (off := 0) (ow := true) (cs := row4 ti) hWa (by simp) _ rfl (by decide) (row4_at ti), by simp [hd8, macL, bytes4, bytes2], lsa, ?_⟩
  intro vb wb ownb _ lsb ltb hWb
  refine go_ret (gt := fun _ => Option.none) (unroll := true) 60 [] [.tmp 2] vb [] [] hWb Tryd.results20 (by kernel_rfl) trivial trivial ?_
  intro wc hWc hSc
  exact ⟨_, rfl, ⟨ownb.same fun b hb => hSc.same b ⟨ltb b hb, fun r hr _ => (lsb b hb).2 r hr⟩, hWc.keep, fun b hb => (lsb b hb).1⟩⟩
end
end Go.Proofs.YtpididcghilbjaaDoor
