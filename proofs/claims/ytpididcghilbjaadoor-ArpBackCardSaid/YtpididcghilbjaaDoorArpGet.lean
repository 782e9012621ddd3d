/-
  arp.Get of any bytes. Condition: the bytes are at most 2^47 - 4096, and the table of what stands ahead is as it was laid.
-/
import Derived.Test.YtpididcghilbjaaDoorArpEq
import Derived.Test.YtpididcghilbjaaDoorRow
import Derived.Test.YtpididcghilbjaaDoorNum32
import Derived.Test.YtpididcghilbjaaDoorNum16
namespace Go.Proofs.YtpididcghilbjaaDoor
open Go.RowKit

def aheadL : List UInt8 := [0, 1, 8, 0, 6, 4]
/-- The variable arp.ahead holds what it was laid with. -/
structure Ah (w : World) : Prop where
  c : ∀ i, i < 6 → w.cell? ⟨0, i, Option.none⟩ = some (bv (byteAt aheadL i))
theorem Ah.keep {S : Nat → Prop} {w w' : World} (h : Ah w) (k : Keep S w w') (h0 : ¬ S 0) : Ah w' := ⟨fun i hi => k.cell (h.c i hi) h0⟩
theorem Ah.keep0 {w w' : World} (h : Ah w) (k : Keep No w w') : Ah w' := h.keep k (fun f => f)
theorem Ah.pos {w : World} (h : Ah w) : 0 < w.heap.size := World.block_lt_of_cell? w _ (h.c 0 (by decide))

theorem take_ok {bs : List UInt8} {at_ : Nat} {n : Nat} (h : at_ + n ≤ bs.length) : takeB bs at_ 0 n = (bs.drop at_).take n ∧ takeA bs at_ 0 n = at_ + n ∧ takeE bs at_ 0 n = 0 := by
  refine ⟨?_, ?_, ?_⟩
  · rw [takeB, if_pos (by omega)]; simp
  · rw [takeA, if_pos (by omega)]; simp
  · rw [takeE, if_pos rfl, if_neg (by omega), if_neg (by omega)]

def gOp (bs : List UInt8) : Nat := be ((bs.drop 6).take 2)
def gFi (bs : List UInt8) : Nat := be ((bs.drop 14).take 4)
def gTi (bs : List UInt8) : Nat := be ((bs.drop 24).take 4)
def gF (bs : List UInt8) : List UInt8 := (bs.drop 8).take 6
def gT (bs : List UInt8) : List UInt8 := (bs.drop 18).take 6
def gOk (bs : List UInt8) : Bool := mEq (bs.take 6) aheadL && mayR (gOp bs : Nat)
def getV (bs : List UInt8) : Array Value := if 28 ≤ bs.length ∧ gOk bs = true then pkA (gOp bs : Nat) (gFi bs : Nat) (gTi bs : Nat) (gF bs) (gT bs) else pkA 0 0 0 [] []
def getE (bs : List UInt8) : Int := if bs.length < 28 then 4 else if gOk bs = true then 0 else 5

theorem gtake (bs : List UInt8) (a n c : Nat) (z : Int) (h : c ≤ bs.length) (hc : c = a + n) (hz : z = (n : Int)) : takeB bs a 0 z = (bs.drop a).take n ∧ takeA bs a 0 z = c ∧ takeE bs a 0 z = 0 := by
  subst hc; subst hz; exact take_ok h
theorem pkSize : (Tryd.prog.info? 28).map (·.size) = some 15 := by kernel_rfl
theorem macV_lit (l : List UInt8) : macV l = #[bv (byteAt l 0), bv (byteAt l 1), bv (byteAt l 2), bv (byteAt l 3), bv (byteAt l 4), bv (byteAt l 5)] := rfl

section
variable {w : World} {v : Value} {bs : List UInt8}
set_option maxHeartbeats 4000000 in
theorem arpget_any (r : Rd w v bs) (hn : bs.length ≤ 140737488351232) (ha : Ah w) :
    Calls Tryd.prog 13 #[v] w fun x w' => x = .returned (.tuple #[.agg (getV bs), .int .i64 (getE bs)]) ∧ Keep No w w' := by
  have hlen : ∀ wx, (Builtin.len_ #[33] 3 #[v]).run Tryd.prog wx = .ok (.int .i64 (bs.length : Int)) wx := fun wx => r.run_len bt.sl
  by_cases h28 : bs.length < 28
  · have hb : ((bs.length : Int) < 28) := by omega
    have e1 : getV bs = pkA 0 0 0 [] [] := by rw [getV, if_neg (by omega)]
    have e2 : getE bs = 4 := by rw [getE, if_pos h28]
    rw [e1, e2]
    clear e1 e2
    go_enter Tryd.func13, Tryd.ntmps13
    go_wp2_with fail
    refine bodyPost_ret (v := .tuple #[.agg (pkA 0 0 0 [] []), .int .i64 4]) ?_ rfl ⟨rfl, (Keep.refl _ _).alloc _⟩
    simp [results, Tryd.results13, go_sem, byteAt, pkA]
  · have hb : ¬ ((bs.length : Int) < 28) := by omega
    go_enter Tryd.func13, Tryd.ntmps13
    go_wp2_with fail
    have gA := heap_alloc_new w (.cells #[.int .u16 0, .int .u8 0, .int .u8 0, .int .u8 0, .int .u8 0, .int .u8 0, .int .u8 0, .int .u32 0, .int .u8 0, .int .u8 0, .int .u8 0, .int .u8 0, .int .u8 0, .int .u8 0, .int .u32 0] 28)
    refine (new_any (r.keep0 ((Keep.refl _ _).alloc _)) hn).mono ?_
    rintro x w1 ⟨p, sv, rfl, cu1, k1, hp, hsv⟩
    go_wp2_with fail
    have t := take_ok (bs := bs) (at_ := 0) (n := 6) (by omega)
    change takeB bs 0 0 6 = _ ∧ takeA bs 0 0 6 = 6 ∧ takeE bs 0 0 6 = _ at t
    refine (take_any cu1 6).mono ?_
    rintro x w2 ⟨v', rfl, tk⟩
    obtain ⟨own, hsin, cu2, k2⟩ := tk
    rw [t.2.1, t.2.2] at cu2
    rw [t.1, List.drop_zero] at own
    clear t
    have h6 : (bs.take 6).length = 6 := by simp; omega
    have rd2 := own.rd
    obtain ⟨g2, c2, rfl⟩ := own.form (by omega)
    rw [h6]
    have d0 := rd2.cell 0 (by omega)
    have d1 := rd2.cell 1 (by omega)
    have d2 := rd2.cell 2 (by omega)
    have d3 := rd2.cell 3 (by omega)
    have d4 := rd2.cell 4 (by omega)
    have d5 := rd2.cell 5 (by omega)
    simp only [blk, offs] at d0 d1 d2 d3 d4 d5
    have harr : ∀ (g : Addr) (c : Nat) (wx : World), (Instr.arrayAt 23 (.slice (some g) 6 c)).run Tryd.prog wx = .ok (.pointer (some g)) wx := fun g c wx => by
      simp [Instr.arrayAt, run_underlying Tryd.underlying23]
    go_wp2_with fail
    have gB := heap_alloc_new w2 (.cells (macV (bs.take 6)) 23)
    have k3 : Keep No w2 (w2.alloc (.cells (macV (bs.take 6)) 23)) := (Keep.refl _ _).alloc _
    simp only [macV] at gB k3
    generalize w2.alloc _ = w3 at *
    have q1 := gtake bs 6 2 8 2 (by omega) rfl rfl
    have q2 := gtake bs 8 6 14 6 (by omega) rfl rfl
    have q3 := gtake bs 14 4 18 4 (by omega) rfl rfl
    have q4 := gtake bs 18 6 24 6 (by omega) rfl rfl
    have q5 := gtake bs 24 4 28 4 (by omega) rfl rfl
    refine (two_any (cu2.keep0 k3)).mono ?_
    rintro x w4 ⟨rfl, cu4, k4⟩
    rw [q1.2.1, q1.2.2] at cu4
    rw [q1.1, show be (List.take 2 (List.drop 6 bs)) = gOp bs from rfl]
    go_wp2_with fail
    refine (cmac_any cu4).mono ?_
    rintro x w5 ⟨rfl, cu5, k5⟩
    rw [q2.2.1, q2.2.2] at cu5
    rw [q2.1, show List.take 6 (List.drop 8 bs) = gF bs from rfl, macV_lit]
    go_wp2_with fail
    refine (four_any cu5).mono ?_
    rintro x w6 ⟨rfl, cu6, k6⟩
    rw [q3.2.1, q3.2.2] at cu6
    rw [q3.1, show be (List.take 4 (List.drop 14 bs)) = gFi bs from rfl]
    go_wp2_with fail
    refine (cmac_any cu6).mono ?_
    rintro x w7 ⟨rfl, cu7, k7⟩
    rw [q4.2.1, q4.2.2] at cu7
    rw [q4.1, show List.take 6 (List.drop 18 bs) = gT bs from rfl, macV_lit]
    go_wp2_with fail
    refine (four_any cu7).mono ?_
    rintro x w8 ⟨rfl, cu8, k8⟩
    rw [q5.1, show be (List.take 4 (List.drop 24 bs)) = gTi bs from rfl]
    clear q1 q2 q3 q4 q5 cu4 cu5 cu6 cu7 cu8
    have k38 : Keep (One p) w3 w8 := k4.trans (k5.trans (k6.trans (k7.trans k8)))
    have p2 := cu2.lt
    have gB8 := (k38.block w2.heap.size (heap_lt gB) (by intro (hh : _ = p); omega)).trans gB
    have kA : Keep (One p) (w.alloc (.cells #[.int .u16 0, .int .u8 0, .int .u8 0, .int .u8 0, .int .u8 0, .int .u8 0, .int .u8 0, .int .u32 0, .int .u8 0, .int .u8 0, .int .u8 0, .int .u8 0, .int .u8 0, .int .u8 0, .int .u32 0] 28)) w8 := k1.no.trans (k2.trans (k3.no.trans k38))
    simp at hp
    have gA8 := (kA.block w.heap.size (by simp) (by intro (hh : _ = p); omega)).trans gA
    have kW : Keep No w w8 := ((Keep.refl No w).alloc _).trans' kA (by intro i hi (hh : i = p); omega)
    have h8 := ha.keep0 kW
    have b0 := fun o => cells_of (alloc_keeps gB8 o) 0
    have b1 := fun o => cells_of (alloc_keeps gB8 o) 1
    have b2 := fun o => cells_of (alloc_keeps gB8 o) 2
    have b3 := fun o => cells_of (alloc_keeps gB8 o) 3
    have b4 := fun o => cells_of (alloc_keeps gB8 o) 4
    have b5 := fun o => cells_of (alloc_keeps gB8 o) 5
    simp at b0 b1 b2 b3 b4 b5
    have a0 := fun o => (h8.keep0 ((Keep.refl No w8).alloc o)).c 0 (by decide)
    have a1 := fun o => (h8.keep0 ((Keep.refl No w8).alloc o)).c 1 (by decide)
    have a2 := fun o => (h8.keep0 ((Keep.refl No w8).alloc o)).c 2 (by decide)
    have a3 := fun o => (h8.keep0 ((Keep.refl No w8).alloc o)).c 3 (by decide)
    have a4 := fun o => (h8.keep0 ((Keep.refl No w8).alloc o)).c 4 (by decide)
    have a5 := fun o => (h8.keep0 ((Keep.refl No w8).alloc o)).c 5 (by decide)
    clear gA gB gB8 kA k38 k1 k2 k3 k4 k5 k6 k7 k8 cu1 cu2 d0 d1 d2 d3 d4 d5 r rd2 own hlen
    cases hm : mEq (bs.take 6) aheadL with
    | false =>
      have e1 : getV bs = pkA 0 0 0 [] [] := by rw [getV, if_neg (by simp [gOk, hm])]
      have e2 : getE bs = 5 := by rw [getE, if_neg h28, if_neg (by simp [gOk, hm])]
      have HE1 := Lib.hid e1
      have HE2 := Lib.hid e2
      clear e1 e2
      unfold mEq at hm
      have hres := fun o => setRow_heap _ _ _ #[.int .u16 0, .int .u8 0, .int .u8 0, .int .u8 0, .int .u8 0, .int .u8 0, .int .u8 0, .int .u32 0, .int .u8 0, .int .u8 0, .int .u8 0, .int .u8 0, .int .u8 0, .int .u8 0, .int .u32 0] _ _ (alloc_keeps gA8 o)
      go_wp2_with (refine wpList_store_any rfl rfl (by rfl) (by rfl) (alloc_keeps gA8 _) pkSize (by rfl) (by rfl) (by rfl) ?_)
      refine bodyPost_ret (v := .tuple #[.agg (pkA 0 0 0 [] []), .int .i64 5]) ?_ rfl ⟨by rw [HE1.out, HE2.out], ?_⟩
      · exact results_row_tmp (P := Tryd.prog) Tryd.results13 rfl rfl (hres _) Tryd.underlying28 rfl rfl
      · exact (kW.alloc _).row (fun h => absurd h (by simp)) _
    | true =>
      unfold mEq at hm
      go_wp2_with fail
      refine (may_any _ (gOp bs : Nat) (gFi bs : Nat) (gTi bs : Nat) (gF bs) (gT bs)).mono ?_
      rintro x w9 ⟨rfl, k9⟩
      have kW9 := (kW.alloc _).trans k9
      have gA9 := (k9.block w.heap.size (heap_lt (alloc_keeps gA8 _)) (fun h => h)).trans (alloc_keeps gA8 _)
      have gC9 := (k9.block w8.heap.size (by simp) (fun h => h)).trans (heap_alloc_new w8 _)
      cases hy : mayR (gOp bs : Nat) with
      | false =>
        have e1 : getV bs = pkA 0 0 0 [] [] := by rw [getV, if_neg (by simp [gOk, hy])]
        have e2 : getE bs = 5 := by rw [getE, if_neg h28, if_neg (by simp [gOk, hy])]
        have HE1 := Lib.hid e1
        have HE2 := Lib.hid e2
        have hres := setRow_heap _ _ _ #[.int .u16 0, .int .u8 0, .int .u8 0, .int .u8 0, .int .u8 0, .int .u8 0, .int .u8 0, .int .u32 0, .int .u8 0, .int .u8 0, .int .u8 0, .int .u8 0, .int .u8 0, .int .u8 0, .int .u32 0] _ _ gA9
        have y := cells_of gC9
        clear e1 e2 gC9
        go_wp2_with (refine wpList_store_any rfl rfl (by rfl) (by rfl) gA9 pkSize (by rfl) (by rfl) (by rfl) ?_)
        refine bodyPost_ret (v := .tuple #[.agg (pkA 0 0 0 [] []), .int .i64 5]) ?_ rfl ⟨by rw [HE1.out, HE2.out], ?_⟩
        · exact results_row_tmp (P := Tryd.prog) Tryd.results13 rfl rfl hres Tryd.underlying28 rfl rfl
        · exact kW9.row (fun h => absurd h (by simp)) _
      | true =>
        have e1 : getV bs = pkA (gOp bs : Nat) (gFi bs : Nat) (gTi bs : Nat) (gF bs) (gT bs) := by rw [getV, if_pos ⟨by omega, by rw [gOk, hy, show mEq (bs.take 6) aheadL = true from hm]; rfl⟩]
        have e2 : getE bs = 0 := by rw [getE, if_neg h28, if_pos (by rw [gOk, hy, show mEq (bs.take 6) aheadL = true from hm]; rfl)]
        have HE1 := Lib.hid e1
        have HE2 := Lib.hid e2
        have hres := setRow_heap _ _ _ #[.int .u16 (gOp bs : Nat), bv (byteAt (gF bs) 0), bv (byteAt (gF bs) 1), bv (byteAt (gF bs) 2), bv (byteAt (gF bs) 3), bv (byteAt (gF bs) 4), bv (byteAt (gF bs) 5), .int .u32 (gFi bs : Nat), bv (byteAt (gT bs) 0), bv (byteAt (gT bs) 1), bv (byteAt (gT bs) 2), bv (byteAt (gT bs) 3), bv (byteAt (gT bs) 4), bv (byteAt (gT bs) 5), .int .u32 (gTi bs : Nat)] _ _ gA9
        have y := cells_of gC9
        clear e1 e2 gC9
        go_wp2_with (refine wpList_store_any rfl rfl (by rfl) (by rfl) gA9 pkSize (by rfl) (by rfl) (by rfl) ?_)
        refine bodyPost_ret (v := .tuple #[.agg (pkA (gOp bs : Nat) (gFi bs : Nat) (gTi bs : Nat) (gF bs) (gT bs)), .int .i64 0]) ?_ rfl ⟨by rw [HE1.out, HE2.out], ?_⟩
        · exact results_row_tmp (P := Tryd.prog) Tryd.results13 rfl rfl hres Tryd.underlying28 rfl rfl
        · exact kW9.row (fun h => absurd h (by simp)) _
end
end Go.Proofs.YtpididcghilbjaaDoor
