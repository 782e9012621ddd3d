/-
  tollref03's Read: the same as tag's. Condition: at most 2^40 bytes.
-/
import Derived.Test.YtcimfojbggckhaaDoorTagRead
namespace Go.Proofs.YtcimfojbggckhaaDoor
open Go.RowKit

theorem be_two {cs : List UInt8} {k : Nat} (h : k + 2 ≤ cs.length) : be ((cs.drop k).take 2) = 256 * (byteAt cs k).toNat + (byteAt cs (k + 1)).toNat := by
  have e0 : cs.drop k = byteAt cs k :: cs.drop (k + 1) := by rw [byteAt_eq (by omega), List.drop_eq_getElem_cons (by omega)]
  have e1 : cs.drop (k + 1) = byteAt cs (k + 1) :: cs.drop (k + 2) := by rw [byteAt_eq (by omega), List.drop_eq_getElem_cons (by omega)]
  rw [e0, e1]
  simp [be]
  omega
noncomputable abbrev rrC : Code := bodyOf Tryd.f35
noncomputable abbrev rrN : Nat := Tryd.f35.ntmps
structure ReadRR (w : World) (v0 : Value) (bs : List UInt8) (v u : Value) (w' : World) : Prop where
  rt : Rt w' v (readT 3 [] bs).1
  rd : ∀ wx, Rd wx v0 bs → Rd wx u (readT 3 [] bs).2.1
  keep : Keep No w w'
  sv : Since w.heap.size v
  lv : Under w'.heap.size v
abbrev rrQ (w : World) (v0 : Value) (bs : List UInt8) : Ending → World → Prop := fun x w' => ∃ v u, x = .returned (.tuple #[v, u, .int .i64 ((readT 3 [] bs).2.2 : Nat)]) ∧ ReadRR w v0 bs v u w'
noncomputable def rrLp (i : RdI) (w' : World) : Cfg := ⟨frOf [0, 5] [i.vb, i.vl], tagL [], ⟨[], w'.heap.size⟩, atL rrC 2⟩
structure RrJ (w : World) (v0 : Value) (bs : List UInt8) (i : RdI) (w' : World) : Prop where
  W : Wst w ⟨[], w'.heap.size⟩ w'
  l2 : i.l.length ≤ 2
  ot : Ot 72 w' i.vl i.l
  si : Since w.heap.size i.vl
  rd : ∀ wx, Rd wx v0 bs → Rd wx i.vb i.cs
  len : i.cs.length ≤ 1099511627776
  eq : readT 3 [] bs = readT (3 - i.l.length) i.l i.cs
noncomputable def rrR (w : World) (v0 : Value) (bs : List UInt8) (i : RdI) : Act → World → Prop := fun a' w' => ∃ j : RdI, 2 - j.l.length < 2 - i.l.length ∧ RrJ w v0 bs j w' ∧ agrees rrN (rrLp j w') a'
section
variable {w : World} {bs : List UInt8} {v0 : Value}
theorem rr_end {i : RdI} {w3 w9 : World} {m9 : Mem} (hot : Ot 72 w3 i.vl i.l) (hsi : Since w.heap.size i.vl) (hrd : ∀ wx, Rd wx v0 bs → Rd wx i.vb i.cs) (heq : readT 3 [] bs = (i.l, i.cs, 0)) (hW9 : Wst w m9 w9) (hS9 : Seg ⟨[], w3.heap.size⟩ w3 m9 w9) :
    rrQ w v0 bs (.returned (.tuple #[i.vl, i.vb, .int .i64 0])) w9 := by
  have h := hot.walk (rows := []) (since_loose hsi rfl) hS9
  exact ⟨i.vl, i.vb, by rw [heq]; rfl, by rw [heq]; exact h.rt, by rw [heq]; exact hrd, hW9.keep, hsi, h.lt⟩
/-- When the reference stops. -/
def rrBrk (k n : Nat) : Bool := ((k : Int) != 33024) && (((k : Int) != 34984) || ((n : Int) == 1))
theorem begB_ref {cs : List UInt8} {n : Nat} (h2 : 2 ≤ cs.length) (hn : n < 2) : begB cs n = !rrBrk (be (cs.take 2)) n := by
  have e : begB cs n = (kindsL n).contains ((be (cs.take 2) : Nat) : Int) := by simp [begB, h2, hn]
  rw [e]
  unfold rrBrk
  generalize ((be (cs.take 2) : Nat) : Int) = k at *
  match n, hn with
  | 0, _ =>
    simp only [kindsL, List.contains_cons, List.contains_nil, Bool.or_false]
    by_cases h1 : k = 34984
    · subst h1; rfl
    · by_cases h2 : k = 33024
      · subst h2; rfl
      · simp only [bne, beq_eq_false_iff_ne.2 h1, beq_eq_false_iff_ne.2 h2]; rfl
  | 1, _ =>
    simp only [kindsL, List.contains_cons, List.contains_nil, Bool.or_false]
    by_cases h2 : k = 33024
    · subst h2; rfl
    · simp only [bne, beq_eq_false_iff_ne.2 h2]; cases (k == 34984) <;> rfl
set_option maxRecDepth 4000 in
theorem rr_tail (i : RdI) {f : Nat} (hf : 3 - i.l.length = f + 1) (hl : i.l.length < 2) (h2 : 2 ≤ i.cs.length) (hsi : Since w.heap.size i.vl) (r0 : Rd w v0 bs) (hrd' : ∀ wx, Rd wx v0 bs → Rd wx i.vb i.cs) (hlen : i.cs.length ≤ 1099511627776)
    (heq : readT 3 [] bs = (if i.cs.length < 4 then ([], [], 4) else readT f (i.l ++ [tgN (be (i.cs.take 2)) (be ((i.cs.drop 2).take 2))]) (i.cs.drop 4))) {w2 : World} (hW2 : Wst w ⟨[], w2.heap.size⟩ w2) (ot2 : Ot 72 w2 i.vl i.l) :
    Goal Tryd.prog (bodyPost Tryd.prog Tryd.f35 (rrQ w v0 bs)) rrN ⟨frOf [0, 5, 6] [i.vb, i.vl, .int .i64 (be (i.cs.take 2) : Nat)], tagL [], ⟨[], w2.heap.size⟩, opsR rrC 5 (.inv (rrR w v0 bs i))⟩ w2 := by
  have hrd := hrd' w r0
  have sb : ∀ wx : World, (Builtin.len_ #[26] 3 #[i.vb]).run Tryd.prog wx = .ok (.int .i64 (i.cs.length : Int)) wx := fun wx => hrd.run_len (ty := 3) bt.sl
  by_cases h4 : i.cs.length < 4
  · rw [if_pos h4] at heq
    refine go_ret (gt := fun _ => Option.none) (unroll := false) 60 [(5, 1, .sem (.int .i64 (i.cs.length : Int))), (5, 2, .is (.bool true))] [.tmp 2, .tmp 3, .tmp 4] (.tuple #[.slice none 0 0, .slice none 0 0, .int .i64 4]) [(.bool (decide ((i.cs.length : Int) < 4)), .bool true)] [(Builtin.len_ #[26] 3 #[i.vb], .int .i64 (i.cs.length : Int))] hW2 Tryd.results35 (by kernel_rfl)
      ⟨congrArg Value.bool (by simp; omega), trivial⟩ ⟨fun wx _ => sb wx, trivial⟩ ?_
    intro w9 hW9 _
    exact ⟨_, _, by rw [heq]; rfl, by rw [heq]; exact Rt.nil _, by rw [heq]; exact fun _ _ => Rd.nil _, hW9.keep, fun b h => by simp [Value.ownBlock] at h, fun b h => by simp [Value.ownBlock] at h⟩
  · rw [if_neg h4] at heq
    have hk2 : be ((i.cs.drop 2).take 2) = 256 * (byteAt i.cs 2).toNat + (byteAt i.cs 3).toNat := be_two (k := 2) (by omega)
    have hkd : be (i.cs.take 2) < 65536 := be_small (n := 2) (by simp; omega)
    have b0 := byteAt_lt i.cs 2
    have b1 := byteAt_lt i.cs 3
    generalize hN : be ((i.cs.drop 2).take 2) = nn at *
    generalize hK : be (i.cs.take 2) = kd at *
    have hk2' : 256 * bn i.cs 2 + bn i.cs 3 = (nn : Int) := by simp only [bn]; omega
    have hnn : nn < 65536 := by omega
    refine go_drawn_is (gt := fun _ => Option.none) (unroll := false) 60 [(5, 1, .sem (.int .i64 (i.cs.length : Int))), (5, 2, .is (.bool false))]
      [(.bool (decide ((i.cs.length : Int) < 4)), .bool false)] [(Builtin.len_ #[26] 3 #[i.vb], .int .i64 (i.cs.length : Int))]
      [(1, .sem (.pointer (some (adr i.vb 2)))), (2, .sem (bv (byteAt i.cs 2))), (3, .is (.int .i64 (bn i.cs 2))), (4, .is (.int .i64 (256 * bn i.cs 2))), (6, .sem (.pointer (some (adr i.vb 3)))), (7, .sem (bv (byteAt i.cs 3))), (8, .is (.int .i64 (bn i.cs 3))), (9, .is (.int .i64 (nn : Int)))]
      [0, 5, 6, 7] [i.vb, i.vl, .int .i64 (kd : Int), .int .i64 (nn : Int)] [] [] (afterR rrC 7 (.inv (rrR w v0 bs i)))
      [(.int .i64 (IntKind.i64.wrap (bn i.cs 2)), .int .i64 (bn i.cs 2)), (.int .i64 (IntKind.i64.wrap (256 * bn i.cs 2)), .int .i64 (256 * bn i.cs 2)), (.int .i64 (IntKind.i64.wrap (bn i.cs 3)), .int .i64 (bn i.cs 3)), (.int .i64 (IntKind.i64.wrap (256 * bn i.cs 2 + bn i.cs 3)), .int .i64 (nn : Int))] [] []
      [(Instr.indexAt 26 i.vb (.int .i64 2), .pointer (some (adr i.vb 2))), (Instr.loadAt 5 (.pointer (some (adr i.vb 2))), bv (byteAt i.cs 2)), (Instr.indexAt 26 i.vb (.int .i64 3), .pointer (some (adr i.vb 3))), (Instr.loadAt 5 (.pointer (some (adr i.vb 3))), bv (byteAt i.cs 3))]
      hW2 (by kernel_rfl) (by kernel_rfl) (by kernel_rfl) ⟨congrArg Value.bool (by simp; omega), trivial⟩ ⟨fun wx _ => sb wx, trivial⟩
      ⟨congrArg (Value.int .i64) (i64_small (bn_lt _ _).1 (by have := bn_lt i.cs 2; omega)), congrArg (Value.int .i64) (i64_small (by have := bn_lt i.cs 2; omega) (by have := bn_lt i.cs 2; omega)), congrArg (Value.int .i64) (i64_small (bn_lt _ _).1 (by have := bn_lt i.cs 3; omega)), congrArg (Value.int .i64) (by rw [hk2']; exact i64_small (by omega) (by omega)), trivial⟩ ?_
    intro w3 hW3 hS3
    have r3 : ∀ wx, Keep No w3 wx → Rd wx i.vb i.cs := fun wx k => hrd.keep0 (hW3.keep.trans k)
    refine ⟨trivial, trivial, ⟨fun wx k => hrd.sem_at (i := 2) (by omega) wx, fun wx k => (r3 wx k).sem_ld (i := 2) (by omega), fun wx k => hrd.sem_at (i := 3) (by omega) wx, fun wx k => (r3 wx k).sem_ld (i := 3) (by omega), trivial⟩, ?_⟩
    intro w4 k4 hW4 hS4
    have ot4 := ot2.walk (rows := []) (since_loose hsi rfl) hS4
    refine go_appX (gt := fun _ => Option.none) (unroll := false) 80 [(8, 2, .is (.int .u16 (kd : Int))), (8, 4, .is (.int .i64 ((nn / 8192 : Nat) : Int))), (8, 5, .is (.int .u8 ((nn / 8192 : Nat) : Int))), (8, 7, .is (.int .i64 ((nn / 4096 : Nat) : Int))), (8, 8, .is (.int .i64 ((nn / 4096 % 2 : Nat) : Int))), (8, 9, .is (.bool (nn / 4096 % 2 == 1))), (8, 11, .is (.int .i64 ((nn % 4096 : Nat) : Int))), (8, 12, .is (.int .u16 ((nn % 4096 : Nat) : Int))), (8, 15, .stop)]
      i.vl (.slice (some ⟨w4.heap.size, 0, none⟩) 1 1) 30 [0] [i.vb] 65 [⟨w4.heap.size, (tgN kd nn).a.toList, true⟩] [] (inR rrC 8 15 (.inv (rrR w v0 bs i)))
      [(.int .u16 (IntKind.u16.wrap (kd : Int)), .int .u16 (kd : Int)), (.int .i64 (IntKind.i64.wrap (Int.tdiv (nn : Int) 8192)), .int .i64 ((nn / 8192 : Nat) : Int)), (.int .u8 (IntKind.u8.wrap ((nn / 8192 : Nat) : Int)), .int .u8 ((nn / 8192 : Nat) : Int)), (.int .i64 (IntKind.i64.wrap (Int.tdiv (nn : Int) 4096)), .int .i64 ((nn / 4096 : Nat) : Int)),
        (.int .i64 (Int.tmod ((nn / 4096 : Nat) : Int) 2), .int .i64 ((nn / 4096 % 2 : Nat) : Int)), (.bool (((nn / 4096 % 2 : Nat) : Int) == 1), .bool (nn / 4096 % 2 == 1)), (.int .i64 (Int.tmod (nn : Int) 4096), .int .i64 ((nn % 4096 : Nat) : Int)), (.int .u16 (IntKind.u16.wrap ((nn % 4096 : Nat) : Int)), .int .u16 ((nn % 4096 : Nat) : Int))] []
      hW4 (by kernel_rfl) ⟨congrArg (Value.int .u16) (u16_nat hkd), ?_, congrArg (Value.int .u8) (IntWalk.u8_in _ (by omega)), ?_, congrArg (Value.int .i64) (rem_nat _ 2), ?_, congrArg (Value.int .i64) (rem_nat _ 4096), congrArg (Value.int .u16) (u16_nat (by omega)), trivial⟩ trivial ?_
    · apply congrArg (Value.int .i64)
      rw [show Int.tdiv (nn : Int) 8192 = ((nn / 8192 : Nat) : Int) from quo_nat nn 8192]
      exact i64_small (by omega) (by omega)
    · apply congrArg (Value.int .i64)
      rw [show Int.tdiv (nn : Int) 4096 = ((nn / 4096 : Nat) : Int) from quo_nat nn 4096]
      exact i64_small (by omega) (by omega)
    · apply congrArg Value.bool
      have : nn / 4096 % 2 = 0 ∨ nn / 4096 % 2 = 1 := by omega
      rcases this with h | h <;> rw [h] <;> rfl
    intro w5 hW5 hS5
    have ot5 := ot4.walk (rows := []) (since_loose hsi rfl) hS5
    obtain ⟨tt, hrow⟩ := hW5.rows ⟨w4.heap.size, (tgN kd nn).a.toList, true⟩ (by simp)
    have r5 : Rt w5 (.slice (some ⟨w4.heap.size, 0, none⟩) 1 1) [tgN kd nn] := Rt.of_row (l := [tgN kd nn]) hrow (by simp [csT]) (by simp [maxLen])
    have hlo : Loose w ⟨[⟨w4.heap.size, (tgN kd nn).a.toList, true⟩], w5.heap.size⟩ (fun k => i.vl.ownBlock = some k) := hsi.loose fun b hb q hq => by
      have := ot4.lt b hb
      obtain rfl := List.mem_singleton.1 hq
      show w4.heap.size ≠ b; omega
    obtain ⟨vn, w6, ha, ho6, hW6, hl6, _⟩ := app_t ertt ot5 r5 (by simp; omega) hlo hW5
    refine ⟨vn, w6, ha, ?_⟩
    refine go_inv (gt := fun _ => Option.none) (unroll := false) 60 [(9, 1, .sem (cutv i.vb 4 i.cs.length))] [0, 5] [cutv i.vb 4 i.cs.length, vn] [⟨w4.heap.size, (tgN kd nn).a.toList, true⟩] (rrR w v0 bs i) [] [(Instr.sliceAt 26 i.vb (some (.int .i64 4)) Option.none Option.none, cutv i.vb 4 i.cs.length)] hW6 (by kernel_rfl)
      trivial ⟨fun wx _ => hrd.sem_cutL (k := 4) (by omega) wx, trivial⟩ ?_
    intro w7 a hW7 hS7 hs
    have hsn : Since w.heap.size vn := fun b hb => (hl6 b hb).1
    refine ⟨⟨cutv i.vb 4 i.cs.length, i.cs.drop 4, vn, i.l ++ [tgN kd nn]⟩, by simp; omega, ⟨hW7.fewer (rows := []), by simp; omega, ho6.walk hl6 hS7, hsn, ?_, by simp; omega, ?_⟩, hs⟩
    · intro wx hx
      have := (hrd' wx hx).cut (l := 4) (h := i.cs.length) (by omega) (Nat.le_refl _)
      rwa [List.take_of_length_le (by simp)] at this
    · rw [heq]
      simp only [List.length_append, List.length_singleton]
      congr 1
      omega
set_option maxRecDepth 4000 in
theorem rr_round (r0 : Rd w v0 bs) (i : RdI) (w' : World) (hJ : RrJ w v0 bs i w') :
    Goal Tryd.prog (bodyPost Tryd.prog Tryd.f35 (rrQ w v0 bs)) rrN { rrLp i w' with todo := .code (loopOf (atL rrC 2)) :: .inv (rrR w v0 bs i) :: (atL rrC 2).tail } w' := by
  obtain ⟨hW, hl2, hot, hsi, hrd', hlen, heq⟩ := hJ
  have hrd := hrd' w r0
  unfold rrLp
  obtain ⟨f, hf⟩ : ∃ f, 3 - i.l.length = f + 1 := ⟨2 - i.l.length, by omega⟩
  have hst : readT (f + 1) i.l i.cs = (if begB i.cs i.l.length then if i.cs.length < 4 then ([], [], 4) else readT f (i.l ++ [tgN (be (i.cs.take 2)) (be ((i.cs.drop 2).take 2))]) (i.cs.drop 4) else (i.l, i.cs, 0)) := rfl
  rw [hf, hst] at heq
  have sl : ∀ wx : World, (Builtin.len_ #[30] 3 #[i.vl]).run Tryd.prog wx = .ok (.int .i64 (i.l.length : Int)) wx := fun wx => hot.rt.sem_len ertt (ty := 3) wx
  have sb : ∀ wx : World, (Builtin.len_ #[26] 3 #[i.vb]).run Tryd.prog wx = .ok (.int .i64 (i.cs.length : Int)) wx := fun wx => hrd.run_len (ty := 3) bt.sl
  by_cases hl : i.l.length < 2
  · by_cases h2 : 2 ≤ i.cs.length
    · have r' : ∀ wx, Keep No w' wx → Rd wx i.vb i.cs := fun wx k => hrd.keep0 (hW.keep.trans k)
      have hk2 := be_two (cs := i.cs) (k := 0) (by omega)
      rw [List.drop_zero, Nat.zero_add] at hk2
      have b0 := byteAt_lt i.cs 0
      have b1 := byteAt_lt i.cs 1
      have hbeg := begB_ref h2 hl
      generalize hK : be (i.cs.take 2) = kd at *
      have hk2' : 256 * bn i.cs 0 + bn i.cs 1 = (kd : Int) := by simp only [bn]; omega
      refine go_drawn_is (gt := fun _ => Option.none) (unroll := false) 60 [(2, 1, .sem (.int .i64 (i.l.length : Int))), (2, 2, .is (.bool true)), (2, 5, .sem (.int .i64 (i.cs.length : Int))), (2, 6, .is (.bool true))]
        [(.bool (decide ((i.l.length : Int) < 2)), .bool true), (.bool (decide ((i.cs.length : Int) ≥ 2)), .bool true)] [(Builtin.len_ #[30] 3 #[i.vl], .int .i64 (i.l.length : Int)), (Builtin.len_ #[26] 3 #[i.vb], .int .i64 (i.cs.length : Int))]
        [(1, .sem (.pointer (some (adr i.vb 0)))), (2, .sem (bv (byteAt i.cs 0))), (3, .is (.int .i64 (bn i.cs 0))), (4, .is (.int .i64 (256 * bn i.cs 0))), (6, .sem (.pointer (some (adr i.vb 1)))), (7, .sem (bv (byteAt i.cs 1))), (8, .is (.int .i64 (bn i.cs 1))), (9, .is (.int .i64 (kd : Int)))]
        [0, 5, 6] [i.vb, i.vl, .int .i64 (kd : Int)] [] [] (afterR rrC 3 (.inv (rrR w v0 bs i)))
        [(.int .i64 (IntKind.i64.wrap (bn i.cs 0)), .int .i64 (bn i.cs 0)), (.int .i64 (IntKind.i64.wrap (256 * bn i.cs 0)), .int .i64 (256 * bn i.cs 0)), (.int .i64 (IntKind.i64.wrap (bn i.cs 1)), .int .i64 (bn i.cs 1)), (.int .i64 (IntKind.i64.wrap (256 * bn i.cs 0 + bn i.cs 1)), .int .i64 (kd : Int))] [] []
        [(Instr.indexAt 26 i.vb (.int .i64 0), .pointer (some (adr i.vb 0))), (Instr.loadAt 5 (.pointer (some (adr i.vb 0))), bv (byteAt i.cs 0)), (Instr.indexAt 26 i.vb (.int .i64 1), .pointer (some (adr i.vb 1))), (Instr.loadAt 5 (.pointer (some (adr i.vb 1))), bv (byteAt i.cs 1))]
        hW (by kernel_rfl) (by kernel_rfl) (by kernel_rfl) ⟨congrArg Value.bool (by simp; omega), congrArg Value.bool (by simp; omega), trivial⟩ ⟨fun wx _ => sl wx, fun wx _ => sb wx, trivial⟩
        ⟨congrArg (Value.int .i64) (i64_small (bn_lt _ _).1 (by have := bn_lt i.cs 0; omega)), congrArg (Value.int .i64) (i64_small (by have := bn_lt i.cs 0; omega) (by have := bn_lt i.cs 0; omega)), congrArg (Value.int .i64) (i64_small (bn_lt _ _).1 (by have := bn_lt i.cs 1; omega)), congrArg (Value.int .i64) (by rw [hk2']; exact i64_small (by omega) (by have := bn_lt i.cs 0; have := bn_lt i.cs 1; omega)), trivial⟩ ?_
      intro w1 hW1 hS1
      have r1 : ∀ wx, Keep No w1 wx → Rd wx i.vb i.cs := fun wx k => hrd.keep0 (hW1.keep.trans k)
      refine ⟨trivial, trivial, ⟨fun wx k => hrd.sem_at (i := 0) (by omega) wx, fun wx k => (r1 wx k).sem_ld (i := 0) (by omega), fun wx k => hrd.sem_at (i := 1) (by omega) wx, fun wx k => (r1 wx k).sem_ld (i := 1) (by omega), trivial⟩, ?_⟩
      intro w2 k2 hW2 hS2
      have ot2 := hot.walk (rows := []) (since_loose hsi rfl) hS2
      have fin : rrBrk kd i.l.length = true → readT 3 [] bs = (i.l, i.cs, 0) := fun h => by
        rw [hbeg, h] at heq
        exact heq
      have goo : rrBrk kd i.l.length = false → readT 3 [] bs = (if i.cs.length < 4 then ([], [], 4) else readT f (i.l ++ [tgN kd (be ((i.cs.drop 2).take 2))]) (i.cs.drop 4)) := fun h => by
        rw [hbeg, h] at heq
        exact heq
      clear heq hbeg
      cases hX : ((kd : Int) != 33024) with
      | false =>
        refine go_stop (gt := fun _ => Option.none) (unroll := false) 60 [(4, 1, .is (.bool false)), (5, 0, .stop)] [0, 5, 6] [i.vb, i.vl, .int .i64 (kd : Int)] [] [] (opsR rrC 5 (.inv (rrR w v0 bs i))) [(.bool ((kd : Int) != 33024), .bool false)] [] hW2 (by kernel_rfl) ⟨congrArg Value.bool hX, trivial⟩ trivial ?_
        intro w3 hW3 hS3
        have ot3 := ot2.walk (rows := []) (since_loose hsi rfl) hS3
        have h := goo (by rw [rrBrk, hX]; rfl)
        subst hK
        exact rr_tail i hf hl h2 hsi r0 hrd' hlen h hW3 ot3
      | true =>
      cases hY : ((kd : Int) != 34984) with
      | true =>
        have h := fin (by rw [rrBrk, hX, hY]; rfl)
        exact go_ret (gt := fun _ => Option.none) (unroll := false) 60 [(4, 1, .is (.bool true)), (4, 4, .is (.bool true))] [.tmp 2, .tmp 3, .tmp 4] (.tuple #[i.vl, i.vb, .int .i64 0])
          [(.bool ((kd : Int) != 33024), .bool true), (.bool ((kd : Int) != 34984), .bool true)] [] hW2 Tryd.results35 (by kernel_rfl) ⟨congrArg Value.bool hX, congrArg Value.bool hY, trivial⟩ trivial (fun w9 hW9 hS9 => rr_end ot2 hsi hrd' h hW9 hS9)
      | false =>
      cases hZ : ((i.l.length : Int) == 1) with
      | true =>
        have h := fin (by rw [rrBrk, hX, hY, hZ]; rfl)
        exact go_ret (gt := fun _ => Option.none) (unroll := false) 60 [(4, 1, .is (.bool true)), (4, 4, .is (.bool false)), (4, 7, .sem (.int .i64 (i.l.length : Int))), (4, 8, .is (.bool true))] [.tmp 2, .tmp 3, .tmp 4] (.tuple #[i.vl, i.vb, .int .i64 0])
          [(.bool ((kd : Int) != 33024), .bool true), (.bool ((kd : Int) != 34984), .bool false), (.bool ((i.l.length : Int) == 1), .bool true)] [(Builtin.len_ #[30] 3 #[i.vl], .int .i64 (i.l.length : Int))] hW2 Tryd.results35 (by kernel_rfl)
          ⟨congrArg Value.bool hX, congrArg Value.bool hY, congrArg Value.bool hZ, trivial⟩ ⟨fun wx _ => sl wx, trivial⟩ (fun w9 hW9 hS9 => rr_end ot2 hsi hrd' h hW9 hS9)
      | false =>
        refine go_stop (gt := fun _ => Option.none) (unroll := false) 60 [(4, 1, .is (.bool true)), (4, 4, .is (.bool false)), (4, 7, .sem (.int .i64 (i.l.length : Int))), (4, 8, .is (.bool false)), (5, 0, .stop)] [0, 5, 6] [i.vb, i.vl, .int .i64 (kd : Int)] [] [] (opsR rrC 5 (.inv (rrR w v0 bs i)))
          [(.bool ((kd : Int) != 33024), .bool true), (.bool ((kd : Int) != 34984), .bool false), (.bool ((i.l.length : Int) == 1), .bool false)] [(Builtin.len_ #[30] 3 #[i.vl], .int .i64 (i.l.length : Int))] hW2 (by kernel_rfl) ⟨congrArg Value.bool hX, congrArg Value.bool hY, congrArg Value.bool hZ, trivial⟩ ⟨fun wx _ => sl wx, trivial⟩ ?_
        intro w3 hW3 hS3
        have ot3 := ot2.walk (rows := []) (since_loose hsi rfl) hS3
        have h := goo (by rw [rrBrk, hX, hY, hZ]; rfl)
        subst hK
        exact rr_tail i hf hl h2 hsi r0 hrd' hlen h hW3 ot3
    · rw [show begB i.cs i.l.length = false by simp [begB, h2]] at heq
      exact go_ret (gt := fun _ => Option.none) (unroll := false) 60 [(2, 1, .sem (.int .i64 (i.l.length : Int))), (2, 2, .is (.bool true)), (2, 5, .sem (.int .i64 (i.cs.length : Int))), (2, 6, .is (.bool false))] [.tmp 2, .tmp 3, .tmp 4] (.tuple #[i.vl, i.vb, .int .i64 0])
        [(.bool (decide ((i.l.length : Int) < 2)), .bool true), (.bool (decide ((i.cs.length : Int) ≥ 2)), .bool false)] [(Builtin.len_ #[30] 3 #[i.vl], .int .i64 (i.l.length : Int)), (Builtin.len_ #[26] 3 #[i.vb], .int .i64 (i.cs.length : Int))]
        hW Tryd.results35 (by kernel_rfl) ⟨congrArg Value.bool (by simp; omega), congrArg Value.bool (by simp; omega), trivial⟩ ⟨fun wx _ => sl wx, fun wx _ => sb wx, trivial⟩ (fun w9 hW9 hS9 => rr_end hot hsi hrd' heq hW9 hS9)
  · rw [show begB i.cs i.l.length = false by simp [begB, hl]] at heq
    exact go_ret (gt := fun _ => Option.none) (unroll := false) 60 [(2, 1, .sem (.int .i64 (i.l.length : Int))), (2, 2, .is (.bool false))] [.tmp 2, .tmp 3, .tmp 4] (.tuple #[i.vl, i.vb, .int .i64 0])
      [(.bool (decide ((i.l.length : Int) < 2)), .bool false)] [(Builtin.len_ #[30] 3 #[i.vl], .int .i64 (i.l.length : Int))]
      hW Tryd.results35 (by kernel_rfl) ⟨congrArg Value.bool (by simp; omega), trivial⟩ ⟨fun wx _ => sl wx, trivial⟩ (fun w9 hW9 hS9 => rr_end hot hsi hrd' heq hW9 hS9)
theorem refread_any {v : Value} (r : Rd w v bs) (hl : bs.length ≤ 1099511627776) : Calls Tryd.prog 35 #[v] w (rrQ w v bs) := by
  refine enter (args := [v]) Tryd.func35 (by kernel_rfl) ?_
  refine go_stop (gt := fun _ => Option.none) (unroll := false) 60 [] [0, 5] [v, .slice none 0 0] [] [] (atL rrC 2) [] [] (Wst.start0 w) (by kernel_rfl) trivial trivial ?_
  intro w1 hW1 _
  exact loop_okT (P := Tryd.prog) (Q := bodyPost Tryd.prog Tryd.f35 (rrQ w v bs)) (n := rrN) (x := loopOf (atL rrC 2)) (k := (atL rrC 2).tail) (fun i : RdI => 2 - i.l.length) rrLp (RrJ w v bs) (fun _ _ => by kernel_rfl) (fun i w' hJ => rr_round r i w' hJ) ⟨v, bs, .slice none 0 0, []⟩ w1
    ⟨hW1, by simp, Ot.nil _ _, fun b hb => by simp [Value.ownBlock] at hb, fun _ h => h, hl, rfl⟩
end
end Go.Proofs.YtcimfojbggckhaaDoor
