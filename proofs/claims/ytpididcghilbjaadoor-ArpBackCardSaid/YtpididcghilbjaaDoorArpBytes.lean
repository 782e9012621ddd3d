/-
  arp's Bytes. Condition: the numbers are of their kinds; the table of what stands ahead is as it was laid.
-/
import Derived.Test.YtpididcghilbjaaDoorPadM
import Derived.Test.YtpididcghilbjaaDoorArpGet
namespace Go.Proofs.YtpididcghilbjaaDoor
open Go.RowKit

/-- What lies in the pad behind each call. -/
def arpB (op fi ti : Nat) (f t : List UInt8) : Nat → List UInt8
  | 0 => []
  | 1 => aheadL
  | 2 => aheadL ++ [op].flatMap bytes2
  | 3 => aheadL ++ [op].flatMap bytes2 ++ [f].flatMap macL
  | 4 => aheadL ++ [op].flatMap bytes2 ++ [f].flatMap macL ++ [fi].flatMap bytes4
  | 5 => aheadL ++ [op].flatMap bytes2 ++ [f].flatMap macL ++ [fi].flatMap bytes4 ++ [t].flatMap macL
  | _ => aheadL ++ [op].flatMap bytes2 ++ [f].flatMap macL ++ [fi].flatMap bytes4 ++ [t].flatMap macL ++ [ti].flatMap bytes4
/-- A message's bytes. -/
def bytesR (op fi ti : Nat) (f t : List UInt8) : List UInt8 := if mayR (op : Int) = true then arpB op fi ti f t 6 else []
theorem arpB_len (op fi ti : Nat) (f t : List UInt8) (k : Nat) : (arpB op fi ti f t k).length ≤ 28 := by
  match k with
  | 0 | 1 | 2 | 3 | 4 | 5 => simp [arpB, aheadL, bytes2, bytes4, macL]
  | k + 6 => simp [arpB, aheadL, bytes2, bytes4, macL]
theorem ahead_rd {w : World} (h : Ah w) : Rd w (.slice (some ⟨0, 0, none⟩) 6 6) aheadL :=
  ⟨⟨_, 6, rfl, by decide, by decide, by simp, fun _ => ⟨_, _, rfl⟩⟩, fun i hi => by simpa [blk, offs] using h.c i hi⟩
noncomputable abbrev abB : Code := bodyOf Tryd.f17

theorem Own.same {e : TypeId} {w w' : World} {v : Value} {bs : List UInt8} (h : Own e w v bs) (hs : ∀ b, v.ownBlock = some b → w'.heap[b]? = w.heap[b]?) : Own e w' v bs := by
  obtain ⟨hl, h⟩ := h
  refine ⟨hl, ?_⟩
  rcases h with h | ⟨g, cap, cur, rfl, hb, hg, r⟩
  · exact .inl h
  · exact .inr ⟨g, cap, cur, rfl, hb, (hs g rfl).trans hg, r⟩
theorem mac_cells (f : List UInt8) : ∀ j, j < 1 * 6 → (macV f).toList[j]? = some (.int .u8 ((byteAt (([f] : List (List UInt8)).getD (j / 6) []) (j % 6)).toNat : Int)) := by
  intro j hj
  have : j = 0 ∨ j = 1 ∨ j = 2 ∨ j = 3 ∨ j = 4 ∨ j = 5 := by omega
  rcases this with rfl | rfl | rfl | rfl | rfl | rfl <;> rfl
theorem by_assign {P : Program} {S0 : Nat → Prop} {w0 : World} {t : Tmp} {ty : TypeId} {s : Sm} : ByM P S0 w0 (.assign (.tmp t)) ty [(t, s)] s := by
  intro a o g w ho hty k hb hr
  have h := hr (t, s) (by simp)
  unfold execOp
  rw [ho]
  exact ⟨Keep.refl _ _, h⟩
section
variable {w : World} {op fi ti : Nat} {f t : List UInt8}
theorem arpbytes_any (ho : op < 65536) (hfi : fi < 4294967296) (hti : ti < 4294967296) (ha : Ah w) :
    Calls Tryd.prog 17 #[.agg (pkA op fi ti f t)] w fun x w' => ∃ v, x = .returned v ∧ Fresh w (bytesR op fi ti f t) v w' := by
  refine enter (args := [.agg (pkA op fi ti f t)]) Tryd.func17 (by kernel_rfl) ?_
  refine go_call_is (gt := fun _ => Option.none) (unroll := true) 40 [] 18 [.agg (pkA op fi ti f t)] [1] [.pointer (some ⟨w.heap.size, 0, Option.none⟩)] 4 [⟨w.heap.size, (pkA op fi ti f t).toList, true⟩] [(1, 0)] (inR abB 1 1) [] [] (Wst.start0 w) (by kernel_rfl) trivial trivial ?_
  intro w1 hW1 hS1
  refine (may_any w1 op fi ti f t).mono ?_
  rintro x w2 ⟨rfl, k2⟩
  refine ⟨_, rfl, ?_⟩
  have hW2 := hW1.later k2
  cases hm : mayR (op : Int) with
  | false =>
    refine go_ret (gt := fun _ => Option.none) (unroll := true) 40 [] [.tmp 2] (.slice Option.none 0 0) [] [] hW2 Tryd.results17 (by kernel_rfl) trivial trivial ?_
    intro w3 hW3 _
    refine ⟨_, rfl, ?_⟩
    rw [bytesR, if_neg (by rw [hm]; simp)]
    exact ⟨Own.nil _ _, hW3.keep, fun b hb => by simp [Value.ownBlock] at hb⟩
  | true =>
    rw [bytesR, if_pos hm]
    refine go_stop (gt := fun _ => Option.none) (unroll := true) 40 [] [1] [.pointer (some ⟨w.heap.size, 0, Option.none⟩)] [⟨w.heap.size, (pkA op fi ti f t).toList, true⟩] [(1, 0)] (atR abB 3) [] [] hW2 (by kernel_rfl) trivial trivial ?_
    intro w3 hW3 _
    have ha3 : ∀ w4, Keep No w3 w4 → Ah w4 := fun w4 k => ha.keep0 (hW3.keep.trans k)
    refine drawnM_ok (S0 := No) (gt := fun _ => Option.none) (D := (PadD (arpB op fi ti f t) w3)) (g0 := noGh) [(0, .loud padS), (2, .loud padS), (5, .new (rowS 1 [op].length (fun i => .int .u16 (([op] : List Nat).getD i 0 : Nat)))), (6, .loud padS), (9, .new (rowS 6 [f].length (fun j => .int .u8 ((byteAt (([f] : List (List UInt8)).getD (j / 6) []) (j % 6)).toNat : Int)))), (10, .loud padS), (13, .new (rowS 1 [fi].length (fun i => .int .u32 (([fi] : List Nat).getD i 0 : Nat)))), (14, .loud padS), (17, .new (rowS 6 [t].length (fun j => .int .u8 ((byteAt (([t] : List (List UInt8)).getD (j / 6) []) (j % 6)).toNat : Int)))), (18, .loud padS), (21, .new (rowS 1 [ti].length (fun i => .int .u32 (([ti] : List Nat).getD i 0 : Nat)))), (22, .loud padS), (23, .loud (doneS w3 (arpB op fi ti f t 6))), (24, .by (doneS w3 (arpB op fi ti f t 6)))] [2] [doneS w3 (arpB op fi ti f t 6)]
      ((LoudM Tryd.prog No w3 (PadD (arpB op fi ti f t) w3) 0 29 [] padS) ∧ True ∧ (LoudM Tryd.prog No w3 (PadD (arpB op fi ti f t) w3) 1 30 [padS, .is (.slice (some ⟨0, 0, Option.none⟩) 6 6)] padS) ∧ True ∧ True ∧ (NewM Tryd.prog No w3 (Instr.buildSlice 73 1 #[(0, .int .u16 op)]) (rowS 1 [op].length (fun i => .int .u16 (([op] : List Nat).getD i 0 : Nat)))) ∧ (LoudM Tryd.prog No w3 (PadD (arpB op fi ti f t) w3) 2 31 [padS, (rowS 1 [op].length (fun i => .int .u16 (([op] : List Nat).getD i 0 : Nat)))] padS) ∧ True ∧ True ∧ (NewM Tryd.prog No w3 (Instr.buildSlice 75 1 #[(0, .agg (macV f))]) (rowS 6 [f].length (fun j => .int .u8 ((byteAt (([f] : List (List UInt8)).getD (j / 6) []) (j % 6)).toNat : Int)))) ∧ (LoudM Tryd.prog No w3 (PadD (arpB op fi ti f t) w3) 3 32 [padS, (rowS 6 [f].length (fun j => .int .u8 ((byteAt (([f] : List (List UInt8)).getD (j / 6) []) (j % 6)).toNat : Int)))] padS) ∧ True ∧ True ∧ (NewM Tryd.prog No w3 (Instr.buildSlice 76 1 #[(0, .int .u32 fi)]) (rowS 1 [fi].length (fun i => .int .u32 (([fi] : List Nat).getD i 0 : Nat)))) ∧ (LoudM Tryd.prog No w3 (PadD (arpB op fi ti f t) w3) 4 33 [padS, (rowS 1 [fi].length (fun i => .int .u32 (([fi] : List Nat).getD i 0 : Nat)))] padS) ∧ True ∧ True ∧ (NewM Tryd.prog No w3 (Instr.buildSlice 75 1 #[(0, .agg (macV t))]) (rowS 6 [t].length (fun j => .int .u8 ((byteAt (([t] : List (List UInt8)).getD (j / 6) []) (j % 6)).toNat : Int)))) ∧ (LoudM Tryd.prog No w3 (PadD (arpB op fi ti f t) w3) 5 32 [padS, (rowS 6 [t].length (fun j => .int .u8 ((byteAt (([t] : List (List UInt8)).getD (j / 6) []) (j % 6)).toNat : Int)))] padS) ∧ True ∧ True ∧ (NewM Tryd.prog No w3 (Instr.buildSlice 76 1 #[(0, .int .u32 ti)]) (rowS 1 [ti].length (fun i => .int .u32 (([ti] : List Nat).getD i 0 : Nat)))) ∧ (LoudM Tryd.prog No w3 (PadD (arpB op fi ti f t) w3) 6 33 [padS, (rowS 1 [ti].length (fun i => .int .u32 (([ti] : List Nat).getD i 0 : Nat)))] padS) ∧ (LoudM Tryd.prog No w3 (PadD (arpB op fi ti f t) w3) 7 34 [padS] (doneS w3 (arpB op fi ti f t 6))) ∧ (ByM Tryd.prog No w3 (.assign (.tmp 29)) 33 [(29, doneS w3 (arpB op fi ti f t 6))] (doneS w3 (arpB op fi ti f t 6))) ∧ True)
      8 (afterR abB 3) hW3 (fun _ h => h.elim) (by kernel_rfl) (by kernel_rfl) (by kernel_rfl) PadD.keep (noGh_base w3) (noGh_D w3) ⟨loud_lay rfl, trivial, loud_byte (r := 0) rfl (by have := arpB_len op fi ti f t 0; simp; omega) (fun w4 k => ahead_rd (ha3 w4 k)), trivial, trivial, new_row (cs := [.int .u16 op]) (by simp [maxLen]) (fun _ => by kernel_rfl) (fun j hj => by obtain rfl : j = 0 := (by simpa using hj); rfl), loud_two (r := 1) (xs := [op]) rfl (by have := arpB_len op fi ti f t 1; simp; omega) (fun i hi => by obtain rfl : i = 0 := (by simpa using hi); exact ho), trivial, trivial, new_row (cs := (macV f).toList) (by simp [maxLen]) (fun _ => by kernel_rfl) (mac_cells f), loud_mac (r := 2) (xs := [f]) rfl (by have := arpB_len op fi ti f t 2; simp; omega), trivial, trivial, new_row (cs := [.int .u32 fi]) (by simp [maxLen]) (fun _ => by kernel_rfl) (fun j hj => by obtain rfl : j = 0 := (by simpa using hj); rfl), loud_four (r := 3) (xs := [fi]) rfl (by have := arpB_len op fi ti f t 3; simp; omega) (fun i hi => by obtain rfl : i = 0 := (by simpa using hi); exact hfi), trivial, trivial, new_row (cs := (macV t).toList) (by simp [maxLen]) (fun _ => by kernel_rfl) (mac_cells t), loud_mac (r := 4) (xs := [t]) rfl (by have := arpB_len op fi ti f t 4; simp; omega), trivial, trivial, new_row (cs := [.int .u32 ti]) (by simp [maxLen]) (fun _ => by kernel_rfl) (fun j hj => by obtain rfl : j = 0 := (by simpa using hj); rfl), loud_four (r := 5) (xs := [ti]) rfl (by have := arpB_len op fi ti f t 5; simp; omega) (fun i hi => by obtain rfl : i = 0 := (by simpa using hi); exact hti), loud_done (r := 6) rfl rfl (by have := arpB_len op fi ti f t 6; omega), by_assign, trivial⟩ ?_
    intro g w4 vs k4 _ _ hok
    match vs, hok with
    | [x], hx =>
      obtain ⟨⟨h1, h2, _⟩, _⟩ := hx
      refine go_ret (gt := fun _ => Option.none) (unroll := true) 40 [] [.tmp 2] x [] [] (hW3.later k4) Tryd.results17 (by kernel_rfl) trivial trivial ?_
      intro w5 hW5 hS5
      refine ⟨_, rfl, h1.same fun b hb => ?_, hW5.keep, h2.mono hW3.keep.size⟩
      refine hS5.same b ⟨h1.lt b hb, fun r hr _ e => ?_⟩
      obtain rfl := List.mem_singleton.1 hr
      have q1 := h2 b hb
      obtain ⟨t', ht⟩ := hW3.rows _ (List.mem_singleton.2 rfl)
      have q2 := block_of_row ht
      simp only at e q2
      omega
end
end Go.Proofs.YtpididcghilbjaaDoor
