/-
  tolllaw05's ArpKnown, walked. Condition: the table is as it was laid.
-/
import Derived.Test.YtpididcghilbjaaDoorArpTells
namespace Go.Proofs.YtpididcghilbjaaDoor
open Go.RowKit

/-- Bytes in a known row that may have room. -/
theorem Rd.of_rowc {W0 w : World} {m : Mem} (hW : Wst W0 m w) {b cap : Nat} {rest : List Value} {ow : Bool} {bs : List UInt8} (hr : ⟨b, bvs bs ++ rest, ow⟩ ∈ m.rows) (n : Nat) (hl : bs.length = n) (hc : n ≤ cap) (hn : cap ≤ maxLen) : Rd w (.slice (some ⟨b, 0, none⟩) n cap) bs := by
  subst hl
  obtain ⟨t, ht⟩ := hW.rows _ hr
  refine ⟨⟨_, cap, rfl, hc, hn, by simp, fun _ => ⟨_, _, rfl⟩⟩, fun i hi => ?_⟩
  simp only [blk, offs, Nat.zero_add, World.cell?, ht]
  have hi' : i < (bvs bs).length := by rw [bvs_length]; exact hi
  have := bvs_get hi
  simpa [List.getElem?_append_left hi'] using this
theorem Own.row {e : TypeId} {w : World} {v : Value} {bs : List UInt8} (h : Own e w v bs) (hb : bs.length ≠ 0) :
    ∃ g cap rest, v = .slice (some ⟨g, 0, none⟩) bs.length cap ∧ w.heap[g]? = some (.cells (bvs bs ++ rest).toArray e (0, 0)) ∧ bs.length ≤ cap ∧ cap ≤ maxLen := by
  obtain ⟨_, h⟩ := h
  rcases h with ⟨_, h0⟩ | ⟨g, cap, cur, rfl, _, hg, hc, hm, _, ht⟩
  · exact absurd h0 hb
  · refine ⟨g, cap, cur.toList.drop (bs.length * 1), rfl, ?_, hc, hm⟩
    rw [← ht, List.take_append_drop]
    simpa using hg
theorem Wst.fewer {W0 w : World} {rows more : List RowS} {nx : Nat} (h : Wst W0 ⟨rows ++ more, nx⟩ w) : Wst W0 ⟨rows, nx⟩ w := by
  refine ⟨h.size, fun r hr => h.rows r (List.mem_append.2 (.inl hr)), ?_, fun r hr => h.own r (List.mem_append.2 (.inl hr)), h.keep⟩
  have := h.one
  simp only [List.map_append] at this
  exact (List.nodup_append.1 this).1

theorem Keep.same {S : Nat → Prop} {w w' : World} (h : w = w') : Keep S w w' := h ▸ Keep.refl _ _
noncomputable abbrev knC : Code := bodyOf Tryd.f7
noncomputable abbrev knN : Nat := Tryd.f7.ntmps
def knB : List UInt8 := [0, 1, 8, 0, 6, 4, 0, 2, 2, 0, 0, 0, 0, 1, 10, 0, 0, 1, 2, 0, 0, 0, 0, 2, 10, 0, 0, 254]
def knF : List UInt8 := [2, 0, 0, 0, 0, 1]
def knT : List UInt8 := [2, 0, 0, 0, 0, 2]
abbrev knP (h : Nat) : Value := .pointer (some ⟨h, 0, Option.none⟩)
abbrev knS (h : Nat) : Value := .slice (some ⟨h + 1, 0, Option.none⟩) 28 28
def knRows (h : Nat) : List RowS := [⟨h, (pkA ((2 : Nat) : Int) ((167772161 : Nat) : Int) ((167772414 : Nat) : Int) knF knT).toList, true⟩, ⟨h + 1, bvs knB, true⟩]
noncomputable def knL (h : Nat) (j : Nat) (w' : World) : Cfg := ⟨frOf [1, 2, 15] [knP h, knS h, .int .i64 ((7 - j : Nat) : Int)], tagL [(1, 0), (2, 1)], ⟨knRows h, w'.heap.size⟩, atL knC 4⟩
def knJ (w : World) (j : Nat) (w' : World) : Prop := j ≤ 7 ∧ Wst w ⟨knRows w.heap.size, w'.heap.size⟩ w'
noncomputable def knR (w : World) (j : Nat) : Act → World → Prop := fun a' w' => ∃ j', j' < j ∧ knJ w j' w' ∧ agrees knN (knL w.heap.size j' w') a'
abbrev knQ (w : World) : Ending → World → Prop := fun x w' => x = .returned (.bool true) ∧ Keep No w w'
theorem kn_rd {w w1 : World} {more : List RowS} {nx : Nat} (hW : Wst w ⟨knRows w.heap.size ++ more, nx⟩ w1) : Rd w1 (knS w.heap.size) knB :=
  Rd.of_row (b := w.heap.size + 1) (off := 0) (ow := true) (cs := bvs knB) hW (by simp [knRows]) 28 rfl (by decide) (fun i hi => by rw [Nat.zero_add]; exact bvs_get hi)
section
variable {w : World}

theorem kn_round_0 (ha : Ah w) (w' : World) (hJ : knJ w 7 w') : Goal Tryd.prog (bodyPost Tryd.prog Tryd.f7 (knQ w)) knN { knL w.heap.size 7 w' with todo := .code (loopOf (atL knC 4)) :: .inv (knR w 7) :: (atL knC 4).tail } w' := by
  obtain ⟨_, hW⟩ := hJ
  unfold knL
  refine go_call_is (gt := fun _ => Option.none) (unroll := false) 60 [] 12 [knS w.heap.size] [1, 2, 15, 3] [knP w.heap.size, knS w.heap.size, .int .i64 0, .int .i64 0] 19 (knRows w.heap.size) [(1, 0), (2, 1)] (inR knC 6 1 (.inv (knR w 7))) [] [] hW (by kernel_rfl) trivial trivial ?_
  intro w1 hW1 _
  refine (bclone_any _ _ _ (kn_rd (more := []) hW1) (by decide)).mono ?_
  rintro x w2 ⟨v2, rfl, fr2, _⟩
  refine ⟨_, rfl, ?_⟩
  obtain ⟨g, cap, rest, rfl, hg, hcap, hmax⟩ := fr2.own.row (by decide)
  have hgs : w1.heap.size ≤ g := fr2.since g rfl
  have hW2 := (hW1.later fr2.keep).addRow hg (Nat.le_trans hW1.keep.size hgs) (fun r hr => by
    obtain ⟨t', ht⟩ := hW1.rows r hr
    have := block_of_row ht
    omega)
  refine Goal.re (tags := tagL [(1, 0), (2, 1), (19, 2)]) (m := ⟨knRows w.heap.size ++ [⟨g, bvs knB ++ rest, true⟩], w2.heap.size⟩) ?_
  refine go_call_is (gt := fun _ => Option.none) (unroll := false) 60 [] 13 [.slice (some ⟨g, 0, Option.none⟩) 28 cap] [1, 2, 15] [knP w.heap.size, knS w.heap.size, .int .i64 0] 28 (knRows w.heap.size ++ [⟨g, bvs (knB.set 0 1) ++ rest, true⟩]) [(1, 0), (2, 1)] (inR knC 8 1 (.inv (knR w 7))) [] [] hW2 (by kernel_rfl) trivial trivial ?_
  intro w3 hW3 _
  refine (arpget_any (Rd.of_rowc (rest := rest) (ow := true) (bs := knB.set 0 1) hW3 (by simp) 28 rfl hcap hmax) (by decide) (ha.keep0 hW3.keep)).mono ?_
  rintro x w4 ⟨rfl, k4⟩
  refine ⟨_, rfl, ?_⟩
  refine go_inv (gt := fun _ => Option.none) (unroll := false) 60 [] [1, 2, 15] [knP w.heap.size, knS w.heap.size, .int .i64 1] (knRows w.heap.size ++ [⟨g, bvs (knB.set 0 1) ++ rest, true⟩, ⟨w4.heap.size, (getV (knB.set 0 1)).toList, true⟩]) (knR w 7) [] [] (hW3.later k4) (by kernel_rfl) trivial trivial ?_
  intro w5 a hW5 _ hs
  exact ⟨6, by omega, ⟨by omega, hW5.fewer⟩, hs⟩

theorem kn_round_1 (ha : Ah w) (w' : World) (hJ : knJ w 6 w') : Goal Tryd.prog (bodyPost Tryd.prog Tryd.f7 (knQ w)) knN { knL w.heap.size 6 w' with todo := .code (loopOf (atL knC 4)) :: .inv (knR w 6) :: (atL knC 4).tail } w' := by
  obtain ⟨_, hW⟩ := hJ
  unfold knL
  refine go_call_is (gt := fun _ => Option.none) (unroll := false) 60 [] 12 [knS w.heap.size] [1, 2, 15, 3] [knP w.heap.size, knS w.heap.size, .int .i64 1, .int .i64 1] 19 (knRows w.heap.size) [(1, 0), (2, 1)] (inR knC 6 1 (.inv (knR w 6))) [] [] hW (by kernel_rfl) trivial trivial ?_
  intro w1 hW1 _
  refine (bclone_any _ _ _ (kn_rd (more := []) hW1) (by decide)).mono ?_
  rintro x w2 ⟨v2, rfl, fr2, _⟩
  refine ⟨_, rfl, ?_⟩
  obtain ⟨g, cap, rest, rfl, hg, hcap, hmax⟩ := fr2.own.row (by decide)
  have hgs : w1.heap.size ≤ g := fr2.since g rfl
  have hW2 := (hW1.later fr2.keep).addRow hg (Nat.le_trans hW1.keep.size hgs) (fun r hr => by
    obtain ⟨t', ht⟩ := hW1.rows r hr
    have := block_of_row ht
    omega)
  refine Goal.re (tags := tagL [(1, 0), (2, 1), (19, 2)]) (m := ⟨knRows w.heap.size ++ [⟨g, bvs knB ++ rest, true⟩], w2.heap.size⟩) ?_
  refine go_call_is (gt := fun _ => Option.none) (unroll := false) 60 [] 13 [.slice (some ⟨g, 0, Option.none⟩) 28 cap] [1, 2, 15] [knP w.heap.size, knS w.heap.size, .int .i64 1] 28 (knRows w.heap.size ++ [⟨g, bvs (knB.set 1 0) ++ rest, true⟩]) [(1, 0), (2, 1)] (inR knC 8 1 (.inv (knR w 6))) [] [] hW2 (by kernel_rfl) trivial trivial ?_
  intro w3 hW3 _
  refine (arpget_any (Rd.of_rowc (rest := rest) (ow := true) (bs := knB.set 1 0) hW3 (by simp) 28 rfl hcap hmax) (by decide) (ha.keep0 hW3.keep)).mono ?_
  rintro x w4 ⟨rfl, k4⟩
  refine ⟨_, rfl, ?_⟩
  refine go_inv (gt := fun _ => Option.none) (unroll := false) 60 [] [1, 2, 15] [knP w.heap.size, knS w.heap.size, .int .i64 2] (knRows w.heap.size ++ [⟨g, bvs (knB.set 1 0) ++ rest, true⟩, ⟨w4.heap.size, (getV (knB.set 1 0)).toList, true⟩]) (knR w 6) [] [] (hW3.later k4) (by kernel_rfl) trivial trivial ?_
  intro w5 a hW5 _ hs
  exact ⟨5, by omega, ⟨by omega, hW5.fewer⟩, hs⟩

theorem kn_round_2 (ha : Ah w) (w' : World) (hJ : knJ w 5 w') : Goal Tryd.prog (bodyPost Tryd.prog Tryd.f7 (knQ w)) knN { knL w.heap.size 5 w' with todo := .code (loopOf (atL knC 4)) :: .inv (knR w 5) :: (atL knC 4).tail } w' := by
  obtain ⟨_, hW⟩ := hJ
  unfold knL
  refine go_call_is (gt := fun _ => Option.none) (unroll := false) 60 [] 12 [knS w.heap.size] [1, 2, 15, 3] [knP w.heap.size, knS w.heap.size, .int .i64 2, .int .i64 2] 19 (knRows w.heap.size) [(1, 0), (2, 1)] (inR knC 6 1 (.inv (knR w 5))) [] [] hW (by kernel_rfl) trivial trivial ?_
  intro w1 hW1 _
  refine (bclone_any _ _ _ (kn_rd (more := []) hW1) (by decide)).mono ?_
  rintro x w2 ⟨v2, rfl, fr2, _⟩
  refine ⟨_, rfl, ?_⟩
  obtain ⟨g, cap, rest, rfl, hg, hcap, hmax⟩ := fr2.own.row (by decide)
  have hgs : w1.heap.size ≤ g := fr2.since g rfl
  have hW2 := (hW1.later fr2.keep).addRow hg (Nat.le_trans hW1.keep.size hgs) (fun r hr => by
    obtain ⟨t', ht⟩ := hW1.rows r hr
    have := block_of_row ht
    omega)
  refine Goal.re (tags := tagL [(1, 0), (2, 1), (19, 2)]) (m := ⟨knRows w.heap.size ++ [⟨g, bvs knB ++ rest, true⟩], w2.heap.size⟩) ?_
  refine go_call_is (gt := fun _ => Option.none) (unroll := false) 60 [] 13 [.slice (some ⟨g, 0, Option.none⟩) 28 cap] [1, 2, 15] [knP w.heap.size, knS w.heap.size, .int .i64 2] 28 (knRows w.heap.size ++ [⟨g, bvs (knB.set 2 9) ++ rest, true⟩]) [(1, 0), (2, 1)] (inR knC 8 1 (.inv (knR w 5))) [] [] hW2 (by kernel_rfl) trivial trivial ?_
  intro w3 hW3 _
  refine (arpget_any (Rd.of_rowc (rest := rest) (ow := true) (bs := knB.set 2 9) hW3 (by simp) 28 rfl hcap hmax) (by decide) (ha.keep0 hW3.keep)).mono ?_
  rintro x w4 ⟨rfl, k4⟩
  refine ⟨_, rfl, ?_⟩
  refine go_inv (gt := fun _ => Option.none) (unroll := false) 60 [] [1, 2, 15] [knP w.heap.size, knS w.heap.size, .int .i64 3] (knRows w.heap.size ++ [⟨g, bvs (knB.set 2 9) ++ rest, true⟩, ⟨w4.heap.size, (getV (knB.set 2 9)).toList, true⟩]) (knR w 5) [] [] (hW3.later k4) (by kernel_rfl) trivial trivial ?_
  intro w5 a hW5 _ hs
  exact ⟨4, by omega, ⟨by omega, hW5.fewer⟩, hs⟩

theorem kn_round_3 (ha : Ah w) (w' : World) (hJ : knJ w 4 w') : Goal Tryd.prog (bodyPost Tryd.prog Tryd.f7 (knQ w)) knN { knL w.heap.size 4 w' with todo := .code (loopOf (atL knC 4)) :: .inv (knR w 4) :: (atL knC 4).tail } w' := by
  obtain ⟨_, hW⟩ := hJ
  unfold knL
  refine go_call_is (gt := fun _ => Option.none) (unroll := false) 60 [] 12 [knS w.heap.size] [1, 2, 15, 3] [knP w.heap.size, knS w.heap.size, .int .i64 3, .int .i64 3] 19 (knRows w.heap.size) [(1, 0), (2, 1)] (inR knC 6 1 (.inv (knR w 4))) [] [] hW (by kernel_rfl) trivial trivial ?_
  intro w1 hW1 _
  refine (bclone_any _ _ _ (kn_rd (more := []) hW1) (by decide)).mono ?_
  rintro x w2 ⟨v2, rfl, fr2, _⟩
  refine ⟨_, rfl, ?_⟩
  obtain ⟨g, cap, rest, rfl, hg, hcap, hmax⟩ := fr2.own.row (by decide)
  have hgs : w1.heap.size ≤ g := fr2.since g rfl
  have hW2 := (hW1.later fr2.keep).addRow hg (Nat.le_trans hW1.keep.size hgs) (fun r hr => by
    obtain ⟨t', ht⟩ := hW1.rows r hr
    have := block_of_row ht
    omega)
  refine Goal.re (tags := tagL [(1, 0), (2, 1), (19, 2)]) (m := ⟨knRows w.heap.size ++ [⟨g, bvs knB ++ rest, true⟩], w2.heap.size⟩) ?_
  refine go_call_is (gt := fun _ => Option.none) (unroll := false) 60 [] 13 [.slice (some ⟨g, 0, Option.none⟩) 28 cap] [1, 2, 15] [knP w.heap.size, knS w.heap.size, .int .i64 3] 28 (knRows w.heap.size ++ [⟨g, bvs (knB.set 3 1) ++ rest, true⟩]) [(1, 0), (2, 1)] (inR knC 8 1 (.inv (knR w 4))) [] [] hW2 (by kernel_rfl) trivial trivial ?_
  intro w3 hW3 _
  refine (arpget_any (Rd.of_rowc (rest := rest) (ow := true) (bs := knB.set 3 1) hW3 (by simp) 28 rfl hcap hmax) (by decide) (ha.keep0 hW3.keep)).mono ?_
  rintro x w4 ⟨rfl, k4⟩
  refine ⟨_, rfl, ?_⟩
  refine go_inv (gt := fun _ => Option.none) (unroll := false) 60 [] [1, 2, 15] [knP w.heap.size, knS w.heap.size, .int .i64 4] (knRows w.heap.size ++ [⟨g, bvs (knB.set 3 1) ++ rest, true⟩, ⟨w4.heap.size, (getV (knB.set 3 1)).toList, true⟩]) (knR w 4) [] [] (hW3.later k4) (by kernel_rfl) trivial trivial ?_
  intro w5 a hW5 _ hs
  exact ⟨3, by omega, ⟨by omega, hW5.fewer⟩, hs⟩

theorem kn_round_4 (ha : Ah w) (w' : World) (hJ : knJ w 3 w') : Goal Tryd.prog (bodyPost Tryd.prog Tryd.f7 (knQ w)) knN { knL w.heap.size 3 w' with todo := .code (loopOf (atL knC 4)) :: .inv (knR w 3) :: (atL knC 4).tail } w' := by
  obtain ⟨_, hW⟩ := hJ
  unfold knL
  refine go_call_is (gt := fun _ => Option.none) (unroll := false) 60 [] 12 [knS w.heap.size] [1, 2, 15, 3] [knP w.heap.size, knS w.heap.size, .int .i64 4, .int .i64 4] 19 (knRows w.heap.size) [(1, 0), (2, 1)] (inR knC 6 1 (.inv (knR w 3))) [] [] hW (by kernel_rfl) trivial trivial ?_
  intro w1 hW1 _
  refine (bclone_any _ _ _ (kn_rd (more := []) hW1) (by decide)).mono ?_
  rintro x w2 ⟨v2, rfl, fr2, _⟩
  refine ⟨_, rfl, ?_⟩
  obtain ⟨g, cap, rest, rfl, hg, hcap, hmax⟩ := fr2.own.row (by decide)
  have hgs : w1.heap.size ≤ g := fr2.since g rfl
  have hW2 := (hW1.later fr2.keep).addRow hg (Nat.le_trans hW1.keep.size hgs) (fun r hr => by
    obtain ⟨t', ht⟩ := hW1.rows r hr
    have := block_of_row ht
    omega)
  refine Goal.re (tags := tagL [(1, 0), (2, 1), (19, 2)]) (m := ⟨knRows w.heap.size ++ [⟨g, bvs knB ++ rest, true⟩], w2.heap.size⟩) ?_
  refine go_call_is (gt := fun _ => Option.none) (unroll := false) 60 [] 13 [.slice (some ⟨g, 0, Option.none⟩) 28 cap] [1, 2, 15] [knP w.heap.size, knS w.heap.size, .int .i64 4] 28 (knRows w.heap.size ++ [⟨g, bvs (knB.set 4 7) ++ rest, true⟩]) [(1, 0), (2, 1)] (inR knC 8 1 (.inv (knR w 3))) [] [] hW2 (by kernel_rfl) trivial trivial ?_
  intro w3 hW3 _
  refine (arpget_any (Rd.of_rowc (rest := rest) (ow := true) (bs := knB.set 4 7) hW3 (by simp) 28 rfl hcap hmax) (by decide) (ha.keep0 hW3.keep)).mono ?_
  rintro x w4 ⟨rfl, k4⟩
  refine ⟨_, rfl, ?_⟩
  refine go_inv (gt := fun _ => Option.none) (unroll := false) 60 [] [1, 2, 15] [knP w.heap.size, knS w.heap.size, .int .i64 5] (knRows w.heap.size ++ [⟨g, bvs (knB.set 4 7) ++ rest, true⟩, ⟨w4.heap.size, (getV (knB.set 4 7)).toList, true⟩]) (knR w 3) [] [] (hW3.later k4) (by kernel_rfl) trivial trivial ?_
  intro w5 a hW5 _ hs
  exact ⟨2, by omega, ⟨by omega, hW5.fewer⟩, hs⟩

theorem kn_round_5 (ha : Ah w) (w' : World) (hJ : knJ w 2 w') : Goal Tryd.prog (bodyPost Tryd.prog Tryd.f7 (knQ w)) knN { knL w.heap.size 2 w' with todo := .code (loopOf (atL knC 4)) :: .inv (knR w 2) :: (atL knC 4).tail } w' := by
  obtain ⟨_, hW⟩ := hJ
  unfold knL
  refine go_call_is (gt := fun _ => Option.none) (unroll := false) 60 [] 12 [knS w.heap.size] [1, 2, 15, 3] [knP w.heap.size, knS w.heap.size, .int .i64 5, .int .i64 5] 19 (knRows w.heap.size) [(1, 0), (2, 1)] (inR knC 6 1 (.inv (knR w 2))) [] [] hW (by kernel_rfl) trivial trivial ?_
  intro w1 hW1 _
  refine (bclone_any _ _ _ (kn_rd (more := []) hW1) (by decide)).mono ?_
  rintro x w2 ⟨v2, rfl, fr2, _⟩
  refine ⟨_, rfl, ?_⟩
  obtain ⟨g, cap, rest, rfl, hg, hcap, hmax⟩ := fr2.own.row (by decide)
  have hgs : w1.heap.size ≤ g := fr2.since g rfl
  have hW2 := (hW1.later fr2.keep).addRow hg (Nat.le_trans hW1.keep.size hgs) (fun r hr => by
    obtain ⟨t', ht⟩ := hW1.rows r hr
    have := block_of_row ht
    omega)
  refine Goal.re (tags := tagL [(1, 0), (2, 1), (19, 2)]) (m := ⟨knRows w.heap.size ++ [⟨g, bvs knB ++ rest, true⟩], w2.heap.size⟩) ?_
  refine go_call_is (gt := fun _ => Option.none) (unroll := false) 60 [] 13 [.slice (some ⟨g, 0, Option.none⟩) 28 cap] [1, 2, 15] [knP w.heap.size, knS w.heap.size, .int .i64 5] 28 (knRows w.heap.size ++ [⟨g, bvs (knB.set 5 5) ++ rest, true⟩]) [(1, 0), (2, 1)] (inR knC 8 1 (.inv (knR w 2))) [] [] hW2 (by kernel_rfl) trivial trivial ?_
  intro w3 hW3 _
  refine (arpget_any (Rd.of_rowc (rest := rest) (ow := true) (bs := knB.set 5 5) hW3 (by simp) 28 rfl hcap hmax) (by decide) (ha.keep0 hW3.keep)).mono ?_
  rintro x w4 ⟨rfl, k4⟩
  refine ⟨_, rfl, ?_⟩
  refine go_inv (gt := fun _ => Option.none) (unroll := false) 60 [] [1, 2, 15] [knP w.heap.size, knS w.heap.size, .int .i64 6] (knRows w.heap.size ++ [⟨g, bvs (knB.set 5 5) ++ rest, true⟩, ⟨w4.heap.size, (getV (knB.set 5 5)).toList, true⟩]) (knR w 2) [] [] (hW3.later k4) (by kernel_rfl) trivial trivial ?_
  intro w5 a hW5 _ hs
  exact ⟨1, by omega, ⟨by omega, hW5.fewer⟩, hs⟩

theorem kn_round_6 (ha : Ah w) (w' : World) (hJ : knJ w 1 w') : Goal Tryd.prog (bodyPost Tryd.prog Tryd.f7 (knQ w)) knN { knL w.heap.size 1 w' with todo := .code (loopOf (atL knC 4)) :: .inv (knR w 1) :: (atL knC 4).tail } w' := by
  obtain ⟨_, hW⟩ := hJ
  unfold knL
  refine go_call_is (gt := fun _ => Option.none) (unroll := false) 60 [] 12 [knS w.heap.size] [1, 2, 15, 3] [knP w.heap.size, knS w.heap.size, .int .i64 6, .int .i64 6] 19 (knRows w.heap.size) [(1, 0), (2, 1)] (inR knC 6 1 (.inv (knR w 1))) [] [] hW (by kernel_rfl) trivial trivial ?_
  intro w1 hW1 _
  refine (bclone_any _ _ _ (kn_rd (more := []) hW1) (by decide)).mono ?_
  rintro x w2 ⟨v2, rfl, fr2, _⟩
  refine ⟨_, rfl, ?_⟩
  obtain ⟨g, cap, rest, rfl, hg, hcap, hmax⟩ := fr2.own.row (by decide)
  have hgs : w1.heap.size ≤ g := fr2.since g rfl
  have hW2 := (hW1.later fr2.keep).addRow hg (Nat.le_trans hW1.keep.size hgs) (fun r hr => by
    obtain ⟨t', ht⟩ := hW1.rows r hr
    have := block_of_row ht
    omega)
  refine Goal.re (tags := tagL [(1, 0), (2, 1), (19, 2)]) (m := ⟨knRows w.heap.size ++ [⟨g, bvs knB ++ rest, true⟩], w2.heap.size⟩) ?_
  refine go_call_is (gt := fun _ => Option.none) (unroll := false) 60 [] 13 [.slice (some ⟨g, 0, Option.none⟩) 28 cap] [1, 2, 15] [knP w.heap.size, knS w.heap.size, .int .i64 6] 28 (knRows w.heap.size ++ [⟨g, bvs (knB.set 6 1) ++ rest, true⟩]) [(1, 0), (2, 1)] (inR knC 8 1 (.inv (knR w 1))) [] [] hW2 (by kernel_rfl) trivial trivial ?_
  intro w3 hW3 _
  refine (arpget_any (Rd.of_rowc (rest := rest) (ow := true) (bs := knB.set 6 1) hW3 (by simp) 28 rfl hcap hmax) (by decide) (ha.keep0 hW3.keep)).mono ?_
  rintro x w4 ⟨rfl, k4⟩
  refine ⟨_, rfl, ?_⟩
  refine go_inv (gt := fun _ => Option.none) (unroll := false) 60 [] [1, 2, 15] [knP w.heap.size, knS w.heap.size, .int .i64 7] (knRows w.heap.size ++ [⟨g, bvs (knB.set 6 1) ++ rest, true⟩, ⟨w4.heap.size, (getV (knB.set 6 1)).toList, true⟩]) (knR w 1) [] [] (hW3.later k4) (by kernel_rfl) trivial trivial ?_
  intro w5 a hW5 _ hs
  exact ⟨0, by omega, ⟨by omega, hW5.fewer⟩, hs⟩

theorem arpknown_walk (ha : Ah w) : Calls Tryd.prog 7 #[] w (knQ w) := by
  refine enter (args := []) Tryd.func7 (by kernel_rfl) ?_
  refine go_stop (gt := fun _ => Option.none) (unroll := false) 60 [] [1, 2, 15] [knP w.heap.size, knS w.heap.size, .int .i64 0] (knRows w.heap.size) [(1, 0), (2, 1)] (atL knC 4) [] [] (Wst.start0 w) (by kernel_rfl) trivial trivial ?_
  intro w0 hW0 _
  refine loop_ok (x := loopOf (atL knC 4)) (k := (atL knC 4).tail) (knL w.heap.size) (knJ w) (fun _ _ => by kernel_rfl) ?_ 7 w0 ⟨by omega, hW0⟩
  intro j w' hJ
  have hj := hJ.1
  have hjs : j = 0 ∨ j = 1 ∨ j = 2 ∨ j = 3 ∨ j = 4 ∨ j = 5 ∨ j = 6 ∨ j = 7 := by omega
  rcases hjs with rfl | rfl | rfl | rfl | rfl | rfl | rfl | rfl
  rotate_left
  · exact kn_round_6 ha w' hJ
  · exact kn_round_5 ha w' hJ
  · exact kn_round_4 ha w' hJ
  · exact kn_round_3 ha w' hJ
  · exact kn_round_2 ha w' hJ
  · exact kn_round_1 ha w' hJ
  · exact kn_round_0 ha w' hJ
  obtain ⟨_, hW⟩ := hJ
  unfold knL
  refine go_call_is (gt := fun _ => Option.none) (unroll := false) 60 [] 8 [.agg (pkA ((3 : Nat) : Int) ((5 : Nat) : Int) ((5 : Nat) : Int) [] []), .agg (macV [])] [1, 2, 7] [knP w.heap.size, knS w.heap.size, knP w'.heap.size] 38 (knRows w.heap.size ++ [⟨w'.heap.size, (pkA ((3 : Nat) : Int) ((5 : Nat) : Int) ((5 : Nat) : Int) [] []).toList, true⟩]) [(1, 0), (2, 1), (7, 2)] (inR knC 13 2) [] [] hW (by kernel_rfl) trivial trivial ?_
  intro w1 hW1 _
  refine (reply_any _ _ _ _ _ _ _).mono ?_
  rintro x w2 ⟨rfl, k2⟩
  refine ⟨_, rfl, ?_⟩
  have hV2 := hW1.later k2
  refine go_call_is (gt := fun _ => Option.none) (unroll := false) 60 [] 17 [.agg (pkA ((2 : Nat) : Int) ((167772161 : Nat) : Int) ((167772414 : Nat) : Int) knF knT)] [1, 2, 7, 9, 10] [knP w.heap.size, knS w.heap.size, knP w'.heap.size, .bool false, knP (w2.heap.size + 1)] 43 (knRows w.heap.size ++ [⟨w'.heap.size, (pkA ((3 : Nat) : Int) ((5 : Nat) : Int) ((5 : Nat) : Int) [] []).toList, true⟩, ⟨w2.heap.size, (replyV ((3 : Nat) : Int) ((5 : Nat) : Int) ((5 : Nat) : Int) [] []).toList, true⟩, ⟨w2.heap.size + 1, (pkA ((1 : Nat) : Int) ((5 : Nat) : Int) ((5 : Nat) : Int) [] []).toList, true⟩]) [(1, 0), (2, 1), (7, 2), (8, 3), (10, 4)] (inR knC 15 1) [] [] hV2 (by kernel_rfl) trivial trivial ?_
  intro w3 hV3 hS3
  refine (arpbytes_any (by decide) (by decide) (by decide) (ha.keep0 hV3.keep)).mono ?_
  rintro x w4 ⟨v, rfl, fr⟩ -- 4
  refine ⟨_, rfl, ?_⟩
  have hV4 := hV3.later fr.keep
  have sf : ∀ b, v.ownBlock = some b → Safe ⟨(knRows w.heap.size ++ [⟨w'.heap.size, (pkA ((3 : Nat) : Int) ((5 : Nat) : Int) ((5 : Nat) : Int) [] []).toList, true⟩, ⟨w2.heap.size, (replyV ((3 : Nat) : Int) ((5 : Nat) : Int) ((5 : Nat) : Int) [] []).toList, true⟩, ⟨w2.heap.size + 1, (pkA ((1 : Nat) : Int) ((5 : Nat) : Int) ((5 : Nat) : Int) [] []).toList, true⟩]), w4.heap.size⟩ b := fun b hb => ⟨fr.own.lt b hb, fun r hr _ => by
    obtain ⟨t', ht⟩ := hV3.rows r hr
    have h1 := block_of_row ht
    have h2 := fr.since b hb
    omega⟩
  refine go_call_is (gt := fun _ => Option.none) (unroll := false) 60 [] 16 [v, knS w.heap.size] [1, 2, 7, 9, 10] [knP w.heap.size, knS w.heap.size, knP w'.heap.size, .bool false, knP (w2.heap.size + 1)] 45 (knRows w.heap.size ++ [⟨w'.heap.size, (pkA ((3 : Nat) : Int) ((5 : Nat) : Int) ((5 : Nat) : Int) [] []).toList, true⟩, ⟨w2.heap.size, (replyV ((3 : Nat) : Int) ((5 : Nat) : Int) ((5 : Nat) : Int) [] []).toList, true⟩, ⟨w2.heap.size + 1, (pkA ((1 : Nat) : Int) ((5 : Nat) : Int) ((5 : Nat) : Int) [] []).toList, true⟩]) [(1, 0), (2, 1), (7, 2), (8, 3), (10, 4)] (inR knC 15 3) [] [] hV4 (by kernel_rfl) trivial trivial ?_
  intro w5 hV5 hS5
  refine (bequal_any (fr.rd.safe sf hS5.same) (kn_rd hV5)).mono ?_
  rintro x w6 ⟨rfl, e5⟩ -- 6
  refine ⟨_, rfl, ?_⟩
  have hV6 := hV5.later (Keep.same e5)
  rw [show (bytesR 2 167772161 167772414 knF knT == knB) = true from by decide]
  refine go_call_is (gt := fun _ => Option.none) (unroll := false) 60 [] 18 [.agg (pkA ((3 : Nat) : Int) ((5 : Nat) : Int) ((5 : Nat) : Int) [] [])] [1, 2, 7, 9, 10, 46] [knP w.heap.size, knS w.heap.size, knP w'.heap.size, .bool false, knP (w2.heap.size + 1), .bool true] 48 (knRows w.heap.size ++ [⟨w'.heap.size, (pkA ((3 : Nat) : Int) ((5 : Nat) : Int) ((5 : Nat) : Int) [] []).toList, true⟩, ⟨w2.heap.size, (replyV ((3 : Nat) : Int) ((5 : Nat) : Int) ((5 : Nat) : Int) [] []).toList, true⟩, ⟨w2.heap.size + 1, (pkA ((1 : Nat) : Int) ((5 : Nat) : Int) ((5 : Nat) : Int) [] []).toList, true⟩]) [(1, 0), (2, 1), (7, 2), (8, 3), (10, 4)] (inR knC 15 6) [] [] hV6 (by kernel_rfl) trivial trivial ?_
  intro w7 hV7 hS7
  refine (may_any _ _ _ _ _ _).mono ?_
  rintro x w8 ⟨rfl, k8⟩
  refine ⟨_, rfl, ?_⟩
  have hV8 := hV7.later k8
  refine go_call_is (gt := fun _ => Option.none) (unroll := false) 60 [] 17 [.agg (pkA ((3 : Nat) : Int) ((5 : Nat) : Int) ((5 : Nat) : Int) [] [])] [1, 2, 7, 9, 10, 51] [knP w.heap.size, knS w.heap.size, knP w'.heap.size, .bool false, knP (w2.heap.size + 1), .bool true] 53 (knRows w.heap.size ++ [⟨w'.heap.size, (pkA ((3 : Nat) : Int) ((5 : Nat) : Int) ((5 : Nat) : Int) [] []).toList, true⟩, ⟨w2.heap.size, (replyV ((3 : Nat) : Int) ((5 : Nat) : Int) ((5 : Nat) : Int) [] []).toList, true⟩, ⟨w2.heap.size + 1, (pkA ((1 : Nat) : Int) ((5 : Nat) : Int) ((5 : Nat) : Int) [] []).toList, true⟩]) [(1, 0), (2, 1), (7, 2), (8, 3), (10, 4)] (inR knC 15 11) [] [] hV8 (by kernel_rfl) trivial trivial ?_
  intro w9 hV9 hS9
  refine (arpbytes_any (by decide) (by decide) (by decide) (ha.keep0 hV9.keep)).mono ?_
  rintro x w10 ⟨v2, rfl, fr2⟩ -- 10
  refine ⟨_, rfl, ?_⟩
  have hV10 := hV9.later fr2.keep
  have sf2 : ∀ b, v2.ownBlock = some b → Safe ⟨(knRows w.heap.size ++ [⟨w'.heap.size, (pkA ((3 : Nat) : Int) ((5 : Nat) : Int) ((5 : Nat) : Int) [] []).toList, true⟩, ⟨w2.heap.size, (replyV ((3 : Nat) : Int) ((5 : Nat) : Int) ((5 : Nat) : Int) [] []).toList, true⟩, ⟨w2.heap.size + 1, (pkA ((1 : Nat) : Int) ((5 : Nat) : Int) ((5 : Nat) : Int) [] []).toList, true⟩]), w10.heap.size⟩ b := fun b hb => ⟨fr2.own.lt b hb, fun r hr _ => by
    obtain ⟨t', ht⟩ := hV9.rows r hr
    have h1 := block_of_row ht
    have h2 := fr2.since b hb
    omega⟩
  refine go_call_is (gt := fun _ => Option.none) (unroll := false) 60 [(15, 12, .sem (.int .i64 0))] 11 [.agg (pkA ((3 : Nat) : Int) ((5 : Nat) : Int) ((5 : Nat) : Int) [] [])] [1, 2, 7, 9, 10, 57] [knP w.heap.size, knS w.heap.size, knP w'.heap.size, .bool false, knP (w2.heap.size + 1), .bool true] 59 (knRows w.heap.size ++ [⟨w'.heap.size, (pkA ((3 : Nat) : Int) ((5 : Nat) : Int) ((5 : Nat) : Int) [] []).toList, true⟩, ⟨w2.heap.size, (replyV ((3 : Nat) : Int) ((5 : Nat) : Int) ((5 : Nat) : Int) [] []).toList, true⟩, ⟨w2.heap.size + 1, (pkA ((1 : Nat) : Int) ((5 : Nat) : Int) ((5 : Nat) : Int) [] []).toList, true⟩]) [(1, 0), (2, 1), (7, 2), (8, 3), (10, 4)] (inR knC 15 17) [] [(Builtin.len_ #[33] 3 #[v2], .int .i64 0)] hV10 (by kernel_rfl) trivial ⟨fun wx hx => (fr2.rd.safe sf2 hx).run_len (ty := 3) bt.sl, trivial⟩ ?_
  intro w11 hV11 hS11
  refine (itself_any _ _ _ _ _ _).mono ?_
  rintro x w12 ⟨rfl, k12⟩
  refine ⟨_, rfl, ?_⟩
  have hV12 := hV11.later k12
  refine go_call_is (gt := fun _ => Option.none) (unroll := false) 60 [] 11 [.agg (pkA ((1 : Nat) : Int) ((5 : Nat) : Int) ((5 : Nat) : Int) [] [])] [1, 2, 7, 9, 10, 66] [knP w.heap.size, knS w.heap.size, knP w'.heap.size, .bool false, knP (w2.heap.size + 1), .bool true] 68 (knRows w.heap.size ++ [⟨w'.heap.size, (pkA ((3 : Nat) : Int) ((5 : Nat) : Int) ((5 : Nat) : Int) [] []).toList, true⟩, ⟨w2.heap.size, (replyV ((3 : Nat) : Int) ((5 : Nat) : Int) ((5 : Nat) : Int) [] []).toList, true⟩, ⟨w2.heap.size + 1, (pkA ((1 : Nat) : Int) ((5 : Nat) : Int) ((5 : Nat) : Int) [] []).toList, true⟩]) [(1, 0), (2, 1), (7, 2), (8, 3), (10, 4)] (inR knC 15 26) [] [] hV12 (by kernel_rfl) trivial trivial ?_
  intro w13 hV13 hS13
  refine (itself_any _ _ _ _ _ _).mono ?_
  rintro x w14 ⟨rfl, k14⟩
  refine ⟨_, rfl, ?_⟩
  have hV14 := hV13.later k14
  refine go_call_is (gt := fun _ => Option.none) (unroll := false) 60 [] 10 [.agg (pkA ((1 : Nat) : Int) ((5 : Nat) : Int) ((5 : Nat) : Int) [] [])] [1, 2, 7, 9, 10, 70] [knP w.heap.size, knS w.heap.size, knP w'.heap.size, .bool false, knP (w2.heap.size + 1), .bool true] 72 (knRows w.heap.size ++ [⟨w'.heap.size, (pkA ((3 : Nat) : Int) ((5 : Nat) : Int) ((5 : Nat) : Int) [] []).toList, true⟩, ⟨w2.heap.size, (replyV ((3 : Nat) : Int) ((5 : Nat) : Int) ((5 : Nat) : Int) [] []).toList, true⟩, ⟨w2.heap.size + 1, (pkA ((1 : Nat) : Int) ((5 : Nat) : Int) ((5 : Nat) : Int) [] []).toList, true⟩]) [(1, 0), (2, 1), (7, 2), (8, 3), (10, 4)] (inR knC 15 30) [] [] hV14 (by kernel_rfl) trivial trivial ?_
  intro w15 hV15 hS15
  refine (probes_any _ _ _ _ _ _).mono ?_
  rintro x w16 ⟨rfl, k16⟩
  refine ⟨_, rfl, ?_⟩
  have hV16 := hV15.later k16
  refine go_call_is (gt := fun _ => Option.none) (unroll := false) 60 [] 11 [.agg (pkA ((2 : Nat) : Int) ((167772161 : Nat) : Int) ((167772414 : Nat) : Int) knF knT)] [1, 2, 7, 9, 10, 75] [knP w.heap.size, knS w.heap.size, knP w'.heap.size, .bool false, knP (w2.heap.size + 1), .bool true] 77 (knRows w.heap.size ++ [⟨w'.heap.size, (pkA ((3 : Nat) : Int) ((5 : Nat) : Int) ((5 : Nat) : Int) [] []).toList, true⟩, ⟨w2.heap.size, (replyV ((3 : Nat) : Int) ((5 : Nat) : Int) ((5 : Nat) : Int) [] []).toList, true⟩, ⟨w2.heap.size + 1, (pkA ((1 : Nat) : Int) ((5 : Nat) : Int) ((5 : Nat) : Int) [] []).toList, true⟩]) [(1, 0), (2, 1), (7, 2), (8, 3), (10, 4)] (inR knC 15 35) [] [] hV16 (by kernel_rfl) trivial trivial ?_
  intro w17 hV17 hS17
  refine (itself_any _ _ _ _ _ _).mono ?_
  rintro x w18 ⟨rfl, k18⟩
  refine ⟨_, rfl, ?_⟩
  have hV18 := hV17.later k18
  refine go_call_is (gt := fun _ => Option.none) (unroll := false) 60 [] 10 [.agg (pkA 2 0 0 [] [])] [1, 2, 7, 9, 10, 80] [knP w.heap.size, knS w.heap.size, knP w'.heap.size, .bool false, knP (w2.heap.size + 1), .bool true] 82 (knRows w.heap.size ++ [⟨w'.heap.size, (pkA ((3 : Nat) : Int) ((5 : Nat) : Int) ((5 : Nat) : Int) [] []).toList, true⟩, ⟨w2.heap.size, (replyV ((3 : Nat) : Int) ((5 : Nat) : Int) ((5 : Nat) : Int) [] []).toList, true⟩, ⟨w2.heap.size + 1, (pkA ((1 : Nat) : Int) ((5 : Nat) : Int) ((5 : Nat) : Int) [] []).toList, true⟩]) [(1, 0), (2, 1), (7, 2), (8, 3), (10, 4)] (inR knC 15 40) [] [] hV18 (by kernel_rfl) trivial trivial ?_
  intro w19 hV19 hS19
  refine (probes_any _ _ _ _ _ _).mono ?_
  rintro x w20 ⟨rfl, k20⟩
  refine ⟨_, rfl, ?_⟩
  have hV20 := hV19.later k20
  refine go_call_is (gt := fun _ => Option.none) (unroll := false) 60 [] 10 [.agg (pkA 1 0 0 [] [])] [1, 2, 7, 9, 10, 85] [knP w.heap.size, knS w.heap.size, knP w'.heap.size, .bool false, knP (w2.heap.size + 1), .bool true] 87 (knRows w.heap.size ++ [⟨w'.heap.size, (pkA ((3 : Nat) : Int) ((5 : Nat) : Int) ((5 : Nat) : Int) [] []).toList, true⟩, ⟨w2.heap.size, (replyV ((3 : Nat) : Int) ((5 : Nat) : Int) ((5 : Nat) : Int) [] []).toList, true⟩, ⟨w2.heap.size + 1, (pkA ((1 : Nat) : Int) ((5 : Nat) : Int) ((5 : Nat) : Int) [] []).toList, true⟩]) [(1, 0), (2, 1), (7, 2), (8, 3), (10, 4)] (inR knC 15 45) [] [] hV20 (by kernel_rfl) trivial trivial ?_
  intro w21 hV21 hS21
  refine (probes_any _ _ _ _ _ _).mono ?_
  rintro x w22 ⟨rfl, k22⟩
  refine ⟨_, rfl, ?_⟩
  have hV22 := hV21.later k22
  refine go_call_is (gt := fun _ => Option.none) (unroll := false) 60 [] 11 [.agg (pkA 1 0 0 [] [])] [1, 2, 7, 9, 10, 89] [knP w.heap.size, knS w.heap.size, knP w'.heap.size, .bool false, knP (w2.heap.size + 1), .bool true] 91 (knRows w.heap.size ++ [⟨w'.heap.size, (pkA ((3 : Nat) : Int) ((5 : Nat) : Int) ((5 : Nat) : Int) [] []).toList, true⟩, ⟨w2.heap.size, (replyV ((3 : Nat) : Int) ((5 : Nat) : Int) ((5 : Nat) : Int) [] []).toList, true⟩, ⟨w2.heap.size + 1, (pkA ((1 : Nat) : Int) ((5 : Nat) : Int) ((5 : Nat) : Int) [] []).toList, true⟩]) [(1, 0), (2, 1), (7, 2), (8, 3), (10, 4)] (inR knC 15 49) [] [] hV22 (by kernel_rfl) trivial trivial ?_
  intro w23 hV23 hS23
  refine (itself_any _ _ _ _ _ _).mono ?_
  rintro x w24 ⟨rfl, k24⟩
  refine ⟨_, rfl, ?_⟩
  have hV24 := hV23.later k24
  refine go_call_is (gt := fun _ => Option.none) (unroll := false) 60 [] 9 [] [1, 2, 7, 9, 10, 94] [knP w.heap.size, knS w.heap.size, knP w'.heap.size, .bool false, knP (w2.heap.size + 1), .bool true] 95 (knRows w.heap.size ++ [⟨w'.heap.size, (pkA ((3 : Nat) : Int) ((5 : Nat) : Int) ((5 : Nat) : Int) [] []).toList, true⟩, ⟨w2.heap.size, (replyV ((3 : Nat) : Int) ((5 : Nat) : Int) ((5 : Nat) : Int) [] []).toList, true⟩, ⟨w2.heap.size + 1, (pkA ((1 : Nat) : Int) ((5 : Nat) : Int) ((5 : Nat) : Int) [] []).toList, true⟩]) [(1, 0), (2, 1), (7, 2), (8, 3), (10, 4)] (inR knC 15 53) [] [] hV24 (by kernel_rfl) trivial trivial ?_
  intro w25 hV25 hS25
  refine (wakes5_any _ (ha.keep0 hV25.keep)).mono ?_
  rintro x w26 ⟨rfl, k26⟩
  refine ⟨_, rfl, ?_⟩
  have hV26 := hV25.later k26
  exact go_ret (gt := fun _ => Option.none) (unroll := false) 60 [] [.tmp 0] (.bool true) [] [] hV26 Tryd.results7 (by kernel_rfl) trivial trivial (fun w9 hW9 _ => ⟨rfl, hW9.keep⟩)
end
end Go.Proofs.YtpididcghilbjaaDoor
