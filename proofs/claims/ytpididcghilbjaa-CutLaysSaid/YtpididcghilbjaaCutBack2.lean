/-
  tolllaw01's CutBack: the rounds that lay the things. No condition.
-/
import Derived.Test.YtpididcghilbjaaCutBack
namespace Go.Proofs.Ytpididcghilbjaa
open Go.RowKit

noncomputable abbrev cbC : Code := bodyOf Try.f6
noncomputable abbrev cbN : Nat := Try.f6.ntmps
abbrev cbQ (w : World) : Ending → World → Prop := fun x w' => x = .returned (.bool true) ∧ Keep No w w'
theorem m_hi (v : Nat) : IntKind.u8.wrap (Int.fdiv (v : Int) (2 ^ 8)) = ((UInt8.ofNat (v / 256)).toNat : Int) := by
  rw [← m_lo, show ((2 : Int) ^ 8) = ((256 : Nat) : Int) by decide, Int.fdiv_eq_ediv_of_nonneg _ (by omega)]
  rfl
theorem m_kd {k m : Nat} (h : k % 5 = m) : Int.tmod (k : Int) 5 = (m : Int) := by
  have h1 : Int.tmod (k : Int) 5 = ((k % 5 : Nat) : Int) := rem_nat k 5
  rw [h1, h]
theorem m_two (v : Nat) : IntKind.u16.wrap (v : Int) = ((v % 65536 : Nat) : Int) := by
  simp [IntKind.wrap]
  rfl
noncomputable def cb1L (pp : Nat) (vl : Value) (n : Nat) (i : Nat × Value) (w' : World) : Cfg := ⟨frOf [0, 3, 22, 23, 24] [vl, pT pp, vl, .int .i64 (n : Int), .int .i64 ((n - i.1 : Nat) : Int)], tagL [], ⟨[], w'.heap.size⟩, atL cbC 4⟩
structure Cb1J (w : World) (pp : Nat) (xs : List Thg) (i : Nat × Value) (w' : World) : Prop where
  le : i.1 ≤ xs.length
  W : Wst w ⟨[], w'.heap.size⟩ w'
  pd : Pd w' pp i.2 ((xs.take (xs.length - i.1)).flatMap thB)
  hp : w.heap.size ≤ pp
  sv : Since w.heap.size i.2
noncomputable def cb1R (w : World) (pp : Nat) (vl : Value) (xs : List Thg) (i : Nat × Value) : Act → World → Prop := fun a' w' => ∃ k : Nat × Value, k.1 < i.1 ∧ Cb1J w pp xs k w' ∧ agrees cbN (cb1L pp vl xs.length k w') a'
section
variable {w : World} {pp : Nat} {vl : Value} {xs : List Thg}
theorem cb1_tail (i : Nat × Value) {j k : Nat} (hj : i.1 = j + 1) (hk : xs.length - (j + 1) = k) (hjn : j + 1 ≤ xs.length) (h60 : xs.length ≤ 60) {w2 : World} {sv : Value} (hW : Wst w ⟨[], w2.heap.size⟩ w2) (pd : Pd w2 pp sv ((xs.take k).flatMap thB ++ thB (xs.getD k thE))) (hp : w.heap.size ≤ pp) (hsv : Since w.heap.size sv) :
    Goal Try.prog (bodyPost Try.prog Try.f6 (cbQ w)) cbN ⟨frOf [0, 3, 22, 23, 24] [vl, pT pp, vl, .int .i64 (xs.length : Int), .int .i64 (k : Int)], tagL [], ⟨[], w2.heap.size⟩, opsR cbC 17 (.inv (cb1R w pp vl xs i))⟩ w2 := by
  refine go_inv (gt := fun _ => Option.none) (unroll := false) 60 [(17, 0, .is (.int .i64 ((k + 1 : Nat) : Int)))] [0, 3, 22, 23, 24] [vl, pT pp, vl, .int .i64 (xs.length : Int), .int .i64 ((k + 1 : Nat) : Int)] [] (cb1R w pp vl xs i) [(.int .i64 (IntKind.i64.wrap ((k : Int) + 1)), .int .i64 ((k + 1 : Nat) : Int))] [] hW (by kernel_rfl)
    ⟨congrArg (Value.int .i64) (by rw [IntWalk.i64_in _ (by omega)]; omega), trivial⟩ trivial ?_
  intro w5 a hW5 hS5 hs
  have hnext : xs.length - j = k + 1 := by omega
  refine ⟨(j, sv), by rw [hj]; exact Nat.lt_succ_self j, ⟨by show j ≤ xs.length; omega, hW5, ?_, hp, hsv⟩, ?_⟩
  · show Pd w5 pp sv ((xs.take (xs.length - j)).flatMap thB)
    rw [hnext, ths_step (by omega)]
    exact pd.walk (rows := []) (fun _ h => nomatch h) hS5
  · unfold cb1L
    simp only
    rw [hnext]
    exact hs
set_option maxRecDepth 4000 in
theorem cb1_arm0 (i : Nat × Value) {j k : Nat} (hj : i.1 = j + 1) (hk : xs.length - (j + 1) = k) (h60 : xs.length ≤ 60) (w' : World) (hJ : Cb1J w pp xs i w') {x : Thg} (hx : xs.getD k thE = x) (ho : ThOk w x)
    (sl : SemObs Try.prog ⟨[], w'.heap.size⟩ w' [(Instr.indexAt 59 vl (.int .i64 (k : Int)), .pointer (some (adT vl k))), (Instr.loadAt 61 (.pointer (some (adT vl k))), .agg (thA x))]) (hm : x.kd % 5 = 0) :
    Goal Try.prog (bodyPost Try.prog Try.f6 (cbQ w)) cbN ⟨frOf [0, 3, 22, 23, 24] [vl, pT pp, vl, .int .i64 (xs.length : Int), .int .i64 (k : Int)], tagL [], ⟨[], w'.heap.size⟩, .code (loopOf (atL cbC 4)) :: .inv (cb1R w pp vl xs i) :: (atL cbC 4).tail⟩ w' := by
  obtain ⟨hle, hW, hpd, hp, hsv⟩ := hJ
  rw [hj] at hle hpd
  rw [hk] at hpd
  have hc : (k : Int) < (xs.length : Int) := by omega
  have _ := ho.kd
  have hlen := ths_len (xs.take k)
  rw [List.length_take] at hlen
  have hl : ((xs.take k).flatMap thB).length ≤ 2400 := by omega
  have hB : thB x = [UInt8.ofNat x.v] := by simp only [thB, hm]
  refine go_call_is (gt := fun _ => Option.none) (unroll := false) 100 [(4, 0, .is (.bool true)), (5, 0, .sem (.pointer (some (adT vl k)))), (5, 1, .sem (.agg (thA x))), (6, 2, .is (.int .u8 ((UInt8.ofNat x.v).toNat : Int))), (6, 6, .is (.int .u8 ((UInt8.ofNat (x.v / 256)).toNat : Int))), (7, 2, .is (.int .u8 0)), (10, 3, .is (.int .u8 ((UInt8.ofNat x.v).toNat : Int)))] 31 [pT pp, (.slice (some ⟨w'.heap.size + 2, 0, none⟩) 1 1)] [0, 3, 22, 23, 24] [vl, pT pp, vl, .int .i64 (xs.length : Int), .int .i64 (k : Int)] 55 [⟨w'.heap.size, (thA x).toList, true⟩, ⟨w'.heap.size + 1, (macV (thM x.v)).toList, true⟩, ⟨w'.heap.size + 2, [.int .u8 ((UInt8.ofNat x.v).toNat : Int)], true⟩] [] (inR cbC 10 5 (.inv (cb1R w pp vl xs i))) [(.bool (decide ((k : Int) < (xs.length : Int))), .bool true), (.int .u8 (IntKind.u8.wrap (x.v : Int)), .int .u8 ((UInt8.ofNat x.v).toNat : Int)), (.int .u8 (IntKind.u8.wrap (Int.fdiv (x.v : Int) (2 ^ 8))), .int .u8 ((UInt8.ofNat (x.v / 256)).toNat : Int)), (.int .u8 (Int.tmod (x.kd : Int) 5), .int .u8 0), (.int .u8 (IntKind.u8.wrap (x.v : Int)), .int .u8 ((UInt8.ofNat x.v).toNat : Int))] [(Instr.indexAt 59 vl (.int .i64 (k : Int)), .pointer (some (adT vl k))), (Instr.loadAt 61 (.pointer (some (adT vl k))), .agg (thA x))] hW (by kernel_rfl) ⟨congrArg Value.bool (by simpa using hc), congrArg (Value.int .u8) (m_lo x.v), congrArg (Value.int .u8) (m_hi x.v), congrArg (Value.int .u8) (m_kd hm), congrArg (Value.int .u8) (m_lo x.v), trivial⟩ ⟨fun wx hx => sl.1 wx hx, fun wx hx => sl.2.1 wx hx, trivial⟩ ?_
  intro w1 hW1 hS1
  have pd1 := hpd.walk (rows := []) (fun _ h => nomatch h) hS1
  have r1 : Rd w1 (.slice (some ⟨w'.heap.size + 2, 0, none⟩) 1 1) [UInt8.ofNat x.v] := Rd.of_row hW1 (List.mem_cons_of_mem _ (List.mem_cons_of_mem _ (List.mem_cons_self ..))) 1 rfl (by simp [maxLen]) (fun i hi => by
    have : i = 0 := by simp at hi; omega
    subst this; rfl)
  refine (pbyte_any pd1 r1 (by simp only [List.length_cons, List.length_nil]; omega)).mono ?_
  rintro y w2 ⟨sv', rfl, pd2, k2, hla⟩
  refine ⟨_, rfl, ?_⟩
  have hW1' : Wst w ⟨[], w1.heap.size⟩ w1 := hW1.fewer (rows := [])
  have hW2 : Wst w ⟨[], w2.heap.size⟩ w2 := hW1'.laterS k2 (fun q hq => ⟨by rcases hq with rfl | hq; exact hp; exact hsv q hq, fun _ h => nomatch h⟩)
  have hsv2 : Since w.heap.size sv' := by
    rcases hla with e | e
    · intro b hb; rw [e] at hb; exact hsv b hb
    · exact e.mono hW1.keep.size
  have hBs : thB (xs.getD k thE) = [UInt8.ofNat x.v] := by rw [hx, hB]
  refine Goal.re (tags := tagL []) (m := ⟨[], w2.heap.size⟩) ?_
  refine go_stop (gt := fun _ => Option.none) (unroll := false) 60 [(17, 0, .stop)] [0, 3, 22, 23, 24] [vl, pT pp, vl, .int .i64 (xs.length : Int), .int .i64 (k : Int)] [] [] (opsR cbC 17 (.inv (cb1R w pp vl xs i))) [] [] hW2 (by kernel_rfl) trivial trivial ?_
  intro w3 hW3 hS3
  refine cb1_tail i hj hk hle h60 hW3 ?_ hp hsv2
  rw [hBs]
  exact pd2.walk (rows := []) (fun _ h => nomatch h) hS3
set_option maxRecDepth 4000 in
theorem cb1_arm1 (i : Nat × Value) {j k : Nat} (hj : i.1 = j + 1) (hk : xs.length - (j + 1) = k) (h60 : xs.length ≤ 60) (w' : World) (hJ : Cb1J w pp xs i w') {x : Thg} (hx : xs.getD k thE = x) (ho : ThOk w x)
    (sl : SemObs Try.prog ⟨[], w'.heap.size⟩ w' [(Instr.indexAt 59 vl (.int .i64 (k : Int)), .pointer (some (adT vl k))), (Instr.loadAt 61 (.pointer (some (adT vl k))), .agg (thA x))]) (hm : x.kd % 5 = 1) :
    Goal Try.prog (bodyPost Try.prog Try.f6 (cbQ w)) cbN ⟨frOf [0, 3, 22, 23, 24] [vl, pT pp, vl, .int .i64 (xs.length : Int), .int .i64 (k : Int)], tagL [], ⟨[], w'.heap.size⟩, .code (loopOf (atL cbC 4)) :: .inv (cb1R w pp vl xs i) :: (atL cbC 4).tail⟩ w' := by
  obtain ⟨hle, hW, hpd, hp, hsv⟩ := hJ
  rw [hj] at hle hpd
  rw [hk] at hpd
  have hc : (k : Int) < (xs.length : Int) := by omega
  have _ := ho.kd
  have hlen := ths_len (xs.take k)
  rw [List.length_take] at hlen
  have hl : ((xs.take k).flatMap thB).length ≤ 2400 := by omega
  have hB : thB x = bytes2 (x.v % 65536) := by simp only [thB, hm]
  refine go_call_is (gt := fun _ => Option.none) (unroll := false) 100 [(4, 0, .is (.bool true)), (5, 0, .sem (.pointer (some (adT vl k)))), (5, 1, .sem (.agg (thA x))), (6, 2, .is (.int .u8 ((UInt8.ofNat x.v).toNat : Int))), (6, 6, .is (.int .u8 ((UInt8.ofNat (x.v / 256)).toNat : Int))), (7, 2, .is (.int .u8 1)), (12, 3, .is (.int .u16 (x.v % 65536 : Nat)))] 32 [pT pp, (.slice (some ⟨w'.heap.size + 2, 0, none⟩) 1 1)] [0, 3, 22, 23, 24] [vl, pT pp, vl, .int .i64 (xs.length : Int), .int .i64 (k : Int)] 63 [⟨w'.heap.size, (thA x).toList, true⟩, ⟨w'.heap.size + 1, (macV (thM x.v)).toList, true⟩, ⟨w'.heap.size + 2, [.int .u16 (x.v % 65536 : Nat)], true⟩] [] (inR cbC 12 5 (.inv (cb1R w pp vl xs i))) [(.bool (decide ((k : Int) < (xs.length : Int))), .bool true), (.int .u8 (IntKind.u8.wrap (x.v : Int)), .int .u8 ((UInt8.ofNat x.v).toNat : Int)), (.int .u8 (IntKind.u8.wrap (Int.fdiv (x.v : Int) (2 ^ 8))), .int .u8 ((UInt8.ofNat (x.v / 256)).toNat : Int)), (.int .u8 (Int.tmod (x.kd : Int) 5), .int .u8 1), (.int .u16 (IntKind.u16.wrap (x.v : Int)), .int .u16 (x.v % 65536 : Nat))] [(Instr.indexAt 59 vl (.int .i64 (k : Int)), .pointer (some (adT vl k))), (Instr.loadAt 61 (.pointer (some (adT vl k))), .agg (thA x))] hW (by kernel_rfl) ⟨congrArg Value.bool (by simpa using hc), congrArg (Value.int .u8) (m_lo x.v), congrArg (Value.int .u8) (m_hi x.v), congrArg (Value.int .u8) (m_kd hm), congrArg (Value.int .u16) (m_two x.v), trivial⟩ ⟨fun wx hx => sl.1 wx hx, fun wx hx => sl.2.1 wx hx, trivial⟩ ?_
  intro w1 hW1 hS1
  have pd1 := hpd.walk (rows := []) (fun _ h => nomatch h) hS1
  have hne : ∀ b, (Value.slice (some ⟨w'.heap.size + 2, 0, none⟩) 1 1).ownBlock = some b → ¬ Foot pp i.2 b := fun b hb hf => by
    obtain rfl : w'.heap.size + 2 = b := Option.some.inj hb
    rcases hf with e | e
    · have := hpd.lt; omega
    · have := hpd.own.lt _ e; omega
  have s1 : Sl 1 w1 (.slice (some ⟨w'.heap.size + 2, 0, none⟩) 1 1) [x.v % 65536].length (fun i => .int .u16 (([x.v % 65536] : List Nat).getD i 0 : Nat)) := Sl.of_row hW1 (List.mem_cons_of_mem _ (List.mem_cons_of_mem _ (List.mem_cons_self ..))) 1 1 (by simp [maxLen]) (fun j hj => by
    have : j = 0 := by omega
    subst this; rfl)
  refine (ptwo_any pd1 s1 (fun i hi => by
    have : i = 0 := by simp at hi; omega
    subst this; exact Nat.mod_lt _ (by omega)) hne (by simp only [List.length_cons, List.length_nil]; omega)).mono ?_
  rintro y w2 ⟨sv', rfl, pd2, k2, hla⟩
  refine ⟨_, rfl, ?_⟩
  have hW1' : Wst w ⟨[], w1.heap.size⟩ w1 := hW1.fewer (rows := [])
  have hW2 : Wst w ⟨[], w2.heap.size⟩ w2 := hW1'.laterS k2 (fun q hq => ⟨by rcases hq with rfl | hq; exact hp; exact hsv q hq, fun _ h => nomatch h⟩)
  have hsv2 : Since w.heap.size sv' := by
    rcases hla with e | e
    · intro b hb; rw [e] at hb; exact hsv b hb
    · exact e.mono hW1.keep.size
  have hBs : thB (xs.getD k thE) = [x.v % 65536].flatMap bytes2 := by rw [hx, hB]; simp
  refine Goal.re (tags := tagL []) (m := ⟨[], w2.heap.size⟩) ?_
  refine go_stop (gt := fun _ => Option.none) (unroll := false) 60 [(17, 0, .stop)] [0, 3, 22, 23, 24] [vl, pT pp, vl, .int .i64 (xs.length : Int), .int .i64 (k : Int)] [] [] (opsR cbC 17 (.inv (cb1R w pp vl xs i))) [] [] hW2 (by kernel_rfl) trivial trivial ?_
  intro w3 hW3 hS3
  refine cb1_tail i hj hk hle h60 hW3 ?_ hp hsv2
  rw [hBs]
  exact pd2.walk (rows := []) (fun _ h => nomatch h) hS3
set_option maxRecDepth 4000 in
theorem cb1_arm2 (i : Nat × Value) {j k : Nat} (hj : i.1 = j + 1) (hk : xs.length - (j + 1) = k) (h60 : xs.length ≤ 60) (w' : World) (hJ : Cb1J w pp xs i w') {x : Thg} (hx : xs.getD k thE = x) (ho : ThOk w x)
    (sl : SemObs Try.prog ⟨[], w'.heap.size⟩ w' [(Instr.indexAt 59 vl (.int .i64 (k : Int)), .pointer (some (adT vl k))), (Instr.loadAt 61 (.pointer (some (adT vl k))), .agg (thA x))]) (hm : x.kd % 5 = 2) :
    Goal Try.prog (bodyPost Try.prog Try.f6 (cbQ w)) cbN ⟨frOf [0, 3, 22, 23, 24] [vl, pT pp, vl, .int .i64 (xs.length : Int), .int .i64 (k : Int)], tagL [], ⟨[], w'.heap.size⟩, .code (loopOf (atL cbC 4)) :: .inv (cb1R w pp vl xs i) :: (atL cbC 4).tail⟩ w' := by
  obtain ⟨hle, hW, hpd, hp, hsv⟩ := hJ
  rw [hj] at hle hpd
  rw [hk] at hpd
  have hc : (k : Int) < (xs.length : Int) := by omega
  have _ := ho.kd
  have hlen := ths_len (xs.take k)
  rw [List.length_take] at hlen
  have hl : ((xs.take k).flatMap thB).length ≤ 2400 := by omega
  have hB : thB x = bytes4 x.v := by simp only [thB, hm]
  refine go_call_is (gt := fun _ => Option.none) (unroll := false) 100 [(4, 0, .is (.bool true)), (5, 0, .sem (.pointer (some (adT vl k)))), (5, 1, .sem (.agg (thA x))), (6, 2, .is (.int .u8 ((UInt8.ofNat x.v).toNat : Int))), (6, 6, .is (.int .u8 ((UInt8.ofNat (x.v / 256)).toNat : Int))), (7, 2, .is (.int .u8 2))] 34 [pT pp, (.slice (some ⟨w'.heap.size + 2, 0, none⟩) 1 1)] [0, 3, 22, 23, 24] [vl, pT pp, vl, .int .i64 (xs.length : Int), .int .i64 (k : Int)] 70 [⟨w'.heap.size, (thA x).toList, true⟩, ⟨w'.heap.size + 1, (macV (thM x.v)).toList, true⟩, ⟨w'.heap.size + 2, [.int .u32 (x.v : Int)], true⟩] [] (inR cbC 14 4 (.inv (cb1R w pp vl xs i))) [(.bool (decide ((k : Int) < (xs.length : Int))), .bool true), (.int .u8 (IntKind.u8.wrap (x.v : Int)), .int .u8 ((UInt8.ofNat x.v).toNat : Int)), (.int .u8 (IntKind.u8.wrap (Int.fdiv (x.v : Int) (2 ^ 8))), .int .u8 ((UInt8.ofNat (x.v / 256)).toNat : Int)), (.int .u8 (Int.tmod (x.kd : Int) 5), .int .u8 2)] [(Instr.indexAt 59 vl (.int .i64 (k : Int)), .pointer (some (adT vl k))), (Instr.loadAt 61 (.pointer (some (adT vl k))), .agg (thA x))] hW (by kernel_rfl) ⟨congrArg Value.bool (by simpa using hc), congrArg (Value.int .u8) (m_lo x.v), congrArg (Value.int .u8) (m_hi x.v), congrArg (Value.int .u8) (m_kd hm), trivial⟩ ⟨fun wx hx => sl.1 wx hx, fun wx hx => sl.2.1 wx hx, trivial⟩ ?_
  intro w1 hW1 hS1
  have pd1 := hpd.walk (rows := []) (fun _ h => nomatch h) hS1
  have hne : ∀ b, (Value.slice (some ⟨w'.heap.size + 2, 0, none⟩) 1 1).ownBlock = some b → ¬ Foot pp i.2 b := fun b hb hf => by
    obtain rfl : w'.heap.size + 2 = b := Option.some.inj hb
    rcases hf with e | e
    · have := hpd.lt; omega
    · have := hpd.own.lt _ e; omega
  have s1 : Sl 1 w1 (.slice (some ⟨w'.heap.size + 2, 0, none⟩) 1 1) [x.v].length (fun i => .int .u32 (([x.v] : List Nat).getD i 0 : Nat)) := Sl.of_row hW1 (List.mem_cons_of_mem _ (List.mem_cons_of_mem _ (List.mem_cons_self ..))) 1 1 (by simp [maxLen]) (fun j hj => by
    have : j = 0 := by omega
    subst this; rfl)
  refine (pfour_any pd1 s1 (fun i hi => by
    have : i = 0 := by simp at hi; omega
    subst this; exact ho.v) hne (by simp only [List.length_cons, List.length_nil]; omega)).mono ?_
  rintro y w2 ⟨sv', rfl, pd2, k2, hla⟩
  refine ⟨_, rfl, ?_⟩
  have hW1' : Wst w ⟨[], w1.heap.size⟩ w1 := hW1.fewer (rows := [])
  have hW2 : Wst w ⟨[], w2.heap.size⟩ w2 := hW1'.laterS k2 (fun q hq => ⟨by rcases hq with rfl | hq; exact hp; exact hsv q hq, fun _ h => nomatch h⟩)
  have hsv2 : Since w.heap.size sv' := by
    rcases hla with e | e
    · intro b hb; rw [e] at hb; exact hsv b hb
    · exact e.mono hW1.keep.size
  have hBs : thB (xs.getD k thE) = [x.v].flatMap bytes4 := by rw [hx, hB]; simp
  refine Goal.re (tags := tagL []) (m := ⟨[], w2.heap.size⟩) ?_
  refine go_stop (gt := fun _ => Option.none) (unroll := false) 60 [(17, 0, .stop)] [0, 3, 22, 23, 24] [vl, pT pp, vl, .int .i64 (xs.length : Int), .int .i64 (k : Int)] [] [] (opsR cbC 17 (.inv (cb1R w pp vl xs i))) [] [] hW2 (by kernel_rfl) trivial trivial ?_
  intro w3 hW3 hS3
  refine cb1_tail i hj hk hle h60 hW3 ?_ hp hsv2
  rw [hBs]
  exact pd2.walk (rows := []) (fun _ h => nomatch h) hS3
set_option maxRecDepth 4000 in
theorem cb1_arm3 (i : Nat × Value) {j k : Nat} (hj : i.1 = j + 1) (hk : xs.length - (j + 1) = k) (h60 : xs.length ≤ 60) (w' : World) (hJ : Cb1J w pp xs i w') {x : Thg} (hx : xs.getD k thE = x) (ho : ThOk w x)
    (sl : SemObs Try.prog ⟨[], w'.heap.size⟩ w' [(Instr.indexAt 59 vl (.int .i64 (k : Int)), .pointer (some (adT vl k))), (Instr.loadAt 61 (.pointer (some (adT vl k))), .agg (thA x))]) (hm : x.kd % 5 = 3) :
    Goal Try.prog (bodyPost Try.prog Try.f6 (cbQ w)) cbN ⟨frOf [0, 3, 22, 23, 24] [vl, pT pp, vl, .int .i64 (xs.length : Int), .int .i64 (k : Int)], tagL [], ⟨[], w'.heap.size⟩, .code (loopOf (atL cbC 4)) :: .inv (cb1R w pp vl xs i) :: (atL cbC 4).tail⟩ w' := by
  obtain ⟨hle, hW, hpd, hp, hsv⟩ := hJ
  rw [hj] at hle hpd
  rw [hk] at hpd
  have hc : (k : Int) < (xs.length : Int) := by omega
  have _ := ho.kd
  have hlen := ths_len (xs.take k)
  rw [List.length_take] at hlen
  have hl : ((xs.take k).flatMap thB).length ≤ 2400 := by omega
  have hB : thB x = thM x.v := by simp only [thB, hm]
  refine go_call_is (gt := fun _ => Option.none) (unroll := false) 100 [(4, 0, .is (.bool true)), (5, 0, .sem (.pointer (some (adT vl k)))), (5, 1, .sem (.agg (thA x))), (6, 2, .is (.int .u8 ((UInt8.ofNat x.v).toNat : Int))), (6, 6, .is (.int .u8 ((UInt8.ofNat (x.v / 256)).toNat : Int))), (7, 2, .is (.int .u8 3))] 35 [pT pp, (.slice (some ⟨w'.heap.size + 2, 0, none⟩) 1 1)] [0, 3, 22, 23, 24] [vl, pT pp, vl, .int .i64 (xs.length : Int), .int .i64 (k : Int)] 76 [⟨w'.heap.size, (thA x).toList, true⟩, ⟨w'.heap.size + 1, (macV (thM x.v)).toList, true⟩, ⟨w'.heap.size + 2, (macV (thM x.v)).toList, true⟩] [] (inR cbC 16 3 (.inv (cb1R w pp vl xs i))) [(.bool (decide ((k : Int) < (xs.length : Int))), .bool true), (.int .u8 (IntKind.u8.wrap (x.v : Int)), .int .u8 ((UInt8.ofNat x.v).toNat : Int)), (.int .u8 (IntKind.u8.wrap (Int.fdiv (x.v : Int) (2 ^ 8))), .int .u8 ((UInt8.ofNat (x.v / 256)).toNat : Int)), (.int .u8 (Int.tmod (x.kd : Int) 5), .int .u8 3)] [(Instr.indexAt 59 vl (.int .i64 (k : Int)), .pointer (some (adT vl k))), (Instr.loadAt 61 (.pointer (some (adT vl k))), .agg (thA x))] hW (by kernel_rfl) ⟨congrArg Value.bool (by simpa using hc), congrArg (Value.int .u8) (m_lo x.v), congrArg (Value.int .u8) (m_hi x.v), congrArg (Value.int .u8) (m_kd hm), trivial⟩ ⟨fun wx hx => sl.1 wx hx, fun wx hx => sl.2.1 wx hx, trivial⟩ ?_
  intro w1 hW1 hS1
  have pd1 := hpd.walk (rows := []) (fun _ h => nomatch h) hS1
  have hne : ∀ b, (Value.slice (some ⟨w'.heap.size + 2, 0, none⟩) 1 1).ownBlock = some b → ¬ Foot pp i.2 b := fun b hb hf => by
    obtain rfl : w'.heap.size + 2 = b := Option.some.inj hb
    rcases hf with e | e
    · have := hpd.lt; omega
    · have := hpd.own.lt _ e; omega
  have s1 : Sl 6 w1 (.slice (some ⟨w'.heap.size + 2, 0, none⟩) 1 1) [thM x.v].length (fun j => .int .u8 ((byteAt ([thM x.v].getD (j / 6) []) (j % 6)).toNat : Int)) := Sl.of_row hW1 (List.mem_cons_of_mem _ (List.mem_cons_of_mem _ (List.mem_cons_self ..))) 6 1 (by simp [maxLen]) (fun j hj => by
    have : j = 0 ∨ j = 1 ∨ j = 2 ∨ j = 3 ∨ j = 4 ∨ j = 5 := by omega
    rcases this with rfl | rfl | rfl | rfl | rfl | rfl <;> rfl)
  refine (pmac_any pd1 s1 hne (by simp only [List.length_cons, List.length_nil]; omega)).mono ?_
  rintro y w2 ⟨sv', rfl, pd2, k2, hla⟩
  refine ⟨_, rfl, ?_⟩
  have hW1' : Wst w ⟨[], w1.heap.size⟩ w1 := hW1.fewer (rows := [])
  have hW2 : Wst w ⟨[], w2.heap.size⟩ w2 := hW1'.laterS k2 (fun q hq => ⟨by rcases hq with rfl | hq; exact hp; exact hsv q hq, fun _ h => nomatch h⟩)
  have hsv2 : Since w.heap.size sv' := by
    rcases hla with e | e
    · intro b hb; rw [e] at hb; exact hsv b hb
    · exact e.mono hW1.keep.size
  have hBs : thB (xs.getD k thE) = [thM x.v].flatMap macL := by rw [hx, hB]; rfl
  refine Goal.re (tags := tagL []) (m := ⟨[], w2.heap.size⟩) ?_
  refine go_stop (gt := fun _ => Option.none) (unroll := false) 60 [(17, 0, .stop)] [0, 3, 22, 23, 24] [vl, pT pp, vl, .int .i64 (xs.length : Int), .int .i64 (k : Int)] [] [] (opsR cbC 17 (.inv (cb1R w pp vl xs i))) [] [] hW2 (by kernel_rfl) trivial trivial ?_
  intro w3 hW3 hS3
  refine cb1_tail i hj hk hle h60 hW3 ?_ hp hsv2
  rw [hBs]
  exact pd2.walk (rows := []) (fun _ h => nomatch h) hS3
set_option maxRecDepth 4000 in
theorem cb1_arm4 (i : Nat × Value) {j k : Nat} (hj : i.1 = j + 1) (hk : xs.length - (j + 1) = k) (h60 : xs.length ≤ 60) (w' : World) (hJ : Cb1J w pp xs i w') {x : Thg} (hx : xs.getD k thE = x) (ho : ThOk w x)
    (sl : SemObs Try.prog ⟨[], w'.heap.size⟩ w' [(Instr.indexAt 59 vl (.int .i64 (k : Int)), .pointer (some (adT vl k))), (Instr.loadAt 61 (.pointer (some (adT vl k))), .agg (thA x))]) (hm : x.kd % 5 = 4) :
    Goal Try.prog (bodyPost Try.prog Try.f6 (cbQ w)) cbN ⟨frOf [0, 3, 22, 23, 24] [vl, pT pp, vl, .int .i64 (xs.length : Int), .int .i64 (k : Int)], tagL [], ⟨[], w'.heap.size⟩, .code (loopOf (atL cbC 4)) :: .inv (cb1R w pp vl xs i) :: (atL cbC 4).tail⟩ w' := by
  obtain ⟨hle, hW, hpd, hp, hsv⟩ := hJ
  rw [hj] at hle hpd
  rw [hk] at hpd
  have hc : (k : Int) < (xs.length : Int) := by omega
  have _ := ho.kd
  have hlen := ths_len (xs.take k)
  rw [List.length_take] at hlen
  have hl : ((xs.take k).flatMap thB).length ≤ 2400 := by omega
  have hB : thB x = x.l.take (mn x.l.length 40) := by simp only [thB, hm]
  refine go_call_is (gt := fun _ => Option.none) (unroll := false) 100 [(4, 0, .is (.bool true)), (5, 0, .sem (.pointer (some (adT vl k)))), (5, 1, .sem (.agg (thA x))), (6, 2, .is (.int .u8 ((UInt8.ofNat x.v).toNat : Int))), (6, 6, .is (.int .u8 ((UInt8.ofNat (x.v / 256)).toNat : Int))), (7, 2, .is (.int .u8 4)), (8, 5, .sem (.int .i64 (x.l.length : Int))), (8, 6, .sem (.int .i64 (mn x.l.length 40 : Nat))), (8, 7, .sem (cutv x.b 0 (mn x.l.length 40)))] 31 [pT pp, cutv x.b 0 (mn x.l.length 40)] [0, 3, 22, 23, 24] [vl, pT pp, vl, .int .i64 (xs.length : Int), .int .i64 (k : Int)] 47 [⟨w'.heap.size, (thA x).toList, true⟩, ⟨w'.heap.size + 1, (macV (thM x.v)).toList, true⟩] [] (inR cbC 8 8 (.inv (cb1R w pp vl xs i))) [(.bool (decide ((k : Int) < (xs.length : Int))), .bool true), (.int .u8 (IntKind.u8.wrap (x.v : Int)), .int .u8 ((UInt8.ofNat x.v).toNat : Int)), (.int .u8 (IntKind.u8.wrap (Int.fdiv (x.v : Int) (2 ^ 8))), .int .u8 ((UInt8.ofNat (x.v / 256)).toNat : Int)), (.int .u8 (Int.tmod (x.kd : Int) 5), .int .u8 4)] [(Instr.indexAt 59 vl (.int .i64 (k : Int)), .pointer (some (adT vl k))), (Instr.loadAt 61 (.pointer (some (adT vl k))), .agg (thA x)), (Builtin.len_ #[22] 3 #[x.b], .int .i64 (x.l.length : Int)), (Builtin.min_ #[3, 3] 3 #[.int .i64 (x.l.length : Int), .int .i64 40], .int .i64 (mn x.l.length 40 : Nat)), (Instr.sliceAt 22 x.b Option.none (some (.int .i64 (mn x.l.length 40 : Nat))) Option.none, cutv x.b 0 (mn x.l.length 40))] hW (by kernel_rfl) ⟨congrArg Value.bool (by simpa using hc), congrArg (Value.int .u8) (m_lo x.v), congrArg (Value.int .u8) (m_hi x.v), congrArg (Value.int .u8) (m_kd hm), trivial⟩ ⟨fun wx hx => sl.1 wx hx, fun wx hx => sl.2.1 wx hx, fun wx _ => ho.rd.run_len (ty := 3) bt.sl, fun wx _ => run_mn #[3, 3] 3 x.l.length 40, fun wx _ => ho.rd.sem_cutH (mn_le_left _ _) wx, trivial⟩ ?_
  intro w1 hW1 hS1
  have pd1 := hpd.walk (rows := []) (fun _ h => nomatch h) hS1
  have r1 : Rd w1 (cutv x.b 0 (mn x.l.length 40)) (x.l.take (mn x.l.length 40)) := by
    have := (ho.rd.keep0 hW1.keep).cut (l := 0) (Nat.zero_le _) (mn_le_left x.l.length 40)
    simpa using this
  have := mn_le_right x.l.length 40
  refine (pbyte_any pd1 r1 (by simp only [List.length_take]; omega)).mono ?_
  rintro y w2 ⟨sv', rfl, pd2, k2, hla⟩
  refine ⟨_, rfl, ?_⟩
  have hW1' : Wst w ⟨[], w1.heap.size⟩ w1 := hW1.fewer (rows := [])
  have hW2 : Wst w ⟨[], w2.heap.size⟩ w2 := hW1'.laterS k2 (fun q hq => ⟨by rcases hq with rfl | hq; exact hp; exact hsv q hq, fun _ h => nomatch h⟩)
  have hsv2 : Since w.heap.size sv' := by
    rcases hla with e | e
    · intro b hb; rw [e] at hb; exact hsv b hb
    · exact e.mono hW1.keep.size
  have hBs : thB (xs.getD k thE) = x.l.take (mn x.l.length 40) := by rw [hx, hB]
  refine Goal.re (tags := tagL []) (m := ⟨[], w2.heap.size⟩) ?_
  refine go_stop (gt := fun _ => Option.none) (unroll := false) 60 [(17, 0, .stop)] [0, 3, 22, 23, 24] [vl, pT pp, vl, .int .i64 (xs.length : Int), .int .i64 (k : Int)] [] [] (opsR cbC 17 (.inv (cb1R w pp vl xs i))) [] [] hW2 (by kernel_rfl) trivial trivial ?_
  intro w3 hW3 hS3
  refine cb1_tail i hj hk hle h60 hW3 ?_ hp hsv2
  rw [hBs]
  exact pd2.walk (rows := []) (fun _ h => nomatch h) hS3
end
end Go.Proofs.Ytpididcghilbjaa
