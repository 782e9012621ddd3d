/-
  tolllaw01's CutLays: the rounds, an arm for each kind of call. No condition.
-/
import Derived.Test.YtpididcghilbjaaCutLays
import Derived.Test.YtpididcghilbjaaAppD
namespace Go.Proofs.Ytpididcghilbjaa
open Go.RowKit

theorem m_and {v : Nat} (h : v < 4294967296) : IntKind.u32.wrap ((BitVec.ofInt 32 (v : Int) &&& BitVec.ofInt 32 65535).toNat : Int) = ((v % 65536 : Nat) : Int) := by
  have h1 : (BitVec.ofInt 32 (v : Int)).toNat = v := by
    rw [BitVec.ofInt_natCast, BitVec.toNat_ofNat]; exact Nat.mod_eq_of_lt h
  have h2 : (BitVec.ofInt 32 65535).toNat = 2 ^ 16 - 1 := by decide
  rw [BitVec.toNat_and, h1, h2, Nat.and_two_pow_sub_one_eq_mod]
  exact IntWalk.u32_in _ (by omega)
theorem m_inc (v : Nat) : IntKind.u32.wrap ((v : Int) + 1) = (((v + 1) % 4294967296 : Nat) : Int) := by
  simp [IntKind.wrap]
  rfl
theorem two_eq (v : Nat) : [UInt8.ofNat (v / 256), UInt8.ofNat v] = bytes2 v := rfl
theorem four_eq (v : Nat) : [UInt8.ofNat (v / 256 / 256 / 256), UInt8.ofNat (v / 256 / 256), UInt8.ofNat (v / 256), UInt8.ofNat v] = bytes4 v := by
  have e : ∀ a b : Nat, a % 256 = b % 256 → UInt8.ofNat a = UInt8.ofNat b := fun a b h => by
    apply UInt8.toNat.inj
    simpa using h
  unfold bytes4 bytes2
  simp only [List.cons_append, List.nil_append]
  rw [e (v / 256 / 256 / 256) (v / 65536 / 256) (by omega), e (v / 256 / 256) (v / 65536) (by omega), e (v / 256) (v % 65536 / 256) (by omega), e v (v % 65536) (by omega)]
theorem set_eq {bs : List UInt8} {a v : Nat} (h : a + 2 ≤ bs.length) : (bs.set a (UInt8.ofNat (v / 256))).set (a + 1) (UInt8.ofNat v) = bs.take a ++ bytes2 v ++ bs.drop (a + 2) := by
  apply List.ext_getElem?
  intro i
  simp only [List.getElem?_set, List.length_set, bytes2, List.append_assoc, List.getElem?_append, List.length_take, List.getElem?_take, List.getElem?_drop, List.length_cons, List.length_nil]
  rcases Nat.lt_trichotomy i a with h1 | h1 | h1
  · rw [if_neg (by omega), if_neg (by omega), if_pos (by omega), if_pos h1]
  · subst h1
    rw [if_neg (by omega), if_pos rfl, if_pos (by omega), if_neg (by omega), if_pos (by omega)]
    simp [Nat.min_eq_left (by omega : i ≤ bs.length)]
  · by_cases h2 : i = a + 1
    · subst h2
      rw [if_pos rfl, if_pos (by omega), if_neg (by omega), if_pos (by omega)]
      simp [Nat.min_eq_left (by omega : a ≤ bs.length)]
    · rw [if_neg (by omega), if_neg (by omega), if_neg (by omega), if_neg (by omega)]
      congr 1
      omega
def mlB (v : Nat) : List UInt8 := [1, UInt8.ofNat v, 0, 0, 0, 0]
section
variable {w : World} {vx vy : Value} {pp : Nat} {vl : Value} {n : Nat}
/-- To the check at a round's end. -/
theorem cl_join (i : ClI) {j k : Nat} (hj : i.j = j + 1) (hk : n - (j + 1) = k) (hjn : j + 1 ≤ n) (h60 : k < 60) {w1 : World} {sv u : Value} {bp bw : List UInt8} {rows : List RowS} {tg : List (Nat × Nat)} {ts : List Tmp} {vs : List Value} {T : List K} (hW : Wst w ⟨rows, w1.heap.size⟩ w1) (F : ClF w w1 rows pp sv u bp bw) (hb : bp = bw) (hlen : bw.length ≤ 40 * (k + 1))
    (he : ∀ w1 : World, (([1, 2, 7, 8, 18, 19, 20].map (run Try.prog clN (fun _ => Option.none) false [(32, 0, .stop)] 100 ⟨frOf ts vs, tagL [], ⟨[], w1.heap.size⟩, T⟩).1.fr, (run Try.prog clN (fun _ => Option.none) false [(32, 0, .stop)] 100 ⟨frOf ts vs, tagL [], ⟨[], w1.heap.size⟩, T⟩).1.m.rows, (run Try.prog clN (fun _ => Option.none) false [(32, 0, .stop)] 100 ⟨frOf ts vs, tagL [], ⟨[], w1.heap.size⟩, T⟩).1.todo, (run Try.prog clN (fun _ => Option.none) false [(32, 0, .stop)] 100 ⟨frOf ts vs, tagL [], ⟨[], w1.heap.size⟩, T⟩).2.eqs, (run Try.prog clN (fun _ => Option.none) false [(32, 0, .stop)] 100 ⟨frOf ts vs, tagL [], ⟨[], w1.heap.size⟩, T⟩).2.sems), (run Try.prog clN (fun _ => Option.none) false [(32, 0, .stop)] 100 ⟨frOf ts vs, tagL [], ⟨[], w1.heap.size⟩, T⟩).2.blks.map (·.1)) =
      (([vx, vy, pT pp, u, vl, .int .i64 (n : Int), .int .i64 (k : Int)].map some, [], opsR clC 32 (.inv (clR w vx vy pp vl n i)), [], []), (run Try.prog clN (fun _ => Option.none) false [(32, 0, .stop)] 100 ⟨frOf ts vs, tagL [], ⟨[], w1.heap.size⟩, T⟩).2.blks.map (·.2))) :
    Goal Try.prog (bodyPost Try.prog Try.f7 (clQ w)) clN ⟨frOf ts vs, tagL tg, ⟨rows, w1.heap.size⟩, T⟩ w1 := by
  subst hb
  refine Goal.re (tags := tagL []) (m := ⟨[], w1.heap.size⟩) ?_
  refine go_stop (gt := fun _ => Option.none) (unroll := false) 100 [(32, 0, .stop)] [1, 2, 7, 8, 18, 19, 20] [vx, vy, pT pp, u, vl, .int .i64 (n : Int), .int .i64 (k : Int)] [] [] (opsR clC 32 (.inv (clR w vx vy pp vl n i))) [] [] (hW.fewer (rows := [])) (he w1) trivial trivial ?_
  intro w3 hW3 hS3
  exact cl_tail i hj hk hjn h60 hW3 (F.none.pass0 hS3 hW3) hlen
set_option maxRecDepth 4000 in
theorem cl_arm0 (i : ClI) {j k : Nat} (hj : i.j = j + 1) (hk : n - (j + 1) = k) (h60 : k < 60) (w' : World) (hJ : ClJ w pp n i w') {x : Ac} (ho : AcOk w x)
    (sl : SemObs Try.prog ⟨[], w'.heap.size⟩ w' [(Instr.indexAt 42 vl (.int .i64 (k : Int)), .pointer (some (adA vl k))), (Instr.loadAt 48 (.pointer (some (adA vl k))), .agg (acA x))]) (hm : x.wh = 0) :
    Goal Try.prog (bodyPost Try.prog Try.f7 (clQ w)) clN ⟨frOf [1, 2, 7, 8, 18, 19, 20] [vx, vy, pT pp, i.u, vl, .int .i64 (n : Int), .int .i64 (k : Int)], tagL [], ⟨[], w'.heap.size⟩, .code (loopOf (atL clC 4)) :: .inv (clR w vx vy pp vl n i) :: (atL clC 4).tail⟩ w' := by
  obtain ⟨hle, hW, F, hlen, _⟩ := hJ
  rw [hj] at hle hlen
  rw [hk] at hlen
  have hc : (k : Int) < (n : Int) := by omega
  have _ := ho.v
  refine go_call_is (gt := fun _ => Option.none) (unroll := false) 100 [(4, 0, .is (.bool true)), (5, 1, .sem (.pointer (some (adA vl k)))), (5, 2, .sem (.agg (acA x))), (6, 1, .is (.bool false)), (7, 4, .sem (.int .i64 (x.l.length : Int))), (7, 5, .sem (.int .i64 (mn x.l.length 40 : Nat))), (7, 6, .sem (cutv x.b 0 (mn x.l.length 40))), (8, 1, .is (.int .i64 0)), (10, 3, .is (.int .u8 ((UInt8.ofNat x.v).toNat : Int))), (10, 7, .is (.int .u8 ((UInt8.ofNat (x.v / 256)).toNat : Int)))] 31 [pT pp, (.slice (some ⟨w'.heap.size + 1, 0, none⟩) 2 2)] [1, 2, 7, 8, 10, 18, 19, 20] [vx, vy, pT pp, i.u, pT w'.heap.size, vl, .int .i64 (n : Int), .int .i64 (k : Int)] 47 ([⟨w'.heap.size, (acA x).toList, true⟩, ⟨w'.heap.size + 1, [.int .u8 ((UInt8.ofNat x.v).toNat : Int), .int .u8 ((UInt8.ofNat (x.v / 256)).toNat : Int)], true⟩]) [(10, 0)] (inR clC 10 9 (.inv (clR w vx vy pp vl n i))) [(.bool (decide ((k : Int) < (n : Int))), .bool true), (.bool ((k : Int) == 60), .bool false), (.int .i64 x.wh, .int .i64 0), (.int .u8 (IntKind.u8.wrap (x.v : Int)), .int .u8 ((UInt8.ofNat x.v).toNat : Int)), (.int .u8 (IntKind.u8.wrap (Int.fdiv (x.v : Int) (2 ^ 8))), .int .u8 ((UInt8.ofNat (x.v / 256)).toNat : Int))] [(Instr.indexAt 42 vl (.int .i64 (k : Int)), .pointer (some (adA vl k))), (Instr.loadAt 48 (.pointer (some (adA vl k))), .agg (acA x)), (Builtin.len_ #[22] 3 #[x.b], .int .i64 (x.l.length : Int)), (Builtin.min_ #[3, 3] 3 #[.int .i64 (x.l.length : Int), .int .i64 40], .int .i64 (mn x.l.length 40 : Nat)), (Instr.sliceAt 22 x.b Option.none (some (.int .i64 (mn x.l.length 40 : Nat))) Option.none, cutv x.b 0 (mn x.l.length 40))] hW (by kernel_rfl) ⟨congrArg Value.bool (by simpa using hc), congrArg Value.bool (by simp; omega), congrArg (Value.int .i64) hm, congrArg (Value.int .u8) (m_lo x.v), congrArg (Value.int .u8) (m_hi x.v), trivial⟩ ⟨fun wx hx => sl.1 wx hx, fun wx hx => sl.2.1 wx hx, fun wx _ => ho.rd.run_len (ty := 3) bt.sl, fun wx _ => run_mn #[3, 3] 3 x.l.length 40, fun wx _ => ho.rd.sem_cutH (mn_le_left _ _) wx, trivial⟩ ?_
  intro w1 hW1 hS1
  have F1 : ClF w w1 ([⟨w'.heap.size, (acA x).toList, true⟩, ⟨w'.heap.size + 1, [.int .u8 ((UInt8.ofNat x.v).toNat : Int), .int .u8 ((UInt8.ofNat (x.v / 256)).toNat : Int)], true⟩]) pp i.sv i.u i.bs i.bs := F.pass ([⟨w'.heap.size, (acA x).toList, true⟩, ⟨w'.heap.size + 1, [.int .u8 ((UInt8.ofNat x.v).toNat : Int), .int .u8 ((UInt8.ofNat (x.v / 256)).toNat : Int)], true⟩]) hS1 hW1 (fun r hr => by
    simp only [List.mem_cons, List.not_mem_nil, or_false] at hr
    rcases hr with rfl | rfl
    · exact Nat.le_refl _
    · exact Nat.le_succ _)
  have r1 : Rd w1 (.slice (some ⟨w'.heap.size + 1, 0, none⟩) 2 2) [UInt8.ofNat x.v, UInt8.ofNat (x.v / 256)] := Rd.of_row (bs := [UInt8.ofNat x.v, UInt8.ofNat (x.v / 256)]) hW1 (List.mem_cons_of_mem _ (List.mem_cons_self ..)) 2 rfl (by simp [maxLen]) (fun q hq => by
    have : q = 0 ∨ q = 1 := by simp at hq; omega
    rcases this with rfl | rfl <;> rfl)
  refine (pbyte_any F1.pd r1 (by simp only [List.length_cons, List.length_nil]; omega)).mono ?_
  rintro y w2 ⟨sv', rfl, pd2, k2, hla⟩
  refine ⟨_, rfl, ?_⟩
  have F2 := (F1.pad hW1.keep.size k2 hla pd2).fewer (rows := [⟨w'.heap.size, (acA x).toList, true⟩]) (more := [⟨w'.heap.size + 1, [.int .u8 ((UInt8.ofNat x.v).toNat : Int), .int .u8 ((UInt8.ofNat (x.v / 256)).toNat : Int)], true⟩])
  have hW2 : Wst w ⟨[⟨w'.heap.size, (acA x).toList, true⟩], w2.heap.size⟩ w2 := (hW1.laterS k2 F1.looseP).fewer (rows := [⟨w'.heap.size, (acA x).toList, true⟩]) (more := [⟨w'.heap.size + 1, [.int .u8 ((UInt8.ofNat x.v).toNat : Int), .int .u8 ((UInt8.ofNat (x.v / 256)).toNat : Int)], true⟩])
  refine Goal.re (tags := tagL [(10, 0)]) (m := ⟨[⟨w'.heap.size, (acA x).toList, true⟩], w2.heap.size⟩) ?_
  refine go_appB (gt := fun _ => Option.none) (unroll := false) 60 [(11, 3, .is (.int .u8 ((UInt8.ofNat x.v).toNat : Int))), (11, 7, .is (.int .u8 ((UInt8.ofNat (x.v / 256)).toNat : Int))), (11, 9, .stop)] i.u (.slice (some ⟨w2.heap.size, 0, none⟩) 2 2) 22 5 [1, 2, 7, 18, 19, 20] [vx, vy, pT pp, vl, .int .i64 (n : Int), .int .i64 (k : Int)] 57 ([⟨w'.heap.size, (acA x).toList, true⟩] ++ [⟨w2.heap.size, [.int .u8 ((UInt8.ofNat x.v).toNat : Int), .int .u8 ((UInt8.ofNat (x.v / 256)).toNat : Int)], true⟩]) [] (inR clC 11 9 (.inv (clR w vx vy pp vl n i))) [(.int .u8 (IntKind.u8.wrap (x.v : Int)), .int .u8 ((UInt8.ofNat x.v).toNat : Int)), (.int .u8 (IntKind.u8.wrap (Int.fdiv (x.v : Int) (2 ^ 8))), .int .u8 ((UInt8.ofNat (x.v / 256)).toNat : Int))] [] bt hW2 (by kernel_rfl) ⟨congrArg (Value.int .u8) (m_lo x.v), congrArg (Value.int .u8) (m_hi x.v), trivial⟩ trivial ?_
  intro w3 hW3 hS3
  have F3 := F2.pass _ hS3 hW3 (fun r hr => by obtain rfl := List.mem_singleton.1 hr; exact Nat.le_refl _)
  refine ⟨_, [UInt8.ofNat x.v, UInt8.ofNat (x.v / 256)], F3.own, Rd.of_row (bs := [UInt8.ofNat x.v, UInt8.ofNat (x.v / 256)]) hW3 (List.mem_cons_of_mem _ (List.mem_cons_self ..)) 2 rfl (by simp [maxLen]) (fun q hq => by
    have : q = 0 ∨ q = 1 := by simp at hq; omega
    rcases this with rfl | rfl <;> rfl), by simp only [List.length_cons, List.length_nil]; omega, fun v w4 ho4 k4 hbl => ?_⟩
  exact cl_join (vx := vx) (vy := vy) (vl := vl) i hj hk hle h60 (hW3.laterS k4 F3.looseU) (F3.app hW3.keep.size k4 hbl ho4) (rfl) (by simp only [List.length_append, List.length_cons, List.length_nil]; omega) (fun _ => by kernel_rfl)
set_option maxRecDepth 4000 in
theorem cl_arm1 (i : ClI) {j k : Nat} (hj : i.j = j + 1) (hk : n - (j + 1) = k) (h60 : k < 60) (w' : World) (hJ : ClJ w pp n i w') {x : Ac} (ho : AcOk w x)
    (sl : SemObs Try.prog ⟨[], w'.heap.size⟩ w' [(Instr.indexAt 42 vl (.int .i64 (k : Int)), .pointer (some (adA vl k))), (Instr.loadAt 48 (.pointer (some (adA vl k))), .agg (acA x))]) (hm : x.wh = 1) :
    Goal Try.prog (bodyPost Try.prog Try.f7 (clQ w)) clN ⟨frOf [1, 2, 7, 8, 18, 19, 20] [vx, vy, pT pp, i.u, vl, .int .i64 (n : Int), .int .i64 (k : Int)], tagL [], ⟨[], w'.heap.size⟩, .code (loopOf (atL clC 4)) :: .inv (clR w vx vy pp vl n i) :: (atL clC 4).tail⟩ w' := by
  obtain ⟨hle, hW, F, hlen, _⟩ := hJ
  rw [hj] at hle hlen
  rw [hk] at hlen
  have hc : (k : Int) < (n : Int) := by omega
  have _ := ho.v
  refine go_call_is (gt := fun _ => Option.none) (unroll := false) 100 [(4, 0, .is (.bool true)), (5, 1, .sem (.pointer (some (adA vl k)))), (5, 2, .sem (.agg (acA x))), (6, 1, .is (.bool false)), (7, 4, .sem (.int .i64 (x.l.length : Int))), (7, 5, .sem (.int .i64 (mn x.l.length 40 : Nat))), (7, 6, .sem (cutv x.b 0 (mn x.l.length 40))), (8, 1, .is (.int .i64 1)), (13, 3, .is (.int .u16 (x.v % 65536 : Nat)))] 32 [pT pp, (.slice (some ⟨w'.heap.size + 1, 0, none⟩) 1 1)] [1, 2, 7, 8, 10, 18, 19, 20] [vx, vy, pT pp, i.u, pT w'.heap.size, vl, .int .i64 (n : Int), .int .i64 (k : Int)] 65 ([⟨w'.heap.size, (acA x).toList, true⟩, ⟨w'.heap.size + 1, [.int .u16 (x.v % 65536 : Nat)], true⟩]) [(10, 0)] (inR clC 13 5 (.inv (clR w vx vy pp vl n i))) [(.bool (decide ((k : Int) < (n : Int))), .bool true), (.bool ((k : Int) == 60), .bool false), (.int .i64 x.wh, .int .i64 1), (.int .u16 (IntKind.u16.wrap (x.v : Int)), .int .u16 (x.v % 65536 : Nat))] [(Instr.indexAt 42 vl (.int .i64 (k : Int)), .pointer (some (adA vl k))), (Instr.loadAt 48 (.pointer (some (adA vl k))), .agg (acA x)), (Builtin.len_ #[22] 3 #[x.b], .int .i64 (x.l.length : Int)), (Builtin.min_ #[3, 3] 3 #[.int .i64 (x.l.length : Int), .int .i64 40], .int .i64 (mn x.l.length 40 : Nat)), (Instr.sliceAt 22 x.b Option.none (some (.int .i64 (mn x.l.length 40 : Nat))) Option.none, cutv x.b 0 (mn x.l.length 40))] hW (by kernel_rfl) ⟨congrArg Value.bool (by simpa using hc), congrArg Value.bool (by simp; omega), congrArg (Value.int .i64) hm, congrArg (Value.int .u16) (m_two x.v), trivial⟩ ⟨fun wx hx => sl.1 wx hx, fun wx hx => sl.2.1 wx hx, fun wx _ => ho.rd.run_len (ty := 3) bt.sl, fun wx _ => run_mn #[3, 3] 3 x.l.length 40, fun wx _ => ho.rd.sem_cutH (mn_le_left _ _) wx, trivial⟩ ?_
  intro w1 hW1 hS1
  have F1 : ClF w w1 ([⟨w'.heap.size, (acA x).toList, true⟩, ⟨w'.heap.size + 1, [.int .u16 (x.v % 65536 : Nat)], true⟩]) pp i.sv i.u i.bs i.bs := F.pass ([⟨w'.heap.size, (acA x).toList, true⟩, ⟨w'.heap.size + 1, [.int .u16 (x.v % 65536 : Nat)], true⟩]) hS1 hW1 (fun r hr => by
    simp only [List.mem_cons, List.not_mem_nil, or_false] at hr
    rcases hr with rfl | rfl
    · exact Nat.le_refl _
    · exact Nat.le_succ _)
  have hne : ∀ b, (Value.slice (some ⟨w'.heap.size + 1, 0, none⟩) 1 1).ownBlock = some b → ¬ Foot pp i.sv b := fun b hb hf => by
    obtain rfl : w'.heap.size + 1 = b := Option.some.inj hb
    rcases hf with e | e
    · have := F.pd.lt; omega
    · have := F.pd.own.lt _ e; omega
  have s1 : Sl 1 w1 (.slice (some ⟨w'.heap.size + 1, 0, none⟩) 1 1) [x.v % 65536].length (fun i => .int .u16 (([x.v % 65536] : List Nat).getD i 0 : Nat)) := Sl.of_row hW1 (List.mem_cons_of_mem _ (List.mem_cons_self ..)) 1 1 (by simp [maxLen]) (fun j hj => by
    have : j = 0 := by omega
    subst this; rfl)
  refine (ptwo_any F1.pd s1 (fun i hi => by
    have : i = 0 := by simp at hi; omega
    subst this; exact Nat.mod_lt _ (by omega)) hne (by simp only [List.length_cons, List.length_nil]; omega)).mono ?_
  rintro y w2 ⟨sv', rfl, pd2, k2, hla⟩
  refine ⟨_, rfl, ?_⟩
  have F2 := (F1.pad hW1.keep.size k2 hla pd2).fewer (rows := [⟨w'.heap.size, (acA x).toList, true⟩]) (more := [⟨w'.heap.size + 1, [.int .u16 (x.v % 65536 : Nat)], true⟩])
  have hW2 : Wst w ⟨[⟨w'.heap.size, (acA x).toList, true⟩], w2.heap.size⟩ w2 := (hW1.laterS k2 F1.looseP).fewer (rows := [⟨w'.heap.size, (acA x).toList, true⟩]) (more := [⟨w'.heap.size + 1, [.int .u16 (x.v % 65536 : Nat)], true⟩])
  refine Goal.re (tags := tagL [(10, 0)]) (m := ⟨[⟨w'.heap.size, (acA x).toList, true⟩], w2.heap.size⟩) ?_
  refine go_call_is (gt := fun _ => Option.none) (unroll := false) 60 [(14, 3, .is (.int .u32 (x.v % 65536 : Nat)))] 36 [.int .u32 (x.v % 65536 : Nat), .int .i64 2] [1, 2, 7, 10, 18, 19, 20, 66] [vx, vy, pT pp, pT w'.heap.size, vl, .int .i64 (n : Int), .int .i64 (k : Int), i.u] 70 ([⟨w'.heap.size, (acA x).toList, true⟩]) [(10, 0)] (inR clC 14 4 (.inv (clR w vx vy pp vl n i))) [(.int .u32 (IntKind.u32.wrap ((BitVec.ofInt 32 (x.v : Int) &&& BitVec.ofInt 32 65535).toNat : Int)), .int .u32 (x.v % 65536 : Nat))] [] hW2 (by kernel_rfl) ⟨congrArg (Value.int .u32) (m_and ho.v), trivial⟩ trivial ?_
  intro w3 hW3 hS3
  have F3 := F2.pass0 hS3 hW3
  refine (refbytes2_any _ (by omega)).mono ?_
  rintro y w4 ⟨vb, rfl, rb, k4, sb, lb⟩
  refine ⟨_, rfl, ?_⟩
  have F4 := F3.keep0 k4
  have hW4 := hW3.later k4
  have H4 : HdB ([⟨w'.heap.size, (acA x).toList, true⟩]) w4 vb _ := ⟨rb, lb, Ap.fresh hW3 sb⟩
  refine go_appB (gt := fun _ => Option.none) (unroll := false) 60 [(14, 5, .stop)] i.u vb 22 5 [1, 2, 7, 18, 19, 20] [vx, vy, pT pp, vl, .int .i64 (n : Int), .int .i64 (k : Int)] 71 ([⟨w'.heap.size, (acA x).toList, true⟩]) [] (inR clC 14 5 (.inv (clR w vx vy pp vl n i))) [] [] bt hW4 (by kernel_rfl) trivial trivial ?_
  intro w5 hW5 hS5
  have F5 := F4.pass0 hS5 hW5
  refine ⟨_, _, F5.own, (H4.pass0 hS5).rd, by simp only [List.length_cons, List.length_nil]; omega, fun v w6 ho6 k6 hbl => ?_⟩
  exact cl_join (vx := vx) (vy := vy) (vl := vl) i hj hk hle h60 (hW5.laterS k6 F5.looseU) (F5.app hW5.keep.size k6 hbl ho6) (by rw [two_eq]; simp) (by simp only [List.length_append, List.length_cons, List.length_nil]; omega) (fun _ => by kernel_rfl)
/-- The document's four bytes, within a region. -/
theorem cb_four {S0 : Nat → Prop} {w0 : World} (v : Nat) (h : v < 4294967296) : CallM Try.prog S0 w0 36 [.is (.int .u32 (v : Nat)), .is (.int .i64 4)] (rdM (bytes4 v)) := by
  intro g w1 vals hk hb ha
  match vals, ha with
  | [a, b], ha =>
    obtain rfl : a = _ := ha.1
    obtain rfl : b = _ := ha.2.1
    refine (refbytes4_any v h).mono ?_
    rintro y w4 ⟨vb, rfl, rb, k4, sb, lb⟩
    rw [four_eq v] at rb
    exact ⟨_, rfl, k4, rdM_new hb rb lb sb⟩
theorem cb_two {S0 : Nat → Prop} {w0 : World} (v : Nat) (h : v < 4294967296) : CallM Try.prog S0 w0 36 [.is (.int .u32 (v : Nat)), .is (.int .i64 2)] (rdM (bytes2 v)) := by
  intro g w1 vals hk hb ha
  match vals, ha with
  | [a, b], ha =>
    obtain rfl : a = _ := ha.1
    obtain rfl : b = _ := ha.2.1
    refine (refbytes2_any v h).mono ?_
    rintro y w4 ⟨vb, rfl, rb, k4, sb, lb⟩
    exact ⟨_, rfl, k4, rdM_new hb rb lb sb⟩
theorem by_assignA {P : Program} {S0 : Nat → Prop} {w0 : World} {t : Tmp} {ty : TypeId} {s : Sm} : ByM P S0 w0 (.assign (.tmp t)) ty [(t, s)] s := by_assign
set_option maxRecDepth 4000 in
theorem cl_arm2 (i : ClI) {j k : Nat} (hj : i.j = j + 1) (hk : n - (j + 1) = k) (h60 : k < 60) (w' : World) (hJ : ClJ w pp n i w') {x : Ac} (ho : AcOk w x)
    (sl : SemObs Try.prog ⟨[], w'.heap.size⟩ w' [(Instr.indexAt 42 vl (.int .i64 (k : Int)), .pointer (some (adA vl k))), (Instr.loadAt 48 (.pointer (some (adA vl k))), .agg (acA x))]) (hm : x.wh = 2) :
    Goal Try.prog (bodyPost Try.prog Try.f7 (clQ w)) clN ⟨frOf [1, 2, 7, 8, 18, 19, 20] [vx, vy, pT pp, i.u, vl, .int .i64 (n : Int), .int .i64 (k : Int)], tagL [], ⟨[], w'.heap.size⟩, .code (loopOf (atL clC 4)) :: .inv (clR w vx vy pp vl n i) :: (atL clC 4).tail⟩ w' := by
  obtain ⟨hle, hW, F, hlen, _⟩ := hJ
  rw [hj] at hle hlen
  rw [hk] at hlen
  have hc : (k : Int) < (n : Int) := by omega
  have _ := ho.v
  refine go_call_is (gt := fun _ => Option.none) (unroll := false) 100 [(4, 0, .is (.bool true)), (5, 1, .sem (.pointer (some (adA vl k)))), (5, 2, .sem (.agg (acA x))), (6, 1, .is (.bool false)), (7, 4, .sem (.int .i64 (x.l.length : Int))), (7, 5, .sem (.int .i64 (mn x.l.length 40 : Nat))), (7, 6, .sem (cutv x.b 0 (mn x.l.length 40))), (8, 1, .is (.int .i64 2)), (16, 5, .is (.int .u32 ((x.v + 1) % 4294967296 : Nat)))] 34 [pT pp, (.slice (some ⟨w'.heap.size + 1, 0, none⟩) 2 2)] [1, 2, 7, 8, 10, 18, 19, 20] [vx, vy, pT pp, i.u, pT w'.heap.size, vl, .int .i64 (n : Int), .int .i64 (k : Int)] 81 ([⟨w'.heap.size, (acA x).toList, true⟩, ⟨w'.heap.size + 1, [.int .u32 (x.v : Int), .int .u32 ((x.v + 1) % 4294967296 : Nat)], true⟩]) [(10, 0)] (inR clC 16 7 (.inv (clR w vx vy pp vl n i))) [(.bool (decide ((k : Int) < (n : Int))), .bool true), (.bool ((k : Int) == 60), .bool false), (.int .i64 x.wh, .int .i64 2), (.int .u32 (IntKind.u32.wrap ((x.v : Int) + 1)), .int .u32 ((x.v + 1) % 4294967296 : Nat))] [(Instr.indexAt 42 vl (.int .i64 (k : Int)), .pointer (some (adA vl k))), (Instr.loadAt 48 (.pointer (some (adA vl k))), .agg (acA x)), (Builtin.len_ #[22] 3 #[x.b], .int .i64 (x.l.length : Int)), (Builtin.min_ #[3, 3] 3 #[.int .i64 (x.l.length : Int), .int .i64 40], .int .i64 (mn x.l.length 40 : Nat)), (Instr.sliceAt 22 x.b Option.none (some (.int .i64 (mn x.l.length 40 : Nat))) Option.none, cutv x.b 0 (mn x.l.length 40))] hW (by kernel_rfl) ⟨congrArg Value.bool (by simpa using hc), congrArg Value.bool (by simp; omega), congrArg (Value.int .i64) hm, congrArg (Value.int .u32) (m_inc x.v), trivial⟩ ⟨fun wx hx => sl.1 wx hx, fun wx hx => sl.2.1 wx hx, fun wx _ => ho.rd.run_len (ty := 3) bt.sl, fun wx _ => run_mn #[3, 3] 3 x.l.length 40, fun wx _ => ho.rd.sem_cutH (mn_le_left _ _) wx, trivial⟩ ?_
  intro w1 hW1 hS1
  have F1 : ClF w w1 ([⟨w'.heap.size, (acA x).toList, true⟩, ⟨w'.heap.size + 1, [.int .u32 (x.v : Int), .int .u32 ((x.v + 1) % 4294967296 : Nat)], true⟩]) pp i.sv i.u i.bs i.bs := F.pass ([⟨w'.heap.size, (acA x).toList, true⟩, ⟨w'.heap.size + 1, [.int .u32 (x.v : Int), .int .u32 ((x.v + 1) % 4294967296 : Nat)], true⟩]) hS1 hW1 (fun r hr => by
    simp only [List.mem_cons, List.not_mem_nil, or_false] at hr
    rcases hr with rfl | rfl
    · exact Nat.le_refl _
    · exact Nat.le_succ _)
  have hne : ∀ b, (Value.slice (some ⟨w'.heap.size + 1, 0, none⟩) 2 2).ownBlock = some b → ¬ Foot pp i.sv b := fun b hb hf => by
    obtain rfl : w'.heap.size + 1 = b := Option.some.inj hb
    rcases hf with e | e
    · have := F.pd.lt; omega
    · have := F.pd.own.lt _ e; omega
  have s1 : Sl 1 w1 (.slice (some ⟨w'.heap.size + 1, 0, none⟩) 2 2) [x.v, (x.v + 1) % 4294967296].length (fun i => .int .u32 (([x.v, (x.v + 1) % 4294967296] : List Nat).getD i 0 : Nat)) := Sl.of_row hW1 (List.mem_cons_of_mem _ (List.mem_cons_self ..)) 1 2 (by simp [maxLen]) (fun j hj => by
    have : j = 0 ∨ j = 1 := by omega
    rcases this with rfl | rfl <;> rfl)
  refine (pfour_any F1.pd s1 (fun i hi => by
    have : i = 0 ∨ i = 1 := by simp at hi; omega
    rcases this with rfl | rfl
    · exact ho.v
    · exact Nat.mod_lt _ (by omega)) hne (by simp only [List.length_cons, List.length_nil]; omega)).mono ?_
  rintro y w2 ⟨sv', rfl, pd2, k2, hla⟩
  refine ⟨_, rfl, ?_⟩
  have F2 := (F1.pad hW1.keep.size k2 hla pd2).fewer (rows := [⟨w'.heap.size, (acA x).toList, true⟩]) (more := [⟨w'.heap.size + 1, [.int .u32 (x.v : Int), .int .u32 ((x.v + 1) % 4294967296 : Nat)], true⟩])
  have hW2 : Wst w ⟨[⟨w'.heap.size, (acA x).toList, true⟩], w2.heap.size⟩ w2 := (hW1.laterS k2 F1.looseP).fewer (rows := [⟨w'.heap.size, (acA x).toList, true⟩]) (more := [⟨w'.heap.size + 1, [.int .u32 (x.v : Int), .int .u32 ((x.v + 1) % 4294967296 : Nat)], true⟩])
  refine Goal.re (tags := tagL [(10, 0)]) (m := ⟨[⟨w'.heap.size, (acA x).toList, true⟩], w2.heap.size⟩) ?_
  refine go_stop (gt := fun _ => Option.none) (unroll := false) 60 [] [1, 2, 7, 8, 10, 18, 19, 20] [vx, vy, pT pp, i.u, pT w'.heap.size, vl, .int .i64 (n : Int), .int .i64 (k : Int)] ([⟨w'.heap.size, (acA x).toList, true⟩]) [(10, 0)] (atR clC 17 (.inv (clR w vx vy pp vl n i))) [] [] hW2 (by kernel_rfl) trivial trivial ?_
  intro w3 hW3 hS3
  have F3 := F2.pass0 hS3 hW3
  refine drawnM_ok (S0 := ubS i.u) (gt := fun _ => Option.none) (D := ApD 5 i.u i.bs (i.bs ++ bytes4 x.v) w3) (g0 := ⟨False, undef, ubS i.u⟩)
    [(3, .call (rdM (bytes4 x.v))), (4, .act padS), (7, .is (.int .u32 ((x.v + 1) % 4294967296 : Nat))), (8, .call (rdM (bytes4 ((x.v + 1) % 4294967296)))), (9, .act (apB 5 w3.heap.size i.u (i.bs ++ bytes4 x.v ++ bytes4 ((x.v + 1) % 4294967296)))), (10, .by (apB 5 w3.heap.size i.u (i.bs ++ bytes4 x.v ++ bytes4 ((x.v + 1) % 4294967296))))]
    [8, 1, 2, 7, 18, 19, 20] [apB 5 w3.heap.size i.u (i.bs ++ bytes4 x.v ++ bytes4 ((x.v + 1) % 4294967296)), .is vx, .is vy, .is (pT pp), .is vl, .is (.int .i64 (n : Int)), .is (.int .i64 (k : Int))]
    (True ∧ True ∧ True ∧ CallM Try.prog (ubS i.u) w3 36 [.is (.int .u32 (x.v : Nat)), .is (.int .i64 4)] (rdM (bytes4 (x.v))) ∧ ActM Try.prog (ubS i.u) w3 (ApD 5 i.u i.bs (i.bs ++ bytes4 x.v) w3) 0 (.call { callee := .builtin .append, args := #[.tmp 82, .tmp 85], argTypes := #[22, 22] }) 22 [(82, .is i.u), (85, rdM (bytes4 x.v))] (padS) ∧ True ∧ True ∧ ((.int .u32 (IntKind.u32.wrap ((x.v : Int) + 1)) : Value) = .int .u32 ((x.v + 1) % 4294967296 : Nat)) ∧ CallM Try.prog (ubS i.u) w3 36 [.is (.int .u32 ((x.v + 1) % 4294967296 : Nat)), .is (.int .i64 4)] (rdM (bytes4 ((x.v + 1) % 4294967296))) ∧ ActM Try.prog (ubS i.u) w3 (ApD 5 i.u i.bs (i.bs ++ bytes4 x.v) w3) 1 (.call { callee := .builtin .append, args := #[.tmp 86, .tmp 90], argTypes := #[22, 22] }) 22 [(86, padS), (90, rdM (bytes4 ((x.v + 1) % 4294967296)))] (apB 5 w3.heap.size i.u (i.bs ++ bytes4 x.v ++ bytes4 ((x.v + 1) % 4294967296))) ∧ ByM Try.prog (ubS i.u) w3 (.assign (.tmp 91)) 22 [(91, apB 5 w3.heap.size i.u (i.bs ++ bytes4 x.v ++ bytes4 ((x.v + 1) % 4294967296)))] (apB 5 w3.heap.size i.u (i.bs ++ bytes4 x.v ++ bytes4 ((x.v + 1) % 4294967296))) ∧ True)
    2 (afterR clC 17 (.inv (clR w vx vy pp vl n i))) hW3 F3.looseU (by kernel_rfl) (by kernel_rfl) (by kernel_rfl) ApD.keep (fun q hq => ⟨F3.own.lt q hq, fun _ => hq⟩) ⟨fun h => h, rfl, F3.own⟩
    ⟨trivial, trivial, trivial, cb_four x.v ho.v, app_first bt (by have : (bytes4 x.v).length = 4 := rfl; omega) _, trivial, trivial, congrArg (Value.int .u32) (m_inc x.v), cb_four _ (Nat.mod_lt _ (by omega)), app_second bt (by have : (bytes4 x.v).length = 4 := rfl; have : (bytes4 ((x.v + 1) % 4294967296)).length = 4 := rfl; rw [List.length_append]; omega) _, by_assignA, trivial⟩ ?_
  intro g w4 vs k4 _ _ hok
  match vs, hok with
  | [v8, v1, v2, v7, v18, v19, v20], hok =>
  obtain ⟨⟨o8, la8, _⟩, e1, e2, e3, e4, e5, e6, _⟩ := hok
  rw [show v1 = _ from e1, show v2 = _ from e2, show v7 = _ from e3, show v18 = _ from e4, show v19 = _ from e5, show v20 = _ from e6]
  have F4 := F3.app' hW3.keep.size k4 la8 o8
  exact cl_join (vx := vx) (vy := vy) (vl := vl) i hj hk hle h60 (hW3.laterS k4 F3.looseU) F4 (by simp) (by simp only [List.length_append]; have h1 : (bytes4 x.v).length = 4 := rfl; have h2 : (bytes4 ((x.v + 1) % 4294967296)).length = 4 := rfl; omega) (fun _ => by kernel_rfl)
set_option maxRecDepth 4000 in
theorem cl_arm3 (i : ClI) {j k : Nat} (hj : i.j = j + 1) (hk : n - (j + 1) = k) (h60 : k < 60) (w' : World) (hJ : ClJ w pp n i w') {x : Ac} (ho : AcOk w x)
    (sl : SemObs Try.prog ⟨[], w'.heap.size⟩ w' [(Instr.indexAt 42 vl (.int .i64 (k : Int)), .pointer (some (adA vl k))), (Instr.loadAt 48 (.pointer (some (adA vl k))), .agg (acA x))]) (hm : x.wh = 3) :
    Goal Try.prog (bodyPost Try.prog Try.f7 (clQ w)) clN ⟨frOf [1, 2, 7, 8, 18, 19, 20] [vx, vy, pT pp, i.u, vl, .int .i64 (n : Int), .int .i64 (k : Int)], tagL [], ⟨[], w'.heap.size⟩, .code (loopOf (atL clC 4)) :: .inv (clR w vx vy pp vl n i) :: (atL clC 4).tail⟩ w' := by
  obtain ⟨hle, hW, F, hlen, _⟩ := hJ
  rw [hj] at hle hlen
  rw [hk] at hlen
  have hc : (k : Int) < (n : Int) := by omega
  have _ := ho.v
  refine go_call_is (gt := fun _ => Option.none) (unroll := false) 100 [(4, 0, .is (.bool true)), (5, 1, .sem (.pointer (some (adA vl k)))), (5, 2, .sem (.agg (acA x))), (6, 1, .is (.bool false)), (7, 4, .sem (.int .i64 (x.l.length : Int))), (7, 5, .sem (.int .i64 (mn x.l.length 40 : Nat))), (7, 6, .sem (cutv x.b 0 (mn x.l.length 40))), (8, 1, .is (.int .i64 3)), (19, 2, .is (.int .u8 ((UInt8.ofNat x.v).toNat : Int)))] 35 [pT pp, (.slice (some ⟨w'.heap.size + 2, 0, none⟩) 1 1)] [1, 2, 7, 8, 12, 18, 19, 20] [vx, vy, pT pp, i.u, pT (w'.heap.size + 1), vl, .int .i64 (n : Int), .int .i64 (k : Int)] 101 ([⟨w'.heap.size, (acA x).toList, true⟩, ⟨w'.heap.size + 1, (macV (mlB x.v)).toList, true⟩, ⟨w'.heap.size + 2, (macV (mlB x.v)).toList, true⟩]) [(12, 1)] (inR clC 20 3 (.inv (clR w vx vy pp vl n i))) [(.bool (decide ((k : Int) < (n : Int))), .bool true), (.bool ((k : Int) == 60), .bool false), (.int .i64 x.wh, .int .i64 3), (.int .u8 (IntKind.u8.wrap (x.v : Int)), .int .u8 ((UInt8.ofNat x.v).toNat : Int))] [(Instr.indexAt 42 vl (.int .i64 (k : Int)), .pointer (some (adA vl k))), (Instr.loadAt 48 (.pointer (some (adA vl k))), .agg (acA x)), (Builtin.len_ #[22] 3 #[x.b], .int .i64 (x.l.length : Int)), (Builtin.min_ #[3, 3] 3 #[.int .i64 (x.l.length : Int), .int .i64 40], .int .i64 (mn x.l.length 40 : Nat)), (Instr.sliceAt 22 x.b Option.none (some (.int .i64 (mn x.l.length 40 : Nat))) Option.none, cutv x.b 0 (mn x.l.length 40))] hW (by kernel_rfl) ⟨congrArg Value.bool (by simpa using hc), congrArg Value.bool (by simp; omega), congrArg (Value.int .i64) hm, congrArg (Value.int .u8) (m_lo x.v), trivial⟩ ⟨fun wx hx => sl.1 wx hx, fun wx hx => sl.2.1 wx hx, fun wx _ => ho.rd.run_len (ty := 3) bt.sl, fun wx _ => run_mn #[3, 3] 3 x.l.length 40, fun wx _ => ho.rd.sem_cutH (mn_le_left _ _) wx, trivial⟩ ?_
  intro w1 hW1 hS1
  have F1 : ClF w w1 ([⟨w'.heap.size, (acA x).toList, true⟩, ⟨w'.heap.size + 1, (macV (mlB x.v)).toList, true⟩, ⟨w'.heap.size + 2, (macV (mlB x.v)).toList, true⟩]) pp i.sv i.u i.bs i.bs := F.pass ([⟨w'.heap.size, (acA x).toList, true⟩, ⟨w'.heap.size + 1, (macV (mlB x.v)).toList, true⟩, ⟨w'.heap.size + 2, (macV (mlB x.v)).toList, true⟩]) hS1 hW1 (fun r hr => by
    simp only [List.mem_cons, List.not_mem_nil, or_false] at hr
    rcases hr with rfl | rfl | rfl
    · exact Nat.le_refl _
    · exact Nat.le_succ _
    · show w'.heap.size ≤ w'.heap.size + 2; omega)
  have hne : ∀ b, (Value.slice (some ⟨w'.heap.size + 2, 0, none⟩) 1 1).ownBlock = some b → ¬ Foot pp i.sv b := fun b hb hf => by
    obtain rfl : w'.heap.size + 2 = b := Option.some.inj hb
    rcases hf with e | e
    · have := F.pd.lt; omega
    · have := F.pd.own.lt _ e; omega
  have s1 : Sl 6 w1 (.slice (some ⟨w'.heap.size + 2, 0, none⟩) 1 1) [mlB x.v].length (fun j => .int .u8 ((byteAt ([mlB x.v].getD (j / 6) []) (j % 6)).toNat : Int)) := Sl.of_row hW1 (List.mem_cons_of_mem _ (List.mem_cons_of_mem _ (List.mem_cons_self ..))) 6 1 (by simp [maxLen]) (fun j hj => by
    have : j = 0 ∨ j = 1 ∨ j = 2 ∨ j = 3 ∨ j = 4 ∨ j = 5 := by omega
    rcases this with rfl | rfl | rfl | rfl | rfl | rfl <;> rfl)
  refine (pmac_any F1.pd s1 hne (by simp only [List.length_cons, List.length_nil]; omega)).mono ?_
  rintro y w2 ⟨sv', rfl, pd2, k2, hla⟩
  refine ⟨_, rfl, ?_⟩
  have F2 := (F1.pad hW1.keep.size k2 hla pd2).fewer (rows := [⟨w'.heap.size, (acA x).toList, true⟩, ⟨w'.heap.size + 1, (macV (mlB x.v)).toList, true⟩]) (more := [⟨w'.heap.size + 2, (macV (mlB x.v)).toList, true⟩])
  have hW2 : Wst w ⟨[⟨w'.heap.size, (acA x).toList, true⟩, ⟨w'.heap.size + 1, (macV (mlB x.v)).toList, true⟩], w2.heap.size⟩ w2 := (hW1.laterS k2 F1.looseP).fewer (rows := [⟨w'.heap.size, (acA x).toList, true⟩, ⟨w'.heap.size + 1, (macV (mlB x.v)).toList, true⟩]) (more := [⟨w'.heap.size + 2, (macV (mlB x.v)).toList, true⟩])
  refine Goal.re (tags := tagL [(12, 1)]) (m := ⟨[⟨w'.heap.size, (acA x).toList, true⟩, ⟨w'.heap.size + 1, (macV (mlB x.v)).toList, true⟩], w2.heap.size⟩) ?_
  refine go_appB (gt := fun _ => Option.none) (unroll := false) 60 [(21, 2, .stop)] i.u (.slice (some ⟨w'.heap.size + 1, 0, none⟩) 6 6) 22 5 [1, 2, 7, 18, 19, 20] [vx, vy, pT pp, vl, .int .i64 (n : Int), .int .i64 (k : Int)] 104 ([⟨w'.heap.size, (acA x).toList, true⟩, ⟨w'.heap.size + 1, (macV (mlB x.v)).toList, true⟩]) [] (inR clC 21 2 (.inv (clR w vx vy pp vl n i))) [] [] bt hW2 (by kernel_rfl) trivial trivial ?_
  intro w3 hW3 hS3
  have F3 := F2.pass0 hS3 hW3
  refine ⟨_, mlB x.v, F3.own, Rd.of_row (bs := mlB x.v) hW3 (List.mem_cons_of_mem _ (List.mem_cons_self ..)) 6 rfl (by simp [maxLen]) (fun q hq => by
    have : q = 0 ∨ q = 1 ∨ q = 2 ∨ q = 3 ∨ q = 4 ∨ q = 5 := by have : q < 6 := hq; omega
    rcases this with rfl | rfl | rfl | rfl | rfl | rfl <;> rfl), by have : (mlB x.v).length = 6 := rfl; omega, fun v w4 ho4 k4 hbl => ?_⟩
  exact cl_join (vx := vx) (vy := vy) (vl := vl) i hj hk hle h60 (hW3.laterS k4 F3.looseU) (F3.app hW3.keep.size k4 hbl ho4) (rfl) (by simp only [List.length_append]; have : (mlB x.v).length = 6 := rfl; omega) (fun _ => by kernel_rfl)
set_option maxRecDepth 4000 in
theorem cl_arm4 (i : ClI) {j k : Nat} (hj : i.j = j + 1) (hk : n - (j + 1) = k) (h60 : k < 60) (w' : World) (hJ : ClJ w pp n i w') {x : Ac} (ho : AcOk w x)
    (sl : SemObs Try.prog ⟨[], w'.heap.size⟩ w' [(Instr.indexAt 42 vl (.int .i64 (k : Int)), .pointer (some (adA vl k))), (Instr.loadAt 48 (.pointer (some (adA vl k))), .agg (acA x))]) (hm : x.wh = 4) :
    Goal Try.prog (bodyPost Try.prog Try.f7 (clQ w)) clN ⟨frOf [1, 2, 7, 8, 18, 19, 20] [vx, vy, pT pp, i.u, vl, .int .i64 (n : Int), .int .i64 (k : Int)], tagL [], ⟨[], w'.heap.size⟩, .code (loopOf (atL clC 4)) :: .inv (clR w vx vy pp vl n i) :: (atL clC 4).tail⟩ w' := by
  obtain ⟨hle, hW, F, hlen, _⟩ := hJ
  rw [hj] at hle hlen
  rw [hk] at hlen
  have hc : (k : Int) < (n : Int) := by omega
  have _ := ho.v
  have rc : Rd w (cutv x.b 0 (mn x.l.length 40)) (x.l.take (mn x.l.length 40)) := by
    have := ho.rd.cut (l := 0) (Nat.zero_le _) (mn_le_left x.l.length 40)
    simpa using this
  have hcl : (x.l.take (mn x.l.length 40)).length = mn x.l.length 40 := by simp [mn_le_left]
  have hmr := mn_le_right x.l.length 40
  refine go_call_is (gt := fun _ => Option.none) (unroll := false) 100 [(4, 0, .is (.bool true)), (5, 1, .sem (.pointer (some (adA vl k)))), (5, 2, .sem (.agg (acA x))), (6, 1, .is (.bool false)), (7, 4, .sem (.int .i64 (x.l.length : Int))), (7, 5, .sem (.int .i64 (mn x.l.length 40 : Nat))), (7, 6, .sem (cutv x.b 0 (mn x.l.length 40))), (8, 1, .is (.int .i64 4))] 31 [pT pp, cutv x.b 0 (mn x.l.length 40)] [1, 2, 7, 8, 11, 18, 19, 20] [vx, vy, pT pp, i.u, cutv x.b 0 (mn x.l.length 40), vl, .int .i64 (n : Int), .int .i64 (k : Int)] 109 ([⟨w'.heap.size, (acA x).toList, true⟩]) [(10, 0)] (inR clC 23 2 (.inv (clR w vx vy pp vl n i))) [(.bool (decide ((k : Int) < (n : Int))), .bool true), (.bool ((k : Int) == 60), .bool false), (.int .i64 x.wh, .int .i64 4)] [(Instr.indexAt 42 vl (.int .i64 (k : Int)), .pointer (some (adA vl k))), (Instr.loadAt 48 (.pointer (some (adA vl k))), .agg (acA x)), (Builtin.len_ #[22] 3 #[x.b], .int .i64 (x.l.length : Int)), (Builtin.min_ #[3, 3] 3 #[.int .i64 (x.l.length : Int), .int .i64 40], .int .i64 (mn x.l.length 40 : Nat)), (Instr.sliceAt 22 x.b Option.none (some (.int .i64 (mn x.l.length 40 : Nat))) Option.none, cutv x.b 0 (mn x.l.length 40))] hW (by kernel_rfl) ⟨congrArg Value.bool (by simpa using hc), congrArg Value.bool (by simp; omega), congrArg (Value.int .i64) hm, trivial⟩ ⟨fun wx hx => sl.1 wx hx, fun wx hx => sl.2.1 wx hx, fun wx _ => ho.rd.run_len (ty := 3) bt.sl, fun wx _ => run_mn #[3, 3] 3 x.l.length 40, fun wx _ => ho.rd.sem_cutH (mn_le_left _ _) wx, trivial⟩ ?_
  intro w1 hW1 hS1
  have F1 : ClF w w1 ([⟨w'.heap.size, (acA x).toList, true⟩]) pp i.sv i.u i.bs i.bs := F.pass ([⟨w'.heap.size, (acA x).toList, true⟩]) hS1 hW1 (fun r hr => by
    simp only [List.mem_cons, List.not_mem_nil, or_false] at hr
    subst hr
    exact Nat.le_refl _)
  refine (pbyte_any F1.pd (rc.keep0 hW1.keep) (by omega)).mono ?_
  rintro y w2 ⟨sv', rfl, pd2, k2, hla⟩
  refine ⟨_, rfl, ?_⟩
  have F2 := F1.pad hW1.keep.size k2 hla pd2
  have hW2 := hW1.laterS k2 F1.looseP
  refine go_appB (gt := fun _ => Option.none) (unroll := false) 60 [(24, 2, .stop)] i.u (cutv x.b 0 (mn x.l.length 40)) 22 5 [1, 2, 7, 18, 19, 20] [vx, vy, pT pp, vl, .int .i64 (n : Int), .int .i64 (k : Int)] 112 ([⟨w'.heap.size, (acA x).toList, true⟩]) [] (inR clC 24 2 (.inv (clR w vx vy pp vl n i))) [] [] bt hW2 (by kernel_rfl) trivial trivial ?_
  intro w3 hW3 hS3
  have F3 := F2.pass0 hS3 hW3
  refine ⟨_, _, F3.own, rc.keep0 hW3.keep, by omega, fun v w4 ho4 k4 hbl => ?_⟩
  exact cl_join (vx := vx) (vy := vy) (vl := vl) i hj hk hle h60 (hW3.laterS k4 F3.looseU) (F3.app hW3.keep.size k4 hbl ho4) rfl (by rw [List.length_append]; omega) (fun _ => by kernel_rfl)
set_option maxRecDepth 4000 in
theorem cl_arm7a (i : ClI) {j k : Nat} (hj : i.j = j + 1) (hk : n - (j + 1) = k) (h60 : k < 60) (w' : World) (hJ : ClJ w pp n i w') {x : Ac} (ho : AcOk w x)
    (sl : SemObs Try.prog ⟨[], w'.heap.size⟩ w' [(Instr.indexAt 42 vl (.int .i64 (k : Int)), .pointer (some (adA vl k))), (Instr.loadAt 48 (.pointer (some (adA vl k))), .agg (acA x))]) (hm : x.wh = 7) (hn : x.nn < 0) :
    Goal Try.prog (bodyPost Try.prog Try.f7 (clQ w)) clN ⟨frOf [1, 2, 7, 8, 18, 19, 20] [vx, vy, pT pp, i.u, vl, .int .i64 (n : Int), .int .i64 (k : Int)], tagL [], ⟨[], w'.heap.size⟩, .code (loopOf (atL clC 4)) :: .inv (clR w vx vy pp vl n i) :: (atL clC 4).tail⟩ w' := by
  obtain ⟨hle, hW, F, hlen, _⟩ := hJ
  rw [hj] at hle hlen
  rw [hk] at hlen
  have hc : (k : Int) < (n : Int) := by omega
  have _ := ho.v
  refine go_call_is (gt := fun _ => Option.none) (unroll := false) 100 [(4, 0, .is (.bool true)), (5, 1, .sem (.pointer (some (adA vl k)))), (5, 2, .sem (.agg (acA x))), (6, 1, .is (.bool false)), (7, 4, .sem (.int .i64 (x.l.length : Int))), (7, 5, .sem (.int .i64 (mn x.l.length 40 : Nat))), (7, 6, .sem (cutv x.b 0 (mn x.l.length 40))), (8, 1, .is (.int .i64 7)), (26, 5, .is (.int .u16 (x.v % 65536 : Nat)))] 37 [pT pp, .int .i64 x.nn, .int .u16 (x.v % 65536 : Nat)] [1, 2, 7, 8, 10, 18, 19, 20] [vx, vy, pT pp, i.u, pT w'.heap.size, vl, .int .i64 (n : Int), .int .i64 (k : Int)] 121 ([⟨w'.heap.size, (acA x).toList, true⟩]) [(10, 0)] (inR clC 26 6 (.inv (clR w vx vy pp vl n i))) [(.bool (decide ((k : Int) < (n : Int))), .bool true), (.bool ((k : Int) == 60), .bool false), (.int .i64 x.wh, .int .i64 7), (.int .u16 (IntKind.u16.wrap (x.v : Int)), .int .u16 (x.v % 65536 : Nat))] [(Instr.indexAt 42 vl (.int .i64 (k : Int)), .pointer (some (adA vl k))), (Instr.loadAt 48 (.pointer (some (adA vl k))), .agg (acA x)), (Builtin.len_ #[22] 3 #[x.b], .int .i64 (x.l.length : Int)), (Builtin.min_ #[3, 3] 3 #[.int .i64 (x.l.length : Int), .int .i64 40], .int .i64 (mn x.l.length 40 : Nat)), (Instr.sliceAt 22 x.b Option.none (some (.int .i64 (mn x.l.length 40 : Nat))) Option.none, cutv x.b 0 (mn x.l.length 40))] hW (by kernel_rfl) ⟨congrArg Value.bool (by simpa using hc), congrArg Value.bool (by simp; omega), congrArg (Value.int .i64) hm, congrArg (Value.int .u16) (m_two x.v), trivial⟩ ⟨fun wx hx => sl.1 wx hx, fun wx hx => sl.2.1 wx hx, fun wx _ => ho.rd.run_len (ty := 3) bt.sl, fun wx _ => run_mn #[3, 3] 3 x.l.length 40, fun wx _ => ho.rd.sem_cutH (mn_le_left _ _) wx, trivial⟩ ?_
  intro w1 hW1 hS1
  have F1 : ClF w w1 ([⟨w'.heap.size, (acA x).toList, true⟩]) pp i.sv i.u i.bs i.bs := F.pass ([⟨w'.heap.size, (acA x).toList, true⟩]) hS1 hW1 (fun r hr => by
    simp only [List.mem_cons, List.not_mem_nil, or_false] at hr
    subst hr
    exact Nat.le_refl _)
  refine (pfill_no F1.pd x.nn _ (by omega) (by omega)).mono ?_
  rintro y w2 ⟨rfl, rfl⟩
  refine ⟨_, rfl, ?_⟩
  refine go_stop (gt := fun _ => Option.none) (unroll := false) 100 [(27, 2, .is (.bool false)), (32, 0, .stop)] [1, 2, 7, 8, 18, 19, 20] [vx, vy, pT pp, i.u, vl, .int .i64 (n : Int), .int .i64 (k : Int)] ([⟨w'.heap.size, (acA x).toList, true⟩]) [(10, 0)] (opsR clC 32 (.inv (clR w vx vy pp vl n i))) [(.bool (decide (0 ≤ x.nn)), .bool false)] [] hW1 (by kernel_rfl) ⟨congrArg Value.bool (by simpa using hn), trivial⟩ trivial ?_
  intro w3 hW3 hS3
  have F3 := F1.pass0 hS3 hW3
  refine Goal.re (tags := tagL []) (m := ⟨[], w3.heap.size⟩) ?_
  exact cl_tail i hj hk hle h60 (hW3.fewer (rows := [])) F3.none (by omega)
set_option maxRecDepth 4000 in
theorem cl_arm7b (i : ClI) {j k : Nat} (hj : i.j = j + 1) (hk : n - (j + 1) = k) (h60 : k < 60) (w' : World) (hJ : ClJ w pp n i w') {x : Ac} (ho : AcOk w x)
    (sl : SemObs Try.prog ⟨[], w'.heap.size⟩ w' [(Instr.indexAt 42 vl (.int .i64 (k : Int)), .pointer (some (adA vl k))), (Instr.loadAt 48 (.pointer (some (adA vl k))), .agg (acA x))]) (hm : x.wh = 7) (hn : x.nn = 9223372036854775807) :
    Goal Try.prog (bodyPost Try.prog Try.f7 (clQ w)) clN ⟨frOf [1, 2, 7, 8, 18, 19, 20] [vx, vy, pT pp, i.u, vl, .int .i64 (n : Int), .int .i64 (k : Int)], tagL [], ⟨[], w'.heap.size⟩, .code (loopOf (atL clC 4)) :: .inv (clR w vx vy pp vl n i) :: (atL clC 4).tail⟩ w' := by
  obtain ⟨hle, hW, F, hlen, _⟩ := hJ
  rw [hj] at hle hlen
  rw [hk] at hlen
  have hc : (k : Int) < (n : Int) := by omega
  have _ := ho.v
  refine go_call_is (gt := fun _ => Option.none) (unroll := false) 100 [(4, 0, .is (.bool true)), (5, 1, .sem (.pointer (some (adA vl k)))), (5, 2, .sem (.agg (acA x))), (6, 1, .is (.bool false)), (7, 4, .sem (.int .i64 (x.l.length : Int))), (7, 5, .sem (.int .i64 (mn x.l.length 40 : Nat))), (7, 6, .sem (cutv x.b 0 (mn x.l.length 40))), (8, 1, .is (.int .i64 7)), (26, 5, .is (.int .u16 (x.v % 65536 : Nat)))] 37 [pT pp, .int .i64 x.nn, .int .u16 (x.v % 65536 : Nat)] [1, 2, 7, 8, 10, 18, 19, 20] [vx, vy, pT pp, i.u, pT w'.heap.size, vl, .int .i64 (n : Int), .int .i64 (k : Int)] 121 ([⟨w'.heap.size, (acA x).toList, true⟩]) [(10, 0)] (inR clC 26 6 (.inv (clR w vx vy pp vl n i))) [(.bool (decide ((k : Int) < (n : Int))), .bool true), (.bool ((k : Int) == 60), .bool false), (.int .i64 x.wh, .int .i64 7), (.int .u16 (IntKind.u16.wrap (x.v : Int)), .int .u16 (x.v % 65536 : Nat))] [(Instr.indexAt 42 vl (.int .i64 (k : Int)), .pointer (some (adA vl k))), (Instr.loadAt 48 (.pointer (some (adA vl k))), .agg (acA x)), (Builtin.len_ #[22] 3 #[x.b], .int .i64 (x.l.length : Int)), (Builtin.min_ #[3, 3] 3 #[.int .i64 (x.l.length : Int), .int .i64 40], .int .i64 (mn x.l.length 40 : Nat)), (Instr.sliceAt 22 x.b Option.none (some (.int .i64 (mn x.l.length 40 : Nat))) Option.none, cutv x.b 0 (mn x.l.length 40))] hW (by kernel_rfl) ⟨congrArg Value.bool (by simpa using hc), congrArg Value.bool (by simp; omega), congrArg (Value.int .i64) hm, congrArg (Value.int .u16) (m_two x.v), trivial⟩ ⟨fun wx hx => sl.1 wx hx, fun wx hx => sl.2.1 wx hx, fun wx _ => ho.rd.run_len (ty := 3) bt.sl, fun wx _ => run_mn #[3, 3] 3 x.l.length 40, fun wx _ => ho.rd.sem_cutH (mn_le_left _ _) wx, trivial⟩ ?_
  intro w1 hW1 hS1
  have F1 : ClF w w1 ([⟨w'.heap.size, (acA x).toList, true⟩]) pp i.sv i.u i.bs i.bs := F.pass ([⟨w'.heap.size, (acA x).toList, true⟩]) hS1 hW1 (fun r hr => by
    simp only [List.mem_cons, List.not_mem_nil, or_false] at hr
    subst hr
    exact Nat.le_refl _)
  refine (pfill_no F1.pd x.nn _ (by omega) (by omega)).mono ?_
  rintro y w2 ⟨rfl, rfl⟩
  refine ⟨_, rfl, ?_⟩
  refine go_stop (gt := fun _ => Option.none) (unroll := false) 100 [(27, 2, .is (.bool true)), (27, 6, .is (.int .i64 (-9223372036854775808))), (32, 0, .stop)] [1, 2, 7, 8, 18, 19, 20] [vx, vy, pT pp, i.u, vl, .int .i64 (n : Int), .int .i64 (k : Int)] ([⟨w'.heap.size, (acA x).toList, true⟩]) [(10, 0)] (opsR clC 32 (.inv (clR w vx vy pp vl n i))) [(.bool (decide (0 ≤ x.nn)), .bool true), (.int .i64 (IntKind.i64.wrap (x.nn + 1)), .int .i64 (-9223372036854775808))] [] hW1 (by kernel_rfl) ⟨congrArg Value.bool (by simp; omega), congrArg (Value.int .i64) (by rw [hn]; decide), trivial⟩ trivial ?_
  intro w3 hW3 hS3
  have F3 := F1.pass0 hS3 hW3
  refine Goal.re (tags := tagL []) (m := ⟨[], w3.heap.size⟩) ?_
  exact cl_tail i hj hk hle h60 (hW3.fewer (rows := [])) F3.none (by omega)
set_option maxRecDepth 4000 in
theorem cl_arm7c (i : ClI) {j k : Nat} (hj : i.j = j + 1) (hk : n - (j + 1) = k) (h60 : k < 60) (w' : World) (hJ : ClJ w pp n i w') {x : Ac} (ho : AcOk w x)
    (sl : SemObs Try.prog ⟨[], w'.heap.size⟩ w' [(Instr.indexAt 42 vl (.int .i64 (k : Int)), .pointer (some (adA vl k))), (Instr.loadAt 48 (.pointer (some (adA vl k))), .agg (acA x))]) (hm : x.wh = 7) (hn : 0 ≤ x.nn ∧ x.nn < 9223372036854775807 ∧ (i.bs.length : Int) ≤ x.nn + 1) :
    Goal Try.prog (bodyPost Try.prog Try.f7 (clQ w)) clN ⟨frOf [1, 2, 7, 8, 18, 19, 20] [vx, vy, pT pp, i.u, vl, .int .i64 (n : Int), .int .i64 (k : Int)], tagL [], ⟨[], w'.heap.size⟩, .code (loopOf (atL clC 4)) :: .inv (clR w vx vy pp vl n i) :: (atL clC 4).tail⟩ w' := by
  obtain ⟨hle, hW, F, hlen, _⟩ := hJ
  rw [hj] at hle hlen
  rw [hk] at hlen
  have hc : (k : Int) < (n : Int) := by omega
  have _ := ho.v
  refine go_call_is (gt := fun _ => Option.none) (unroll := false) 100 [(4, 0, .is (.bool true)), (5, 1, .sem (.pointer (some (adA vl k)))), (5, 2, .sem (.agg (acA x))), (6, 1, .is (.bool false)), (7, 4, .sem (.int .i64 (x.l.length : Int))), (7, 5, .sem (.int .i64 (mn x.l.length 40 : Nat))), (7, 6, .sem (cutv x.b 0 (mn x.l.length 40))), (8, 1, .is (.int .i64 7)), (26, 5, .is (.int .u16 (x.v % 65536 : Nat)))] 37 [pT pp, .int .i64 x.nn, .int .u16 (x.v % 65536 : Nat)] [1, 2, 7, 8, 10, 18, 19, 20] [vx, vy, pT pp, i.u, pT w'.heap.size, vl, .int .i64 (n : Int), .int .i64 (k : Int)] 121 ([⟨w'.heap.size, (acA x).toList, true⟩]) [(10, 0)] (inR clC 26 6 (.inv (clR w vx vy pp vl n i))) [(.bool (decide ((k : Int) < (n : Int))), .bool true), (.bool ((k : Int) == 60), .bool false), (.int .i64 x.wh, .int .i64 7), (.int .u16 (IntKind.u16.wrap (x.v : Int)), .int .u16 (x.v % 65536 : Nat))] [(Instr.indexAt 42 vl (.int .i64 (k : Int)), .pointer (some (adA vl k))), (Instr.loadAt 48 (.pointer (some (adA vl k))), .agg (acA x)), (Builtin.len_ #[22] 3 #[x.b], .int .i64 (x.l.length : Int)), (Builtin.min_ #[3, 3] 3 #[.int .i64 (x.l.length : Int), .int .i64 40], .int .i64 (mn x.l.length 40 : Nat)), (Instr.sliceAt 22 x.b Option.none (some (.int .i64 (mn x.l.length 40 : Nat))) Option.none, cutv x.b 0 (mn x.l.length 40))] hW (by kernel_rfl) ⟨congrArg Value.bool (by simpa using hc), congrArg Value.bool (by simp; omega), congrArg (Value.int .i64) hm, congrArg (Value.int .u16) (m_two x.v), trivial⟩ ⟨fun wx hx => sl.1 wx hx, fun wx hx => sl.2.1 wx hx, fun wx _ => ho.rd.run_len (ty := 3) bt.sl, fun wx _ => run_mn #[3, 3] 3 x.l.length 40, fun wx _ => ho.rd.sem_cutH (mn_le_left _ _) wx, trivial⟩ ?_
  intro w1 hW1 hS1
  have F1 : ClF w w1 ([⟨w'.heap.size, (acA x).toList, true⟩]) pp i.sv i.u i.bs i.bs := F.pass ([⟨w'.heap.size, (acA x).toList, true⟩]) hS1 hW1 (fun r hr => by
    simp only [List.mem_cons, List.not_mem_nil, or_false] at hr
    subst hr
    exact Nat.le_refl _)
  refine (pfill_no F1.pd x.nn _ (by omega) (by omega)).mono ?_
  rintro y w2 ⟨rfl, rfl⟩
  refine ⟨_, rfl, ?_⟩
  refine go_stop (gt := fun _ => Option.none) (unroll := false) 100 [(27, 2, .is (.bool true)), (27, 6, .is (.int .i64 (x.nn + 1))), (27, 7, .is (.bool true)), (27, 12, .is (.int .i64 (x.nn + 1))), (27, 14, .sem (.int .i64 (i.bs.length : Int))), (27, 15, .is (.bool false)), (32, 0, .stop)] [1, 2, 7, 8, 18, 19, 20] [vx, vy, pT pp, i.u, vl, .int .i64 (n : Int), .int .i64 (k : Int)] ([⟨w'.heap.size, (acA x).toList, true⟩]) [(10, 0)] (opsR clC 32 (.inv (clR w vx vy pp vl n i))) [(.bool (decide (0 ≤ x.nn)), .bool true), (.int .i64 (IntKind.i64.wrap (x.nn + 1)), .int .i64 (x.nn + 1)), (.bool (decide (0 ≤ x.nn + 1)), .bool true), (.int .i64 (IntKind.i64.wrap (x.nn + 1)), .int .i64 (x.nn + 1)), (.bool (decide (x.nn + 1 < (i.bs.length : Int))), .bool false)] [(Builtin.len_ #[22] 3 #[i.u], .int .i64 (i.bs.length : Int))] hW1 (by kernel_rfl) ⟨congrArg Value.bool (by simp; omega), congrArg (Value.int .i64) (IntWalk.i64_in _ (by omega)), congrArg Value.bool (by simp; omega), congrArg (Value.int .i64) (IntWalk.i64_in _ (by omega)), congrArg Value.bool (by simp; omega), trivial⟩ ⟨fun wx _ => F1.own.rd.run_len (ty := 3) bt.sl, trivial⟩ ?_
  intro w3 hW3 hS3
  have F3 := F1.pass0 hS3 hW3
  refine Goal.re (tags := tagL []) (m := ⟨[], w3.heap.size⟩) ?_
  exact cl_tail i hj hk hle h60 (hW3.fewer (rows := [])) F3.none (by omega)
set_option maxRecDepth 4000 in
theorem cl_arm7d (i : ClI) {j k : Nat} (hj : i.j = j + 1) (hk : n - (j + 1) = k) (h60 : k < 60) (w' : World) (hJ : ClJ w pp n i w') {x : Ac} (ho : AcOk w x)
    (sl : SemObs Try.prog ⟨[], w'.heap.size⟩ w' [(Instr.indexAt 42 vl (.int .i64 (k : Int)), .pointer (some (adA vl k))), (Instr.loadAt 48 (.pointer (some (adA vl k))), .agg (acA x))]) (hm : x.wh = 7) {a : Nat} (ha : x.nn = (a : Int)) (hn : a + 2 ≤ i.bs.length) :
    Goal Try.prog (bodyPost Try.prog Try.f7 (clQ w)) clN ⟨frOf [1, 2, 7, 8, 18, 19, 20] [vx, vy, pT pp, i.u, vl, .int .i64 (n : Int), .int .i64 (k : Int)], tagL [], ⟨[], w'.heap.size⟩, .code (loopOf (atL clC 4)) :: .inv (clR w vx vy pp vl n i) :: (atL clC 4).tail⟩ w' := by
  obtain ⟨hle, hW, F, hlen, _⟩ := hJ
  rw [hj] at hle hlen
  rw [hk] at hlen
  have hc : (k : Int) < (n : Int) := by omega
  have _ := ho.v
  refine go_call_is (gt := fun _ => Option.none) (unroll := false) 100 [(4, 0, .is (.bool true)), (5, 1, .sem (.pointer (some (adA vl k)))), (5, 2, .sem (.agg (acA x))), (6, 1, .is (.bool false)), (7, 4, .sem (.int .i64 (x.l.length : Int))), (7, 5, .sem (.int .i64 (mn x.l.length 40 : Nat))), (7, 6, .sem (cutv x.b 0 (mn x.l.length 40))), (8, 1, .is (.int .i64 7)), (26, 5, .is (.int .u16 (x.v % 65536 : Nat)))] 37 [pT pp, .int .i64 x.nn, .int .u16 (x.v % 65536 : Nat)] [1, 2, 7, 8, 10, 18, 19, 20] [vx, vy, pT pp, i.u, pT w'.heap.size, vl, .int .i64 (n : Int), .int .i64 (k : Int)] 121 ([⟨w'.heap.size, (acA x).toList, true⟩]) [(10, 0)] (inR clC 26 6 (.inv (clR w vx vy pp vl n i))) [(.bool (decide ((k : Int) < (n : Int))), .bool true), (.bool ((k : Int) == 60), .bool false), (.int .i64 x.wh, .int .i64 7), (.int .u16 (IntKind.u16.wrap (x.v : Int)), .int .u16 (x.v % 65536 : Nat))] [(Instr.indexAt 42 vl (.int .i64 (k : Int)), .pointer (some (adA vl k))), (Instr.loadAt 48 (.pointer (some (adA vl k))), .agg (acA x)), (Builtin.len_ #[22] 3 #[x.b], .int .i64 (x.l.length : Int)), (Builtin.min_ #[3, 3] 3 #[.int .i64 (x.l.length : Int), .int .i64 40], .int .i64 (mn x.l.length 40 : Nat)), (Instr.sliceAt 22 x.b Option.none (some (.int .i64 (mn x.l.length 40 : Nat))) Option.none, cutv x.b 0 (mn x.l.length 40))] hW (by kernel_rfl) ⟨congrArg Value.bool (by simpa using hc), congrArg Value.bool (by simp; omega), congrArg (Value.int .i64) hm, congrArg (Value.int .u16) (m_two x.v), trivial⟩ ⟨fun wx hx => sl.1 wx hx, fun wx hx => sl.2.1 wx hx, fun wx _ => ho.rd.run_len (ty := 3) bt.sl, fun wx _ => run_mn #[3, 3] 3 x.l.length 40, fun wx _ => ho.rd.sem_cutH (mn_le_left _ _) wx, trivial⟩ ?_
  intro w1 hW1 hS1
  have F1 : ClF w w1 ([⟨w'.heap.size, (acA x).toList, true⟩]) pp i.sv i.u i.bs i.bs := F.pass ([⟨w'.heap.size, (acA x).toList, true⟩]) hS1 hW1 (fun r hr => by
    simp only [List.mem_cons, List.not_mem_nil, or_false] at hr
    subst hr
    exact Nat.le_refl _)
  rw [ha]
  refine (pfill_ok F1.pd a (x.v % 65536) hn (Nat.mod_lt _ (by omega)) (by omega)).mono ?_
  rintro y w2 ⟨rfl, pd2, k2⟩
  refine ⟨_, rfl, ?_⟩
  have F2 := F1.pad hW1.keep.size k2 (Later.refl _ _) pd2
  have hW2 := hW1.laterS k2 F1.looseP
  refine go_stop (gt := fun _ => Option.none) (unroll := false) 100 [(27, 2, .is (.bool true)), (27, 6, .is (.int .i64 (x.nn + 1))), (27, 7, .is (.bool true)), (27, 12, .is (.int .i64 (x.nn + 1))), (27, 14, .sem (.int .i64 (i.bs.length : Int))), (27, 15, .is (.bool true))] [1, 2, 7, 8, 10, 18, 19, 20] [vx, vy, pT pp, i.u, pT w'.heap.size, vl, .int .i64 (n : Int), .int .i64 (k : Int)] ([⟨w'.heap.size, (acA x).toList, true⟩]) [(10, 0)] (atR clC 31 (.inv (clR w vx vy pp vl n i))) [(.bool (decide ((0 : Int) ≤ x.nn)), .bool true), (.int .i64 (IntKind.i64.wrap (x.nn + 1)), .int .i64 (x.nn + 1)), (.bool (decide ((0 : Int) ≤ x.nn + 1)), .bool true), (.int .i64 (IntKind.i64.wrap (x.nn + 1)), .int .i64 (x.nn + 1)), (.bool (decide (x.nn + 1 < (i.bs.length : Int))), .bool true)] [(Builtin.len_ #[22] 3 #[i.u], .int .i64 (i.bs.length : Int))] hW2 (by kernel_rfl) ⟨congrArg Value.bool (by simp; omega), congrArg (Value.int .i64) (IntWalk.i64_in _ (by omega)), congrArg Value.bool (by simp; omega), congrArg (Value.int .i64) (IntWalk.i64_in _ (by omega)), congrArg Value.bool (by simp; omega), trivial⟩ ⟨fun wx _ => F2.own.rd.run_len (ty := 3) bt.sl, trivial⟩ ?_
  intro w3 hW3 hS3
  have F3 := F2.pass0 hS3 hW3
  have hb2 : (bytes2 (x.v % 65536)).length = 2 := rfl
  refine drawnM_ok (S0 := ubS i.u) (gt := fun _ => Option.none) (D := CpD 5 i.u i.bs (i.bs.take a ++ bytes2 (x.v % 65536) ++ i.bs.drop (a + (bytes2 (x.v % 65536)).length))) (g0 := ⟨False, undef, ubS i.u⟩)
    [(3, .sem (cutv i.u a i.bs.length)), (6, .is (.int .u32 (x.v % 65536 : Nat))), (7, .call (rdM (bytes2 (x.v % 65536)))), (8, .act (.is (.int .i64 ((bytes2 (x.v % 65536)).length : Int))))]
    [1, 2, 7, 8, 18, 19, 20] [.is vx, .is vy, .is (pT pp), .is i.u, .is vl, .is (.int .i64 (n : Int)), .is (.int .i64 (k : Int))]
    (True ∧ True ∧ True ∧ SemM Try.prog (ubS i.u) w3 (Instr.sliceAt 22 i.u (some (.int .i64 x.nn)) Option.none Option.none) (cutv i.u a i.bs.length) ∧ True ∧ True ∧ ((.int .u32 (IntKind.u32.wrap ((BitVec.ofInt 32 (x.v : Int) &&& BitVec.ofInt 32 65535).toNat : Int)) : Value) = .int .u32 (x.v % 65536 : Nat)) ∧ CallM Try.prog (ubS i.u) w3 36 [.is (.int .u32 (x.v % 65536 : Nat)), .is (.int .i64 2)] (rdM (bytes2 (x.v % 65536))) ∧ ActM Try.prog (ubS i.u) w3 (CpD 5 i.u i.bs (i.bs.take a ++ bytes2 (x.v % 65536) ++ i.bs.drop (a + (bytes2 (x.v % 65536)).length))) 0 (.call { callee := .builtin .copy, args := #[.tmp 155, .tmp 159], argTypes := #[22, 22] }) 3 [(155, .is (cutv i.u a i.bs.length)), (159, rdM (bytes2 (x.v % 65536)))] (.is (.int .i64 ((bytes2 (x.v % 65536)).length : Int))) ∧ True)
    1 (afterR clC 31 (.inv (clR w vx vy pp vl n i))) hW3 F3.looseU (by kernel_rfl) (by kernel_rfl) (by kernel_rfl) CpD.keep (fun q hq => ⟨F3.own.lt q hq, fun _ => hq⟩) ⟨rfl, F3.own⟩
    ⟨trivial, trivial, trivial, fun wx _ => by rw [ha]; exact F3.own.rd.sem_cutL (by omega) wx, trivial, trivial, congrArg (Value.int .u32) (m_and ho.v), cb_two _ (by omega), copy_act bt (by omega) (by omega) _, trivial⟩ ?_
  intro g w4 vs k4 _ hD hok
  obtain rfl := allOkM_is (vs := [vx, vy, pT pp, i.u, vl, .int .i64 (n : Int), .int .i64 (k : Int)]) hok
  obtain ⟨_, o4⟩ := hD
  have F4 := F3.app' hW3.keep.size k4 (Later.refl _ _) o4
  exact cl_join (vx := vx) (vy := vy) (vl := vl) i hj hk hle h60 (hW3.laterS k4 F3.looseU) F4 (by rw [hb2]; exact set_eq hn) (by rw [hb2]; simp only [List.length_append, List.length_take, List.length_drop, hb2]; omega) (fun _ => by kernel_rfl)
set_option maxRecDepth 4000 in
theorem cl_armE (i : ClI) {j k : Nat} (hj : i.j = j + 1) (hk : n - (j + 1) = k) (h60 : k < 60) (w' : World) (hJ : ClJ w pp n i w') {x : Ac} (ho : AcOk w x)
    (sl : SemObs Try.prog ⟨[], w'.heap.size⟩ w' [(Instr.indexAt 42 vl (.int .i64 (k : Int)), .pointer (some (adA vl k))), (Instr.loadAt 48 (.pointer (some (adA vl k))), .agg (acA x))]) (h0 : x.wh ≠ 0) (h1 : x.wh ≠ 1) (h2 : x.wh ≠ 2) (h3 : x.wh ≠ 3) (h4 : x.wh ≠ 4) (h7 : x.wh ≠ 7) :
    Goal Try.prog (bodyPost Try.prog Try.f7 (clQ w)) clN ⟨frOf [1, 2, 7, 8, 18, 19, 20] [vx, vy, pT pp, i.u, vl, .int .i64 (n : Int), .int .i64 (k : Int)], tagL [], ⟨[], w'.heap.size⟩, .code (loopOf (atL clC 4)) :: .inv (clR w vx vy pp vl n i) :: (atL clC 4).tail⟩ w' := by
  obtain ⟨hle, hW, F, hlen, _⟩ := hJ
  rw [hj] at hle hlen
  rw [hk] at hlen
  have hc : (k : Int) < (n : Int) := by omega
  have _ := ho.v
  refine go_stop (gt := fun _ => Option.none) (unroll := false) 100 [(4, 0, .is (.bool true)), (5, 1, .sem (.pointer (some (adA vl k)))), (5, 2, .sem (.agg (acA x))), (6, 1, .is (.bool false)), (7, 4, .sem (.int .i64 (x.l.length : Int))), (7, 5, .sem (.int .i64 (mn x.l.length 40 : Nat))), (7, 6, .sem (cutv x.b 0 (mn x.l.length 40))), (9, 0, .is (.bool false)), (12, 0, .is (.bool false)), (15, 0, .is (.bool false)), (18, 0, .is (.bool false)), (22, 0, .is (.bool false)), (25, 0, .is (.bool false)), (32, 0, .stop)] [1, 2, 7, 8, 18, 19, 20] [vx, vy, pT pp, i.u, vl, .int .i64 (n : Int), .int .i64 (k : Int)] ([⟨w'.heap.size, (acA x).toList, true⟩]) [(10, 0)] (opsR clC 32 (.inv (clR w vx vy pp vl n i))) [(.bool (decide ((k : Int) < (n : Int))), .bool true), (.bool ((k : Int) == 60), .bool false), (.bool (x.wh == 0), .bool false), (.bool (x.wh == 1), .bool false), (.bool (x.wh == 2), .bool false), (.bool (x.wh == 3), .bool false), (.bool (x.wh == 4), .bool false), (.bool (x.wh == 7), .bool false)] [(Instr.indexAt 42 vl (.int .i64 (k : Int)), .pointer (some (adA vl k))), (Instr.loadAt 48 (.pointer (some (adA vl k))), .agg (acA x)), (Builtin.len_ #[22] 3 #[x.b], .int .i64 (x.l.length : Int)), (Builtin.min_ #[3, 3] 3 #[.int .i64 (x.l.length : Int), .int .i64 40], .int .i64 (mn x.l.length 40 : Nat)), (Instr.sliceAt 22 x.b Option.none (some (.int .i64 (mn x.l.length 40 : Nat))) Option.none, cutv x.b 0 (mn x.l.length 40))] hW (by kernel_rfl) ⟨congrArg Value.bool (by simpa using hc), congrArg Value.bool (by simp; omega), congrArg Value.bool (by simpa using h0), congrArg Value.bool (by simpa using h1), congrArg Value.bool (by simpa using h2), congrArg Value.bool (by simpa using h3), congrArg Value.bool (by simpa using h4), congrArg Value.bool (by simpa using h7), trivial⟩ ⟨fun wx hx => sl.1 wx hx, fun wx hx => sl.2.1 wx hx, fun wx _ => ho.rd.run_len (ty := 3) bt.sl, fun wx _ => run_mn #[3, 3] 3 x.l.length 40, fun wx _ => ho.rd.sem_cutH (mn_le_left _ _) wx, trivial⟩ ?_
  intro w1 hW1 hS1
  have F1 : ClF w w1 ([⟨w'.heap.size, (acA x).toList, true⟩]) pp i.sv i.u i.bs i.bs := F.pass ([⟨w'.heap.size, (acA x).toList, true⟩]) hS1 hW1 (fun r hr => by
    simp only [List.mem_cons, List.not_mem_nil, or_false] at hr
    subst hr
    exact Nat.le_refl _)
  refine Goal.re (tags := tagL []) (m := ⟨[], w1.heap.size⟩) ?_
  exact cl_tail i hj hk hle h60 (hW1.fewer (rows := [])) F1.none (by omega)
end
end Go.Proofs.Ytpididcghilbjaa
