/-
  tollref05.Get of any bytes. Condition: the bytes are at most 2^47 - 4096.
-/
import Derived.Test.YtpididcghilbjaaDoorArpRef
namespace Go.Proofs.YtpididcghilbjaaDoor
open Go.RowKit

def firstL : List UInt8 := [0, 1, 8, 0, 6, 4, 0]
def same7 (bs : List UInt8) : Nat → Bool | 0 => true | i + 1 => same7 bs i && byteAt bs i == byteAt firstL i
def rOk (bs : List UInt8) : Bool := same7 bs 7 && (byteAt bs 7 == 1 || byteAt bs 7 == 2)
def sub6 (bs : List UInt8) (k : Nat) : List UInt8 := [byteAt bs k, byteAt bs (k + 1), byteAt bs (k + 2), byteAt bs (k + 3), byteAt bs (k + 4), byteAt bs (k + 5)]
def rgetV (bs : List UInt8) : Array Value := if 28 ≤ bs.length ∧ rOk bs = true then rkA (bn bs 7) (n4 bs 14) (n4 bs 24) (sub6 bs 8) (sub6 bs 18) else rkA 0 0 0 [] []
def rgetE (bs : List UInt8) : Int := if bs.length < 28 then 4 else if rOk bs = true then 0 else 5

section
variable {w : World} {v : Value} {bs : List UInt8}
noncomputable abbrev gN : Nat := Tryd.f14.ntmps
def z15 : List Value := (rkA 0 0 0 [] []).toList
abbrev fv (h : Nat) : Value := .slice (some ⟨h + 2, 0, none⟩) 7 7
def gRows (h : Nat) (cs : List Value) : List RowS := [⟨h, z15, true⟩, ⟨h + 1, cs, true⟩, ⟨h + 2, bvs firstL, true⟩]
def gHs (bs : List UInt8) : List (Nat × Nat × HintS) := [(2, 1, .sem (.int .i64 (bs.length : Int))), (2, 2, .is (.bool false))]
noncomputable abbrev gB : Code := bodyOf Tryd.f14
def gTs : List Tmp := [0, 2, 3, 4, 5, 6]
def gVs (v : Value) (h : Nat) (i : Nat) : List Value := [v, .pointer (some ⟨h, 0, none⟩), .int .i64 0, .pointer (some ⟨h + 1, 0, none⟩), fv h, .int .i64 (i : Int)]
def gTg : List (Nat × Nat) := [(2, 0), (4, 1), (5, 2)]
noncomputable def gL (v : Value) (h : Nat) (j : Nat) (w' : World) : Cfg := ⟨frOf gTs (gVs v h (7 - j)), tagL gTg, ⟨gRows h z15, w'.heap.size⟩, atL gB 6⟩
def gJ (w : World) (bs : List UInt8) (j : Nat) (w' : World) : Prop := j ≤ 7 ∧ Wst w ⟨gRows w.heap.size z15, w'.heap.size⟩ w' ∧ same7 bs (7 - j) = true
noncomputable def gR (w : World) (v : Value) (bs : List UInt8) (j : Nat) : Act → World → Prop := fun a' w' => ∃ j', j' < j ∧ gJ w bs j' w' ∧ agrees gN (gL v w.heap.size j' w') a'

theorem first_rd {W0 w' : World} {h : Nat} {cs : List Value} {nx : Nat} (hW : Wst W0 ⟨gRows h cs, nx⟩ w') : Rd w' (fv h) firstL := by
  obtain ⟨t, ht⟩ := hW.rows ⟨h + 2, bvs firstL, true⟩ (by simp [gRows])
  refine ⟨⟨_, 7, rfl, by decide, by decide, by simp, fun _ => ⟨_, _, rfl⟩⟩, fun i hi => ?_⟩
  simp only [blk, offs, Nat.zero_add, World.cell?, ht]
  have := bvs_get (bs := firstL) hi
  simpa using this

theorem get_short (r : Rd w v bs) (h28 : bs.length < 28) : Calls Tryd.prog 14 #[v] w fun x w' => x = .returned (.tuple #[.agg (rgetV bs), .int .i64 (rgetE bs)]) ∧ Keep No w w' := by
  have e1 : rgetV bs = rkA 0 0 0 [] [] := if_neg (by omega)
  have e2 : rgetE bs = 4 := if_pos h28
  rw [e1, e2]
  refine enter (args := [v]) Tryd.func14 (by kernel_rfl) ?_
  refine go_ret (gt := fun _ => Option.none) (unroll := true) 60 [(2, 1, .sem (.int .i64 (bs.length : Int))), (2, 2, .is (.bool true))] [.cell 2 39, .tmp 3] (.tuple #[.agg (rkA 0 0 0 [] []), .int .i64 4])
    [(.bool (decide ((bs.length : Int) < 28)), .bool true)] [(Builtin.len_ #[33] 3 #[v], .int .i64 (bs.length : Int))] (Wst.start0 w) Tryd.results14 (by kernel_rfl)
    ⟨congrArg Value.bool (by simp; omega), trivial⟩ ⟨fun _ _ => r.run_len (ty := 3) bt.sl, trivial⟩ (fun w' hW _ => ⟨rfl, hW.keep⟩)

abbrev gPost (w : World) (bs : List UInt8) : Ending → World → Prop := fun x w' => x = .returned (.tuple #[.agg (rgetV bs), .int .i64 (rgetE bs)]) ∧ Keep No w w'
theorem rOk_false_of {i : Nat} (hi : i < 7) (h : (byteAt bs i == byteAt firstL i) = false) : rOk bs = false := by
  have : ∀ m, i < m → same7 bs m = false := by
    intro m
    induction m with
    | zero => intro h; omega
    | succ m ih =>
      intro hm
      by_cases e : i = m
      · subst e; simp [same7, h]
      · simp [same7, ih (by omega)]
  simp [rOk, this 7 hi]

/-- One round of the first loop. -/
theorem get_round (r : Rd w v bs) (h28 : 28 ≤ bs.length) (j : Nat) (w' : World) (hJ : gJ w bs (j + 1) w') :
    Goal Tryd.prog (bodyPost Tryd.prog Tryd.f14 (gPost w bs)) gN { gL v w.heap.size (j + 1) w' with todo := .code (loopOf (atL gB 6)) :: .inv (gR w v bs (j + 1)) :: (atL gB 6).tail } w' := by
  obtain ⟨hj, hW, hsame⟩ := hJ
  unfold gL
  have hi : 7 - (j + 1) < 7 := by omega
  have hnext : 7 - (j + 1) + 1 = 7 - j := by omega
  generalize hI : 7 - (j + 1) = i at *
  have hc : (i : Int) < 7 := by omega
  have hr : ∀ w2, Keep No w' w2 → Rd w2 v bs := fun w2 k => r.keep0 (hW.keep.trans k)
  have hf : ∀ w2, Keep No w' w2 → Rd w2 (fv w.heap.size) firstL := fun w2 k => (first_rd hW).keep0 k
  have hfl : i < firstL.length := hi
  cases hb : (byteAt bs i == byteAt firstL i) with
  | false =>
    have hne : (bn bs i != bn firstL i) = true := by
      have h1 : ¬ byteAt bs i = byteAt firstL i := by simpa using hb
      have : ¬ (bn bs i = bn firstL i) := fun e => h1 (by apply UInt8.toNat_inj.1; have e' : ((byteAt bs i).toNat : Int) = ((byteAt firstL i).toNat : Int) := e; omega)
      simpa using this
    have e1 : rgetV bs = rkA 0 0 0 [] [] := if_neg (by rw [rOk_false_of hi hb]; simp)
    have e2 : rgetE bs = 5 := by rw [rgetE, if_neg (by omega), rOk_false_of hi hb]; simp
    refine go_drawn_is (gt := fun _ => Option.none) (unroll := false) 40 [(6, 1, .is (.bool true))] [(.bool (decide ((i : Int) < 7)), .bool true)] []
      [(2, .sem (.pointer (some (adr v i)))), (3, .sem (bv (byteAt bs i))), (6, .sem (.pointer (some (adr (fv w.heap.size) i)))), (7, .sem (bv (byteAt firstL i))), (8, .is (.bool true))]
      (25 :: gTs) (.bool true :: gVs v w.heap.size i) (gRows w.heap.size z15) gTg (afterR gB 8 (.inv (gR w v bs (j + 1)))) [(.bool (bn bs i != bn firstL i), .bool true)] [] []
      [(Instr.indexAt 33 v (.int .i64 (i : Int)), .pointer (some (adr v i))), (Instr.loadAt 5 (.pointer (some (adr v i))), bv (byteAt bs i)),
       (Instr.indexAt 33 (fv w.heap.size) (.int .i64 (i : Int)), .pointer (some (adr (fv w.heap.size) i))), (Instr.loadAt 5 (.pointer (some (adr (fv w.heap.size) i))), bv (byteAt firstL i))]
      hW (by kernel_rfl) (by kernel_rfl) (by kernel_rfl) ⟨congrArg Value.bool (by simpa using hc), trivial⟩ trivial ⟨congrArg Value.bool hne, trivial⟩ ?_
    intro w1 hW1 hS1
    have k1 : Keep No w w1 := hW1.keep
    have fr := first_rd hW1
    refine ⟨trivial, trivial, ⟨fun w2 k => r.sem_at (by omega) w2, fun w2 k => (r.keep0 (k1.trans k)).sem_ld (by omega), fun w2 k => fr.sem_at hfl w2, fun w2 k => (fr.keep0 k).sem_ld hfl, trivial⟩, ?_⟩
    intro w2 k2 hW2 hS2
    refine go_ret (gt := fun _ => Option.none) (unroll := false) 40 [] [.cell 2 39, .tmp 3] (.tuple #[.agg (rkA 0 0 0 [] []), .int .i64 5]) [] [] hW2 Tryd.results14 (by kernel_rfl) trivial trivial ?_
    intro w3 hW3 hS3
    exact ⟨by rw [e1, e2], hW3.keep⟩
  | true =>
    have heq : (bn bs i != bn firstL i) = false := by
      have h1 : byteAt bs i = byteAt firstL i := by simpa using hb
      simp [bn, h1]
    refine go_drawn_is (gt := fun _ => Option.none) (unroll := false) 40 [(6, 1, .is (.bool true))] [(.bool (decide ((i : Int) < 7)), .bool true)] []
      [(2, .sem (.pointer (some (adr v i)))), (3, .sem (bv (byteAt bs i))), (6, .sem (.pointer (some (adr (fv w.heap.size) i)))), (7, .sem (bv (byteAt firstL i))), (8, .is (.bool false))]
      (25 :: gTs) (.bool false :: gVs v w.heap.size i) (gRows w.heap.size z15) gTg (afterR gB 8 (.inv (gR w v bs (j + 1)))) [(.bool (bn bs i != bn firstL i), .bool false)] [] []
      [(Instr.indexAt 33 v (.int .i64 (i : Int)), .pointer (some (adr v i))), (Instr.loadAt 5 (.pointer (some (adr v i))), bv (byteAt bs i)),
       (Instr.indexAt 33 (fv w.heap.size) (.int .i64 (i : Int)), .pointer (some (adr (fv w.heap.size) i))), (Instr.loadAt 5 (.pointer (some (adr (fv w.heap.size) i))), bv (byteAt firstL i))]
      hW (by kernel_rfl) (by kernel_rfl) (by kernel_rfl) ⟨congrArg Value.bool (by simpa using hc), trivial⟩ trivial ⟨congrArg Value.bool heq, trivial⟩ ?_
    intro w1 hW1 hS1
    have k1 : Keep No w w1 := hW1.keep
    have fr := first_rd hW1
    refine ⟨trivial, trivial, ⟨fun w2 k => r.sem_at (by omega) w2, fun w2 k => (r.keep0 (k1.trans k)).sem_ld (by omega), fun w2 k => fr.sem_at hfl w2, fun w2 k => (fr.keep0 k).sem_ld hfl, trivial⟩, ?_⟩
    intro w2 k2 hW2 hS2
    refine go_inv (gt := fun _ => Option.none) (unroll := false) 40 [(7, 1, .is (.int .i64 ((i + 1 : Nat) : Int)))] gTs (gVs v w.heap.size (i + 1)) (gRows w.heap.size z15) (gR w v bs (j + 1)) [(.int .i64 (IntKind.i64.wrap ((i : Int) + 1)), .int .i64 ((i + 1 : Nat) : Int))] [] hW2 (by kernel_rfl)
      ⟨congrArg (Value.int .i64) (by rw [i64_in' (by omega) (by omega)]; rfl), trivial⟩ trivial ?_
    intro w3 a hW3 hS3 hslots
    refine ⟨j, by omega, ⟨by omega, hW3, by rw [← hnext]; simp [same7, hsame, hb]⟩, ?_⟩
    unfold gL
    rw [← hnext]
    exact hslots

theorem n4_cut {k : Nat} (h : k + 4 ≤ bs.length) : n4 ((bs.drop k).take (bs.length - k)) 0 = n4 bs k := by
  simp only [n4, bn]
  rw [byteAt_slice bs k bs.length 0 (by omega), byteAt_slice bs k bs.length (0 + 1) (by omega), byteAt_slice bs k bs.length (0 + 2) (by omega), byteAt_slice bs k bs.length (0 + 3) (by omega)]
  simp only [Nat.add_zero, Nat.zero_add]
theorem Rd.sem_cutL (r : Rd w v bs) {k : Nat} (h : k ≤ bs.length) (wx : World) : (Instr.sliceAt 33 v (some (.int .i64 (k : Int))) Option.none Option.none).run Tryd.prog wx = .ok (cutv v k bs.length) wx := by
  have := r.run_cutL (P := Tryd.prog) (w' := wx) bt.sl bsize (k := .i64) (l := (k : Int)) (by omega) (by omega)
  unfold Instr.sliceAt
  simp only [Sem.run_bind, run_underlying (P := Tryd.prog) Tryd.underlying33, Result.andThen_ok]
  simpa using this

def loopHs (v : Value) (bs : List UInt8) : List (Nat × Nat × HintS) :=
  (List.range 6).flatMap fun i => [(16, 4, .sem (.pointer (some (adr v (8 + i))))), (16, 5, .sem (bv (byteAt bs (8 + i)))), (17, 4, .sem (.pointer (some (adr v (18 + i))))), (17, 5, .sem (bv (byteAt bs (18 + i))))]
def loopSems (v : Value) (bs : List UInt8) : List (Sem Value × Value) :=
  (List.range 6).flatMap fun i => [(Instr.indexAt 33 v (.int .i64 ((8 + i : Nat) : Int)), .pointer (some (adr v (8 + i)))), (Instr.loadAt 5 (.pointer (some (adr v (8 + i)))), bv (byteAt bs (8 + i))),
    (Instr.indexAt 33 v (.int .i64 ((18 + i : Nat) : Int)), .pointer (some (adr v (18 + i)))), (Instr.loadAt 5 (.pointer (some (adr v (18 + i)))), bv (byteAt bs (18 + i)))]

/-- What stands behind the first loop and its tests. -/
theorem get_tail (r : Rd w v bs) (h28 : 28 ≤ bs.length) (hok : rOk bs = true) (w' : World) (hW : Wst w ⟨gRows w.heap.size z15, w'.heap.size⟩ w') :
    Goal Tryd.prog (bodyPost Tryd.prog Tryd.f14 (gPost w bs)) gN ⟨frOf gTs (gVs v w.heap.size 7), tagL gTg, ⟨gRows w.heap.size z15, w'.heap.size⟩, opsR gB 12⟩ w' := by
  have e1 : rgetV bs = rkA (bn bs 7) (n4 bs 14) (n4 bs 24) (sub6 bs 8) (sub6 bs 18) := if_pos ⟨h28, hok⟩
  have e2 : rgetE bs = 0 := by rw [rgetE, if_neg (by omega), if_pos hok]
  have b7 := bn_lt bs 7
  have rw' : ∀ w2, (∀ k, Safe ⟨gRows w.heap.size z15, w'.heap.size⟩ k → w2.heap[k]? = w'.heap[k]?) → Rd w2 v bs := fun w2 h => r.walk hW h
  refine go_call_is (gt := fun _ => Option.none) (unroll := true) 900 ([(12, 1, .sem (.pointer (some (adr v 7)))), (12, 2, .sem (bv (byteAt bs 7))), (12, 3, .is (.int .i64 (bn bs 7)))] ++ loopHs v bs ++ [(18, 1, .sem (cutv v 14 bs.length))])
    28 [cutv v 14 bs.length] [0, 2, 4] [v, .pointer (some ⟨w.heap.size, 0, Option.none⟩), .pointer (some ⟨w.heap.size + 1, 0, Option.none⟩)] 65
    (gRows w.heap.size (rkA (bn bs 7) 0 0 (sub6 bs 8) (sub6 bs 18)).toList) [(2, 0), (4, 1)] (inR gB 18 2)
    [(.int .i64 (IntKind.i64.wrap (bn bs 7)), .int .i64 (bn bs 7))]
    ([(Instr.indexAt 33 v (.int .i64 7), .pointer (some (adr v 7))), (Instr.loadAt 5 (.pointer (some (adr v 7))), bv (byteAt bs 7))] ++ loopSems v bs ++ [(Instr.sliceAt 33 v (some (.int .i64 14)) Option.none Option.none, cutv v 14 bs.length)])
    hW (by kernel_rfl) ⟨congrArg (Value.int .i64) (i64_in' (by omega) (by omega)), trivial⟩ ?_ ?_
  · refine SemObs.of ?_
    intro p hp w2 hw2
    have r2 := rw' w2 hw2
    rcases List.mem_append.1 hp with hp | hp
    · rcases List.mem_append.1 hp with hp | hp
      · simp only [List.mem_cons, List.not_mem_nil, or_false] at hp
        rcases hp with rfl | rfl
        · exact r.sem_at (i := 7) (by omega) w2
        · exact r2.sem_ld (i := 7) (by omega)
      · obtain ⟨i, hi, hp⟩ := List.mem_flatMap.1 hp
        have hi' := List.mem_range.1 hi
        simp only [List.mem_cons, List.not_mem_nil, or_false] at hp
        rcases hp with rfl | rfl | rfl | rfl
        · exact r.sem_at (by omega) w2
        · exact r2.sem_ld (by omega)
        · exact r.sem_at (by omega) w2
        · exact r2.sem_ld (by omega)
    · obtain rfl := List.mem_singleton.1 hp
      exact r.sem_cutL (k := 14) (by omega) w2
  · intro w1 hW1 hS1
    have r1 : Rd w1 v bs := r.keep0 hW1.keep
    refine (number_any (r1.cut (l := 14) (h := bs.length) (by omega) (Nat.le_refl _)) (by simp; omega)).mono ?_
    rintro e w2 ⟨rfl, k2⟩
    refine ⟨_, rfl, ?_⟩
    rw [n4_cut (k := 14) (by omega)]
    have hW2 := hW1.later k2
    refine go_call_is (gt := fun _ => Option.none) (unroll := true) 60 [(19, 1, .sem (cutv v 24 bs.length))]
      28 [cutv v 24 bs.length] [0, 2, 4] [v, .pointer (some ⟨w.heap.size, 0, Option.none⟩), .pointer (some ⟨w.heap.size + 1, 0, Option.none⟩)] 69
      (gRows w.heap.size (rkA (bn bs 7) (n4 bs 14) 0 (sub6 bs 8) (sub6 bs 18)).toList) [(2, 0), (4, 1)] (inR gB 19 2) []
      [(Instr.sliceAt 33 v (some (.int .i64 24)) Option.none Option.none, cutv v 24 bs.length)] hW2 (by kernel_rfl) trivial ⟨fun w3 _ => r.sem_cutL (k := 24) (by omega) w3, trivial⟩ ?_
    intro w3 hW3 hS3
    have r3 : Rd w3 v bs := r.keep0 hW3.keep
    refine (number_any (r3.cut (l := 24) (h := bs.length) (by omega) (Nat.le_refl _)) (by simp; omega)).mono ?_
    rintro e w4 ⟨rfl, k4⟩
    refine ⟨_, rfl, ?_⟩
    rw [n4_cut (k := 24) (by omega)]
    refine go_ret (gt := fun _ => Option.none) (unroll := true) 60 [] [.cell 2 39, .tmp 3] (.tuple #[.agg (rkA (bn bs 7) (n4 bs 14) (n4 bs 24) (sub6 bs 8) (sub6 bs 18)), .int .i64 0]) [] [] (hW3.later k4) Tryd.results14 (by kernel_rfl) trivial trivial ?_
    intro w5 hW5 hS5
    exact ⟨by rw [e1, e2], hW5.keep⟩

theorem get_long (r : Rd w v bs) (h28 : 28 ≤ bs.length) : Calls Tryd.prog 14 #[v] w (gPost w bs) := by
  refine enter (args := [v]) Tryd.func14 (by kernel_rfl) ?_
  refine go_stop (gt := fun _ => Option.none) (unroll := false) 60 (gHs bs) gTs (gVs v w.heap.size 0) (gRows w.heap.size z15) gTg (atL gB 6)
    [(.bool (decide ((bs.length : Int) < 28)), .bool false)] [(Builtin.len_ #[33] 3 #[v], .int .i64 (bs.length : Int))] (Wst.start0 w) (by kernel_rfl) ⟨congrArg Value.bool (by simp; omega), trivial⟩ ⟨fun _ _ => r.run_len (ty := 3) bt.sl, trivial⟩ ?_
  intro w1 hW1 hS1
  refine loop_ok (x := loopOf (atL gB 6)) (k := (atL gB 6).tail) (gL v w.heap.size) (gJ w bs) (fun _ _ => by kernel_rfl) ?_ 7 w1 ⟨by omega, hW1, rfl⟩
  intro j w' hJ
  cases j with
  | succ j => exact get_round r h28 j w' hJ
  | zero =>
    obtain ⟨_, hW, hsame⟩ := hJ
    simp only [Nat.sub_zero] at hsame
    have r' := fun w2 (k : Keep No w' w2) => r.keep0 (hW.keep.trans k)
    have rw' : ∀ w2, (∀ k, Safe ⟨gRows w.heap.size z15, w'.heap.size⟩ k → w2.heap[k]? = w'.heap[k]?) → Rd w2 v bs := fun w2 h => r.walk hW h
    have hb : ∀ (x : UInt8) (b : Bool), (byteAt bs 7 == x) = b → (bn bs 7 != (x.toNat : Int)) = !b := by
      intro x b h
      cases b with
      | true => have : byteAt bs 7 = x := by simpa using h
                simp [bn, this]
      | false =>
        have h1 : ¬ byteAt bs 7 = x := by simpa using h
        have : ¬ (bn bs 7 = (x.toNat : Int)) := fun e => h1 (by apply UInt8.toNat_inj.1; have e' : ((byteAt bs 7).toNat : Int) = (x.toNat : Int) := e; omega)
        simpa using this
    unfold gL
    cases h1 : byteAt bs 7 == 1 with
    | true =>
      have hok : rOk bs = true := by simp [rOk, hsame, h1]
      refine go_stop (gt := fun _ => Option.none) (unroll := false) 60 [(6, 1, .is (.bool false)), (10, 1, .sem (.pointer (some (adr v 7)))), (10, 2, .sem (bv (byteAt bs 7))), (10, 3, .is (.bool false)), (12, 0, .stop)] gTs (gVs v w.heap.size 7) (gRows w.heap.size z15) gTg (opsR gB 12)
        [(.bool (decide (((7 : Nat) : Int) < 7)), .bool false), (.bool (bn bs 7 != 1), .bool false)]
        [(Instr.indexAt 33 v (.int .i64 7), .pointer (some (adr v 7))), (Instr.loadAt 5 (.pointer (some (adr v 7))), bv (byteAt bs 7))] hW (by kernel_rfl)
        ⟨rfl, congrArg Value.bool (hb 1 _ h1), trivial⟩ ⟨fun w2 _ => r.sem_at (i := 7) (by omega) w2, fun w2 h => (rw' w2 h).sem_ld (i := 7) (by omega), trivial⟩ ?_
      intro w2 hW2 _
      exact get_tail r h28 hok w2 hW2
    | false =>
      cases h2 : byteAt bs 7 == 2 with
      | true =>
        have hok : rOk bs = true := by simp [rOk, hsame, h2]
        refine go_stop (gt := fun _ => Option.none) (unroll := false) 60 [(6, 1, .is (.bool false)), (10, 1, .sem (.pointer (some (adr v 7)))), (10, 2, .sem (bv (byteAt bs 7))), (10, 3, .is (.bool true)), (10, 6, .sem (.pointer (some (adr v 7)))), (10, 7, .sem (bv (byteAt bs 7))), (10, 8, .is (.bool false)), (12, 0, .stop)] gTs (gVs v w.heap.size 7) (gRows w.heap.size z15) gTg (opsR gB 12)
          [(.bool (decide (((7 : Nat) : Int) < 7)), .bool false), (.bool (bn bs 7 != 1), .bool true), (.bool (bn bs 7 != 2), .bool false)]
          [(Instr.indexAt 33 v (.int .i64 7), .pointer (some (adr v 7))), (Instr.loadAt 5 (.pointer (some (adr v 7))), bv (byteAt bs 7)), (Instr.indexAt 33 v (.int .i64 7), .pointer (some (adr v 7))), (Instr.loadAt 5 (.pointer (some (adr v 7))), bv (byteAt bs 7))] hW (by kernel_rfl)
          ⟨rfl, congrArg Value.bool (hb 1 _ h1), congrArg Value.bool (hb 2 _ h2), trivial⟩ ⟨fun w2 _ => r.sem_at (i := 7) (by omega) w2, fun w2 h => (rw' w2 h).sem_ld (i := 7) (by omega), fun w2 _ => r.sem_at (i := 7) (by omega) w2, fun w2 h => (rw' w2 h).sem_ld (i := 7) (by omega), trivial⟩ ?_
        intro w2 hW2 _
        exact get_tail r h28 hok w2 hW2
      | false =>
        have hok : rOk bs = false := by simp [rOk, hsame, h1, h2]
        have e1 : rgetV bs = rkA 0 0 0 [] [] := if_neg (by rw [hok]; simp)
        have e2 : rgetE bs = 5 := by rw [rgetE, if_neg (by omega), hok]; simp
        refine go_ret (gt := fun _ => Option.none) (unroll := false) 60 [(6, 1, .is (.bool false)), (10, 1, .sem (.pointer (some (adr v 7)))), (10, 2, .sem (bv (byteAt bs 7))), (10, 3, .is (.bool true)), (10, 6, .sem (.pointer (some (adr v 7)))), (10, 7, .sem (bv (byteAt bs 7))), (10, 8, .is (.bool true))]
          [.cell 2 39, .tmp 3] (.tuple #[.agg (rkA 0 0 0 [] []), .int .i64 5])
          [(.bool (decide (((7 : Nat) : Int) < 7)), .bool false), (.bool (bn bs 7 != 1), .bool true), (.bool (bn bs 7 != 2), .bool true)]
          [(Instr.indexAt 33 v (.int .i64 7), .pointer (some (adr v 7))), (Instr.loadAt 5 (.pointer (some (adr v 7))), bv (byteAt bs 7)), (Instr.indexAt 33 v (.int .i64 7), .pointer (some (adr v 7))), (Instr.loadAt 5 (.pointer (some (adr v 7))), bv (byteAt bs 7))] hW Tryd.results14 (by kernel_rfl)
          ⟨rfl, congrArg Value.bool (hb 1 _ h1), congrArg Value.bool (hb 2 _ h2), trivial⟩ ⟨fun w2 _ => r.sem_at (i := 7) (by omega) w2, fun w2 h => (rw' w2 h).sem_ld (i := 7) (by omega), fun w2 _ => r.sem_at (i := 7) (by omega) w2, fun w2 h => (rw' w2 h).sem_ld (i := 7) (by omega), trivial⟩ ?_
        intro w2 hW2 _
        exact ⟨by rw [e1, e2], hW2.keep⟩

theorem refget_any (r : Rd w v bs) : Calls Tryd.prog 14 #[v] w (gPost w bs) := by
  by_cases h : bs.length < 28
  · exact get_short r h
  · exact get_long r (by omega)
end
end Go.Proofs.YtpididcghilbjaaDoor
