/-
  tag's begins and Read. Condition: the kinds are as they were laid; at most 2^40 bytes.
-/
import Derived.Test.YtcimfojbggckhaaDoorTagOf
import Derived.Test.YtcimfojbggckhaaDoorNum16
import Derived.Test.YtcimfojbggckhaaDoorObj
namespace Go.Proofs.YtcimfojbggckhaaDoor
open Go.RowKit

/-- Do bytes begin with a kind that may stand behind so many? -/
def begB (cs : List UInt8) (n : Nat) : Bool := decide (2 ≤ cs.length) && (decide (n < 2) && (kindsL n).contains ((be (cs.take 2) : Nat) : Int))
def begK (cs : List UInt8) (n : Nat) : Nat := if 2 ≤ cs.length ∧ n < 2 then be (cs.take 2) else 0
abbrev bgQ (w : World) (cs : List UInt8) (n : Nat) : Ending → World → Prop := fun x w' => x = .returned (.tuple #[.int .u16 (begK cs n), .bool (begB cs n)]) ∧ Keep No w w'
noncomputable abbrev bgC : Code := bodyOf Tryd.f59
section
variable {w : World} {v : Value} {cs : List UInt8}
theorem kh_walk {w0 w1 w2 : World} {m : Mem} (h : Kh w0) (hW : Wst w0 m w1) (hs : ∀ k, Safe m k → w2.heap[k]? = w1.heap[k]?) : Kh w2 := by
  obtain ⟨v0, v1, c0, c1, k0, k1⟩ := h.keep0 hW.keep
  have hx := h
  obtain ⟨u0, u1, d0, d1, l0, l1⟩ := hx
  have hlt : ∀ b, b < w0.heap.size → Safe m b := fun b hb => ⟨by have := hW.keep.size; rw [← hW.size]; omega, fun q hq ho => by have := hW.own q hq ho; omega⟩
  have hc : ∀ {a : Addr} {u : Value}, w0.cell? a = some u → w2.cell? a = some u := fun {a u} hc => by
    rw [← hW.keep.cell hc (fun f => f)]
    exact World.cell?_of_block (hs _ (hlt _ (World.block_lt_of_cell? w0 _ hc)))
  exact ⟨u0, u1, hc d0, hc d1, ⟨l0.shape, fun j hj => hc (l0.cell j hj)⟩, ⟨l1.shape, fun j hj => hc (l1.cell j hj)⟩⟩
theorem begins0 (r : Rd w v cs) (h2 : 2 ≤ cs.length) (hl : cs.length ≤ 1099511627776) (hk : Kh w) : Calls Tryd.prog 59 #[v, .int .i64 0] w (bgQ w cs 0) := by
  have e1 : begK cs 0 = be (cs.take 2) := if_pos ⟨h2, by omega⟩
  have e2 : begB cs 0 = (kindsL 0).contains ((be (cs.take 2) : Nat) : Int) := by simp only [begB, decide_eq_true h2, Bool.true_and]; rfl
  refine enter (args := [v, .int .i64 0]) Tryd.func59 (by kernel_rfl) ?_
  refine go_call_is (gt := fun _ => Option.none) (unroll := true) 60 [(1, 1, .sem (.int .i64 (cs.length : Int))), (1, 2, .is (.bool false)), (3, 1, .sem (cutv v 0 2))] 60 [cutv v 0 2] [1] [.int .i64 0] 16 [] [] (inR bgC 3 2)
    [(.bool (decide ((cs.length : Int) < 2)), .bool false)] [(Builtin.len_ #[26] 3 #[v], .int .i64 (cs.length : Int)), (Instr.sliceAt 26 v Option.none (some (.int .i64 2)) Option.none, cutv v 0 2)]
    (Wst.start0 w) (by kernel_rfl) ⟨congrArg Value.bool (by simp; omega), trivial⟩ ⟨fun wx _ => r.run_len (ty := 3) bt.sl, fun wx _ => r.sem_cutH (k := 2) h2 wx, trivial⟩ ?_
  intro w1 hW1 _
  have r1 : Rd w1 (cutv v 0 2) (cs.take 2) := by simpa using ((r.keep0 hW1.keep).cut (l := 0) (h := 2) (Nat.zero_le _) h2)
  refine (new_any r1 (by simp; omega)).mono ?_
  rintro x w2 ⟨p, sv, rfl, hcu, k2, hp, hsv⟩
  refine ⟨_, rfl, ?_⟩
  have hW2 := hW1.later k2
  refine go_call_is (gt := fun _ => Option.none) (unroll := true) 60 [] 61 [.pointer (some ⟨p, 0, none⟩)] [1] [.int .i64 0] 17 [] [] (inR bgC 3 3) [] [] hW2 (by kernel_rfl) trivial trivial ?_
  intro w3 hW3 hS3
  have hcu3 : Cu w3 p sv (cs.take 2) 0 0 := hcu.walk (rows := []) (fun _ h => nomatch h) hS3 hW3
  refine (two_any hcu3).mono ?_
  rintro x w4 ⟨rfl, _, k4⟩
  refine ⟨_, rfl, ?_⟩
  have e3 : takeB (cs.take 2) 0 0 2 = cs.take 2 := by
    rw [takeB, if_pos ⟨rfl, by omega, by simp; omega⟩]
    simp [List.take_take]
  rw [e3]
  have hW4 := hW3.laterS k4 (fun k hk => ⟨by rw [show k = p from hk]; exact Nat.le_trans hW1.keep.size hp, fun _ h => nomatch h⟩)
  obtain ⟨v0, v1, c0, c1, k0, k1⟩ := hk.keep0 hW4.keep
  refine go_call_is (gt := fun _ => Option.none) (unroll := true) 60 [(4, 3, .sem v0)] 50 [v0, .int .u16 (be (cs.take 2) : Nat)] [18] [.int .u16 (be (cs.take 2) : Nat)] 23 [] [] (inR bgC 4 5) []
    [(Instr.loadAt 89 (.pointer (some ⟨0, 0, none⟩)), v0)] hW4 (by kernel_rfl) trivial ⟨fun wx hx => sem_ldk ?_, trivial⟩ ?_
  · rw [← c0]
    exact World.cell?_of_block (hx _ ⟨World.block_lt_of_cell? w4 _ c0, fun _ h => nomatch h⟩)
  intro w5 hW5 hS5
  have kx : Ks w5 v0 (kindsL 0) := ⟨k0.shape, fun j hj => by
    have hc := k0.cell j hj
    rw [← hc]
    exact World.cell?_of_block (hS5.same _ ⟨World.block_lt_of_cell? w4 _ hc, fun _ h => nomatch h⟩)⟩
  refine (contains_any (i := 0) (by omega) kx _).mono ?_
  rintro x w6 ⟨rfl, k6⟩
  refine ⟨_, rfl, ?_⟩
  rw [← e2]
  exact go_ret (gt := fun _ => Option.none) (unroll := true) 60 [] [.tmp 4, .tmp 5] (.tuple #[.int .u16 (be (cs.take 2) : Nat), .bool (begB cs 0)]) [] [] (hW5.later k6) Tryd.results59 (by kernel_rfl) trivial trivial (fun w9 hW9 _ => ⟨by rw [e1], hW9.keep⟩)
theorem begins1 (r : Rd w v cs) (h2 : 2 ≤ cs.length) (hl : cs.length ≤ 1099511627776) (hk : Kh w) : Calls Tryd.prog 59 #[v, .int .i64 1] w (bgQ w cs 1) := by
  have e1 : begK cs 1 = be (cs.take 2) := if_pos ⟨h2, by omega⟩
  have e2 : begB cs 1 = (kindsL 1).contains ((be (cs.take 2) : Nat) : Int) := by simp only [begB, decide_eq_true h2, Bool.true_and]; rfl
  refine enter (args := [v, .int .i64 1]) Tryd.func59 (by kernel_rfl) ?_
  refine go_call_is (gt := fun _ => Option.none) (unroll := true) 60 [(1, 1, .sem (.int .i64 (cs.length : Int))), (1, 2, .is (.bool false)), (3, 1, .sem (cutv v 0 2))] 60 [cutv v 0 2] [1] [.int .i64 1] 16 [] [] (inR bgC 3 2)
    [(.bool (decide ((cs.length : Int) < 2)), .bool false)] [(Builtin.len_ #[26] 3 #[v], .int .i64 (cs.length : Int)), (Instr.sliceAt 26 v Option.none (some (.int .i64 2)) Option.none, cutv v 0 2)]
    (Wst.start0 w) (by kernel_rfl) ⟨congrArg Value.bool (by simp; omega), trivial⟩ ⟨fun wx _ => r.run_len (ty := 3) bt.sl, fun wx _ => r.sem_cutH (k := 2) h2 wx, trivial⟩ ?_
  intro w1 hW1 _
  have r1 : Rd w1 (cutv v 0 2) (cs.take 2) := by simpa using ((r.keep0 hW1.keep).cut (l := 0) (h := 2) (Nat.zero_le _) h2)
  refine (new_any r1 (by simp; omega)).mono ?_
  rintro x w2 ⟨p, sv, rfl, hcu, k2, hp, hsv⟩
  refine ⟨_, rfl, ?_⟩
  have hW2 := hW1.later k2
  refine go_call_is (gt := fun _ => Option.none) (unroll := true) 60 [] 61 [.pointer (some ⟨p, 0, none⟩)] [1] [.int .i64 1] 17 [] [] (inR bgC 3 3) [] [] hW2 (by kernel_rfl) trivial trivial ?_
  intro w3 hW3 hS3
  have hcu3 : Cu w3 p sv (cs.take 2) 0 0 := hcu.walk (rows := []) (fun _ h => nomatch h) hS3 hW3
  refine (two_any hcu3).mono ?_
  rintro x w4 ⟨rfl, _, k4⟩
  refine ⟨_, rfl, ?_⟩
  have e3 : takeB (cs.take 2) 0 0 2 = cs.take 2 := by
    rw [takeB, if_pos ⟨rfl, by omega, by simp; omega⟩]
    simp [List.take_take]
  rw [e3]
  have hW4 := hW3.laterS k4 (fun k hk => ⟨by rw [show k = p from hk]; exact Nat.le_trans hW1.keep.size hp, fun _ h => nomatch h⟩)
  obtain ⟨v0, v1, c0, c1, k0, k1⟩ := hk.keep0 hW4.keep
  refine go_call_is (gt := fun _ => Option.none) (unroll := true) 60 [(4, 3, .sem v1)] 50 [v1, .int .u16 (be (cs.take 2) : Nat)] [18] [.int .u16 (be (cs.take 2) : Nat)] 23 [] [] (inR bgC 4 5) []
    [(Instr.loadAt 89 (.pointer (some ⟨0, 1, none⟩)), v1)] hW4 (by kernel_rfl) trivial ⟨fun wx hx => sem_ldk ?_, trivial⟩ ?_
  · rw [← c1]
    exact World.cell?_of_block (hx _ ⟨World.block_lt_of_cell? w4 _ c1, fun _ h => nomatch h⟩)
  intro w5 hW5 hS5
  have kx : Ks w5 v1 (kindsL 1) := ⟨k1.shape, fun j hj => by
    have hc := k1.cell j hj
    rw [← hc]
    exact World.cell?_of_block (hS5.same _ ⟨World.block_lt_of_cell? w4 _ hc, fun _ h => nomatch h⟩)⟩
  refine (contains_any (i := 1) (by omega) kx _).mono ?_
  rintro x w6 ⟨rfl, k6⟩
  refine ⟨_, rfl, ?_⟩
  rw [← e2]
  exact go_ret (gt := fun _ => Option.none) (unroll := true) 60 [] [.tmp 4, .tmp 5] (.tuple #[.int .u16 (be (cs.take 2) : Nat), .bool (begB cs 1)]) [] [] (hW5.later k6) Tryd.results59 (by kernel_rfl) trivial trivial (fun w9 hW9 _ => ⟨by rw [e1], hW9.keep⟩)
theorem begins_any (r : Rd w v cs) {n : Nat} (hn : n ≤ 2) (hl : cs.length ≤ 1099511627776) (hk : Kh w) : Calls Tryd.prog 59 #[v, .int .i64 (n : Int)] w (bgQ w cs n) := by
  by_cases h2 : 2 ≤ cs.length
  · match n, hn with
    | 0, _ => exact begins0 r h2 hl hk
    | 1, _ => exact begins1 r h2 hl hk
    | 2, _ =>
      have e1 : begK cs 2 = 0 := if_neg (by omega)
      have e2 : begB cs 2 = false := by simp [begB]
      refine enter (args := [v, .int .i64 2]) Tryd.func59 (by kernel_rfl) ?_
      refine go_ret (gt := fun _ => Option.none) (unroll := true) 60 [(1, 1, .sem (.int .i64 (cs.length : Int))), (1, 2, .is (.bool false))] [.tmp 4, .tmp 5] (.tuple #[.int .u16 0, .bool false])
        [(.bool (decide ((cs.length : Int) < 2)), .bool false)] [(Builtin.len_ #[26] 3 #[v], .int .i64 (cs.length : Int))] (Wst.start0 w) Tryd.results59 (by kernel_rfl)
        ⟨congrArg Value.bool (by simp; omega), trivial⟩ ⟨fun wx _ => r.run_len (ty := 3) bt.sl, trivial⟩ (fun w9 hW9 _ => ⟨by rw [e1, e2]; rfl, hW9.keep⟩)
  · have e1 : begK cs n = 0 := if_neg (by omega)
    have e2 : begB cs n = false := by simp [begB, h2]
    refine enter (args := [v, .int .i64 (n : Int)]) Tryd.func59 (by kernel_rfl) ?_
    refine go_ret (gt := fun _ => Option.none) (unroll := true) 60 [(1, 1, .sem (.int .i64 (cs.length : Int))), (1, 2, .is (.bool true))] [.tmp 4, .tmp 5] (.tuple #[.int .u16 0, .bool false])
      [(.bool (decide ((cs.length : Int) < 2)), .bool true)] [(Builtin.len_ #[26] 3 #[v], .int .i64 (cs.length : Int))] (Wst.start0 w) Tryd.results59 (by kernel_rfl)
      ⟨congrArg Value.bool (by simp; omega), trivial⟩ ⟨fun wx _ => r.run_len (ty := 3) bt.sl, trivial⟩ (fun w9 hW9 _ => ⟨by rw [e1, e2]; rfl, hW9.keep⟩)
end
end Go.Proofs.YtcimfojbggckhaaDoor
