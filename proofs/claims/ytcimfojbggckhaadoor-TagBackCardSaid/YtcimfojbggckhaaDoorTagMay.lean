/-
  slices.Contains of the kinds, tag's May of a tag and of tags. Condition: the kinds are as they were laid.
-/
import Derived.Test.YtcimfojbggckhaaDoorTagSl
namespace Go.Proofs.YtcimfojbggckhaaDoor
open Go.RowKit

/-- v reads as the numbers ks. -/
def Ks (w : World) (v : Value) (ks : List Int) : Prop := Sl 1 w v ks.length fun i => .int .u16 (ks.getD i 0)
section
variable {w : World} {v : Value} {ks : List Int}
theorem Ks.keep0 {w' : World} (r : Ks w v ks) (k : Keep No w w') : Ks w' v ks := Sl.keep0 r k
theorem Ks.sem_len (r : Ks w v ks) (wx : World) : (Builtin.len_ #[89] 3 #[v]).run Tryd.prog wx = .ok (.int .i64 (ks.length : Int)) wx := Sl.run_len r Tryd.underlying89
theorem Ks.sem_at (r : Ks w v ks) {i : Nat} (hi : i < ks.length) (wx : World) : (Instr.indexAt 89 v (.int .i64 (i : Int))).run Tryd.prog wx = .ok (.pointer (some (adr v i))) wx := by
  have := Sl.run_at (P := Tryd.prog) (w' := wx) r Tryd.underlying89 (show (Tryd.prog.info? 55).map (·.size) = some 1 by kernel_rfl) (k := .i64) (i := (i : Int)) (by omega) (by omega)
  simpa using this
theorem Ks.sem_ld (r : Ks w v ks) {i : Nat} (hi : i < ks.length) : (Instr.loadAt 55 (.pointer (some (adr v i)))).run Tryd.prog w = .ok (.int .u16 (ks.getD i 0)) w := by
  have hc := r.cell i (by omega)
  have hu := run_underlying (P := Tryd.prog) (w := w) Tryd.underlying55
  simp [Instr.loadAt, Instr.sureAddr, loadVar, isAgg, hu, load, Sem.run, hc]
def idxR (ks : List Int) (k : Int) : Int := match ks with
  | [a] => if k == a then 0 else -1
  | [a, b] => if k == a then 0 else if k == b then 1 else -1
  | _ => 0
noncomputable abbrev ixF : Func := Tryd.f65
theorem index1 {a : Int} (r : Ks w v [a]) (k : Int) : Calls Tryd.prog 65 #[v, .int .u16 k] w fun x w' => x = .returned (.int .i64 (idxR [a] k)) ∧ Keep No w w' := by
  refine enter (args := [v, .int .u16 k]) Tryd.func65 (by kernel_rfl) ?_
  unfold idxR
  have rk : ∀ wx, (∀ k, Safe ⟨[], w.heap.size⟩ k → wx.heap[k]? = w.heap[k]?) → Ks wx v [a] := fun wx h => ⟨r.shape, fun j hj => by
    have hc := r.cell j hj
    rw [← hc]
    exact World.cell?_of_block (h _ ⟨World.block_lt_of_cell? w _ hc, fun _ h => nomatch h⟩)⟩
  cases h : (k == a) with
  | true =>
    exact go_ret (gt := fun _ => Option.none) (unroll := true) 60 [(1, 1, .sem (.int .i64 1)), (4, 3, .sem (.pointer (some (adr v 0)))), (4, 4, .sem (.int .u16 a)), (4, 5, .is (.bool true))] [.tmp 4] (.int .i64 0)
      [(.bool (k == a), .bool true)] [(Builtin.len_ #[89] 3 #[v], .int .i64 1), (Instr.indexAt 89 v (.int .i64 0), .pointer (some (adr v 0))), (Instr.loadAt 55 (.pointer (some (adr v 0))), .int .u16 a)]
      (Wst.start0 w) Tryd.results65 (by kernel_rfl) ⟨by rw [h], trivial⟩ ⟨fun wx _ => r.sem_len wx, fun wx _ => r.sem_at (i := 0) (by simp) wx, fun wx hx => (rk wx hx).sem_ld (i := 0) (by simp), trivial⟩ (fun w' hW _ => ⟨by simp only [h]; rfl, hW.keep⟩)
  | false =>
    exact go_ret (gt := fun _ => Option.none) (unroll := true) 60 [(1, 1, .sem (.int .i64 1)), (4, 3, .sem (.pointer (some (adr v 0)))), (4, 4, .sem (.int .u16 a)), (4, 5, .is (.bool false))] [.tmp 4] (.int .i64 (-1))
      [(.bool (k == a), .bool false)] [(Builtin.len_ #[89] 3 #[v], .int .i64 1), (Instr.indexAt 89 v (.int .i64 0), .pointer (some (adr v 0))), (Instr.loadAt 55 (.pointer (some (adr v 0))), .int .u16 a)]
      (Wst.start0 w) Tryd.results65 (by kernel_rfl) ⟨by rw [h], trivial⟩ ⟨fun wx _ => r.sem_len wx, fun wx _ => r.sem_at (i := 0) (by simp) wx, fun wx hx => (rk wx hx).sem_ld (i := 0) (by simp), trivial⟩ (fun w' hW _ => ⟨by simp only [h]; rfl, hW.keep⟩)
theorem index2 {a b : Int} (r : Ks w v [a, b]) (k : Int) : Calls Tryd.prog 65 #[v, .int .u16 k] w fun x w' => x = .returned (.int .i64 (idxR [a, b] k)) ∧ Keep No w w' := by
  refine enter (args := [v, .int .u16 k]) Tryd.func65 (by kernel_rfl) ?_
  unfold idxR
  have rk : ∀ wx, (∀ k, Safe ⟨[], w.heap.size⟩ k → wx.heap[k]? = w.heap[k]?) → Ks wx v [a, b] := fun wx h => ⟨r.shape, fun j hj => by
    have hc := r.cell j hj
    rw [← hc]
    exact World.cell?_of_block (h _ ⟨World.block_lt_of_cell? w _ hc, fun _ h => nomatch h⟩)⟩
  cases h : (k == a) with
  | true =>
    exact go_ret (gt := fun _ => Option.none) (unroll := true) 60 [(1, 1, .sem (.int .i64 2)), (4, 3, .sem (.pointer (some (adr v 0)))), (4, 4, .sem (.int .u16 a)), (4, 5, .is (.bool true))] [.tmp 4] (.int .i64 0)
      [(.bool (k == a), .bool true)] [(Builtin.len_ #[89] 3 #[v], .int .i64 2), (Instr.indexAt 89 v (.int .i64 0), .pointer (some (adr v 0))), (Instr.loadAt 55 (.pointer (some (adr v 0))), .int .u16 a)]
      (Wst.start0 w) Tryd.results65 (by kernel_rfl) ⟨by rw [h], trivial⟩ ⟨fun wx _ => r.sem_len wx, fun wx _ => r.sem_at (i := 0) (by simp) wx, fun wx hx => (rk wx hx).sem_ld (i := 0) (by simp), trivial⟩ (fun w' hW _ => ⟨by simp only [h]; rfl, hW.keep⟩)
  | false =>
    cases h2 : (k == b) with
    | true =>
      exact go_ret (gt := fun _ => Option.none) (unroll := true) 200 [(1, 1, .sem (.int .i64 2)), (4, 3, .sem (.pointer (some (adr v 0)))), (4, 4, .sem (.int .u16 a)), (4, 5, .is (.bool false)), (4, 3, .sem (.pointer (some (adr v 1)))), (4, 4, .sem (.int .u16 b)), (4, 5, .is (.bool true))] [.tmp 4] (.int .i64 1)
        [(.bool (k == a), .bool false), (.bool (k == b), .bool true)] [(Builtin.len_ #[89] 3 #[v], .int .i64 2), (Instr.indexAt 89 v (.int .i64 0), .pointer (some (adr v 0))), (Instr.loadAt 55 (.pointer (some (adr v 0))), .int .u16 a), (Instr.indexAt 89 v (.int .i64 1), .pointer (some (adr v 1))), (Instr.loadAt 55 (.pointer (some (adr v 1))), .int .u16 b)]
        (Wst.start0 w) Tryd.results65 (by kernel_rfl) ⟨by rw [h], by rw [h2], trivial⟩ ⟨fun wx _ => r.sem_len wx, fun wx _ => r.sem_at (i := 0) (by simp) wx, fun wx hx => (rk wx hx).sem_ld (i := 0) (by simp), fun wx _ => r.sem_at (i := 1) (by simp) wx, fun wx hx => (rk wx hx).sem_ld (i := 1) (by simp), trivial⟩ (fun w' hW _ => ⟨by simp only [h, h2]; rfl, hW.keep⟩)
    | false =>
      exact go_ret (gt := fun _ => Option.none) (unroll := true) 200 [(1, 1, .sem (.int .i64 2)), (4, 3, .sem (.pointer (some (adr v 0)))), (4, 4, .sem (.int .u16 a)), (4, 5, .is (.bool false)), (4, 3, .sem (.pointer (some (adr v 1)))), (4, 4, .sem (.int .u16 b)), (4, 5, .is (.bool false))] [.tmp 4] (.int .i64 (-1))
        [(.bool (k == a), .bool false), (.bool (k == b), .bool false)] [(Builtin.len_ #[89] 3 #[v], .int .i64 2), (Instr.indexAt 89 v (.int .i64 0), .pointer (some (adr v 0))), (Instr.loadAt 55 (.pointer (some (adr v 0))), .int .u16 a), (Instr.indexAt 89 v (.int .i64 1), .pointer (some (adr v 1))), (Instr.loadAt 55 (.pointer (some (adr v 1))), .int .u16 b)]
        (Wst.start0 w) Tryd.results65 (by kernel_rfl) ⟨by rw [h], by rw [h2], trivial⟩ ⟨fun wx _ => r.sem_len wx, fun wx _ => r.sem_at (i := 0) (by simp) wx, fun wx hx => (rk wx hx).sem_ld (i := 0) (by simp), fun wx _ => r.sem_at (i := 1) (by simp) wx, fun wx hx => (rk wx hx).sem_ld (i := 1) (by simp), trivial⟩ (fun w' hW _ => ⟨by simp only [h, h2]; rfl, hW.keep⟩)
/-- The kinds that may stand behind so many. -/
def kindsL : Nat → List Int | 0 => [34984, 33024] | 1 => [33024] | _ => []
theorem contains_any {i : Nat} (hi : i < 2) (r : Ks w v (kindsL i)) (k : Int) : Calls Tryd.prog 50 #[v, .int .u16 k] w fun x w' => x = .returned (.bool ((kindsL i).contains k)) ∧ Keep No w w' := by
  have hix : ∀ w1, Keep No w w1 → Calls Tryd.prog 65 #[v, .int .u16 k] w1 fun x w' => x = .returned (.int .i64 (idxR (kindsL i) k)) ∧ Keep No w1 w' := fun w1 kp => by
    match i, hi, r with
    | 0, _, r => exact index2 (r.keep0 kp) k
    | 1, _, r => exact index1 (r.keep0 kp) k
  have hb : decide (idxR (kindsL i) k ≥ 0) = (kindsL i).contains k := by
    match i, hi with
    | 0, _ =>
      simp only [kindsL, idxR, List.contains_cons, List.contains_nil, Bool.or_false]
      cases (k == 34984) <;> cases (k == 33024) <;> simp
    | 1, _ =>
      simp only [kindsL, idxR, List.contains_cons, List.contains_nil, Bool.or_false]
      cases (k == 33024) <;> simp
  generalize idxR (kindsL i) k = n at *
  refine enter (args := [v, .int .u16 k]) Tryd.func50 (by kernel_rfl) ?_
  refine go_call_is (gt := fun _ => Option.none) (unroll := true) 60 [] 65 [v, .int .u16 k] [] [] 7 [] [] (inR (bodyOf Tryd.f50) 1 2) [] [] (Wst.start0 w) (by kernel_rfl) trivial trivial ?_
  intro w1 hW1 _
  refine (hix w1 hW1.keep).mono ?_
  rintro x w2 ⟨rfl, k2⟩
  refine ⟨_, rfl, ?_⟩
  exact go_ret (gt := fun _ => Option.none) (unroll := true) 60 [(1, 3, .is (.bool ((kindsL i).contains k)))] [.tmp 4] (.bool ((kindsL i).contains k)) [(.bool (decide (n ≥ 0)), .bool ((kindsL i).contains k))] [] (hW1.later k2) Tryd.results50 (by kernel_rfl) ⟨congrArg Value.bool hb, trivial⟩ trivial (fun w' hW _ => ⟨rfl, hW.keep⟩)
end

/-- The kinds, as they were laid. -/
def Kh (w : World) : Prop := ∃ v0 v1, w.cell? ⟨0, 0, none⟩ = some v0 ∧ w.cell? ⟨0, 1, none⟩ = some v1 ∧ Ks w v0 (kindsL 0) ∧ Ks w v1 (kindsL 1)
theorem Kh.keep0 {w w' : World} (h : Kh w) (k : Keep No w w') : Kh w' := by
  obtain ⟨v0, v1, c0, c1, k0, k1⟩ := h
  exact ⟨v0, v1, k.cell c0 (fun f => f), k.cell c1 (fun f => f), k0.keep0 k, k1.keep0 k⟩
theorem sem_ldk {w : World} {i : Nat} {v : Value} (hc : w.cell? ⟨0, i, none⟩ = some v) : (Instr.loadAt 89 (.pointer (some ⟨0, i, none⟩))).run Tryd.prog w = .ok v w := by
  have hu := run_underlying (P := Tryd.prog) (w := w) Tryd.underlying89
  simp [Instr.loadAt, Instr.sureAddr, loadVar, isAgg, hu, load, Sem.run, hc]
def mayT (t : Tg) : Bool := (kindsL 0).contains (t.k : Int) && decide ((t.p : Int) < 8) && decide ((t.v : Int) ≤ 4095)
theorem maytag_any {w : World} (hk : Kh w) (t : Tg) : Calls Tryd.prog 27 #[.agg t.a] w fun x w' => x = .returned (.bool (mayT t)) ∧ Keep No w w' := by
  obtain ⟨v0, v1, c0, c1, k0, k1⟩ := hk
  obtain ⟨k, p, d, x⟩ := t
  refine enter (args := [.agg (tgA k p d x)]) Tryd.func27 (by kernel_rfl) ?_
  refine go_call_is (gt := fun _ => Option.none) (unroll := true) 60 [(1, 1, .sem v0)] 50 [v0, .int .u16 k] [1] [.pointer (some ⟨w.heap.size, 0, none⟩)] 7 [⟨w.heap.size, (tgA k p d x).toList, true⟩] [(1, 0)] (inR (bodyOf Tryd.f27) 1 4) []
    [(Instr.loadAt 89 (.pointer (some ⟨0, 0, none⟩)), v0)] (Wst.start0 w) (by kernel_rfl) trivial ⟨fun wx hx => sem_ldk ?_, trivial⟩ ?_
  · rw [← c0]
    exact World.cell?_of_block (hx _ ⟨World.block_lt_of_cell? w _ c0, fun _ h => nomatch h⟩)
  intro w1 hW1 _
  refine (contains_any (i := 0) (by omega) (k0.keep0 hW1.keep) k).mono ?_
  rintro e w2 ⟨rfl, k2⟩
  refine ⟨_, rfl, ?_⟩
  unfold mayT
  simp only
  have hW2 := hW1.later k2
  cases (kindsL 0).contains k with
  | false => exact go_ret (gt := fun _ => Option.none) (unroll := true) 60 [] [.tmp 2] (.bool false) [] [] hW2 Tryd.results27 (by kernel_rfl) trivial trivial (fun w' hW _ => ⟨rfl, hW.keep⟩)
  | true =>
    cases hp : decide ((p : Int) < 8) with
    | false => exact go_ret (gt := fun _ => Option.none) (unroll := true) 60 [(1, 8, .is (.bool false))] [.tmp 2] (.bool false) [(.bool (decide ((p : Int) < 8)), .bool false)] [] hW2 Tryd.results27 (by kernel_rfl) ⟨by rw [hp], trivial⟩ trivial (fun w' hW _ => ⟨rfl, hW.keep⟩)
    | true => exact go_ret (gt := fun _ => Option.none) (unroll := true) 60 [(1, 8, .is (.bool true))] [.tmp 2] (.bool (decide ((x : Int) ≤ 4095))) [(.bool (decide ((p : Int) < 8)), .bool true)] [] hW2 Tryd.results27 (by kernel_rfl) ⟨by rw [hp], trivial⟩ trivial (fun w' hW _ => ⟨by simp, hW.keep⟩)

theorem ett : ET Tryd.prog 24 57 where
  sl := Tryd.underlying24
  st := ⟨_, Tryd.underlying57, rfl⟩
  info := by
    have h : (Tryd.prog.info? 57).map (fun i => (i.size, i.bytes, i.zero)) = some (4, 6, some (.agg (tgA 0 0 false 0))) := by kernel_rfl
    cases hi : Tryd.prog.info? 57 with
    | none => rw [hi] at h; cases h
    | some i => rw [hi] at h; simp at h; exact ⟨i, .agg (tgA 0 0 false 0), rfl, h.1, h.2.1, h.2.2, rfl⟩

def mayFrom : Nat → List Tg → Bool | _, [] => true | i, t :: l => decide (i < 2) && mayT t && (kindsL i).contains (t.k : Int) && mayFrom (i + 1) l
def mayL (l : List Tg) : Bool := mayFrom 0 l
noncomputable abbrev mC : Code := bodyOf Tryd.f22
noncomputable abbrev mN : Nat := Tryd.f22.ntmps
abbrev mQ (w : World) (l : List Tg) : Ending → World → Prop := fun x w' => x = .returned (.bool (mayL l)) ∧ Keep No w w'
noncomputable def myL (v : Value) (n j : Nat) (w' : World) : Cfg := ⟨frOf [5, 6, 7] [v, .int .i64 (n : Int), .int .i64 ((n - j : Nat) : Int)], tagL [], ⟨[], w'.heap.size⟩, atL mC 2⟩
def myJ (w : World) (l : List Tg) (j : Nat) (w' : World) : Prop := j ≤ l.length ∧ Wst w ⟨[], w'.heap.size⟩ w' ∧ mayL l = mayFrom (l.length - j) (l.drop (l.length - j))
noncomputable def myR (w : World) (v : Value) (l : List Tg) (j : Nat) : Act → World → Prop := fun a' w' => ∃ j', j' < j ∧ myJ w l j' w' ∧ agrees mN (myL v l.length j' w') a'
section
variable {w : World} {v : Value} {l : List Tg}
theorem may_round (r : Rt w v l) (hk : Kh w) (j : Nat) (w' : World) (hJ : myJ w l (j + 1) w') :
    Goal Tryd.prog (bodyPost Tryd.prog Tryd.f22 (mQ w l)) mN { myL v l.length (j + 1) w' with todo := .code (loopOf (atL mC 2)) :: .inv (myR w v l (j + 1)) :: (atL mC 2).tail } w' := by
  obtain ⟨hj, hW, hm⟩ := hJ
  unfold myL
  have hi : l.length - (j + 1) < l.length := by omega
  have hnext : l.length - (j + 1) + 1 = l.length - j := by omega
  generalize hI : l.length - (j + 1) = i at *
  have hc : (i : Int) < (l.length : Int) := by omega
  rw [List.drop_eq_getElem_cons hi] at hm
  have r' := r.keep0 hW.keep
  have hld : ∀ wx, (∀ k, Safe ⟨[], w'.heap.size⟩ k → wx.heap[k]? = w'.heap[k]?) → Rt wx v l := fun wx hx => r.walk hW hx
  have sl : SemObs Tryd.prog ⟨[], w'.heap.size⟩ w' [(Instr.indexAt 24 v (.int .i64 (i : Int)), .pointer (some (adt v i))), (Instr.loadAt 57 (.pointer (some (adt v i))), .agg (l[i]).a)] :=
    ⟨fun wx _ => r.sem_at ett hi wx, fun wx hx => (hld wx hx).sem_ld ett hi, trivial⟩
  generalize l[i] = t at *
  obtain ⟨k, p, d, x⟩ := t
  obtain ⟨v0, v1, c0, c1, k0, k1⟩ := hk.keep0 hW.keep
  refine go_stop (gt := fun _ => Option.none) (unroll := false) 60 [(2, 0, .is (.bool true)), (3, 1, .sem (.pointer (some (adt v i)))), (3, 2, .sem (.agg (tgA k p d x)))] [3, 4, 5, 6, 7] [.int .i64 (i : Int), .pointer (some ⟨w'.heap.size, 0, Option.none⟩), v, .int .i64 (l.length : Int), .int .i64 (i : Int)]
    [⟨w'.heap.size, (tgA k p d x).toList, true⟩] [(4, 0)] (atR mC 4 (.inv (myR w v l (j + 1)))) [(.bool (decide ((i : Int) < (l.length : Int))), .bool true)]
    [(Instr.indexAt 24 v (.int .i64 (i : Int)), .pointer (some (adt v i))), (Instr.loadAt 57 (.pointer (some (adt v i))), .agg (tgA k p d x))] hW (by kernel_rfl) ⟨congrArg Value.bool (by simpa using hc), trivial⟩ sl ?_
  intro w1 hW1 hS1
  have hs1 : ∀ {a : Addr} {u : Value}, w'.cell? a = some u → (∃ b o, a = ⟨b, o, none⟩) → w1.cell? a = some u := fun {a u} hc _ => by
    rw [← hc]
    exact World.cell?_of_block (hS1.same _ ⟨World.block_lt_of_cell? w' _ hc, fun _ h => nomatch h⟩)
  have hkk : ∀ {u : Value} {ks : List Int}, Ks w' u ks → Ks w1 u ks := fun r => ⟨r.shape, fun j hj => hs1 (r.cell j hj) ⟨_, _, rfl⟩⟩
  have c0 := hs1 c0 ⟨_, _, rfl⟩
  have c1 := hs1 c1 ⟨_, _, rfl⟩
  have k0 := hkk k0
  have k1 := hkk k1
  have hk1 : Kh w1 := ⟨v0, v1, c0, c1, k0, k1⟩
  have cm : CallOb Tryd.prog w1 27 [.is (.agg (tgA k p d x))] (.is (.bool (mayT ⟨k, p, d, x⟩))) := CallOb.of1 fun w8 kp => maytag_any (hk1.keep0 kp) ⟨k, p, d, x⟩
  by_cases h2 : 2 ≤ i
  · have e2 : decide ((i : Int) ≥ 2) = true := by simp; omega
    refine drawn_ok (gt := fun _ => Option.none) [(1, .is (.bool true))] [27] [.is (.bool true)] [(.bool (decide ((i : Int) ≥ 2)), .bool true)] [] [] [] [] hW1 (by kernel_rfl) (by kernel_rfl) ⟨congrArg Value.bool e2, trivial⟩ trivial trivial trivial trivial ?_
    intro w2 vs k2 hv
    match vs, hv with
    | [y], hy =>
    obtain rfl : y = .bool true := hy.1
    refine go_ret (gt := fun _ => Option.none) (unroll := false) 60 [] [.tmp 2] (.bool false) [] [] (hW1.later k2) Tryd.results22 (by kernel_rfl) trivial trivial (fun w9 hW9 _ => ⟨?_, hW9.keep⟩)
    rw [hm]
    simp [mayFrom, show ¬ i < 2 by omega]
  by_cases i0 : i = 0
  · subst i0
    have ck : CallOb Tryd.prog w1 50 [.is v0, .is (.int .u16 k)] (.is (.bool ((kindsL 0).contains k))) := by
      rintro w8 vals kp ha
      match vals, ha with
      | [y, z], hy =>
        obtain rfl : y = _ := hy.1
        obtain rfl : z = _ := hy.2.1
        exact (contains_any (i := 0) (by omega) (k0.keep0 kp) k).mono fun e w9 ⟨h1, h2⟩ => ⟨_, h1, h2, rfl⟩
    have sk : SemObsE Tryd.prog w1 [(Instr.loadAt 89 (.pointer (some ⟨0, 0, none⟩)), v0)] := ⟨fun w8 kp => sem_ldk (kp.cell c0 (fun f => f)), trivial⟩
    generalize hma : mayT ⟨k, p, d, x⟩ = b at *
    generalize hco : (kindsL 0).contains k = b' at *
    cases b with
    | false =>
      refine drawn_ok (gt := fun _ => Option.none) [(4, .call (.is (.bool false)))] [27] [.is (.bool true)] [] [(27, [.is (.agg (tgA k p d x))], .is (.bool false))] [] [] [] hW1 (by kernel_rfl) (by kernel_rfl) trivial ⟨cm, trivial⟩ trivial trivial trivial ?_
      intro w2 vs k2 hv
      match vs, hv with
      | [y], hy =>
      obtain rfl : y = .bool true := hy.1
      refine go_ret (gt := fun _ => Option.none) (unroll := false) 60 [] [.tmp 2] (.bool false) [] [] (hW1.later k2) Tryd.results22 (by kernel_rfl) trivial trivial (fun w9 hW9 _ => ⟨?_, hW9.keep⟩)
      rw [hm]
      simp [mayFrom, hma]
    | true =>
    cases b' with
    | false =>
      refine drawn_ok (gt := fun _ => Option.none) [(4, .call (.is (.bool true))), (10, .sem v0), (13, .call (.is (.bool false)))] [27] [.is (.bool true)] [] [(27, [.is (.agg (tgA k p d x))], .is (.bool true)), (50, [.is v0, .is (.int .u16 k)], .is (.bool false))] [] []
        [(Instr.loadAt 89 (.pointer (some ⟨0, 0, none⟩)), v0)] hW1 (by kernel_rfl) (by kernel_rfl) trivial ⟨cm, ck, trivial⟩ trivial trivial sk ?_
      intro w2 vs k2 hv
      match vs, hv with
      | [y], hy =>
      obtain rfl : y = .bool true := hy.1
      refine go_ret (gt := fun _ => Option.none) (unroll := false) 60 [] [.tmp 2] (.bool false) [] [] (hW1.later k2) Tryd.results22 (by kernel_rfl) trivial trivial (fun w9 hW9 _ => ⟨?_, hW9.keep⟩)
      rw [hm]
      simp only [mayFrom, hco, Bool.and_false, Bool.false_and]
    | true =>
      refine drawn_ok (gt := fun _ => Option.none) [(4, .call (.is (.bool true))), (10, .sem v0), (13, .call (.is (.bool true)))] [27, 5, 6, 7] [.is (.bool false), .is v, .is (.int .i64 (l.length : Int)), .is (.int .i64 (0 : Int))] [] [(27, [.is (.agg (tgA k p d x))], .is (.bool true)), (50, [.is v0, .is (.int .u16 k)], .is (.bool true))] [] []
        [(Instr.loadAt 89 (.pointer (some ⟨0, 0, none⟩)), v0)] hW1 (by kernel_rfl) (by kernel_rfl) trivial ⟨cm, ck, trivial⟩ trivial trivial sk ?_
      intro w2 vs k2 hv
      obtain rfl := allOk_is (vs := [.bool false, v, .int .i64 (l.length : Int), .int .i64 (0 : Int)]) hv
      refine go_inv (gt := fun _ => Option.none) (unroll := false) 60 [] [5, 6, 7] [v, .int .i64 (l.length : Int), .int .i64 (1 : Int)] [⟨w'.heap.size, (tgA k p d x).toList, true⟩] (myR w v l (j + 1)) [] [] (hW1.later k2) (by kernel_rfl) trivial trivial ?_
      intro w5 a hW5 hS5 hs
      refine ⟨j, by omega, ⟨by omega, hW5.fewer (rows := []), ?_⟩, ?_⟩
      · rw [hm, ← hnext]
        show (decide (0 < 2) && mayT ⟨k, p, d, x⟩ && (kindsL 0).contains k && _) = _
        rw [hma, hco]
        rfl
      · unfold myL
        rw [← hnext]
        exact hs
  · obtain rfl : i = 1 := by omega
    have ck : CallOb Tryd.prog w1 50 [.is v1, .is (.int .u16 k)] (.is (.bool ((kindsL 1).contains k))) := by
      rintro w8 vals kp ha
      match vals, ha with
      | [y, z], hy =>
        obtain rfl : y = _ := hy.1
        obtain rfl : z = _ := hy.2.1
        exact (contains_any (i := 1) (by omega) (k1.keep0 kp) k).mono fun e w9 ⟨h1, h2⟩ => ⟨_, h1, h2, rfl⟩
    have sk : SemObsE Tryd.prog w1 [(Instr.loadAt 89 (.pointer (some ⟨0, 1, none⟩)), v1)] := ⟨fun w8 kp => sem_ldk (kp.cell c1 (fun f => f)), trivial⟩
    generalize hma : mayT ⟨k, p, d, x⟩ = b at *
    generalize hco : (kindsL 1).contains k = b' at *
    cases b with
    | false =>
      refine drawn_ok (gt := fun _ => Option.none) [(4, .call (.is (.bool false)))] [27] [.is (.bool true)] [] [(27, [.is (.agg (tgA k p d x))], .is (.bool false))] [] [] [] hW1 (by kernel_rfl) (by kernel_rfl) trivial ⟨cm, trivial⟩ trivial trivial trivial ?_
      intro w2 vs k2 hv
      match vs, hv with
      | [y], hy =>
      obtain rfl : y = .bool true := hy.1
      refine go_ret (gt := fun _ => Option.none) (unroll := false) 60 [] [.tmp 2] (.bool false) [] [] (hW1.later k2) Tryd.results22 (by kernel_rfl) trivial trivial (fun w9 hW9 _ => ⟨?_, hW9.keep⟩)
      rw [hm]
      simp [mayFrom, hma]
    | true =>
    cases b' with
    | false =>
      refine drawn_ok (gt := fun _ => Option.none) [(4, .call (.is (.bool true))), (10, .sem v1), (13, .call (.is (.bool false)))] [27] [.is (.bool true)] [] [(27, [.is (.agg (tgA k p d x))], .is (.bool true)), (50, [.is v1, .is (.int .u16 k)], .is (.bool false))] [] []
        [(Instr.loadAt 89 (.pointer (some ⟨0, 1, none⟩)), v1)] hW1 (by kernel_rfl) (by kernel_rfl) trivial ⟨cm, ck, trivial⟩ trivial trivial sk ?_
      intro w2 vs k2 hv
      match vs, hv with
      | [y], hy =>
      obtain rfl : y = .bool true := hy.1
      refine go_ret (gt := fun _ => Option.none) (unroll := false) 60 [] [.tmp 2] (.bool false) [] [] (hW1.later k2) Tryd.results22 (by kernel_rfl) trivial trivial (fun w9 hW9 _ => ⟨?_, hW9.keep⟩)
      rw [hm]
      simp only [mayFrom, hco, Bool.and_false, Bool.false_and]
    | true =>
      refine drawn_ok (gt := fun _ => Option.none) [(4, .call (.is (.bool true))), (10, .sem v1), (13, .call (.is (.bool true)))] [27, 5, 6, 7] [.is (.bool false), .is v, .is (.int .i64 (l.length : Int)), .is (.int .i64 (1 : Int))] [] [(27, [.is (.agg (tgA k p d x))], .is (.bool true)), (50, [.is v1, .is (.int .u16 k)], .is (.bool true))] [] []
        [(Instr.loadAt 89 (.pointer (some ⟨0, 1, none⟩)), v1)] hW1 (by kernel_rfl) (by kernel_rfl) trivial ⟨cm, ck, trivial⟩ trivial trivial sk ?_
      intro w2 vs k2 hv
      obtain rfl := allOk_is (vs := [.bool false, v, .int .i64 (l.length : Int), .int .i64 (1 : Int)]) hv
      refine go_inv (gt := fun _ => Option.none) (unroll := false) 60 [] [5, 6, 7] [v, .int .i64 (l.length : Int), .int .i64 (2 : Int)] [⟨w'.heap.size, (tgA k p d x).toList, true⟩] (myR w v l (j + 1)) [] [] (hW1.later k2) (by kernel_rfl) trivial trivial ?_
      intro w5 a hW5 hS5 hs
      refine ⟨j, by omega, ⟨by omega, hW5.fewer (rows := []), ?_⟩, ?_⟩
      · rw [hm, ← hnext]
        show (decide (1 < 2) && mayT ⟨k, p, d, x⟩ && (kindsL 1).contains k && _) = _
        rw [hma, hco]
        rfl
      · unfold myL
        rw [← hnext]
        exact hs
theorem may_any (r : Rt w v l) (hk : Kh w) : Calls Tryd.prog 22 #[v] w (mQ w l) := by
  refine enter (args := [v]) Tryd.func22 (by kernel_rfl) ?_
  refine go_stop (gt := fun _ => Option.none) (unroll := false) 60 [(1, 1, .sem (.int .i64 (l.length : Int)))] [5, 6, 7] [v, .int .i64 (l.length : Int), .int .i64 0] [] [] (atL mC 2) [] [(Builtin.len_ #[24] 3 #[v], .int .i64 (l.length : Int))]
    (Wst.start0 w) (by kernel_rfl) trivial ⟨fun wx _ => r.sem_len ett (ty := 3) wx, trivial⟩ ?_
  intro w1 hW1 _
  have key := loop_ok (P := Tryd.prog) (Q := bodyPost Tryd.prog Tryd.f22 (mQ w l)) (n := mN) (x := loopOf (atL mC 2)) (k := (atL mC 2).tail) (myL v l.length) (myJ w l) (fun _ _ => by kernel_rfl) ?_ l.length w1 ⟨Nat.le_refl _, hW1, by simp [mayL]⟩
  · unfold myL at key
    rw [Nat.sub_self] at key
    exact key
  intro j w' hJ
  cases j with
  | succ j => exact may_round r hk j w' hJ
  | zero =>
  obtain ⟨_, hW, hm⟩ := hJ
  rw [Nat.sub_zero, List.drop_length] at hm
  unfold myL
  refine go_ret (gt := fun _ => Option.none) (unroll := false) 60 [(2, 0, .is (.bool false))] [.tmp 2] (.bool true) [(.bool (decide (((l.length - 0 : Nat) : Int) < (l.length : Int))), .bool false)] [] hW Tryd.results22 (by kernel_rfl) ⟨congrArg Value.bool (by simp), trivial⟩ trivial (fun w9 hW9 _ => ⟨by rw [hm]; rfl, hW9.keep⟩)
end
end Go.Proofs.YtcimfojbggckhaaDoor
