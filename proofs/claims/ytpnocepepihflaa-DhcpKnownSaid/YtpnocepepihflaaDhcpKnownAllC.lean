/-
  dhcp's Get: what it tells; its end. Condition: at most a million bytes.
-/
import Derived.Test.YtpnocepepihflaaDhcpKnownAllB
import Derived.Laws.OwnMore
namespace Go.Proofs.Ytpnocepepihflaa
open Go.RowKit

section
variable {w : World} {p : Nat} {sv : Value} {bs : List UInt8} {at_ : Nat} {e : Int}
set_option maxHeartbeats 1000000 in
theorem ip_any (h : Cu w p sv bs at_ e) : Calls Try.prog 39 #[pT p] w fun x w' => x = .returned (.int .u32 (be (takeB bs at_ e 4) : Nat)) ∧ Cu w' p sv bs (takeA bs at_ e 4) (takeE bs at_ e 4) ∧ Keep (One p) w w' := by
  go_enter Try.func39, Try.ntmps39
  go_wp2_with (go_at_call 28; refine (four_any h).mono ?_; rintro x w1 ⟨rfl, hcu, hkp⟩)
  go_ret
  exact ⟨rfl, hcu, hkp⟩
end
/-- So many bytes from a place on. -/
def sub (bs : List UInt8) (a n : Nat) : List UInt8 := (bs.drop a).take n
def mz : Mh := ⟨0, 0, 0, 0, 0, 0, 0, 0, 0, [], [], [], []⟩
def getH (bs : List UInt8) : Mh := ⟨byteAt bs 0, byteAt bs 3, be (sub bs 4 4), be (sub bs 8 2), be (sub bs 10 2), be (sub bs 12 4), be (sub bs 16 4), be (sub bs 20 4), be (sub bs 24 4), sub bs 28 6, sub bs 34 10, sub bs 44 64, sub bs 108 128⟩
/-- What Get tells. -/
def getR (bs : List UInt8) : Option (Mh × (List Opt × List UInt8)) × Nat :=
  if bs.length < 240 then (none, 4) else if (byteAt bs 0 == 1 || byteAt bs 0 == 2) = false then (none, 5) else if be (sub bs 1 2) ≠ 262 then (none, 5) else if be (sub bs 236 4) ≠ 1669485411 then (none, 5) else
  match optR (bs.length - 240 + 2) (bs.drop 240) with
  | none => (none, 4)
  | some y => (some (getH bs, y), 0)
/-- A message that was got. -/
def MsgN (N : Nat) (w : World) (x : Value) (r : Option (Mh × (List Opt × List UInt8))) : Prop :=
  match r with
  | none => x = .agg (mz.a nilV nilV)
  | some y => ∃ (z b : Sb) (es : List Oe), x = .agg (y.1.a z.v b.v) ∧ es.map Oe.o = y.2.1 ∧ NewO N w z.v es ∧ NewB N w b.v y.2.2
abbrev dgQ (w : World) (r : Option (Mh × (List Opt × List UInt8)) × Nat) : Ending → World → Prop := fun x w' => ∃ v, x = .returned (.tuple #[v, .int .i64 (r.2 : Int)]) ∧ Keep No w w' ∧ MsgN w.heap.size w' v r.1
noncomputable abbrev dgC : Code := bodyOf Try.f14
noncomputable abbrev dgN : Nat := Try.f14.ntmps
theorem take_at {bs : List UInt8} {a n : Nat} (h : a + n ≤ bs.length) : takeB bs a 0 (n : Int) = sub bs a n ∧ takeA bs a 0 (n : Int) = a + n ∧ takeE bs a 0 (n : Int) = 0 := take_full h
theorem sub_one {bs : List UInt8} {a : Nat} (h : a < bs.length) : be (sub bs a 1) = (byteAt bs a).toNat := by
  have e : sub bs a 1 = [byteAt bs a] := by
    unfold sub
    rw [List.drop_eq_getElem_cons h, byteAt_eq h]
    rfl
  rw [e]
  simp [be]
abbrev dgRow (w : World) (m : Mh) : List RowS := [⟨w.heap.size, (mz.a nilV nilV).toList, true⟩, ⟨w.heap.size + 1, (m.a nilV nilV).toList, true⟩]
section
variable {w w0 : World} {p : Nat} {sv : Value} {bs : List UInt8} {M : Mh}
abbrev dgR0 (w : World) : List RowS := [⟨w.heap.size, (mz.a nilV nilV).toList, true⟩]
set_option maxRecDepth 8000 in
theorem dg_tail (hM : M = getH bs) (h240 : 240 ≤ bs.length) (hl : bs.length ≤ 1000000) (hp : w.heap.size + 1 < p) (hsv : Since (w.heap.size + 2) sv) (hW : Wst w ⟨dgRow w M, w0.heap.size⟩ w0) (cu : Cu w0 p sv bs 236 0) :
    Goal Try.prog (bodyPost Try.prog Try.f14 (dgQ w (getR bs))) dgN ⟨frOf [2, 3, 4, 5, 6] [pT w.heap.size, .int .i64 0, pT (w.heap.size + 1), pT p, .int .u16 (be (sub bs 1 2) : Nat)], tagL [(2, 0), (4, 1)], ⟨dgRow w M, w0.heap.size⟩, afterR dgC 12⟩ w0 := by
  have hop : M.op = byteAt bs 0 := by rw [hM]; rfl
  have hrow : ∀ (x y : List Value), ∀ r ∈ ([⟨w.heap.size, x, true⟩, ⟨w.heap.size + 1, y, true⟩] : List RowS), r.own = true → r.b ≠ p ∧ sv.ownBlock ≠ some r.b := fun x y r hr _ => by
    simp only [List.mem_cons, List.not_mem_nil, or_false] at hr
    rcases hr with rfl | rfl
    · exact ⟨fun e => by have : w.heap.size = p := e; omega, fun e => by have := hsv _ e; have : w.heap.size + 2 ≤ w.heap.size := this; omega⟩
    · exact ⟨fun e => by have : w.heap.size + 1 = p := e; omega, fun e => by have := hsv _ e; have : w.heap.size + 2 ≤ w.heap.size + 1 := this; omega⟩
  have hlo : ∀ {wx : World} (x y : List Value), Loose w ⟨[⟨w.heap.size, x, true⟩, ⟨w.heap.size + 1, y, true⟩], wx.heap.size⟩ (One p) := fun x y k hk => ⟨by rw [show k = p from hk]; omega, fun r hr => by rw [show k = p from hk]; exact (hrow x y r hr (by simp only [List.mem_cons, List.not_mem_nil, or_false] at hr; rcases hr with rfl | rfl <;> rfl)).1⟩
  have eR : getR bs = if (byteAt bs 0 == 1 || byteAt bs 0 == 2) = false then (none, 5) else if be (sub bs 1 2) ≠ 262 then (none, 5) else if be (sub bs 236 4) ≠ 1669485411 then (none, 5) else
      match optR (bs.length - 240 + 2) (bs.drop 240) with
      | none => (none, 4)
      | some y => (some (getH bs, y), 0) := if_neg (by omega)
  refine go_call_is (gt := fun _ => Option.none) (unroll := false) 60 [] 29 [.agg (M.a nilV nilV)] [2, 3, 4, 5, 6] [pT w.heap.size, .int .i64 0, pT (w.heap.size + 1), pT p, .int .u16 (be (sub bs 1 2) : Nat)] 61 (dgRow w M) [(2, 0), (4, 1)] (inR dgC 13 1) [] [] hW (by kernel_rfl) trivial trivial ?_
  intro w1 hW1 hS1
  have cu := cu.walk (hrow _ _) hS1 hW1
  refine (mmay_any (m := M) (so := ⟨none, 0, 0⟩) (sb := ⟨none, 0, 0⟩)).mono ?_
  rintro x w2 ⟨rfl, k2⟩
  refine ⟨_, rfl, ?_⟩
  have hW2 := hW1.later k2
  have cu := cu.keep0 k2
  rw [hop]
  cases h1 : (byteAt bs 0 == 1 || byteAt bs 0 == 2) with
  | false =>
    rw [eR, if_pos h1]
    exact go_ret (gt := fun _ => Option.none) (unroll := false) 60 [] [.cell 2 35, .tmp 3] (.tuple #[.agg (mz.a nilV nilV), .int .i64 5]) [] [] hW2 Try.results14 (by kernel_rfl) trivial trivial (fun w9 hW9 _ => ⟨_, rfl, hW9.keep, rfl⟩)
  | true =>
  rw [if_neg (by rw [h1]; simp)] at eR
  by_cases h2 : be (sub bs 1 2) = 262
  case neg =>
    have e2 : (((be (sub bs 1 2) : Nat) : Int) != 262) = true := by simp; omega
    rw [eR, if_pos h2]
    exact go_ret (gt := fun _ => Option.none) (unroll := false) 60 [(13, 5, .is (.bool true))] [.cell 2 35, .tmp 3] (.tuple #[.agg (mz.a nilV nilV), .int .i64 5]) [(.bool (((be (sub bs 1 2) : Nat) : Int) != 262), .bool true)] [] hW2 Try.results14 (by kernel_rfl) ⟨congrArg Value.bool e2, trivial⟩ trivial (fun w9 hW9 _ => ⟨_, rfl, hW9.keep, rfl⟩)
  rw [if_neg (by simp [h2])] at eR
  have e2 : (((be (sub bs 1 2) : Nat) : Int) != 262) = false := by simp; omega
  refine go_call_is (gt := fun _ => Option.none) (unroll := false) 60 [(13, 5, .is (.bool false))] 28 [pT p] [2, 3, 4, 5, 67] [pT w.heap.size, .int .i64 0, pT (w.heap.size + 1), pT p, .bool false] 69 (dgRow w M) [(2, 0), (4, 1)] (inR dgC 13 9) [(.bool (((be (sub bs 1 2) : Nat) : Int) != 262), .bool false)] [] hW2 (by kernel_rfl) ⟨congrArg Value.bool e2, trivial⟩ trivial ?_
  intro w3 hW3 hS3
  have cu := cu.walk (hrow _ _) hS3 hW3
  refine (four_any cu).mono ?_
  rintro x w4 ⟨rfl, cu, k4⟩
  refine ⟨_, rfl, ?_⟩
  have hW4 := hW3.laterS k4 (hlo _ _)
  obtain ⟨s1, s2, s3⟩ := take_at (bs := bs) (a := 236) (n := 4) (by omega)
  rw [show takeA bs 236 0 4 = 240 from s2, show takeE bs 236 0 4 = 0 from s3] at cu
  rw [show takeB bs 236 0 4 = sub bs 236 4 from s1]
  by_cases h3 : be (sub bs 236 4) = 1669485411
  case neg =>
    have e3 : (((be (sub bs 236 4) : Nat) : Int) != 1669485411) = true := by simp; omega
    rw [eR, if_pos h3]
    exact go_ret (gt := fun _ => Option.none) (unroll := false) 60 [(13, 10, .is (.bool true))] [.cell 2 35, .tmp 3] (.tuple #[.agg (mz.a nilV nilV), .int .i64 5]) [(.bool (((be (sub bs 236 4) : Nat) : Int) != 1669485411), .bool true)] [] hW4 Try.results14 (by kernel_rfl) ⟨congrArg Value.bool e3, trivial⟩ trivial (fun w9 hW9 _ => ⟨_, rfl, hW9.keep, rfl⟩)
  rw [if_neg (by simp [h3])] at eR
  have e3 : (((be (sub bs 236 4) : Nat) : Int) != 1669485411) = false := by simp; omega
  refine go_call_is (gt := fun _ => Option.none) (unroll := false) 60 [(13, 10, .is (.bool false))] 42 [pT (w.heap.size + 1), pT p] [2, 3, 4, 5] [pT w.heap.size, .int .i64 0, pT (w.heap.size + 1), pT p] 74 (dgRow w M) [(2, 0), (4, 1)] (inR dgC 15 1) [(.bool (((be (sub bs 236 4) : Nat) : Int) != 1669485411), .bool false)] [] hW4 (by kernel_rfl) ⟨congrArg Value.bool e3, trivial⟩ trivial ?_
  intro w5 hW5 hS5
  have cu := cu.walk (hrow _ _) hS5 hW5
  have hWq : Wst w ⟨doRow (w.heap.size + 1) M ⟨none, 0, 0⟩, w5.heap.size⟩ w5 := ⟨rfl, fun r hr => hW5.rows r (by obtain rfl := List.mem_singleton.1 hr; simp), by simp, fun r hr ho => hW5.own r (by obtain rfl := List.mem_singleton.1 hr; simp) ho, hW5.keep⟩
  have hWb : Wst w ⟨dgR0 w, w5.heap.size⟩ w5 := hW5.fewer (rows := dgR0 w) (more := [⟨w.heap.size + 1, (M.a nilV nilV).toList, true⟩])
  have h5 := hW5.keep.size
  have hq5 : w.heap.size + 1 < w5.heap.size := by obtain ⟨t, ht⟩ := hWq.rows _ (List.mem_singleton.2 rfl); exact block_of_row ht
  refine (options_any (W := w) (m := M) (by omega) (by omega) (by omega) (fun e => by have := hsv _ e; omega) hl hWq cu).mono ?_
  rintro x w6 ⟨rfl, k6, a, hres⟩
  refine ⟨_, rfl, ?_⟩
  have hW6 : Wst w ⟨dgR0 w, w6.heap.size⟩ w6 := hWb.laterS k6 (fun k hk => ⟨by rcases hk with h | h <;> omega, fun r hr => by
    obtain rfl := List.mem_singleton.1 hr
    show w.heap.size ≠ k
    rcases hk with h | h <;> omega⟩)
  have hrow0 : ∀ r ∈ dgR0 w, r.own = true → r.b ≠ p ∧ sv.ownBlock ≠ some r.b := fun r hr ho => hrow (mz.a nilV nilV).toList (M.a nilV nilV).toList r (by obtain rfl := List.mem_singleton.1 hr; simp) ho
  cases hr : optR (bs.length - 240 + 2) (bs.drop 240) with
  | none =>
    rw [hr] at hres eR
    rw [eR]
    have cu6 : Cu w6 p sv bs a 4 := hres
    refine Goal.re (tags := tagL [(2, 0)]) (m := ⟨dgR0 w, w6.heap.size⟩) ?_
    refine go_call_is (gt := fun _ => Option.none) (unroll := false) 60 [] 43 [pT p] [2, 3, 5] [pT w.heap.size, .int .i64 0, pT p] 76 (dgR0 w) [(2, 0)] (inR dgC 16 1) [] [] hW6 (by kernel_rfl) trivial trivial ?_
    intro w7 hW7 hS7
    have cu7 := cu6.walk hrow0 hS7 hW7
    refine (err_any cu7).mono ?_
    rintro x w8 ⟨rfl, rfl⟩
    refine ⟨_, rfl, ?_⟩
    refine go_call_is (gt := fun _ => Option.none) (unroll := false) 60 [] 43 [pT p] [2, 78] [pT w.heap.size, .agg (mz.a nilV nilV)] 80 (dgR0 w) [(2, 0)] (inR dgC 17 2) [] [] hW7 (by kernel_rfl) trivial trivial ?_
    intro w9 hW9 hS9
    have cu9 := cu7.walk hrow0 hS9 hW9
    refine (err_any cu9).mono ?_
    rintro x wa ⟨rfl, rfl⟩
    refine ⟨_, rfl, ?_⟩
    exact go_ret (gt := fun _ => Option.none) (unroll := false) 60 [] [.cell 2 35, .tmp 3] (.tuple #[.agg (mz.a nilV nilV), .int .i64 4]) [] [] hW9 Try.results14 (by kernel_rfl) trivial trivial (fun w9 hW9 _ => ⟨_, rfl, hW9.keep, rfl⟩)
  | some y =>
    rw [hr] at hres eR
    obtain ⟨cu6, z, b, es, hWm, hes, hno, hnb⟩ := hres
    rw [eR]
    obtain ⟨tt, hrr⟩ := hWm.rows _ (List.mem_singleton.2 rfl)
    have hW6' : Wst w ⟨[⟨w.heap.size, (mz.a nilV nilV).toList, true⟩, ⟨w.heap.size + 1, (M.a z.v b.v).toList, true⟩], w6.heap.size⟩ w6 := hW6.addRow hrr (by show w.heap.size ≤ w.heap.size + 1; omega) (fun r hr => by obtain rfl := List.mem_singleton.1 hr; show w.heap.size ≠ w.heap.size + 1; omega)
    refine Goal.re (tags := tagL [(2, 0), (4, 1)]) (m := ⟨[⟨w.heap.size, (mz.a nilV nilV).toList, true⟩, ⟨w.heap.size + 1, (M.a z.v b.v).toList, true⟩], w6.heap.size⟩) ?_
    refine go_call_is (gt := fun _ => Option.none) (unroll := false) 60 [] 43 [pT p] [2, 3, 4] [pT w.heap.size, .int .i64 0, pT (w.heap.size + 1)] 76 [⟨w.heap.size, (mz.a nilV nilV).toList, true⟩, ⟨w.heap.size + 1, (M.a z.v b.v).toList, true⟩] [(2, 0), (4, 1)] (inR dgC 16 1) [] [] hW6' (by kernel_rfl) trivial trivial ?_
    intro w7 hW7 hS7
    have cu7 := cu6.walk (hrow _ _) hS7 hW7
    refine (err_any cu7).mono ?_
    rintro x w8 ⟨rfl, rfl⟩
    refine ⟨_, rfl, ?_⟩
    refine go_ret (gt := fun _ => Option.none) (unroll := false) 60 [] [.cell 2 35, .tmp 3] (.tuple #[.agg (M.a z.v b.v), .int .i64 0]) [] [] hW7 Try.results14 (by kernel_rfl) trivial trivial ?_
    intro w9 hW9 hS9
    have sf : ∀ {v : Value} {wx : World}, Since w5.heap.size v → Under wx.heap.size v → ∀ b', v.ownBlock = some b' → Safe ⟨[⟨w.heap.size, (mz.a nilV nilV).toList, true⟩, ⟨w.heap.size + 1, (M.a z.v b.v).toList, true⟩], wx.heap.size⟩ b' := fun hs hu b' hb => ⟨hu b' hb, fun r hr _ => by
      have := hs b' hb
      simp only [List.mem_cons, List.not_mem_nil, or_false] at hr
      rcases hr with rfl | rfl
      · show w.heap.size ≠ b'; omega
      · show w.heap.size + 1 ≠ b'; omega⟩
    have nb : ∀ {v : Value} {l : List UInt8}, NewB w5.heap.size w6 v l → NewB w.heap.size w9 v l := fun h => by
      have h7 : Rd w7 _ _ := h.rd.safe (sf h.si h.un) hS7.same
      have u7 := h.un.mono hS7.le
      exact ⟨h7.safe (sf h.si u7) hS9.same, h.si.mono h5, by rw [hW9.size]; exact u7.mono hS9.le⟩
    have r7 : Ro false w7 z.v es := hno.ro.safe (sf hno.si hno.un) hS7.same
    have u7 := hno.un.mono hS7.le
    refine ⟨_, rfl, hW9.keep, z, b, es, by rw [hM], hes, ⟨r7.safe (sf hno.si u7) hS9.same, hno.si.mono h5, by rw [hW9.size]; exact u7.mono hS9.le, fun e he => nb (hno.each e he)⟩, nb hnb⟩
end
end Go.Proofs.Ytpnocepepihflaa
namespace Go.Proofs.Ytpnocepepihflaa
open Go.RowKit

section
variable {w : World} {v : Value} {bs : List UInt8}
set_option maxRecDepth 8000 in
theorem dget_any (r : Rd w v bs) (hl : bs.length ≤ 1000000) : Calls Try.prog 14 #[v] w (dgQ w (getR bs)) := by
  refine enter (args := [v]) Try.func14 (by kernel_rfl) ?_
  by_cases h240 : bs.length < 240
  · have e : getR bs = (none, 4) := if_pos h240
    rw [e]
    exact go_ret (gt := fun _ => Option.none) (unroll := false) 60 [(1, 1, .sem (.int .i64 (bs.length : Int))), (1, 2, .is (.bool true))] [.cell 2 35, .tmp 3] (.tuple #[.agg (mz.a nilV nilV), .int .i64 4]) [(.bool (decide ((bs.length : Int) < 240)), .bool true)] [(Builtin.len_ #[22] 3 #[v], .int .i64 (bs.length : Int))] (Wst.start0 w) Try.results14 (by kernel_rfl)
      ⟨congrArg Value.bool (decide_eq_true (by omega)), trivial⟩ ⟨fun wx _ => r.run_len (ty := 3) bt.sl, trivial⟩ (fun w9 hW9 _ => ⟨_, rfl, hW9.keep, rfl⟩)
  refine go_call_is (gt := fun _ => Option.none) (unroll := false) 60 [(1, 1, .sem (.int .i64 (bs.length : Int))), (1, 2, .is (.bool false))] 27 [v] [2, 3, 4] [pT w.heap.size, .int .i64 0, pT (w.heap.size + 1)] 12 (dgRow w mz) [(2, 0), (4, 1)] (inR dgC 4 1) [(.bool (decide ((bs.length : Int) < 240)), .bool false)] [(Builtin.len_ #[22] 3 #[v], .int .i64 (bs.length : Int))] (Wst.start0 w) (by kernel_rfl)
    ⟨congrArg Value.bool (decide_eq_false (by omega)), trivial⟩ ⟨fun wx _ => r.run_len (ty := 3) bt.sl, trivial⟩ ?_
  intro w1 hW1 _
  have hq1 : w.heap.size + 1 < w1.heap.size := by obtain ⟨t, ht⟩ := hW1.rows ⟨w.heap.size + 1, (mz.a nilV nilV).toList, true⟩ (by simp); exact block_of_row ht
  refine (new_any (r.keep0 hW1.keep) (by omega)).mono ?_
  rintro x w2 ⟨p, sv, rfl, cu, k2, hp, hsv⟩
  refine ⟨_, rfl, ?_⟩
  have hW := hW1.later k2
  have hrow : ∀ (x y : List Value), ∀ r ∈ ([⟨w.heap.size, x, true⟩, ⟨w.heap.size + 1, y, true⟩] : List RowS), r.own = true → r.b ≠ p ∧ sv.ownBlock ≠ some r.b := fun x y r hr _ => by
    simp only [List.mem_cons, List.not_mem_nil, or_false] at hr
    rcases hr with rfl | rfl
    · exact ⟨fun e => by have : w.heap.size = p := e; omega, fun e => by have := hsv _ e; have : w1.heap.size ≤ w.heap.size := this; omega⟩
    · exact ⟨fun e => by have : w.heap.size + 1 = p := e; omega, fun e => by have := hsv _ e; have : w1.heap.size ≤ w.heap.size + 1 := this; omega⟩
  have hlo : ∀ {wx : World} (x y : List Value), Loose w ⟨[⟨w.heap.size, x, true⟩, ⟨w.heap.size + 1, y, true⟩], wx.heap.size⟩ (One p) := fun x y k hk => ⟨by rw [show k = p from hk]; omega, fun r hr => by rw [show k = p from hk]; exact (hrow x y r hr (by simp only [List.mem_cons, List.not_mem_nil, or_false] at hr; rcases hr with rfl | rfl <;> rfl)).1⟩
  have hpq : p ≠ w.heap.size + 1 := by omega
  have hsq : sv.ownBlock ≠ some (w.heap.size + 1) := fun e => by have := hsv _ e; omega
  clear hW1 k2
  refine go_call_is (gt := fun _ => Option.none) (unroll := false) 60 [] 37 [pT p] [2, 3, 4, 5] [pT w.heap.size, .int .i64 0, pT (w.heap.size + 1), pT p] 14 (dgRow w mz) [(2, 0), (4, 1)] (inR dgC 5 1) [] [] hW (by kernel_rfl) trivial trivial ?_
  intro w3 hW hS
  have cu := cu.walk (hrow _ _) hS hW
  refine (byte_any cu).mono ?_
  rintro x w4 ⟨rfl, cu, k⟩
  refine ⟨_, rfl, ?_⟩
  have hW := hW.laterS k (hlo _ _)
  clear hS k
  obtain ⟨s1, s2, s3⟩ := take_at (bs := bs) (a := 0) (n := 1) (by omega)
  rw [show takeA bs 0 0 1 = 1 from s2, show takeE bs 0 0 1 = 0 from s3] at cu
  rw [show takeB bs 0 0 1 = sub bs 0 1 from s1]
  rw [sub_one (bs := bs) (a := 0) (by omega)]
  clear s1 s2 s3
  refine go_call_is (gt := fun _ => Option.none) (unroll := false) 60 [] 38 [pT p] [2, 3, 4, 5] [pT w.heap.size, .int .i64 0, pT (w.heap.size + 1), pT p] 17 (dgRow w { mz with op := byteAt bs 0 }) [(2, 0), (4, 1)] (inR dgC 6 1) [] [] hW (by kernel_rfl) trivial trivial ?_
  intro w5 hW hS
  have cu := cu.walk (hrow _ _) hS hW
  refine (two_any cu).mono ?_
  rintro x w6 ⟨rfl, cu, k⟩
  refine ⟨_, rfl, ?_⟩
  have hW := hW.laterS k (hlo _ _)
  clear hS k
  obtain ⟨s1, s2, s3⟩ := take_at (bs := bs) (a := 1) (n := 2) (by omega)
  rw [show takeA bs 1 0 2 = 3 from s2, show takeE bs 1 0 2 = 0 from s3] at cu
  rw [show takeB bs 1 0 2 = sub bs 1 2 from s1]
  clear s1 s2 s3
  refine go_call_is (gt := fun _ => Option.none) (unroll := false) 60 [] 37 [pT p] [2, 3, 4, 5, 6] [pT w.heap.size, .int .i64 0, pT (w.heap.size + 1), pT p, .int .u16 (be (sub bs 1 2) : Nat)] 19 (dgRow w { mz with op := byteAt bs 0 }) [(2, 0), (4, 1)] (inR dgC 7 1) [] [] hW (by kernel_rfl) trivial trivial ?_
  intro w7 hW hS
  have cu := cu.walk (hrow _ _) hS hW
  refine (byte_any cu).mono ?_
  rintro x w8 ⟨rfl, cu, k⟩
  refine ⟨_, rfl, ?_⟩
  have hW := hW.laterS k (hlo _ _)
  clear hS k
  obtain ⟨s1, s2, s3⟩ := take_at (bs := bs) (a := 3) (n := 1) (by omega)
  rw [show takeA bs 3 0 1 = 4 from s2, show takeE bs 3 0 1 = 0 from s3] at cu
  rw [show takeB bs 3 0 1 = sub bs 3 1 from s1]
  rw [sub_one (bs := bs) (a := 3) (by omega)]
  clear s1 s2 s3
  refine go_call_is (gt := fun _ => Option.none) (unroll := false) 60 [] 28 [pT p] [2, 3, 4, 5, 6, 19] [pT w.heap.size, .int .i64 0, pT (w.heap.size + 1), pT p, .int .u16 (be (sub bs 1 2) : Nat), bv (byteAt bs 3)] 21 (dgRow w { mz with op := byteAt bs 0 }) [(2, 0), (4, 1)] (inR dgC 7 3) [] [] hW (by kernel_rfl) trivial trivial ?_
  intro w9 hW hS
  have cu := cu.walk (hrow _ _) hS hW
  refine (four_any cu).mono ?_
  rintro x w10 ⟨rfl, cu, k⟩
  refine ⟨_, rfl, ?_⟩
  have hW := hW.laterS k (hlo _ _)
  clear hS k
  obtain ⟨s1, s2, s3⟩ := take_at (bs := bs) (a := 4) (n := 4) (by omega)
  rw [show takeA bs 4 0 4 = 8 from s2, show takeE bs 4 0 4 = 0 from s3] at cu
  rw [show takeB bs 4 0 4 = sub bs 4 4 from s1]
  clear s1 s2 s3
  refine go_call_is (gt := fun _ => Option.none) (unroll := false) 60 [] 38 [pT p] [2, 3, 4, 5, 6, 19, 21] [pT w.heap.size, .int .i64 0, pT (w.heap.size + 1), pT p, .int .u16 (be (sub bs 1 2) : Nat), bv (byteAt bs 3), .int .u32 (be (sub bs 4 4) : Nat)] 23 (dgRow w { mz with op := byteAt bs 0 }) [(2, 0), (4, 1)] (inR dgC 7 5) [] [] hW (by kernel_rfl) trivial trivial ?_
  intro w11 hW hS
  have cu := cu.walk (hrow _ _) hS hW
  refine (two_any cu).mono ?_
  rintro x w12 ⟨rfl, cu, k⟩
  refine ⟨_, rfl, ?_⟩
  have hW := hW.laterS k (hlo _ _)
  clear hS k
  obtain ⟨s1, s2, s3⟩ := take_at (bs := bs) (a := 8) (n := 2) (by omega)
  rw [show takeA bs 8 0 2 = 10 from s2, show takeE bs 8 0 2 = 0 from s3] at cu
  rw [show takeB bs 8 0 2 = sub bs 8 2 from s1]
  clear s1 s2 s3
  refine go_call_is (gt := fun _ => Option.none) (unroll := false) 60 [] 38 [pT p] [2, 3, 4, 5, 6, 19, 21, 23] [pT w.heap.size, .int .i64 0, pT (w.heap.size + 1), pT p, .int .u16 (be (sub bs 1 2) : Nat), bv (byteAt bs 3), .int .u32 (be (sub bs 4 4) : Nat), .int .u16 (be (sub bs 8 2) : Nat)] 25 (dgRow w { mz with op := byteAt bs 0 }) [(2, 0), (4, 1)] (inR dgC 7 7) [] [] hW (by kernel_rfl) trivial trivial ?_
  intro w13 hW hS
  have cu := cu.walk (hrow _ _) hS hW
  refine (two_any cu).mono ?_
  rintro x w14 ⟨rfl, cu, k⟩
  refine ⟨_, rfl, ?_⟩
  have hW := hW.laterS k (hlo _ _)
  clear hS k
  obtain ⟨s1, s2, s3⟩ := take_at (bs := bs) (a := 10) (n := 2) (by omega)
  rw [show takeA bs 10 0 2 = 12 from s2, show takeE bs 10 0 2 = 0 from s3] at cu
  rw [show takeB bs 10 0 2 = sub bs 10 2 from s1]
  clear s1 s2 s3
  refine go_call_is (gt := fun _ => Option.none) (unroll := false) 60 [] 39 [pT p] [2, 3, 4, 5, 6] [pT w.heap.size, .int .i64 0, pT (w.heap.size + 1), pT p, .int .u16 (be (sub bs 1 2) : Nat)] 31 (dgRow w { mz with op := byteAt bs 0, hops := byteAt bs 3, xid := be (sub bs 4 4), secs := be (sub bs 8 2), flags := be (sub bs 10 2) }) [(2, 0), (4, 1)] (inR dgC 8 1) [] [] hW (by kernel_rfl) trivial trivial ?_
  intro w15 hW hS
  have cu := cu.walk (hrow _ _) hS hW
  refine (ip_any cu).mono ?_
  rintro x w16 ⟨rfl, cu, k⟩
  refine ⟨_, rfl, ?_⟩
  have hW := hW.laterS k (hlo _ _)
  clear hS k
  obtain ⟨s1, s2, s3⟩ := take_at (bs := bs) (a := 12) (n := 4) (by omega)
  rw [show takeA bs 12 0 4 = 16 from s2, show takeE bs 12 0 4 = 0 from s3] at cu
  rw [show takeB bs 12 0 4 = sub bs 12 4 from s1]
  clear s1 s2 s3
  refine go_call_is (gt := fun _ => Option.none) (unroll := false) 60 [] 39 [pT p] [2, 3, 4, 5, 6, 31] [pT w.heap.size, .int .i64 0, pT (w.heap.size + 1), pT p, .int .u16 (be (sub bs 1 2) : Nat), .int .u32 (be (sub bs 12 4) : Nat)] 33 (dgRow w { mz with op := byteAt bs 0, hops := byteAt bs 3, xid := be (sub bs 4 4), secs := be (sub bs 8 2), flags := be (sub bs 10 2) }) [(2, 0), (4, 1)] (inR dgC 8 3) [] [] hW (by kernel_rfl) trivial trivial ?_
  intro w17 hW hS
  have cu := cu.walk (hrow _ _) hS hW
  refine (ip_any cu).mono ?_
  rintro x w18 ⟨rfl, cu, k⟩
  refine ⟨_, rfl, ?_⟩
  have hW := hW.laterS k (hlo _ _)
  clear hS k
  obtain ⟨s1, s2, s3⟩ := take_at (bs := bs) (a := 16) (n := 4) (by omega)
  rw [show takeA bs 16 0 4 = 20 from s2, show takeE bs 16 0 4 = 0 from s3] at cu
  rw [show takeB bs 16 0 4 = sub bs 16 4 from s1]
  clear s1 s2 s3
  refine go_call_is (gt := fun _ => Option.none) (unroll := false) 60 [] 39 [pT p] [2, 3, 4, 5, 6, 31, 33] [pT w.heap.size, .int .i64 0, pT (w.heap.size + 1), pT p, .int .u16 (be (sub bs 1 2) : Nat), .int .u32 (be (sub bs 12 4) : Nat), .int .u32 (be (sub bs 16 4) : Nat)] 35 (dgRow w { mz with op := byteAt bs 0, hops := byteAt bs 3, xid := be (sub bs 4 4), secs := be (sub bs 8 2), flags := be (sub bs 10 2) }) [(2, 0), (4, 1)] (inR dgC 8 5) [] [] hW (by kernel_rfl) trivial trivial ?_
  intro w19 hW hS
  have cu := cu.walk (hrow _ _) hS hW
  refine (ip_any cu).mono ?_
  rintro x w20 ⟨rfl, cu, k⟩
  refine ⟨_, rfl, ?_⟩
  have hW := hW.laterS k (hlo _ _)
  clear hS k
  obtain ⟨s1, s2, s3⟩ := take_at (bs := bs) (a := 20) (n := 4) (by omega)
  rw [show takeA bs 20 0 4 = 24 from s2, show takeE bs 20 0 4 = 0 from s3] at cu
  rw [show takeB bs 20 0 4 = sub bs 20 4 from s1]
  clear s1 s2 s3
  refine go_call_is (gt := fun _ => Option.none) (unroll := false) 60 [] 39 [pT p] [2, 3, 4, 5, 6, 31, 33, 35] [pT w.heap.size, .int .i64 0, pT (w.heap.size + 1), pT p, .int .u16 (be (sub bs 1 2) : Nat), .int .u32 (be (sub bs 12 4) : Nat), .int .u32 (be (sub bs 16 4) : Nat), .int .u32 (be (sub bs 20 4) : Nat)] 37 (dgRow w { mz with op := byteAt bs 0, hops := byteAt bs 3, xid := be (sub bs 4 4), secs := be (sub bs 8 2), flags := be (sub bs 10 2) }) [(2, 0), (4, 1)] (inR dgC 8 7) [] [] hW (by kernel_rfl) trivial trivial ?_
  intro w21 hW hS
  have cu := cu.walk (hrow _ _) hS hW
  refine (ip_any cu).mono ?_
  rintro x w22 ⟨rfl, cu, k⟩
  refine ⟨_, rfl, ?_⟩
  have hW := hW.laterS k (hlo _ _)
  clear hS k
  obtain ⟨s1, s2, s3⟩ := take_at (bs := bs) (a := 24) (n := 4) (by omega)
  rw [show takeA bs 24 0 4 = 28 from s2, show takeE bs 24 0 4 = 0 from s3] at cu
  rw [show takeB bs 24 0 4 = sub bs 24 4 from s1]
  clear s1 s2 s3
  refine go_call_is (gt := fun _ => Option.none) (unroll := false) 60 [] 40 [pT p] [2, 3, 4, 5, 6] [pT w.heap.size, .int .i64 0, pT (w.heap.size + 1), pT p, .int .u16 (be (sub bs 1 2) : Nat)] 43 (dgRow w { mz with op := byteAt bs 0, hops := byteAt bs 3, xid := be (sub bs 4 4), secs := be (sub bs 8 2), flags := be (sub bs 10 2), client := be (sub bs 12 4), yours := be (sub bs 16 4), next := be (sub bs 20 4), relay := be (sub bs 24 4) }) [(2, 0), (4, 1)] (inR dgC 9 1) [] [] hW (by kernel_rfl) trivial trivial ?_
  intro w23 hW hS
  have cu := cu.walk (hrow _ _) hS hW
  refine (cmac_any cu).mono ?_
  rintro x w24 ⟨rfl, cu, k⟩
  refine ⟨_, rfl, ?_⟩
  have hW := hW.laterS k (hlo _ _)
  clear hS k
  obtain ⟨s1, s2, s3⟩ := take_at (bs := bs) (a := 28) (n := 6) (by omega)
  rw [show takeA bs 28 0 6 = 34 from s2, show takeE bs 28 0 6 = 0 from s3] at cu
  rw [show takeB bs 28 0 6 = sub bs 28 6 from s1]
  clear s1 s2 s3
  refine go_stop (gt := fun _ => Option.none) (unroll := false) 60 [] [2, 3, 4, 5, 6] [pT w.heap.size, .int .i64 0, pT (w.heap.size + 1), pT p, .int .u16 (be (sub bs 1 2) : Nat)] (dgRow w { mz with op := byteAt bs 0, hops := byteAt bs 3, xid := be (sub bs 4 4), secs := be (sub bs 8 2), flags := be (sub bs 10 2), client := be (sub bs 12 4), yours := be (sub bs 16 4), next := be (sub bs 20 4), relay := be (sub bs 24 4), station := sub bs 28 6 }) [(2, 0), (4, 1)] (atR dgC 10) [] [] hW (by kernel_rfl) trivial trivial ?_
  intro w25 hW hS
  have cu := cu.walk (hrow _ _) hS hW
  have hqr : rowM (w.heap.size + 1) (({ mz with op := byteAt bs 0, hops := byteAt bs 3, xid := be (sub bs 4 4), secs := be (sub bs 8 2), flags := be (sub bs 10 2), client := be (sub bs 12 4), yours := be (sub bs 16 4), next := be (sub bs 20 4), relay := be (sub bs 24 4), station := sub bs 28 6 } : Mh).a nilV nilV) w25 := hW.rows ⟨w.heap.size + 1, (({ mz with op := byteAt bs 0, hops := byteAt bs 3, xid := be (sub bs 4 4), secs := be (sub bs 8 2), flags := be (sub bs 10 2), client := be (sub bs 12 4), yours := be (sub bs 16 4), next := be (sub bs 20 4), relay := be (sub bs 24 4), station := sub bs 28 6 } : Mh).a nilV nilV).toList, true⟩ (by simp)
  have hWb : Wst w ⟨[⟨w.heap.size, (mz.a nilV nilV).toList, true⟩], w25.heap.size⟩ w25 := hW.fewer (rows := [⟨w.heap.size, (mz.a nilV nilV).toList, true⟩]) (more := [⟨w.heap.size + 1, (({ mz with op := byteAt bs 0, hops := byteAt bs 3, xid := be (sub bs 4 4), secs := be (sub bs 8 2), flags := be (sub bs 10 2), client := be (sub bs 12 4), yours := be (sub bs 16 4), next := be (sub bs 20 4), relay := be (sub bs 24 4), station := sub bs 28 6 } : Mh).a nilV nilV).toList, true⟩])
  have hL : ∀ {wx : World}, Loose w ⟨[⟨w.heap.size, (mz.a nilV nilV).toList, true⟩], wx.heap.size⟩ (gcS (⟨p, w.heap.size + 1, sv, bs, 34, 10, 15, (({ mz with op := byteAt bs 0, hops := byteAt bs 3, xid := be (sub bs 4 4), secs := be (sub bs 8 2), flags := be (sub bs 10 2), client := be (sub bs 12 4), yours := be (sub bs 16 4), next := be (sub bs 20 4), relay := be (sub bs 24 4), station := sub bs 28 6 } : Mh).a nilV nilV), (({ mz with op := byteAt bs 0, hops := byteAt bs 3, xid := be (sub bs 4 4), secs := be (sub bs 8 2), flags := be (sub bs 10 2), client := be (sub bs 12 4), yours := be (sub bs 16 4), next := be (sub bs 20 4), relay := be (sub bs 24 4), station := sub bs 28 6, pad := sub bs 34 10 } : Mh).a nilV nilV)⟩ : GcP)) := fun k hk => ⟨by
    rcases hk with h | h
    · have : k = w.heap.size + 1 := h; omega
    · have : k = p := h; omega, fun r hr => by
    obtain rfl := List.mem_singleton.1 hr
    show w.heap.size ≠ k
    rcases hk with h | h
    · have : k = w.heap.size + 1 := h; omega
    · have : k = p := h; omega⟩
  clear hW hS
  refine Goal.re (tags := tagL [(2, 0)]) (m := ⟨[⟨w.heap.size, (mz.a nilV nilV).toList, true⟩], w25.heap.size⟩) ?_
  refine drawnM_ok (S0 := (gcS (⟨p, w.heap.size + 1, sv, bs, 34, 10, 15, (({ mz with op := byteAt bs 0, hops := byteAt bs 3, xid := be (sub bs 4 4), secs := be (sub bs 8 2), flags := be (sub bs 10 2), client := be (sub bs 12 4), yours := be (sub bs 16 4), next := be (sub bs 20 4), relay := be (sub bs 24 4), station := sub bs 28 6 } : Mh).a nilV nilV), (({ mz with op := byteAt bs 0, hops := byteAt bs 3, xid := be (sub bs 4 4), secs := be (sub bs 8 2), flags := be (sub bs 10 2), client := be (sub bs 12 4), yours := be (sub bs 16 4), next := be (sub bs 20 4), relay := be (sub bs 24 4), station := sub bs 28 6, pad := sub bs 34 10 } : Mh).a nilV nilV)⟩ : GcP))) (gt := fun _ => Option.none) (D := (GcD (⟨p, w.heap.size + 1, sv, bs, 34, 10, 15, (({ mz with op := byteAt bs 0, hops := byteAt bs 3, xid := be (sub bs 4 4), secs := be (sub bs 8 2), flags := be (sub bs 10 2), client := be (sub bs 12 4), yours := be (sub bs 16 4), next := be (sub bs 20 4), relay := be (sub bs 24 4), station := sub bs 28 6 } : Mh).a nilV nilV), (({ mz with op := byteAt bs 0, hops := byteAt bs 3, xid := be (sub bs 4 4), secs := be (sub bs 8 2), flags := be (sub bs 10 2), client := be (sub bs 12 4), yours := be (sub bs 16 4), next := be (sub bs 20 4), relay := be (sub bs 24 4), station := sub bs 28 6, pad := sub bs 34 10 } : Mh).a nilV nilV)⟩ : GcP))) (g0 := ⟨False, undef, (gcS (⟨p, w.heap.size + 1, sv, bs, 34, 10, 15, (({ mz with op := byteAt bs 0, hops := byteAt bs 3, xid := be (sub bs 4 4), secs := be (sub bs 8 2), flags := be (sub bs 10 2), client := be (sub bs 12 4), yours := be (sub bs 16 4), next := be (sub bs 20 4), relay := be (sub bs 24 4), station := sub bs 28 6 } : Mh).a nilV nilV), (({ mz with op := byteAt bs 0, hops := byteAt bs 3, xid := be (sub bs 4 4), secs := be (sub bs 8 2), flags := be (sub bs 10 2), client := be (sub bs 12 4), yours := be (sub bs 16 4), next := be (sub bs 20 4), relay := be (sub bs 24 4), station := sub bs 28 6, pad := sub bs 34 10 } : Mh).a nilV nilV)⟩ : GcP))⟩)
    [(3, .loud (frB w25.heap.size (sub bs 34 10))), (4, .act (.is (.int .i64 10)))] [2, 3, 4, 5, 6] [.is (pT w.heap.size), .is (.int .i64 0), .is (pT (w.heap.size + 1)), .is (pT p), .is (.int .u16 (be (sub bs 1 2) : Nat))]
    (True ∧ True ∧ True ∧ LoudM Try.prog (gcS (⟨p, w.heap.size + 1, sv, bs, 34, 10, 15, (({ mz with op := byteAt bs 0, hops := byteAt bs 3, xid := be (sub bs 4 4), secs := be (sub bs 8 2), flags := be (sub bs 10 2), client := be (sub bs 12 4), yours := be (sub bs 16 4), next := be (sub bs 20 4), relay := be (sub bs 24 4), station := sub bs 28 6 } : Mh).a nilV nilV), (({ mz with op := byteAt bs 0, hops := byteAt bs 3, xid := be (sub bs 4 4), secs := be (sub bs 8 2), flags := be (sub bs 10 2), client := be (sub bs 12 4), yours := be (sub bs 16 4), next := be (sub bs 20 4), relay := be (sub bs 24 4), station := sub bs 28 6, pad := sub bs 34 10 } : Mh).a nilV nilV)⟩ : GcP)) w25 (GcD (⟨p, w.heap.size + 1, sv, bs, 34, 10, 15, (({ mz with op := byteAt bs 0, hops := byteAt bs 3, xid := be (sub bs 4 4), secs := be (sub bs 8 2), flags := be (sub bs 10 2), client := be (sub bs 12 4), yours := be (sub bs 16 4), next := be (sub bs 20 4), relay := be (sub bs 24 4), station := sub bs 28 6 } : Mh).a nilV nilV), (({ mz with op := byteAt bs 0, hops := byteAt bs 3, xid := be (sub bs 4 4), secs := be (sub bs 8 2), flags := be (sub bs 10 2), client := be (sub bs 12 4), yours := be (sub bs 16 4), next := be (sub bs 20 4), relay := be (sub bs 24 4), station := sub bs 28 6, pad := sub bs 34 10 } : Mh).a nilV nilV)⟩ : GcP)) 0 41 [.is (pT p), .is (.int .i64 10)] (frB w25.heap.size (sub bs 34 10)) ∧
      ActM Try.prog (gcS (⟨p, w.heap.size + 1, sv, bs, 34, 10, 15, (({ mz with op := byteAt bs 0, hops := byteAt bs 3, xid := be (sub bs 4 4), secs := be (sub bs 8 2), flags := be (sub bs 10 2), client := be (sub bs 12 4), yours := be (sub bs 16 4), next := be (sub bs 20 4), relay := be (sub bs 24 4), station := sub bs 28 6 } : Mh).a nilV nilV), (({ mz with op := byteAt bs 0, hops := byteAt bs 3, xid := be (sub bs 4 4), secs := be (sub bs 8 2), flags := be (sub bs 10 2), client := be (sub bs 12 4), yours := be (sub bs 16 4), next := be (sub bs 20 4), relay := be (sub bs 24 4), station := sub bs 28 6, pad := sub bs 34 10 } : Mh).a nilV nilV)⟩ : GcP)) w25 (GcD (⟨p, w.heap.size + 1, sv, bs, 34, 10, 15, (({ mz with op := byteAt bs 0, hops := byteAt bs 3, xid := be (sub bs 4 4), secs := be (sub bs 8 2), flags := be (sub bs 10 2), client := be (sub bs 12 4), yours := be (sub bs 16 4), next := be (sub bs 20 4), relay := be (sub bs 24 4), station := sub bs 28 6 } : Mh).a nilV nilV), (({ mz with op := byteAt bs 0, hops := byteAt bs 3, xid := be (sub bs 4 4), secs := be (sub bs 8 2), flags := be (sub bs 10 2), client := be (sub bs 12 4), yours := be (sub bs 16 4), next := be (sub bs 20 4), relay := be (sub bs 24 4), station := sub bs 28 6, pad := sub bs 34 10 } : Mh).a nilV nilV)⟩ : GcP)) 1 (.call { callee := .builtin .copy, args := #[.tmp 46, .tmp 48], argTypes := #[22, 22] }) 3 [(46, .is (.slice (some ⟨w.heap.size + 1, 15, none⟩) 10 10)), (48, frB w25.heap.size (sub bs 34 10))] (.is (.int .i64 10)) ∧ True)
    2 (afterR dgC 10) hWb hL (by kernel_rfl) (by kernel_rfl) (by kernel_rfl) GcD.keep
    (fun k hk => ⟨by
      rcases hk with h | h
      · rw [show k = w.heap.size + 1 from h]; obtain ⟨t, ht⟩ := hqr; exact block_of_row ht
      · rw [show k = p from h]; exact cu.lt, fun _ => hk⟩) ⟨rfl, cu, hqr⟩
    ⟨trivial, trivial, trivial, gc_take (X := (⟨p, w.heap.size + 1, sv, bs, 34, 10, 15, (({ mz with op := byteAt bs 0, hops := byteAt bs 3, xid := be (sub bs 4 4), secs := be (sub bs 8 2), flags := be (sub bs 10 2), client := be (sub bs 12 4), yours := be (sub bs 16 4), next := be (sub bs 20 4), relay := be (sub bs 24 4), station := sub bs 28 6 } : Mh).a nilV nilV), (({ mz with op := byteAt bs 0, hops := byteAt bs 3, xid := be (sub bs 4 4), secs := be (sub bs 8 2), flags := be (sub bs 10 2), client := be (sub bs 12 4), yours := be (sub bs 16 4), next := be (sub bs 20 4), relay := be (sub bs 24 4), station := sub bs 28 6, pad := sub bs 34 10 } : Mh).a nilV nilV)⟩ : GcP)) hpq (by show 34 + 10 ≤ bs.length; omega), gc_copy (X := (⟨p, w.heap.size + 1, sv, bs, 34, 10, 15, (({ mz with op := byteAt bs 0, hops := byteAt bs 3, xid := be (sub bs 4 4), secs := be (sub bs 8 2), flags := be (sub bs 10 2), client := be (sub bs 12 4), yours := be (sub bs 16 4), next := be (sub bs 20 4), relay := be (sub bs 24 4), station := sub bs 28 6 } : Mh).a nilV nilV), (({ mz with op := byteAt bs 0, hops := byteAt bs 3, xid := be (sub bs 4 4), secs := be (sub bs 8 2), flags := be (sub bs 10 2), client := be (sub bs 12 4), yours := be (sub bs 16 4), next := be (sub bs 20 4), relay := be (sub bs 24 4), station := sub bs 28 6, pad := sub bs 34 10 } : Mh).a nilV nilV)⟩ : GcP)) bt hpq hsq (by show 34 + 10 ≤ bs.length; omega) (by show 15 + 10 ≤ 219; omega) (by kernel_rfl), trivial⟩ ?_
  intro g w26 vs k _ hd hok
  obtain rfl := allOkM_is (vs := [pT w.heap.size, .int .i64 0, pT (w.heap.size + 1), pT p, .int .u16 (be (sub bs 1 2) : Nat)]) hok
  obtain ⟨_, cu, ⟨tt, hrr⟩⟩ := hd
  have cu : Cu w26 p sv bs 44 0 := cu
  have hW : Wst w ⟨dgRow w { mz with op := byteAt bs 0, hops := byteAt bs 3, xid := be (sub bs 4 4), secs := be (sub bs 8 2), flags := be (sub bs 10 2), client := be (sub bs 12 4), yours := be (sub bs 16 4), next := be (sub bs 20 4), relay := be (sub bs 24 4), station := sub bs 28 6, pad := sub bs 34 10 }, w26.heap.size⟩ w26 := (hWb.laterS k hL).addRow hrr (by show w.heap.size ≤ w.heap.size + 1; omega) (fun r hr => by obtain rfl := List.mem_singleton.1 hr; show w.heap.size ≠ w.heap.size + 1; omega)
  clear hok hqr hWb hL hrr k
  refine Goal.re (tags := tagL [(2, 0), (4, 1)]) (m := ⟨dgRow w { mz with op := byteAt bs 0, hops := byteAt bs 3, xid := be (sub bs 4 4), secs := be (sub bs 8 2), flags := be (sub bs 10 2), client := be (sub bs 12 4), yours := be (sub bs 16 4), next := be (sub bs 20 4), relay := be (sub bs 24 4), station := sub bs 28 6, pad := sub bs 34 10 }, w26.heap.size⟩) ?_
  refine go_stop (gt := fun _ => Option.none) (unroll := false) 60 [] [2, 3, 4, 5, 6] [pT w.heap.size, .int .i64 0, pT (w.heap.size + 1), pT p, .int .u16 (be (sub bs 1 2) : Nat)] (dgRow w { mz with op := byteAt bs 0, hops := byteAt bs 3, xid := be (sub bs 4 4), secs := be (sub bs 8 2), flags := be (sub bs 10 2), client := be (sub bs 12 4), yours := be (sub bs 16 4), next := be (sub bs 20 4), relay := be (sub bs 24 4), station := sub bs 28 6, pad := sub bs 34 10 }) [(2, 0), (4, 1)] (atR dgC 11) [] [] hW (by kernel_rfl) trivial trivial ?_
  intro w27 hW hS
  have cu := cu.walk (hrow _ _) hS hW
  have hqr : rowM (w.heap.size + 1) (({ mz with op := byteAt bs 0, hops := byteAt bs 3, xid := be (sub bs 4 4), secs := be (sub bs 8 2), flags := be (sub bs 10 2), client := be (sub bs 12 4), yours := be (sub bs 16 4), next := be (sub bs 20 4), relay := be (sub bs 24 4), station := sub bs 28 6, pad := sub bs 34 10 } : Mh).a nilV nilV) w27 := hW.rows ⟨w.heap.size + 1, (({ mz with op := byteAt bs 0, hops := byteAt bs 3, xid := be (sub bs 4 4), secs := be (sub bs 8 2), flags := be (sub bs 10 2), client := be (sub bs 12 4), yours := be (sub bs 16 4), next := be (sub bs 20 4), relay := be (sub bs 24 4), station := sub bs 28 6, pad := sub bs 34 10 } : Mh).a nilV nilV).toList, true⟩ (by simp)
  have hWb : Wst w ⟨[⟨w.heap.size, (mz.a nilV nilV).toList, true⟩], w27.heap.size⟩ w27 := hW.fewer (rows := [⟨w.heap.size, (mz.a nilV nilV).toList, true⟩]) (more := [⟨w.heap.size + 1, (({ mz with op := byteAt bs 0, hops := byteAt bs 3, xid := be (sub bs 4 4), secs := be (sub bs 8 2), flags := be (sub bs 10 2), client := be (sub bs 12 4), yours := be (sub bs 16 4), next := be (sub bs 20 4), relay := be (sub bs 24 4), station := sub bs 28 6, pad := sub bs 34 10 } : Mh).a nilV nilV).toList, true⟩])
  have hL : ∀ {wx : World}, Loose w ⟨[⟨w.heap.size, (mz.a nilV nilV).toList, true⟩], wx.heap.size⟩ (gcS (⟨p, w.heap.size + 1, sv, bs, 44, 64, 25, (({ mz with op := byteAt bs 0, hops := byteAt bs 3, xid := be (sub bs 4 4), secs := be (sub bs 8 2), flags := be (sub bs 10 2), client := be (sub bs 12 4), yours := be (sub bs 16 4), next := be (sub bs 20 4), relay := be (sub bs 24 4), station := sub bs 28 6, pad := sub bs 34 10 } : Mh).a nilV nilV), (({ mz with op := byteAt bs 0, hops := byteAt bs 3, xid := be (sub bs 4 4), secs := be (sub bs 8 2), flags := be (sub bs 10 2), client := be (sub bs 12 4), yours := be (sub bs 16 4), next := be (sub bs 20 4), relay := be (sub bs 24 4), station := sub bs 28 6, pad := sub bs 34 10, server := sub bs 44 64 } : Mh).a nilV nilV)⟩ : GcP)) := fun k hk => ⟨by
    rcases hk with h | h
    · have : k = w.heap.size + 1 := h; omega
    · have : k = p := h; omega, fun r hr => by
    obtain rfl := List.mem_singleton.1 hr
    show w.heap.size ≠ k
    rcases hk with h | h
    · have : k = w.heap.size + 1 := h; omega
    · have : k = p := h; omega⟩
  clear hW hS
  refine Goal.re (tags := tagL [(2, 0)]) (m := ⟨[⟨w.heap.size, (mz.a nilV nilV).toList, true⟩], w27.heap.size⟩) ?_
  refine drawnM_ok (S0 := (gcS (⟨p, w.heap.size + 1, sv, bs, 44, 64, 25, (({ mz with op := byteAt bs 0, hops := byteAt bs 3, xid := be (sub bs 4 4), secs := be (sub bs 8 2), flags := be (sub bs 10 2), client := be (sub bs 12 4), yours := be (sub bs 16 4), next := be (sub bs 20 4), relay := be (sub bs 24 4), station := sub bs 28 6, pad := sub bs 34 10 } : Mh).a nilV nilV), (({ mz with op := byteAt bs 0, hops := byteAt bs 3, xid := be (sub bs 4 4), secs := be (sub bs 8 2), flags := be (sub bs 10 2), client := be (sub bs 12 4), yours := be (sub bs 16 4), next := be (sub bs 20 4), relay := be (sub bs 24 4), station := sub bs 28 6, pad := sub bs 34 10, server := sub bs 44 64 } : Mh).a nilV nilV)⟩ : GcP))) (gt := fun _ => Option.none) (D := (GcD (⟨p, w.heap.size + 1, sv, bs, 44, 64, 25, (({ mz with op := byteAt bs 0, hops := byteAt bs 3, xid := be (sub bs 4 4), secs := be (sub bs 8 2), flags := be (sub bs 10 2), client := be (sub bs 12 4), yours := be (sub bs 16 4), next := be (sub bs 20 4), relay := be (sub bs 24 4), station := sub bs 28 6, pad := sub bs 34 10 } : Mh).a nilV nilV), (({ mz with op := byteAt bs 0, hops := byteAt bs 3, xid := be (sub bs 4 4), secs := be (sub bs 8 2), flags := be (sub bs 10 2), client := be (sub bs 12 4), yours := be (sub bs 16 4), next := be (sub bs 20 4), relay := be (sub bs 24 4), station := sub bs 28 6, pad := sub bs 34 10, server := sub bs 44 64 } : Mh).a nilV nilV)⟩ : GcP))) (g0 := ⟨False, undef, (gcS (⟨p, w.heap.size + 1, sv, bs, 44, 64, 25, (({ mz with op := byteAt bs 0, hops := byteAt bs 3, xid := be (sub bs 4 4), secs := be (sub bs 8 2), flags := be (sub bs 10 2), client := be (sub bs 12 4), yours := be (sub bs 16 4), next := be (sub bs 20 4), relay := be (sub bs 24 4), station := sub bs 28 6, pad := sub bs 34 10 } : Mh).a nilV nilV), (({ mz with op := byteAt bs 0, hops := byteAt bs 3, xid := be (sub bs 4 4), secs := be (sub bs 8 2), flags := be (sub bs 10 2), client := be (sub bs 12 4), yours := be (sub bs 16 4), next := be (sub bs 20 4), relay := be (sub bs 24 4), station := sub bs 28 6, pad := sub bs 34 10, server := sub bs 44 64 } : Mh).a nilV nilV)⟩ : GcP))⟩)
    [(3, .loud (frB w27.heap.size (sub bs 44 64))), (4, .act (.is (.int .i64 64)))] [2, 3, 4, 5, 6] [.is (pT w.heap.size), .is (.int .i64 0), .is (pT (w.heap.size + 1)), .is (pT p), .is (.int .u16 (be (sub bs 1 2) : Nat))]
    (True ∧ True ∧ True ∧ LoudM Try.prog (gcS (⟨p, w.heap.size + 1, sv, bs, 44, 64, 25, (({ mz with op := byteAt bs 0, hops := byteAt bs 3, xid := be (sub bs 4 4), secs := be (sub bs 8 2), flags := be (sub bs 10 2), client := be (sub bs 12 4), yours := be (sub bs 16 4), next := be (sub bs 20 4), relay := be (sub bs 24 4), station := sub bs 28 6, pad := sub bs 34 10 } : Mh).a nilV nilV), (({ mz with op := byteAt bs 0, hops := byteAt bs 3, xid := be (sub bs 4 4), secs := be (sub bs 8 2), flags := be (sub bs 10 2), client := be (sub bs 12 4), yours := be (sub bs 16 4), next := be (sub bs 20 4), relay := be (sub bs 24 4), station := sub bs 28 6, pad := sub bs 34 10, server := sub bs 44 64 } : Mh).a nilV nilV)⟩ : GcP)) w27 (GcD (⟨p, w.heap.size + 1, sv, bs, 44, 64, 25, (({ mz with op := byteAt bs 0, hops := byteAt bs 3, xid := be (sub bs 4 4), secs := be (sub bs 8 2), flags := be (sub bs 10 2), client := be (sub bs 12 4), yours := be (sub bs 16 4), next := be (sub bs 20 4), relay := be (sub bs 24 4), station := sub bs 28 6, pad := sub bs 34 10 } : Mh).a nilV nilV), (({ mz with op := byteAt bs 0, hops := byteAt bs 3, xid := be (sub bs 4 4), secs := be (sub bs 8 2), flags := be (sub bs 10 2), client := be (sub bs 12 4), yours := be (sub bs 16 4), next := be (sub bs 20 4), relay := be (sub bs 24 4), station := sub bs 28 6, pad := sub bs 34 10, server := sub bs 44 64 } : Mh).a nilV nilV)⟩ : GcP)) 0 41 [.is (pT p), .is (.int .i64 64)] (frB w27.heap.size (sub bs 44 64)) ∧
      ActM Try.prog (gcS (⟨p, w.heap.size + 1, sv, bs, 44, 64, 25, (({ mz with op := byteAt bs 0, hops := byteAt bs 3, xid := be (sub bs 4 4), secs := be (sub bs 8 2), flags := be (sub bs 10 2), client := be (sub bs 12 4), yours := be (sub bs 16 4), next := be (sub bs 20 4), relay := be (sub bs 24 4), station := sub bs 28 6, pad := sub bs 34 10 } : Mh).a nilV nilV), (({ mz with op := byteAt bs 0, hops := byteAt bs 3, xid := be (sub bs 4 4), secs := be (sub bs 8 2), flags := be (sub bs 10 2), client := be (sub bs 12 4), yours := be (sub bs 16 4), next := be (sub bs 20 4), relay := be (sub bs 24 4), station := sub bs 28 6, pad := sub bs 34 10, server := sub bs 44 64 } : Mh).a nilV nilV)⟩ : GcP)) w27 (GcD (⟨p, w.heap.size + 1, sv, bs, 44, 64, 25, (({ mz with op := byteAt bs 0, hops := byteAt bs 3, xid := be (sub bs 4 4), secs := be (sub bs 8 2), flags := be (sub bs 10 2), client := be (sub bs 12 4), yours := be (sub bs 16 4), next := be (sub bs 20 4), relay := be (sub bs 24 4), station := sub bs 28 6, pad := sub bs 34 10 } : Mh).a nilV nilV), (({ mz with op := byteAt bs 0, hops := byteAt bs 3, xid := be (sub bs 4 4), secs := be (sub bs 8 2), flags := be (sub bs 10 2), client := be (sub bs 12 4), yours := be (sub bs 16 4), next := be (sub bs 20 4), relay := be (sub bs 24 4), station := sub bs 28 6, pad := sub bs 34 10, server := sub bs 44 64 } : Mh).a nilV nilV)⟩ : GcP)) 1 (.call { callee := .builtin .copy, args := #[.tmp 51, .tmp 53], argTypes := #[22, 22] }) 3 [(51, .is (.slice (some ⟨w.heap.size + 1, 25, none⟩) 64 64)), (53, frB w27.heap.size (sub bs 44 64))] (.is (.int .i64 64)) ∧ True)
    2 (afterR dgC 11) hWb hL (by kernel_rfl) (by kernel_rfl) (by kernel_rfl) GcD.keep
    (fun k hk => ⟨by
      rcases hk with h | h
      · rw [show k = w.heap.size + 1 from h]; obtain ⟨t, ht⟩ := hqr; exact block_of_row ht
      · rw [show k = p from h]; exact cu.lt, fun _ => hk⟩) ⟨rfl, cu, hqr⟩
    ⟨trivial, trivial, trivial, gc_take (X := (⟨p, w.heap.size + 1, sv, bs, 44, 64, 25, (({ mz with op := byteAt bs 0, hops := byteAt bs 3, xid := be (sub bs 4 4), secs := be (sub bs 8 2), flags := be (sub bs 10 2), client := be (sub bs 12 4), yours := be (sub bs 16 4), next := be (sub bs 20 4), relay := be (sub bs 24 4), station := sub bs 28 6, pad := sub bs 34 10 } : Mh).a nilV nilV), (({ mz with op := byteAt bs 0, hops := byteAt bs 3, xid := be (sub bs 4 4), secs := be (sub bs 8 2), flags := be (sub bs 10 2), client := be (sub bs 12 4), yours := be (sub bs 16 4), next := be (sub bs 20 4), relay := be (sub bs 24 4), station := sub bs 28 6, pad := sub bs 34 10, server := sub bs 44 64 } : Mh).a nilV nilV)⟩ : GcP)) hpq (by show 44 + 64 ≤ bs.length; omega), gc_copy (X := (⟨p, w.heap.size + 1, sv, bs, 44, 64, 25, (({ mz with op := byteAt bs 0, hops := byteAt bs 3, xid := be (sub bs 4 4), secs := be (sub bs 8 2), flags := be (sub bs 10 2), client := be (sub bs 12 4), yours := be (sub bs 16 4), next := be (sub bs 20 4), relay := be (sub bs 24 4), station := sub bs 28 6, pad := sub bs 34 10 } : Mh).a nilV nilV), (({ mz with op := byteAt bs 0, hops := byteAt bs 3, xid := be (sub bs 4 4), secs := be (sub bs 8 2), flags := be (sub bs 10 2), client := be (sub bs 12 4), yours := be (sub bs 16 4), next := be (sub bs 20 4), relay := be (sub bs 24 4), station := sub bs 28 6, pad := sub bs 34 10, server := sub bs 44 64 } : Mh).a nilV nilV)⟩ : GcP)) bt hpq hsq (by show 44 + 64 ≤ bs.length; omega) (by show 25 + 64 ≤ 219; omega) (by kernel_rfl), trivial⟩ ?_
  intro g w28 vs k _ hd hok
  obtain rfl := allOkM_is (vs := [pT w.heap.size, .int .i64 0, pT (w.heap.size + 1), pT p, .int .u16 (be (sub bs 1 2) : Nat)]) hok
  obtain ⟨_, cu, ⟨tt, hrr⟩⟩ := hd
  have cu : Cu w28 p sv bs 108 0 := cu
  have hW : Wst w ⟨dgRow w { mz with op := byteAt bs 0, hops := byteAt bs 3, xid := be (sub bs 4 4), secs := be (sub bs 8 2), flags := be (sub bs 10 2), client := be (sub bs 12 4), yours := be (sub bs 16 4), next := be (sub bs 20 4), relay := be (sub bs 24 4), station := sub bs 28 6, pad := sub bs 34 10, server := sub bs 44 64 }, w28.heap.size⟩ w28 := (hWb.laterS k hL).addRow hrr (by show w.heap.size ≤ w.heap.size + 1; omega) (fun r hr => by obtain rfl := List.mem_singleton.1 hr; show w.heap.size ≠ w.heap.size + 1; omega)
  clear hok hqr hWb hL hrr k
  refine Goal.re (tags := tagL [(2, 0), (4, 1)]) (m := ⟨dgRow w { mz with op := byteAt bs 0, hops := byteAt bs 3, xid := be (sub bs 4 4), secs := be (sub bs 8 2), flags := be (sub bs 10 2), client := be (sub bs 12 4), yours := be (sub bs 16 4), next := be (sub bs 20 4), relay := be (sub bs 24 4), station := sub bs 28 6, pad := sub bs 34 10, server := sub bs 44 64 }, w28.heap.size⟩) ?_
  refine go_stop (gt := fun _ => Option.none) (unroll := false) 60 [] [2, 3, 4, 5, 6] [pT w.heap.size, .int .i64 0, pT (w.heap.size + 1), pT p, .int .u16 (be (sub bs 1 2) : Nat)] (dgRow w { mz with op := byteAt bs 0, hops := byteAt bs 3, xid := be (sub bs 4 4), secs := be (sub bs 8 2), flags := be (sub bs 10 2), client := be (sub bs 12 4), yours := be (sub bs 16 4), next := be (sub bs 20 4), relay := be (sub bs 24 4), station := sub bs 28 6, pad := sub bs 34 10, server := sub bs 44 64 }) [(2, 0), (4, 1)] (atR dgC 12) [] [] hW (by kernel_rfl) trivial trivial ?_
  intro w29 hW hS
  have cu := cu.walk (hrow _ _) hS hW
  have hqr : rowM (w.heap.size + 1) (({ mz with op := byteAt bs 0, hops := byteAt bs 3, xid := be (sub bs 4 4), secs := be (sub bs 8 2), flags := be (sub bs 10 2), client := be (sub bs 12 4), yours := be (sub bs 16 4), next := be (sub bs 20 4), relay := be (sub bs 24 4), station := sub bs 28 6, pad := sub bs 34 10, server := sub bs 44 64 } : Mh).a nilV nilV) w29 := hW.rows ⟨w.heap.size + 1, (({ mz with op := byteAt bs 0, hops := byteAt bs 3, xid := be (sub bs 4 4), secs := be (sub bs 8 2), flags := be (sub bs 10 2), client := be (sub bs 12 4), yours := be (sub bs 16 4), next := be (sub bs 20 4), relay := be (sub bs 24 4), station := sub bs 28 6, pad := sub bs 34 10, server := sub bs 44 64 } : Mh).a nilV nilV).toList, true⟩ (by simp)
  have hWb : Wst w ⟨[⟨w.heap.size, (mz.a nilV nilV).toList, true⟩], w29.heap.size⟩ w29 := hW.fewer (rows := [⟨w.heap.size, (mz.a nilV nilV).toList, true⟩]) (more := [⟨w.heap.size + 1, (({ mz with op := byteAt bs 0, hops := byteAt bs 3, xid := be (sub bs 4 4), secs := be (sub bs 8 2), flags := be (sub bs 10 2), client := be (sub bs 12 4), yours := be (sub bs 16 4), next := be (sub bs 20 4), relay := be (sub bs 24 4), station := sub bs 28 6, pad := sub bs 34 10, server := sub bs 44 64 } : Mh).a nilV nilV).toList, true⟩])
  have hL : ∀ {wx : World}, Loose w ⟨[⟨w.heap.size, (mz.a nilV nilV).toList, true⟩], wx.heap.size⟩ (gcS (⟨p, w.heap.size + 1, sv, bs, 108, 128, 89, (({ mz with op := byteAt bs 0, hops := byteAt bs 3, xid := be (sub bs 4 4), secs := be (sub bs 8 2), flags := be (sub bs 10 2), client := be (sub bs 12 4), yours := be (sub bs 16 4), next := be (sub bs 20 4), relay := be (sub bs 24 4), station := sub bs 28 6, pad := sub bs 34 10, server := sub bs 44 64 } : Mh).a nilV nilV), (({ mz with op := byteAt bs 0, hops := byteAt bs 3, xid := be (sub bs 4 4), secs := be (sub bs 8 2), flags := be (sub bs 10 2), client := be (sub bs 12 4), yours := be (sub bs 16 4), next := be (sub bs 20 4), relay := be (sub bs 24 4), station := sub bs 28 6, pad := sub bs 34 10, server := sub bs 44 64, file := sub bs 108 128 } : Mh).a nilV nilV)⟩ : GcP)) := fun k hk => ⟨by
    rcases hk with h | h
    · have : k = w.heap.size + 1 := h; omega
    · have : k = p := h; omega, fun r hr => by
    obtain rfl := List.mem_singleton.1 hr
    show w.heap.size ≠ k
    rcases hk with h | h
    · have : k = w.heap.size + 1 := h; omega
    · have : k = p := h; omega⟩
  clear hW hS
  refine Goal.re (tags := tagL [(2, 0)]) (m := ⟨[⟨w.heap.size, (mz.a nilV nilV).toList, true⟩], w29.heap.size⟩) ?_
  refine drawnM_ok (S0 := (gcS (⟨p, w.heap.size + 1, sv, bs, 108, 128, 89, (({ mz with op := byteAt bs 0, hops := byteAt bs 3, xid := be (sub bs 4 4), secs := be (sub bs 8 2), flags := be (sub bs 10 2), client := be (sub bs 12 4), yours := be (sub bs 16 4), next := be (sub bs 20 4), relay := be (sub bs 24 4), station := sub bs 28 6, pad := sub bs 34 10, server := sub bs 44 64 } : Mh).a nilV nilV), (({ mz with op := byteAt bs 0, hops := byteAt bs 3, xid := be (sub bs 4 4), secs := be (sub bs 8 2), flags := be (sub bs 10 2), client := be (sub bs 12 4), yours := be (sub bs 16 4), next := be (sub bs 20 4), relay := be (sub bs 24 4), station := sub bs 28 6, pad := sub bs 34 10, server := sub bs 44 64, file := sub bs 108 128 } : Mh).a nilV nilV)⟩ : GcP))) (gt := fun _ => Option.none) (D := (GcD (⟨p, w.heap.size + 1, sv, bs, 108, 128, 89, (({ mz with op := byteAt bs 0, hops := byteAt bs 3, xid := be (sub bs 4 4), secs := be (sub bs 8 2), flags := be (sub bs 10 2), client := be (sub bs 12 4), yours := be (sub bs 16 4), next := be (sub bs 20 4), relay := be (sub bs 24 4), station := sub bs 28 6, pad := sub bs 34 10, server := sub bs 44 64 } : Mh).a nilV nilV), (({ mz with op := byteAt bs 0, hops := byteAt bs 3, xid := be (sub bs 4 4), secs := be (sub bs 8 2), flags := be (sub bs 10 2), client := be (sub bs 12 4), yours := be (sub bs 16 4), next := be (sub bs 20 4), relay := be (sub bs 24 4), station := sub bs 28 6, pad := sub bs 34 10, server := sub bs 44 64, file := sub bs 108 128 } : Mh).a nilV nilV)⟩ : GcP))) (g0 := ⟨False, undef, (gcS (⟨p, w.heap.size + 1, sv, bs, 108, 128, 89, (({ mz with op := byteAt bs 0, hops := byteAt bs 3, xid := be (sub bs 4 4), secs := be (sub bs 8 2), flags := be (sub bs 10 2), client := be (sub bs 12 4), yours := be (sub bs 16 4), next := be (sub bs 20 4), relay := be (sub bs 24 4), station := sub bs 28 6, pad := sub bs 34 10, server := sub bs 44 64 } : Mh).a nilV nilV), (({ mz with op := byteAt bs 0, hops := byteAt bs 3, xid := be (sub bs 4 4), secs := be (sub bs 8 2), flags := be (sub bs 10 2), client := be (sub bs 12 4), yours := be (sub bs 16 4), next := be (sub bs 20 4), relay := be (sub bs 24 4), station := sub bs 28 6, pad := sub bs 34 10, server := sub bs 44 64, file := sub bs 108 128 } : Mh).a nilV nilV)⟩ : GcP))⟩)
    [(3, .loud (frB w29.heap.size (sub bs 108 128))), (4, .act (.is (.int .i64 128)))] [2, 3, 4, 5, 6] [.is (pT w.heap.size), .is (.int .i64 0), .is (pT (w.heap.size + 1)), .is (pT p), .is (.int .u16 (be (sub bs 1 2) : Nat))]
    (True ∧ True ∧ True ∧ LoudM Try.prog (gcS (⟨p, w.heap.size + 1, sv, bs, 108, 128, 89, (({ mz with op := byteAt bs 0, hops := byteAt bs 3, xid := be (sub bs 4 4), secs := be (sub bs 8 2), flags := be (sub bs 10 2), client := be (sub bs 12 4), yours := be (sub bs 16 4), next := be (sub bs 20 4), relay := be (sub bs 24 4), station := sub bs 28 6, pad := sub bs 34 10, server := sub bs 44 64 } : Mh).a nilV nilV), (({ mz with op := byteAt bs 0, hops := byteAt bs 3, xid := be (sub bs 4 4), secs := be (sub bs 8 2), flags := be (sub bs 10 2), client := be (sub bs 12 4), yours := be (sub bs 16 4), next := be (sub bs 20 4), relay := be (sub bs 24 4), station := sub bs 28 6, pad := sub bs 34 10, server := sub bs 44 64, file := sub bs 108 128 } : Mh).a nilV nilV)⟩ : GcP)) w29 (GcD (⟨p, w.heap.size + 1, sv, bs, 108, 128, 89, (({ mz with op := byteAt bs 0, hops := byteAt bs 3, xid := be (sub bs 4 4), secs := be (sub bs 8 2), flags := be (sub bs 10 2), client := be (sub bs 12 4), yours := be (sub bs 16 4), next := be (sub bs 20 4), relay := be (sub bs 24 4), station := sub bs 28 6, pad := sub bs 34 10, server := sub bs 44 64 } : Mh).a nilV nilV), (({ mz with op := byteAt bs 0, hops := byteAt bs 3, xid := be (sub bs 4 4), secs := be (sub bs 8 2), flags := be (sub bs 10 2), client := be (sub bs 12 4), yours := be (sub bs 16 4), next := be (sub bs 20 4), relay := be (sub bs 24 4), station := sub bs 28 6, pad := sub bs 34 10, server := sub bs 44 64, file := sub bs 108 128 } : Mh).a nilV nilV)⟩ : GcP)) 0 41 [.is (pT p), .is (.int .i64 128)] (frB w29.heap.size (sub bs 108 128)) ∧
      ActM Try.prog (gcS (⟨p, w.heap.size + 1, sv, bs, 108, 128, 89, (({ mz with op := byteAt bs 0, hops := byteAt bs 3, xid := be (sub bs 4 4), secs := be (sub bs 8 2), flags := be (sub bs 10 2), client := be (sub bs 12 4), yours := be (sub bs 16 4), next := be (sub bs 20 4), relay := be (sub bs 24 4), station := sub bs 28 6, pad := sub bs 34 10, server := sub bs 44 64 } : Mh).a nilV nilV), (({ mz with op := byteAt bs 0, hops := byteAt bs 3, xid := be (sub bs 4 4), secs := be (sub bs 8 2), flags := be (sub bs 10 2), client := be (sub bs 12 4), yours := be (sub bs 16 4), next := be (sub bs 20 4), relay := be (sub bs 24 4), station := sub bs 28 6, pad := sub bs 34 10, server := sub bs 44 64, file := sub bs 108 128 } : Mh).a nilV nilV)⟩ : GcP)) w29 (GcD (⟨p, w.heap.size + 1, sv, bs, 108, 128, 89, (({ mz with op := byteAt bs 0, hops := byteAt bs 3, xid := be (sub bs 4 4), secs := be (sub bs 8 2), flags := be (sub bs 10 2), client := be (sub bs 12 4), yours := be (sub bs 16 4), next := be (sub bs 20 4), relay := be (sub bs 24 4), station := sub bs 28 6, pad := sub bs 34 10, server := sub bs 44 64 } : Mh).a nilV nilV), (({ mz with op := byteAt bs 0, hops := byteAt bs 3, xid := be (sub bs 4 4), secs := be (sub bs 8 2), flags := be (sub bs 10 2), client := be (sub bs 12 4), yours := be (sub bs 16 4), next := be (sub bs 20 4), relay := be (sub bs 24 4), station := sub bs 28 6, pad := sub bs 34 10, server := sub bs 44 64, file := sub bs 108 128 } : Mh).a nilV nilV)⟩ : GcP)) 1 (.call { callee := .builtin .copy, args := #[.tmp 56, .tmp 58], argTypes := #[22, 22] }) 3 [(56, .is (.slice (some ⟨w.heap.size + 1, 89, none⟩) 128 128)), (58, frB w29.heap.size (sub bs 108 128))] (.is (.int .i64 128)) ∧ True)
    2 (afterR dgC 12) hWb hL (by kernel_rfl) (by kernel_rfl) (by kernel_rfl) GcD.keep
    (fun k hk => ⟨by
      rcases hk with h | h
      · rw [show k = w.heap.size + 1 from h]; obtain ⟨t, ht⟩ := hqr; exact block_of_row ht
      · rw [show k = p from h]; exact cu.lt, fun _ => hk⟩) ⟨rfl, cu, hqr⟩
    ⟨trivial, trivial, trivial, gc_take (X := (⟨p, w.heap.size + 1, sv, bs, 108, 128, 89, (({ mz with op := byteAt bs 0, hops := byteAt bs 3, xid := be (sub bs 4 4), secs := be (sub bs 8 2), flags := be (sub bs 10 2), client := be (sub bs 12 4), yours := be (sub bs 16 4), next := be (sub bs 20 4), relay := be (sub bs 24 4), station := sub bs 28 6, pad := sub bs 34 10, server := sub bs 44 64 } : Mh).a nilV nilV), (({ mz with op := byteAt bs 0, hops := byteAt bs 3, xid := be (sub bs 4 4), secs := be (sub bs 8 2), flags := be (sub bs 10 2), client := be (sub bs 12 4), yours := be (sub bs 16 4), next := be (sub bs 20 4), relay := be (sub bs 24 4), station := sub bs 28 6, pad := sub bs 34 10, server := sub bs 44 64, file := sub bs 108 128 } : Mh).a nilV nilV)⟩ : GcP)) hpq (by show 108 + 128 ≤ bs.length; omega), gc_copy (X := (⟨p, w.heap.size + 1, sv, bs, 108, 128, 89, (({ mz with op := byteAt bs 0, hops := byteAt bs 3, xid := be (sub bs 4 4), secs := be (sub bs 8 2), flags := be (sub bs 10 2), client := be (sub bs 12 4), yours := be (sub bs 16 4), next := be (sub bs 20 4), relay := be (sub bs 24 4), station := sub bs 28 6, pad := sub bs 34 10, server := sub bs 44 64 } : Mh).a nilV nilV), (({ mz with op := byteAt bs 0, hops := byteAt bs 3, xid := be (sub bs 4 4), secs := be (sub bs 8 2), flags := be (sub bs 10 2), client := be (sub bs 12 4), yours := be (sub bs 16 4), next := be (sub bs 20 4), relay := be (sub bs 24 4), station := sub bs 28 6, pad := sub bs 34 10, server := sub bs 44 64, file := sub bs 108 128 } : Mh).a nilV nilV)⟩ : GcP)) bt hpq hsq (by show 108 + 128 ≤ bs.length; omega) (by show 89 + 128 ≤ 219; omega) (by kernel_rfl), trivial⟩ ?_
  intro g w30 vs k _ hd hok
  obtain rfl := allOkM_is (vs := [pT w.heap.size, .int .i64 0, pT (w.heap.size + 1), pT p, .int .u16 (be (sub bs 1 2) : Nat)]) hok
  obtain ⟨_, cu, ⟨tt, hrr⟩⟩ := hd
  have cu : Cu w30 p sv bs 236 0 := cu
  have hW : Wst w ⟨dgRow w { mz with op := byteAt bs 0, hops := byteAt bs 3, xid := be (sub bs 4 4), secs := be (sub bs 8 2), flags := be (sub bs 10 2), client := be (sub bs 12 4), yours := be (sub bs 16 4), next := be (sub bs 20 4), relay := be (sub bs 24 4), station := sub bs 28 6, pad := sub bs 34 10, server := sub bs 44 64, file := sub bs 108 128 }, w30.heap.size⟩ w30 := (hWb.laterS k hL).addRow hrr (by show w.heap.size ≤ w.heap.size + 1; omega) (fun r hr => by obtain rfl := List.mem_singleton.1 hr; show w.heap.size ≠ w.heap.size + 1; omega)
  clear hok hqr hWb hL hrr k
  refine Goal.re (tags := tagL [(2, 0), (4, 1)]) (m := ⟨dgRow w { mz with op := byteAt bs 0, hops := byteAt bs 3, xid := be (sub bs 4 4), secs := be (sub bs 8 2), flags := be (sub bs 10 2), client := be (sub bs 12 4), yours := be (sub bs 16 4), next := be (sub bs 20 4), relay := be (sub bs 24 4), station := sub bs 28 6, pad := sub bs 34 10, server := sub bs 44 64, file := sub bs 108 128 }, w30.heap.size⟩) ?_
  exact dg_tail rfl (by omega) hl (by omega) (fun b hb => by have := hsv b hb; omega) hW cu
end
end Go.Proofs.Ytpnocepepihflaa
namespace Go.Proofs.Ytpnocepepihflaa
open Go.RowKit
section
variable {P : Program} {W0 : World} {Q : Exit → Act → World → Prop} {n : Nat} {gt : Nat → Option Nat} {unroll : Bool}
/-- Is the walk at a make? -/
def atMk (n : Nat) (c : Cfg) : Option (TypeId × Value × Value) :=
  match c.todo with
  | .ops ops (o :: _) _ _ :: _ => match wantV ops c.fr o with
    | some true => if allV c.fr o && dstOk n o then match o.op with
        | .makeSlice t x y => some (t, rho c.fr x, rho c.fr y)
        | _ => none
      else none
    | _ => none
  | _ => none
theorem mk_ok {c : Cfg} {w : World} {t : TypeId} {x y : Value} (ha : atMk n c = some (t, x, y)) {v : Value} {w' : World} (hr : (Instr.makeSlice t x y).run P w = .ok v w')
    (hg : Goal P Q n (resume c v w'.heap.size) w') : Goal P Q n c w := by
  obtain ⟨fr, tags, m, todo⟩ := c
  unfold atMk at ha
  simp only at ha
  split at ha
  case h_2 => cases ha
  split at ha
  case h_2 => cases ha
  rename_i ops o l i id k _ hw
  split at ha
  case isFalse => cases ha
  rename_i hall
  simp only [Bool.and_eq_true] at hall
  split at ha
  case h_2 => cases ha
  rename_i t' x' y' hop
  cases ha
  intro a hd hn ha
  show wpList P ops (KX P Q k) (o :: l) a w
  have hsel : ∀ cs b, o.op ≠ .select cs b := fun cs b e => by rw [hop] at e; cases e
  unfold wpList
  rw [wantV_wanted ha hw, if_pos rfl]
  refine .inl ?_
  unfold Oper.wp
  rw [execOp_congr o hsel (fun x hx => rho_eval ha hall.1 hx)]
  have hx : (execOp (fun x => rho fr x) o).run P w = .ok (.value v) w' := by
    unfold execOp
    simp only [hop, Sem.run_bind, Sem.run_pure, Result.andThen_ok, hr]
  rw [hx]
  exact hg (a.put o.dst v) (by rw [(put_size a o.dst v).2]; exact hd) (by rw [(put_size a o.dst v).1]; exact hn) (putV_spec ha hn hall.2 (fun u hu => Option.some.inj hu))
/-- Run to a make; what it comes to is owed. -/
theorem go_mk (fuel : Nat) (hs : List (Nat × Nat × HintS)) (t : TypeId) (x y : Value) (ts : List Tmp) (vs : List Value) (r : Tmp) (rows : List RowS) (tg : List (Nat × Nat)) (T : List K) (eqs : List (Value × Value)) (sems : List (Sem Value × Value)) {c : Cfg} {w : World}
    (hW : Wst W0 c.m w)
    (he : ((atMk n (run P n gt unroll hs fuel c).1, ts.map (run P n gt unroll hs fuel c).1.fr, (run P n gt unroll hs fuel c).1.m.rows, callDst (run P n gt unroll hs fuel c).1, (run P n gt unroll hs fuel c).2.eqs, (run P n gt unroll hs fuel c).2.sems), (run P n gt unroll hs fuel c).2.blks.map (·.1)) =
      ((some (t, x, y), vs.map some, rows, some (r, T), eqs, sems), (run P n gt unroll hs fuel c).2.blks.map (·.2)))
    (h1 : Eqs eqs) (h2 : SemObs P c.m w sems)
    (hk : ∀ w', Wst W0 ⟨rows, w'.heap.size⟩ w' → Seg c.m w ⟨rows, w'.heap.size⟩ w' → ∃ v w2, (Instr.makeSlice t x y).run P w' = .ok v w2 ∧ Goal P Q n ⟨frOf (r :: ts) (v :: vs), tagL tg, ⟨rows, w2.heap.size⟩, T⟩ w2) : Goal P Q n c w := by
  simp only [Prod.mk.injEq] at he
  obtain ⟨⟨e1, e0, er, ed, e2, e3⟩, e4⟩ := he
  refine run_ok fuel hW (Seg.refl _ _) ⟨?_, all_of_maps e4, ?_⟩ fun w' hW' hS' => ?_
  · rw [e2]; exact h1.mem
  · rw [e3]; exact h2.mem
  · have em : (run P n gt unroll hs fuel c).1.m = ⟨rows, w'.heap.size⟩ := by rw [← er, hW'.size]
    rw [em] at hW' hS'
    obtain ⟨v, w2, hr, hg⟩ := hk w' hW' hS'
    exact mk_ok e1 hr (goal_at ed e0 hg)
end
theorem mk_bytes (w : World) (n : Nat) (hn : n ≤ 1048576) : ∃ w' bs, bs.length = n ∧ (Instr.makeSlice 22 (.int .i64 (n : Int)) (.int .i64 (n : Int))).run Try.prog w = .ok (.slice (some ⟨w.heap.size, 0, none⟩) n n) w' ∧ Own 5 w' (.slice (some ⟨w.heap.size, 0, none⟩) n n) bs ∧ Keep No w w' := by
  obtain ⟨i, hi, hz1, hz2, hz3⟩ := bt.info
  obtain ⟨w', h1, h2, h3⟩ := run_makeSlice_full (P := Try.prog) (w := w) 0 22 5 i (.int .u8 0) 1 bt.sl hi hz3 hz1 .i64 .i64 n (by omega) (by rw [hz2]; omega) (by simp only [maxLen]; omega) (Nat.zero_le _)
  refine ⟨w', List.replicate n 0, List.length_replicate .., h1, ?_, ⟨h3.os, h3.tape, h3.output, h3.size, fun k hk _ => h3.block k hk (fun e => by cases e)⟩⟩
  unfold Own
  have e : (madeCells (Value.int .u8 0).cells (n * 1)).toList = bvs (List.replicate n 0) := by
    apply List.ext_getElem
    · simp [madeCells, bvs]
    · intro j h1 h2
      simp [madeCells, bvs, Value.cells, Nat.mod_one]
  rw [e] at h2
  rw [List.length_replicate]
  exact h2
end Go.Proofs.Ytpnocepepihflaa
namespace Go.Proofs.Ytpnocepepihflaa
open Go.RowKit
section
variable {P : Program} {W0 : World} {Q : Exit → Act → World → Prop} {n : Nat} {gt : Nat → Option Nat} {unroll : Bool}
/-- Is the walk at a copy? -/
def atCp (n : Nat) (c : Cfg) : Option (Value × Value × TypeId × TypeId) :=
  match c.todo with
  | .ops ops (o :: _) _ _ :: _ => match wantV ops c.fr o with
    | some true => if allV c.fr o && dstOk n o then match o.op with
        | .call { callee := .builtin .copy, args := ⟨[x, y]⟩, argTypes := ⟨[t, t']⟩ } => some (rho c.fr x, rho c.fr y, t, t')
        | _ => none
      else none
    | _ => none
  | _ => none
theorem cp_ok {c : Cfg} {w : World} {u s : Value} {t t' : TypeId} (ha : atCp n c = some (u, s, t, t')) {v : Value} {w' : World} (hr : ∀ ty, (Builtin.copy_ #[t, t'] ty #[u, s]).run P w = .ok v w')
    (hg : Goal P Q n (resume c v w'.heap.size) w') : Goal P Q n c w := by
  obtain ⟨fr, tags, m, todo⟩ := c
  unfold atCp at ha
  simp only at ha
  split at ha
  case h_2 => cases ha
  split at ha
  case h_2 => cases ha
  rename_i ops o l i id k _ hw
  split at ha
  case isFalse => cases ha
  rename_i hall
  simp only [Bool.and_eq_true] at hall
  split at ha
  case h_2 => cases ha
  rename_i x y t1 t2 hop
  cases ha
  intro a hd hn ha
  show wpList P ops (KX P Q k) (o :: l) a w
  have hsel : ∀ cs b, o.op ≠ .select cs b := fun cs b e => by rw [hop] at e; cases e
  unfold wpList
  rw [wantV_wanted ha hw, if_pos rfl]
  refine .inl ?_
  unfold Oper.wp
  rw [execOp_congr o hsel (fun x hx => rho_eval ha hall.1 hx)]
  have hx : (execOp (fun x => rho fr x) o).run P w = .ok (.value v) w' := by
    unfold execOp
    simp only [hop, resolve, invoke, builtin, Sem.run_bind, Sem.run_pure, Result.andThen_ok, List.map_toArray, List.map_cons, List.map_nil, hr]
  rw [hx]
  exact hg (a.put o.dst v) (by rw [(put_size a o.dst v).2]; exact hd) (by rw [(put_size a o.dst v).1]; exact hn) (putV_spec ha hn hall.2 (fun u hu => Option.some.inj hu))

/-- Run to a copy; what it comes to is owed. -/
theorem go_cp (fuel : Nat) (hs : List (Nat × Nat × HintS)) (u s : Value) (t : TypeId) (ts : List Tmp) (vs : List Value) (r : Tmp) (rows : List RowS) (tg : List (Nat × Nat)) (T : List K) (eqs : List (Value × Value)) (sems : List (Sem Value × Value)) {c : Cfg} {w : World}
    (hW : Wst W0 c.m w)
    (he : ((atCp n (run P n gt unroll hs fuel c).1, ts.map (run P n gt unroll hs fuel c).1.fr, (run P n gt unroll hs fuel c).1.m.rows, callDst (run P n gt unroll hs fuel c).1, (run P n gt unroll hs fuel c).2.eqs, (run P n gt unroll hs fuel c).2.sems), (run P n gt unroll hs fuel c).2.blks.map (·.1)) =
      ((some (u, s, t, t), vs.map some, rows, some (r, T), eqs, sems), (run P n gt unroll hs fuel c).2.blks.map (·.2)))
    (h1 : Eqs eqs) (h2 : SemObs P c.m w sems)
    (hk : ∀ w', Wst W0 ⟨rows, w'.heap.size⟩ w' → Seg c.m w ⟨rows, w'.heap.size⟩ w' → ∃ v w2, (∀ ty, (Builtin.copy_ #[t, t] ty #[u, s]).run P w' = .ok v w2) ∧ Goal P Q n ⟨frOf (r :: ts) (v :: vs), tagL tg, ⟨rows, w2.heap.size⟩, T⟩ w2) : Goal P Q n c w := by
  simp only [Prod.mk.injEq] at he
  obtain ⟨⟨e1, e0, er, ed, e2, e3⟩, e4⟩ := he
  refine run_ok fuel hW (Seg.refl _ _) ⟨?_, all_of_maps e4, ?_⟩ fun w' hW' hS' => ?_
  · rw [e2]; exact h1.mem
  · rw [e3]; exact h2.mem
  · have em : (run P n gt unroll hs fuel c).1.m = ⟨rows, w'.heap.size⟩ := by rw [← er, hW'.size]
    rw [em] at hW' hS'
    obtain ⟨v, w2, hr, hg⟩ := hk w' hW' hS'
    exact cp_ok e1 hr (goal_at ed e0 hg)
/-- Run to an append; what it comes to is owed. -/
theorem go_appX (fuel : Nat) (hs : List (Nat × Nat × HintS)) (u s : Value) (t : TypeId) (ts : List Tmp) (vs : List Value) (r : Tmp) (rows : List RowS) (tg : List (Nat × Nat)) (T : List K) (eqs : List (Value × Value)) (sems : List (Sem Value × Value)) {c : Cfg} {w : World}
    (hW : Wst W0 c.m w)
    (he : ((atApp n (run P n gt unroll hs fuel c).1, ts.map (run P n gt unroll hs fuel c).1.fr, (run P n gt unroll hs fuel c).1.m.rows, callDst (run P n gt unroll hs fuel c).1, (run P n gt unroll hs fuel c).2.eqs, (run P n gt unroll hs fuel c).2.sems), (run P n gt unroll hs fuel c).2.blks.map (·.1)) =
      ((some (u, s, t, t), vs.map some, rows, some (r, T), eqs, sems), (run P n gt unroll hs fuel c).2.blks.map (·.2)))
    (h1 : Eqs eqs) (h2 : SemObs P c.m w sems)
    (hk : ∀ w', Wst W0 ⟨rows, w'.heap.size⟩ w' → Seg c.m w ⟨rows, w'.heap.size⟩ w' → ∃ v w2, (∀ ty, (Builtin.append_ #[t, t] ty #[u, s]).run P w' = .ok v w2) ∧ Goal P Q n ⟨frOf (r :: ts) (v :: vs), tagL tg, ⟨rows, w2.heap.size⟩, T⟩ w2) : Goal P Q n c w := by
  simp only [Prod.mk.injEq] at he
  obtain ⟨⟨e1, e0, er, ed, e2, e3⟩, e4⟩ := he
  refine run_ok fuel hW (Seg.refl _ _) ⟨?_, all_of_maps e4, ?_⟩ fun w' hW' hS' => ?_
  · rw [e2]; exact h1.mem
  · rw [e3]; exact h2.mem
  · have em : (run P n gt unroll hs fuel c).1.m = ⟨rows, w'.heap.size⟩ := by rw [← er, hW'.size]
    rw [em] at hW' hS'
    obtain ⟨v, w2, hr, hg⟩ := hk w' hW' hS'
    exact app_ok e1 hr (goal_at ed e0 hg)
end
end Go.Proofs.Ytpnocepepihflaa
namespace Go.Proofs.Ytpnocepepihflaa
open Go.RowKit

/-- A slice without room behind it. -/
def Fu (w : World) (v : Value) (bs : List UInt8) : Prop := ∃ b o, v = .slice (some ⟨b, o, none⟩) bs.length bs.length ∧ Rd w v bs ∧ b < w.heap.size
theorem Fu.keep0 {w w' : World} {v : Value} {bs : List UInt8} (h : Fu w v bs) (k : Keep No w w') : Fu w' v bs := by
  obtain ⟨b, o, h1, h2, h3⟩ := h
  exact ⟨b, o, h1, h2.keep0 k, Nat.lt_of_lt_of_le h3 k.size⟩
section
variable {P : Program} {w w0 : World} {v s : Value} {bs ys : List UInt8} {t e : TypeId}
/-- 'append' onto a slice without room. -/
theorem run_append_fb (T : BT P t e) (hu : Fu w v bs) (r : Rd w s ys) (hn : bs.length + ys.length ≤ 140737488351232) :
    ∃ v' w', (∀ ty, (Builtin.append_ #[t, t] ty #[v, s]).run P w = .ok v' w') ∧ Rd w' v' (bs ++ ys) ∧ Keep No w w' ∧ (∀ k, v'.ownBlock = some k → v.ownBlock = some k ∨ w.heap.size ≤ k) ∧ Under w'.heap.size v' := by
  obtain ⟨i, hi, hz1, hz2, hz3⟩ := T.info
  obtain ⟨b, off, rfl, hu, hb⟩ := hu
  have hub : Under w.heap.size (.slice (some ⟨b, off, none⟩) bs.length bs.length) := fun b' h => by
    obtain rfl : b = b' := by simpa [Value.ownBlock] using h
    exact hb
  cases hnil : isNil s with
  | true =>
    obtain ⟨rfl, rfl⟩ := r.of_nil hnil
    refine ⟨_, w, fun ty => ?_, by simpa using hu, Keep.refl _ _, fun k h => .inl h, hub⟩
    simp [Builtin.append_, run_underlying T.sl, sizeOf, typeInfo, hi, Builtin.lenOf, Builtin.firstCells, storeCells]
  | false =>
    obtain ⟨a, cap, rfl⟩ := r.of_not_nil hnil
    have hnews : ∀ j u, (bvs ys)[j]? = some u → w.cell? (a.add j) = some u := fun j u hj => by
      by_cases hjl : j < ys.length
      · obtain ⟨b', o', hbo⟩ := r.addr (by omega)
        cases hbo
        rw [bvs_get hjl] at hj
        cases hj
        have := r.cell j hjl
        simpa [blk, offs, Addr_add_mk] using this
      · rw [List.getElem?_eq_none (by simpa [bvs_length] using hjl)] at hj; cases hj
    rcases Nat.eq_zero_or_pos ys.length with hy | hy
    · have hy' : ys = [] := List.length_eq_zero_iff.1 hy
      subst hy'
      refine ⟨_, w, fun ty => ?_, by simpa using hu, Keep.refl _ _, fun k h => .inl h, hub⟩
      have := run_append_room_cells (P := P) w t ty e i T.sl hi b off bs.length bs.length a 0 cap [] (by simp) (by simp) (by simp) (by omega) (by simp) (by simp)
      simpa [World.setCells] using this
    · have key := fun ty => run_append_arg_grows (P := P) w t ty e i (.int .u8 0) 1 1 T.sl hi hz3 hz1 hz2 rfl (by decide) ⟨b, off, none⟩ bs.length bs.length (bvs bs) (by simp [bvs_length])
        (fun j u hj => by
          by_cases hjl : j < bs.length
          · have := hu.cell j hjl
            rw [bvs_get hjl] at hj
            cases hj
            simpa [blk, offs, Addr_add_mk] using this
          · rw [List.getElem?_eq_none (by simpa [bvs_length] using hjl)] at hj; cases hj)
        a ys.length cap (bvs ys) (by simp [bvs_length]) hnews (by omega) (by simp only [maxLen]; omega) (by omega)
      obtain ⟨v', w', hr, h2, h3⟩ := key 0
      have ho : Own e w' v' (bs ++ ys) := by
        obtain ⟨q1, q2⟩ := h2
        unfold Own
        rw [List.length_append, bvs_append]
        refine ⟨q1, ?_⟩
        rcases q2 with q2 | ⟨g, cp, cur, e1, e2, e3, e4⟩
        · exact .inl q2
        · exact .inr ⟨g, cp, cur, e1, Nat.zero_le _, e3, e4⟩
      refine ⟨v', w', fun ty => hr, ho.rd, ⟨h3.os, h3.tape, h3.output, h3.size, fun k hk hn => h3.block k hk (fun e => by cases e)⟩, fun k hk => ?_, ho.lt⟩
      obtain ⟨q1, q2⟩ := h2
      rcases q2 with ⟨_, q2⟩ | ⟨g, cp, cur, e1, e2, e3, e4, e5, e6, e7⟩
      · omega
      · rw [e1] at hk
        obtain rfl : g = k := by simpa [Value.ownBlock] using hk
        exact .inr e2
end
end Go.Proofs.Ytpnocepepihflaa
namespace Go.Proofs.Ytpnocepepihflaa
open Go.RowKit

theorem mk_zero (w : World) (n : Nat) (hn : n ≤ 1048576) (hp : 0 < n) : ∃ w' t, (Instr.makeSlice 22 (.int .i64 (n : Int)) (.int .i64 (n : Int))).run Try.prog w = .ok (.slice (some ⟨w.heap.size, 0, none⟩) n n) w' ∧ w'.heap[w.heap.size]? = some (.cells (bvs (List.replicate n 0)).toArray t (0, 0)) ∧ Keep No w w' := by
  obtain ⟨i, hi, hz1, hz2, hz3⟩ := bt.info
  obtain ⟨w', h1, h2, h3⟩ := run_makeSlice_full (P := Try.prog) (w := w) 0 22 5 i (.int .u8 0) 1 bt.sl hi hz3 hz1 .i64 .i64 n (by omega) (by rw [hz2]; omega) (by simp only [maxLen]; omega) (Nat.zero_le _)
  have e : (madeCells (Value.int .u8 0).cells (n * 1)).toList = bvs (List.replicate n 0) := by
    apply List.ext_getElem
    · simp [madeCells, bvs]
    · intro j h1 h2
      simp [madeCells, bvs, Value.cells, Nat.mod_one]
  rw [e] at h2
  obtain ⟨_, h2⟩ := h2
  rcases h2 with ⟨_, h0⟩ | ⟨g, cap, cur, heq, _, hg, hc, hm, hs, ht⟩
  · omega
  · cases heq
    refine ⟨w', 5, h1, ?_, ⟨h3.os, h3.tape, h3.output, h3.size, fun k hk _ => h3.block k hk (fun e => by cases e)⟩⟩
    rw [List.take_of_length_le (by simp [hs])] at ht
    rw [hg, ← ht]
def plainL : List UInt8 := [1, 1, 6] ++ List.replicate 233 0 ++ [99, 130, 83, 99]
noncomputable abbrev plC : Code := bodyOf Try.f26
abbrev nwQ (w : World) (l : List UInt8) : Ending → World → Prop := fun x w' => ∃ v, x = .returned v ∧ Keep No w w' ∧ NewB w.heap.size w' v l
section
variable {w : World} {v : Value} {ys : List UInt8}
set_option maxRecDepth 8000 in
theorem plain_any (r : Rd w v ys) (hl : ys.length ≤ 1000000) : Calls Try.prog 26 #[v] w (nwQ w (plainL ++ ys)) := by
  refine enter (args := [v]) Try.func26 (by kernel_rfl) ?_
  refine go_mk (gt := fun _ => Option.none) (unroll := false) 60 [(1, 0, .stop)] 22 (.int .i64 240) (.int .i64 240) [0] [v] 4 [] [] (inR plC 1 0) [] [] (Wst.start0 w) (by kernel_rfl) trivial trivial ?_
  intro w1 hW1 _
  obtain ⟨w2, t2, hrun, hrow, k2⟩ := mk_zero w1 240 (by omega) (by omega)
  refine ⟨_, w2, hrun, ?_⟩
  have h1s := hW1.keep.size
  have hW2 : Wst w ⟨[] ++ [⟨w1.heap.size, bvs (List.replicate 240 0), true⟩], w2.heap.size⟩ w2 := (hW1.later k2).addRow hrow h1s (fun _ h => nomatch h)
  refine Goal.re (tags := tagL [(4, 0)]) (m := ⟨[⟨w1.heap.size, bvs (List.replicate 240 0), true⟩], w2.heap.size⟩) ?_
  refine go_cp (gt := fun _ => Option.none) (unroll := false) 60 [(2, 2, .stop)] (.slice (some ⟨w1.heap.size, 0, none⟩) 240 240) (.slice (some ⟨w2.heap.size, 0, none⟩) 3 3) 22 [0, 3] [v, .slice (some ⟨w1.heap.size, 0, none⟩) 240 240] 7 [⟨w1.heap.size, bvs (List.replicate 240 0), true⟩, ⟨w2.heap.size, bvs [1, 1, 6], true⟩] [] (inR plC 2 2) [] [] hW2 (by kernel_rfl) trivial trivial ?_
  intro w3 hW3 _
  obtain ⟨t3, hr3⟩ := hW3.rows ⟨w1.heap.size, bvs (List.replicate 240 0), true⟩ (by simp)
  have src : Rd w3 (.slice (some ⟨w2.heap.size, 0, none⟩) 3 3) [1, 1, 6] := Rd.of_row (bs := [1, 1, 6]) (cs := bvs [1, 1, 6]) (ow := true) hW3 (by simp) 3 rfl (by simp [maxLen]) (fun i hi => by rw [Nat.zero_add]; exact bvs_get hi)
  have c1 := fun ty => run_copy_b (P := Try.prog) (w := w3) bt ty (dl := 240) (dc := 240) (o := 0) hr3 src (by simp) (by simp [bvs_length])
  have e1 : ((bvs (List.replicate 240 0)).toArray.toList.take 0 ++ bvs [1, 1, 6] ++ (bvs (List.replicate 240 0)).toArray.toList.drop (0 + ([1, 1, 6] : List UInt8).length)) = bvs ([1, 1, 6] ++ List.replicate 237 0) := by kernel_rfl
  rw [e1] at c1
  have k3 : Keep (One w1.heap.size) w3 (w3.setRow w1.heap.size (bvs ([1, 1, 6] ++ List.replicate 237 0)).toArray) := Keep.setRow _ _
  have hg3 := setRow_heap w3 w1.heap.size _ (bvs ([1, 1, 6] ++ List.replicate 237 0)).toArray _ _ hr3
  refine ⟨_, _, c1, ?_⟩
  generalize w3.setRow w1.heap.size (bvs ([1, 1, 6] ++ List.replicate 237 0)).toArray = w4 at *
  have hlo : ∀ {wx : World}, Loose w ⟨[], wx.heap.size⟩ (One w1.heap.size) := fun k hk => ⟨by rw [show k = w1.heap.size from hk]; exact h1s, fun _ h => nomatch h⟩
  have hW4 : Wst w ⟨[] ++ [⟨w1.heap.size, bvs ([1, 1, 6] ++ List.replicate 237 0), true⟩], w4.heap.size⟩ w4 := ((hW3.fewer (rows := [])).laterS k3 hlo).addRow hg3 h1s (fun _ h => nomatch h)
  refine Goal.re (tags := tagL [(3, 0)]) (m := ⟨[⟨w1.heap.size, bvs ([1, 1, 6] ++ List.replicate 237 0), true⟩], w4.heap.size⟩) ?_
  refine go_cp (gt := fun _ => Option.none) (unroll := false) 60 [(3, 3, .stop)] (.slice (some ⟨w1.heap.size, 236, none⟩) 4 4) (.slice (some ⟨w4.heap.size, 0, none⟩) 4 4) 22 [0, 3] [v, .slice (some ⟨w1.heap.size, 0, none⟩) 240 240] 11 [⟨w1.heap.size, bvs ([1, 1, 6] ++ List.replicate 237 0), true⟩, ⟨w4.heap.size, bvs [99, 130, 83, 99], true⟩] [] (inR plC 3 3) [] [] hW4 (by kernel_rfl) trivial trivial ?_
  intro w5 hW5 _
  obtain ⟨t5, hr5⟩ := hW5.rows ⟨w1.heap.size, bvs ([1, 1, 6] ++ List.replicate 237 0), true⟩ (by simp)
  have src5 : Rd w5 (.slice (some ⟨w4.heap.size, 0, none⟩) 4 4) [99, 130, 83, 99] := Rd.of_row (bs := [99, 130, 83, 99]) (cs := bvs [99, 130, 83, 99]) (ow := true) hW5 (by simp) 4 rfl (by simp [maxLen]) (fun i hi => by rw [Nat.zero_add]; exact bvs_get hi)
  have c2 := fun ty => run_copy_b (P := Try.prog) (w := w5) bt ty (dl := 4) (dc := 4) (o := 236) hr5 src5 (by simp) (by simp [bvs_length])
  have e2 : ((bvs ([1, 1, 6] ++ List.replicate 237 0)).toArray.toList.take 236 ++ bvs [99, 130, 83, 99] ++ (bvs ([1, 1, 6] ++ List.replicate 237 0)).toArray.toList.drop (236 + ([99, 130, 83, 99] : List UInt8).length)) = bvs plainL := by kernel_rfl
  rw [e2] at c2
  have k5 : Keep (One w1.heap.size) w5 (w5.setRow w1.heap.size (bvs plainL).toArray) := Keep.setRow _ _
  have hg5 := setRow_heap w5 w1.heap.size _ (bvs plainL).toArray _ _ hr5
  refine ⟨_, _, c2, ?_⟩
  generalize w5.setRow w1.heap.size (bvs plainL).toArray = w6 at *
  have hW6 : Wst w ⟨[] ++ [⟨w1.heap.size, bvs plainL, true⟩], w6.heap.size⟩ w6 := ((hW5.fewer (rows := [])).laterS k5 hlo).addRow hg5 h1s (fun _ h => nomatch h)
  refine Goal.re (tags := tagL [(3, 0)]) (m := ⟨[⟨w1.heap.size, bvs plainL, true⟩], w6.heap.size⟩) ?_
  refine go_appX (gt := fun _ => Option.none) (unroll := false) 60 [(4, 2, .stop)] (.slice (some ⟨w1.heap.size, 0, none⟩) 240 240) v 22 [] [] 14 [⟨w1.heap.size, bvs plainL, true⟩] [] (inR plC 4 2) [] [] hW6 (by kernel_rfl) trivial trivial ?_
  intro w7 hW7 _
  have hpl : plainL.length = 240 := rfl
  have rp : Rd w7 (.slice (some ⟨w1.heap.size, 0, none⟩) 240 240) plainL := Rd.of_row (bs := plainL) (cs := bvs plainL) (ow := true) hW7 (by simp) 240 hpl (by simp [maxLen]) (fun i hi => by rw [Nat.zero_add]; exact bvs_get hi)
  have hlt7 : w1.heap.size < w7.heap.size := by obtain ⟨t, ht⟩ := hW7.rows _ (List.mem_singleton.2 rfl); exact block_of_row ht
  obtain ⟨v', w8, hrun8, rd8, k8, own8, un8⟩ := run_append_fb bt (⟨w1.heap.size, 0, rfl, rp, hlt7⟩ : Fu w7 (.slice (some ⟨w1.heap.size, 0, none⟩) 240 240) plainL) (r.keep0 hW7.keep) (by omega)
  refine ⟨v', w8, hrun8, ?_⟩
  have hW8 : Wst w ⟨[], w8.heap.size⟩ w8 := (hW7.fewer (rows := [])).later k8
  refine Goal.re (tags := tagL []) (m := ⟨[], w8.heap.size⟩) ?_
  refine go_ret (gt := fun _ => Option.none) (unroll := false) 60 [] [.tmp 2] v' [] [] hW8 Try.results26 (by kernel_rfl) trivial trivial ?_
  intro w9 hW9 hS9
  have h7s := hW7.keep.size
  have si : Since w.heap.size v' := fun b hb => by
    rcases own8 b hb with h | h
    · obtain rfl : w1.heap.size = b := Option.some.inj h
      exact h1s
    · exact Nat.le_trans h7s h
  exact ⟨v', rfl, hW9.keep, rd8.safe (m := ⟨[], w8.heap.size⟩) (fun b hb => ⟨un8 b hb, fun _ h => nomatch h⟩) hS9.same, si, by rw [hW9.size]; exact un8.mono hS9.le⟩
end
end Go.Proofs.Ytpnocepepihflaa
namespace Go.Proofs.Ytpnocepepihflaa
open Go.RowKit

def numR (bs : List UInt8) : Nat × Bool := if bs.length = 4 then (be bs, true) else (0, false)
noncomputable abbrev dnC : Code := bodyOf Try.f8
abbrev dnQ (w : World) (r : Nat × Bool) : Ending → World → Prop := fun x w' => x = .returned (.tuple #[.int .u32 (r.1 : Int), .bool r.2]) ∧ Keep No w w'
theorem takeB_all {bs : List UInt8} {n : Nat} (h : bs.length = n) : takeB bs 0 0 (n : Int) = bs := by
  rw [takeB, if_pos ⟨rfl, by omega, by omega⟩]
  simp [← h]
section
variable {w : World} {m : Mh} {so sb : Sb} {l : List Oe} {c : UInt8}
theorem mnumber_any (r : RoV false w so.v l) (hl : l.length ≤ 1000000) (hv : (valE c l).length ≤ 1099511627776) : Calls Try.prog 8 #[.agg (m.a so.v sb.v), bv c] w (dnQ w (numR (valE c l))) := by
  refine enter (args := [.agg (m.a so.v sb.v), bv c]) Try.func8 (by kernel_rfl) ?_
  refine go_call_is (gt := fun _ => Option.none) (unroll := false) 60 [] 7 [.agg (m.a so.v sb.v), bv c] [] [] 11 [⟨w.heap.size, (m.a so.v sb.v).toList, true⟩] [] (inR dnC 1 2) [] [] (Wst.start0 w) (by kernel_rfl) trivial trivial ?_
  intro w1 hW1 _
  refine (value_any (m := m) (sb := sb) (r.keep0 hW1.keep) hl hv).mono ?_
  rintro x w2 ⟨v, rfl, rv, k2, si, un⟩
  refine ⟨_, rfl, ?_⟩
  have hW2 : Wst w ⟨[], w2.heap.size⟩ w2 := (hW1.later k2).fewer (rows := [])
  refine Goal.re (tags := tagL []) (m := ⟨[], w2.heap.size⟩) ?_
  generalize valE c l = bs at *
  by_cases h4 : bs.length = 4
  · have e : numR bs = (be bs, true) := if_pos h4
    rw [e]
    refine go_call_is (gt := fun _ => Option.none) (unroll := false) 60 [(2, 1, .sem (.int .i64 (bs.length : Int))), (2, 2, .is (.bool false))] 27 [v] [] [] 18 [] [] (inR dnC 4 1) [(.bool ((bs.length : Int) != 4), .bool false)] [(Builtin.len_ #[22] 3 #[v], .int .i64 (bs.length : Int))] hW2 (by kernel_rfl) ⟨congrArg Value.bool (by simp [h4]), trivial⟩ ⟨fun wx _ => rv.run_len (ty := 3) bt.sl, trivial⟩ ?_
    intro w3 hW3 hS3
    have rv3 : Rd w3 v bs := rv.safe (m := ⟨[], w2.heap.size⟩) (fun b hb => ⟨un b hb, fun _ h => nomatch h⟩) hS3.same
    refine (new_any rv3 (by omega)).mono ?_
    rintro x w4 ⟨p, sv, rfl, cu, k4, hp, hsv⟩
    refine ⟨_, rfl, ?_⟩
    have hW4 := hW3.later k4
    refine go_call_is (gt := fun _ => Option.none) (unroll := false) 60 [] 28 [.pointer (some ⟨p, 0, none⟩)] [] [] 19 [] [] (inR dnC 4 2) [] [] hW4 (by kernel_rfl) trivial trivial ?_
    intro w5 hW5 hS5
    have cu5 : Cu w5 p sv bs 0 0 := cu.walk (rows := []) (fun _ h => nomatch h) hS5 hW5
    refine (four_any cu5).mono ?_
    rintro x w6 ⟨rfl, _, k6⟩
    refine ⟨_, rfl, ?_⟩
    rw [show takeB bs 0 0 4 = bs from takeB_all (n := 4) h4]
    have hW6 := hW5.laterS k6 (fun k hk => ⟨by rw [show k = p from hk]; exact Nat.le_trans hW3.keep.size hp, fun _ h => nomatch h⟩)
    exact go_ret (gt := fun _ => Option.none) (unroll := false) 60 [] [.tmp 4, .tmp 5] (.tuple #[.int .u32 (be bs : Nat), .bool true]) [] [] hW6 Try.results8 (by kernel_rfl) trivial trivial (fun w9 hW9 _ => ⟨rfl, hW9.keep⟩)
  · have e : numR bs = (0, false) := if_neg h4
    rw [e]
    exact go_ret (gt := fun _ => Option.none) (unroll := false) 60 [(2, 1, .sem (.int .i64 (bs.length : Int))), (2, 2, .is (.bool true))] [.tmp 4, .tmp 5] (.tuple #[.int .u32 0, .bool false]) [(.bool ((bs.length : Int) != 4), .bool true)] [(Builtin.len_ #[22] 3 #[v], .int .i64 (bs.length : Int))] hW2 Try.results8 (by kernel_rfl)
      ⟨congrArg Value.bool (by simp; omega), trivial⟩ ⟨fun wx _ => rv.run_len (ty := 3) bt.sl, trivial⟩ (fun w9 hW9 _ => ⟨rfl, hW9.keep⟩)
theorem mwanted_any (r : RoV false w so.v l) (hl : l.length ≤ 1000000) (hv : (valE 50 l).length ≤ 1099511627776) : Calls Try.prog 22 #[.agg (m.a so.v sb.v)] w (dnQ w (numR (valE 50 l))) := by
  refine enter (args := [.agg (m.a so.v sb.v)]) Try.func22 (by kernel_rfl) ?_
  refine go_call_is (gt := fun _ => Option.none) (unroll := false) 60 [] 8 [.agg (m.a so.v sb.v), bv 50] [] [] 8 [⟨w.heap.size, (m.a so.v sb.v).toList, true⟩] [] (inR (bodyOf Try.f22) 1 1) [] [] (Wst.start0 w) (by kernel_rfl) trivial trivial ?_
  intro w1 hW1 _
  refine (mnumber_any (m := m) (sb := sb) (r.keep0 hW1.keep) hl hv).mono ?_
  rintro x w2 ⟨rfl, k2⟩
  refine ⟨_, rfl, ?_⟩
  generalize numR (valE 50 l) = q
  exact go_ret (gt := fun _ => Option.none) (unroll := false) 60 [] [.tmp 2, .tmp 3] (.tuple #[.int .u32 (q.1 : Int), .bool q.2]) [] [] (hW1.later k2) Try.results22 (by kernel_rfl) trivial trivial (fun w9 hW9 _ => ⟨rfl, hW9.keep⟩)
theorem mlease_any (r : RoV false w so.v l) (hl : l.length ≤ 1000000) (hv : (valE 51 l).length ≤ 1099511627776) : Calls Try.prog 23 #[.agg (m.a so.v sb.v)] w (dnQ w (numR (valE 51 l))) := by
  refine enter (args := [.agg (m.a so.v sb.v)]) Try.func23 (by kernel_rfl) ?_
  refine go_call_is (gt := fun _ => Option.none) (unroll := false) 60 [] 8 [.agg (m.a so.v sb.v), bv 51] [] [] 5 [⟨w.heap.size, (m.a so.v sb.v).toList, true⟩] [] (inR (bodyOf Try.f23) 1 1) [] [] (Wst.start0 w) (by kernel_rfl) trivial trivial ?_
  intro w1 hW1 _
  refine (mnumber_any (m := m) (sb := sb) (r.keep0 hW1.keep) hl hv).mono ?_
  rintro x w2 ⟨rfl, k2⟩
  refine ⟨_, rfl, ?_⟩
  generalize numR (valE 51 l) = q
  exact go_ret (gt := fun _ => Option.none) (unroll := false) 60 [] [.tmp 2, .tmp 3] (.tuple #[.int .u32 (q.1 : Int), .bool q.2]) [] [] (hW1.later k2) Try.results23 (by kernel_rfl) trivial trivial (fun w9 hW9 _ => ⟨rfl, hW9.keep⟩)
/-- A type: 0 where there is none. -/
def typR (bs : List UInt8) : Nat := if bs.length = 1 ∧ (byteAt bs 0).toNat ≤ 8 then (byteAt bs 0).toNat else 0
noncomputable abbrev dtC : Code := bodyOf Try.f10
abbrev dtQ (w : World) (n : Nat) : Ending → World → Prop := fun x w' => x = .returned (.int .i64 (n : Int)) ∧ Keep No w w'
theorem mtype_any (r : RoV false w so.v l) (hl : l.length ≤ 1000000) (hv : (valE 53 l).length ≤ 1099511627776) : Calls Try.prog 10 #[.agg (m.a so.v sb.v)] w (dtQ w (typR (valE 53 l))) := by
  refine enter (args := [.agg (m.a so.v sb.v)]) Try.func10 (by kernel_rfl) ?_
  refine go_call_is (gt := fun _ => Option.none) (unroll := false) 60 [] 7 [.agg (m.a so.v sb.v), bv 53] [] [] 7 [⟨w.heap.size, (m.a so.v sb.v).toList, true⟩] [] (inR dtC 1 1) [] [] (Wst.start0 w) (by kernel_rfl) trivial trivial ?_
  intro w1 hW1 _
  refine (value_any (m := m) (sb := sb) (r.keep0 hW1.keep) hl hv).mono ?_
  rintro x w2 ⟨v, rfl, rv, k2, si, un⟩
  refine ⟨_, rfl, ?_⟩
  have hW2 : Wst w ⟨[], w2.heap.size⟩ w2 := (hW1.later k2).fewer (rows := [])
  refine Goal.re (tags := tagL []) (m := ⟨[], w2.heap.size⟩) ?_
  generalize valE 53 l = bs at *
  have ld : ∀ (hn : 0 < bs.length) (wx : World), (∀ k, Safe ⟨[], w2.heap.size⟩ k → wx.heap[k]? = w2.heap[k]?) → (Instr.loadAt 5 (.pointer (some (adr v 0)))).run Try.prog wx = .ok (bv (byteAt bs 0)) wx := fun hn wx hx => (rv.safe (m := ⟨[], w2.heap.size⟩) (fun b hb => ⟨un b hb, fun _ h => nomatch h⟩) hx).sem_ld (i := 0) hn
  by_cases h1 : bs.length = 1
  · by_cases h8 : (byteAt bs 0).toNat ≤ 8
    · have e : typR bs = (byteAt bs 0).toNat := if_pos ⟨h1, h8⟩
      rw [e]
      exact go_ret (gt := fun _ => Option.none) (unroll := false) 60 [(2, 1, .sem (.int .i64 (bs.length : Int))), (2, 2, .is (.bool false)), (2, 5, .sem (.pointer (some (adr v 0)))), (2, 6, .sem (bv (byteAt bs 0))), (2, 7, .is (.bool false)), (4, 1, .sem (.pointer (some (adr v 0)))), (4, 2, .sem (bv (byteAt bs 0))), (4, 3, .is (.int .i64 ((byteAt bs 0).toNat : Int)))] [.tmp 2] (.int .i64 ((byteAt bs 0).toNat : Int))
        [(.bool ((bs.length : Int) != 1), .bool false), (.bool (decide (((byteAt bs 0).toNat : Int) > 8)), .bool false), (.int .i64 (IntKind.i64.wrap ((byteAt bs 0).toNat : Int)), .int .i64 ((byteAt bs 0).toNat : Int))]
        [(Builtin.len_ #[22] 3 #[v], .int .i64 (bs.length : Int)), (Instr.indexAt 22 v (.int .i64 0), .pointer (some (adr v 0))), (Instr.loadAt 5 (.pointer (some (adr v 0))), bv (byteAt bs 0)), (Instr.indexAt 22 v (.int .i64 0), .pointer (some (adr v 0))), (Instr.loadAt 5 (.pointer (some (adr v 0))), bv (byteAt bs 0))]
        hW2 Try.results10 (by kernel_rfl) ⟨congrArg Value.bool (by simp [h1]), congrArg Value.bool (decide_eq_false (by omega)), congrArg (Value.int .i64) (i64_small (by omega) (by omega)), trivial⟩
        ⟨fun wx _ => rv.run_len (ty := 3) bt.sl, fun wx _ => rv.sem_at (i := 0) (by omega) wx, ld (by omega), fun wx _ => rv.sem_at (i := 0) (by omega) wx, ld (by omega), trivial⟩ (fun w9 hW9 _ => ⟨rfl, hW9.keep⟩)
    · have e : typR bs = 0 := if_neg (fun h => h8 h.2)
      rw [e]
      exact go_ret (gt := fun _ => Option.none) (unroll := false) 60 [(2, 1, .sem (.int .i64 (bs.length : Int))), (2, 2, .is (.bool false)), (2, 5, .sem (.pointer (some (adr v 0)))), (2, 6, .sem (bv (byteAt bs 0))), (2, 7, .is (.bool true))] [.tmp 2] (.int .i64 0)
        [(.bool ((bs.length : Int) != 1), .bool false), (.bool (decide (((byteAt bs 0).toNat : Int) > 8)), .bool true)]
        [(Builtin.len_ #[22] 3 #[v], .int .i64 (bs.length : Int)), (Instr.indexAt 22 v (.int .i64 0), .pointer (some (adr v 0))), (Instr.loadAt 5 (.pointer (some (adr v 0))), bv (byteAt bs 0))]
        hW2 Try.results10 (by kernel_rfl) ⟨congrArg Value.bool (by simp [h1]), congrArg Value.bool (decide_eq_true (by omega)), trivial⟩
        ⟨fun wx _ => rv.run_len (ty := 3) bt.sl, fun wx _ => rv.sem_at (i := 0) (by omega) wx, ld (by omega), trivial⟩ (fun w9 hW9 _ => ⟨rfl, hW9.keep⟩)
  · have e : typR bs = 0 := if_neg (fun h => h1 h.1)
    rw [e]
    exact go_ret (gt := fun _ => Option.none) (unroll := false) 60 [(2, 1, .sem (.int .i64 (bs.length : Int))), (2, 2, .is (.bool true))] [.tmp 2] (.int .i64 0) [(.bool ((bs.length : Int) != 1), .bool true)] [(Builtin.len_ #[22] 3 #[v], .int .i64 (bs.length : Int))] hW2 Try.results10 (by kernel_rfl)
      ⟨congrArg Value.bool (by simp; omega), trivial⟩ ⟨fun wx _ => rv.run_len (ty := 3) bt.sl, trivial⟩ (fun w9 hW9 _ => ⟨rfl, hW9.keep⟩)
end
end Go.Proofs.Ytpnocepepihflaa
namespace Go.Proofs.Ytpnocepepihflaa
open Go.RowKit

def valO (c : UInt8) (l : List Opt) : List UInt8 := (l.filter fun x => x.1 == c && (c != 0 && c != 255)).flatMap (·.2)
theorem valE_o (c : UInt8) (l : List Oe) : valE c l = valO c (l.map Oe.o) := by
  unfold valE valO
  rw [List.filter_map, List.flatMap_map]
  rfl
theorem NewB.hx {W w w' : World} {rows : List RowS} {v : Value} {l : List UInt8} (h : NewB w.heap.size w' v l) (hW : Wst W ⟨rows, w.heap.size⟩ w) : Hx rows w' v l := ⟨h.rd, fun b hb _ => ⟨h.un b hb, fun r hr _ => by
  obtain ⟨t, ht⟩ := hW.rows r hr
  have h1 : r.b < w.heap.size := block_of_row ht
  have h2 := h.si b hb
  omega⟩⟩
theorem NewO.hx {W w w' : World} {rows : List RowS} {v : Value} {l : List Oe} (h : NewO w.heap.size w' v l) (hW : Wst W ⟨rows, w.heap.size⟩ w) : HxO false rows w' v l := ⟨h.ro, fun b hb _ => ⟨h.un b hb, fun r hr _ => by
  obtain ⟨t, ht⟩ := hW.rows r hr
  have h1 : r.b < w.heap.size := block_of_row ht
  have h2 := h.si b hb
  omega⟩, fun e he => (h.each e he).hx hW⟩
def L2 : List UInt8 := [255]
def L3 : List UInt8 := [0, 53, 1, 5, 0, 255]
def L4 : List UInt8 := [53, 1, 1, 53, 1, 2, 255]
theorem g2 : getR (plainL ++ L2) = (some (getH (plainL ++ L2), ([], [])), 0) := by kernel_rfl
theorem g3 : getR (plainL ++ L3) = (some (getH (plainL ++ L3), ([(53, [5])], [])), 0) := by kernel_rfl
theorem g4 : getR (plainL ++ L4) = (some (getH (plainL ++ L4), ([(53, [1]), (53, [2])], [])), 0) := by kernel_rfl
noncomputable abbrev wkC : Code := bodyOf Try.f11
abbrev trQ (w : World) : Ending → World → Prop := fun x w' => x = .returned (.bool true) ∧ Keep No w w'
set_option maxRecDepth 8000 in
theorem wakes_any (w : World) : Calls Try.prog 11 #[] w (trQ w) := by
  refine enter (args := []) Try.func11 (by kernel_rfl) ?_
  refine go_call_is (gt := fun _ => Option.none) (unroll := false) 60 [] 26 [nilV] [] [] 10 [] [] (inR wkC 1 0) [] [] (Wst.start0 w) (by kernel_rfl) trivial trivial ?_
  intro w1 hW1 _
  refine (plain_any (Rd.nil w1) (by simp)).mono ?_
  rintro x w2 ⟨v1, rfl, k2, n2⟩
  refine ⟨_, rfl, ?_⟩
  have hW2 := hW1.later k2
  have h2 := n2.hx hW1
  refine go_call_is (gt := fun _ => Option.none) (unroll := false) 60 [] 14 [v1] [] [] 11 [] [] (inR wkC 1 1) [] [] hW2 (by kernel_rfl) trivial trivial ?_
  intro w3 hW3 hS3
  have h3 := h2.pass0 hS3
  refine (dget_any h3.rd (by show (plainL ++ []).length ≤ _; decide)).mono ?_
  rintro x w4 ⟨m1, rfl, k4, g1⟩
  refine ⟨_, rfl, ?_⟩
  have hW4 := hW3.later k4
  have e1 : getR (plainL ++ []) = (none, 4) := by kernel_rfl
  rw [e1] at g1 ⊢
  obtain rfl : m1 = .agg (mz.a nilV nilV) := g1
  refine go_call_is (gt := fun _ => Option.none) (unroll := false) 60 [] 26 [.slice (some ⟨w4.heap.size + 1, 0, none⟩) 1 1] [2] [.int .i64 4] 16 [⟨w4.heap.size, (mz.a nilV nilV).toList, true⟩, ⟨w4.heap.size + 1, bvs L2, true⟩] [] (inR wkC 2 1) [] [] hW4 (by kernel_rfl) trivial trivial ?_
  intro w5 hW5 hS5
  have src5 : Rd w5 (.slice (some ⟨w4.heap.size + 1, 0, none⟩) 1 1) L2 := Rd.of_row (bs := L2) (cs := bvs L2) (ow := true) hW5 (by simp) 1 rfl (by simp [maxLen]) (fun i hi => by rw [Nat.zero_add]; exact bvs_get hi)
  have hm5 : ∀ r ∈ ([⟨w4.heap.size, (mz.a nilV nilV).toList, true⟩, ⟨w4.heap.size + 1, bvs L2, true⟩] : List RowS), w4.heap.size ≤ r.b := fun r hr => by
    simp only [List.mem_cons, List.not_mem_nil, or_false] at hr
    rcases hr with rfl | rfl
    · exact Nat.le_refl _
    · exact Nat.le_succ _
  have hWf5 : Wst w ⟨[], w5.heap.size⟩ w5 := hW5.fewer (rows := []) (more := [⟨w4.heap.size, (mz.a nilV nilV).toList, true⟩, ⟨w4.heap.size + 1, bvs L2, true⟩])
  refine (plain_any src5 (by decide)).mono ?_
  rintro x w6 ⟨v6, rfl, k6, n6⟩
  refine ⟨_, rfl, ?_⟩
  have hW6 := hWf5.later k6
  have n6 := n6.hx hWf5
  refine Goal.re (tags := tagL []) (m := ⟨[], w6.heap.size⟩) ?_
  refine go_call_is (gt := fun _ => Option.none) (unroll := false) 60 [] 14 [v6] [2] [.int .i64 4] 17 [] [] (inR wkC 2 2) [] [] hW6 (by kernel_rfl) trivial trivial ?_
  intro w7 hW7 hS7
  have n7 := n6.pass0 hS7
  refine (dget_any n7.rd (by decide)).mono ?_
  rintro x w8 ⟨m2, rfl, k8, G2⟩
  refine ⟨_, rfl, ?_⟩
  have hW8 := hW7.later k8
  rw [g2] at G2 ⊢
  obtain ⟨H2z, H2b, H2es, rfl, H2o, H2n, _⟩ := G2
  have hH2 := H2n.hx hW7
  refine go_call_is (gt := fun _ => Option.none) (unroll := false) 60 [] 26 [.slice (some ⟨w8.heap.size + 1, 0, none⟩) 6 6] [2, 3, 4] [.int .i64 4, pT w8.heap.size, .int .i64 0] 22 [⟨w8.heap.size, ((getH (plainL ++ L2)).a H2z.v H2b.v).toList, true⟩, ⟨w8.heap.size + 1, bvs L3, true⟩] [(3, 0)] (inR wkC 3 1) [] [] hW8 (by kernel_rfl) trivial trivial ?_
  intro w9 hW9 hS9
  have src9 : Rd w9 (.slice (some ⟨w8.heap.size + 1, 0, none⟩) 6 6) L3 := Rd.of_row (bs := L3) (cs := bvs L3) (ow := true) hW9 (by simp) 6 rfl (by simp [maxLen]) (fun i hi => by rw [Nat.zero_add]; exact bvs_get hi)
  have hm9 : ∀ r ∈ ([⟨w8.heap.size, ((getH (plainL ++ L2)).a H2z.v H2b.v).toList, true⟩, ⟨w8.heap.size + 1, bvs L3, true⟩] : List RowS), w8.heap.size ≤ r.b := fun r hr => by
    simp only [List.mem_cons, List.not_mem_nil, or_false] at hr
    rcases hr with rfl | rfl
    · exact Nat.le_refl _
    · exact Nat.le_succ _
  have hH2 := (hH2.pass (more := [⟨w8.heap.size, ((getH (plainL ++ L2)).a H2z.v H2b.v).toList, true⟩, ⟨w8.heap.size + 1, bvs L3, true⟩]) hS9 hm9)
  have hWf9 : Wst w ⟨[⟨w8.heap.size, ((getH (plainL ++ L2)).a H2z.v H2b.v).toList, true⟩], w9.heap.size⟩ w9 := hW9.fewer (rows := [⟨w8.heap.size, ((getH (plainL ++ L2)).a H2z.v H2b.v).toList, true⟩]) (more := [⟨w8.heap.size + 1, bvs L3, true⟩])
  have hH2 : HxO false [⟨w8.heap.size, ((getH (plainL ++ L2)).a H2z.v H2b.v).toList, true⟩] w9 H2z.v H2es := hH2.fewer (rows := [⟨w8.heap.size, ((getH (plainL ++ L2)).a H2z.v H2b.v).toList, true⟩]) (more := [⟨w8.heap.size + 1, bvs L3, true⟩])
  refine (plain_any src9 (by decide)).mono ?_
  rintro x w10 ⟨v10, rfl, k10, n10⟩
  refine ⟨_, rfl, ?_⟩
  have hW10 := hWf9.later k10
  have n10 := n10.hx hWf9
  have hH2 := hH2.call k10
  refine Goal.re (tags := tagL [(3, 0)]) (m := ⟨[⟨w8.heap.size, ((getH (plainL ++ L2)).a H2z.v H2b.v).toList, true⟩], w10.heap.size⟩) ?_
  refine go_call_is (gt := fun _ => Option.none) (unroll := false) 60 [] 14 [v10] [2, 3, 4] [.int .i64 4, pT w8.heap.size, .int .i64 0] 23 [⟨w8.heap.size, ((getH (plainL ++ L2)).a H2z.v H2b.v).toList, true⟩] [(3, 0)] (inR wkC 3 2) [] [] hW10 (by kernel_rfl) trivial trivial ?_
  intro w11 hW11 hS11
  have n11 := n10.pass0 hS11
  have hH2 := hH2.pass0 hS11
  refine (dget_any n11.rd (by decide)).mono ?_
  rintro x w12 ⟨m3, rfl, k12, G3⟩
  refine ⟨_, rfl, ?_⟩
  have hW12 := hW11.later k12
  rw [g3] at G3 ⊢
  obtain ⟨H3z, H3b, H3es, rfl, H3o, H3n, _⟩ := G3
  have hH2 := hH2.call k12
  have hH3 := H3n.hx hW11
  refine go_call_is (gt := fun _ => Option.none) (unroll := false) 60 [] 26 [.slice (some ⟨w12.heap.size + 1, 0, none⟩) 7 7] [2, 3, 4, 5, 6] [.int .i64 4, pT w8.heap.size, .int .i64 0, pT w12.heap.size, .int .i64 0] 28 [⟨w8.heap.size, ((getH (plainL ++ L2)).a H2z.v H2b.v).toList, true⟩, ⟨w12.heap.size, ((getH (plainL ++ L3)).a H3z.v H3b.v).toList, true⟩, ⟨w12.heap.size + 1, bvs L4, true⟩] [(3, 0), (5, 1)] (inR wkC 4 1) [] [] hW12 (by kernel_rfl) trivial trivial ?_
  intro w13 hW13 hS13
  have src13 : Rd w13 (.slice (some ⟨w12.heap.size + 1, 0, none⟩) 7 7) L4 := Rd.of_row (bs := L4) (cs := bvs L4) (ow := true) hW13 (by simp) 7 rfl (by simp [maxLen]) (fun i hi => by rw [Nat.zero_add]; exact bvs_get hi)
  have hm13 : ∀ r ∈ ([⟨w12.heap.size, ((getH (plainL ++ L3)).a H3z.v H3b.v).toList, true⟩, ⟨w12.heap.size + 1, bvs L4, true⟩] : List RowS), w12.heap.size ≤ r.b := fun r hr => by
    simp only [List.mem_cons, List.not_mem_nil, or_false] at hr
    rcases hr with rfl | rfl
    · exact Nat.le_refl _
    · exact Nat.le_succ _
  have hH2 := (hH2.pass (more := [⟨w12.heap.size, ((getH (plainL ++ L3)).a H3z.v H3b.v).toList, true⟩, ⟨w12.heap.size + 1, bvs L4, true⟩]) hS13 hm13)
  have hH3 := (hH3.pass (more := [⟨w12.heap.size, ((getH (plainL ++ L3)).a H3z.v H3b.v).toList, true⟩, ⟨w12.heap.size + 1, bvs L4, true⟩]) hS13 hm13)
  have hWf13 : Wst w ⟨[⟨w8.heap.size, ((getH (plainL ++ L2)).a H2z.v H2b.v).toList, true⟩, ⟨w12.heap.size, ((getH (plainL ++ L3)).a H3z.v H3b.v).toList, true⟩], w13.heap.size⟩ w13 := hW13.fewer (rows := [⟨w8.heap.size, ((getH (plainL ++ L2)).a H2z.v H2b.v).toList, true⟩, ⟨w12.heap.size, ((getH (plainL ++ L3)).a H3z.v H3b.v).toList, true⟩]) (more := [⟨w12.heap.size + 1, bvs L4, true⟩])
  have hH2 : HxO false [⟨w8.heap.size, ((getH (plainL ++ L2)).a H2z.v H2b.v).toList, true⟩, ⟨w12.heap.size, ((getH (plainL ++ L3)).a H3z.v H3b.v).toList, true⟩] w13 H2z.v H2es := hH2.fewer (rows := [⟨w8.heap.size, ((getH (plainL ++ L2)).a H2z.v H2b.v).toList, true⟩, ⟨w12.heap.size, ((getH (plainL ++ L3)).a H3z.v H3b.v).toList, true⟩]) (more := [⟨w12.heap.size + 1, bvs L4, true⟩])
  have hH3 : HxO false [⟨w8.heap.size, ((getH (plainL ++ L2)).a H2z.v H2b.v).toList, true⟩, ⟨w12.heap.size, ((getH (plainL ++ L3)).a H3z.v H3b.v).toList, true⟩] w13 H3z.v H3es := hH3.fewer (rows := [⟨w8.heap.size, ((getH (plainL ++ L2)).a H2z.v H2b.v).toList, true⟩, ⟨w12.heap.size, ((getH (plainL ++ L3)).a H3z.v H3b.v).toList, true⟩]) (more := [⟨w12.heap.size + 1, bvs L4, true⟩])
  refine (plain_any src13 (by decide)).mono ?_
  rintro x w14 ⟨v14, rfl, k14, n14⟩
  refine ⟨_, rfl, ?_⟩
  have hW14 := hWf13.later k14
  have n14 := n14.hx hWf13
  have hH2 := hH2.call k14
  have hH3 := hH3.call k14
  refine Goal.re (tags := tagL [(3, 0), (5, 1)]) (m := ⟨[⟨w8.heap.size, ((getH (plainL ++ L2)).a H2z.v H2b.v).toList, true⟩, ⟨w12.heap.size, ((getH (plainL ++ L3)).a H3z.v H3b.v).toList, true⟩], w14.heap.size⟩) ?_
  refine go_call_is (gt := fun _ => Option.none) (unroll := false) 60 [] 14 [v14] [2, 3, 4, 5, 6] [.int .i64 4, pT w8.heap.size, .int .i64 0, pT w12.heap.size, .int .i64 0] 29 [⟨w8.heap.size, ((getH (plainL ++ L2)).a H2z.v H2b.v).toList, true⟩, ⟨w12.heap.size, ((getH (plainL ++ L3)).a H3z.v H3b.v).toList, true⟩] [(3, 0), (5, 1)] (inR wkC 4 2) [] [] hW14 (by kernel_rfl) trivial trivial ?_
  intro w15 hW15 hS15
  have n15 := n14.pass0 hS15
  have hH2 := hH2.pass0 hS15
  have hH3 := hH3.pass0 hS15
  refine (dget_any n15.rd (by decide)).mono ?_
  rintro x w16 ⟨m4, rfl, k16, G4⟩
  refine ⟨_, rfl, ?_⟩
  have hW16 := hW15.later k16
  rw [g4] at G4 ⊢
  obtain ⟨H4z, H4b, H4es, rfl, H4o, H4n, _⟩ := G4
  have hH2 := hH2.call k16
  have hH3 := hH3.call k16
  have hH4 := H4n.hx hW15
  have he2 : H2es = [] := List.map_eq_nil_iff.1 H2o
  refine go_call_is (gt := fun _ => Option.none) (unroll := false) 60 [(5, 9, .sem (.int .i64 0))] 10 [.agg ((getH (plainL ++ L3)).a H3z.v H3b.v)] [7, 8, 48] [pT w16.heap.size, .int .i64 0, .bool true] 50 [⟨w8.heap.size, ((getH (plainL ++ L2)).a H2z.v H2b.v).toList, true⟩, ⟨w12.heap.size, ((getH (plainL ++ L3)).a H3z.v H3b.v).toList, true⟩, ⟨w16.heap.size, ((getH (plainL ++ L4)).a H4z.v H4b.v).toList, true⟩] [(7, 2)] (inR wkC 5 18) [] [(Builtin.len_ #[25] 3 #[H2z.v], .int .i64 0)] hW16 (by kernel_rfl) trivial ⟨fun wx _ => by have := hH2.ro.sem_len E2o (ty := 3) wx; rw [he2] at this; exact this, trivial⟩ ?_
  intro w17 hW17 hS17
  have hm17 : ∀ r ∈ ([⟨w16.heap.size, ((getH (plainL ++ L4)).a H4z.v H4b.v).toList, true⟩] : List RowS), w16.heap.size ≤ r.b := fun r hr => by
    obtain rfl := List.mem_singleton.1 hr
    exact Nat.le_refl _
  have hH3 := hH3.pass (more := [⟨w16.heap.size, ((getH (plainL ++ L4)).a H4z.v H4b.v).toList, true⟩]) hS17 hm17
  have hH4 := hH4.pass (more := [⟨w16.heap.size, ((getH (plainL ++ L4)).a H4z.v H4b.v).toList, true⟩]) hS17 hm17
  refine (mtype_any (m := getH (plainL ++ L3)) (so := H3z) (sb := H3b) hH3.rv (by have := congrArg List.length H3o; simp at this; omega) (by rw [valE_o, H3o]; decide)).mono ?_
  rintro x w18 ⟨rfl, k18⟩
  refine ⟨_, rfl, ?_⟩
  rw [show typR (valE 53 H3es) = 5 by rw [valE_o, H3o]; decide]
  have hW18 := hW17.later k18
  have hH4 := hH4.call k18
  refine go_call_is (gt := fun _ => Option.none) (unroll := false) 60 [] 10 [.agg ((getH (plainL ++ L4)).a H4z.v H4b.v)] [57] [.bool true] 59 [⟨w8.heap.size, ((getH (plainL ++ L2)).a H2z.v H2b.v).toList, true⟩, ⟨w12.heap.size, ((getH (plainL ++ L3)).a H3z.v H3b.v).toList, true⟩, ⟨w16.heap.size, ((getH (plainL ++ L4)).a H4z.v H4b.v).toList, true⟩] [] (inR wkC 5 27) [] [] hW18 (by kernel_rfl) trivial trivial ?_
  intro w19 hW19 hS19
  have hH4 := hH4.pass0 hS19
  refine (mtype_any (m := getH (plainL ++ L4)) (so := H4z) (sb := H4b) hH4.rv (by have := congrArg List.length H4o; simp at this; omega) (by rw [valE_o, H4o]; decide)).mono ?_
  rintro x w20 ⟨rfl, k20⟩
  refine ⟨_, rfl, ?_⟩
  rw [show typR (valE 53 H4es) = 0 by rw [valE_o, H4o]; decide]
  exact go_ret (gt := fun _ => Option.none) (unroll := false) 60 [] [.tmp 0] (.bool true) [] [] (hW19.later k20) Try.results11 (by kernel_rfl) trivial trivial (fun w9 hW9 _ => ⟨rfl, hW9.keep⟩)
end Go.Proofs.Ytpnocepepihflaa
namespace Go.Proofs.Ytpnocepepihflaa
open Go.RowKit

abbrev ownB (u : Value) : Nat → Prop := fun k => u.ownBlock = some k
/-- New options, in a row of their ownB. -/
def lsS (q : Bool) (es : List Oe) : Sm := .such (fun g w x => Ro q w x es ∧ ∀ b, x.ownBlock = some b → b < w.heap.size ∧ ¬ g.priv b)
  (fun g w g' w' x k h => ⟨h.1.keep k.keep (fun b hb => (h.2 b hb).2), fun b hb => ⟨Nat.lt_of_lt_of_le (h.2 b hb).1 k.keep.size, fun hp => by
    rcases k.priv b hp with h1 | h1
    · exact (h.2 b hb).2 h1
    · have := (h.2 b hb).1; omega⟩⟩)
theorem new_ls {P : Program} {S0 : Nat → Prop} {w0 : World} {s : Sem Value} {q : Bool} {n : Nat} {es : List Oe} (hn : n ≤ maxLen) (hl : es.length = n)
    (hq : ∀ nx, gRun P none s ⟨[], nx⟩ = some (.slice (some ⟨nx, 0, none⟩) n n, ⟨[⟨nx, csO q es, true⟩], nx + 1⟩, [])) : NewM P S0 w0 s (lsS q es) := by
  subst hl
  intro g w hk hb
  obtain ⟨w', h1, h2, h3⟩ := gRun_ok (Wst.start0 w) (hq w.heap.size) (fun _ h => nomatch h)
  obtain ⟨t, ht⟩ := h2.rows ⟨w.heap.size, csO q es, true⟩ (by simp)
  refine ⟨_, w', h1, h2.keep, Ro.of_row ht rfl hn, fun b hb' => ?_⟩
  obtain rfl : w.heap.size = b := Option.some.inj hb'
  exact ⟨block_of_row ht, fun hp => by have := (hb _ hp).1; omega⟩
/-- A slice of options that is appended to. -/
def ApD (q : Bool) (E : TypeId) (u : Value) (l ys : List Oe) (w0 : World) : Nat → Gh → World → Prop
  | 0, g, w => ¬ g.live ∧ g.priv = ownB u ∧ Oo q E w u l
  | _, g, w => g.live ∧ g.priv = ownB g.val ∧ Later w0.heap.size u g.val ∧ Oo q E w g.val (l ++ ys)
theorem ApD.keep {q : Bool} {E : TypeId} {u : Value} {l ys : List Oe} {w0 : World} : ∀ (k : Nat) (g : Gh) (w w' : World), Keep No w w' → ApD q E u l ys w0 k g w → ApD q E u l ys w0 k g w'
  | 0, _, _, _, k, ⟨h1, h2, h3⟩ => ⟨h1, h2, h3.keep0 k⟩
  | _ + 1, _, _, _, k, ⟨h1, h2, h3, h4⟩ => ⟨h1, h2, h3, h4.keep0 k⟩
def gA (u : Value) : Gh := ⟨False, undef, ownB u⟩
section
variable {w0 : World} {q : Bool} {e : TypeId} {u : Value} {l ys : List Oe}
theorem gA_base (h : Oo q e w0 u l) : Base (ownB u) w0 (gA u) w0 := fun k hk => ⟨h.lt k hk, fun _ => hk⟩
theorem gA_D (h : Oo q e w0 u l) : ApD q e u l ys w0 0 (gA u) w0 := ⟨fun h => h, rfl, h⟩
theorem ap_app {P : Program} {t : TypeId} (T : E2 P t e) {x y : Tmp} (hl : l.length + ys.length ≤ 1099511627776) (ty : TypeId) :
    ActM P (ownB u) w0 (ApD q e u l ys w0) 0 (.call { callee := .builtin .append, args := #[.tmp x, .tmp y], argTypes := #[t, t] }) ty [(x, .is u), (y, lsS q ys)] padS := by
  intro a o g w ho hty hk hb hd hr
  obtain ⟨h1, h2, h3⟩ := hd
  have ex : a.tmps.getD x undef = u := hr (x, .is u) (by simp)
  obtain ⟨hro, hpr⟩ : Ro q w (a.tmps.getD y undef) ys ∧ ∀ b, (a.tmps.getD y undef).ownBlock = some b → b < w.heap.size ∧ ¬ g.priv b := hr (y, lsS q ys) (by simp)
  obtain ⟨v', w', hrun, ho', k', hbl⟩ := run_append_t T h3 hro hl
  have he : (execOp a.eval o).run P w = .ok (.value v') w' := by
    unfold execOp
    simp only [ho, resolve, invoke, builtin, Sem.run_bind, Sem.run_pure, Result.andThen_ok, List.map_toArray, List.map_cons, List.map_nil]
    rw [show a.eval (.tmp x) = u from ex, show a.eval (.tmp y) = a.tmps.getD y undef from rfl, hrun]
    rfl
  rw [he]
  have hks := hk.size
  have nb : ∀ i, v'.ownBlock = some i → u.ownBlock = some i ∨ i = w.heap.size := fun i hi => by
    rcases hbl with h | h <;> rw [h] at hi
    · exact .inl hi
    · exact .inr (Option.some.inj hi).symm
  have hla : Later w0.heap.size u v' := by
    rcases hbl with h | h
    · exact .inl h
    · exact .inr fun b hb' => by rw [h] at hb'; have := Option.some.inj hb'; omega
  refine ⟨⟨True, v', ownB v'⟩, ⟨k'.mono fun i _ h => by rw [h2]; exact h, fun i h => ?_, fun h => absurd h h1⟩, fun i h => ⟨ho'.lt i h, fun hlt => ?_⟩, ⟨trivial, rfl, hla, ho'⟩, trivial, rfl⟩
  · rcases nb i h with h | h
    · exact .inl (by rw [h2]; exact h)
    · exact .inr (Nat.le_of_eq h.symm)
  · rcases nb i h with h | h
    · exact h
    · omega
end
theorem Oo.sb {q : Bool} {e : TypeId} {w : World} {v : Value} {l : List Oe} (h : Oo q e w v l) : ∃ z : Sb, v = z.v := by
  obtain ⟨ao, cap, hv, _⟩ := h.rt.shape
  exact ⟨⟨ao, _, cap⟩, hv⟩
section
variable {P : Program} {S : Nat → Prop} {W w0 : World} {bs : Nat → List (Nat × List Value)}
/-- A load that the loud operation of rank K waits for. -/
theorem mid_loadR {K b off : Nat} {e ty : TypeId} {p : Tmp} {V : Value} (hm : ∀ k, k ≤ K → ∃ cs l, (b, cs) ∈ bs k ∧ (∀ q ∈ l, q.1 = q.2) ∧ ∀ nx, gRun P (some 0) (Instr.loadAt e (.pointer (some ⟨b, off, none⟩))) ⟨[⟨b, cs, false⟩], nx⟩ = some (V, ⟨[⟨b, cs, false⟩], nx⟩, (l : List (Nat × Nat)))) :
    MidM P S w0 (RowsK S bs) K (.load e (.tmp p)) ty [(p, .is (.pointer (some ⟨b, off, none⟩)))] (.is V) := by
  intro a o g w k ho _ hk hb hkK hd hr
  obtain ⟨cs, l, h1, h2, h3⟩ := hm k hkK
  obtain ⟨t, hrow⟩ := hd.2 _ h1
  obtain ⟨w', e1, e2⟩ := load_step ho (hr (p, .is (.pointer (some ⟨b, off, none⟩))) (by simp)) hrow l h2 h3
  rw [e1]
  exact ⟨e2, rfl⟩
theorem act_storeO {b off r : Nat} {cs0 cs1 : List Value} {e ty : TypeId} {p v : Tmp} {V : Value} (hK : ∀ w, Keep S w0 w → Keep No W w) (hb0 : W.heap.size ≤ b) (hS : S b) (hm : (b, cs0) ∈ bs r) (hn : ∀ q ∈ bs (r + 1), q = (b, cs1) ∨ (q ∈ bs r ∧ q.1 ≠ b)) (l : List (Nat × Nat)) (hl : ∀ q ∈ l, q.1 = q.2)
    (hq : ∀ nx, gRun P (some 0) (Instr.storeAt e (.pointer (some ⟨b, off, none⟩)) V) ⟨[⟨b, cs0, true⟩], nx⟩ = some ((), ⟨[⟨b, cs1, true⟩], nx⟩, l)) :
    ActM P S w0 (RowsK S bs) r (.store e (.tmp p) (.tmp v)) ty [(p, .is (.pointer (some ⟨b, off, none⟩))), (v, .is V)] (.is undef) := by
  intro a o g w ho _ hk hb hd hr
  obtain ⟨hp, hrows⟩ := hd
  obtain ⟨t, hrow⟩ := hrows _ hm
  have e1 : a.tmps.getD p undef = .pointer (some ⟨b, off, none⟩) := hr (p, .is (.pointer (some ⟨b, off, none⟩))) (by simp)
  have e2 : a.tmps.getD v undef = V := hr (v, .is V) (by simp)
  obtain ⟨w', t', he, k1, hs, hrow'⟩ := store_step (W := W) ho e1 (show a.eval (.tmp v) = V from e2) hrow (hK w hk) hb0 l hl hq
  rw [he]
  refine ⟨g, ⟨k1.mono fun i _ h => by rw [hp, show i = b from h]; exact hS, fun i h => .inl h, fun h => ⟨h, rfl⟩⟩, fun i h => ⟨by have := (hb i h).1; omega, (hb i h).2⟩, ⟨hp, fun q hq => ?_⟩, rfl⟩
  rcases hn q hq with rfl | ⟨h, hne⟩
  · exact ⟨t', hrow'⟩
  · obtain ⟨t2, ht2⟩ := hrows q h
    exact ⟨t2, (k1.block _ (block_of_row ht2) (fun e => hne e)).trans ht2⟩
end
end Go.Proofs.Ytpnocepepihflaa
namespace Go.Proofs.Ytpnocepepihflaa
open Go.RowKit

/-- What may be appended to: bytes of one's own, or a slice without room behind it. -/
def Ab (w : World) (v : Value) (bs : List UInt8) : Prop := Own 5 w v bs ∨ Fu w v bs
section
variable {w w' : World} {v s : Value} {bs ys : List UInt8}
theorem Ab.rd (h : Ab w v bs) : Rd w v bs := by
  rcases h with h | ⟨b, o, _, h, _⟩
  · exact h.rd
  · exact h
theorem Ab.lt (h : Ab w v bs) : Under w.heap.size v := by
  rcases h with h | ⟨b, o, rfl, _, hb⟩
  · exact h.lt
  · intro b' h
    obtain rfl : b = b' := by simpa [Value.ownBlock] using h
    exact hb
theorem Ab.same (h : Ab w v bs) (hs : ∀ b, v.ownBlock = some b → w'.heap[b]? = w.heap[b]?) (hl : w.heap.size ≤ w'.heap.size) : Ab w' v bs := by
  rcases h with h | ⟨b, o, rfl, h, hb⟩
  · exact .inl (h.same hs)
  · refine .inr ⟨b, o, rfl, ⟨h.shape, fun i hi => ?_⟩, Nat.lt_of_lt_of_le hb hl⟩
    rw [← h.cell i hi]
    exact World.cell?_of_block (hs _ (h.block_eq hi))
theorem Ab.keep0 (h : Ab w v bs) (k : Keep No w w') : Ab w' v bs := h.same (fun b hb => k.block b (h.lt b hb) (fun f => f)) k.size
theorem Ab.keep {S : Nat → Prop} (h : Ab w v bs) (k : Keep S w w') (hs : ∀ b, v.ownBlock = some b → ¬ S b) : Ab w' v bs := h.same (fun b hb => k.block b (h.lt b hb) (hs b hb)) k.size
theorem Ab.sb (h : Ab w v bs) : ∃ ao n c, v = .slice ao n c := h.rd.form
theorem run_append_ab (h : Ab w v bs) (r : Rd w s ys) (hn : bs.length + ys.length ≤ 140737488351232) :
    ∃ v' w', (∀ ty, (Builtin.append_ #[22, 22] ty #[v, s]).run Try.prog w = .ok v' w') ∧ Ab w' v' (bs ++ ys) ∧ Keep (fun k => v.ownBlock = some k) w w' ∧ (v'.ownBlock = v.ownBlock ∨ Since w.heap.size v') := by
  rcases h with h | h
  · obtain ⟨v', w', hr, h2, h3, h4, _⟩ := run_append_b (P := Try.prog) bt 0 h r hn
    refine ⟨v', w', fun ty => hr, .inl h2, h3, ?_⟩
    rcases h4 with h4 | h4
    · exact .inl h4
    · exact .inr fun b hb => by rw [h4] at hb; have := Option.some.inj hb; omega
  · obtain ⟨b, off, rfl, hu, hb⟩ := h
    obtain ⟨i, hi, hz1, hz2, hz3⟩ := bt.info
    cases hnil : isNil s with
    | true =>
      obtain ⟨rfl, rfl⟩ := r.of_nil hnil
      refine ⟨_, w, fun ty => ?_, .inr ⟨b, off, by rw [List.append_nil], by simpa using hu, hb⟩, Keep.refl _ _, .inl rfl⟩
      simp [Builtin.append_, run_underlying bt.sl, sizeOf, typeInfo, hi, Builtin.lenOf, Builtin.firstCells, storeCells]
    | false =>
      obtain ⟨a, cap, rfl⟩ := r.of_not_nil hnil
      have hnews : ∀ j u, (bvs ys)[j]? = some u → w.cell? (a.add j) = some u := fun j u hj => by
        by_cases hjl : j < ys.length
        · obtain ⟨b', o', hbo⟩ := r.addr (by omega)
          cases hbo
          rw [bvs_get hjl] at hj
          cases hj
          have := r.cell j hjl
          simpa [blk, offs, Addr_add_mk] using this
        · rw [List.getElem?_eq_none (by simpa [bvs_length] using hjl)] at hj; cases hj
      rcases Nat.eq_zero_or_pos ys.length with hy | hy
      · have hy' : ys = [] := List.length_eq_zero_iff.1 hy
        subst hy'
        refine ⟨_, w, fun ty => ?_, .inr ⟨b, off, by rw [List.append_nil], by simpa using hu, hb⟩, Keep.refl _ _, .inl rfl⟩
        have := run_append_room_cells (P := Try.prog) w 22 ty 5 i bt.sl hi b off bs.length bs.length a 0 cap [] (by simp) (by simp) (by simp) (by omega) (by simp) (by simp)
        simpa [World.setCells] using this
      · have key := fun ty => run_append_arg_grows (P := Try.prog) w 22 ty 5 i (.int .u8 0) 1 1 bt.sl hi hz3 hz1 hz2 rfl (by decide) ⟨b, off, none⟩ bs.length bs.length (bvs bs) (by simp [bvs_length])
          (fun j u hj => by
            by_cases hjl : j < bs.length
            · have := hu.cell j hjl
              rw [bvs_get hjl] at hj
              cases hj
              simpa [blk, offs, Addr_add_mk] using this
            · rw [List.getElem?_eq_none (by simpa [bvs_length] using hjl)] at hj; cases hj)
          a ys.length cap (bvs ys) (by simp [bvs_length]) hnews (by omega) (by simp only [maxLen]; omega) (by omega)
        obtain ⟨v', w', hr, h2, h3⟩ := key 0
        have ho : Own 5 w' v' (bs ++ ys) := by
          obtain ⟨q1, q2⟩ := h2
          unfold Own
          rw [List.length_append, bvs_append]
          refine ⟨q1, ?_⟩
          rcases q2 with q2 | ⟨g, cp, cur, e1, e2, e3, e4⟩
          · exact .inl q2
          · exact .inr ⟨g, cp, cur, e1, Nat.zero_le _, e3, e4⟩
        refine ⟨v', w', fun ty => hr, .inl ho, ⟨h3.os, h3.tape, h3.output, h3.size, fun k hk hn => h3.block k hk (fun e => by cases e)⟩, .inr fun k hk => ?_⟩
        obtain ⟨q1, q2⟩ := h2
        rcases q2 with ⟨_, q2⟩ | ⟨g, cp, cur, e1, e2, e3, e4, e5, e6, e7⟩
        · omega
        · rw [e1] at hk
          obtain rfl : g = k := by simpa [Value.ownBlock] using hk
          exact e2
end
end Go.Proofs.Ytpnocepepihflaa
namespace Go.Proofs.Ytpnocepepihflaa
open Go.RowKit
namespace H

/-- The value that came k-th. -/
def nth (k : Nat) : Sm := .such (fun g _ x => (k, x) ∈ g.val) (fun _ _ _ _ _ k h => k.hist _ h)
/-- New bytes. -/
def rdH (ys : List UInt8) : Sm := .such (fun g w x => Rd w x ys ∧ ∀ b, x.ownBlock = some b → b < w.heap.size ∧ ¬ g.priv b)
  (fun g w g' w' x k h => ⟨h.1.keep k.keep (fun b hb => (h.2 b hb).2), fun b hb => ⟨Nat.lt_of_lt_of_le (h.2 b hb).1 k.keep.size, fun hp => by
    rcases k.priv b hp with h1 | h1
    · exact (h.2 b hb).2 h1
    · have := (h.2 b hb).1; omega⟩⟩)
theorem rdH_new {P : Program} {S0 : Nat → Prop} {w0 : World} {s : Sem Value} {ys : List UInt8} {n : Nat} (hl : ys.length = n) (hn : n ≤ maxLen)
    (hq : ∀ nx, gRun P none s ⟨[], nx⟩ = some (.slice (some ⟨nx, 0, none⟩) n n, ⟨[⟨nx, bvs ys, true⟩], nx + 1⟩, [])) : NewM P S0 w0 s (rdH ys) := by
  subst hl
  intro g w hk hb
  obtain ⟨w', h1, h2, h3⟩ := gRun_ok (Wst.start0 w) (hq w.heap.size) (fun _ h => nomatch h)
  obtain ⟨t, ht⟩ := h2.rows ⟨w.heap.size, bvs ys, true⟩ (by simp)
  refine ⟨_, w', h1, h2.keep, Rd.of_row (bs := ys) (cs := bvs ys) (ow := true) h2 (by simp) ys.length rfl hn (fun i hi => by rw [Nat.zero_add]; exact bvs_get hi), fun b hb' => ?_⟩
  obtain rfl : w.heap.size = b := Option.some.inj hb'
  exact ⟨block_of_row ht, fun hp => by have := (hb _ hp).1; omega⟩
/-- Behind k appends; n: is the row made? -/
structure ChX (u : Value) (Z : List Value) (B : Nat → List UInt8) (w0 : World) (k n : Nat) (g : Gh) (w : World) (x : Value) (ob : Option Nat) : Prop where
  cur : ∀ y, (k, y) ∈ g.val → y = x
  le : ∀ j y, (j, y) ∈ g.val → j ≤ k ∨ j = 99
  zero : k = 0 → x = u
  own : Ab w x (B k)
  later : Later w0.heap.size u x
  priv : ∀ i, g.priv i ↔ x.ownBlock = some i ∨ ob = some i
  row : ∀ y, (99, y) ∈ g.val → ∃ b, ob = some b ∧ y = pT b
  none : n = 0 → ob = none
  obr : ∀ b, ob = some b → w0.heap.size ≤ b ∧ x.ownBlock ≠ some b ∧ ∃ t, w.heap[b]? = some (.cells Z.toArray t (0, 0))
def ChD (u : Value) (Z : List Value) (B : Nat → List UInt8) (w0 : World) (k n : Nat) (g : Gh) (w : World) : Prop := ∃ x ob, ChX u Z B w0 k n g w x ob
theorem ChD.keep {u : Value} {Z : List Value} {B : Nat → List UInt8} {w0 : World} : ∀ (k n : Nat) (g : Gh) (w w' : World), Keep No w w' → ChD u Z B w0 k n g w → ChD u Z B w0 k n g w' := fun _ _ _ _ _ kp ⟨x, ob, h⟩ =>
  ⟨x, ob, h.cur, h.le, h.zero, h.own.keep0 kp, h.later, h.priv, h.row, h.none, fun b hb => by
    obtain ⟨h1, h2, t, ht⟩ := h.obr b hb
    exact ⟨h1, h2, t, (kp.block b (block_of_row ht) (fun f => f)).trans ht⟩⟩
def gB (u : Value) : Gh := ⟨[], fun k => u.ownBlock = some k⟩
section
variable {u : Value} {Z : List Value} {B : Nat → List UInt8} {w0 : World}
theorem gB_base {bs : List UInt8} (h : Ab w0 u bs) : Base (ownB u) w0 (gB u) w0 := fun k hk => ⟨h.lt k hk, fun _ => hk⟩
theorem gB_D (h : Ab w0 u (B 0)) : ChD u Z B w0 0 0 (gB u) w0 := ⟨u, none, fun y hy => (by cases hy), fun j y hy => (by cases hy), fun _ => rfl, h, .inl rfl, fun i => ⟨.inl, fun h => h.elim id (fun h => (by cases h))⟩, fun y hy => (by cases hy), fun _ => rfl, fun b hb => (by cases hb)⟩
theorem ch_app {D : Nat → Nat → Gh → World → Prop} {r : Nat} {ys : List UInt8} {x y : Tmp} {sx sy : Sm} (h0 : ∀ n g w, D r n g w → ChD u Z B w0 r n g w) (h1 : ∀ n g w, ChD u Z B w0 (r + 1) n g w → D (r + 1) n g w) (hr : r < 50) (hB : B (r + 1) = B r ++ ys) (hl : (B r).length + ys.length ≤ 140737488351232)
    (hx : ∀ g w v, sx.ok g w v → (r = 0 ∧ v = u) ∨ (r, v) ∈ g.val) (hy : ∀ g w v, Keep (ownB u) w0 w → Base (ownB u) w0 g w → sy.ok g w v → Rd w v ys) (ty : TypeId) :
    ActM Try.prog (ownB u) w0 D r (.call { callee := .builtin .append, args := #[.tmp x, .tmp y], argTypes := #[22, 22] }) ty [(x, sx), (y, sy)] (nth (r + 1)) := by
  intro a o g w n ho hty hk hb hd hrd
  obtain ⟨v, ob, h⟩ := h0 n g w hd
  have ex : a.tmps.getD x undef = v := by
    rcases hx g w _ (hrd (x, sx) (by simp)) with ⟨e0, e1⟩ | e1
    · rw [e1, h.zero e0]
    · exact h.cur _ e1
  have ry := hy g w _ hk hb (hrd (y, sy) (by simp))
  obtain ⟨v', w', hrun, ho', k', hbl⟩ := run_append_ab h.own ry hl
  have he : (execOp a.eval o).run Try.prog w = .ok (.value v') w' := by
    unfold execOp
    simp only [ho, resolve, invoke, builtin, Sem.run_bind, Sem.run_pure, Result.andThen_ok, List.map_toArray, List.map_cons, List.map_nil]
    rw [show a.eval (.tmp x) = v from ex, show a.eval (.tmp y) = a.tmps.getD y undef from rfl, hrun]
    rfl
  rw [he]
  have hks := hk.size
  have nb : ∀ i, v'.ownBlock = some i → v.ownBlock = some i ∨ w.heap.size ≤ i := fun i hi => by
    rcases hbl with h | h
    · rw [h] at hi; exact .inl hi
    · exact .inr (h i hi)
  have hla : Later w0.heap.size u v' := by
    rcases hbl with h2 | h2
    · rcases h.later with h3 | h3
      · exact .inl (h2.trans h3)
      · exact .inr fun b hb' => h3 b (by rw [← h2]; exact hb')
    · exact .inr fun b hb' => Nat.le_trans hks (h2 b hb')
  have hob : ∀ b, ob = some b → v'.ownBlock ≠ some b := fun b hb' e => by
    obtain ⟨_, h2, t2, ht2⟩ := h.obr b hb'
    rcases nb b e with h3 | h3
    · exact h2 h3
    · have := block_of_row ht2; omega
  have k2 : Keep g.priv w w' := k'.mono fun i _ hi => (h.priv i).2 (.inl hi)
  refine ⟨⟨(r + 1, v') :: g.val, fun i => v'.ownBlock = some i ∨ ob = some i⟩, ⟨k2, fun i hi => ?_, fun p hp => List.mem_cons.2 (.inr hp)⟩, fun i hi => ?_, h1 n _ _ ⟨v', ob, ?_, ?_, fun h => by omega, ?_, hla, fun _ => Iff.rfl, ?_, h.none, ?_⟩, List.mem_cons.2 (.inl rfl)⟩
  · rcases hi with hi | hi
    · rcases nb i hi with h3 | h3
      · exact .inl ((h.priv i).2 (.inl h3))
      · exact .inr h3
    · exact .inl ((h.priv i).2 (.inr hi))
  · rcases hi with hi | hi
    · refine ⟨ho'.lt i hi, fun hlt => ?_⟩
      rcases hla with h3 | h3
      · show u.ownBlock = some i
        rw [← h3]; exact hi
      · have := h3 i hi; omega
    · obtain ⟨h2, _, t2, ht2⟩ := h.obr i hi
      exact ⟨Nat.lt_of_lt_of_le (block_of_row ht2) k'.size, fun hlt => by omega⟩
  · intro y hy
    rcases List.mem_cons.1 hy with hy | hy
    · exact (Prod.mk.inj hy).2
    · rcases h.le _ _ hy with h3 | h3 <;> omega
  · intro j y hy
    rcases List.mem_cons.1 hy with hy | hy
    · exact .inl (Nat.le_of_eq (Prod.mk.inj hy).1)
    · rcases h.le _ _ hy with h3 | h3
      · exact .inl (by omega)
      · exact .inr h3
  · rw [hB]; exact ho'
  · intro y hy
    rcases List.mem_cons.1 hy with hy | hy
    · have := (Prod.mk.inj hy).1; omega
    · exact h.row y hy
  · intro b hb'
    obtain ⟨h2, h3, t2, ht2⟩ := h.obr b hb'
    exact ⟨h2, hob b hb', t2, (k'.block b (block_of_row ht2) (fun e => h3 e)).trans ht2⟩
theorem ch_alloc {P : Program} {D : Nat → Nat → Gh → World → Prop} {K : Nat} (h0 : ∀ k n g w, k ≤ K → D k n g w → ChD u Z B w0 k n g w) (h1 : ∀ k n g w, k ≤ K → ChD u Z B w0 k n g w → D k n g w) (hK : K < 50) {E ty : TypeId} (hq : ∀ nx, gRun P Option.none (Instr.alloc E true (.tuple #[])) ⟨[], nx⟩ = some (.pointer (some ⟨nx, 0, Option.none⟩), ⟨[⟨nx, Z, true⟩], nx + 1⟩, [])) :
    StirM P (ownB u) w0 D 1 K (.alloc E) ty [] (nth 99) := by
  intro a o g w k n ho _ hk hb hkK hn hd _
  obtain ⟨v, ob, h⟩ := h0 k n g w hkK hd
  have hob := h.none (by omega)
  subst hob
  obtain ⟨w', g1, g2, _⟩ := gRun_ok (Wst.start0 w) (hq w.heap.size) (fun _ h => nomatch h)
  have he : (execOp a.eval o).run P w = .ok (.value (pT w.heap.size)) w' := by
    unfold execOp
    simp only [ho, Sem.run_bind, Sem.run_pure]
    rw [g1]; rfl
  rw [he]
  have hks := hk.size
  obtain ⟨t, ht⟩ := g2.rows _ (List.mem_singleton.2 rfl)
  refine ⟨⟨(99, pT w.heap.size) :: g.val, fun i => v.ownBlock = some i ∨ some w.heap.size = some i⟩, ⟨g2.keep.no, fun i hi => ?_, fun p hp => List.mem_cons.2 (.inr hp)⟩, fun i hi => ?_, h1 k _ _ _ hkK ⟨v, some w.heap.size, ?_, ?_, h.zero, h.own.keep0 g2.keep, h.later, fun _ => Iff.rfl, ?_, fun h => by omega, ?_⟩, List.mem_cons.2 (.inl rfl)⟩
  · rcases hi with hi | hi
    · exact .inl ((h.priv i).2 (.inl hi))
    · exact .inr (Nat.le_of_eq (Option.some.inj hi))
  · rcases hi with hi | hi
    · have := hb i ((h.priv i).2 (.inl hi))
      exact ⟨Nat.lt_of_lt_of_le this.1 g2.keep.size, this.2⟩
    · obtain rfl := Option.some.inj hi
      exact ⟨block_of_row ht, fun hlt => by omega⟩
  · intro y hy
    rcases List.mem_cons.1 hy with hy | hy
    · have := (Prod.mk.inj hy).1; omega
    · exact h.cur y hy
  · intro j y hy
    rcases List.mem_cons.1 hy with hy | hy
    · exact .inr (Prod.mk.inj hy).1
    · exact h.le j y hy
  · intro y hy
    rcases List.mem_cons.1 hy with hy | hy
    · exact ⟨_, rfl, (Prod.mk.inj hy).2⟩
    · obtain ⟨b, hb', _⟩ := h.row y hy
      cases hb'
  · intro b hb'
    obtain rfl := Option.some.inj hb'
    exact ⟨hks, fun e => by have := h.own.lt _ e; omega, t, ht⟩
end
theorem ok_is (u : Value) : ∀ (g : Gh) (w : World) (v : Value), (Sm.is u).ok g w v → (0 = 0 ∧ v = u) ∨ (0, v) ∈ g.val := fun _ _ _ h => .inl ⟨rfl, h⟩
theorem ok_nth (u : Value) (r : Nat) : ∀ (g : Gh) (w : World) (v : Value), (nth r).ok g w v → (r = 0 ∧ v = u) ∨ (r, v) ∈ g.val := fun _ _ _ h => .inr h
theorem ok_rd (S0 : Nat → Prop) (w0 : World) (ys : List UInt8) : ∀ (g : Gh) (w : World) (v : Value), Keep S0 w0 w → Base S0 w0 g w → (rdH ys).ok g w v → Rd w v ys := fun _ _ _ _ _ h => h.1
theorem by_assign {P : Program} {S0 : Nat → Prop} {w0 : World} {t : Tmp} {ty : TypeId} {s : Sm} : ByM P S0 w0 (.assign (.tmp t)) ty [(t, s)] s := by
  intro a o g w ho hty k hb hr
  have h := hr (t, s) (by simp)
  unfold execOp
  rw [ho]
  exact ⟨Keep.refl _ _, h⟩
end H
end Go.Proofs.Ytpnocepepihflaa
namespace Go.Proofs.Ytpnocepepihflaa
open Go.RowKit

/-- The four bytes of a number. -/
def bytes4 (n : Nat) : List UInt8 := bytes2 (n / 65536) ++ bytes2 (n % 65536)
theorem len4 (xs : List Nat) : (xs.flatMap bytes4).length = 4 * xs.length := by
  induction xs with
  | nil => rfl
  | cons x xs ih => simp [List.flatMap_cons, bytes4, bytes2, ih]; omega

section
variable {w : World} {p : Nat} {sv : Value} {bs : List UInt8}
set_option maxHeartbeats 1000000 in
theorem pfour_any (h : Pd w p sv bs) {v : Value} {xs : List Nat} (sl : Sl 1 w v xs.length (fun i => .int .u32 (xs.getD i 0 : Nat))) (hx : ∀ i, i < xs.length → xs.getD i 0 < 4294967296)
    (hv : ∀ b, v.ownBlock = some b → ¬ Foot p sv b) (hn : bs.length + 4 * xs.length ≤ 1099511627776) :
    Calls Try.prog 33 #[.pointer (some ⟨p, 0, Option.none⟩), v] w fun x w' => ∃ sv', x = .returned (.pointer (some ⟨p, 0, Option.none⟩)) ∧ Pd w' p sv' (bs ++ xs.flatMap bytes4) ∧ Keep (Foot p sv) w w' ∧ Later w.heap.size sv sv' := by
  have hlen : ∀ wx, (Builtin.len_ #[97] 3 #[v]).run Try.prog wx = .ok (.int .i64 (xs.length : Int)) wx := fun wx => sl.run_len Try.underlying97
  have hz : (Try.prog.info? 26).map (·.size) = some 1 := by kernel_rfl
  go_enter Try.func33, Try.ntmps33
  go_wp2
  go_loopw [9] (fun i wr => ∃ (k : Nat) (svk : Value), k ≤ xs.length ∧ i = .int .i64 k ∧ Pd wr p svk (bs ++ (xs.take k).flatMap bytes4) ∧ Keep (Foot p sv) w wr ∧ Later w.heap.size sv svk) (fun i _ => xs.length - (intOf i).toNat)
  case atStart => exact ⟨0, sv, Nat.zero_le _, rfl, by simpa using h, Keep.refl _ _, Later.refl _ _⟩
  case round =>
    obtain ⟨k, svk, hk, rfl, hpd, hkeep, hlater⟩ := hrel
    by_cases hlt : k < xs.length
    · have hat : ∀ wx, (Instr.indexAt 97 v (.int .i64 (k : Int))).run Try.prog wx = .ok (.pointer (some ⟨blk v, offs v + k, Option.none⟩)) wx := fun wx => by
        have := sl.run_at (P := Try.prog) (w' := wx) Try.underlying97 hz (k := .i64) (i := (k : Int)) (by omega) (by omega)
        simpa using this
      have hcell := (sl.keep hkeep hv).cell k (by omega)
      have hfl := flat_snoc (f := bytes4) hlt
      have hxk := hx k hlt
      have hl2 : (bs ++ (xs.take k).flatMap bytes4).length ≤ 1099511627772 := by rw [List.length_append, len4, List.length_take]; omega
      have HFL := Lib.hid hfl
      clear hfl
      generalize xs.getD k 0 = n at *
      have s2 := Sl.two (w := wr) (.int .u16 ((n : Int) / 65536)) (.int .u16 ((n : Int) % 65536)) 27 (fun i => .int .u16 ([n / 65536, n % 65536].getD i 0 : Nat)) rfl rfl
      generalize hL : bs ++ (xs.take k).flatMap bytes4 = L at *
      have HL := Lib.hid hL
      clear hL
      go_wp2_with fail
      refine (ptwo_any (hpd.keep0 ((Keep.refl _ _).alloc _)) (xs := [n / 65536, n % 65536]) s2 (by intro i hi; have : i = 0 ∨ i = 1 := (by simp at hi; omega); rcases this with rfl | rfl <;> simp <;> omega) (new_not_foot hpd _ _) (by simp; omega)).mono ?_
      rintro x w2 ⟨svn, rfl, hpd2, hk2, hl3⟩
      go_wp2_with fail
      go_roundw
      case rel =>
        refine ⟨k + 1, svn, by omega, by go_num, ?_, ?_, hlater.trans hl3 (by have := hkeep.size; simp; omega)⟩
        · rw [HFL.out, ← List.append_assoc, HL.out]; simpa [bytes4] using hpd2
        · exact (hkeep.alloc _).foot hlater hk2
      case measure => simp [intOf]; omega
    · have hke : k = xs.length := by omega
      subst hke
      rw [List.take_length] at hpd
      go_wp2
      go_ret
      exact ⟨svk, rfl, hpd, hkeep, hlater⟩
end
end Go.Proofs.Ytpnocepepihflaa
namespace Go.Proofs.Ytpnocepepihflaa
open Go.RowKit

/-- The six bytes of an address. -/
def macL (l : List UInt8) : List UInt8 := [byteAt l 0, byteAt l 1, byteAt l 2, byteAt l 3, byteAt l 4, byteAt l 5]
theorem len6 (xs : List (List UInt8)) : (xs.flatMap macL).length = 6 * xs.length := by
  induction xs with
  | nil => rfl
  | cons x xs ih => simp [List.flatMap_cons, macL, ih]; omega
theorem flat_snoc_mac {xs : List (List UInt8)} {k : Nat} (h : k < xs.length) : (xs.take (k + 1)).flatMap macL = (xs.take k).flatMap macL ++ macL (xs.getD k []) := by
  rw [List.take_succ_eq_append_getElem h, List.flatMap_append]; simp [h]
theorem made6 (w : World) (l : List UInt8) (t : TypeId) : Rd (w.alloc (.cells #[.int .u8 ((byteAt l 0).toNat : Int), .int .u8 ((byteAt l 1).toNat : Int), .int .u8 ((byteAt l 2).toNat : Int), .int .u8 ((byteAt l 3).toNat : Int), .int .u8 ((byteAt l 4).toNat : Int), .int .u8 ((byteAt l 5).toNat : Int)] t)) (.slice (some ⟨w.heap.size, 0, none⟩) 6 6) (macL l) :=
  (Own.made (e := t) w (macL l) (by simp [maxLen, macL])).rd

section
variable {w : World} {p : Nat} {sv : Value} {bs : List UInt8}
set_option maxHeartbeats 2000000 in
theorem pmac_any (h : Pd w p sv bs) {v : Value} {xs : List (List UInt8)} (sl : Sl 6 w v xs.length (fun j => .int .u8 ((byteAt (xs.getD (j / 6) []) (j % 6)).toNat : Int)))
    (hv : ∀ b, v.ownBlock = some b → ¬ Foot p sv b) (hn : bs.length + 6 * xs.length ≤ 1099511627776) :
    Calls Try.prog 34 #[.pointer (some ⟨p, 0, Option.none⟩), v] w fun x w' => ∃ sv', x = .returned (.pointer (some ⟨p, 0, Option.none⟩)) ∧ Pd w' p sv' (bs ++ xs.flatMap macL) ∧ Keep (Foot p sv) w w' ∧ Later w.heap.size sv sv' := by
  have hlen : ∀ wx, (Builtin.len_ #[98] 3 #[v]).run Try.prog wx = .ok (.int .i64 (xs.length : Int)) wx := fun wx => sl.run_len Try.underlying98
  have hz : (Try.prog.info? 30).map (·.size) = some 6 := by kernel_rfl
  go_enter Try.func34, Try.ntmps34
  go_wp2
  go_loopw [9] (fun i wr => ∃ (k : Nat) (svk : Value), k ≤ xs.length ∧ i = .int .i64 k ∧ Pd wr p svk (bs ++ (xs.take k).flatMap macL) ∧ Keep (Foot p sv) w wr ∧ Later w.heap.size sv svk) (fun i _ => xs.length - (intOf i).toNat)
  case atStart => exact ⟨0, sv, Nat.zero_le _, rfl, by simpa using h, Keep.refl _ _, Later.refl _ _⟩
  case round =>
    obtain ⟨k, svk, hk, rfl, hpd, hkeep, hlater⟩ := hrel
    by_cases hlt : k < xs.length
    · have hat : ∀ wx, (Instr.indexAt 98 v (.int .i64 (k : Int))).run Try.prog wx = .ok (.pointer (some ⟨blk v, offs v + k * 6, Option.none⟩)) wx := fun wx => by
        have := sl.run_at (P := Try.prog) (w' := wx) Try.underlying98 hz (k := .i64) (i := (k : Int)) (by omega) (by omega)
        simpa using this
      have hc : ∀ i, i < 6 → wr.cell? ⟨blk v, offs v + k * 6 + i, Option.none⟩ = some (.int .u8 ((byteAt (xs.getD k []) i).toNat : Int)) := fun i hi => by
        have := (sl.keep hkeep hv).cell (k * 6 + i) (by omega)
        rw [show (k * 6 + i) / 6 = k by omega, show (k * 6 + i) % 6 = i by omega] at this
        rw [Nat.add_assoc]; exact this
      have h0 : wr.cell? ⟨blk v, offs v + k * 6, Option.none⟩ = _ := hc 0 (by omega)
      have h1 := hc 1 (by omega)
      have h2 := hc 2 (by omega)
      have h3 := hc 3 (by omega)
      have h4 := hc 4 (by omega)
      have h5 := hc 5 (by omega)
      clear hc
      have hfl := flat_snoc_mac hlt
      have hl2 : (bs ++ (xs.take k).flatMap macL).length ≤ 1099511627770 := by rw [List.length_append, len6, List.length_take]; omega
      have HFL := Lib.hid hfl
      clear hfl
      generalize xs.getD k [] = m at *
      have r6 := made6 wr m 30
      generalize hL : bs ++ (xs.take k).flatMap macL = L at *
      have HL := Lib.hid hL
      clear hL
      go_wp2_with fail
      refine (pbyte_any (hpd.keep0 ((Keep.refl _ _).alloc _)) r6 (by simp [macL]; omega)).mono ?_
      rintro x w2 ⟨svn, rfl, hpd2, hk2, hl3⟩
      go_wp2_with fail
      go_roundw
      case rel =>
        refine ⟨k + 1, svn, by omega, by go_num, ?_, ?_, hlater.trans hl3 (by have := hkeep.size; simp; omega)⟩
        · rw [HFL.out, ← List.append_assoc, HL.out]; exact hpd2
        · exact (hkeep.alloc _).foot hlater hk2
      case measure => simp [intOf]; omega
    · have hke : k = xs.length := by omega
      subst hke
      rw [List.take_length] at hpd
      go_wp2
      go_ret
      exact ⟨svk, rfl, hpd, hkeep, hlater⟩
end
end Go.Proofs.Ytpnocepepihflaa
namespace Go.Proofs.Ytpnocepepihflaa
open Go.RowKit
section
variable {S0 : Nat → Prop} {w0 : World} {B : Nat → List UInt8}
theorem loud_four {r : Nat} {xs : List Nat} (hB : B (r + 1) = B r ++ xs.flatMap bytes4) (hn : (B r).length + 4 * xs.length ≤ 1099511627776) (hx : ∀ i, i < xs.length → xs.getD i 0 < 4294967296) :
    LoudM Try.prog S0 w0 (PadD B w0) (r + 1) 33 [padS, rowS 1 xs.length (fun i => .int .u32 (xs.getD i 0 : Nat))] padS := by
  intro g w vals hk hb hd ha
  match vals, ha with
  | [x, y], ha =>
    obtain ⟨⟨hl, hx'⟩, ⟨hy, hyb⟩, _⟩ := ha
    obtain ⟨_, p, sv, hv, hpd, hg, hp, hs⟩ := hd
    rw [hx', hv]
    refine (pfour_any hpd hy hx (fun b h => by have := (hyb b h).2; rwa [hg] at this) hn).mono ?_
    rintro e w' ⟨sv', rfl, hpd', k, hlat⟩
    obtain ⟨h1, h2, h3⟩ := pad_step (S0 := S0) hg hv hl hp hs hk.size hpd' k hlat
    exact ⟨_, _, rfl, h1, h2, ⟨trivial, p, sv', rfl, by rw [hB]; exact hpd', rfl, hp, h3⟩, trivial, rfl⟩

theorem loud_mac {r : Nat} {xs : List (List UInt8)} (hB : B (r + 1) = B r ++ xs.flatMap macL) (hn : (B r).length + 6 * xs.length ≤ 1099511627776) :
    LoudM Try.prog S0 w0 (PadD B w0) (r + 1) 34 [padS, rowS 6 xs.length (fun j => .int .u8 ((byteAt (xs.getD (j / 6) []) (j % 6)).toNat : Int))] padS := by
  intro g w vals hk hb hd ha
  match vals, ha with
  | [x, y], ha =>
    obtain ⟨⟨hl, hx'⟩, ⟨hy, hyb⟩, _⟩ := ha
    obtain ⟨_, p, sv, hv, hpd, hg, hp, hs⟩ := hd
    rw [hx', hv]
    refine (pmac_any hpd hy (fun b h => by have := (hyb b h).2; rwa [hg] at this) hn).mono ?_
    rintro e w' ⟨sv', rfl, hpd', k, hlat⟩
    obtain ⟨h1, h2, h3⟩ := pad_step (S0 := S0) hg hv hl hp hs hk.size hpd' k hlat
    exact ⟨_, _, rfl, h1, h2, ⟨trivial, p, sv', rfl, by rw [hB]; exact hpd', rfl, hp, h3⟩, trivial, rfl⟩

end
end Go.Proofs.Ytpnocepepihflaa
namespace Go.Proofs.Ytpnocepepihflaa
open Go.RowKit

/-- A slice's begin. -/
def Sb.cut (s : Sb) (k : Nat) : Sb := ⟨if s.c = 0 then s.o else s.o.map (·.add 0), k, s.c⟩
theorem cutv_sb (s : Sb) (k : Nat) : cutv s.v 0 k = (s.cut k).v := rfl

theorem Rd.cutS {w : World} {s : Sb} {bs : List UInt8} (r : Rd w s.v bs) (k : Nat) : Rd w (s.cut (mn bs.length k)).v (bs.take k) := by
  have h := r.cut (Nat.zero_le _) (mn_le_left bs.length k)
  rw [cutv_sb] at h
  have e : (bs.drop 0).take (mn bs.length k - 0) = bs.take k := by
    rw [List.drop_zero, Nat.sub_zero, mn_eq]
    rcases Nat.le_total bs.length k with h1 | h1
    · rw [Nat.min_eq_left h1, List.take_length, List.take_of_length_le h1]
    · rw [Nat.min_eq_right h1]
  rw [e] at h
  exact h
/-- An option, cut. -/
def cutE (k : Nat) (e : Oe) : Oe := ⟨e.code, e.s.cut (mn e.val.length k), e.val.take k⟩
def fewE (l : List Oe) : List Oe := (l.take 12).map (cutE 300)
theorem fewE_lt {l : List Oe} {n : Nat} (h : n < l.length) (h12 : n < 12) : fewE (l.take (n + 1)) = fewE (l.take n) ++ [cutE 300 l[n]] := by
  unfold fewE
  rw [List.take_take, List.take_take, Nat.min_eq_right (by omega), Nat.min_eq_right (by omega), List.take_succ_eq_append_getElem h, List.map_append]
  rfl
theorem fewE_ge {l : List Oe} {n : Nat} (h12 : 12 ≤ n) : fewE (l.take (n + 1)) = fewE (l.take n) := by
  unfold fewE
  rw [List.take_take, List.take_take, Nat.min_eq_left (by omega), Nat.min_eq_left (by omega)]
theorem fewE_len (l : List Oe) : (fewE l).length ≤ 12 := by
  unfold fewE
  rw [List.length_map, List.length_take]
  omega
noncomputable abbrev feC : Code := bodyOf Try.f18
noncomputable abbrev feN : Nat := Try.f18.ntmps
/-- What few leaves. -/
def fewQ (w : World) (m : Mh) (sb : Sb) (l : List Oe) (bh : List UInt8) : Ending → World → Prop := fun x w' => ∃ u : Sb, x = .returned (.agg (m.a u.v (sb.cut (mn bh.length 40)).v)) ∧ Keep No w w' ∧ Ro false w' u.v (fewE l) ∧ Since w.heap.size u.v ∧ Under w'.heap.size u.v
structure FeI where
  j : Nat
  u : Sb
abbrev feRow (w : World) (m : Mh) (so sb : Sb) : List RowS := [⟨w.heap.size, (m.a so.v sb.v).toList, true⟩, ⟨w.heap.size + 1, (mz.a nilV nilV).toList, true⟩]
noncomputable def feL (w : World) (m : Mh) (so sb : Sb) (l : List Oe) (i : FeI) (w' : World) : Cfg := ⟨frOf [1, 2, 3, 7, 8, 9] [pT w.heap.size, pT (w.heap.size + 1), i.u.v, so.v, .int .i64 (l.length : Int), .int .i64 ((l.length - i.j : Nat) : Int)], tagL [(1, 0), (2, 1)], ⟨feRow w m so sb, w'.heap.size⟩, atL feC 3⟩
structure FeJ (w : World) (m : Mh) (so sb : Sb) (l : List Oe) (i : FeI) (w' : World) : Prop where
  le : i.j ≤ l.length
  W : Wst w ⟨feRow w m so sb, w'.heap.size⟩ w'
  oo : Oo false 24 w' i.u.v (fewE (l.take (l.length - i.j)))
  si : Since (w.heap.size + 2) i.u.v
noncomputable def feR (w : World) (m : Mh) (so sb : Sb) (l : List Oe) (i : FeI) : Act → World → Prop := fun a' w' => ∃ k : FeI, k.j < i.j ∧ FeJ w m so sb l k w' ∧ agrees feN (feL w m so sb l k w') a'
/-- The message's row behind each store. -/
def fewK (w : World) (m : Mh) (so sb u z : Sb) : Nat → List (Nat × List Value)
  | 0 => [(w.heap.size, (m.a so.v sb.v).toList)]
  | 1 => [(w.heap.size, (m.a u.v sb.v).toList)]
  | _ => [(w.heap.size, (m.a u.v z.v).toList)]
theorem few_ld (w : World) (m : Mh) (so sb u z : Sb) : ∀ k, k ≤ 1 → ∃ cs l, (w.heap.size, cs) ∈ fewK w m so sb u z k ∧ (∀ q ∈ l, q.1 = q.2) ∧ ∀ nx, gRun Try.prog (some 0) (Instr.loadAt 22 (.pointer (some ⟨w.heap.size, 218, none⟩))) ⟨[⟨w.heap.size, cs, false⟩], nx⟩ = some (sb.v, ⟨[⟨w.heap.size, cs, false⟩], nx⟩, (l : List (Nat × Nat)))
  | 0, _ => ⟨(m.a so.v sb.v).toList, [(w.heap.size, w.heap.size)], List.mem_singleton.2 rfl, fun q hq => by obtain rfl := List.mem_singleton.1 hq; rfl, fun nx => by kernel_rfl⟩
  | 1, _ => ⟨(m.a u.v sb.v).toList, [(w.heap.size, w.heap.size)], List.mem_singleton.2 rfl, fun q hq => by obtain rfl := List.mem_singleton.1 hq; rfl, fun nx => by kernel_rfl⟩
section
variable {w : World} {m : Mh} {so sb : Sb} {l : List Oe} {bh : List UInt8}
theorem fe_round (r : RoV false w so.v l) (hl : l.length ≤ 9223372036854775807) (i : FeI) (w' : World) (hJ : FeJ w m so sb l i w') (j : Nat) (hj : i.j = j + 1) :
    Goal Try.prog (bodyPost Try.prog Try.f18 (fewQ w m sb l bh)) feN { feL w m so sb l i w' with todo := .code (loopOf (atL feC 3)) :: .inv (feR w m so sb l i) :: (atL feC 3).tail } w' := by
  obtain ⟨hle, hW, oo, si⟩ := hJ
  unfold feL
  rw [hj] at hle oo ⊢
  simp only
  obtain ⟨q, hq⟩ : ∃ q, l.length - (j + 1) = q := ⟨_, rfl⟩
  rw [hq] at oo ⊢
  have hql : q < l.length := by omega
  have hnext : l.length - j = q + 1 := by omega
  have rq := r.each l[q] (List.getElem_mem hql)
  have hld : ∀ wx, (∀ k, Safe ⟨feRow w m so sb, w'.heap.size⟩ k → wx.heap[k]? = w'.heap[k]?) → (Instr.loadAt 24 (.pointer (some (ad2 so.v q)))).run Try.prog wx = .ok (.agg ((l[q]).a false)) wx := fun wx hx => (r.ro.walk hW hx).sem_ld E2o hql
  have hlt := @fewE_lt l q hql
  obtain ⟨e, he⟩ : ∃ e, l[q] = e := ⟨_, rfl⟩
  rw [he] at hld rq hlt
  have hci : decide ((q : Int) < (l.length : Int)) = true := decide_eq_true (by omega)
  have hinc : IntKind.i64.wrap ((q : Int) + 1) = ((q + 1 : Nat) : Int) := by rw [IntWalk.i64_in _ (by omega)]; omega
  obtain ⟨ly, hly⟩ : ∃ ly, fewE (l.take q) = ly := ⟨_, rfl⟩
  rw [hly] at oo hlt
  have hw2 : w.heap.size + 2 ≤ w'.heap.size := by
    obtain ⟨t, ht⟩ := hW.rows ⟨w.heap.size + 1, (mz.a nilV nilV).toList, true⟩ (by simp)
    exact block_of_row ht
  have sfu : ∀ b, i.u.v.ownBlock = some b → Safe ⟨feRow w m so sb, w'.heap.size⟩ b := fun b hb => ⟨oo.lt b hb, fun r hr _ => by
    have := si b hb
    simp only [List.mem_cons, List.not_mem_nil, or_false] at hr
    rcases hr with rfl | rfl
    · show w.heap.size ≠ b; omega
    · show w.heap.size + 1 ≠ b; omega⟩
  have fin : ∀ (u : Sb) (w5 : World) (a : Act), Wst w ⟨feRow w m so sb, w5.heap.size⟩ w5 → Oo false 24 w5 u.v (fewE (l.take (q + 1))) → Since (w.heap.size + 2) u.v →
      Slots feN [1, 2, 3, 7, 8, 9] [pT w.heap.size, pT (w.heap.size + 1), u.v, so.v, .int .i64 (l.length : Int), .int .i64 ((q + 1 : Nat) : Int)] a → feR w m so sb l i a w5 := by
    intro u w5 a hW5 ho hs5 hs
    refine ⟨⟨j, u⟩, by rw [hj]; exact Nat.lt_succ_self j, ⟨by show j ≤ l.length; omega, hW5, ?_, hs5⟩, ?_⟩
    · show Oo false 24 w5 u.v (fewE (l.take (l.length - j)))
      rw [hnext]
      exact ho
    · unfold feL
      simp only
      rw [hnext]
      exact hs
  cases h12 : decide ((q : Int) < 12) with
  | false =>
    have h12' : 12 ≤ q := by have := of_decide_eq_false h12; omega
    refine go_inv (gt := fun _ => Option.none) (unroll := false) 60 [(3, 0, .is (.bool true)), (4, 1, .sem (.pointer (some (ad2 so.v q)))), (4, 2, .sem (.agg (e.a false))), (5, 1, .is (.bool false)), (7, 0, .is (.int .i64 ((q + 1 : Nat) : Int)))] [1, 2, 3, 7, 8, 9] [pT w.heap.size, pT (w.heap.size + 1), i.u.v, so.v, .int .i64 (l.length : Int), .int .i64 ((q + 1 : Nat) : Int)] (feRow w m so sb ++ [⟨w'.heap.size, (e.a false).toList, true⟩]) (feR w m so sb l i)
      [(.bool (decide ((q : Int) < (l.length : Int))), .bool true), (.bool (decide ((q : Int) < 12)), .bool false), (.int .i64 (IntKind.i64.wrap ((q : Int) + 1)), .int .i64 ((q + 1 : Nat) : Int))] [(Instr.indexAt 25 so.v (.int .i64 (q : Int)), .pointer (some (ad2 so.v q))), (Instr.loadAt 24 (.pointer (some (ad2 so.v q))), .agg (e.a false))] hW (by kernel_rfl) ⟨congrArg Value.bool hci, congrArg Value.bool h12, congrArg (Value.int .i64) hinc, trivial⟩ ⟨fun wx _ => r.ro.sem_at E2o hql wx, hld, trivial⟩ ?_
    intro w5 a hW5 hS5 hs
    exact fin i.u w5 a (hW5.fewer (rows := feRow w m so sb)) (by rw [fewE_ge h12', hly]; exact oo.same fun b hb => hS5.same b (sfu b hb)) si hs
  | true =>
    have h12' : q < 12 := by have := of_decide_eq_true h12; omega
    have hlt := hlt h12'
    refine go_stop (gt := fun _ => Option.none) (unroll := false) 60 [(3, 0, .is (.bool true)), (4, 1, .sem (.pointer (some (ad2 so.v q)))), (4, 2, .sem (.agg (e.a false))), (5, 1, .is (.bool true))] [1, 2, 3, 5, 7, 8, 9] [pT w.heap.size, pT (w.heap.size + 1), i.u.v, pT w'.heap.size, so.v, .int .i64 (l.length : Int), .int .i64 (q : Int)] (feRow w m so sb ++ [⟨w'.heap.size, (e.a false).toList, true⟩]) [(1, 0), (2, 1), (5, 2)] (atR feC 6 (.inv (feR w m so sb l i)))
      [(.bool (decide ((q : Int) < (l.length : Int))), .bool true), (.bool (decide ((q : Int) < 12)), .bool true)] [(Instr.indexAt 25 so.v (.int .i64 (q : Int)), .pointer (some (ad2 so.v q))), (Instr.loadAt 24 (.pointer (some (ad2 so.v q))), .agg (e.a false))] hW (by kernel_rfl) ⟨congrArg Value.bool hci, congrArg Value.bool h12, trivial⟩ ⟨fun wx _ => r.ro.sem_at E2o hql wx, hld, trivial⟩ ?_
    intro w5 hW5 hS5
    have oo5 := oo.same fun b hb => hS5.same b (sfu b hb)
    have h5s : w'.heap.size < w5.heap.size := by
      obtain ⟨t, ht⟩ := hW5.rows ⟨w'.heap.size, (e.a false).toList, true⟩ (by simp)
      exact block_of_row ht
    have apart : ∀ {z : Value}, (∀ b, z.ownBlock = some b → w.heap.size + 2 ≤ b ∧ b ≠ w'.heap.size) → ∀ {wx : World}, Loose w ⟨feRow w m so sb ++ [⟨w'.heap.size, (e.a false).toList, true⟩], wx.heap.size⟩ (ownB z) := fun hz wx k hk => by
      have h1 := hz k hk
      refine ⟨by omega, fun r hr => ?_⟩
      simp only [List.cons_append, List.nil_append, List.mem_cons, List.not_mem_nil, or_false] at hr
      rcases hr with rfl | rfl | rfl
      · show w.heap.size ≠ k; omega
      · show w.heap.size + 1 ≠ k; omega
      · show w'.heap.size ≠ k; omega
    have hap := apart (z := i.u.v) (fun b hb => ⟨si b hb, by have := oo.lt b hb; omega⟩) (wx := w5)
    have hlen : ly.length ≤ 12 := by rw [← hly]; exact fewE_len _
    have rq5 : ∀ wx : World, Rd w e.s.v e.val := fun _ => rq
    refine drawnM_ok (S0 := ownB i.u.v) (gt := fun _ => Option.none) (D := ApD false 24 i.u.v ly [cutE 300 e] w5) (g0 := gA i.u.v)
      [(7, .sem (.int .i64 (e.val.length : Int))), (8, .sem (.int .i64 (mn e.val.length 300 : Nat))), (9, .sem (e.s.cut (mn e.val.length 300)).v), (11, .new (lsS false [cutE 300 e])), (12, .act padS), (13, .by padS)]
      [1, 2, 3, 7, 8, 9] [.is (pT w.heap.size), .is (pT (w.heap.size + 1)), padS, .is so.v, .is (.int .i64 (l.length : Int)), .is (.int .i64 (q : Int))]
      (True ∧ True ∧ True ∧ True ∧ True ∧ True ∧ True ∧
        SemM Try.prog (ownB i.u.v) w5 (Builtin.len_ #[22] 3 #[.slice e.s.o e.s.n e.s.c]) (.int .i64 (e.val.length : Int)) ∧
        SemM Try.prog (ownB i.u.v) w5 (Builtin.min_ #[3, 3] 3 #[.int .i64 (e.val.length : Int), .int .i64 300]) (.int .i64 (mn e.val.length 300 : Nat)) ∧
        SemM Try.prog (ownB i.u.v) w5 (Instr.sliceAt 22 (.slice e.s.o e.s.n e.s.c) Option.none (some (.int .i64 (mn e.val.length 300 : Nat))) Option.none) (e.s.cut (mn e.val.length 300)).v ∧
        True ∧
        NewM Try.prog (ownB i.u.v) w5 (Instr.buildSlice 25 1 #[(0, .agg ((cutE 300 e).a false))]) (lsS false [cutE 300 e]) ∧
        ActM Try.prog (ownB i.u.v) w5 (ApD false 24 i.u.v ly [cutE 300 e] w5) 0 (.call { callee := .builtin .append, args := #[.tmp 16, .tmp 27], argTypes := #[25, 25] }) 25 [(16, .is i.u.v), (27, lsS false [cutE 300 e])] padS ∧
        ByM Try.prog (ownB i.u.v) w5 (.assign (.tmp 28)) 25 [(28, padS)] padS ∧ True)
      1 (afterR feC 6 (.inv (feR w m so sb l i))) hW5 hap (by kernel_rfl) (by kernel_rfl) (by kernel_rfl) ApD.keep (gA_base oo5) (gA_D oo5)
      ⟨trivial, trivial, trivial, trivial, trivial, trivial, trivial, fun wx _ => rq.run_len (ty := 3) bt.sl, fun wx _ => run_mn #[3, 3] 3 e.val.length 300, fun wx _ => rq.sem_cutH (mn_le_left _ _) wx, trivial, new_ls (by simp [maxLen]) rfl (fun nx => by kernel_rfl), ap_app E2o (by simp; omega) _, by_assign, trivial⟩ ?_
    intro g w6 vs k6 _ hd hok
    match vs, hok with
    | [x1, x2, x3, x7, x8, x9], ⟨h1, h2, h3, h7, h8, h9, _⟩ =>
    obtain rfl : x1 = _ := h1
    obtain rfl : x2 = _ := h2
    obtain rfl : x7 = _ := h7
    obtain rfl : x8 = _ := h8
    obtain rfl : x9 = _ := h9
    have h3 : x3 = g.val := h3.2
    obtain ⟨_, _, hla, oo6⟩ := hd
    rw [← h3] at hla oo6
    obtain ⟨z, rfl⟩ := oo6.sb
    have hW6 := hW5.laterS k6 hap
    have hz : ∀ b, z.v.ownBlock = some b → w.heap.size + 2 ≤ b ∧ b ≠ w'.heap.size := fun b hb => by
      rcases hla with h | h
      · rw [h] at hb
        exact ⟨si b hb, by have := oo.lt b hb; omega⟩
      · have := h b hb
        omega
    have hapz := apart hz (wx := w6)
    refine go_inv (gt := fun _ => Option.none) (unroll := false) 60 [(7, 0, .is (.int .i64 ((q + 1 : Nat) : Int)))] [1, 2, 3, 7, 8, 9] [pT w.heap.size, pT (w.heap.size + 1), z.v, so.v, .int .i64 (l.length : Int), .int .i64 ((q + 1 : Nat) : Int)] (feRow w m so sb ++ [⟨w'.heap.size, (e.a false).toList, true⟩]) (feR w m so sb l i)
      [(.int .i64 (IntKind.i64.wrap ((q : Int) + 1)), .int .i64 ((q + 1 : Nat) : Int))] [] hW6 (by kernel_rfl) ⟨congrArg (Value.int .i64) hinc, trivial⟩ trivial ?_
    intro w7 a hW7 hS7 hs
    exact fin z w7 a (hW7.fewer (rows := feRow w m so sb)) (by rw [hlt]; exact oo6.same fun b hb => hS7.same b ⟨oo6.lt b hb, fun r hr _ => (hapz b hb).2 r hr⟩) (fun b hb => (hz b hb).1) hs
set_option maxRecDepth 8000 in
theorem few_any (r : RoV false w so.v l) (rb : Rd w sb.v bh) (hl : l.length ≤ 9223372036854775807) : Calls Try.prog 18 #[.agg (m.a so.v sb.v)] w (fewQ w m sb l bh) := by
  refine enter (args := [.agg (m.a so.v sb.v)]) Try.func18 (by kernel_rfl) ?_
  refine go_stop (gt := fun _ => Option.none) (unroll := false) 60 [(2, 2, .sem (.int .i64 (l.length : Int)))] [1, 2, 3, 7, 8, 9] [pT w.heap.size, pT (w.heap.size + 1), nilV, so.v, .int .i64 (l.length : Int), .int .i64 0] (feRow w m so sb) [(1, 0), (2, 1)] (atL feC 3) [] [(Builtin.len_ #[25] 3 #[so.v], .int .i64 (l.length : Int))] (Wst.start0 w) (by kernel_rfl) trivial ⟨fun wx _ => r.ro.sem_len E2o (ty := 3) wx, trivial⟩ ?_
  intro w1 hW1 _
  have key := loop_okT (P := Try.prog) (Q := bodyPost Try.prog Try.f18 (fewQ w m sb l bh)) (n := feN) (x := loopOf (atL feC 3)) (k := (atL feC 3).tail) (fun i : FeI => i.j) (feL w m so sb l) (FeJ w m so sb l) (fun _ _ => by kernel_rfl) ?_ ⟨l.length, ⟨none, 0, 0⟩⟩ w1
    ⟨Nat.le_refl _, hW1, by rw [Nat.sub_self]; exact Oo.nil _ _, nilV_since _⟩
  · unfold feL at key
    rw [Nat.sub_self] at key
    exact key
  intro i w' hJ
  rcases Nat.eq_zero_or_pos i.j with hi | hi
  case inr =>
    obtain ⟨j, hj⟩ := Nat.exists_eq_succ_of_ne_zero (Nat.ne_of_gt hi)
    exact fe_round r hl i w' hJ j hj
  case inl =>
    obtain ⟨hle, hW, oo, si⟩ := hJ
    rw [hi, Nat.sub_zero, List.take_length] at oo
    unfold feL
    rw [hi]
    simp only [Nat.sub_zero]
    obtain ⟨u, hu⟩ : ∃ u, i.u = u := ⟨_, rfl⟩
    rw [hu] at oo si ⊢
    refine go_stop (gt := fun _ => Option.none) (unroll := false) 60 [(3, 0, .is (.bool false))] [1, 2, 3] [pT w.heap.size, pT (w.heap.size + 1), u.v] (feRow w m so sb) [(1, 0), (2, 1)] (atR feC 8) [(.bool (decide ((l.length : Int) < (l.length : Int))), .bool false)] [] hW (by kernel_rfl) ⟨congrArg Value.bool (by simp), trivial⟩ trivial ?_
    intro w2 hW2 hS2
    have sfu : ∀ b, u.v.ownBlock = some b → Safe ⟨feRow w m so sb, w'.heap.size⟩ b := fun b hb => ⟨oo.lt b hb, fun r hr _ => by
      have := si b hb
      simp only [List.mem_cons, List.not_mem_nil, or_false] at hr
      rcases hr with rfl | rfl
      · show w.heap.size ≠ b; omega
      · show w.heap.size + 1 ≠ b; omega⟩
    have oo2 := oo.same fun b hb => hS2.same b (sfu b hb)
    have hW2' : Wst w ⟨[⟨w.heap.size + 1, (mz.a nilV nilV).toList, true⟩], w2.heap.size⟩ w2 := ⟨rfl, fun r hr => hW2.rows r (by obtain rfl := List.mem_singleton.1 hr; simp), by simp, fun r hr ho => hW2.own r (by obtain rfl := List.mem_singleton.1 hr; simp) ho, hW2.keep⟩
    have hll : Loose w ⟨[⟨w.heap.size + 1, (mz.a nilV nilV).toList, true⟩], w2.heap.size⟩ (One w.heap.size) := fun q hq => ⟨by rw [show q = w.heap.size from hq]; exact Nat.le_refl _, fun r hr => by obtain rfl := List.mem_singleton.1 hr; rw [show q = w.heap.size from hq]; show w.heap.size + 1 ≠ w.heap.size; omega⟩
    have hKN : ∀ wx, Keep (One w.heap.size) w2 wx → Keep No w wx := fun wx k => hW2.keep.trans' k (fun i hi h => by rw [show i = w.heap.size from h] at hi; omega)
    have hlt2 : w.heap.size < w2.heap.size := by obtain ⟨t, ht⟩ := hW2.rows ⟨w.heap.size, (m.a so.v sb.v).toList, true⟩ (by simp); exact block_of_row ht
    obtain ⟨z, hz⟩ : ∃ z, sb.cut (mn bh.length 40) = z := ⟨_, rfl⟩
    have hcut := fun wx : World => rb.sem_cutH (k := mn bh.length 40) (mn_le_left _ _) wx
    rw [cutv_sb, hz] at hcut
    refine Goal.re (tags := tagL [(2, 0)]) (m := ⟨[⟨w.heap.size + 1, (mz.a nilV nilV).toList, true⟩], w2.heap.size⟩) ?_
    refine drawnM_ok (S0 := One w.heap.size) (gt := fun _ => Option.none) (D := RowsK (One w.heap.size) (fewK w m so sb u z)) (g0 := ⟨False, undef, One w.heap.size⟩)
      [(2, .mid 1 (.is sb.v)), (4, .mid 1 (.is sb.v)), (5, .sem (.int .i64 (bh.length : Int))), (6, .sem (.int .i64 (mn bh.length 40 : Nat))), (7, .sem z.v), (9, .act (.is undef)), (11, .act (.is undef))] [1, 2] [.is (pT w.heap.size), .is (pT (w.heap.size + 1))]
      (True ∧ True ∧
        MidM Try.prog (One w.heap.size) w2 (RowsK (One w.heap.size) (fewK w m so sb u z)) 1 (.load 22 (.tmp 31)) 22 [(31, .is (.pointer (some ⟨w.heap.size, 218, none⟩)))] (.is sb.v) ∧ True ∧
        MidM Try.prog (One w.heap.size) w2 (RowsK (One w.heap.size) (fewK w m so sb u z)) 1 (.load 22 (.tmp 33)) 22 [(33, .is (.pointer (some ⟨w.heap.size, 218, none⟩)))] (.is sb.v) ∧
        SemM Try.prog (One w.heap.size) w2 (Builtin.len_ #[22] 3 #[sb.v]) (.int .i64 (bh.length : Int)) ∧
        SemM Try.prog (One w.heap.size) w2 (Builtin.min_ #[3, 3] 3 #[.int .i64 (bh.length : Int), .int .i64 40]) (.int .i64 (mn bh.length 40 : Nat)) ∧
        SemM Try.prog (One w.heap.size) w2 (Instr.sliceAt 22 sb.v Option.none (some (.int .i64 (mn bh.length 40 : Nat))) Option.none) z.v ∧ True ∧
        ActM Try.prog (One w.heap.size) w2 (RowsK (One w.heap.size) (fewK w m so sb u z)) 0 (.store 25 (.tmp 38) (.tmp 30)) 0 [(38, .is (.pointer (some ⟨w.heap.size, 217, none⟩))), (30, .is u.v)] (.is undef) ∧ True ∧
        ActM Try.prog (One w.heap.size) w2 (RowsK (One w.heap.size) (fewK w m so sb u z)) 1 (.store 22 (.tmp 39) (.tmp 37)) 0 [(39, .is (.pointer (some ⟨w.heap.size, 218, none⟩))), (37, .is z.v)] (.is undef) ∧ True)
      2 (afterR feC 8) hW2' hll (by kernel_rfl) (by kernel_rfl) (by kernel_rfl) RowsK.keep (fun k h => ⟨by rw [show k = w.heap.size from h]; exact hlt2, fun _ => h⟩)
      ⟨rfl, fun q hq => by obtain rfl := List.mem_singleton.1 hq; exact hW2.rows ⟨w.heap.size, (m.a so.v sb.v).toList, true⟩ (by simp)⟩
      ⟨trivial, trivial, mid_loadR (few_ld w m so sb u z), trivial, mid_loadR (few_ld w m so sb u z), fun wx _ => rb.run_len (ty := 3) bt.sl, fun wx _ => run_mn #[3, 3] 3 bh.length 40, fun wx _ => hcut wx, trivial,
        act_storeO hKN (Nat.le_refl _) rfl (List.mem_singleton.2 rfl) (fun q hq => .inl (List.mem_singleton.1 hq)) [(w.heap.size, w.heap.size)] (fun q hq => by obtain rfl := List.mem_singleton.1 hq; rfl) (fun nx => by kernel_rfl), trivial,
        act_storeO hKN (Nat.le_refl _) rfl (List.mem_singleton.2 rfl) (fun q hq => .inl (List.mem_singleton.1 hq)) [(w.heap.size, w.heap.size)] (fun q hq => by obtain rfl := List.mem_singleton.1 hq; rfl) (fun nx => by kernel_rfl), trivial⟩ ?_
    intro g w6 vs k6 _ hd hok
    obtain rfl := allOkM_is (vs := [pT w.heap.size, pT (w.heap.size + 1)]) hok
    obtain ⟨t6, hrow6⟩ := hd.2 (w.heap.size, (m.a u.v z.v).toList) (List.mem_singleton.2 rfl)
    have hW6 := (hW2'.laterS k6 hll).addRow hrow6 (Nat.le_refl _) (fun r hr => by obtain rfl := List.mem_singleton.1 hr; show w.heap.size + 1 ≠ w.heap.size; omega)
    have oo6 := oo2.keep k6 (fun b hb e => by have := si b hb; rw [show b = w.heap.size from e] at this; omega)
    refine Goal.re (tags := tagL [(1, 1), (2, 0)]) (m := ⟨[⟨w.heap.size + 1, (mz.a nilV nilV).toList, true⟩, ⟨w.heap.size, (m.a u.v z.v).toList, true⟩], w6.heap.size⟩) ?_
    refine go_ret (gt := fun _ => Option.none) (unroll := false) 60 [] [.cell 2 35] (.agg (m.a u.v z.v)) [] [] hW6 Try.results18 (by kernel_rfl) trivial trivial ?_
    intro w9 hW9 hS9
    have oo9 := oo6.same fun b hb => hS9.same b ⟨oo6.lt b hb, fun r hr _ => by
      have := si b hb
      simp only [List.mem_cons, List.not_mem_nil, or_false] at hr
      rcases hr with rfl | rfl
      · show w.heap.size + 1 ≠ b; omega
      · show w.heap.size ≠ b; omega⟩
    exact ⟨u, by rw [hz], hW9.keep, oo9.rt, fun b hb => by have := si b hb; omega, oo9.lt⟩
end
end Go.Proofs.Ytpnocepepihflaa
namespace Go.Proofs.Ytpnocepepihflaa
open Go.RowKit

theorem b_lo (n : Nat) : IntKind.u8.wrap (n : Int) = ((UInt8.ofNat n).toNat : Int) := by
  rw [byte_lo]
  simp only [IntKind.wrap, IntKind.signed, IntKind.bits]
  rfl
theorem b_shr (n k : Nat) : IntKind.u8.wrap (Int.fdiv (n : Int) (2 ^ k)) = ((UInt8.ofNat (n / 2 ^ k)).toNat : Int) := by
  rw [← b_lo, show ((2 : Int) ^ k) = ((2 ^ k : Nat) : Int) by simp, Int.fdiv_eq_ediv_of_nonneg _ (Int.natCast_nonneg _)]
  rfl
theorem bytes4_eq (n : Nat) : bytes4 n = [UInt8.ofNat (n / 2 ^ 24), UInt8.ofNat (n / 2 ^ 16), UInt8.ofNat (n / 2 ^ 8), UInt8.ofNat n] := by
  unfold bytes4 bytes2
  have h : ∀ a b : Nat, a % 256 = b % 256 → UInt8.ofNat a = UInt8.ofNat b := fun a b h => by
    apply UInt8.toNat_inj.1
    rw [UInt8.toNat_ofNat', UInt8.toNat_ofNat']
    exact h
  show [_, _, _, _] = _
  rw [h (n / 65536 / 256) (n / 2 ^ 24) (by omega), h (n / 65536) (n / 2 ^ 16) (by omega), h (n % 65536 / 256) (n / 2 ^ 8) (by omega), h (n % 65536) n (by omega)]
noncomputable abbrev foC : Code := bodyOf Try.f44
theorem fourL_any (w : World) (n : Nat) : Calls Try.prog 44 #[.int .u32 (n : Int)] w (nwQ w (bytes4 n)) := by
  rw [bytes4_eq]
  refine enter (args := [.int .u32 (n : Int)]) Try.func44 (by kernel_rfl) ?_
  refine go_retM (gt := fun _ => Option.none) (unroll := false) 60 [(1, 2, .is (bv (UInt8.ofNat (n / 2 ^ 24)))), (1, 5, .is (bv (UInt8.ofNat (n / 2 ^ 16)))), (1, 8, .is (bv (UInt8.ofNat (n / 2 ^ 8)))), (1, 10, .is (bv (UInt8.ofNat n)))] [.tmp 2] (.slice (some ⟨w.heap.size, 0, none⟩) 4 4)
    [⟨w.heap.size, bvs [UInt8.ofNat (n / 2 ^ 24), UInt8.ofNat (n / 2 ^ 16), UInt8.ofNat (n / 2 ^ 8), UInt8.ofNat n], true⟩]
    [(.int .u8 (IntKind.u8.wrap (Int.fdiv (n : Int) (2 ^ 24))), bv (UInt8.ofNat (n / 2 ^ 24))), (.int .u8 (IntKind.u8.wrap (Int.fdiv (n : Int) (2 ^ 16))), bv (UInt8.ofNat (n / 2 ^ 16))), (.int .u8 (IntKind.u8.wrap (Int.fdiv (n : Int) (2 ^ 8))), bv (UInt8.ofNat (n / 2 ^ 8))), (.int .u8 (IntKind.u8.wrap (n : Int)), bv (UInt8.ofNat n))] []
    (Wst.start0 w) Try.results44 (by kernel_rfl) (by kernel_rfl) ⟨congrArg (Value.int .u8) (b_shr n 24), congrArg (Value.int .u8) (b_shr n 16), congrArg (Value.int .u8) (b_shr n 8), congrArg (Value.int .u8) (b_lo n), trivial⟩ trivial ?_
  intro w' hW hS
  obtain ⟨l, hl⟩ : ∃ l, [UInt8.ofNat (n / 2 ^ 24), UInt8.ofNat (n / 2 ^ 16), UInt8.ofNat (n / 2 ^ 8), UInt8.ofNat n] = l := ⟨_, rfl⟩
  have h4 : l.length = 4 := by rw [← hl]; rfl
  rw [hl] at hW ⊢
  refine ⟨_, rfl, hW.keep, Rd.of_row (bs := l) (cs := bvs l) (ow := true) hW (by simp) 4 h4 (by simp [maxLen]) (fun i hi => by rw [Nat.zero_add]; exact bvs_get hi), fun b hb => ?_, fun b hb => ?_⟩
  · obtain rfl : w.heap.size = b := Option.some.inj hb
    exact Nat.le_refl _
  · obtain rfl : w.heap.size = b := Option.some.inj hb
    obtain ⟨t, ht⟩ := hW.rows _ (List.mem_singleton.2 rfl)
    exact block_of_row ht
theorem four_ob {u : Value} {w0 : World} {n : Nat} : H.CallM Try.prog (ownB u) w0 44 [.is (.int .u32 (n : Int))] (H.rdH (bytes4 n)) := by
  intro g w vals hk hb ha
  match vals, ha with
  | [x], ⟨hx, _⟩ =>
    obtain rfl : x = _ := hx
    refine (fourL_any w n).mono ?_
    rintro e w' ⟨v, rfl, k, h1, h2, h3⟩
    exact ⟨v, rfl, k, h1, fun b hb' => ⟨h3 b hb', fun hp => by have := (hb b hp).1; have := h2 b hb'; omega⟩⟩
/-- So many bytes of a field. -/
def tk (n : Nat) (l : List UInt8) : List UInt8 := (List.range n).map (byteAt l)
theorem tk_length (n : Nat) (l : List UInt8) : (tk n l).length = n := by simp [tk]
/-- The four ahead. -/
def hd0 (m : Mh) : List UInt8 := [m.op, 1, 6, m.hops]
def hd1 (m : Mh) : List UInt8 := hd0 m ++ bytes4 m.xid ++ (bytes2 m.secs ++ bytes2 m.flags)
def ips (m : Mh) : List Nat := [m.client, m.yours, m.next, m.relay]
def hd2 (m : Mh) : List UInt8 := hd1 m ++ (ips m).flatMap bytes4
/-- The head's 236 bytes. -/
def headL (m : Mh) : List UInt8 := hd2 m ++ tk 6 m.station ++ tk 10 m.pad ++ tk 64 m.server ++ tk 128 m.file
theorem Rd.part {W0 w : World} {m : Mem} (hW : Wst W0 m w) {b off n : Nat} {cs : List Value} {ow : Bool} (hr : ⟨b, cs, ow⟩ ∈ m.rows) {bs : List UInt8} (h : (cs.drop off).take n = bvs bs) (hl : bs.length = n) (hn : n ≤ maxLen) : Rd w (.slice (some ⟨b, off, none⟩) n n) bs := by
  refine Rd.of_row hW hr n hl hn fun i hi => ?_
  have h1 := bvs_get hi
  rw [← h, List.getElem?_take, if_pos (by omega), List.getElem?_drop] at h1
  exact h1
section
variable (m : Mh) (o b : Value)
theorem pt_station : (((m.a o b).toList).drop 9).take 6 = bvs (tk 6 m.station) := by kernel_rfl
theorem pt_pad : (((m.a o b).toList).drop 15).take 10 = bvs (tk 10 m.pad) := by kernel_rfl
theorem pt_server : (((m.a o b).toList).drop 25).take 64 = bvs (tk 64 m.server) := by kernel_rfl
theorem pt_file : (((m.a o b).toList).drop 89).take 128 = bvs (tk 128 m.file) := by kernel_rfl
end
end Go.Proofs.Ytpnocepepihflaa
namespace Go.Proofs.Ytpnocepepihflaa
open Go.RowKit

noncomputable abbrev ofC : Code := bodyOf Try.f16
noncomputable abbrev ofN : Nat := Try.f16.ntmps
/-- What of leaves. -/
def ofQ (w : World) (m : Mh) (sb : Sb) (l : List Oe) : Ending → World → Prop := fun x w' => ∃ h o : Sb, x = .returned (.agg #[h.v, o.v, sb.v]) ∧ Keep No w w' ∧ NewB w.heap.size w' h.v (headL m) ∧ Ro true w' o.v l ∧ Since w.heap.size o.v ∧ Under w'.heap.size o.v
abbrev ofR0 (w : World) (m : Mh) (so sb : Sb) : List RowS := [⟨w.heap.size, (m.a so.v sb.v).toList, true⟩, ⟨w.heap.size + 1, [nilV, nilV, nilV], true⟩]
/-- Behind the two appends; behind each of the four. -/
def ofB1 (m : Mh) : Nat → List UInt8
  | 0 => hd0 m
  | 1 => hd0 m ++ bytes4 m.xid
  | _ => hd1 m
def ofB2 (m : Mh) : Nat → List UInt8
  | 0 => hd2 m
  | 1 => hd2 m ++ tk 6 m.station
  | 2 => hd2 m ++ tk 6 m.station ++ tk 10 m.pad
  | 3 => hd2 m ++ tk 6 m.station ++ tk 10 m.pad ++ tk 64 m.server
  | _ => headL m
theorem hd0_len (m : Mh) : (hd0 m).length = 4 := rfl
theorem hd1_len (m : Mh) : (hd1 m).length = 12 := rfl
theorem hd2_len (m : Mh) : (hd2 m).length = 28 := rfl
theorem headL_len (m : Mh) : (headL m).length = 236 := by
  unfold headL
  simp only [List.length_append, hd2_len, tk_length]
section
variable {w : World} {m : Mh} {so sb : Sb}
/-- What is apart from the rows. -/
theorem of_loose {z : Value} (hz : Since (w.heap.size + 2) z) {wx : World} : Loose w ⟨ofR0 w m so sb, wx.heap.size⟩ (ownB z) := fun k hk => by
  have h1 := hz k hk
  refine ⟨by omega, fun r hr => ?_⟩
  simp only [List.mem_cons, List.not_mem_nil, or_false] at hr
  rcases hr with rfl | rfl
  · show w.heap.size ≠ k; omega
  · show w.heap.size + 1 ≠ k; omega
theorem of_since {n N : Nat} {u x : Value} (h : Since n u) (hl : Later N u x) (hN : n ≤ N) : Since n x := by
  rcases hl with h1 | h1
  · exact fun b hb => h b (by rw [← h1]; exact hb)
  · exact h1.mono hN
set_option maxRecDepth 8000 in
theorem of_region2 {R : Ending → World → Prop} {u : Sb} {w5 : World} (hW5 : Wst w ⟨ofR0 w m so sb, w5.heap.size⟩ w5) (hu : Ab w5 u.v (hd0 m)) (hs : Since (w.heap.size + 2) u.v)
    (hk : ∀ (x : Sb) w6, Wst w ⟨ofR0 w m so sb, w6.heap.size⟩ w6 → Ab w6 x.v (hd1 m) → Since (w.heap.size + 2) x.v → Goal Try.prog (bodyPost Try.prog Try.f16 R) ofN ⟨frOf [1, 2, 3] [pT w.heap.size, pT (w.heap.size + 1), x.v], tagL [(1, 0), (2, 1)], ⟨ofR0 w m so sb, w6.heap.size⟩, afterR ofC 2⟩ w6) :
    Goal Try.prog (bodyPost Try.prog Try.f16 R) ofN ⟨frOf [1, 2, 3] [pT w.heap.size, pT (w.heap.size + 1), u.v], tagL [(1, 0), (2, 1)], ⟨ofR0 w m so sb, w5.heap.size⟩, atR ofC 2⟩ w5 := by
  have hw2 : w.heap.size + 2 ≤ w5.heap.size := by
    obtain ⟨t, ht⟩ := hW5.rows ⟨w.heap.size + 1, [nilV, nilV, nilV], true⟩ (by simp)
    exact block_of_row ht
  refine H.drawnM_ok (S0 := ownB u.v) (gt := fun _ => Option.none) (D := H.ChD u.v [] (ofB1 m) w5) (g0 := H.gB u.v)
    [(3, .call (H.rdH (bytes4 m.xid))), (4, .act (H.nth 1)), (8, .is (bv (UInt8.ofNat (m.secs / 2 ^ 8)))), (11, .is (bv (UInt8.ofNat m.secs))), (15, .is (bv (UInt8.ofNat (m.flags / 2 ^ 8)))), (18, .is (bv (UInt8.ofNat m.flags))), (19, .new (H.rdH (bytes2 m.secs ++ bytes2 m.flags))), (20, .act (H.nth 2)), (21, .by (H.nth 2))]
    [1, 2, 3] [.is (pT w.heap.size), .is (pT (w.heap.size + 1)), H.nth 2]
    (True ∧ True ∧ True ∧ H.CallM Try.prog (ownB u.v) w5 44 [.is (.int .u32 m.xid)] (H.rdH (bytes4 m.xid)) ∧
      H.ActM Try.prog (ownB u.v) w5 (H.ChD u.v [] (ofB1 m) w5) 0 (.call { callee := .builtin .append, args := #[.tmp 14, .tmp 17], argTypes := #[22, 22] }) 22 [(14, .is u.v), (17, H.rdH (bytes4 m.xid))] (H.nth 1) ∧
      True ∧ True ∧ True ∧ Value.int .u8 (IntKind.u8.wrap (Int.fdiv (m.secs : Int) (2 ^ 8))) = bv (UInt8.ofNat (m.secs / 2 ^ 8)) ∧ True ∧ True ∧ Value.int .u8 (IntKind.u8.wrap (m.secs : Int)) = bv (UInt8.ofNat m.secs) ∧
      True ∧ True ∧ True ∧ Value.int .u8 (IntKind.u8.wrap (Int.fdiv (m.flags : Int) (2 ^ 8))) = bv (UInt8.ofNat (m.flags / 2 ^ 8)) ∧ True ∧ True ∧ Value.int .u8 (IntKind.u8.wrap (m.flags : Int)) = bv (UInt8.ofNat m.flags) ∧
      H.NewM Try.prog (ownB u.v) w5 (Instr.buildSlice 22 4 #[(0, bv (UInt8.ofNat (m.secs / 2 ^ 8))), (1, bv (UInt8.ofNat m.secs)), (2, bv (UInt8.ofNat (m.flags / 2 ^ 8))), (3, bv (UInt8.ofNat m.flags))]) (H.rdH (bytes2 m.secs ++ bytes2 m.flags)) ∧
      H.ActM Try.prog (ownB u.v) w5 (H.ChD u.v [] (ofB1 m) w5) 1 (.call { callee := .builtin .append, args := #[.tmp 18, .tmp 33], argTypes := #[22, 22] }) 22 [(18, H.nth 1), (33, H.rdH (bytes2 m.secs ++ bytes2 m.flags))] (H.nth 2) ∧
      H.ByM Try.prog (ownB u.v) w5 (.assign (.tmp 34)) 22 [(34, H.nth 2)] (H.nth 2) ∧ True)
    2 0 (afterR ofC 2) hW5 (of_loose hs) (by kernel_rfl) (by kernel_rfl) (by kernel_rfl) H.ChD.keep (H.gB_base hu) (H.gB_D hu)
    ⟨trivial, trivial, trivial, four_ob, H.ch_app (fun _ _ _ h => h) (fun _ _ _ h => h) (by omega) rfl (by show 4 + 4 ≤ _; omega) (H.ok_is _) (H.ok_rd _ _ _) _,
      trivial, trivial, trivial, congrArg (Value.int .u8) (b_shr m.secs 8), trivial, trivial, congrArg (Value.int .u8) (b_lo m.secs), trivial, trivial, trivial, congrArg (Value.int .u8) (b_shr m.flags 8), trivial, trivial, congrArg (Value.int .u8) (b_lo m.flags),
      H.rdH_new (n := 4) rfl (by simp [maxLen]) (fun nx => by kernel_rfl), H.ch_app (fun _ _ _ h => h) (fun _ _ _ h => h) (by omega) rfl (by show 8 + 4 ≤ _; omega) (H.ok_nth _ _) (H.ok_rd _ _ _) _, H.by_assign, trivial⟩ ?_
  intro g w6 vs k6 _ hd hok
  match vs, hok with
  | [x1, x2, x3], ⟨h1, h2, h3, _⟩ =>
  obtain rfl : x1 = _ := h1
  obtain rfl : x2 = _ := h2
  obtain ⟨x, ob, hx⟩ := hd
  obtain rfl : x3 = x := hx.cur _ h3
  obtain ⟨ao, n, c, rfl⟩ := hx.own.sb
  exact hk ⟨ao, n, c⟩ w6 (hW5.laterS k6 (of_loose hs)) hx.own (of_since hs hx.later hw2)
set_option maxRecDepth 8000 in
theorem of_region8 {R : Ending → World → Prop} {u : Sb} {w5 : World} (hW5 : Wst w ⟨ofR0 w m so sb, w5.heap.size⟩ w5) (hu : Ab w5 u.v (hd2 m)) (hs : Since (w.heap.size + 2) u.v)
    (hk : ∀ (x : Sb) w6, Wst w ⟨ofR0 w m so sb, w6.heap.size⟩ w6 → Ab w6 x.v (headL m) → Since (w.heap.size + 2) x.v → Goal Try.prog (bodyPost Try.prog Try.f16 R) ofN ⟨frOf [1, 2, 3] [pT w.heap.size, pT (w.heap.size + 1), x.v], tagL [(1, 0), (2, 1)], ⟨ofR0 w m so sb, w6.heap.size⟩, afterR ofC 8⟩ w6) :
    Goal Try.prog (bodyPost Try.prog Try.f16 R) ofN ⟨frOf [1, 2, 3] [pT w.heap.size, pT (w.heap.size + 1), u.v], tagL [(1, 0), (2, 1)], ⟨ofR0 w m so sb, w5.heap.size⟩, atR ofC 8⟩ w5 := by
  have hw2 : w.heap.size + 2 ≤ w5.heap.size := by
    obtain ⟨t, ht⟩ := hW5.rows ⟨w.heap.size + 1, [nilV, nilV, nilV], true⟩ (by simp)
    exact block_of_row ht
  have src : ∀ {off n : Nat} {ys : List UInt8}, (((m.a so.v sb.v).toList).drop off).take n = bvs ys → ys.length = n → n ≤ 128 → ∀ (g : H.Gh) (wx : World) (v : Value), Keep (ownB u.v) w5 wx → H.Base (ownB u.v) w5 g wx → (H.Sm.is (.slice (some ⟨w.heap.size, off, none⟩) n n)).ok g wx v → Rd wx v ys := fun h1 h2 h3 g wx v hk _ hv => by
    obtain rfl : v = _ := hv
    exact Rd.part (hW5.laterS hk (of_loose hs)) (cs := (m.a so.v sb.v).toList) (ow := true) (by simp) h1 h2 (by simp only [maxLen]; omega)
  refine H.drawnM_ok (S0 := ownB u.v) (gt := fun _ => Option.none) (D := H.ChD u.v [] (ofB2 m) w5) (g0 := H.gB u.v)
    [(3, .act (H.nth 1)), (6, .act (H.nth 2)), (9, .act (H.nth 3)), (12, .act (H.nth 4)), (13, .by (H.nth 4))]
    [1, 2, 3] [.is (pT w.heap.size), .is (pT (w.heap.size + 1)), H.nth 4]
    (True ∧ True ∧ True ∧
      H.ActM Try.prog (ownB u.v) w5 (H.ChD u.v [] (ofB2 m) w5) 0 (.call { callee := .builtin .append, args := #[.tmp 52, .tmp 54], argTypes := #[22, 22] }) 22 [(52, .is u.v), (54, .is (.slice (some ⟨w.heap.size, 9, none⟩) 6 6))] (H.nth 1) ∧ True ∧ True ∧
      H.ActM Try.prog (ownB u.v) w5 (H.ChD u.v [] (ofB2 m) w5) 1 (.call { callee := .builtin .append, args := #[.tmp 55, .tmp 57], argTypes := #[22, 22] }) 22 [(55, H.nth 1), (57, .is (.slice (some ⟨w.heap.size, 15, none⟩) 10 10))] (H.nth 2) ∧ True ∧ True ∧
      H.ActM Try.prog (ownB u.v) w5 (H.ChD u.v [] (ofB2 m) w5) 2 (.call { callee := .builtin .append, args := #[.tmp 58, .tmp 60], argTypes := #[22, 22] }) 22 [(58, H.nth 2), (60, .is (.slice (some ⟨w.heap.size, 25, none⟩) 64 64))] (H.nth 3) ∧ True ∧ True ∧
      H.ActM Try.prog (ownB u.v) w5 (H.ChD u.v [] (ofB2 m) w5) 3 (.call { callee := .builtin .append, args := #[.tmp 61, .tmp 63], argTypes := #[22, 22] }) 22 [(61, H.nth 3), (63, .is (.slice (some ⟨w.heap.size, 89, none⟩) 128 128))] (H.nth 4) ∧
      H.ByM Try.prog (ownB u.v) w5 (.assign (.tmp 64)) 22 [(64, H.nth 4)] (H.nth 4) ∧ True)
    4 0 (afterR ofC 8) hW5 (of_loose hs) (by kernel_rfl) (by kernel_rfl) (by kernel_rfl) H.ChD.keep (H.gB_base hu) (H.gB_D hu)
    ⟨trivial, trivial, trivial, H.ch_app (fun _ _ _ h => h) (fun _ _ _ h => h) (by omega) rfl (by show (hd2 m).length + (tk 6 m.station).length ≤ _; simp [hd2_len, tk_length]) (H.ok_is _) (src (pt_station m _ _) (tk_length _ _) (by omega)) _, trivial, trivial,
      H.ch_app (fun _ _ _ h => h) (fun _ _ _ h => h) (by omega) rfl (by show (hd2 m ++ tk 6 m.station).length + (tk 10 m.pad).length ≤ _; simp [hd2_len, tk_length]) (H.ok_nth _ _) (src (pt_pad m _ _) (tk_length _ _) (by omega)) _, trivial, trivial,
      H.ch_app (fun _ _ _ h => h) (fun _ _ _ h => h) (by omega) rfl (by show (hd2 m ++ tk 6 m.station ++ tk 10 m.pad).length + (tk 64 m.server).length ≤ _; simp [hd2_len, tk_length]) (H.ok_nth _ _) (src (pt_server m _ _) (tk_length _ _) (by omega)) _, trivial, trivial,
      H.ch_app (fun _ _ _ h => h) (fun _ _ _ h => h) (by omega) rfl (by show (hd2 m ++ tk 6 m.station ++ tk 10 m.pad ++ tk 64 m.server).length + (tk 128 m.file).length ≤ _; simp [hd2_len, tk_length]) (H.ok_nth _ _) (src (pt_file m _ _) (tk_length _ _) (by omega)) _, H.by_assign, trivial⟩ ?_
  intro g w6 vs k6 _ hd hok
  match vs, hok with
  | [x1, x2, x3], ⟨h1, h2, h3, _⟩ =>
  obtain rfl : x1 = _ := h1
  obtain rfl : x2 = _ := h2
  obtain ⟨x, ob, hx⟩ := hd
  obtain rfl : x3 = x := hx.cur _ h3
  obtain ⟨ao, n, c, rfl⟩ := hx.own.sb
  exact hk ⟨ao, n, c⟩ w6 (hW5.laterS k6 (of_loose hs)) hx.own (of_since hs hx.later hw2)
end
end Go.Proofs.Ytpnocepepihflaa
namespace Go.Proofs.Ytpnocepepihflaa
open Go.RowKit

def ipsA (m : Mh) : Value := .agg #[.int .u32 (m.client : Int), .int .u32 (m.yours : Int), .int .u32 (m.next : Int), .int .u32 (m.relay : Int)]
theorem ips_at (m : Mh) : ∀ q : Nat, (h : q < 4) → ∀ wx, (Instr.index 89 (ipsA m) (.int .i64 (q : Int))).run Try.prog wx = .ok (.int .u32 ((((ips m)[q]'h : Nat)) : Int)) wx
  | 0, _, _ => aRun_none (l := []) (by kernel_rfl)
  | 1, _, _ => aRun_none (l := []) (by kernel_rfl)
  | 2, _, _ => aRun_none (l := []) (by kernel_rfl)
  | 3, _, _ => aRun_none (l := []) (by kernel_rfl)
  | q + 4, h, _ => by omega
structure Of1I where
  j : Nat
  u : Sb
noncomputable def of1L (w : World) (m : Mh) (so sb : Sb) (i : Of1I) (w' : World) : Cfg := ⟨frOf [1, 2, 3, 43, 44] [pT w.heap.size, pT (w.heap.size + 1), i.u.v, ipsA m, .int .i64 ((4 - i.j : Nat) : Int)], tagL [(1, 0), (2, 1)], ⟨ofR0 w m so sb, w'.heap.size⟩, atL ofC 4⟩
structure Of1J (w : World) (m : Mh) (so sb : Sb) (i : Of1I) (w' : World) : Prop where
  le : i.j ≤ 4
  W : Wst w ⟨ofR0 w m so sb, w'.heap.size⟩ w'
  ab : Ab w' i.u.v (hd1 m ++ ((ips m).take (4 - i.j)).flatMap bytes4)
  si : Since (w.heap.size + 2) i.u.v
noncomputable def of1R (w : World) (m : Mh) (so sb : Sb) (i : Of1I) : Act → World → Prop := fun a' w' => ∃ k : Of1I, k.j < i.j ∧ Of1J w m so sb k w' ∧ agrees ofN (of1L w m so sb k w') a'
abbrev ofR2 (w : World) (m : Mh) (so sb : Sb) (R : Nat) (h u : Sb) : List RowS := ofR0 w m so sb ++ [⟨R, [h.v, u.v, sb.v], true⟩]
structure Of2I where
  j : Nat
  u : Sb
noncomputable def of2L (w : World) (m : Mh) (so sb : Sb) (R : Nat) (h : Sb) (n : Nat) (i : Of2I) (w' : World) : Cfg := ⟨frOf [2, 6, 70, 71, 72] [pT (w.heap.size + 1), pT R, so.v, .int .i64 (n : Int), .int .i64 ((n - i.j : Nat) : Int)], tagL [(2, 1), (6, 2)], ⟨ofR2 w m so sb R h i.u, w'.heap.size⟩, atL ofC 11⟩
structure Of2J (w : World) (m : Mh) (so sb : Sb) (R : Nat) (h : Sb) (l : List Oe) (i : Of2I) (w' : World) : Prop where
  le : i.j ≤ l.length
  W : Wst w ⟨ofR2 w m so sb R h i.u, w'.heap.size⟩ w'
  rd : Rd w' h.v (headL m)
  oo : Oo true 87 w' i.u.v (l.take (l.length - i.j))
  si : Since (R + 1) i.u.v
noncomputable def of2R (w : World) (m : Mh) (so sb : Sb) (R : Nat) (h : Sb) (l : List Oe) (i : Of2I) : Act → World → Prop := fun a' w' => ∃ k : Of2I, k.j < i.j ∧ Of2J w m so sb R h l k w' ∧ agrees ofN (of2L w m so sb R h l.length k w') a'
section
variable {w : World} {m : Mh} {so sb : Sb} {l : List Oe} {Q : Ending → World → Prop}
theorem of_safe {w' : World} {z : Value} {bs : List UInt8} (h : Ab w' z bs) (hz : Since (w.heap.size + 2) z) : ∀ b, z.ownBlock = some b → Safe ⟨ofR0 w m so sb, w'.heap.size⟩ b := fun b hb => ⟨h.lt b hb, fun r hr _ => (of_loose (m := m) (so := so) (sb := sb) hz (wx := w') b hb).2 r hr⟩
theorem of1_round (i : Of1I) (w' : World) (hJ : Of1J w m so sb i w') (j : Nat) (hj : i.j = j + 1) :
    Goal Try.prog (bodyPost Try.prog Try.f16 Q) ofN { of1L w m so sb i w' with todo := .code (loopOf (atL ofC 4)) :: .inv (of1R w m so sb i) :: (atL ofC 4).tail } w' := by
  obtain ⟨hle, hW, ab, si⟩ := hJ
  unfold of1L
  rw [hj] at hle ab ⊢
  simp only
  obtain ⟨q, hq⟩ : ∃ q, 4 - (j + 1) = q := ⟨_, rfl⟩
  rw [hq] at ab ⊢
  have hql : q < 4 := by omega
  have hnext : 4 - j = q + 1 := by omega
  have hsem := ips_at m q hql
  have hsn : (ips m).take (q + 1) = (ips m).take q ++ [(ips m)[q]'hql] := List.take_succ_eq_append_getElem hql
  obtain ⟨x, hx⟩ : ∃ x, (ips m)[q]'hql = x := ⟨_, rfl⟩
  rw [hx] at hsem hsn
  have hci : decide ((q : Int) < 4) = true := decide_eq_true (by omega)
  have hinc : IntKind.i64.wrap ((q : Int) + 1) = ((q + 1 : Nat) : Int) := by rw [IntWalk.i64_in _ (by omega)]; omega
  have hlen : (hd1 m ++ ((ips m).take q).flatMap bytes4).length ≤ 28 := by
    rw [List.length_append, hd1_len, len4, List.length_take]
    omega
  obtain ⟨bs, hbs⟩ : ∃ bs, hd1 m ++ ((ips m).take q).flatMap bytes4 = bs := ⟨_, rfl⟩
  rw [hbs] at ab hlen
  refine go_call_is (gt := fun _ => Option.none) (unroll := false) 60 [(4, 0, .is (.bool true)), (5, 0, .sem (.int .u32 (x : Int)))] 44 [.int .u32 (x : Int)] [1, 2, 43, 44, 47] [pT w.heap.size, pT (w.heap.size + 1), ipsA m, .int .i64 (q : Int), i.u.v] 49 (ofR0 w m so sb) [(1, 0), (2, 1)] (inR ofC 6 2 (.inv (of1R w m so sb i)))
    [(.bool (decide ((q : Int) < 4)), .bool true)] [(Instr.index 89 (ipsA m) (.int .i64 (q : Int)), .int .u32 (x : Int))] hW (by kernel_rfl) ⟨congrArg Value.bool hci, trivial⟩ ⟨fun wx _ => hsem wx, trivial⟩ ?_
  intro w1 hW1 hS1
  have ab1 := ab.same (fun b hb => hS1.same b (of_safe ab si b hb)) hS1.le
  refine (fourL_any w1 x).mono ?_
  rintro y w2 ⟨v, rfl, k2, n2⟩
  refine ⟨_, rfl, ?_⟩
  have hW2 := hW1.later k2
  have ab2 := ab1.keep0 k2
  have hv : ∀ b, v.ownBlock = some b → Safe ⟨ofR0 w m so sb, w2.heap.size⟩ b := (n2.hx hW1).sf.call (Keep.refl _ _) |> fun h b hb => h b hb (by show 0 < 4; omega)
  refine go_appX (gt := fun _ => Option.none) (unroll := false) 60 [(6, 3, .stop)] i.u.v v 22 [1, 2, 43, 44] [pT w.heap.size, pT (w.heap.size + 1), ipsA m, .int .i64 (q : Int)] 50 (ofR0 w m so sb) [(1, 0), (2, 1)] (inR ofC 6 3 (.inv (of1R w m so sb i))) [] [] hW2 (by kernel_rfl) trivial trivial ?_
  intro w3 hW3 hS3
  have ab3 := ab2.same (fun b hb => hS3.same b (of_safe ab2 si b hb)) hS3.le
  have r3 := n2.rd.safe hv hS3.same
  obtain ⟨z, w4, hrun, ab4, k4, hb4⟩ := run_append_ab ab3 r3 (by show bs.length + 4 ≤ _; omega)
  refine ⟨z, w4, hrun, ?_⟩
  have hW4 := hW3.laterS k4 (of_loose si)
  have hw2 : w.heap.size + 2 ≤ w3.heap.size := by
    obtain ⟨t, ht⟩ := hW3.rows ⟨w.heap.size + 1, [nilV, nilV, nilV], true⟩ (by simp)
    exact block_of_row ht
  have si4 := of_since si (N := w3.heap.size) hb4 hw2
  obtain ⟨zo, zn, zc, rfl⟩ := ab4.sb
  refine go_inv (gt := fun _ => Option.none) (unroll := false) 60 [(7, 0, .is (.int .i64 ((q + 1 : Nat) : Int)))] [1, 2, 3, 43, 44] [pT w.heap.size, pT (w.heap.size + 1), .slice zo zn zc, ipsA m, .int .i64 ((q + 1 : Nat) : Int)] (ofR0 w m so sb) (of1R w m so sb i) [(.int .i64 (IntKind.i64.wrap ((q : Int) + 1)), .int .i64 ((q + 1 : Nat) : Int))] [] hW4 (by kernel_rfl) ⟨congrArg (Value.int .i64) hinc, trivial⟩ trivial ?_
  intro w5 a hW5 hS5 hs
  refine ⟨⟨j, ⟨zo, zn, zc⟩⟩, by rw [hj]; exact Nat.lt_succ_self j, ⟨by show j ≤ 4; omega, hW5, ?_, si4⟩, ?_⟩
  · show Ab w5 (.slice zo zn zc) (hd1 m ++ ((ips m).take (4 - j)).flatMap bytes4)
    rw [hnext, hsn, List.flatMap_append, ← List.append_assoc, hbs, List.flatMap_cons, List.flatMap_nil, List.append_nil]
    exact ab4.same (fun b hb => hS5.same b (of_safe ab4 si4 b hb)) hS5.le
  · unfold of1L
    simp only
    rw [hnext]
    exact hs
theorem of2_round {R : Nat} {h : Sb} (r : RoV false w so.v l) (hl : l.length ≤ 1000000) (hR : w.heap.size + 2 ≤ R) (hh : Under R h.v) (hhs : Since (w.heap.size + 2) h.v) (i : Of2I) (w' : World) (hJ : Of2J w m so sb R h l i w') (j : Nat) (hj : i.j = j + 1) :
    Goal Try.prog (bodyPost Try.prog Try.f16 Q) ofN { of2L w m so sb R h l.length i w' with todo := .code (loopOf (atL ofC 11)) :: .inv (of2R w m so sb R h l i) :: (atL ofC 11).tail } w' := by
  obtain ⟨hle, hW, rd, oo, si⟩ := hJ
  unfold of2L
  rw [hj] at hle oo ⊢
  simp only
  obtain ⟨q, hq⟩ : ∃ q, l.length - (j + 1) = q := ⟨_, rfl⟩
  rw [hq] at oo ⊢
  have hql : q < l.length := by omega
  have hnext : l.length - j = q + 1 := by omega
  have hsn : l.take (q + 1) = l.take q ++ [l[q]] := List.take_succ_eq_append_getElem hql
  have hld : ∀ wx, (∀ k, Safe ⟨ofR2 w m so sb R h i.u, w'.heap.size⟩ k → wx.heap[k]? = w'.heap[k]?) → (Instr.loadAt 24 (.pointer (some (ad2 so.v q)))).run Try.prog wx = .ok (.agg ((l[q]).a false)) wx := fun wx hx => (r.ro.walk hW hx).sem_ld E2o hql
  obtain ⟨e, he⟩ : ∃ e, l[q] = e := ⟨_, rfl⟩
  rw [he] at hld hsn
  have hci : decide ((q : Int) < (l.length : Int)) = true := decide_eq_true (by omega)
  have hinc : IntKind.i64.wrap ((q : Int) + 1) = ((q + 1 : Nat) : Int) := by rw [IntWalk.i64_in _ (by omega)]; omega
  have hcv : IntKind.i64.wrap ((e.code.toNat : Nat) : Int) = ((e.code.toNat : Nat) : Int) := i64_small (by omega) (by have := e.code.toNat_lt; omega)
  have hrow : ∀ {rows : List RowS} {z : Value}, (∀ b, z.ownBlock = some b → w.heap.size + 2 ≤ b ∧ b ≠ R) → (∀ r ∈ rows, ∃ cs, r = ⟨R, cs, true⟩) → ∀ b, z.ownBlock = some b → ∀ r ∈ ofR0 w m so sb ++ rows, r.b ≠ b := fun hz hr b hb r hm => by
    have h1 := hz b hb
    simp only [List.cons_append, List.nil_append, List.mem_cons] at hm
    rcases hm with rfl | rfl | hm
    · show w.heap.size ≠ b; omega
    · show w.heap.size + 1 ≠ b; omega
    · obtain ⟨cs, rfl⟩ := hr r hm
      exact fun e => h1.2 e.symm
  have hun : ∀ b, i.u.v.ownBlock = some b → w.heap.size + 2 ≤ b ∧ b ≠ R := fun b hb => by have := si b hb; omega
  have hhn : ∀ b, h.v.ownBlock = some b → w.heap.size + 2 ≤ b ∧ b ≠ R := fun b hb => by have := hh b hb; have := hhs b hb; omega
  have one : ∀ {cs : List Value}, ∀ r ∈ ([⟨R, cs, true⟩] : List RowS), ∃ cs, r = ⟨R, cs, true⟩ := fun r hr => ⟨_, List.mem_singleton.1 hr⟩
  have hRl : R < w'.heap.size := by
    obtain ⟨t, ht⟩ := hW.rows ⟨R, [h.v, i.u.v, sb.v], true⟩ (by simp)
    exact block_of_row ht
  refine go_appX (gt := fun _ => Option.none) (unroll := false) 60 [(11, 0, .is (.bool true)), (12, 0, .sem (.pointer (some (ad2 so.v q)))), (12, 1, .sem (.agg (e.a false))), (13, 4, .is (.int .i64 ((e.code.toNat : Nat) : Int))), (13, 9, .stop)] i.u.v (.slice (some ⟨w'.heap.size + 1, 0, none⟩) 1 1) 52 [2, 6, 70, 71, 72] [pT (w.heap.size + 1), pT R, so.v, .int .i64 (l.length : Int), .int .i64 (q : Int)] 85
    (ofR2 w m so sb R h i.u ++ [⟨w'.heap.size, (e.a false).toList, true⟩, ⟨w'.heap.size + 1, csO true [e], true⟩]) [(2, 1), (6, 2)] (inR ofC 13 9 (.inv (of2R w m so sb R h l i))) [(.bool (decide ((q : Int) < (l.length : Int))), .bool true), (.int .i64 (IntKind.i64.wrap ((e.code.toNat : Nat) : Int)), .int .i64 ((e.code.toNat : Nat) : Int))]
    [(Instr.indexAt 25 so.v (.int .i64 (q : Int)), .pointer (some (ad2 so.v q))), (Instr.loadAt 24 (.pointer (some (ad2 so.v q))), .agg (e.a false))] hW (by kernel_rfl) ⟨congrArg Value.bool hci, congrArg (Value.int .i64) hcv, trivial⟩ ⟨fun wx _ => r.ro.sem_at E2o hql wx, hld, trivial⟩ ?_
  intro w5 hW5 hS5
  have oo5 := oo.same fun b hb => hS5.same b ⟨oo.lt b hb, fun r hr _ => hrow hun one b hb r hr⟩
  have rd5 := rd.safe (m := ⟨ofR2 w m so sb R h i.u, w'.heap.size⟩) (fun b hb => ⟨by have := hh b hb; show b < w'.heap.size; omega, fun r hr _ => hrow hhn one b hb r hr⟩) hS5.same
  obtain ⟨ts, hts⟩ := hW5.rows ⟨w'.heap.size + 1, csO true [e], true⟩ (by simp)
  have src : Ro true w5 (.slice (some ⟨w'.heap.size + 1, 0, none⟩) 1 1) [e] := Ro.of_row (l := [e]) hts rfl (by simp [maxLen])
  obtain ⟨z, w6, hrun, oo6, k6, hb6⟩ := run_append_t E2r oo5 src (by simp; omega)
  refine ⟨z, w6, hrun, ?_⟩
  have hWf : Wst w ⟨ofR2 w m so sb R h i.u, w5.heap.size⟩ w5 := hW5.fewer (rows := ofR2 w m so sb R h i.u)
  have hW6 := hWf.laterS k6 (fun b hb => ⟨by have := hun b hb; omega, fun r hr => hrow hun one b hb r hr⟩)
  have h5s : w'.heap.size ≤ w5.heap.size := hS5.le
  have si6 : Since (R + 1) z := fun b hb => by
    rcases hb6 with e | e
    · exact si b (e ▸ hb)
    · rw [e] at hb; have := Option.some.inj hb; omega
  have rd6 := rd5.keep k6 (fun b hb e => by have := hh b hb; have := si b e; omega)
  obtain ⟨z, rfl⟩ := oo6.sb
  refine Goal.re (tags := tagL [(2, 1), (6, 2)]) (m := ⟨ofR2 w m so sb R h i.u, w6.heap.size⟩) ?_
  refine go_inv (gt := fun _ => Option.none) (unroll := false) 60 [(14, 0, .is (.int .i64 ((q + 1 : Nat) : Int)))] [2, 6, 70, 71, 72] [pT (w.heap.size + 1), pT R, so.v, .int .i64 (l.length : Int), .int .i64 ((q + 1 : Nat) : Int)] (ofR2 w m so sb R h z) (of2R w m so sb R h l i) [(.int .i64 (IntKind.i64.wrap ((q : Int) + 1)), .int .i64 ((q + 1 : Nat) : Int))] [] hW6 (by kernel_rfl) ⟨congrArg (Value.int .i64) hinc, trivial⟩ trivial ?_
  intro w7 a hW7 hS7 hs
  have hzn : ∀ b, z.v.ownBlock = some b → w.heap.size + 2 ≤ b ∧ b ≠ R := fun b hb => by have := si6 b hb; omega
  refine ⟨⟨j, z⟩, by rw [hj]; exact Nat.lt_succ_self j, ⟨by show j ≤ l.length; omega, hW7, ?_, ?_, si6⟩, ?_⟩
  · exact rd6.safe (m := ⟨ofR2 w m so sb R h i.u, w6.heap.size⟩) (fun b hb => ⟨by have := hh b hb; have := k6.size; show b < w6.heap.size; omega, fun r hr _ => hrow hhn one b hb r hr⟩) hS7.same
  · show Oo true 87 w7 z.v (l.take (l.length - j))
    rw [hnext, hsn]
    exact oo6.same fun b hb => hS7.same b ⟨oo6.lt b hb, fun r hr _ => hrow hzn one b hb r hr⟩
  · unfold of2L
    simp only
    rw [hnext]
    exact hs
set_option maxRecDepth 8000 in
theorem of_any (r : RoV false w so.v l) (hl : l.length ≤ 1000000) : Calls Try.prog 16 #[.agg (m.a so.v sb.v)] w (ofQ w m sb l) := by
  refine enter (args := [.agg (m.a so.v sb.v)]) Try.func16 (by kernel_rfl) ?_
  refine go_stop (gt := fun _ => Option.none) (unroll := false) 60 [] [1, 2, 3] [pT w.heap.size, pT (w.heap.size + 1), .slice (some ⟨w.heap.size + 2, 0, none⟩) 4 4] (ofR0 w m so sb ++ [⟨w.heap.size + 2, bvs (hd0 m), true⟩]) [(1, 0), (2, 1)] (atR ofC 2) [] [] (Wst.start0 w) (by kernel_rfl) trivial trivial ?_
  intro w1 hW1 _
  have rd1 : Rd w1 (.slice (some ⟨w.heap.size + 2, 0, none⟩) 4 4) (hd0 m) := Rd.of_row (bs := hd0 m) (cs := bvs (hd0 m)) (ow := true) hW1 (by simp) 4 rfl (by simp [maxLen]) (fun i hi => by rw [Nat.zero_add]; exact bvs_get hi)
  have hlt1 : w.heap.size + 2 < w1.heap.size := by
    obtain ⟨t, ht⟩ := hW1.rows ⟨w.heap.size + 2, bvs (hd0 m), true⟩ (by simp)
    exact block_of_row ht
  refine Goal.re (tags := tagL [(1, 0), (2, 1)]) (m := ⟨ofR0 w m so sb, w1.heap.size⟩) ?_
  refine of_region2 (u := ⟨some ⟨w.heap.size + 2, 0, none⟩, 4, 4⟩) (hW1.fewer (rows := ofR0 w m so sb)) (.inr ⟨w.heap.size + 2, 0, rfl, rd1, hlt1⟩) (fun b hb => by obtain rfl := Option.some.inj hb; exact Nat.le_refl _) ?_
  intro x w2 hW2 ab2 si2
  refine go_stop (gt := fun _ => Option.none) (unroll := false) 60 [] [1, 2, 3, 43, 44] [pT w.heap.size, pT (w.heap.size + 1), x.v, ipsA m, .int .i64 0] (ofR0 w m so sb) [(1, 0), (2, 1)] (atL ofC 4) [] [] hW2 (by kernel_rfl) trivial trivial ?_
  intro w3 hW3 hS3
  have ab3 := ab2.same (fun b hb => hS3.same b (of_safe ab2 si2 b hb)) hS3.le
  have key := loop_okT (P := Try.prog) (Q := bodyPost Try.prog Try.f16 (ofQ w m sb l)) (n := ofN) (x := loopOf (atL ofC 4)) (k := (atL ofC 4).tail) (fun i : Of1I => i.j) (of1L w m so sb) (Of1J w m so sb) (fun _ _ => by kernel_rfl) ?_ ⟨4, x⟩ w3
    ⟨Nat.le_refl _, hW3, by simpa using ab3, si2⟩
  · unfold of1L at key
    rw [Nat.sub_self] at key
    exact key
  intro i w' hJ
  rcases Nat.eq_zero_or_pos i.j with hi | hi
  case inr =>
    obtain ⟨j, hj⟩ := Nat.exists_eq_succ_of_ne_zero (Nat.ne_of_gt hi)
    exact of1_round i w' hJ j hj
  case inl =>
    obtain ⟨hle, hW, ab, si⟩ := hJ
    rw [hi, Nat.sub_zero] at ab
    have ab : Ab w' i.u.v (hd2 m) := ab
    unfold of1L
    rw [hi]
    simp only [Nat.sub_zero]
    refine go_stop (gt := fun _ => Option.none) (unroll := false) 60 [(4, 0, .is (.bool false))] [1, 2, 3] [pT w.heap.size, pT (w.heap.size + 1), i.u.v] (ofR0 w m so sb) [(1, 0), (2, 1)] (atR ofC 8) [(.bool (decide (((4 : Nat) : Int) < 4)), .bool false)] [] hW (by kernel_rfl) ⟨congrArg Value.bool (by simp), trivial⟩ trivial ?_
    intro w4 hW4 hS4
    have ab4 := ab.same (fun b hb => hS4.same b (of_safe ab si b hb)) hS4.le
    refine of_region8 hW4 ab4 si ?_
    intro y w5 hW5 ab5 si5
    refine go_stop (gt := fun _ => Option.none) (unroll := false) 60 [(10, 2, .sem (.int .i64 (l.length : Int)))] [2, 6, 70, 71, 72] [pT (w.heap.size + 1), pT w5.heap.size, so.v, .int .i64 (l.length : Int), .int .i64 0] (ofR2 w m so sb w5.heap.size y ⟨none, 0, 0⟩) [(2, 1), (6, 2)] (atL ofC 11) [] [(Builtin.len_ #[25] 3 #[so.v], .int .i64 (l.length : Int))] hW5 (by kernel_rfl) trivial ⟨fun wx _ => r.ro.sem_len E2o (ty := 3) wx, trivial⟩ ?_
    intro w6 hW6 hS6
    have rd6 : Rd w6 y.v (headL m) := ab5.rd.safe (of_safe ab5 si5) hS6.same
    have hw2 : w.heap.size + 2 ≤ w5.heap.size := by
      obtain ⟨t, ht⟩ := hW5.rows ⟨w.heap.size + 1, [nilV, nilV, nilV], true⟩ (by simp)
      exact block_of_row ht
    obtain ⟨R, hR⟩ : ∃ R, w5.heap.size = R := ⟨_, rfl⟩
    have hyR : Under R y.v := by rw [← hR]; exact ab5.lt
    rw [hR] at hW6 hw2 ⊢
    have key := loop_okT (P := Try.prog) (Q := bodyPost Try.prog Try.f16 (ofQ w m sb l)) (n := ofN) (x := loopOf (atL ofC 11)) (k := (atL ofC 11).tail) (fun i : Of2I => i.j) (of2L w m so sb R y l.length) (Of2J w m so sb R y l) (fun _ _ => by kernel_rfl) ?_ ⟨l.length, ⟨none, 0, 0⟩⟩ w6
      ⟨Nat.le_refl _, hW6, rd6, by rw [Nat.sub_self]; exact Oo.nil _ _, nilV_since _⟩
    · unfold of2L at key
      rw [Nat.sub_self] at key
      exact key
    clear hi hle hW ab si hW4 hS4 ab4
    intro i w' hJ
    rcases Nat.eq_zero_or_pos i.j with hi | hi
    case inr =>
      obtain ⟨j, hj⟩ := Nat.exists_eq_succ_of_ne_zero (Nat.ne_of_gt hi)
      exact of2_round r hl hw2 hyR si5 i w' hJ j hj
    case inl =>
      obtain ⟨hle, hW, rd, oo, si⟩ := hJ
      rw [hi, Nat.sub_zero, List.take_length] at oo
      unfold of2L
      rw [hi]
      simp only [Nat.sub_zero]
      refine go_ret (gt := fun _ => Option.none) (unroll := false) 60 [(11, 0, .is (.bool false))] [.cell 2 54] (.agg #[y.v, i.u.v, sb.v]) [(.bool (decide ((l.length : Int) < (l.length : Int))), .bool false)] [] hW Try.results16 (by kernel_rfl) ⟨congrArg Value.bool (by simp), trivial⟩ trivial ?_
      intro w9 hW9 hS9
      have hap : ∀ {z : Value}, (∀ b, z.ownBlock = some b → w.heap.size + 2 ≤ b ∧ b ≠ R ∧ b < w'.heap.size) → ∀ b, z.ownBlock = some b → Safe ⟨ofR2 w m so sb R y i.u, w'.heap.size⟩ b := fun hz b hb => by
        have h1 := hz b hb
        refine ⟨h1.2.2, fun r hr _ => ?_⟩
        simp only [List.cons_append, List.nil_append, List.mem_cons, List.not_mem_nil, or_false] at hr
        rcases hr with rfl | rfl | rfl
        · show w.heap.size ≠ b; omega
        · show w.heap.size + 1 ≠ b; omega
        · show R ≠ b; exact fun e => h1.2.1 e.symm
      have hRl : R < w'.heap.size := by
        obtain ⟨t, ht⟩ := hW.rows ⟨R, [y.v, i.u.v, sb.v], true⟩ (by simp)
        exact block_of_row ht
      have hs9 : w'.heap.size ≤ w9.heap.size := by rw [hW9.size]; exact hS9.le
      have oo9 := oo.same fun b hb => hS9.same b (hap (fun b hb => ⟨by have := si b hb; omega, by have := si b hb; omega, oo.lt b hb⟩) b hb)
      have rd9 := rd.safe (hap (fun b hb => ⟨si5 b hb, by have := hyR b hb; omega, by have := hyR b hb; omega⟩)) hS9.same
      exact ⟨y, i.u, rfl, hW9.keep, ⟨rd9, fun b hb => by have := si5 b hb; omega, fun b hb => by have := hyR b hb; omega⟩, oo9.rt, fun b hb => by have := si b hb; omega, oo9.lt⟩
end
end Go.Proofs.Ytpnocepepihflaa
namespace Go.Proofs.Ytpnocepepihflaa
open Go.RowKit

section
variable {w : World} {v : Value} {l : List Oe}
theorem Ro.ld_code (r : Ro true w v l) {i : Nat} (hi : i < l.length) : (Instr.loadAt 3 (.pointer (some ⟨blk v, offs v + i * 2, none⟩))).run Try.prog w = .ok (.int .i64 ((l[i]).code.toNat : Int)) w := by
  obtain ⟨u, h1, h2⟩ := r.cellAt hi (j := 0) (by omega)
  have hu := run_underlying (P := Try.prog) (w := w) Try.underlying3
  have h1 : some (Value.int .i64 ((l[i]).code.toNat : Int)) = some u := h1
  obtain rfl := Option.some.inj h1
  have h2 : w.cell? ⟨blk v, offs v + i * 2, none⟩ = some (.int .i64 ((l[i]).code.toNat : Int)) := h2
  simp [Instr.loadAt, Instr.sureAddr, loadVar, isAgg, hu, load, Sem.run, h2]
theorem Ro.ld_val {q : Bool} (r : Ro q w v l) {i : Nat} (hi : i < l.length) : (Instr.loadAt 22 (.pointer (some ⟨blk v, offs v + i * 2 + 1, none⟩))).run Try.prog w = .ok (l[i]).s.v w := by
  obtain ⟨u, h1, h2⟩ := r.cellAt hi (j := 1) (by omega)
  have hu := run_underlying (P := Try.prog) (w := w) Try.underlying22
  have h1 : some (l[i]).s.v = some u := by
    rw [← h1]
    cases q <;> rfl
  obtain rfl := Option.some.inj h1
  simp [Instr.loadAt, Instr.sureAddr, loadVar, isAgg, hu, load, Sem.run, h2]
end
noncomputable abbrev smC : Code := bodyOf Try.f15
noncomputable abbrev smN : Nat := Try.f15.ntmps
abbrev smR (w : World) (h1 o1 b1 h2 o2 b2 : Sb) : List RowS := [⟨w.heap.size, [h1.v, o1.v, b1.v], true⟩, ⟨w.heap.size + 1, [h2.v, o2.v, b2.v], true⟩]
noncomputable def smL (w : World) (h1 o1 b1 h2 o2 b2 : Sb) (n j : Nat) (w' : World) : Cfg := ⟨frOf [2, 3, 31, 32] [pT w.heap.size, pT (w.heap.size + 1), .int .i64 (n : Int), .int .i64 ((n - j : Nat) : Int)], tagL [(2, 0), (3, 1)], ⟨smR w h1 o1 b1 h2 o2 b2, w'.heap.size⟩, atL smC 4⟩
structure SmJ (w : World) (h1 o1 b1 h2 o2 b2 : Sb) (n j : Nat) (w' : World) : Prop where
  le : j ≤ n
  W : Wst w ⟨smR w h1 o1 b1 h2 o2 b2, w'.heap.size⟩ w'
noncomputable def smX (w : World) (h1 o1 b1 h2 o2 b2 : Sb) (n i : Nat) : Act → World → Prop := fun a' w' => ∃ j, j < i ∧ SmJ w h1 o1 b1 h2 o2 b2 n j w' ∧ agrees smN (smL w h1 o1 b1 h2 o2 b2 n j w') a'
section
variable {w : World} {h1 o1 b1 h2 o2 b2 : Sb} {hl bl : List UInt8} {l1 l2 : List Oe}
theorem sm_round (r1 : RoV true w o1.v l1) (r2 : RoV true w o2.v l2) (hm : l1.map Oe.o = l2.map Oe.o) (hl1 : l1.length ≤ 1000000) (i : Nat) (w' : World) (hJ : SmJ w h1 o1 b1 h2 o2 b2 l1.length i w') (j : Nat) (hj : i = j + 1) :
    Goal Try.prog (bodyPost Try.prog Try.f15 (trQ w)) smN { smL w h1 o1 b1 h2 o2 b2 l1.length i w' with todo := .code (loopOf (atL smC 4)) :: .inv (smX w h1 o1 b1 h2 o2 b2 l1.length i) :: (atL smC 4).tail } w' := by
  obtain ⟨hle, hW⟩ := hJ
  subst hj
  unfold smL
  obtain ⟨q, hq⟩ : ∃ q, l1.length - (j + 1) = q := ⟨_, rfl⟩
  rw [hq]
  have hlen : l1.length = l2.length := by have := congrArg List.length hm; simpa using this
  have hq1 : q < l1.length := by omega
  have hq2 : q < l2.length := by omega
  have hnext : l1.length - j = q + 1 := by omega
  have he : (l1[q]).o = (l2[q]).o := by
    have h3 : (l1.map Oe.o)[q]? = (l2.map Oe.o)[q]? := by rw [hm]
    rw [List.getElem?_map, List.getElem?_map, List.getElem?_eq_getElem hq1, List.getElem?_eq_getElem hq2] at h3
    exact Option.some.inj h3
  have hc : (l1[q]).code = (l2[q]).code := (Prod.mk.inj he).1
  have hv : (l1[q]).val = (l2[q]).val := (Prod.mk.inj he).2
  have rv1 := r1.each l1[q] (List.getElem_mem hq1)
  have rv2 := r2.each l2[q] (List.getElem_mem hq2)
  have c1 : ∀ wx, Keep No w wx → (Instr.loadAt 3 (.pointer (some ⟨blk o1.v, offs o1.v + q * 2, none⟩))).run Try.prog wx = .ok (.int .i64 ((l1[q]).code.toNat : Int)) wx := fun wx k => (r1.ro.keep0 k).ld_code hq1
  have c2 : ∀ wx, Keep No w wx → (Instr.loadAt 3 (.pointer (some ⟨blk o2.v, offs o2.v + q * 2, none⟩))).run Try.prog wx = .ok (.int .i64 ((l1[q]).code.toNat : Int)) wx := fun wx k => by rw [hc]; exact (r2.ro.keep0 k).ld_code hq2
  have d1 : ∀ wx, Keep No w wx → (Instr.loadAt 22 (.pointer (some ⟨blk o1.v, offs o1.v + q * 2 + 1, none⟩))).run Try.prog wx = .ok (l1[q]).s.v wx := fun wx k => (r1.ro.keep0 k).ld_val hq1
  have d2 : ∀ wx, Keep No w wx → (Instr.loadAt 22 (.pointer (some ⟨blk o2.v, offs o2.v + q * 2 + 1, none⟩))).run Try.prog wx = .ok (l2[q]).s.v wx := fun wx k => (r2.ro.keep0 k).ld_val hq2
  rw [← hv] at rv2
  obtain ⟨x, hx⟩ : ∃ x, (l1[q]).code = x := ⟨_, rfl⟩
  obtain ⟨s1, hs1⟩ : ∃ s, (l1[q]).s = s := ⟨_, rfl⟩
  obtain ⟨s2, hs2⟩ : ∃ s, (l2[q]).s = s := ⟨_, rfl⟩
  obtain ⟨ys, hys⟩ : ∃ ys, (l1[q]).val = ys := ⟨_, rfl⟩
  rw [hx] at c1 c2
  rw [hs1] at d1 rv1
  rw [hs2] at d2 rv2
  rw [hys] at rv1 rv2
  have hci : decide ((q : Int) < (l1.length : Int)) = true := decide_eq_true (by omega)
  have hinc : IntKind.i64.wrap ((q : Int) + 1) = ((q + 1 : Nat) : Int) := by rw [IntWalk.i64_in _ (by omega)]; omega
  refine go_stop (gt := fun _ => Option.none) (unroll := false) 60 [(4, 0, .is (.bool true))] [2, 3, 5, 31, 32] [pT w.heap.size, pT (w.heap.size + 1), .int .i64 (q : Int), .int .i64 (l1.length : Int), .int .i64 (q : Int)] (smR w h1 o1 b1 h2 o2 b2) [(2, 0), (3, 1)] (atR smC 6 (.inv (smX w h1 o1 b1 h2 o2 b2 l1.length (j + 1)))) [(.bool (decide ((q : Int) < (l1.length : Int))), .bool true)] [] hW (by kernel_rfl) ⟨congrArg Value.bool hci, trivial⟩ trivial ?_
  intro w5 hW5 _
  refine drawn_ok (gt := fun _ => Option.none) [(3, .sem (.pointer (some (ad2 o1.v q)))), (5, .sem (.int .i64 (x.toNat : Int))), (9, .sem (.pointer (some (ad2 o2.v q)))), (11, .sem (.int .i64 (x.toNat : Int))), (12, .is (.bool false)), (17, .sem (.pointer (some (ad2 o1.v q)))), (19, .sem s1.v), (23, .sem (.pointer (some (ad2 o2.v q)))), (25, .sem s2.v), (26, .call (.is (.bool true)))]
    [2, 3, 31, 32, 63] [.is (pT w.heap.size), .is (pT (w.heap.size + 1)), .is (.int .i64 (l1.length : Int)), .is (.int .i64 (q : Int)), .is (.bool false)] [(.bool ((x.toNat : Int) != (x.toNat : Int)), .bool false)] [(9, [.is s1.v, .is s2.v], .is (.bool true))] [] []
    [(Instr.indexAt 52 o1.v (.int .i64 (q : Int)), .pointer (some (ad2 o1.v q))), (Instr.loadAt 3 (.pointer (some ⟨blk o1.v, offs o1.v + q * 2, none⟩)), .int .i64 (x.toNat : Int)), (Instr.indexAt 52 o2.v (.int .i64 (q : Int)), .pointer (some (ad2 o2.v q))), (Instr.loadAt 3 (.pointer (some ⟨blk o2.v, offs o2.v + q * 2, none⟩)), .int .i64 (x.toNat : Int)),
      (Instr.indexAt 52 o1.v (.int .i64 (q : Int)), .pointer (some (ad2 o1.v q))), (Instr.loadAt 22 (.pointer (some ⟨blk o1.v, offs o1.v + q * 2 + 1, none⟩)), s1.v), (Instr.indexAt 52 o2.v (.int .i64 (q : Int)), .pointer (some (ad2 o2.v q))), (Instr.loadAt 22 (.pointer (some ⟨blk o2.v, offs o2.v + q * 2 + 1, none⟩)), s2.v)]
    hW5 (by kernel_rfl) (by kernel_rfl) ⟨congrArg Value.bool (by simp), trivial⟩ ⟨?_, trivial⟩ trivial trivial
    ⟨fun wx _ => r1.ro.sem_at E2r hq1 wx, fun wx k => c1 wx (hW5.keep.trans k), fun wx _ => r2.ro.sem_at E2r hq2 wx, fun wx k => c2 wx (hW5.keep.trans k), fun wx _ => r1.ro.sem_at E2r hq1 wx, fun wx k => d1 wx (hW5.keep.trans k), fun wx _ => r2.ro.sem_at E2r hq2 wx, fun wx k => d2 wx (hW5.keep.trans k), trivial⟩ ?_
  · intro wx vals k ha
    match vals, ha with
    | [a, b], ⟨ha1, ha2, _⟩ =>
      obtain rfl : a = _ := ha1
      obtain rfl : b = _ := ha2
      refine (bequal_any (rv1.keep0 (hW5.keep.trans k)) (rv2.keep0 (hW5.keep.trans k))).mono ?_
      rintro e w' ⟨rfl, rfl⟩
      exact ⟨_, rfl, Keep.refl _ _, by show _ = _; simp⟩
  intro w6 vs k6 hv6
  obtain rfl := allOk_is (vs := [pT w.heap.size, pT (w.heap.size + 1), .int .i64 (l1.length : Int), .int .i64 (q : Int), .bool false]) hv6
  refine go_inv (gt := fun _ => Option.none) (unroll := false) 60 [(8, 0, .is (.int .i64 ((q + 1 : Nat) : Int)))] [2, 3, 31, 32] [pT w.heap.size, pT (w.heap.size + 1), .int .i64 (l1.length : Int), .int .i64 ((q + 1 : Nat) : Int)] (smR w h1 o1 b1 h2 o2 b2) (smX w h1 o1 b1 h2 o2 b2 l1.length (j + 1)) [(.int .i64 (IntKind.i64.wrap ((q : Int) + 1)), .int .i64 ((q + 1 : Nat) : Int))] [] (hW5.later k6) (by kernel_rfl) ⟨congrArg (Value.int .i64) hinc, trivial⟩ trivial ?_
  intro w7 a hW7 _ hs
  refine ⟨j, Nat.lt_succ_self j, ⟨by omega, hW7⟩, ?_⟩
  unfold smL
  rw [hnext]
  exact hs
theorem same_true (rh1 : Rd w h1.v hl) (rh2 : Rd w h2.v hl) (rb1 : Rd w b1.v bl) (rb2 : Rd w b2.v bl) (r1 : RoV true w o1.v l1) (r2 : RoV true w o2.v l2) (hm : l1.map Oe.o = l2.map Oe.o) (hl1 : l1.length ≤ 1000000) :
    Calls Try.prog 15 #[.agg #[h1.v, o1.v, b1.v], .agg #[h2.v, o2.v, b2.v]] w (trQ w) := by
  have hlen : l1.length = l2.length := by have := congrArg List.length hm; simpa using this
  refine enter (args := [.agg #[h1.v, o1.v, b1.v], .agg #[h2.v, o2.v, b2.v]]) Try.func15 (by kernel_rfl) ?_
  refine go_call_is (gt := fun _ => Option.none) (unroll := false) 60 [] 9 [h1.v, h2.v] [2, 3] [pT w.heap.size, pT (w.heap.size + 1)] 10 (smR w h1 o1 b1 h2 o2 b2) [(2, 0), (3, 1)] (inR smC 1 4) [] [] (Wst.start0 w) (by kernel_rfl) trivial trivial ?_
  intro w1 hW1 _
  refine (bequal_any (rh1.keep0 hW1.keep) (rh2.keep0 hW1.keep)).mono ?_
  rintro x w2 ⟨rfl, rfl⟩
  refine ⟨_, rfl, ?_⟩
  rw [show (hl == hl) = true by simp]
  refine go_call_is (gt := fun _ => Option.none) (unroll := false) 60 [] 9 [b1.v, b2.v] [2, 3, 12] [pT w.heap.size, pT (w.heap.size + 1), .bool false] 17 (smR w h1 o1 b1 h2 o2 b2) [(2, 0), (3, 1)] (inR smC 1 11) [] [] hW1 (by kernel_rfl) trivial trivial ?_
  intro w3 hW3 _
  refine (bequal_any (rb1.keep0 hW3.keep) (rb2.keep0 hW3.keep)).mono ?_
  rintro x w4 ⟨rfl, rfl⟩
  refine ⟨_, rfl, ?_⟩
  rw [show (bl == bl) = true by simp]
  have hs2 : ∀ wx : World, (Builtin.len_ #[52] 3 #[o2.v]).run Try.prog wx = .ok (.int .i64 (l1.length : Int)) wx := fun wx => by rw [hlen]; exact r2.ro.sem_len E2r (ty := 3) wx
  refine go_stop (gt := fun _ => Option.none) (unroll := false) 60 [(1, 17, .sem (.int .i64 (l1.length : Int))), (1, 20, .sem (.int .i64 (l1.length : Int))), (1, 21, .is (.bool false)), (3, 2, .sem (.int .i64 (l1.length : Int)))] [2, 3, 31, 32] [pT w.heap.size, pT (w.heap.size + 1), .int .i64 (l1.length : Int), .int .i64 0] (smR w h1 o1 b1 h2 o2 b2) [(2, 0), (3, 1)] (atL smC 4)
    [(.bool ((l1.length : Int) != (l1.length : Int)), .bool false)] [(Builtin.len_ #[52] 3 #[o1.v], .int .i64 (l1.length : Int)), (Builtin.len_ #[52] 3 #[o2.v], .int .i64 (l1.length : Int)), (Builtin.len_ #[52] 3 #[o1.v], .int .i64 (l1.length : Int))] hW3 (by kernel_rfl) ⟨congrArg Value.bool (by simp), trivial⟩
    ⟨fun wx _ => r1.ro.sem_len E2r (ty := 3) wx, fun wx _ => hs2 wx, fun wx _ => r1.ro.sem_len E2r (ty := 3) wx, trivial⟩ ?_
  intro w5 hW5 _
  have key := loop_okT (P := Try.prog) (Q := bodyPost Try.prog Try.f15 (trQ w)) (n := smN) (x := loopOf (atL smC 4)) (k := (atL smC 4).tail) (fun i : Nat => i) (smL w h1 o1 b1 h2 o2 b2 l1.length) (SmJ w h1 o1 b1 h2 o2 b2 l1.length) (fun _ _ => by kernel_rfl) ?_ l1.length w5 ⟨Nat.le_refl _, hW5⟩
  · unfold smL at key
    rw [Nat.sub_self] at key
    exact key
  intro i w' hJ
  rcases Nat.eq_zero_or_pos i with hi | hi
  case inr =>
    obtain ⟨j, hj⟩ := Nat.exists_eq_succ_of_ne_zero (Nat.ne_of_gt hi)
    exact sm_round r1 r2 hm hl1 i w' hJ j hj
  case inl =>
    subst hi
    unfold smL
    simp only [Nat.sub_zero]
    exact go_ret (gt := fun _ => Option.none) (unroll := false) 60 [(4, 0, .is (.bool false))] [.tmp 4] (.bool true) [(.bool (decide ((l1.length : Int) < (l1.length : Int))), .bool false)] [] hJ.W Try.results15 (by kernel_rfl) ⟨congrArg Value.bool (by simp), trivial⟩ trivial (fun w9 hW9 _ => ⟨rfl, hW9.keep⟩)
end
end Go.Proofs.Ytpnocepepihflaa
namespace Go.Proofs.Ytpnocepepihflaa
open Go.RowKit

/-- Behind k calls the pad at p holds B k. -/
def PadE (B : Nat → List UInt8) (p : Nat) (sv0 : Value) (w0 : World) : Nat → Gh → World → Prop := fun k g w => g.live ∧ g.val = .pointer (some ⟨p, 0, none⟩) ∧ ∃ sv, Pd w p sv (B k) ∧ g.priv = Foot p sv ∧ Later w0.heap.size sv0 sv
theorem PadE.keep {B : Nat → List UInt8} {p : Nat} {sv0 : Value} {w0 : World} : ∀ (k : Nat) (g : Gh) (w w' : World), Keep No w w' → PadE B p sv0 w0 k g w → PadE B p sv0 w0 k g w' :=
  fun _ _ _ _ kp ⟨h1, h2, sv, h3, h4, h5⟩ => ⟨h1, h2, sv, h3.keep0 kp, h4, h5⟩
def gE (p : Nat) (sv : Value) : Gh := ⟨True, .pointer (some ⟨p, 0, none⟩), Foot p sv⟩
section
variable {w0 : World} {B : Nat → List UInt8} {p : Nat} {sv0 : Value}
theorem gE_base {bs : List UInt8} (h : Pd w0 p sv0 bs) : Base (Foot p sv0) w0 (gE p sv0) w0 := fun k hk => by
  refine ⟨?_, fun _ => hk⟩
  rcases hk with rfl | hk
  · exact h.lt
  · exact h.own.lt k hk
theorem gE_D (h : Pd w0 p sv0 (B 0)) : PadE B p sv0 w0 0 (gE p sv0) w0 := ⟨trivial, rfl, sv0, h, rfl, Later.refl _ _⟩
theorem padE_step {g : Gh} {w w' : World} {sv sv' : Value} {bs : List UInt8} (hg : g.priv = Foot p sv) (hv : g.val = .pointer (some ⟨p, 0, none⟩)) (hb : Base (Foot p sv0) w0 g w) (h0 : w0.heap.size ≤ w.heap.size)
    (hl0 : Later w0.heap.size sv0 sv) (hpd : Pd w' p sv' bs) (hk : Keep (Foot p sv) w w') (hlat : Later w.heap.size sv sv') :
    Tr g w (gE p sv') w' ∧ Base (Foot p sv0) w0 (gE p sv') w' ∧ Later w0.heap.size sv0 sv' := by
  have hl' : Later w0.heap.size sv0 sv' := hl0.trans hlat h0
  refine ⟨⟨by rw [hg]; exact hk, ?_, fun _ => ⟨trivial, hv.symm⟩⟩, ?_, hl'⟩
  · rintro k (rfl | hk')
    · rw [hg]; exact .inl (.inl rfl)
    · rcases hlat with h | h
      · rw [hg]; exact .inl (.inr (by rw [← h]; exact hk'))
      · exact .inr (h k hk')
  · rintro k (rfl | hk')
    · exact ⟨hpd.lt, fun _ => .inl rfl⟩
    · refine ⟨hpd.own.lt k hk', fun h => ?_⟩
      rcases hl' with q | q
      · exact .inr (by rw [← q]; exact hk')
      · exact absurd h (Nat.not_lt.2 (q k hk'))
theorem loud_twoE {r : Nat} {xs : List Nat} (hB : B (r + 1) = B r ++ xs.flatMap bytes2) (hn : (B r).length + 2 * xs.length ≤ 1099511627776) (hx : ∀ i, i < xs.length → xs.getD i 0 < 65536) :
    LoudM Try.prog (Foot p sv0) w0 (PadE B p sv0 w0) r 32 [.is (.pointer (some ⟨p, 0, none⟩)), rowS 1 xs.length (fun i => .int .u16 (xs.getD i 0 : Nat))] padS := by
  intro g w vals hk hb hd ha
  match vals, ha with
  | [x, y], ha =>
    obtain ⟨hx', ⟨hy, hyb⟩, _⟩ := ha
    obtain ⟨_, hv, sv, hpd, hg, hla⟩ := hd
    have hx2 : x = .pointer (some ⟨p, 0, none⟩) := hx'
    rw [hx2]
    refine (ptwo_any hpd hy hx (fun b h => by have := (hyb b h).2; rwa [hg] at this) hn).mono ?_
    rintro e w' ⟨sv', rfl, hpd', k, hlat⟩
    obtain ⟨h1, h2, h3⟩ := padE_step hg hv hb hk.size hla hpd' k hlat
    exact ⟨_, _, rfl, h1, h2, ⟨trivial, rfl, sv', by rw [hB]; exact hpd', rfl, h3⟩, trivial, rfl⟩
theorem loud_byteE {r : Nat} {v : Value} {ys : List UInt8} (hB : B (r + 1) = B r ++ ys) (hn : (B r).length + ys.length ≤ 1099511627776) (hr : ∀ w, Keep (Foot p sv0) w0 w → Rd w v ys) :
    LoudM Try.prog (Foot p sv0) w0 (PadE B p sv0 w0) r 31 [.is (.pointer (some ⟨p, 0, none⟩)), .is v] padS := by
  intro g w vals hk hb hd ha
  match vals, ha with
  | [x, y], ha =>
    obtain ⟨hx, hy, _⟩ := ha
    have hx' : x = .pointer (some ⟨p, 0, none⟩) := hx
    have hy' : y = v := hy
    obtain ⟨_, hv, sv, hpd, hg, hla⟩ := hd
    rw [hx', hy']
    refine (pbyte_any hpd (hr w hk) hn).mono ?_
    rintro e w' ⟨sv', rfl, hpd', k, hlat⟩
    obtain ⟨h1, h2, h3⟩ := padE_step hg hv hb hk.size hla hpd' k hlat
    exact ⟨_, _, rfl, h1, h2, ⟨trivial, rfl, sv', by rw [hB]; exact hpd', rfl, h3⟩, trivial, rfl⟩
end
end Go.Proofs.Ytpnocepepihflaa
namespace Go.Proofs.Ytpnocepepihflaa
open Go.RowKit

theorem frB_new {P : Program} {S0 : Nat → Prop} {w0 : World} {s : Sem Value} {ys : List UInt8} {n : Nat} (hl : ys.length = n) (hn : n ≤ maxLen)
    (hq : ∀ nx, gRun P none s ⟨[], nx⟩ = some (.slice (some ⟨nx, 0, none⟩) n n, ⟨[⟨nx, bvs ys, true⟩], nx + 1⟩, [])) : NewM P S0 w0 s (frB w0.heap.size ys) := by
  subst hl
  intro g w hk hb
  obtain ⟨w', h1, h2, h3⟩ := gRun_ok (Wst.start0 w) (hq w.heap.size) (fun _ h => nomatch h)
  obtain ⟨t, ht⟩ := h2.rows ⟨w.heap.size, bvs ys, true⟩ (by simp)
  refine ⟨_, w', h1, h2.keep, Rd.of_row (bs := ys) (cs := bvs ys) (ow := true) h2 (by simp) ys.length rfl hn (fun i hi => by rw [Nat.zero_add]; exact bvs_get hi), fun b hb' => ?_, fun b hb' => ?_⟩
  · obtain rfl : w.heap.size = b := Option.some.inj hb'
    exact hk.size
  · obtain rfl : w.heap.size = b := Option.some.inj hb'
    exact ⟨block_of_row ht, fun hp => by have := (hb _ hp).1; omega⟩
section
variable {S0 : Nat → Prop} {w0 : World} {B : Nat → List UInt8}
theorem loud_byteN {r : Nat} {ys : List UInt8} (hB : B (r + 1) = B r ++ ys) (hn : (B r).length + ys.length ≤ 1099511627776) :
    LoudM Try.prog S0 w0 (PadD B w0) (r + 1) 31 [padS, frB w0.heap.size ys] padS := by
  intro g w vals hk hb hd ha
  match vals, ha with
  | [x, y], ha =>
    obtain ⟨⟨hl, hx⟩, hy, _⟩ := ha
    obtain ⟨_, p, sv, hv, hpd, hg, hp, hs⟩ := hd
    rw [hx, hv]
    refine (pbyte_any hpd (frB_ok hy).1 hn).mono ?_
    rintro e w' ⟨sv', rfl, hpd', k, hlat⟩
    obtain ⟨h1, h2, h3⟩ := pad_step (S0 := S0) hg hv hl hp hs hk.size hpd' k hlat
    exact ⟨_, _, rfl, h1, h2, ⟨trivial, p, sv', rfl, by rw [hB]; exact hpd', rfl, hp, h3⟩, trivial, rfl⟩
end
section
variable {w0 : World} {B : Nat → List UInt8} {p : Nat} {sv0 : Value} {s0 s1 : Sm}
theorem pE_is : ∀ (g : Gh) (w : World) (x : Value), g.val = pT p → (Sm.is (pT p)).ok g w x → x = pT p := fun _ _ _ _ h => h
theorem pE_pad : ∀ (g : Gh) (w : World) (x : Value), g.val = pT p → padS.ok g w x → x = pT p := fun _ _ _ h1 h => h.2.trans h1
theorem pE_rd (N : Nat) (ys : List UInt8) : ∀ (g : Gh) (w : World) (x : Value), Keep (Foot p sv0) w0 w → (frB N ys).ok g w x → Rd w x ys := fun _ _ _ _ h => (frB_ok h).1
theorem pE_old {v : Value} {ys : List UInt8} (h : ∀ w, Keep (Foot p sv0) w0 w → Rd w v ys) : ∀ (g : Gh) (w : World) (x : Value), Keep (Foot p sv0) w0 w → (Sm.is v).ok g w x → Rd w x ys := fun _ w x hk hx => by
  obtain rfl : x = v := hx
  exact h w hk
theorem loudE_byte {r : Nat} {ys : List UInt8} (hB : B (r + 1) = B r ++ ys) (hn : (B r).length + ys.length ≤ 1099511627776) (h0 : ∀ (g : Gh) (w : World) (x : Value), g.val = pT p → s0.ok g w x → x = pT p) (h1 : ∀ g w x, Keep (Foot p sv0) w0 w → s1.ok g w x → Rd w x ys) :
    LoudM Try.prog (Foot p sv0) w0 (PadE B p sv0 w0) r 31 [s0, s1] padS := by
  intro g w vals hk hb hd ha
  match vals, ha with
  | [x, y], ha =>
    obtain ⟨hx, hy, _⟩ := ha
    obtain ⟨_, hv, sv, hpd, hg, hla⟩ := hd
    have hx := h0 g w x hv hx
    rw [hx]
    refine (pbyte_any hpd (h1 g w y hk hy) hn).mono ?_
    rintro e w' ⟨sv', rfl, hpd', k, hlat⟩
    obtain ⟨h1, h2, h3⟩ := padE_step hg hv hb hk.size hla hpd' k hlat
    exact ⟨_, _, rfl, h1, h2, ⟨trivial, rfl, sv', by rw [hB]; exact hpd', rfl, h3⟩, trivial, rfl⟩
theorem loudE_four {r : Nat} {xs : List Nat} (hB : B (r + 1) = B r ++ xs.flatMap bytes4) (hn : (B r).length + 4 * xs.length ≤ 1099511627776) (hx : ∀ i, i < xs.length → xs.getD i 0 < 4294967296) (h0 : ∀ (g : Gh) (w : World) (x : Value), g.val = pT p → s0.ok g w x → x = pT p) :
    LoudM Try.prog (Foot p sv0) w0 (PadE B p sv0 w0) r 33 [s0, rowS 1 xs.length (fun i => .int .u32 (xs.getD i 0 : Nat))] padS := by
  intro g w vals hk hb hd ha
  match vals, ha with
  | [x, y], ha =>
    obtain ⟨hx', ⟨hy, hyb⟩, _⟩ := ha
    obtain ⟨_, hv, sv, hpd, hg, hla⟩ := hd
    have hx' := h0 g w x hv hx'
    rw [hx']
    refine (pfour_any hpd hy hx (fun b h => by have := (hyb b h).2; rwa [hg] at this) hn).mono ?_
    rintro e w' ⟨sv', rfl, hpd', k, hlat⟩
    obtain ⟨h1, h2, h3⟩ := padE_step hg hv hb hk.size hla hpd' k hlat
    exact ⟨_, _, rfl, h1, h2, ⟨trivial, rfl, sv', by rw [hB]; exact hpd', rfl, h3⟩, trivial, rfl⟩
theorem loudE_mac {r : Nat} {xs : List (List UInt8)} (hB : B (r + 1) = B r ++ xs.flatMap macL) (hn : (B r).length + 6 * xs.length ≤ 1099511627776) (h0 : ∀ (g : Gh) (w : World) (x : Value), g.val = pT p → s0.ok g w x → x = pT p) :
    LoudM Try.prog (Foot p sv0) w0 (PadE B p sv0 w0) r 34 [s0, rowS 6 xs.length (fun j => .int .u8 ((byteAt (xs.getD (j / 6) []) (j % 6)).toNat : Int))] padS := by
  intro g w vals hk hb hd ha
  match vals, ha with
  | [x, y], ha =>
    obtain ⟨hx', ⟨hy, hyb⟩, _⟩ := ha
    obtain ⟨_, hv, sv, hpd, hg, hla⟩ := hd
    have hx' := h0 g w x hv hx'
    rw [hx']
    refine (pmac_any hpd hy (fun b h => by have := (hyb b h).2; rwa [hg] at this) hn).mono ?_
    rintro e w' ⟨sv', rfl, hpd', k, hlat⟩
    obtain ⟨h1, h2, h3⟩ := padE_step hg hv hb hk.size hla hpd' k hlat
    exact ⟨_, _, rfl, h1, h2, ⟨trivial, rfl, sv', by rw [hB]; exact hpd', rfl, h3⟩, trivial, rfl⟩
theorem loudE_done {r : Nat} {bs : List UInt8} (hB : B r = bs) (hB' : B (r + 1) = bs) (hn : bs.length ≤ 140737488351232) (h0 : ∀ (g : Gh) (w : World) (x : Value), g.val = pT p → s0.ok g w x → x = pT p) :
    LoudM Try.prog (Foot p sv0) w0 (PadE B p sv0 w0) r 36 [s0] (doneS w0 bs) := by
  intro g w vals hk hb hd ha
  match vals, ha with
  | [x], ha =>
    obtain ⟨hx', _⟩ := ha
    obtain ⟨hl, hv, sv, hpd, hg, hla⟩ := hd
    have hx' := h0 g w x hv hx'
    rw [hx']
    rw [hB] at hpd
    refine (done_any hpd hn).mono ?_
    rintro e w' ⟨v, rfl, fr⟩
    refine ⟨v, g, rfl, Tr.quiet fr.keep, hb.mono fr.keep, ⟨hl, hv, sv, by rw [hB']; exact hpd.keep0 fr.keep, hg, hla⟩, fr.own, fr.since.mono hk.size, fun b hb' hp' => ?_⟩
    have h1 := (hb b hp').1
    have h2 := fr.since b hb'
    omega
end
/-- The numbers are of their kinds. -/
structure OkM (m : Mh) : Prop where
  xid : m.xid < 4294967296
  secs : m.secs < 65536
  flags : m.flags < 65536
  client : m.client < 4294967296
  yours : m.yours < 4294967296
  next : m.next < 4294967296
  relay : m.relay < 4294967296
end Go.Proofs.Ytpnocepepihflaa
namespace Go.Proofs.Ytpnocepepihflaa
open Go.RowKit

/-- What lies in the pad, call by call. -/
def dbB1 (m : Mh) : Nat → List UInt8
  | 0 => []
  | 1 => [m.op]
  | 2 => [m.op] ++ [262].flatMap bytes2
  | 3 => [m.op] ++ [262].flatMap bytes2 ++ [m.hops]
  | 4 => [m.op] ++ [262].flatMap bytes2 ++ [m.hops] ++ [m.xid].flatMap bytes4
  | _ => [m.op] ++ [262].flatMap bytes2 ++ [m.hops] ++ [m.xid].flatMap bytes4 ++ [m.secs, m.flags].flatMap bytes2
def dbB2 (m : Mh) : Nat → List UInt8
  | 0 => hd1 m
  | 1 => hd1 m ++ (ips m).flatMap bytes4
  | _ => hd1 m ++ (ips m).flatMap bytes4 ++ [m.station].flatMap macL
def dbB3 (m : Mh) : Nat → List UInt8
  | 0 => hd2 m ++ tk 6 m.station
  | 1 => hd2 m ++ tk 6 m.station ++ tk 10 m.pad
  | 2 => hd2 m ++ tk 6 m.station ++ tk 10 m.pad ++ tk 64 m.server
  | 3 => headL m
  | _ => headL m ++ [1669485411].flatMap bytes4
def cookL : List UInt8 := [99, 130, 83, 99]
theorem dbB1_all (m : Mh) : dbB1 m 5 = hd1 m := by kernel_rfl
theorem dbB2_all (m : Mh) : dbB2 m 2 = hd2 m ++ tk 6 m.station := by
  show hd1 m ++ (ips m).flatMap bytes4 ++ [m.station].flatMap macL = _
  rfl
theorem dbB3_all (m : Mh) : dbB3 m 4 = headL m ++ cookL := rfl
theorem dbB1_len (m : Mh) : ∀ k, (dbB1 m k).length ≤ 12
  | 0 => by show 0 ≤ 12; omega
  | 1 => by show 1 ≤ 12; omega
  | 2 => by show 3 ≤ 12; omega
  | 3 => by show 4 ≤ 12; omega
  | 4 => by show 8 ≤ 12; omega
  | k + 5 => by show 12 ≤ 12; omega
theorem dbB2_len (m : Mh) : ∀ k, (dbB2 m k).length ≤ 34
  | 0 => by show 12 ≤ 34; omega
  | 1 => by show 28 ≤ 34; omega
  | k + 2 => by show 34 ≤ 34; omega
theorem dbB3_len (m : Mh) : ∀ k, (dbB3 m k).length ≤ 240
  | 0 => by simp [dbB3, hd2_len, tk_length]
  | 1 => by simp [dbB3, hd2_len, tk_length]
  | 2 => by simp [dbB3, hd2_len, tk_length]
  | 3 => by simp [dbB3, headL_len]
  | k + 4 => by
    show (headL m ++ cookL).length ≤ 240
    rw [List.length_append, headL_len]
    decide
noncomputable abbrev dbC : Code := bodyOf Try.f13
noncomputable abbrev dbN : Nat := Try.f13.ntmps
abbrev dbR (w : World) (m : Mh) (so sb : Sb) : List RowS := [⟨w.heap.size, (m.a so.v sb.v).toList, true⟩]
section
variable {w : World} {m : Mh} {so sb : Sb} {R : Ending → World → Prop}
theorem db_loose {p : Nat} {sv : Value} (hp : w.heap.size < p) (hs : Since (w.heap.size + 1) sv) {wx : World} : Loose w ⟨dbR w m so sb, wx.heap.size⟩ (Foot p sv) := fun k hk => by
  have h1 : w.heap.size < k := by
    rcases hk with rfl | hk
    · exact hp
    · exact hs k hk
  refine ⟨Nat.le_of_lt h1, fun r hr => ?_⟩
  obtain rfl := List.mem_singleton.1 hr
  show w.heap.size ≠ k
  omega
theorem nums1 {n x : Nat} (h : x < n) : ∀ i, i < [x].length → [x].getD i 0 < n := fun i hi => by obtain rfl : i = 0 := (by simpa using hi); exact h
set_option maxRecDepth 8000 in
theorem db_region3 (ok : OkM m) {w3 : World} (hW3 : Wst w ⟨dbR w m so sb, w3.heap.size⟩ w3)
    (hk : ∀ (p : Nat) (sv : Value) w6, Wst w ⟨dbR w m so sb, w6.heap.size⟩ w6 → Pd w6 p sv (hd1 m) → w.heap.size < p → Since (w.heap.size + 1) sv → Goal Try.prog (bodyPost Try.prog Try.f13 R) dbN ⟨frOf [1, 4] [pT w.heap.size, pT p], tagL [(1, 0)], ⟨dbR w m so sb, w6.heap.size⟩, afterR dbC 3⟩ w6) :
    Goal Try.prog (bodyPost Try.prog Try.f13 R) dbN ⟨frOf [1] [pT w.heap.size], tagL [(1, 0)], ⟨dbR w m so sb, w3.heap.size⟩, atR dbC 3⟩ w3 := by
  have hlt : w.heap.size < w3.heap.size := by
    obtain ⟨t, ht⟩ := hW3.rows ⟨w.heap.size, (m.a so.v sb.v).toList, true⟩ (by simp)
    exact block_of_row ht
  refine drawnM_ok (S0 := No) (gt := fun _ => Option.none) (D := PadD (dbB1 m) w3) (g0 := noGh)
    [(0, .loud padS), (3, .new (frB w3.heap.size [m.op])), (4, .loud padS), (5, .new (rowS 1 [262].length (fun i => .int .u16 (([262] : List Nat).getD i 0 : Nat)))), (6, .loud padS), (9, .new (frB w3.heap.size [m.hops])), (10, .loud padS), (13, .new (rowS 1 [m.xid].length (fun i => .int .u32 (([m.xid] : List Nat).getD i 0 : Nat)))), (14, .loud padS), (19, .new (rowS 1 [m.secs, m.flags].length (fun i => .int .u16 (([m.secs, m.flags] : List Nat).getD i 0 : Nat)))), (20, .loud padS), (21, .by padS)]
    [1, 4] [.is (pT w.heap.size), padS]
    (LoudM Try.prog No w3 (PadD (dbB1 m) w3) 0 30 [] padS ∧ True ∧ True ∧
      NewM Try.prog No w3 (Instr.buildSlice 22 1 #[(0, bv m.op)]) (frB w3.heap.size [m.op]) ∧
      LoudM Try.prog No w3 (PadD (dbB1 m) w3) 1 31 [padS, frB w3.heap.size [m.op]] padS ∧
      NewM Try.prog No w3 (Instr.buildSlice 96 1 #[(0, .int .u16 262)]) (rowS 1 [262].length (fun i => .int .u16 (([262] : List Nat).getD i 0 : Nat))) ∧
      LoudM Try.prog No w3 (PadD (dbB1 m) w3) 2 32 [padS, rowS 1 [262].length (fun i => .int .u16 (([262] : List Nat).getD i 0 : Nat))] padS ∧ True ∧ True ∧
      NewM Try.prog No w3 (Instr.buildSlice 22 1 #[(0, bv m.hops)]) (frB w3.heap.size [m.hops]) ∧
      LoudM Try.prog No w3 (PadD (dbB1 m) w3) 3 31 [padS, frB w3.heap.size [m.hops]] padS ∧ True ∧ True ∧
      NewM Try.prog No w3 (Instr.buildSlice 97 1 #[(0, .int .u32 m.xid)]) (rowS 1 [m.xid].length (fun i => .int .u32 (([m.xid] : List Nat).getD i 0 : Nat))) ∧
      LoudM Try.prog No w3 (PadD (dbB1 m) w3) 4 33 [padS, rowS 1 [m.xid].length (fun i => .int .u32 (([m.xid] : List Nat).getD i 0 : Nat))] padS ∧ True ∧ True ∧ True ∧ True ∧
      NewM Try.prog No w3 (Instr.buildSlice 96 2 #[(0, .int .u16 m.secs), (1, .int .u16 m.flags)]) (rowS 1 [m.secs, m.flags].length (fun i => .int .u16 (([m.secs, m.flags] : List Nat).getD i 0 : Nat))) ∧
      LoudM Try.prog No w3 (PadD (dbB1 m) w3) 5 32 [padS, rowS 1 [m.secs, m.flags].length (fun i => .int .u16 (([m.secs, m.flags] : List Nat).getD i 0 : Nat))] padS ∧
      ByM Try.prog No w3 (.assign (.tmp 30)) 72 [(30, padS)] padS ∧ True)
    6 (afterR dbC 3) hW3 (fun _ h => h.elim) (by kernel_rfl) (by kernel_rfl) (by kernel_rfl) PadD.keep (noGh_base w3) (noGh_D w3)
    ⟨loud_lay rfl, trivial, trivial, frB_new rfl (by simp [maxLen]) (fun _ => by kernel_rfl), loud_byteN (r := 0) rfl (by have := dbB1_len m 0; simp only [List.length_cons, List.length_nil]; omega),
      new_row (cs := [.int .u16 262]) (by simp [maxLen]) (fun _ => by kernel_rfl) (fun j hj => by obtain rfl : j = 0 := (by simpa using hj); rfl), loud_two (r := 1) (xs := [262]) rfl (by have := dbB1_len m 1; simp only [List.length_cons, List.length_nil]; omega) (nums1 (by omega)), trivial, trivial,
      frB_new rfl (by simp [maxLen]) (fun _ => by kernel_rfl), loud_byteN (r := 2) rfl (by have := dbB1_len m 2; simp only [List.length_cons, List.length_nil]; omega), trivial, trivial,
      new_row (cs := [.int .u32 m.xid]) (by simp [maxLen]) (fun _ => by kernel_rfl) (fun j hj => by obtain rfl : j = 0 := (by simpa using hj); rfl), loud_four (r := 3) (xs := [m.xid]) rfl (by have := dbB1_len m 3; simp only [List.length_cons, List.length_nil]; omega) (nums1 ok.xid), trivial, trivial, trivial, trivial,
      new_row (cs := [.int .u16 m.secs, .int .u16 m.flags]) (by simp [maxLen]) (fun _ => by kernel_rfl) (fun j hj => by have : j = 0 ∨ j = 1 := (by simp at hj; omega); rcases this with rfl | rfl <;> rfl), loud_two (r := 4) (xs := [m.secs, m.flags]) rfl (by have := dbB1_len m 4; simp only [List.length_cons, List.length_nil]; omega) (fun i hi => by have : i = 0 ∨ i = 1 := (by simp at hi; omega); rcases this with rfl | rfl; (· exact ok.secs); (· exact ok.flags)), by_assign, trivial⟩ ?_
  intro g w6 vs k6 _ hd hok
  match vs, hok with
  | [x1, x2], ⟨h1, h2, _⟩ =>
  obtain rfl : x1 = _ := h1
  obtain ⟨_, p, sv, hv, hpd, _, hp, hs⟩ := hd
  obtain rfl : x2 = pT p := h2.2.trans hv
  rw [dbB1_all] at hpd
  exact hk p sv w6 (hW3.later k6) hpd (by omega) (hs.mono hlt)
set_option maxRecDepth 8000 in
theorem db_region4 (ok : OkM m) {p : Nat} {sv : Value} {w3 : World} (hW3 : Wst w ⟨dbR w m so sb, w3.heap.size⟩ w3) (pd : Pd w3 p sv (hd1 m)) (hp : w.heap.size < p) (hs : Since (w.heap.size + 1) sv)
    (hk : ∀ (sv : Value) w6, Wst w ⟨dbR w m so sb, w6.heap.size⟩ w6 → Pd w6 p sv (hd2 m ++ tk 6 m.station) → Since (w.heap.size + 1) sv → Goal Try.prog (bodyPost Try.prog Try.f13 R) dbN ⟨frOf [1, 4] [pT w.heap.size, pT p], tagL [(1, 0)], ⟨dbR w m so sb, w6.heap.size⟩, afterR dbC 4⟩ w6) :
    Goal Try.prog (bodyPost Try.prog Try.f13 R) dbN ⟨frOf [1, 4] [pT w.heap.size, pT p], tagL [(1, 0)], ⟨dbR w m so sb, w3.heap.size⟩, atR dbC 4⟩ w3 := by
  have hlt : w.heap.size < w3.heap.size := by
    obtain ⟨t, ht⟩ := hW3.rows ⟨w.heap.size, (m.a so.v sb.v).toList, true⟩ (by simp)
    exact block_of_row ht
  refine drawnM_ok (S0 := Foot p sv) (gt := fun _ => Option.none) (D := PadE (dbB2 m) p sv w3) (g0 := gE p sv)
    [(9, .new (rowS 1 (ips m).length (fun i => .int .u32 ((ips m).getD i 0 : Nat)))), (10, .loud padS), (13, .new (rowS 6 [m.station].length (fun j => .int .u8 ((byteAt (([m.station] : List (List UInt8)).getD (j / 6) []) (j % 6)).toNat : Int)))), (14, .loud padS)]
    [1, 4] [.is (pT w.heap.size), .is (pT p)]
    (True ∧ True ∧ True ∧ True ∧ True ∧ True ∧ True ∧ True ∧ True ∧
      NewM Try.prog (Foot p sv) w3 (Instr.buildSlice 97 4 #[(0, .int .u32 m.client), (1, .int .u32 m.yours), (2, .int .u32 m.next), (3, .int .u32 m.relay)]) (rowS 1 (ips m).length (fun i => .int .u32 ((ips m).getD i 0 : Nat))) ∧
      LoudM Try.prog (Foot p sv) w3 (PadE (dbB2 m) p sv w3) 0 33 [.is (pT p), rowS 1 (ips m).length (fun i => .int .u32 ((ips m).getD i 0 : Nat))] padS ∧ True ∧ True ∧
      NewM Try.prog (Foot p sv) w3 (Instr.buildSlice 98 1 #[(0, .agg #[bv (byteAt m.station 0), bv (byteAt m.station 1), bv (byteAt m.station 2), bv (byteAt m.station 3), bv (byteAt m.station 4), bv (byteAt m.station 5)])]) (rowS 6 [m.station].length (fun j => .int .u8 ((byteAt (([m.station] : List (List UInt8)).getD (j / 6) []) (j % 6)).toNat : Int))) ∧
      LoudM Try.prog (Foot p sv) w3 (PadE (dbB2 m) p sv w3) 1 34 [padS, rowS 6 [m.station].length (fun j => .int .u8 ((byteAt (([m.station] : List (List UInt8)).getD (j / 6) []) (j % 6)).toNat : Int))] padS ∧ True)
    2 (afterR dbC 4) hW3 (db_loose hp hs) (by kernel_rfl) (by kernel_rfl) (by kernel_rfl) PadE.keep (gE_base pd) (gE_D pd)
    ⟨trivial, trivial, trivial, trivial, trivial, trivial, trivial, trivial, trivial,
      new_row (cs := [.int .u32 m.client, .int .u32 m.yours, .int .u32 m.next, .int .u32 m.relay]) (by show 4 ≤ maxLen; simp [maxLen]) (fun _ => by kernel_rfl) (fun j hj => by have hj : j < 4 := hj; have : j = 0 ∨ j = 1 ∨ j = 2 ∨ j = 3 := (by omega); rcases this with rfl | rfl | rfl | rfl <;> rfl),
      loudE_four rfl (by have := dbB2_len m 0; show (dbB2 m 0).length + 4 * 4 ≤ _; omega) (fun i hi => by have hi : i < 4 := hi; have : i = 0 ∨ i = 1 ∨ i = 2 ∨ i = 3 := (by omega); rcases this with rfl | rfl | rfl | rfl; (· exact ok.client); (· exact ok.yours); (· exact ok.next); (· exact ok.relay)) pE_is, trivial, trivial,
      new_row (cs := bvs (macL m.station)) (by simp [maxLen]) (fun _ => by kernel_rfl) (fun j hj => by have : j = 0 ∨ j = 1 ∨ j = 2 ∨ j = 3 ∨ j = 4 ∨ j = 5 := (by simp at hj; omega); rcases this with rfl | rfl | rfl | rfl | rfl | rfl <;> rfl),
      loudE_mac rfl (by have := dbB2_len m 1; simp only [List.length_cons, List.length_nil]; omega) pE_pad, trivial⟩ ?_
  intro g w6 vs k6 _ hd hok
  obtain rfl := allOkM_is (vs := [pT w.heap.size, pT p]) hok
  obtain ⟨_, _, sv', pd', _, hla⟩ := hd
  rw [dbB2_all] at pd'
  exact hk sv' w6 (hW3.laterS k6 (db_loose hp hs)) pd' (of_since hs hla hlt)
set_option maxRecDepth 8000 in
theorem db_region5 {p : Nat} {sv : Value} {w3 : World} (hW3 : Wst w ⟨dbR w m so sb, w3.heap.size⟩ w3) (pd : Pd w3 p sv (hd2 m ++ tk 6 m.station)) (hp : w.heap.size < p) (hs : Since (w.heap.size + 1) sv)
    (hk : ∀ (sv : Value) w6, Wst w ⟨dbR w m so sb, w6.heap.size⟩ w6 → Pd w6 p sv (headL m ++ cookL) → Since (w.heap.size + 1) sv → Goal Try.prog (bodyPost Try.prog Try.f13 R) dbN ⟨frOf [1, 4] [pT w.heap.size, pT p], tagL [(1, 0)], ⟨dbR w m so sb, w6.heap.size⟩, afterR dbC 5⟩ w6) :
    Goal Try.prog (bodyPost Try.prog Try.f13 R) dbN ⟨frOf [1, 4] [pT w.heap.size, pT p], tagL [(1, 0)], ⟨dbR w m so sb, w3.heap.size⟩, atR dbC 5⟩ w3 := by
  have hlt : w.heap.size < w3.heap.size := by
    obtain ⟨t, ht⟩ := hW3.rows ⟨w.heap.size, (m.a so.v sb.v).toList, true⟩ (by simp)
    exact block_of_row ht
  have src : ∀ {off n : Nat} {ys : List UInt8}, (((m.a so.v sb.v).toList).drop off).take n = bvs ys → ys.length = n → n ≤ 128 → ∀ (wx : World), Keep (Foot p sv) w3 wx → Rd wx (.slice (some ⟨w.heap.size, off, none⟩) n n) ys := fun h1 h2 h3 wx hk =>
    Rd.part (hW3.laterS hk (db_loose hp hs)) (cs := (m.a so.v sb.v).toList) (ow := true) (by simp) h1 h2 (by simp only [maxLen]; omega)
  refine drawnM_ok (S0 := Foot p sv) (gt := fun _ => Option.none) (D := PadE (dbB3 m) p sv w3) (g0 := gE p sv)
    [(3, .loud padS), (6, .loud padS), (9, .loud padS), (10, .new (rowS 1 [1669485411].length (fun i => .int .u32 (([1669485411] : List Nat).getD i 0 : Nat)))), (11, .loud padS)]
    [1, 4] [.is (pT w.heap.size), .is (pT p)]
    (True ∧ True ∧ True ∧
      LoudM Try.prog (Foot p sv) w3 (PadE (dbB3 m) p sv w3) 0 31 [.is (pT p), .is (.slice (some ⟨w.heap.size, 15, none⟩) 10 10)] padS ∧ True ∧ True ∧
      LoudM Try.prog (Foot p sv) w3 (PadE (dbB3 m) p sv w3) 1 31 [padS, .is (.slice (some ⟨w.heap.size, 25, none⟩) 64 64)] padS ∧ True ∧ True ∧
      LoudM Try.prog (Foot p sv) w3 (PadE (dbB3 m) p sv w3) 2 31 [padS, .is (.slice (some ⟨w.heap.size, 89, none⟩) 128 128)] padS ∧
      NewM Try.prog (Foot p sv) w3 (Instr.buildSlice 97 1 #[(0, .int .u32 1669485411)]) (rowS 1 [1669485411].length (fun i => .int .u32 (([1669485411] : List Nat).getD i 0 : Nat))) ∧
      LoudM Try.prog (Foot p sv) w3 (PadE (dbB3 m) p sv w3) 3 33 [padS, rowS 1 [1669485411].length (fun i => .int .u32 (([1669485411] : List Nat).getD i 0 : Nat))] padS ∧ True)
    4 (afterR dbC 5) hW3 (db_loose hp hs) (by kernel_rfl) (by kernel_rfl) (by kernel_rfl) PadE.keep (gE_base pd) (gE_D pd)
    ⟨trivial, trivial, trivial, loudE_byte rfl (by have := dbB3_len m 0; rw [tk_length]; omega) pE_is (pE_old (src (pt_pad m _ _) (tk_length _ _) (by omega))), trivial, trivial,
      loudE_byte rfl (by have := dbB3_len m 1; rw [tk_length]; omega) pE_pad (pE_old (src (pt_server m _ _) (tk_length _ _) (by omega))), trivial, trivial,
      loudE_byte rfl (by have := dbB3_len m 2; rw [tk_length]; omega) pE_pad (pE_old (src (pt_file m _ _) (tk_length _ _) (by omega))),
      new_row (cs := [.int .u32 1669485411]) (by simp [maxLen]) (fun _ => by kernel_rfl) (fun j hj => by obtain rfl : j = 0 := (by simpa using hj); rfl),
      loudE_four rfl (by have := dbB3_len m 3; simp only [List.length_cons, List.length_nil]; omega) (nums1 (by omega)) pE_pad, trivial⟩ ?_
  intro g w6 vs k6 _ hd hok
  obtain rfl := allOkM_is (vs := [pT w.heap.size, pT p]) hok
  obtain ⟨_, _, sv', pd', _, hla⟩ := hd
  rw [dbB3_all] at pd'
  exact hk sv' w6 (hW3.laterS k6 (db_loose hp hs)) pd' (of_since hs hla hlt)
end
end Go.Proofs.Ytpnocepepihflaa
