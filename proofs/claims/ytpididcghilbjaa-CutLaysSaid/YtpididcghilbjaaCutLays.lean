/-
  tolllaw01's CutLays: the pad and the wanted bytes, side by side. No condition.
-/
import Derived.Test.YtpididcghilbjaaCutBack2
import Derived.Test.YtpididcghilbjaaCutTakes3
import Derived.Test.YtpididcghilbjaaRefBytes
import Derived.Test.YtpididcghilbjaaPadMore
namespace Go.Proofs.Ytpididcghilbjaa
open Go.RowKit

structure Ac where
  wh : Int
  nn : Int
  v : Nat
  ao : Option Addr
  ln : Nat
  cp : Nat
  l : List UInt8
abbrev Ac.b (x : Ac) : Value := .slice x.ao x.ln x.cp
def acE : Ac := ⟨0, 0, 0, none, 0, 0, []⟩
abbrev acA (x : Ac) : Array Value := actA x.wh x.nn (x.v : Int) (.slice x.ao x.ln x.cp)
structure AcOk (w : World) (x : Ac) : Prop where
  v : x.v < 4294967296
  n0 : -9223372036854775808 ≤ x.nn
  n1 : x.nn ≤ 9223372036854775807
  rd : Rd w x.b x.l
def AcsAt (w : World) (vl : Value) (xs : List Ac) : Prop := ∃ c, Sl 4 w vl xs.length c ∧ ∀ i, i < xs.length → AcOk w (xs.getD i acE) ∧ c (i * 4) = .int .i64 (xs.getD i acE).wh ∧ c (i * 4 + 1) = .int .i64 (xs.getD i acE).nn ∧ c (i * 4 + 2) = .int .u32 ((xs.getD i acE).v : Int) ∧ c (i * 4 + 3) = (xs.getD i acE).b
theorem ac_sl {w : World} {vl : Value} {xs : List Ac} (hth : AcsAt w vl xs) {w' : World} (hk0 : Keep No w w') {k : Nat} (hk : k < xs.length) : SemObs Try.prog ⟨[], w'.heap.size⟩ w' [(Instr.indexAt 42 vl (.int .i64 (k : Int)), .pointer (some (adA vl k))), (Instr.loadAt 48 (.pointer (some (adA vl k))), .agg (acA (xs.getD k acE)))] := by
  obtain ⟨c, slc, hel⟩ := hth
  obtain ⟨_, e0, e1, e2, e3⟩ := hel k hk
  exact ⟨fun wx _ => act_at slc hk wx, fun wx hx => act_ld (w := wx) ⟨slc.shape, fun q hq => by
      have hcc := slc.cell q hq
      rw [← (slc.keep0 hk0).cell q hq]
      exact World.cell?_of_block (hx _ ⟨Nat.lt_of_lt_of_le (World.block_lt_of_cell? w _ hcc) hk0.size, fun _ h => nomatch h⟩)⟩ hk e0 e1 e2 e3, trivial⟩

/-- The pad holds bp, the wanted bytes are bw. -/
structure ClF (w w' : World) (rows : List RowS) (pp : Nat) (sv u : Value) (bp bw : List UInt8) : Prop where
  pd : Pd w' pp sv bp
  own : Own 5 w' u bw
  hp : w.heap.size ≤ pp
  hsv : Since w.heap.size sv
  hsu : Since w.heap.size u
  ne : ∀ b, u.ownBlock = some b → ¬ Foot pp sv b
  ap : ∀ r ∈ rows, r.b < w'.heap.size ∧ ¬ Foot pp sv r.b ∧ u.ownBlock ≠ some r.b
section
variable {w w1 w2 : World} {rows : List RowS} {pp : Nat} {sv u : Value} {bp bw : List UInt8}
theorem ClF.pass (more : List RowS) (h : ClF w w1 rows pp sv u bp bw) (hS : Seg ⟨rows, w1.heap.size⟩ w1 ⟨rows ++ more, w2.heap.size⟩ w2) (hW : Wst w ⟨rows ++ more, w2.heap.size⟩ w2) (hm : ∀ r ∈ more, w1.heap.size ≤ r.b) : ClF w w2 (rows ++ more) pp sv u bp bw where
  pd := h.pd.walk (rows := rows) (fun r hr _ => ⟨fun e => (h.ap r hr).2.1 (.inl e), fun e => (h.ap r hr).2.1 (.inr e)⟩) hS
  own := h.own.same fun b hb => hS.same b ⟨h.own.lt b hb, fun r hr _ e => (h.ap r hr).2.2 (by rw [e]; exact hb)⟩
  hp := h.hp
  hsv := h.hsv
  hsu := h.hsu
  ne := h.ne
  ap := fun r hr => by
    obtain ⟨t, ht⟩ := hW.rows r hr
    refine ⟨block_of_row ht, ?_⟩
    rcases List.mem_append.1 hr with hr | hr
    · exact (h.ap r hr).2
    · have h1 := hm r hr
      refine ⟨fun hf => ?_, fun hb => ?_⟩
      · rcases hf with e | e
        · have := h.pd.lt; omega
        · have := h.pd.own.lt _ e; omega
      · have := h.own.lt _ hb; omega
theorem ClF.pass0 (h : ClF w w1 rows pp sv u bp bw) (hS : Seg ⟨rows, w1.heap.size⟩ w1 ⟨rows, w2.heap.size⟩ w2) (hW : Wst w ⟨rows, w2.heap.size⟩ w2) : ClF w w2 rows pp sv u bp bw := by
  have := h.pass [] (w2 := w2) (by simpa using hS) (by simpa using hW) (fun _ h => nomatch h)
  simpa using this
theorem ClF.keep0 (h : ClF w w1 rows pp sv u bp bw) (k : Keep No w1 w2) : ClF w w2 rows pp sv u bp bw := ⟨h.pd.keep0 k, h.own.keep k (fun _ _ f => f), h.hp, h.hsv, h.hsu, h.ne, fun r hr => ⟨Nat.lt_of_lt_of_le (h.ap r hr).1 k.size, (h.ap r hr).2⟩⟩
theorem ClF.fewer {more : List RowS} (h : ClF w w1 (rows ++ more) pp sv u bp bw) : ClF w w1 rows pp sv u bp bw := ⟨h.pd, h.own, h.hp, h.hsv, h.hsu, h.ne, fun r hr => h.ap r (List.mem_append.2 (.inl hr))⟩
theorem ClF.none (h : ClF w w1 rows pp sv u bp bw) : ClF w w1 [] pp sv u bp bw := ⟨h.pd, h.own, h.hp, h.hsv, h.hsu, h.ne, fun _ h => nomatch h⟩
theorem ClF.looseP (h : ClF w w1 rows pp sv u bp bw) : Loose w ⟨rows, w1.heap.size⟩ (Foot pp sv) := fun q hq => ⟨by rcases hq with e | e; (· rw [e]; exact h.hp); (· exact h.hsv q e), fun r hr e => (h.ap r hr).2.1 (by rw [e]; exact hq)⟩
theorem ClF.looseU (h : ClF w w1 rows pp sv u bp bw) : Loose w ⟨rows, w1.heap.size⟩ (fun k => u.ownBlock = some k) := fun q hq => ⟨h.hsu q hq, fun r hr e => (h.ap r hr).2.2 (by rw [e]; exact hq)⟩
theorem ClF.pad (h : ClF w w1 rows pp sv u bp bw) (h0 : w.heap.size ≤ w1.heap.size) {sv' : Value} {bp' : List UInt8} (k : Keep (Foot pp sv) w1 w2) (hla : Later w1.heap.size sv sv') (pd : Pd w2 pp sv' bp') : ClF w w2 rows pp sv' u bp' bw where
  pd := pd
  own := h.own.keep k h.ne
  hp := h.hp
  hsv := by
    rcases hla with e | e
    · intro b hb; rw [e] at hb; exact h.hsv b hb
    · exact e.mono h0
  hsu := h.hsu
  ne := fun b hb hf => by
    rcases hf with e | e
    · exact h.ne b hb (.inl e)
    · rcases hla with e2 | e2
      · exact h.ne b hb (.inr (by rw [← e2]; exact e))
      · have := e2 b e; have := h.own.lt b hb; omega
  ap := fun r hr => ⟨Nat.lt_of_lt_of_le (h.ap r hr).1 k.size, fun hf => by
    rcases hf with e | e
    · exact (h.ap r hr).2.1 (.inl e)
    · rcases hla with e2 | e2
      · exact (h.ap r hr).2.1 (.inr (by rw [← e2]; exact e))
      · have := e2 _ e; have := (h.ap r hr).1; omega, (h.ap r hr).2.2⟩
theorem ClF.app (h : ClF w w1 rows pp sv u bp bw) (h0 : w.heap.size ≤ w1.heap.size) {v : Value} {bw' : List UInt8} (k : Keep (fun k => u.ownBlock = some k) w1 w2) (hbl : v.ownBlock = u.ownBlock ∨ v.ownBlock = some w1.heap.size) (ho : Own 5 w2 v bw') : ClF w w2 rows pp sv v bp bw' where
  pd := h.pd.keep k (fun e => h.ne _ e (.inl rfl)) (fun b hb e => h.ne _ e (.inr hb))
  own := ho
  hp := h.hp
  hsv := h.hsv
  hsu := fun b hb => by
    rcases hbl with e | e <;> rw [e] at hb
    · exact h.hsu b hb
    · obtain rfl := Option.some.inj hb; exact h0
  ne := fun b hb hf => by
    rcases hbl with e | e <;> rw [e] at hb
    · exact h.ne b hb hf
    · obtain rfl := Option.some.inj hb
      rcases hf with e | e
      · have := h.pd.lt; omega
      · have := h.pd.own.lt _ e; omega
  ap := fun r hr => ⟨Nat.lt_of_lt_of_le (h.ap r hr).1 k.size, (h.ap r hr).2.1, fun hb => by
    rcases hbl with e | e <;> rw [e] at hb
    · exact (h.ap r hr).2.2 hb
    · have := (h.ap r hr).1
      have := Option.some.inj hb
      omega⟩
theorem ClF.app' (h : ClF w w1 rows pp sv u bp bw) (h0 : w.heap.size ≤ w1.heap.size) {v : Value} {bw' : List UInt8} (k : Keep (fun k => u.ownBlock = some k) w1 w2) (hbl : Later w1.heap.size u v) (ho : Own 5 w2 v bw') : ClF w w2 rows pp sv v bp bw' where
  pd := h.pd.keep k (fun e => h.ne _ e (.inl rfl)) (fun b hb e => h.ne _ e (.inr hb))
  own := ho
  hp := h.hp
  hsv := h.hsv
  hsu := fun b hb => by
    rcases hbl with e | e
    · rw [e] at hb; exact h.hsu b hb
    · exact Nat.le_trans h0 (e b hb)
  ne := fun b hb hf => by
    rcases hbl with e | e
    · rw [e] at hb; exact h.ne b hb hf
    · have h1 := e b hb
      rcases hf with e | e
      · have := h.pd.lt; omega
      · have := h.pd.own.lt _ e; omega
  ap := fun r hr => ⟨Nat.lt_of_lt_of_le (h.ap r hr).1 k.size, (h.ap r hr).2.1, fun hb => by
    rcases hbl with e | e
    · rw [e] at hb; exact (h.ap r hr).2.2 hb
    · have := (h.ap r hr).1
      have := e _ hb
      omega⟩
end

noncomputable abbrev clC : Code := bodyOf Try.f7
noncomputable abbrev clN : Nat := Try.f7.ntmps
abbrev clQ (w : World) : Ending → World → Prop := fun x w' => x = .returned (.bool true) ∧ Keep No w w'
structure ClI where
  j : Nat
  sv : Value
  u : Value
  bs : List UInt8
noncomputable def clL (vx vy : Value) (pp : Nat) (vl : Value) (n : Nat) (i : ClI) (w' : World) : Cfg := ⟨frOf [1, 2, 7, 8, 18, 19, 20] [vx, vy, pT pp, i.u, vl, .int .i64 (n : Int), .int .i64 ((n - i.j : Nat) : Int)], tagL [], ⟨[], w'.heap.size⟩, atL clC 4⟩
structure ClJ (w : World) (pp : Nat) (n : Nat) (i : ClI) (w' : World) : Prop where
  le : i.j ≤ n
  W : Wst w ⟨[], w'.heap.size⟩ w'
  F : ClF w w' [] pp i.sv i.u i.bs i.bs
  len : i.bs.length ≤ 40 * (n - i.j)
  b60 : n - i.j ≤ 60
noncomputable def clR (w : World) (vx vy : Value) (pp : Nat) (vl : Value) (n : Nat) (i : ClI) : Act → World → Prop := fun a' w' => ∃ k : ClI, k.j < i.j ∧ ClJ w pp n k w' ∧ agrees clN (clL vx vy pp vl n k w') a'
noncomputable abbrev cl2X : Code := loopOf (atL clC 36)
noncomputable abbrev cl2K (R : Act → World → Prop) : List K := (atL clC 36 (.inv R)).tail
structure Cl2I where
  j : Nat
  cs : List UInt8
noncomputable def cl2L (R : Act → World → Prop) (vx vy : Value) (pp : Nat) (u vd vl : Value) (n k m : Nat) (i : Cl2I) (w' : World) : Cfg := ⟨frOf [1, 2, 7, 8, 15, 18, 19, 20, 175, 176] [vx, vy, pT pp, u, vd, vl, .int .i64 (n : Int), .int .i64 (k : Int), .int .i64 (m : Int), .int .i64 ((m - i.j : Nat) : Int)], tagL [], ⟨[], w'.heap.size⟩, atL clC 36 (.inv R)⟩
structure Cl2J (w : World) (pp : Nat) (sv u : Value) (bs : List UInt8) (vd : Value) (m : Nat) (i : Cl2I) (w' : World) : Prop where
  le : i.j ≤ m
  W : Wst w ⟨[], w'.heap.size⟩ w'
  F : ClF w w' [] pp sv u bs bs
  own : Own 5 w' vd i.cs
  len : i.cs.length = m
noncomputable def cl2R (w : World) (R : Act → World → Prop) (vx vy : Value) (pp : Nat) (sv u : Value) (bs : List UInt8) (vd vl : Value) (n k m : Nat) (i : Cl2I) : Act → World → Prop := fun a' w' => ∃ q : Cl2I, q.j < i.j ∧ Cl2J w pp sv u bs vd m q w' ∧ agrees clN (cl2L R vx vy pp u vd vl n k m q w') a'
section
variable {w : World} {vx vy : Value} {pp : Nat} {vl : Value} {n : Nat}
theorem cl2_round {R : Act → World → Prop} {sv u : Value} {bs : List UInt8} {vd : Value} {k m : Nat} (hm : m ≤ 1000000) (hvd : ∀ b, vd.ownBlock = some b → ¬ Foot pp sv b ∧ u.ownBlock ≠ some b ∧ w.heap.size ≤ b) (i : Cl2I) (w' : World) (hJ : Cl2J w pp sv u bs vd m i w') (j : Nat) (hj : i.j = j + 1) :
    Goal Try.prog (bodyPost Try.prog Try.f7 (clQ w)) clN { cl2L R vx vy pp u vd vl n k m i w' with todo := .code cl2X :: .inv (cl2R w R vx vy pp sv u bs vd vl n k m i) :: cl2K R } w' := by
  obtain ⟨hle, hW, F, ho, hlen⟩ := hJ
  unfold cl2L
  rw [hj] at hle ⊢
  simp only
  have hnext : m - (j + 1) + 1 = m - j := by omega
  have hi : m - (j + 1) < m := by omega
  generalize hI : m - (j + 1) = q at *
  have hc : (q : Int) < (m : Int) := by omega
  have hkl : q < i.cs.length := by omega
  have hvb := ho.rd.block_eq hkl
  obtain ⟨hb1, hb2, hb3⟩ := hvd _ hvb
  obtain ⟨y, hy⟩ := xb_byte (byteAt i.cs q)
  have hsafe : ∀ b, vd.ownBlock = some b → Safe ⟨[], w'.heap.size⟩ b := fun b hb => ⟨ho.lt b hb, fun _ h => nomatch h⟩
  refine go_stX (gt := fun _ => Option.none) (unroll := false) 60 [(36, 0, .is (.bool true)), (38, 2, .sem (.pointer (some (adr vd q)))), (38, 3, .sem (bv (byteAt i.cs q))), (38, 4, .is (bv y)), (38, 5, .sem (.pointer (some (adr vd q)))), (38, 6, .stop)] (.pointer (some (adr vd q))) (bv y) 5 [1, 2, 7, 8, 15, 18, 19, 20, 175, 176] [vx, vy, pT pp, u, vd, vl, .int .i64 (n : Int), .int .i64 (k : Int), .int .i64 (m : Int), .int .i64 (q : Int)] [] [] (inR cl2X 38 6 ++ (.inv (cl2R w R vx vy pp sv u bs vd vl n k m i) :: cl2K R))
    [(.bool (decide ((q : Int) < (m : Int))), .bool true), (.int .u8 (xb (byteAt i.cs q)), bv y)] [(Instr.indexAt 22 vd (.int .i64 (q : Int)), .pointer (some (adr vd q))), (Instr.loadAt 5 (.pointer (some (adr vd q))), bv (byteAt i.cs q)), (Instr.indexAt 22 vd (.int .i64 (q : Int)), .pointer (some (adr vd q)))]
    hW (by kernel_rfl) ⟨congrArg Value.bool (by simpa using hc), hy, trivial⟩ ⟨fun wx _ => ho.rd.sem_at hkl wx, fun wx hx => (ho.rd.safe hsafe hx).sem_ld hkl, fun wx _ => ho.rd.sem_at hkl wx, trivial⟩ ?_
  intro w1 hW1 hS1
  have ho1 := ho.same fun b hb => hS1.same b (hsafe b hb)
  have F1 := F.pass0 hS1 hW1
  refine ⟨_, ho1.sem_st hkl y, ?_⟩
  have k2 : Keep (One (blk vd)) w1 (w1.setCell (adr vd q) (bv y)) := (Keep.refl (One (blk vd)) w1).setCell (p := adr vd q) (fun _ => rfl) _
  have ho2 := ho1.set hkl y
  have F2 : ClF w (w1.setCell (adr vd q) (bv y)) [] pp sv u bs bs := ⟨F1.pd.keep k2 (fun e => hb1 (.inl (Eq.symm e))) (fun b hb e => hb1 (.inr (by rw [hb, show b = blk vd from e]))), F1.own.keep k2 (fun b hb e => hb2 (by rw [hb, show b = blk vd from e])), F1.hp, F1.hsv, F1.hsu, F1.ne, fun _ h => nomatch h⟩
  have hW2 := hW1.laterS k2 (fun z hz => ⟨by rw [show z = blk vd from hz]; exact hb3, fun _ h => nomatch h⟩)
  generalize w1.setCell (adr vd q) (bv y) = w2 at *
  refine go_inv (gt := fun _ => Option.none) (unroll := false) 60 [(39, 0, .is (.int .i64 ((q + 1 : Nat) : Int)))] [1, 2, 7, 8, 15, 18, 19, 20, 175, 176] [vx, vy, pT pp, u, vd, vl, .int .i64 (n : Int), .int .i64 (k : Int), .int .i64 (m : Int), .int .i64 ((q + 1 : Nat) : Int)] [] (cl2R w R vx vy pp sv u bs vd vl n k m i) [(.int .i64 (IntKind.i64.wrap ((q : Int) + 1)), .int .i64 ((q + 1 : Nat) : Int))] [] hW2 (by kernel_rfl)
    ⟨congrArg (Value.int .i64) (by rw [IntWalk.i64_in _ (by omega)]; omega), trivial⟩ trivial ?_
  intro w5 act hW5 hS5 hs
  refine ⟨⟨j, i.cs.set q y⟩, by rw [hj]; exact Nat.lt_succ_self j, ⟨by show j ≤ m; omega, hW5, F2.pass0 hS5 hW5, ho2.same fun b hb => hS5.same b ⟨ho2.lt b hb, fun _ h => nomatch h⟩, by simp [hlen]⟩, ?_⟩
  unfold cl2L
  simp only
  rw [← hnext]
  exact hs
/-- Behind an arm: what was laid is what was wanted. -/
theorem cl_tail (i : ClI) {j k : Nat} (hj : i.j = j + 1) (hk : n - (j + 1) = k) (hjn : j + 1 ≤ n) (h60 : k < 60) {w1 : World} {sv u : Value} {bs : List UInt8} (hW : Wst w ⟨[], w1.heap.size⟩ w1) (F : ClF w w1 [] pp sv u bs bs) (hlen : bs.length ≤ 40 * (k + 1)) :
    Goal Try.prog (bodyPost Try.prog Try.f7 (clQ w)) clN ⟨frOf [1, 2, 7, 8, 18, 19, 20] [vx, vy, pT pp, u, vl, .int .i64 (n : Int), .int .i64 (k : Int)], tagL [], ⟨[], w1.heap.size⟩, opsR clC 32 (.inv (clR w vx vy pp vl n i))⟩ w1 := by
  refine go_call_is (gt := fun _ => Option.none) (unroll := false) 60 [] 33 [pT pp] [1, 2, 7, 8, 18, 19, 20] [vx, vy, pT pp, u, vl, .int .i64 (n : Int), .int .i64 (k : Int)] 162 [] [] (inR clC 32 1 (.inv (clR w vx vy pp vl n i))) [] [] hW (by kernel_rfl) trivial trivial ?_
  intro w2 hW2 hS2
  have F2 := F.pass0 hS2 hW2
  refine (done_any F2.pd (by omega)).mono ?_
  rintro x w3 ⟨vd, rfl, fr⟩
  refine ⟨_, rfl, ?_⟩
  have F3 := F2.keep0 fr.keep
  have hvd : ∀ b, vd.ownBlock = some b → ¬ Foot pp sv b ∧ u.ownBlock ≠ some b ∧ w.heap.size ≤ b := fun b hb => by
    have h1 := fr.since b hb
    have h2 := hW2.keep.size
    refine ⟨fun hf => ?_, fun hu => ?_, by omega⟩
    · rcases hf with e | e
      · have := F2.pd.lt; omega
      · have := F2.pd.own.lt _ e; omega
    · have := F2.own.lt _ hu; omega
  refine go_call_is (gt := fun _ => Option.none) (unroll := false) 60 [] 38 [pT pp] [1, 2, 7, 8, 15, 18, 19, 20] [vx, vy, pT pp, u, vd, vl, .int .i64 (n : Int), .int .i64 (k : Int)] 164 [] [] (inR clC 33 1 (.inv (clR w vx vy pp vl n i))) [] [] (hW2.later fr.keep) (by kernel_rfl) trivial trivial ?_
  intro w4 hW4 hS4
  have F4 := F3.pass0 hS4 hW4
  have o4 := fr.own.same fun b hb => hS4.same b ⟨fr.own.lt b hb, fun _ h => nomatch h⟩
  refine (plen_any F4.pd).mono ?_
  rintro x w5 ⟨rfl, rfl⟩
  refine ⟨_, rfl, ?_⟩
  refine go_call_is (gt := fun _ => Option.none) (unroll := false) 60 [(33, 3, .sem (.int .i64 (bs.length : Int))), (33, 4, .is (.bool false))] 25 [vd, u] [1, 2, 7, 8, 15, 18, 19, 20, 168] [vx, vy, pT pp, u, vd, vl, .int .i64 (n : Int), .int .i64 (k : Int), .bool false] 171 [] [] (inR clC 33 8 (.inv (clR w vx vy pp vl n i))) [(.bool ((bs.length : Int) != (bs.length : Int)), .bool false)] [(Builtin.len_ #[22] 3 #[u], .int .i64 (bs.length : Int))] hW4 (by kernel_rfl) ⟨congrArg Value.bool (by simp), trivial⟩ ⟨fun wx _ => F4.own.rd.run_len (ty := 3) bt.sl, trivial⟩ ?_
  intro w6 hW6 hS6
  have F6 := F4.pass0 hS6 hW6
  have o6 := o4.same fun b hb => hS6.same b ⟨o4.lt b hb, fun _ h => nomatch h⟩
  refine (bequal_any o6.rd F6.own.rd).mono ?_
  rintro x w7 ⟨rfl, rfl⟩
  refine ⟨_, rfl, ?_⟩
  rw [show (bs == bs) = true by simp]
  refine go_stop (gt := fun _ => Option.none) (unroll := false) 60 [(35, 1, .sem (.int .i64 (bs.length : Int)))] [1, 2, 7, 8, 15, 18, 19, 20, 175, 176] [vx, vy, pT pp, u, vd, vl, .int .i64 (n : Int), .int .i64 (k : Int), .int .i64 (bs.length : Int), .int .i64 0] [] [] (atL clC 36 (.inv (clR w vx vy pp vl n i))) [] [(Builtin.len_ #[22] 3 #[vd], .int .i64 (bs.length : Int))] hW6 (by kernel_rfl) trivial ⟨fun wx _ => o6.rd.run_len (ty := 3) bt.sl, trivial⟩ ?_
  intro w8 hW8 hS8
  have key := loop_okT (P := Try.prog) (Q := bodyPost Try.prog Try.f7 (clQ w)) (n := clN) (x := cl2X) (k := cl2K (clR w vx vy pp vl n i)) (fun q : Cl2I => q.j) (cl2L (clR w vx vy pp vl n i) vx vy pp u vd vl n k bs.length) (Cl2J w pp sv u bs vd bs.length) (fun _ _ => by kernel_rfl) ?_ ⟨bs.length, bs⟩ w8
    ⟨Nat.le_refl _, hW8, F6.pass0 hS8 hW8, o6.same fun b hb => hS8.same b ⟨o6.lt b hb, fun _ h => nomatch h⟩, rfl⟩
  · unfold cl2L at key
    simp only at key
    rw [Nat.sub_self] at key
    exact key
  rintro ⟨q, cs⟩ w9 hJ
  cases q with
  | succ q => exact cl2_round (by omega) hvd ⟨q + 1, cs⟩ w9 hJ q rfl
  | zero =>
    obtain ⟨_, hW9, F9, _, _⟩ := hJ
    unfold cl2L
    simp only
    have hnext : n - j = k + 1 := by omega
    refine go_inv (gt := fun _ => Option.none) (unroll := false) 60 [(36, 0, .is (.bool false)), (40, 0, .is (.int .i64 ((k + 1 : Nat) : Int)))] [1, 2, 7, 8, 18, 19, 20] [vx, vy, pT pp, u, vl, .int .i64 (n : Int), .int .i64 ((k + 1 : Nat) : Int)] [] (clR w vx vy pp vl n i) [(.bool (decide (((bs.length - 0 : Nat) : Int) < (bs.length : Int))), .bool false), (.int .i64 (IntKind.i64.wrap ((k : Int) + 1)), .int .i64 ((k + 1 : Nat) : Int))] [] hW9 (by kernel_rfl)
      ⟨congrArg Value.bool (by simp), congrArg (Value.int .i64) (by rw [IntWalk.i64_in _ (by omega)]; omega), trivial⟩ trivial ?_
    intro w5 act hW5 hS5 hs
    refine ⟨⟨j, sv, u, bs⟩, by rw [hj]; exact Nat.lt_succ_self j, ⟨by show j ≤ n; omega, hW5, F9.pass0 hS5 hW5, by show bs.length ≤ 40 * (n - j); omega, by show n - j ≤ 60; omega⟩, ?_⟩
    unfold clL
    simp only
    rw [hnext]
    exact hs
end
end Go.Proofs.Ytpididcghilbjaa
