/-
  ether's carry behind a length, and carry whole. Condition: as for carry.
-/
import Derived.Test.YtcimfojbggckhaaDoorEtherTagsAllB
import Derived.Lib.ConvBytes
import Derived.Laws.Rows
import Derived.Lib.AppendZerosOnto
namespace Go.Proofs.YtcimfojbggckhaaDoor
open Go.RowKit

/-- Fresh bytes, within a region. -/
def frB (N : Nat) (l : List UInt8) : Sm := .such (fun g w x => Rd w x l ∧ Since N x ∧ ∀ b, x.ownBlock = some b → b < w.heap.size ∧ ¬ g.priv b)
  (fun g w g' w' x k h => ⟨h.1.keep k.keep (fun b hb => (h.2.2 b hb).2), h.2.1, fun b hb => ⟨Nat.lt_of_lt_of_le (h.2.2 b hb).1 k.keep.size, fun hp => by
    rcases k.priv b hp with h1 | h1
    · exact (h.2.2 b hb).2 h1
    · have := (h.2.2 b hb).1; omega⟩⟩)
structure Bd (N p : Nat) (w : World) (v : Value) (l : List UInt8) : Prop where
  rd : Rd w v l
  si : Since N v
  lt : Under w.heap.size v
  ne : v.ownBlock ≠ some p
theorem Bd.keep1 {N p : Nat} {w w' : World} {v : Value} {l : List UInt8} (h : Bd N p w v l) (k : Keep (One p) w w') : Bd N p w' v l := ⟨h.rd.keep k fun b hb e => h.ne (by rw [hb, show b = p from e]), h.si, h.lt.mono k.size, h.ne⟩
theorem Bd.keep0 {N p : Nat} {w w' : World} {v : Value} {l : List UInt8} (h : Bd N p w v l) (k : Keep No w w') : Bd N p w' v l := ⟨h.rd.keep0 k, h.si, h.lt.mono k.size, h.ne⟩
abbrev rowAt (p : Nat) (f : Fr) (w : World) : Prop := ∃ t, w.heap[p]? = some (.cells f.a.toList.toArray t (0, 0))
theorem rowAt.keep0 {p : Nat} {f : Fr} {w w' : World} (h : rowAt p f w) (k : Keep No w w') : rowAt p f w' := by
  obtain ⟨t, ht⟩ := h
  exact ⟨t, (k.block _ (block_of_row ht) (fun f => f)).trans ht⟩
def CaD (p : Nat) (f : Fr) (N : Nat) (lb lr : List UInt8) : Nat → Gh → World → Prop
  | 0, g, w => g.priv = One p ∧ rowAt p f w
  | 1, g, w => g.priv = One p ∧ ∃ vb, rowAt p { f with body := vb } w ∧ Bd N p w vb lb
  | _, g, w => g.priv = One p ∧ ∃ vb vr, rowAt p { f with body := vb, rest := vr } w ∧ Bd N p w vb lb ∧ Bd N p w vr lr
theorem CaD.keep {p : Nat} {f : Fr} {N : Nat} {lb lr : List UInt8} : ∀ (k : Nat) (g : Gh) (w w' : World), Keep No w w' → CaD p f N lb lr k g w → CaD p f N lb lr k g w'
  | 0, _, _, _, k, ⟨h1, h2⟩ => ⟨h1, h2.keep0 k⟩
  | 1, _, _, _, k, ⟨h1, vb, h2, h3⟩ => ⟨h1, vb, h2.keep0 k, h3.keep0 k⟩
  | _ + 2, _, _, _, k, ⟨h1, vb, vr, h2, h3, h4⟩ => ⟨h1, vb, vr, h2.keep0 k, h3.keep0 k, h4.keep0 k⟩
section
variable {P : Program} {W w0 : World} {p : Nat} {f : Fr} {N : Nat} {lb lr : List UInt8}
theorem tr_store {g : Gh} {w w' : World} (hp : g.priv = One p) (hb : Base (One p) w0 g w) (k : Keep (One p) w w') (_hs : w'.heap.size = w.heap.size) : Tr g w g w' ∧ Base (One p) w0 g w' :=
  ⟨⟨by rw [hp]; exact k, fun q h => .inl h, fun h => ⟨h, rfl⟩⟩, fun q h => ⟨Nat.lt_of_lt_of_le (hb q h).1 k.size, (hb q h).2⟩⟩
theorem ca_store1 (hKN : ∀ w, Keep (One p) w0 w → Keep No W w) (hp0 : W.heap.size ≤ p) {e ty : TypeId} {x y : Tmp}
    (hq : ∀ ao n c nx, gRun P (some 0) (Instr.storeAt e (.pointer (some ⟨p, 21, none⟩)) (.slice ao n c)) ⟨[⟨p, f.a.toList, true⟩], nx⟩ = some ((), ⟨[⟨p, ({ f with body := .slice ao n c } : Fr).a.toList, true⟩], nx⟩, [(p, p)])) :
    ActM P (One p) w0 (CaD p f N lb lr) 0 (.store e (.tmp x) (.tmp y)) ty [(x, .is (.pointer (some ⟨p, 21, none⟩))), (y, frB N lb)] (.is undef) := by
  intro a o g w ho _ hk hb hd hr
  obtain ⟨hp, t, hrow⟩ := hd
  have e1 : a.tmps.getD x undef = .pointer (some ⟨p, 21, none⟩) := hr (x, .is (.pointer (some ⟨p, 21, none⟩))) (by simp)
  obtain ⟨q1, q2, q3⟩ : Rd w (a.tmps.getD y undef) lb ∧ Since N (a.tmps.getD y undef) ∧ ∀ b, (a.tmps.getD y undef).ownBlock = some b → b < w.heap.size ∧ ¬ g.priv b := hr (y, frB N lb) (by simp)
  obtain ⟨ao, n, c, hv⟩ := q1.form
  rw [hv] at q1 q2 q3
  obtain ⟨w', t', hx, k1, hs, hrow'⟩ := store_step (W := W) (b := p) (off := 21) (V := .slice ao n c) ho e1 hv hrow (hKN w hk) hp0 _ (fun q hq => by obtain rfl := List.mem_singleton.1 hq; rfl) (hq ao n c)
  rw [hx]
  obtain ⟨z1, z2⟩ := tr_store hp hb k1 hs
  have hne : (Value.slice ao n c).ownBlock ≠ some p := fun h => (q3 p h).2 (by rw [hp]; rfl)
  exact ⟨g, z1, z2, ⟨hp, _, ⟨t', hrow'⟩, q1.keep k1 (fun b hb e => hne (by rw [hb, show b = p from e])), q2, fun b hb => by rw [hs]; exact (q3 b hb).1, hne⟩, rfl⟩
theorem ca_store2 (hKN : ∀ w, Keep (One p) w0 w → Keep No W w) (hp0 : W.heap.size ≤ p) {e ty : TypeId} {x y : Tmp}
    (hq : ∀ bo bn bc ao n c nx, gRun P (some 0) (Instr.storeAt e (.pointer (some ⟨p, 22, none⟩)) (.slice ao n c)) ⟨[⟨p, ({ f with body := .slice bo bn bc } : Fr).a.toList, true⟩], nx⟩ = some ((), ⟨[⟨p, ({ f with body := .slice bo bn bc, rest := .slice ao n c } : Fr).a.toList, true⟩], nx⟩, [(p, p)])) :
    ActM P (One p) w0 (CaD p f N lb lr) 1 (.store e (.tmp x) (.tmp y)) ty [(x, .is (.pointer (some ⟨p, 22, none⟩))), (y, frB N lr)] (.is undef) := by
  intro a o g w ho _ hk hb hd hr
  obtain ⟨hp, vb, ⟨t, hrow⟩, hvb⟩ := hd
  have e1 : a.tmps.getD x undef = .pointer (some ⟨p, 22, none⟩) := hr (x, .is (.pointer (some ⟨p, 22, none⟩))) (by simp)
  obtain ⟨q1, q2, q3⟩ : Rd w (a.tmps.getD y undef) lr ∧ Since N (a.tmps.getD y undef) ∧ ∀ b, (a.tmps.getD y undef).ownBlock = some b → b < w.heap.size ∧ ¬ g.priv b := hr (y, frB N lr) (by simp)
  obtain ⟨ao, n, c, hv⟩ := q1.form
  obtain ⟨bo, bn, bc, rfl⟩ := hvb.rd.form
  rw [hv] at q1 q2 q3
  obtain ⟨w', t', hx, k1, hs, hrow'⟩ := store_step (W := W) (b := p) (off := 22) (V := .slice ao n c) ho e1 hv hrow (hKN w hk) hp0 _ (fun q hq => by obtain rfl := List.mem_singleton.1 hq; rfl) (hq bo bn bc ao n c)
  rw [hx]
  obtain ⟨z1, z2⟩ := tr_store hp hb k1 hs
  have hne : (Value.slice ao n c).ownBlock ≠ some p := fun h => (q3 p h).2 (by rw [hp]; rfl)
  exact ⟨g, z1, z2, ⟨hp, _, _, ⟨t', hrow'⟩, hvb.keep1 k1, q1.keep k1 (fun b hb e => hne (by rw [hb, show b = p from e])), q2, fun b hb => by rw [hs]; exact (q3 b hb).1, hne⟩, rfl⟩
/-- Stores of what is known. -/
theorem act_storeO {S : Nat → Prop} {bs : Nat → List (Nat × List Value)} {off r : Nat} {cs0 cs1 : List Value} {e ty : TypeId} {x : Tmp} {y : Operand} {V : Value} {reads : List (Tmp × Sm)} (hKN : ∀ w, Keep (One p) w0 w → Keep No W w) (hp0 : W.heap.size ≤ p) (hS : S = One p) (hm : bs r = [(p, cs0)]) (hn : bs (r + 1) = [(p, cs1)])
    (hx : (x, .is (.pointer (some ⟨p, off, none⟩))) ∈ reads) (hy : ∀ (a : Act) g w, (∀ q ∈ reads, q.2.ok g w (a.tmps.getD q.1 undef)) → a.eval y = V) (l : List (Nat × Nat)) (hl : ∀ q ∈ l, q.1 = q.2)
    (hq : ∀ nx, gRun P (some 0) (Instr.storeAt e (.pointer (some ⟨p, off, none⟩)) V) ⟨[⟨p, cs0, true⟩], nx⟩ = some ((), ⟨[⟨p, cs1, true⟩], nx⟩, l)) :
    ActM P (One p) w0 (RowsK S bs) r (.store e (.tmp x) y) ty reads (.is undef) := by
  subst hS
  intro a o g w ho _ hk hb hd hr
  obtain ⟨hp, hrows⟩ := hd
  obtain ⟨t, hrow⟩ := hrows (p, cs0) (by rw [hm]; simp)
  obtain ⟨w', t', he, k1, hs, hrow'⟩ := store_step (W := W) (b := p) (off := off) (V := V) ho (hr _ hx) (hy a g w hr) hrow (hKN w hk) hp0 l hl hq
  rw [he]
  obtain ⟨z1, z2⟩ := tr_store hp hb k1 hs
  exact ⟨g, z1, z2, ⟨hp, fun q hq => by rw [hn] at hq; obtain rfl := List.mem_singleton.1 hq; exact ⟨t', hrow'⟩⟩, rfl⟩
end
theorem run_neq_a3 (w : World) (a b : List UInt8) : (binOp .neq 25 (a3 a) (a3 b)).run Tryd.prog w = .ok (.bool (!(byteAt a 0 == byteAt b 0 && (byteAt a 1 == byteAt b 1 && byteAt a 2 == byteAt b 2)))) w := by
  rw [run_neq_struct, eq_a3]
  rfl
section
variable {W w : World} {p n : Nat} {dst src : List UInt8} {tg v : Value} {cs : List UInt8}
theorem a3_of {w1 : World} {u : Value} {l : List UInt8} (r : Rd w1 u l) (h : 3 ≤ l.length) : (Instr.loadAt 25 (.pointer (some (adr u 0)))).run Tryd.prog w1 = .ok (a3 l) w1 :=
  r.sem_ldn Tryd.underlying25 (by kernel_rfl) h
set_option maxRecDepth 8000 in
theorem carry_len (hp : W.heap.size ≤ p) (hW : Wst W ⟨caRow p (cf0 dst src tg), w.heap.size⟩ w) (r : HdB (caRow p (cf0 dst src tg)) w v cs) (hl : cs.length ≤ 1099511627776) (hs : Sh w) (hp1 : p ≠ 1) (h0 : n ≤ 1500) (h1 : n ≤ cs.length) (h3 : 3 ≤ n) :
    Calls Tryd.prog 51 #[pT p, .int .i64 (n : Int), v] w (caQ W w p dst src tg n cs) := by
  refine enter (args := [pT p, .int .i64 (n : Int), v]) Tryd.func51 (by kernel_rfl) ?_
  refine Goal.re (tags := tagL [(0, 0)]) (m := ⟨caRow p (cf0 dst src tg), w.heap.size⟩) ?_
  have sb : ∀ wx : World, (Builtin.len_ #[26] 3 #[v]).run Tryd.prog wx = .ok (.int .i64 (cs.length : Int)) wx := fun wx => r.rd.run_len (ty := 3) bt.sl
  have cut3 : ∀ {wx : World}, Rd wx v cs → Rd wx (cutv v 0 3) (cs.take 3) := fun rx => by
    have := rx.cut (l := 0) (h := 3) (by omega) (by omega)
    simpa using this
  have l3 : (cs.take 3).length = 3 := by simp; omega
  refine go_stop (gt := fun _ => Option.none) (unroll := false) 100 [(1, 1, .is (.bool false)), (4, 1, .is (.bool false)), (6, 2, .sem (.int .i64 (cs.length : Int))), (6, 3, .is (.bool false)), (8, 1, .is (.bool false)), (10, 3, .sem (cutv v 0 3)), (10, 4, .sem (.pointer (some (adr (cutv v 0 3) 0)))), (10, 5, .sem (a3 (cs.take 3)))] [0, 1, 2] [pT p, .int .i64 (n : Int), v] (caRow p ⟨dst, src, tg, 2, 0, cs.take 3, [], nilV, nilV⟩) [(0, 0)] (atR caC 11)
    [(.bool (decide ((n : Int) ≥ 1536)), .bool false), (.bool (decide ((n : Int) > 1500)), .bool false), (.bool (decide ((n : Int) > (cs.length : Int))), .bool false), (.bool (decide ((n : Int) < 3)), .bool false)]
    [(Builtin.len_ #[26] 3 #[v], .int .i64 (cs.length : Int)), (Instr.sliceAt 26 v Option.none (some (.int .i64 3)) Option.none, cutv v 0 3), (Instr.arrayAt 25 (cutv v 0 3), .pointer (some (adr (cutv v 0 3) 0))), (Instr.loadAt 25 (.pointer (some (adr (cutv v 0 3) 0))), a3 (cs.take 3))]
    hW (by kernel_rfl) ⟨congrArg Value.bool (by simp; omega), congrArg Value.bool (by simp; omega), congrArg Value.bool (by simp; omega), congrArg Value.bool (by simp; omega), trivial⟩
    ⟨fun wx _ => sb wx, fun wx _ => r.rd.sem_cutH (k := 3) (by omega) wx, fun wx _ => (cut3 r.rd).sem_arr Tryd.underlying25 (by omega) (by omega) wx, fun wx hx => a3_of (cut3 (r.hx hx)) (by omega), trivial⟩ ?_
  intro w1 hW1 hS1
  have k1 := keep_row hW hW1 hS1
  have rd1 := r.keep1 k1
  have hs1 : Sh w1 := fun i hi => k1.cell (hs i hi) (fun e => hp1 (Eq.symm e))
  have hrow1 : rowAt p ⟨dst, src, tg, 2, 0, cs.take 3, [], nilV, nilV⟩ w1 := hW1.rows _ (List.mem_singleton.2 rfl)
  have hW1' : Wst W ⟨[], w1.heap.size⟩ w1 := hW1.fewer (rows := [])
  have hKN : ∀ wx, Keep (One p) w1 wx → Keep No W wx := fun wx k => hW1.keep.trans' k (fun i hi h => by rw [show i = p from h] at hi; omega)
  have hvp : ∀ b, v.ownBlock = some b → ¬ One p b := fun b hb e => r.ap b hb ⟨p, (cf0 dst src tg).a.toList, true⟩ (by simp) (show p = b from Eq.symm e)
  have rdx : ∀ wx, Keep (One p) w1 wx → Rd wx v cs := fun wx k => rd1.keep k hvp
  have cutb : ∀ {wx : World}, Rd wx v cs → Rd wx (cutv v 3 n) ((cs.take n).drop 3) := fun rx => by
    have := rx.cut (l := 3) (h := n) (by omega) (by omega)
    rwa [← List.drop_take] at this
  have cutr : ∀ {wx : World}, Rd wx v cs → Rd wx (cutv v n cs.length) (cs.drop n) := fun rx => by
    have := rx.cut (l := n) (h := cs.length) (by omega) (by omega)
    rwa [List.take_of_length_le (by simp)] at this
  have lbl : ((cs.take n).drop 3).length = n - 3 := by simp; omega
  have hclone : ∀ (u : Value) (l : List UInt8), l.length ≤ 1099511627776 → (∀ wx, Keep (One p) w1 wx → Rd wx u l) → CallM Tryd.prog (One p) w1 48 [.is u] (frB w.heap.size l) := fun u l hll hu g wx vals k hbase hv => by
    match vals, hv with
    | [x], hx =>
      obtain rfl : x = _ := hx.1
      refine (sclone_any _ _ _ (hu wx k) (by omega)).mono ?_
      rintro e w9 ⟨y, rfl, fr, _⟩
      have hsz : w.heap.size ≤ wx.heap.size := Nat.le_trans k1.size k.size
      exact ⟨y, rfl, fr.keep, fr.rd, fr.since.mono hsz, fun b hb => ⟨fr.own.lt b hb, fun hp' => by have := (hbase b hp').1; have := fr.since b hb; omega⟩⟩
  refine Goal.re (tags := tagL []) (m := ⟨[], w1.heap.size⟩) ?_
  refine drawnM_ok (S0 := One p) (gt := fun _ => Option.none) (D := CaD p ⟨dst, src, tg, 2, 0, cs.take 3, [], nilV, nilV⟩ w.heap.size ((cs.take n).drop 3) (cs.drop n)) (g0 := ⟨False, undef, One p⟩)
    [(4, .sem (cutv v 3 n)), (5, .call (frB w.heap.size ((cs.take n).drop 3))), (8, .sem (cutv v n cs.length)), (9, .call (frB w.heap.size (cs.drop n))), (12, .act (.is undef)), (15, .act (.is undef))]
    [0, 1] [.is (pT p), .is (.int .i64 (n : Int))]
    (True ∧ True ∧ True ∧ True ∧ SemM Tryd.prog (One p) w1 (Instr.sliceAt 26 v (some (.int .i64 3)) (some (.int .i64 (n : Int))) Option.none) (cutv v 3 n) ∧ CallM Tryd.prog (One p) w1 48 [.is (cutv v 3 n)] (frB w.heap.size ((cs.take n).drop 3)) ∧ True ∧ True ∧
      SemM Tryd.prog (One p) w1 (Instr.sliceAt 26 v (some (.int .i64 (n : Int))) Option.none Option.none) (cutv v n cs.length) ∧ CallM Tryd.prog (One p) w1 48 [.is (cutv v n cs.length)] (frB w.heap.size (cs.drop n)) ∧ True ∧ True ∧
      ActM Tryd.prog (One p) w1 (CaD p ⟨dst, src, tg, 2, 0, cs.take 3, [], nilV, nilV⟩ w.heap.size ((cs.take n).drop 3) (cs.drop n)) 0 (.store 26 (.tmp 54) (.tmp 48)) 0 [(54, .is (.pointer (some ⟨p, 21, none⟩))), (48, frB w.heap.size ((cs.take n).drop 3))] (.is undef) ∧ True ∧ True ∧
      ActM Tryd.prog (One p) w1 (CaD p ⟨dst, src, tg, 2, 0, cs.take 3, [], nilV, nilV⟩ w.heap.size ((cs.take n).drop 3) (cs.drop n)) 1 (.store 26 (.tmp 56) (.tmp 52)) 0 [(56, .is (.pointer (some ⟨p, 22, none⟩))), (52, frB w.heap.size (cs.drop n))] (.is undef) ∧ True)
    2 (afterR caC 11) hW1' (fun q hq => ⟨by rw [show q = p from hq]; exact hp, fun _ h => nomatch h⟩) (by kernel_rfl) (by kernel_rfl) (by kernel_rfl) CaD.keep (fun k h => ⟨by rw [show k = p from h]; obtain ⟨t, ht⟩ := hrow1; exact block_of_row ht, fun _ => h⟩) ⟨rfl, hrow1⟩
    ⟨trivial, trivial, trivial, trivial, fun wx _ => rd1.sem_cut (k := 3) (h := n) h3 h1 wx, hclone _ _ (by omega) (fun wx k => cutb (rdx wx k)), trivial, trivial, fun wx _ => rd1.sem_cutL h1 wx, hclone _ _ (by simp; omega) (fun wx k => cutr (rdx wx k)), trivial, trivial,
      ca_store1 hKN hp (fun ao n c nx => by kernel_rfl), trivial, trivial, ca_store2 hKN hp (fun bo bn bc ao n c nx => by kernel_rfl), trivial⟩ ?_
  intro g w2 vs k2 _ hd hok
  obtain rfl := allOkM_is (vs := [pT p, .int .i64 (n : Int)]) hok
  obtain ⟨_, vb, vr, ⟨t2, hrow2⟩, bb, br⟩ := hd
  have hs2 : Sh w2 := fun i hi => k2.cell (hs1 i hi) (fun e => hp1 (Eq.symm e))
  obtain ⟨bo, bn', bc, rfl⟩ := bb.rd.form
  obtain ⟨ro, rn, rc, rfl⟩ := br.rd.form
  have hW2 : Wst W ⟨[] ++ caRow p ⟨dst, src, tg, 2, 0, cs.take 3, [], .slice bo bn' bc, .slice ro rn rc⟩, w2.heap.size⟩ w2 := (hW1'.laterS k2 (fun q hq => ⟨by rw [show q = p from hq]; exact hp, fun _ h => nomatch h⟩)).addRow hrow2 hp (fun _ h => nomatch h)
  refine Goal.re (tags := tagL [(0, 0)]) (m := ⟨caRow p ⟨dst, src, tg, 2, 0, cs.take 3, [], .slice bo bn' bc, .slice ro rn rc⟩, w2.heap.size⟩) ?_
  have hsap : isSap (cs.take 3) = (byteAt (cs.take 3) 0 == byteAt sapL 0 && (byteAt (cs.take 3) 1 == byteAt sapL 1 && byteAt (cs.take 3) 2 == byteAt sapL 2)) := rfl
  have k12 : Keep (One p) w w2 := k1.trans k2
  refine go_stop (gt := fun _ => Option.none) (unroll := false) 60 [] [0, 1] [pT p, .int .i64 (n : Int)] (caRow p ⟨dst, src, tg, 2, 0, cs.take 3, [], .slice bo bn' bc, .slice ro rn rc⟩) [(0, 0)] (atR caC 12) [] [] hW2 (by kernel_rfl) trivial trivial ?_
  intro w3 hW3 hS3
  have k3 : Keep (One p) w w3 := k12.trans (keep_row hW2 hW3 hS3)
  have k23 := keep_row hW2 hW3 hS3
  have bb := bb.keep1 k23
  have br := br.keep1 k23
  have hs3 : Sh w3 := fun i hi => k23.cell (hs2 i hi) (fun e => hp1 (Eq.symm e))
  refine drawn_ok (gt := fun _ => Option.none) [(4, .sem (a3 sapL)), (5, .bin (.bool (!isSap (cs.take 3))))] [62, 0, 1] [.is (.bool (!isSap (cs.take 3))), .is (pT p), .is (.int .i64 (n : Int))] [] [] [(.neq, 25, a3 (cs.take 3), a3 sapL, .bool (!isSap (cs.take 3)))] []
    [(Instr.loadAt 25 (.pointer (some ⟨1, 0, none⟩)), a3 sapL)] hW3 (by kernel_rfl) (by kernel_rfl) trivial trivial ⟨fun wx _ => by rw [hsap]; exact run_neq_a3 wx (cs.take 3) sapL, trivial⟩ trivial ⟨fun wx k => (hs3.keep0 k).sem_ld, trivial⟩ ?_
  intro w4 vs k4 hok
  obtain rfl := allOk_is (vs := [.bool (!isSap (cs.take 3)), pT p, .int .i64 (n : Int)]) hok
  have hW4 := hW3.later k4
  have bb := bb.keep0 k4
  have br := br.keep0 k4
  have k4' : Keep (One p) w w4 := k3.trans k4.no
  have ec : carryR n cs = if isSap (cs.take 3) = false then ⟨0, 2, 0, cs.take 3, [], (cs.take n).drop 3, cs.drop n⟩ else if n < 8 then ⟨5, 0, 0, [], [], [], []⟩ else ⟨0, 3, be ((cs.drop 6).take 2), cs.take 3, (cs.drop 3).take 3, (cs.take n).drop 8, cs.drop n⟩ := by
    rw [carryR, if_neg (by omega), if_neg (by omega), if_neg (by omega), if_neg (by omega)]
  have hsafe : ∀ {u : Value} {l : List UInt8} {wx : World} {f : Fr}, Bd w.heap.size p wx u l → ∀ b, u.ownBlock = some b → Safe ⟨caRow p f, wx.heap.size⟩ b := fun h b hb => ⟨h.lt b hb, fun q hq _ e => by obtain rfl := List.mem_singleton.1 hq; exact h.ne (by rw [hb]; exact congrArg some e.symm)⟩
  cases hb : isSap (cs.take 3) with
  | false =>
    rw [hb, if_pos rfl] at ec
    refine go_retM (gt := fun _ => Option.none) (unroll := false) 60 [] [.tmp 6] (.int .i64 0) (caRow p ⟨dst, src, tg, 2, 0, cs.take 3, [], .slice bo bn' bc, .slice ro rn rc⟩) [] [] hW4 Tryd.results51 (by kernel_rfl) (by kernel_rfl) trivial trivial ?_
    intro w5 hW5 hS5
    refine ⟨by rw [ec]; rfl, _, hW5, k4'.trans (keep_row hW4 hW5 hS5), fun _ => ?_⟩
    rw [ec]
    exact ⟨rfl, rfl, rfl, rfl, rfl, fun _ => rfl, fun _ => rfl, bb.rd.safe (hsafe bb) hS5.same, br.rd.safe (hsafe br) hS5.same, bb.si, br.si, bb.lt.mono hS5.le, br.lt.mono hS5.le⟩
  | true =>
    rw [hb, if_neg (by simp)] at ec
    by_cases h8 : n < 8
    · rw [if_pos h8] at ec
      refine go_retM (gt := fun _ => Option.none) (unroll := false) 60 [(14, 1, .is (.bool true))] [.tmp 6] (.int .i64 5) (caRow p ⟨dst, src, tg, 2, 0, cs.take 3, [], .slice bo bn' bc, .slice ro rn rc⟩) [(.bool (decide ((n : Int) < 8)), .bool true)] [] hW4 Tryd.results51 (by kernel_rfl) (by kernel_rfl) ⟨congrArg Value.bool (by simp; omega), trivial⟩ trivial ?_
      intro w5 hW5 hS5
      exact ca_fail (e := 5) (by rw [ec]) (by omega) hW5 (k4'.trans (keep_row hW4 hW5 hS5))
    rw [if_neg h8] at ec
    refine go_stop (gt := fun _ => Option.none) (unroll := false) 60 [(14, 1, .is (.bool false))] [0] [pT p] (caRow p ⟨dst, src, tg, 2, 0, cs.take 3, [], .slice bo bn' bc, .slice ro rn rc⟩) [(0, 0)] (atR caC 16) [(.bool (decide ((n : Int) < 8)), .bool false)] [] hW4 (by kernel_rfl) ⟨congrArg Value.bool (by simp; omega), trivial⟩ trivial ?_
    intro w5 hW5 hS5
    have k45 := keep_row hW4 hW5 hS5
    have bb := bb.keep1 k45
    have br := br.keep1 k45
    have k5 : Keep (One p) w w5 := k4'.trans k45
    have hKN5 : ∀ wx, Keep (One p) w5 wx → Keep No W wx := fun wx k => hW5.keep.trans' k (fun i hi h => by rw [show i = p from h] at hi; omega)
    have hrow5 := hW5.rows _ (List.mem_singleton.2 rfl)
    have hW5' : Wst W ⟨[], w5.heap.size⟩ w5 := hW5.fewer (rows := [])
    have rbx : ∀ wx, Keep (One p) w5 wx → Rd wx (.slice bo bn' bc) ((cs.take n).drop 3) := fun wx k => (bb.keep1 k).rd
    generalize hlb : (cs.take n).drop 3 = lb at *
    have c3 : ∀ {wx : World}, Rd wx (.slice bo bn' bc) lb → Rd wx (cutv (.slice bo bn' bc) 0 3) (lb.take 3) := fun rx => by
      have := rx.cut (l := 0) (h := 3) (by omega) (by omega)
      simpa using this
    have c3l : (lb.take 3).length = 3 := by simp; omega
    have cL : ∀ {wx : World} {q : Nat}, q ≤ lb.length → Rd wx (.slice bo bn' bc) lb → Rd wx (cutv (.slice bo bn' bc) q lb.length) (lb.drop q) := fun hq rx => by
      have := rx.cut (h := lb.length) hq (Nat.le_refl _)
      rwa [List.take_of_length_le (by simp)] at this
    have ety : be ((lb.drop 3).take 2) = be ((cs.drop 6).take 2) := by
      rw [← hlb, List.drop_drop, List.drop_take, List.take_take, Nat.min_eq_left (by omega)]
    have eou : lb.take 3 = (cs.drop 3).take 3 := by
      rw [← hlb, List.drop_take, List.take_take, Nat.min_eq_left (by omega)]
    have ebo : lb.drop 5 = (cs.take n).drop 8 := by rw [← hlb, List.drop_drop]
    obtain ⟨xo, xn, xc, hx5⟩ := (cL (q := 5) (by omega) bb.rd).form
    let bs : Nat → List (Nat × List Value) := (fun k => match k with | 0 => [(p, (⟨dst, src, tg, 2, 0, cs.take 3, [], (.slice bo bn' bc), .slice ro rn rc⟩ : Fr).a.toList)] | 1 => [(p, (⟨dst, src, tg, 3, 0, cs.take 3, [], (.slice bo bn' bc), .slice ro rn rc⟩ : Fr).a.toList)] | 2 => [(p, (⟨dst, src, tg, 3, 0, cs.take 3, lb.take 3, (.slice bo bn' bc), .slice ro rn rc⟩ : Fr).a.toList)] | 3 => [(p, (⟨dst, src, tg, 3, (be ((cs.drop 6).take 2) : Nat), cs.take 3, lb.take 3, (.slice bo bn' bc), .slice ro rn rc⟩ : Fr).a.toList)] | _ => [(p, (⟨dst, src, tg, 3, (be ((cs.drop 6).take 2) : Nat), cs.take 3, lb.take 3, (.slice xo xn xc), .slice ro rn rc⟩ : Fr).a.toList)])
    refine Goal.re (tags := tagL []) (m := ⟨[], w5.heap.size⟩) ?_
    refine drawnM_ok (S0 := One p) (gt := fun _ => Option.none) (D := RowsK (One p) bs) (g0 := ⟨False, undef, One p⟩)
      [(7, .early (.is (.slice bo bn' bc))), (8, .sem (cutv (.slice bo bn' bc) 0 3)), (9, .sem (.pointer (some (adr (cutv (.slice bo bn' bc) 0 3) 0)))), (10, .sem (a3 (lb.take 3))), (14, .early (.is (.slice bo bn' bc))), (15, .sem (cutv (.slice bo bn' bc) 3 lb.length)), (16, .call (.is (.int .i64 (be ((cs.drop 6).take 2) : Nat)))), (20, .early (.is (.slice bo bn' bc))), (21, .sem (.slice xo xn xc)), (24, .act (.is undef)), (27, .act (.is undef)), (30, .act (.is undef)), (33, .act (.is undef))]
      [0] [.is (pT p)]
      (True ∧ True ∧ True ∧ True ∧ True ∧ True ∧ True ∧ EarlyM Tryd.prog (One p) w5 (RowsK (One p) bs) (.load 26 (.tmp 71)) 26 [(71, .is (.pointer (some ⟨p, 21, none⟩)))] (.is (.slice bo bn' bc)) ∧ SemM Tryd.prog (One p) w5 (Instr.sliceAt 26 (.slice bo bn' bc) Option.none (some (.int .i64 3)) Option.none) (cutv (.slice bo bn' bc) 0 3) ∧ SemM Tryd.prog (One p) w5 (Instr.arrayAt 25 (cutv (.slice bo bn' bc) 0 3)) (.pointer (some (adr (cutv (.slice bo bn' bc) 0 3) 0))) ∧ SemM Tryd.prog (One p) w5 (Instr.loadAt 25 (.pointer (some (adr (cutv (.slice bo bn' bc) 0 3) 0)))) (a3 (lb.take 3)) ∧ True ∧ True ∧ True ∧ EarlyM Tryd.prog (One p) w5 (RowsK (One p) bs) (.load 26 (.tmp 78)) 26 [(78, .is (.pointer (some ⟨p, 21, none⟩)))] (.is (.slice bo bn' bc)) ∧ SemM Tryd.prog (One p) w5 (Instr.sliceAt 26 (.slice bo bn' bc) (some (.int .i64 3)) Option.none Option.none) (cutv (.slice bo bn' bc) 3 lb.length) ∧ CallM Tryd.prog (One p) w5 52 [.is (cutv (.slice bo bn' bc) 3 lb.length)] (.is (.int .i64 (be ((cs.drop 6).take 2) : Nat))) ∧ True ∧ True ∧ True ∧ EarlyM Tryd.prog (One p) w5 (RowsK (One p) bs) (.load 26 (.tmp 84)) 26 [(84, .is (.pointer (some ⟨p, 21, none⟩)))] (.is (.slice bo bn' bc)) ∧ SemM Tryd.prog (One p) w5 (Instr.sliceAt 26 (.slice bo bn' bc) (some (.int .i64 5)) Option.none Option.none) (.slice xo xn xc) ∧ True ∧ True ∧ ActM Tryd.prog (One p) w5 (RowsK (One p) bs) 0 (.store 3 (.tmp 88) (.const (.int .i64 3))) 0 [(88, .is (.pointer (some ⟨p, 13, none⟩)))] (.is undef) ∧ True ∧ True ∧ ActM Tryd.prog (One p) w5 (RowsK (One p) bs) 1 (.store 25 (.tmp 90) (.tmp 75)) 0 [(90, .is (.pointer (some ⟨p, 18, none⟩))), (75, .is (a3 (lb.take 3)))] (.is undef) ∧ True ∧ True ∧ ActM Tryd.prog (One p) w5 (RowsK (One p) bs) 2 (.store 3 (.tmp 92) (.tmp 81)) 0 [(92, .is (.pointer (some ⟨p, 14, none⟩))), (81, .is (.int .i64 (be ((cs.drop 6).take 2) : Nat)))] (.is undef) ∧ True ∧ True ∧ ActM Tryd.prog (One p) w5 (RowsK (One p) bs) 3 (.store 26 (.tmp 94) (.tmp 86)) 0 [(94, .is (.pointer (some ⟨p, 21, none⟩))), (86, .is (.slice xo xn xc))] (.is undef) ∧ True)
      4 (afterR caC 16) hW5' (fun q hq => ⟨by rw [show q = p from hq]; exact hp, fun _ h => nomatch h⟩) (by kernel_rfl) (by kernel_rfl) (by kernel_rfl) RowsK.keep (fun k h => ⟨by rw [show k = p from h]; obtain ⟨t, ht⟩ := hrow5; exact block_of_row ht, fun _ => h⟩) ⟨rfl, fun q hq => by obtain rfl := List.mem_singleton.1 hq; exact hrow5⟩
      ⟨trivial, trivial, trivial, trivial, trivial, trivial, trivial, early_loadO (fun g w h => h.2 (p, (⟨dst, src, tg, 2, 0, cs.take 3, [], (.slice bo bn' bc), .slice ro rn rc⟩ : Fr).a.toList) (by simp [bs])) [(p, p)] (fun q hq => by obtain rfl := List.mem_singleton.1 hq; rfl) (fun nx => by kernel_rfl), fun wx _ => bb.rd.sem_cutH (k := 3) (by omega) wx, fun wx k => (c3 (rbx wx k)).sem_arr Tryd.underlying25 (by omega) (by omega) wx, fun wx k => a3_of (c3 (rbx wx k)) (by omega), trivial, trivial, trivial, early_loadO (fun g w h => h.2 (p, (⟨dst, src, tg, 2, 0, cs.take 3, [], (.slice bo bn' bc), .slice ro rn rc⟩ : Fr).a.toList) (by simp [bs])) [(p, p)] (fun q hq => by obtain rfl := List.mem_singleton.1 hq; rfl) (fun nx => by kernel_rfl), fun wx _ => bb.rd.sem_cutL (k := 3) (by omega) wx, ?_, trivial, trivial, trivial, early_loadO (fun g w h => h.2 (p, (⟨dst, src, tg, 2, 0, cs.take 3, [], (.slice bo bn' bc), .slice ro rn rc⟩ : Fr).a.toList) (by simp [bs])) [(p, p)] (fun q hq => by obtain rfl := List.mem_singleton.1 hq; rfl) (fun nx => by kernel_rfl), fun wx _ => by rw [← hx5]; exact bb.rd.sem_cutL (k := 5) (by omega) wx, trivial, trivial, act_storeO (off := 13) hKN5 hp rfl rfl rfl (by simp) (fun a g w h => rfl) (List.replicate 1 (p, p)) (fun q hq => by rw [List.eq_of_mem_replicate hq]) (fun nx => by kernel_rfl), trivial, trivial, act_storeO (off := 18) hKN5 hp rfl rfl rfl (by simp) (fun a g w h => h (75, .is (a3 (lb.take 3))) (by simp)) (List.replicate 3 (p, p)) (fun q hq => by rw [List.eq_of_mem_replicate hq]) (fun nx => by kernel_rfl), trivial, trivial, act_storeO (off := 14) hKN5 hp rfl rfl rfl (by simp) (fun a g w h => h (81, .is (.int .i64 (be ((cs.drop 6).take 2) : Nat))) (by simp)) (List.replicate 1 (p, p)) (fun q hq => by rw [List.eq_of_mem_replicate hq]) (fun nx => by kernel_rfl), trivial, trivial, act_storeO (off := 21) hKN5 hp rfl rfl rfl (by simp) (fun a g w h => h (86, .is (.slice xo xn xc)) (by simp)) (List.replicate 1 (p, p)) (fun q hq => by rw [List.eq_of_mem_replicate hq]) (fun nx => by kernel_rfl), trivial⟩ ?_
    · intro g wx vals k hbase hv
      match vals, hv with
      | [x], hx =>
        obtain rfl : x = _ := hx.1
        refine (word_of (cL (q := 3) (by omega) (rbx wx k)) (by simp; omega)).mono ?_
        rintro e w9 ⟨rfl, k9⟩
        exact ⟨_, rfl, k9, by rw [ety]; rfl⟩
    intro g w6 vs k6 _ hd hok
    obtain rfl := allOkM_is (vs := [pT p]) hok
    obtain ⟨t6, hrow6⟩ := hd.2 (p, (⟨dst, src, tg, 3, (be ((cs.drop 6).take 2) : Nat), cs.take 3, lb.take 3, (.slice xo xn xc), .slice ro rn rc⟩ : Fr).a.toList) (by simp [bs])
    have bb := bb.keep1 k6
    have br := br.keep1 k6
    have k06 : Keep (One p) w w6 := k5.trans k6
    have hW6 : Wst W ⟨[] ++ caRow p (⟨dst, src, tg, 3, (be ((cs.drop 6).take 2) : Nat), cs.take 3, lb.take 3, (.slice xo xn xc), .slice ro rn rc⟩ : Fr), w6.heap.size⟩ w6 := (hW5'.laterS k6 (fun q hq => ⟨by rw [show q = p from hq]; exact hp, fun _ h => nomatch h⟩)).addRow hrow6 hp (fun _ h => nomatch h)
    refine Goal.re (tags := tagL [(0, 0)]) (m := ⟨caRow p (⟨dst, src, tg, 3, (be ((cs.drop 6).take 2) : Nat), cs.take 3, lb.take 3, (.slice xo xn xc), .slice ro rn rc⟩ : Fr), w6.heap.size⟩) ?_
    refine go_retM (gt := fun _ => Option.none) (unroll := false) 60 [] [.tmp 6] (.int .i64 0) (caRow p (⟨dst, src, tg, 3, (be ((cs.drop 6).take 2) : Nat), cs.take 3, lb.take 3, (.slice xo xn xc), .slice ro rn rc⟩ : Fr)) [] [] hW6 Tryd.results51 (by kernel_rfl) (by kernel_rfl) trivial trivial ?_
    intro w7 hW7 hS7
    refine ⟨by rw [ec]; rfl, _, hW7, k06.trans (keep_row hW6 hW7 hS7), fun _ => ?_⟩
    rw [ec]
    have b5 : Bd w.heap.size p w6 (.slice xo xn xc) (lb.drop 5) := by
      rw [← hx5]
      exact ⟨cL (q := 5) (by omega) bb.rd, fun b hb => bb.si b (by rw [← ownBlock_cutv]; exact hb), fun b hb => bb.lt b (by rw [← ownBlock_cutv]; exact hb), fun hb => bb.ne (by rw [← ownBlock_cutv]; exact hb)⟩
    rw [ebo] at b5
    exact ⟨rfl, rfl, rfl, rfl, rfl, fun _ => rfl, fun i => by show byteAt (lb.take 3) i = _; rw [eou], b5.rd.safe (hsafe b5) hS7.same, br.rd.safe (hsafe br) hS7.same, b5.si, br.si, b5.lt.mono hS7.le, br.lt.mono hS7.le⟩
/-- carry. -/
theorem carry_any (hp : W.heap.size ≤ p) (hW : Wst W ⟨caRow p (cf0 dst src tg), w.heap.size⟩ w) (r : HdB (caRow p (cf0 dst src tg)) w v cs) (hl : cs.length ≤ 1099511627776) (hs : Sh w) (hp1 : p ≠ 1) :
    Calls Tryd.prog 51 #[pT p, .int .i64 (n : Int), v] w (caQ W w p dst src tg n cs) := by
  by_cases h : 1536 ≤ n
  · exact carry_two hW r hl h
  by_cases hn : 1500 < n ∨ cs.length < n ∨ n < 3
  · exact carry_no hW r (by omega) hn
  · exact carry_len hp hW r hl hs hp1 (by omega) (by omega) (by omega)
end
end Go.Proofs.YtcimfojbggckhaaDoor
namespace Go.Proofs.YtcimfojbggckhaaDoor
open Go.RowKit

noncomputable abbrev eofC : Code := bodyOf Tryd.f14
noncomputable abbrev eofN : Nat := Tryd.f14.ntmps
abbrev eofQ (w : World) (F : Fr) (l : List Tg) : Ending → World → Prop := fun x w' => ∃ uo un uc, x = .returned (.agg ({ F with tags := .slice uo un uc } : Fr).a) ∧ Rt w' (.slice uo un uc) l ∧ Keep No w w' ∧ Since w.heap.size (.slice uo un uc) ∧ Under w'.heap.size (.slice uo un uc)
structure EOfI where
  j : Nat
  uo : Option Addr
  un : Nat
  uc : Nat
abbrev EOfI.u (i : EOfI) : Value := .slice i.uo i.un i.uc
abbrev eofRows (w : World) (F : Fr) : List RowS := [⟨w.heap.size, F.a.toList, true⟩, ⟨w.heap.size + 1, fr0.a.toList, true⟩]
noncomputable def eofL (w : World) (F : Fr) (n : Nat) (i : EOfI) (w' : World) : Cfg := ⟨frOf [1, 2, 3, 4] [pT w.heap.size, pT (w.heap.size + 1), pT (w.heap.size + 2), .int .i64 ((n - i.j : Nat) : Int)], tagL [(1, 0), (2, 1), (3, 2)], ⟨eofRows w F ++ [⟨w.heap.size + 2, ({ F with tags := .slice i.uo i.un i.uc } : Fr).a.toList, true⟩], w'.heap.size⟩, atL eofC 3⟩
structure EOfJ (w : World) (F : Fr) (l : List Tg) (i : EOfI) (w' : World) : Prop where
  le : i.j ≤ l.length
  W : Wst w ⟨eofRows w F ++ [⟨w.heap.size + 2, ({ F with tags := .slice i.uo i.un i.uc } : Fr).a.toList, true⟩], w'.heap.size⟩ w'
  ot : Ot 72 w' i.u (l.take (l.length - i.j))
  ap : ∀ b, i.u.ownBlock = some b → w.heap.size + 2 < b
noncomputable def eofR (w : World) (F : Fr) (l : List Tg) (i : EOfI) : Act → World → Prop := fun a' w' => ∃ k : EOfI, k.j < i.j ∧ EOfJ w F l k w' ∧ agrees eofN (eofL w F l.length k w') a'
def eofS (p : Nat) (u : Value) : Nat → Prop := fun k => k = p ∨ u.ownBlock = some k
def EOfD (p : Nat) (F : Fr) (u : Value) (l1 l2 : List Tg) (w0 : World) : Nat → Gh → World → Prop
  | 0, g, w => ¬ g.live ∧ g.priv = eofS p u ∧ rowAt p { F with tags := u } w ∧ Ot 72 w u l1
  | 1, g, w => g.live ∧ g.priv = eofS p g.val ∧ rowAt p { F with tags := u } w ∧ Ot 72 w g.val l2 ∧ Later w0.heap.size u g.val ∧ g.val.ownBlock ≠ some p
  | _, g, w => ∃ uo un uc, g.val = .slice uo un uc ∧ rowAt p { F with tags := .slice uo un uc } w ∧ Ot 72 w (.slice uo un uc) l2 ∧ Later w0.heap.size u (.slice uo un uc) ∧ (Value.slice uo un uc).ownBlock ≠ some p
theorem EOfD.keep {p : Nat} {F : Fr} {u : Value} {l1 l2 : List Tg} {w0 : World} : ∀ (k : Nat) (g : Gh) (w w' : World), Keep No w w' → EOfD p F u l1 l2 w0 k g w → EOfD p F u l1 l2 w0 k g w'
  | 0, _, _, _, k, ⟨h1, h2, h3, h4⟩ => ⟨h1, h2, h3.keep0 k, h4.keep0 k⟩
  | 1, _, _, _, k, ⟨h1, h2, h3, h4, h5, h6⟩ => ⟨h1, h2, h3.keep0 k, h4.keep0 k, h5, h6⟩
  | _ + 2, _, _, _, k, ⟨uo, un, uc, h1, h2, h3, h4, h5⟩ => ⟨uo, un, uc, h1, h2.keep0 k, h3.keep0 k, h4, h5⟩
theorem Ot.form {e : TypeId} {w : World} {v : Value} {l : List Tg} (h : Ot e w v l) : ∃ ao n c, v = .slice ao n c := by
  obtain ⟨ao, cap, h, _⟩ := h.rt.shape
  exact ⟨ao, _, cap, h⟩
section
variable {W w0 : World} {p : Nat} {F : Fr} {u : Value} {l1 : List Tg} {t : Tg}
theorem eof_app {x y : Tmp} (hu : u.ownBlock ≠ some p) (hp : p < w0.heap.size) (hl : l1.length ≤ 1000000) (ty : TypeId) :
    ActM Tryd.prog (eofS p u) w0 (EOfD p F u l1 (l1 ++ [t]) w0) 0 (.call { callee := .builtin .append, args := #[.tmp x, .tmp y], argTypes := #[30, 30] }) ty [(x, .is u), (y, rowS 4 1 fun j => (csT [t]).getD j undef)] padS := by
  intro a o g w ho hty hk hb hd hr
  obtain ⟨h1, h2, h3, h4⟩ := hd
  have ex : a.tmps.getD x undef = u := hr (x, .is u) (by simp)
  have ey := hr (y, rowS 4 1 fun j => (csT [t]).getD j undef) (by simp)
  obtain ⟨rt, _⟩ := ey
  have rt' : Rt w (a.tmps.getD y undef) [t] := rt
  obtain ⟨v', w', hrun, ho', k', hbl⟩ := run_append_t ertt h4 rt' (by simp; omega)
  have he : (execOp a.eval o).run Tryd.prog w = .ok (.value v') w' := by
    unfold execOp
    simp only [ho, resolve, invoke, builtin, Sem.run_bind, Sem.run_pure, Result.andThen_ok, List.map_toArray, List.map_cons, List.map_nil]
    rw [show a.eval (.tmp x) = u from ex, show a.eval (.tmp y) = a.tmps.getD y undef from rfl, hrun]
    rfl
  rw [he]
  have hks := hk.size
  have hvp : v'.ownBlock ≠ some p := by
    rcases hbl with h | h <;> rw [h]
    · exact hu
    · exact fun e => by have := Option.some.inj e; omega
  refine ⟨⟨True, v', eofS p v'⟩, ⟨k'.mono fun q _ h => by rw [h2]; exact .inr h, ?_, fun h => absurd h h1⟩, ?_, ⟨trivial, rfl, ?_, ho', ?_, hvp⟩, trivial, rfl⟩
  · rintro q (e | e)
    · rw [h2]; exact .inl (.inl e)
    · rcases hbl with h | h <;> rw [h] at e
      · rw [h2]; exact .inl (.inr e)
      · exact .inr (by have := Option.some.inj e; omega)
  · rintro q (e | e)
    · exact ⟨by rw [e]; exact Nat.lt_of_lt_of_le hp (Nat.le_trans hks k'.size), fun _ => .inl e⟩
    · refine ⟨ho'.lt q e, fun hlt => ?_⟩
      rcases hbl with h | h <;> rw [h] at e
      · exact .inr e
      · have := Option.some.inj e; omega
  · obtain ⟨t', ht⟩ := h3
    exact ⟨t', (k'.block p (block_of_row ht) (fun e => hu e)).trans ht⟩
  · rcases hbl with h | h
    · exact .inl h
    · exact .inr fun b hb' => by rw [h] at hb'; have := Option.some.inj hb'; omega
theorem eof_store {x y : Tmp} (hKN : ∀ w, Keep (eofS p u) w0 w → Keep No W w) (hp0 : W.heap.size ≤ p) {l2 : List Tg} (hus : ∃ ao n c, u = .slice ao n c) {e ty : TypeId}
    (hq : ∀ uo un uc ao n c nx, gRun Tryd.prog (some 0) (Instr.storeAt e (.pointer (some ⟨p, 12, none⟩)) (.slice ao n c)) ⟨[⟨p, ({ F with tags := .slice uo un uc } : Fr).a.toList, true⟩], nx⟩ = some ((), ⟨[⟨p, ({ F with tags := .slice ao n c } : Fr).a.toList, true⟩], nx⟩, [(p, p)])) :
    ActM Tryd.prog (eofS p u) w0 (EOfD p F u l1 l2 w0) 1 (.store e (.tmp x) (.tmp y)) ty [(x, .is (.pointer (some ⟨p, 12, none⟩))), (y, padS)] (.is undef) := by
  intro a o g w ho _ hk hb hd hr
  obtain ⟨h1, h2, ⟨t', hrow⟩, h4, h5, h6⟩ := hd
  have e1 : a.tmps.getD x undef = .pointer (some ⟨p, 12, none⟩) := hr (x, .is (.pointer (some ⟨p, 12, none⟩))) (by simp)
  have e2 : a.tmps.getD y undef = g.val := (hr (y, padS) (by simp)).2
  obtain ⟨ao, n, c, hv⟩ := h4.form
  obtain ⟨uo, un, uc, rfl⟩ := hus
  rw [hv] at h4 h5 h6
  obtain ⟨w', t2, hx, k1, hs, hrow'⟩ := store_step (W := W) (b := p) (off := 12) (V := .slice ao n c) ho e1 (e2.trans hv) hrow (hKN w hk) hp0 _ (fun q hq => by obtain rfl := List.mem_singleton.1 hq; rfl) (hq uo un uc ao n c)
  rw [hx]
  refine ⟨g, ⟨k1.mono fun q _ e => by rw [h2]; exact .inl e, fun q h => .inl h, fun h => ⟨h, rfl⟩⟩, fun q h => ⟨Nat.lt_of_lt_of_le (hb q h).1 k1.size, (hb q h).2⟩, ⟨ao, n, c, hv, ⟨t2, hrow'⟩, h4.keep k1 (fun b hb e => h6 (by rw [hb, show b = p from e])), h5, h6⟩, rfl⟩
end
section
variable {w : World} {d s ll oo : List UInt8} {to bo ro : Option Addr} {tn tc bn' bc rn rc : Nat} {k t : Int} {l : List Tg}
set_option maxRecDepth 8000 in
theorem eof_round {F : Fr} (hF : (⟨d, s, .slice to tn tc, k, t, ll, oo, .slice bo bn' bc, .slice ro rn rc⟩ : Fr) = F) (r : Rt w (.slice to tn tc) l) (hn : l.length ≤ 1000000) (i : EOfI) (w' : World) (hJ : EOfJ w F l i w') (j : Nat) (hj : i.j = j + 1) :
    Goal Tryd.prog (bodyPost Tryd.prog Tryd.f14 (eofQ w F l)) eofN { eofL w F l.length i w' with todo := .code (loopOf (atL eofC 3)) :: .inv (eofR w F l i) :: (atL eofC 3).tail } w' := by
  obtain ⟨hle, hW, hot, hap⟩ := hJ
  unfold eofL
  rw [hj] at hle hot ⊢
  simp only
  obtain ⟨q, hq⟩ : ∃ q, l.length - (j + 1) = q := ⟨_, rfl⟩
  rw [hq] at hot ⊢
  have hql : q < l.length := by omega
  have hnext : l.length - j = q + 1 := by omega
  have hlq : (l.take q).length = q := by simp; omega
  have hsn : l.take (q + 1) = l.take q ++ [l[q]] := List.take_succ_eq_append_getElem hql
  refine go_stop (gt := fun _ => Option.none) (unroll := false) 100 [(3, 3, .sem (.int .i64 (l.length : Int))), (3, 4, .is (.bool true))] [1, 2, 3, 4] [pT w.heap.size, pT (w.heap.size + 1), pT (w.heap.size + 2), .int .i64 (q : Int)] (eofRows w F ++ [⟨w.heap.size + 2, ({ F with tags := .slice i.uo i.un i.uc } : Fr).a.toList, true⟩]) [(1, 0), (2, 1), (3, 2)] (atR eofC 5 (.inv (eofR w F l i))) [(.bool (decide ((q : Int) < (l.length : Int))), .bool true)] [(Builtin.len_ #[24] 3 #[.slice to tn tc], .int .i64 (l.length : Int))] hW (by subst hF; kernel_rfl) ⟨congrArg Value.bool (by simp; omega), trivial⟩ ⟨fun wx _ => r.sem_len ett (ty := 3) wx, trivial⟩ ?_
  intro w3 hW3 hS3
  have hot3 : Ot 72 w3 i.u (l.take q) := hot.same fun b hb => hS3.same b ⟨hot.lt b hb, fun r' hr' _ e => by
    have := hap b hb
    simp only [List.mem_append, List.mem_cons, List.not_mem_nil, or_false] at hr'
    rcases hr' with (rfl | rfl) | rfl <;> simp only at e <;> omega⟩
  have hup : i.u.ownBlock ≠ some (w.heap.size + 2) := fun e => by have := hap _ e; omega
  have hrow3 : rowAt (w.heap.size + 2) { F with tags := .slice i.uo i.un i.uc } w3 := hW3.rows ⟨w.heap.size + 2, ({ F with tags := .slice i.uo i.un i.uc } : Fr).a.toList, true⟩ (by simp)
  have hlt3 : w.heap.size + 2 < w3.heap.size := by obtain ⟨t', ht⟩ := hrow3; exact block_of_row ht
  have hW3' : Wst w ⟨eofRows w F, w3.heap.size⟩ w3 := hW3.fewer
  have hKN : ∀ wx, Keep (eofS (w.heap.size + 2) i.u) w3 wx → Keep No w wx := fun wx k => hW3.keep.trans' k (fun b hb h => by
    rcases h with h | h
    · omega
    · have := hap b h; omega)
  have hloose : ∀ {wx : World}, Loose w ⟨eofRows w F, wx.heap.size⟩ (eofS (w.heap.size + 2) i.u) := fun b hb => by
    have hb2 : w.heap.size + 2 ≤ b := by
      rcases hb with h | h
      · omega
      · have := hap b h; omega
    refine ⟨by omega, fun r' hr' e => ?_⟩
    simp only [List.mem_cons, List.not_mem_nil, or_false] at hr'
    rcases hr' with rfl | rfl <;> simp only at e <;> omega
  have rx : ∀ wx, Keep (eofS (w.heap.size + 2) i.u) w3 wx → Rt wx (.slice to tn tc) l := fun wx k => r.keep0 (hKN wx k)
  refine Goal.re (tags := tagL [(1, 0), (2, 1)]) (m := ⟨eofRows w F, w3.heap.size⟩) ?_
  refine drawnM_ok (S0 := eofS (w.heap.size + 2) i.u) (gt := fun _ => Option.none) (D := EOfD (w.heap.size + 2) F i.u (l.take q) (l.take q ++ [l[q]]) w3) (g0 := ⟨False, undef, eofS (w.heap.size + 2) i.u⟩)
    [(1, .early (.is i.u)), (5, .sem (.pointer (some (adt (.slice to tn tc) q)))), (6, .sem (.agg (l[q]).a)), (7, .new (rowS 4 1 fun j => (csT [l[q]]).getD j undef)), (8, .act padS), (10, .act (.is undef))]
    [1, 2, 3, 4] [.is (pT w.heap.size), .is (pT (w.heap.size + 1)), .is (pT (w.heap.size + 2)), .is (.int .i64 (q : Int))]
    (True ∧ EarlyM Tryd.prog (eofS (w.heap.size + 2) i.u) w3 (EOfD (w.heap.size + 2) F i.u (l.take q) (l.take q ++ [l[q]]) w3) (.load 30 (.tmp 29)) 30 [(29, .is (.pointer (some ⟨w.heap.size + 2, 12, none⟩)))] (.is i.u) ∧ True ∧ True ∧ True ∧
      SemM Tryd.prog (eofS (w.heap.size + 2) i.u) w3 (Instr.indexAt 24 (.slice to tn tc) (.int .i64 (q : Int))) (.pointer (some (adt (.slice to tn tc) q))) ∧ SemM Tryd.prog (eofS (w.heap.size + 2) i.u) w3 (Instr.loadAt 57 (.pointer (some (adt (.slice to tn tc) q)))) (.agg (l[q]).a) ∧
      NewM Tryd.prog (eofS (w.heap.size + 2) i.u) w3 (Instr.buildSlice 30 1 #[(0, .agg (l[q]).a)]) (rowS 4 1 fun j => (csT [l[q]]).getD j undef) ∧
      ActM Tryd.prog (eofS (w.heap.size + 2) i.u) w3 (EOfD (w.heap.size + 2) F i.u (l.take q) (l.take q ++ [l[q]]) w3) 0 (.call { callee := .builtin .append, args := #[.tmp 30, .tmp 36], argTypes := #[30, 30] }) 30 [(30, .is i.u), (36, rowS 4 1 fun j => (csT [l[q]]).getD j undef)] padS ∧ True ∧
      ActM Tryd.prog (eofS (w.heap.size + 2) i.u) w3 (EOfD (w.heap.size + 2) F i.u (l.take q) (l.take q ++ [l[q]]) w3) 1 (.store 30 (.tmp 38) (.tmp 37)) 0 [(38, .is (.pointer (some ⟨w.heap.size + 2, 12, none⟩))), (37, padS)] (.is undef) ∧ True)
    2 (afterR eofC 5 (.inv (eofR w F l i))) hW3' hloose (by kernel_rfl) (by subst hF; kernel_rfl) (by subst hF; kernel_rfl) EOfD.keep (fun b hb => ⟨by rcases hb with h | h; (· omega); (· exact hot3.lt b h), fun _ => hb⟩) ⟨fun h => h, rfl, hrow3, hot3⟩
    ⟨trivial, early_loadO (cs := ({ F with tags := .slice i.uo i.un i.uc } : Fr).a.toList) (fun g w h => h.2.2.1) [(w.heap.size + 2, w.heap.size + 2)] (fun q hq => by obtain rfl := List.mem_singleton.1 hq; rfl) (fun nx => by subst hF; kernel_rfl), trivial, trivial, trivial, fun wx k => (rx wx k).sem_at ett hql wx, fun wx k => (rx wx k).sem_ld ett hql,
      new_row (cs := (l[q]).a.toList) (by simp [maxLen]) (fun _ => by kernel_rfl) (fun j hj => ?_), eof_app hup hlt3 (by omega) _, trivial, eof_store hKN (by omega) ⟨_, _, _, rfl⟩ (fun uo un uc ao n c nx => by subst hF; kernel_rfl), trivial⟩ ?_
  · have : j = 0 ∨ j = 1 ∨ j = 2 ∨ j = 3 := by omega
    rcases this with rfl | rfl | rfl | rfl <;> rfl
  intro g w4 vs k4 _ hd hok
  obtain rfl := allOkM_is (vs := [pT w.heap.size, pT (w.heap.size + 1), pT (w.heap.size + 2), .int .i64 (q : Int)]) hok
  obtain ⟨uo, un, uc, _, ⟨t4, hrow4⟩, hot4, hla, hnp⟩ := hd
  have hW4 : Wst w ⟨eofRows w F ++ [⟨w.heap.size + 2, ({ F with tags := .slice uo un uc } : Fr).a.toList, true⟩], w4.heap.size⟩ w4 := (hW3'.laterS k4 hloose).addRow hrow4 (by omega) (fun r' hr' => by
    simp only [List.mem_cons, List.not_mem_nil, or_false] at hr'
    rcases hr' with rfl | rfl
    · show w.heap.size ≠ w.heap.size + 2; omega
    · show w.heap.size + 1 ≠ w.heap.size + 2; omega)
  have hap4 : ∀ b, (Value.slice uo un uc).ownBlock = some b → w.heap.size + 2 < b := fun b hb => by
    rcases hla with e | e
    · rw [e] at hb; exact hap b hb
    · have := e b hb; omega
  refine Goal.re (tags := tagL [(1, 0), (2, 1), (3, 2)]) (m := ⟨eofRows w F ++ [⟨w.heap.size + 2, ({ F with tags := .slice uo un uc } : Fr).a.toList, true⟩], w4.heap.size⟩) ?_
  refine go_inv (gt := fun _ => Option.none) (unroll := false) 60 [(4, 1, .is (.int .i64 ((q + 1 : Nat) : Int)))] [1, 2, 3, 4] [pT w.heap.size, pT (w.heap.size + 1), pT (w.heap.size + 2), .int .i64 ((q + 1 : Nat) : Int)] (eofRows w F ++ [⟨w.heap.size + 2, ({ F with tags := .slice uo un uc } : Fr).a.toList, true⟩]) (eofR w F l i) [(.int .i64 (IntKind.i64.wrap ((q : Int) + 1)), .int .i64 ((q + 1 : Nat) : Int))] [] hW4 (by subst hF; kernel_rfl)
    ⟨congrArg (Value.int .i64) (by rw [IntWalk.i64_in _ (by omega)]; omega), trivial⟩ trivial ?_
  intro w5 a hW5 hS5 hs
  refine ⟨⟨j, uo, un, uc⟩, by rw [hj]; exact Nat.lt_succ_self j, ⟨by show j ≤ l.length; omega, hW5, ?_, hap4⟩, ?_⟩
  · show Ot 72 w5 (.slice uo un uc) (l.take (l.length - j))
    rw [hnext, hsn]
    exact hot4.same fun b hb => hS5.same b ⟨hot4.lt b hb, fun r' hr' _ e => by
      have := hap4 b hb
      simp only [List.mem_append, List.mem_cons, List.not_mem_nil, or_false] at hr'
      rcases hr' with (rfl | rfl) | rfl <;> simp only at e <;> omega⟩
  · unfold eofL
    simp only
    rw [hnext]
    exact hs
end
section
variable {w : World} {d s ll oo : List UInt8} {to bo ro : Option Addr} {tn tc bn' bc rn rc : Nat} {k t : Int} {l : List Tg}
/-- A frame as the document's: the same frame, its tags in new memory. -/
theorem of_any {F : Fr} (hF : (⟨d, s, .slice to tn tc, k, t, ll, oo, .slice bo bn' bc, .slice ro rn rc⟩ : Fr) = F) (r : Rt w (.slice to tn tc) l) (hn : l.length ≤ 1000000) : Calls Tryd.prog 14 #[.agg F.a] w (eofQ w F l) := by
  refine enter (args := [.agg F.a]) Tryd.func14 (by kernel_rfl) ?_
  refine go_stop (gt := fun _ => Option.none) (unroll := false) 100 [] [1, 2, 3, 4] [pT w.heap.size, pT (w.heap.size + 1), pT (w.heap.size + 2), .int .i64 0] (eofRows w F ++ [⟨w.heap.size + 2, ({ F with tags := nilV } : Fr).a.toList, true⟩]) [(1, 0), (2, 1), (3, 2)] (atL eofC 3) [] [] (Wst.start0 w) (by subst hF; kernel_rfl) trivial trivial ?_
  intro w1 hW1 _
  have key := loop_okT (P := Tryd.prog) (Q := bodyPost Tryd.prog Tryd.f14 (eofQ w F l)) (n := eofN) (x := loopOf (atL eofC 3)) (k := (atL eofC 3).tail) (fun i : EOfI => i.j) (eofL w F l.length) (EOfJ w F l) (fun _ _ => by kernel_rfl) ?_ ⟨l.length, Option.none, 0, 0⟩ w1
    ⟨Nat.le_refl _, hW1, by simpa using Ot.nil _ _, fun b hb => by simp [Value.ownBlock] at hb⟩
  · unfold eofL at key
    rw [Nat.sub_self] at key
    exact key
  intro i w' hJ
  rcases Nat.eq_zero_or_pos i.j with hi | hi
  case inr =>
    obtain ⟨j, hj⟩ := Nat.exists_eq_succ_of_ne_zero (Nat.ne_of_gt hi)
    exact eof_round hF r hn i w' hJ j hj
  case inl =>
    obtain ⟨hle, hW, hot, hap⟩ := hJ
    rw [hi, Nat.sub_zero, List.take_length] at hot
    unfold eofL
    rw [hi]
    simp only [Nat.sub_zero]
    refine go_ret (gt := fun _ => Option.none) (unroll := false) 60 [(3, 3, .sem (.int .i64 (l.length : Int))), (3, 4, .is (.bool false))] [.cell 2 32] (.agg ({ F with tags := .slice i.uo i.un i.uc } : Fr).a) [(.bool (decide ((l.length : Int) < (l.length : Int))), .bool false)] [(Builtin.len_ #[24] 3 #[.slice to tn tc], .int .i64 (l.length : Int))] hW Tryd.results14 (by subst hF; kernel_rfl) ⟨congrArg Value.bool (by simp), trivial⟩ ⟨fun wx _ => r.sem_len ett (ty := 3) wx, trivial⟩ ?_
    intro w9 hW9 hS9
    have hsf : ∀ b, i.u.ownBlock = some b → Safe ⟨eofRows w F ++ [⟨w.heap.size + 2, ({ F with tags := .slice i.uo i.un i.uc } : Fr).a.toList, true⟩], w'.heap.size⟩ b := fun b hb => ⟨hot.lt b hb, fun r' hr' _ e => by
      have := hap b hb
      simp only [List.mem_append, List.mem_cons, List.not_mem_nil, or_false] at hr'
      rcases hr' with (rfl | rfl) | rfl <;> simp only at e <;> omega⟩
    exact ⟨i.uo, i.un, i.uc, rfl, hot.rt.same fun b hb _ => hS9.same b (hsf b hb), hW9.keep, fun b hb => by have := hap b hb; omega, fun b hb => by rw [hW9.size]; exact Nat.lt_of_lt_of_le (hot.lt b hb) hS9.le⟩
end
end Go.Proofs.YtcimfojbggckhaaDoor
namespace Go.Proofs.YtcimfojbggckhaaDoor
open Go.RowKit

abbrev a6 (l : List UInt8) : Value := .agg #[bv (byteAt l 0), bv (byteAt l 1), bv (byteAt l 2), bv (byteAt l 3), bv (byteAt l 4), bv (byteAt l 5)]
theorem a6_of {w1 : World} {u : Value} {l : List UInt8} (r : Rd w1 u l) (h : 6 ≤ l.length) : (Instr.loadAt 23 (.pointer (some (adr u 0)))).run Tryd.prog w1 = .ok (a6 l) w1 :=
  r.sem_ldn Tryd.underlying23 (by kernel_rfl) h
/-- What Get leaves. -/
structure GetF (w : World) (f : Fr) (c : Fc) (w' : World) : Prop where
  is : FrIs w' f c
  keep : Keep No w w'
  st : Since w.heap.size f.tags
  sb : Since w.heap.size f.body
  sr : Since w.heap.size f.rest
  lt : Under w'.heap.size f.tags
  lb : Under w'.heap.size f.body
  lr : Under w'.heap.size f.rest
abbrev getQ (w : World) (bs : List UInt8) : Ending → World → Prop := fun x w' => ∃ f, x = .returned (.tuple #[.agg f.a, .int .i64 ((frameR bs).2 : Nat)]) ∧ GetF w f (frameR bs).1 w'
theorem GetF.zero {w w' : World} (k : Keep No w w') : GetF w fr0 fc0 w' := ⟨FrIs.zero _, k, nilV_since _, nilV_since _, nilV_since _, nilV_under _, nilV_under _, nilV_under _⟩
theorem get_fail {w w' : World} {bs : List UInt8} {e : Nat} (he : frameR bs = (fc0, e)) (k : Keep No w w') : getQ w bs (.returned (.tuple #[.agg fr0.a, .int .i64 (e : Int)])) w' :=
  ⟨fr0, by rw [he], by rw [he]; exact GetF.zero k⟩
theorem CaF.mono {W w w1 w2 : World} {dst src : List UInt8} {tg : Value} {c : Cy} {f : Fr} (h : CaF w dst src tg c f w1) (hs : W.heap.size ≤ w.heap.size) (k : Keep No w1 w2) : CaF W dst src tg c f w2 :=
  ⟨h.dst, h.src, h.tags, h.kind, h.typ, h.llc, h.oui, h.body.keep0 k, h.rest.keep0 k, h.sb.mono hs, h.sr.mono hs, h.lb.mono k.size, h.lr.mono k.size⟩
/-- carry within its region. -/
def GtD (W : World) (p : Nat) (dst src : List UInt8) (tg : Value) (n : Nat) (cs : List UInt8) : Nat → Gh → World → Prop
  | 0, g, w => g.priv = One p ∧ rowAt p (cf0 dst src tg) w
  | _, g, w => g.priv = One p ∧ ∃ f, rowAt p f w ∧ ((carryR n cs).e = 0 → CaF W dst src tg (carryR n cs) f w)
theorem GtD.keep {W : World} {p : Nat} {dst src : List UInt8} {tg : Value} {n : Nat} {cs : List UInt8} : ∀ (k : Nat) (g : Gh) (w w' : World), Keep No w w' → GtD W p dst src tg n cs k g w → GtD W p dst src tg n cs k g w'
  | 0, _, _, _, k, ⟨h1, h2⟩ => ⟨h1, h2.keep0 k⟩
  | _ + 1, _, _, _, k, ⟨h1, f, h2, h3⟩ => ⟨h1, f, h2.keep0 k, fun h => (h3 h).mono (Nat.le_refl _) k⟩
noncomputable abbrev geC : Code := bodyOf Tryd.f23
noncomputable abbrev geN : Nat := Tryd.f23.ntmps
section
variable {w : World} {v : Value} {bs : List UInt8}
abbrev g2 (w : World) : List RowS := [⟨w.heap.size, fr0.a.toList, true⟩]
set_option maxRecDepth 8000 in
/-- Behind the tags: addresses, a type or a length, what follows. -/
theorem get_tail (r : Rd w v bs) (hl : bs.length ≤ 1099511627776) (hs : Sh w) (h1 : ¬ 65535 < bs.length) (h2 : ¬ bs.length < 12) {l : List Tg} {rr : List UInt8} (hq : readT 3 [] (bs.drop 12) = (l, rr, 0)) (hrl : rr.length ≤ 1099511627776) {vt u : Value} {w3 : World} (hW3 : Wst w ⟨g2 w, w3.heap.size⟩ w3) (T3 : Hd (g2 w) w3 vt l) (U3 : HdB (g2 w) w3 u rr) (hst : Since w.heap.size vt) (hr2 : ¬ rr.length < 2) :
    Goal Tryd.prog (bodyPost Tryd.prog Tryd.f23 (getQ w bs)) geN ⟨frOf [0, 2, 4, 5] [v, pT w.heap.size, vt, u], tagL [(2, 0)], ⟨g2 w, w3.heap.size⟩, atR geC 10⟩ w3 := by
  have ef : frameR bs = if (carryR (be (rr.take 2)) (rr.drop 2)).e ≠ 0 then (fc0, (carryR (be (rr.take 2)) (rr.drop 2)).e) else (⟨bs.take 6, (bs.drop 6).take 6, l, (carryR (be (rr.take 2)) (rr.drop 2)).kind, (carryR (be (rr.take 2)) (rr.drop 2)).typ, (carryR (be (rr.take 2)) (rr.drop 2)).llc, (carryR (be (rr.take 2)) (rr.drop 2)).oui, (carryR (be (rr.take 2)) (rr.drop 2)).body, (carryR (be (rr.take 2)) (rr.drop 2)).rest⟩, 0) := by
    unfold frameR
    rw [if_neg h1, if_neg h2, hq]
    simp only [ne_eq, not_true_eq_false, if_false]
    exact if_neg hr2
  have rx : ∀ wx, Keep No w3 wx → Rd wx v bs := fun wx k => r.keep0 (hW3.keep.trans k)
  have c6 : ∀ {wx : World}, Rd wx v bs → Rd wx (cutv v 0 6) (bs.take 6) := fun rx => by
    have := rx.cut (l := 0) (h := 6) (by omega) (by omega)
    simpa using this
  have c12 : ∀ {wx : World}, Rd wx v bs → Rd wx (cutv v 6 12) ((bs.drop 6).take 6) := fun rx => rx.cut (l := 6) (h := 12) (by omega) (by omega)
  have l6 : (bs.take 6).length = 6 := by simp; omega
  have l12 : ((bs.drop 6).take 6).length = 6 := by simp; omega
  have hvt : ∃ ao n c, vt = .slice ao n c := by
    obtain ⟨ao, cap, h, _⟩ := T3.rt.shape
    exact ⟨ao, _, cap, h⟩
  obtain ⟨to, tn, tc, rfl⟩ := hvt
  refine drawnM_ok (S0 := No) (gt := fun _ => Option.none) (D := RowD fr0.a.toList (cf0 (bs.take 6) ((bs.drop 6).take 6) (.slice to tn tc)).a.toList w3) (g0 := noGh)
    [(1, .sem (cutv v 0 6)), (2, .sem (.pointer (some (adr (cutv v 0 6) 0)))), (3, .sem (a6 (bs.take 6))), (5, .sem (cutv v 6 12)), (6, .sem (.pointer (some (adr (cutv v 6 12) 0)))), (7, .sem (a6 ((bs.drop 6).take 6))), (10, .act padS), (11, .act (.is undef))] [0, 2, 5, 7]
    [.is v, .is (pT w.heap.size), .is u, padS]
    (True ∧ SemM Tryd.prog No w3 (Instr.sliceAt 26 v Option.none (some (.int .i64 6)) Option.none) (cutv v 0 6) ∧ SemM Tryd.prog No w3 (Instr.arrayAt 23 (cutv v 0 6)) (.pointer (some (adr (cutv v 0 6) 0))) ∧ SemM Tryd.prog No w3 (Instr.loadAt 23 (.pointer (some (adr (cutv v 0 6) 0)))) (a6 (bs.take 6)) ∧ True ∧
      SemM Tryd.prog No w3 (Instr.sliceAt 26 v (some (.int .i64 6)) (some (.int .i64 12)) Option.none) (cutv v 6 12) ∧ SemM Tryd.prog No w3 (Instr.arrayAt 23 (cutv v 6 12)) (.pointer (some (adr (cutv v 6 12) 0))) ∧ SemM Tryd.prog No w3 (Instr.loadAt 23 (.pointer (some (adr (cutv v 6 12) 0)))) (a6 ((bs.drop 6).take 6)) ∧ True ∧ True ∧
      ActM Tryd.prog No w3 (RowD fr0.a.toList (cf0 (bs.take 6) ((bs.drop 6).take 6) (.slice to tn tc)).a.toList w3) 0 (.alloc 28) 0 [] padS ∧
      ActM Tryd.prog No w3 (RowD fr0.a.toList (cf0 (bs.take 6) ((bs.drop 6).take 6) (.slice to tn tc)).a.toList w3) 1 (.store 28 (.tmp 7) (.tmp 43)) 0 [(7, padS), (43, .is (.agg (cf0 (bs.take 6) ((bs.drop 6).take 6) (.slice to tn tc)).a))] (.is undef) ∧ True)
    2 (afterR geC 10) hW3 (fun _ h => h.elim) (by kernel_rfl) (by kernel_rfl) (by kernel_rfl) RowD.keep (noGh_base w3) noGh_R
    ⟨trivial, fun wx _ => r.sem_cutH (k := 6) (by omega) wx, fun wx k => (c6 (rx wx k)).sem_arr Tryd.underlying23 (by omega) (by omega) wx, fun wx k => a6_of (c6 (rx wx k)) (by omega), trivial, fun wx _ => r.sem_cut (k := 6) (h := 12) (by omega) (by omega) wx, fun wx k => (c12 (rx wx k)).sem_arr Tryd.underlying23 (by omega) (by omega) wx, fun wx k => a6_of (c12 (rx wx k)) (by omega), trivial, trivial,
      act_alloc (fun nx => by kernel_rfl), act_store (fun b => List.replicate 23 (b, b)) (fun b q hq => by rw [List.eq_of_mem_replicate hq]) (fun b nx => by kernel_rfl), trivial⟩ ?_
  intro g w4 vs k4 _ hd hok
  match vs, hok with
  | [x0, x2, x5, x7], hx =>
  obtain ⟨rfl, rfl, rfl, ⟨_, h7⟩, _⟩ : x0 = v ∧ x2 = pT w.heap.size ∧ x5 = _ ∧ (g.live ∧ x7 = g.val) ∧ True := hx
  obtain ⟨_, p, tq, hq1, _, hpw, hq3⟩ := hd
  rw [hq1] at h7
  subst h7
  simp only [Nat.one_ne_zero, if_false] at hq3
  have hplt : p < w4.heap.size := block_of_row hq3
  have hp0 : w.heap.size < p := by
    obtain ⟨t', ht⟩ := hW3.rows _ (List.mem_singleton.2 rfl)
    have := block_of_row ht
    exact Nat.lt_of_lt_of_le this hpw
  have T4 := T3.call k4
  have U4 := U3.call k4
  have hW4 : Wst w ⟨g2 w ++ [⟨p, (cf0 (bs.take 6) ((bs.drop 6).take 6) (.slice to tn tc)).a.toList, true⟩], w4.heap.size⟩ w4 := (hW3.later k4).addRow hq3 (by omega) (fun q hq => by obtain rfl := List.mem_singleton.1 hq; show w.heap.size ≠ p; omega)
  have hneT : ∀ b, (Value.slice to tn tc).ownBlock = some b → b ≠ p := fun b hb => by have := T3.lt b hb; omega
  have hneU : ∀ b, x5.ownBlock = some b → b ≠ p := fun b hb => by have := U3.lt b hb; omega
  refine Goal.re (tags := tagL [(2, 0), (7, 1)]) (m := ⟨g2 w ++ [⟨p, (cf0 (bs.take 6) ((bs.drop 6).take 6) (.slice to tn tc)).a.toList, true⟩], w4.heap.size⟩) ?_
  refine go_stop (gt := fun _ => Option.none) (unroll := false) 60 [] [0, 2, 5, 7] [x0, pT w.heap.size, x5, pT p] (g2 w ++ [⟨p, (cf0 (bs.take 6) ((bs.drop 6).take 6) (.slice to tn tc)).a.toList, true⟩]) [(2, 0), (7, 1)] (atR geC 11) [] [] hW4 (by kernel_rfl) trivial trivial ?_
  intro w5 hW5 hS5
  have hap : ∀ {u : Value}, Ap (g2 w) u → (∀ b, u.ownBlock = some b → b ≠ p) → Ap (g2 w ++ [⟨p, (cf0 (bs.take 6) ((bs.drop 6).take 6) (.slice to tn tc)).a.toList, true⟩]) u := fun h1 h2 b hb q hq => by
    rcases List.mem_append.1 hq with hq | hq
    · exact h1 b hb q hq
    · obtain rfl := List.mem_singleton.1 hq
      exact fun e => h2 b hb e.symm
  have T5 : Hd (g2 w) w5 (.slice to tn tc) l := (Hd.pass0 ⟨T4.rt, T4.lt, hap T4.ap hneT⟩ hS5).fewer
  have U5 : HdB (g2 w) w5 x5 rr := (HdB.pass0 ⟨U4.rd, U4.lt, hap U4.ap hneU⟩ hS5).fewer
  have hrow5 : rowAt p (cf0 (bs.take 6) ((bs.drop 6).take 6) (.slice to tn tc)) w5 := hW5.rows _ (List.mem_append.2 (.inr (List.mem_singleton.2 rfl)))
  have hW5' : Wst w ⟨g2 w, w5.heap.size⟩ w5 := hW5.fewer
  have hloose : ∀ {wx : World}, Loose w ⟨g2 w, wx.heap.size⟩ (One p) := fun q hq => ⟨by rw [show q = p from hq]; omega, fun r' hr' => by obtain rfl := List.mem_singleton.1 hr'; rw [show q = p from hq]; show w.heap.size ≠ p; omega⟩
  have hp1 : p ≠ 1 := by have := World.block_lt_of_cell? w _ (hs 0 (by omega)); simp only at this; omega
  have hKN : ∀ wx, Keep (One p) w5 wx → Keep No w wx := fun wx k => hW5.keep.trans' k (fun i hi h => by rw [show i = p from h] at hi; omega)
  have ux : ∀ wx, Keep (One p) w5 wx → Rd wx x5 rr := fun wx k => U5.rd.keep k (fun b hb e => hneU b hb e)
  have uc : ∀ {wx : World}, Rd wx x5 rr → Rd wx (cutv x5 2 rr.length) (rr.drop 2) := fun rx => by
    have := rx.cut (l := 2) (h := rr.length) (by omega) (Nat.le_refl _)
    rwa [List.take_of_length_le (by simp)] at this
  generalize hn : be (rr.take 2) = n at *
  generalize hc : rr.drop 2 = cs at *
  have hcl : cs.length ≤ 1099511627776 := by rw [← hc, List.length_drop]; omega
  refine Goal.re (tags := tagL [(2, 0)]) (m := ⟨g2 w, w5.heap.size⟩) ?_
  refine drawnM_ok (S0 := One p) (gt := fun _ => Option.none) (D := GtD w5 p (bs.take 6) ((bs.drop 6).take 6) (.slice to tn tc) n cs) (g0 := ⟨False, undef, One p⟩)
    [(1, .call (.is (.int .i64 (n : Int)))), (3, .sem (cutv x5 2 rr.length)), (4, .loud (.is (.int .i64 ((carryR n cs).e : Nat))))] [2, 7, 8] [.is (pT w.heap.size), .is (pT p), .is (.int .i64 ((carryR n cs).e : Nat))]
    (True ∧ CallM Tryd.prog (One p) w5 52 [.is x5] (.is (.int .i64 (n : Int))) ∧ True ∧ SemM Tryd.prog (One p) w5 (Instr.sliceAt 26 x5 (some (.int .i64 2)) Option.none Option.none) (cutv x5 2 rr.length) ∧
      LoudM Tryd.prog (One p) w5 (GtD w5 p (bs.take 6) ((bs.drop 6).take 6) (.slice to tn tc) n cs) 0 51 [.is (pT p), .is (.int .i64 (n : Int)), .is (cutv x5 2 rr.length)] (.is (.int .i64 ((carryR n cs).e : Nat))) ∧ True ∧ True)
    1 (afterR geC 11) hW5' hloose (by kernel_rfl) (by kernel_rfl) (by kernel_rfl) GtD.keep (fun k h => ⟨by rw [show k = p from h]; obtain ⟨t, ht⟩ := hrow5; exact block_of_row ht, fun _ => h⟩) ⟨rfl, hrow5⟩
    ⟨trivial, ?_, trivial, fun wx _ => U5.rd.sem_cutL (k := 2) (by omega) wx, ?_, trivial, trivial⟩ ?_
  · intro g wx vals k hbase hv
    match vals, hv with
    | [x], hx =>
      obtain rfl : x = _ := hx.1
      refine (word_of (ux wx k) (by omega)).mono ?_
      rintro e w9 ⟨rfl, k9⟩
      exact ⟨_, rfl, k9, by rw [hn]; rfl⟩
  · intro g wx vals k hbase hd hv
    match vals, hv with
    | [x, y, z], hx =>
      obtain rfl : x = _ := hx.1
      obtain rfl : y = _ := hx.2.1
      obtain rfl : z = _ := hx.2.2.1
      obtain ⟨hp, t', hrow⟩ := hd
      have hk := hKN wx k
      have hWx : Wst w ⟨caRow p (cf0 (bs.take 6) ((bs.drop 6).take 6) (.slice to tn tc)), wx.heap.size⟩ wx := ⟨rfl, fun q hq => by obtain rfl := List.mem_singleton.1 hq; exact ⟨t', hrow⟩, by simp, fun q hq _ => by obtain rfl := List.mem_singleton.1 hq; exact Nat.le_of_lt hp0, hk⟩
      have H : HdB (caRow p (cf0 (bs.take 6) ((bs.drop 6).take 6) (.slice to tn tc))) wx (cutv x5 2 rr.length) cs := ⟨uc (ux wx k), fun b hb => (U5.lt.mono k.size) b (by rw [← ownBlock_cutv]; exact hb), fun b hb q hq => by obtain rfl := List.mem_singleton.1 hq; exact fun e => hneU b (by rw [← ownBlock_cutv]; exact hb) e.symm⟩
      refine (carry_any (Nat.le_of_lt hp0) hWx H hcl (hs.keep0 hk) hp1).mono ?_
      rintro e w9 ⟨rfl, f, hW9, k9, hf⟩
      exact ⟨_, g, rfl, ⟨by rw [hp]; exact k9, fun q h => .inl h, fun h => ⟨h, rfl⟩⟩, fun q h => ⟨Nat.lt_of_lt_of_le (hbase q h).1 k9.size, (hbase q h).2⟩, ⟨hp, f, hW9.rows _ (List.mem_singleton.2 rfl), fun h0 => (hf h0).mono k.size (Keep.refl _ _)⟩, rfl⟩
  intro g w6 vs k6 _ hd hok
  obtain rfl := allOkM_is (vs := [pT w.heap.size, pT p, .int .i64 ((carryR n cs).e : Nat)]) hok
  obtain ⟨_, f, ⟨t6, hrow6⟩, hf⟩ := hd
  have hW6 := hW5'.laterS k6 hloose
  have T6 : Hd (g2 w) w6 (.slice to tn tc) l := ⟨T5.rt.keep k6 (fun b hb e => hneT b hb e), T5.lt.mono k6.size, T5.ap⟩
  by_cases he : (carryR n cs).e = 0
  · have F := hf he
    rw [he] at ef ⊢
    simp only [ne_eq, not_true_eq_false, if_false] at ef
    obtain ⟨fd, fs, ft, fk, fty, fl, fo, fb, fr⟩ := f
    obtain ⟨e1, e2, e3, e4, e5, hllc, houi, hb, hr, hsb, hsr, hlb, hlr⟩ := F
    simp only at e1 e2 e3 e4 e5 hllc houi hb hr hsb hsr hlb hlr
    subst e1 e2 e3
    obtain ⟨bo, bn', bc, rfl⟩ := hb.form
    obtain ⟨ro, rn, rc, rfl⟩ := hr.form
    have hW6' := hW6.addRow hrow6 (Nat.le_of_lt hp0) (fun q hq => by obtain rfl := List.mem_singleton.1 hq; show w.heap.size ≠ p; omega)
    refine Goal.re (tags := tagL [(2, 0), (7, 1)]) (m := ⟨g2 w ++ [⟨p, (⟨bs.take 6, (bs.drop 6).take 6, .slice to tn tc, fk, fty, fl, fo, .slice bo bn' bc, .slice ro rn rc⟩ : Fr).a.toList, true⟩], w6.heap.size⟩) ?_
    refine go_retM (gt := fun _ => Option.none) (unroll := false) 60 [] [.cell 2 28, .tmp 3] (.tuple #[.agg (⟨bs.take 6, (bs.drop 6).take 6, .slice to tn tc, fk, fty, fl, fo, .slice bo bn' bc, .slice ro rn rc⟩ : Fr).a, .int .i64 0]) [⟨w.heap.size, (⟨bs.take 6, (bs.drop 6).take 6, .slice to tn tc, fk, fty, fl, fo, .slice bo bn' bc, .slice ro rn rc⟩ : Fr).a.toList, true⟩, ⟨p, (⟨bs.take 6, (bs.drop 6).take 6, .slice to tn tc, fk, fty, fl, fo, .slice bo bn' bc, .slice ro rn rc⟩ : Fr).a.toList, true⟩] [] [] hW6' Tryd.results23 (by kernel_rfl) (by kernel_rfl) trivial trivial ?_
    intro w7 hW7 hS7
    have hp5 : p < w5.heap.size := by obtain ⟨t, ht⟩ := hrow5; exact block_of_row ht
    have sf : ∀ {b : Nat}, b < w6.heap.size → b ≠ w.heap.size → b ≠ p → Safe ⟨g2 w ++ [⟨p, (⟨bs.take 6, (bs.drop 6).take 6, .slice to tn tc, fk, fty, fl, fo, .slice bo bn' bc, .slice ro rn rc⟩ : Fr).a.toList, true⟩], w6.heap.size⟩ b := fun h1 h2 h3 => ⟨h1, fun q hq _ e => by
      rcases List.mem_append.1 hq with hq | hq
      · obtain rfl := List.mem_singleton.1 hq; exact h2 e.symm
      · obtain rfl := List.mem_singleton.1 hq; exact h3 e.symm⟩
    have sT : ∀ b, (Value.slice to tn tc).ownBlock = some b → Safe _ b := fun b hb => sf (T6.lt b hb) (fun e => T6.ap b hb _ (List.mem_singleton.2 rfl) e.symm) (hneT b hb)
    have sB : ∀ b, (Value.slice bo bn' bc).ownBlock = some b → Safe _ b := fun b hb => sf (hlb b hb) (by have := hsb b hb; omega) (by have := hsb b hb; omega)
    have sR : ∀ b, (Value.slice ro rn rc).ownBlock = some b → Safe _ b := fun b hb => sf (hlr b hb) (by have := hsr b hb; omega) (by have := hsr b hb; omega)
    have h65 : w.heap.size ≤ w5.heap.size := hW5.keep.size
    refine ⟨_, by rw [ef]; rfl, ?_⟩
    rw [ef]
    exact ⟨⟨fun _ => rfl, fun _ => rfl, T6.rt.same fun b hb _ => hS7.same b (sT b hb), e4, e5, hllc, houi, hb.safe sB hS7.same, hr.safe sR hS7.same⟩, hW7.keep, hst, hsb.mono h65, hsr.mono h65, T6.lt.mono hS7.le, hlb.mono hS7.le, hlr.mono hS7.le⟩
  · have ef' : frameR bs = (fc0, (carryR n cs).e) := by rw [ef]; simp [he]
    refine go_ret (gt := fun _ => Option.none) (unroll := false) 60 [(12, 1, .is (.bool true))] [.cell 2 28, .tmp 3] (.tuple #[.agg fr0.a, .int .i64 ((carryR n cs).e : Nat)]) [(.bool ((((carryR n cs).e : Nat) : Int) != 0), .bool true)] [] hW6 Tryd.results23 (by kernel_rfl) ⟨congrArg Value.bool (by simpa using he), trivial⟩ trivial ?_
    intro w7 hW7 _
    exact get_fail ef' hW7.keep
theorem read_len {bs rr : List UInt8} {l : List Tg} {e : Nat} (h : readT 3 [] bs = (l, rr, e)) : rr.length ≤ bs.length := by
  have key : ∀ (f : Nat) (k : List Tg) (b : List UInt8), (readT f k b).2.1.length ≤ b.length := by
    intro f
    induction f with
    | zero => intro k b; exact Nat.le_refl _
    | succ f ih =>
      intro k b
      unfold readT
      split
      · split
        · simp
        · have := ih (k ++ [tgN (be (b.take 2)) (be ((b.drop 2).take 2))]) (b.drop 4)
          simp at this ⊢
          omega
      · exact Nat.le_refl _
  have := key 3 [] bs
  rw [h] at this
  exact this
set_option maxRecDepth 8000 in
theorem get_any (r : Rd w v bs) (hl : bs.length ≤ 1099511627776) (hk : Kh w) (hs : Sh w) : Calls Tryd.prog 23 #[v] w (getQ w bs) := by
  refine enter (args := [v]) Tryd.func23 (by kernel_rfl) ?_
  by_cases h1 : 65535 < bs.length
  · refine go_ret (gt := fun _ => Option.none) (unroll := false) 60 [(1, 1, .sem (.int .i64 (bs.length : Int))), (1, 2, .is (.bool true))] [.cell 2 28, .tmp 3] (.tuple #[.agg fr0.a, .int .i64 3]) [(.bool (decide ((bs.length : Int) > 65535)), .bool true)] [(Builtin.len_ #[26] 3 #[v], .int .i64 (bs.length : Int))] (Wst.start0 w) Tryd.results23 (by kernel_rfl)
      ⟨congrArg Value.bool (by simp; omega), trivial⟩ ⟨fun wx _ => r.run_len (ty := 3) bt.sl, trivial⟩ ?_
    intro w7 hW7 _
    exact get_fail (e := 3) (if_pos h1) hW7.keep
  by_cases h2 : bs.length < 12
  · refine go_ret (gt := fun _ => Option.none) (unroll := false) 60 [(1, 1, .sem (.int .i64 (bs.length : Int))), (1, 2, .is (.bool false)), (3, 1, .sem (.int .i64 (bs.length : Int))), (3, 2, .is (.bool true))] [.cell 2 28, .tmp 3] (.tuple #[.agg fr0.a, .int .i64 4]) [(.bool (decide ((bs.length : Int) > 65535)), .bool false), (.bool (decide ((bs.length : Int) < 12)), .bool true)] [(Builtin.len_ #[26] 3 #[v], .int .i64 (bs.length : Int)), (Builtin.len_ #[26] 3 #[v], .int .i64 (bs.length : Int))] (Wst.start0 w) Tryd.results23 (by kernel_rfl)
      ⟨congrArg Value.bool (by simp; omega), congrArg Value.bool (by simp; omega), trivial⟩ ⟨fun wx _ => r.run_len (ty := 3) bt.sl, fun wx _ => r.run_len (ty := 3) bt.sl, trivial⟩ ?_
    intro w7 hW7 _
    exact get_fail (e := 4) (by rw [frameR, if_neg h1, if_pos h2]) hW7.keep
  have uc : ∀ {wx : World}, Rd wx v bs → Rd wx (cutv v 12 bs.length) (bs.drop 12) := fun rx => by
    have := rx.cut (l := 12) (h := bs.length) (by omega) (Nat.le_refl _)
    rwa [List.take_of_length_le (by simp)] at this
  refine go_call_is (gt := fun _ => Option.none) (unroll := false) 60 [(1, 1, .sem (.int .i64 (bs.length : Int))), (1, 2, .is (.bool false)), (3, 1, .sem (.int .i64 (bs.length : Int))), (3, 2, .is (.bool false)), (5, 1, .sem (cutv v 12 bs.length))] 32 [cutv v 12 bs.length] [0, 2] [v, pT w.heap.size] 22 (g2 w) [(2, 0)] (inR geC 5 2)
    [(.bool (decide ((bs.length : Int) > 65535)), .bool false), (.bool (decide ((bs.length : Int) < 12)), .bool false)] [(Builtin.len_ #[26] 3 #[v], .int .i64 (bs.length : Int)), (Builtin.len_ #[26] 3 #[v], .int .i64 (bs.length : Int)), (Instr.sliceAt 26 v (some (.int .i64 12)) Option.none Option.none, cutv v 12 bs.length)]
    (Wst.start0 w) (by kernel_rfl) ⟨congrArg Value.bool (by simp; omega), congrArg Value.bool (by simp; omega), trivial⟩ ⟨fun wx _ => r.run_len (ty := 3) bt.sl, fun wx _ => r.run_len (ty := 3) bt.sl, fun wx _ => r.sem_cutL (k := 12) (by omega) wx, trivial⟩ ?_
  intro w1 hW1 _
  refine (read_any (uc (r.keep0 hW1.keep)) (by simp; omega) (hk.keep0 hW1.keep)).mono ?_
  rintro x w2 ⟨vt, u, rfl, R⟩
  refine ⟨_, rfl, ?_⟩
  have hW2 := hW1.later R.keep
  rcases hq : readT 3 [] (bs.drop 12) with ⟨l, rr, e⟩
  have hrl := read_len hq
  obtain ⟨R1, R2, R3, R4, R5, R6, R7⟩ := R
  rw [hq] at R1 R2
  simp only at R1 R2 ⊢
  have T2 : Hd (g2 w) w2 vt l := ⟨R1, R6, Ap.fresh hW1 R4⟩
  have U2 : HdB (g2 w) w2 u rr := ⟨R2, R7, Ap.fresh hW1 R5⟩
  by_cases he : e = 0
  · subst he
    by_cases hr2 : rr.length < 2
    · refine go_ret (gt := fun _ => Option.none) (unroll := false) 60 [(8, 1, .sem (.int .i64 (rr.length : Int))), (8, 2, .is (.bool true))] [.cell 2 28, .tmp 3] (.tuple #[.agg fr0.a, .int .i64 4]) [(.bool (decide ((rr.length : Int) < 2)), .bool true)] [(Builtin.len_ #[26] 3 #[u], .int .i64 (rr.length : Int))] hW2 Tryd.results23 (by kernel_rfl)
        ⟨congrArg Value.bool (by simp; omega), trivial⟩ ⟨fun wx _ => U2.rd.run_len (ty := 3) bt.sl, trivial⟩ ?_
      intro w7 hW7 _
      refine get_fail (e := 4) ?_ hW7.keep
      unfold frameR
      rw [if_neg h1, if_neg h2, hq]
      simp [hr2]
    · refine go_stop (gt := fun _ => Option.none) (unroll := false) 60 [(8, 1, .sem (.int .i64 (rr.length : Int))), (8, 2, .is (.bool false))] [0, 2, 4, 5] [v, pT w.heap.size, vt, u] (g2 w) [(2, 0)] (atR geC 10) [(.bool (decide ((rr.length : Int) < 2)), .bool false)] [(Builtin.len_ #[26] 3 #[u], .int .i64 (rr.length : Int))] hW2 (by kernel_rfl)
        ⟨congrArg Value.bool (by simp; omega), trivial⟩ ⟨fun wx _ => U2.rd.run_len (ty := 3) bt.sl, trivial⟩ ?_
      intro w3 hW3 hS3
      exact get_tail r hl hs h1 h2 hq (by simp at hrl; omega) hW3 (T2.pass0 hS3) (U2.pass0 hS3) (R4.mono hW1.keep.size) hr2
  · refine go_ret (gt := fun _ => Option.none) (unroll := false) 60 [(6, 1, .is (.bool true))] [.cell 2 28, .tmp 3] (.tuple #[.agg fr0.a, .int .i64 (e : Int)]) [(.bool ((e : Int) != 0), .bool true)] [] hW2 Tryd.results23 (by kernel_rfl) ⟨congrArg Value.bool (by simpa using he), trivial⟩ trivial ?_
    intro w7 hW7 _
    refine get_fail (e := e) ?_ hW7.keep
    unfold frameR
    rw [if_neg h1, if_neg h2, hq]
    simp [he]
/-! ### Behind -/
abbrev behQ (w : World) (bs : List UInt8) : Ending → World → Prop := fun x w' => ∃ u, x = .returned (.tuple #[u, .int .i64 ((frameR bs).2 : Nat)]) ∧ Rd w' u (if (frameR bs).2 = 0 then bs.drop 12 else []) ∧ Keep No w w' ∧ Since w.heap.size u ∧ Under w'.heap.size u
theorem frame_ok {bs : List UInt8} (h : (frameR bs).2 = 0) : 12 ≤ bs.length := by
  unfold frameR at h
  by_cases h1 : 65535 < bs.length
  · rw [if_pos h1] at h; simp at h
  · by_cases h2 : bs.length < 12
    · rw [if_neg h1, if_pos h2] at h; simp at h
    · omega
theorem behind_any (r : Rd w v bs) (hl : bs.length ≤ 1099511627776) (hk : Kh w) (hs : Sh w) : Calls Tryd.prog 20 #[v] w (behQ w bs) := by
  refine enter (args := [v]) Tryd.func20 (by kernel_rfl) ?_
  refine go_call_is (gt := fun _ => Option.none) (unroll := false) 60 [] 23 [v] [0] [v] 8 [] [] (inR (bodyOf Tryd.f20) 1 1) [] [] (Wst.start0 w) (by kernel_rfl) trivial trivial ?_
  intro w1 hW1 _
  refine (get_any (r.keep0 hW1.keep) hl (hk.keep0 hW1.keep) (hs.keep0 hW1.keep)).mono ?_
  rintro x w2 ⟨f, rfl, F⟩
  refine ⟨_, rfl, ?_⟩
  have hW2 := hW1.later F.keep
  obtain ⟨⟨_, _, ht, _, _, _, _, hb, hr⟩, _⟩ := F
  obtain ⟨fd, fs, ft, fk, fty, fl, fo, fb, fr⟩ := f
  simp only at ht hb hr
  obtain ⟨to, cap, rfl, _⟩ := ht.shape
  obtain ⟨bo, bn', bc, rfl⟩ := hb.form
  obtain ⟨ro, rn, rc, rfl⟩ := hr.form
  by_cases he : (frameR bs).2 = 0
  · have h12 := frame_ok he
    rw [he]
    refine go_call_is (gt := fun _ => Option.none) (unroll := false) 60 [(4, 1, .sem (cutv v 12 bs.length))] 48 [cutv v 12 bs.length] [] [] 16 [⟨w2.heap.size, (⟨fd, fs, .slice to (frameR bs).1.tags.length cap, fk, fty, fl, fo, .slice bo bn' bc, .slice ro rn rc⟩ : Fr).a.toList, true⟩] [] (inR (bodyOf Tryd.f20) 4 2) [] [(Instr.sliceAt 26 v (some (.int .i64 12)) Option.none Option.none, cutv v 12 bs.length)] hW2 (by kernel_rfl) trivial ⟨fun wx _ => r.sem_cutL (k := 12) (by omega) wx, trivial⟩ ?_
    intro w3 hW3 _
    have uc : Rd w3 (cutv v 12 bs.length) (bs.drop 12) := by
      have := (r.keep0 hW3.keep).cut (l := 12) (h := bs.length) (by omega) (Nat.le_refl _)
      rwa [List.take_of_length_le (by simp)] at this
    refine (sclone_any _ _ _ uc (by simp; omega)).mono ?_
    rintro x w4 ⟨u, rfl, fr4, _⟩
    refine ⟨_, rfl, ?_⟩
    have hW4 : Wst w ⟨[], w4.heap.size⟩ w4 := (hW3.later fr4.keep).fewer (rows := [])
    refine Goal.re (tags := tagL []) (m := ⟨[], w4.heap.size⟩) ?_
    refine go_ret (gt := fun _ => Option.none) (unroll := false) 60 [] [.tmp 2, .tmp 3] (.tuple #[u, .int .i64 0]) [] [] hW4 Tryd.results20 (by kernel_rfl) trivial trivial ?_
    intro w5 hW5 hS5
    have o5 := fr4.own.same fun b hb => hS5.same b ⟨fr4.own.lt b hb, fun _ h => nomatch h⟩
    exact ⟨u, by rw [he]; rfl, by rw [if_pos he]; exact o5.rd, hW5.keep, fr4.since.mono hW3.keep.size, o5.lt⟩
  · refine go_ret (gt := fun _ => Option.none) (unroll := false) 60 [(2, 1, .is (.bool true))] [.tmp 2, .tmp 3] (.tuple #[nilV, .int .i64 ((frameR bs).2 : Nat)]) [(.bool ((((frameR bs).2 : Nat) : Int) != 0), .bool true)] [] hW2 Tryd.results20 (by kernel_rfl) ⟨congrArg Value.bool (by simpa using he), trivial⟩ trivial ?_
    intro w5 hW5 _
    exact ⟨nilV, rfl, by rw [if_neg he]; exact Rd.nil _, hW5.keep, nilV_since _, nilV_under _⟩
end
end Go.Proofs.YtcimfojbggckhaaDoor
namespace Go.Proofs.YtcimfojbggckhaaDoor
open Go.RowKit
section
variable {P : Program} {W0 : World} {Q : Exit → Act → World → Prop} {n : Nat} {gt : Nat → Option Nat} {unroll : Bool}
theorem run_callX {ρ : Operand → Value} {o : Oper} {x : Operand} {f : FuncId} {args : Array Operand} {ts : Array TypeId} (ho : o.op = .call { callee := .value x, args := args, argTypes := ts }) (hρ : ρ x = .func (.func f) #[] #[]) (hk : callOk P f = true) (w : World) :
    (execOp ρ o).run P w = .ok (.enter f (args.map ρ)) w := by
  unfold callOk at hk
  cases hf : P.funcs[f]? with
  | none => rw [hf] at hk; cases hk
  | some fn =>
    rw [hf] at hk
    simp only [Bool.and_eq_true, Bool.not_eq_true'] at hk
    obtain ⟨h1, h2⟩ := hk
    have h1' : ¬ fn.name = "runtime.NumGoroutine" := by simpa using h1
    have h3 : ¬ fn.body = none := by cases hb : fn.body <;> simp_all
    have hprog : ∀ w', Sem.run P program w' = .ok P w' := fun _ => rfl
    unfold execOp
    simp [ho, resolve, hρ, Deferred.ofValue, invoke, callFunc, hprog, hf, h1', h3]
def fnOf : Value → Option FuncId | .func (.func f) a b => if Nat.beq a.size 0 && Nat.beq b.size 0 then some f else none | _ => none
theorem fnOf_eq {v : Value} {f : FuncId} (h : fnOf v = some f) : v = .func (.func f) #[] #[] := by
  unfold fnOf at h
  split at h
  · rename_i f' a b
    split at h
    · rename_i hc
      simp only [Bool.and_eq_true, Nat.beq_eq] at hc
      cases h
      rw [Array.eq_empty_of_size_eq_zero hc.1, Array.eq_empty_of_size_eq_zero hc.2]
    · cases h
  · cases h
/-- Is the walk at a call of a function value? -/
def atCallX (P : Program) (n : Nat) (c : Cfg) : Option (FuncId × List Value) :=
  match c.todo with
  | .ops ops (o :: _) _ _ :: _ => match wantV ops c.fr o with
    | some true => if allV c.fr o && dstOk n o then match o.op with
        | .call { callee := .value x, args := args, argTypes := _ } => match fnOf (rho c.fr x) with
          | some f => if callOk P f then some (f, args.toList.map (rho c.fr)) else none
          | none => none
        | _ => none
      else none
    | _ => none
  | _ => none
theorem callX_ok {c : Cfg} {w : World} {f : FuncId} {args : List Value} (ha : atCallX P n c = some (f, args))
    (hc : Calls P f args.toArray w (fun e w' => ∃ v, e = .returned v ∧ Goal P Q n (resume c v w'.heap.size) w')) : Goal P Q n c w := by
  obtain ⟨fr, tags, m, todo⟩ := c
  unfold atCallX at ha
  simp only at ha
  split at ha
  case h_2 => cases ha
  split at ha
  case h_2 => cases ha
  rename_i ops o l i id k _ hw
  split at ha
  case isFalse => cases ha
  rename_i hall
  simp only [Bool.and_eq_true] at hall
  split at ha
  case h_2 => cases ha
  rename_i x xs ts hop
  split at ha
  case h_2 => cases ha
  rename_i f' hfn
  split at ha
  case isFalse => cases ha
  rename_i hk
  cases ha
  intro a hd hn ha
  show wpList P ops (KX P Q k) (o :: l) a w
  have hsel : ∀ cs b, o.op ≠ .select cs b := fun cs b e => by rw [hop] at e; cases e
  unfold wpList
  rw [wantV_wanted ha hw, if_pos rfl]
  refine .inl ?_
  unfold Oper.wp
  rw [execOp_congr o hsel (fun x hx => rho_eval ha hall.1 hx), run_callX hop (fnOf_eq hfn) hk]
  have e1 : (xs.toList.map (rho fr)).toArray = xs.map (rho fr) := by apply Array.ext'; simp
  rw [e1] at hc
  refine Calls.mono hc ?_
  rintro e w' ⟨v, rfl, hg⟩
  have := hg (a.put o.dst v) (by rw [(put_size a o.dst v).2]; exact hd) (by rw [(put_size a o.dst v).1]; exact hn) (putV_spec ha hn hall.2 (fun u hu => Option.some.inj hu))
  exact this
theorem go_callX_is (fuel : Nat) (hs : List (Nat × Nat × HintS)) (f : FuncId) (args : List Value) (ts : List Tmp) (vs : List Value) (r : Tmp) (rows : List RowS) (tg : List (Nat × Nat)) (T : List K) (eqs : List (Value × Value)) (sems : List (Sem Value × Value)) {c : Cfg} {w : World}
    (hW : Wst W0 c.m w)
    (he : ((atCallX P n (run P n gt unroll hs fuel c).1, ts.map (run P n gt unroll hs fuel c).1.fr, (run P n gt unroll hs fuel c).1.m.rows, callDst (run P n gt unroll hs fuel c).1, (run P n gt unroll hs fuel c).2.eqs, (run P n gt unroll hs fuel c).2.sems), (run P n gt unroll hs fuel c).2.blks.map (·.1)) =
      ((some (f, args), vs.map some, rows, some (r, T), eqs, sems), (run P n gt unroll hs fuel c).2.blks.map (·.2)))
    (h1 : Eqs eqs) (h2 : SemObs P c.m w sems)
    (hk : ∀ w', Wst W0 ⟨rows, w'.heap.size⟩ w' → Seg c.m w ⟨rows, w'.heap.size⟩ w' →
      Calls P f args.toArray w' (fun e w2 => ∃ v, e = .returned v ∧ Goal P Q n ⟨frOf (r :: ts) (v :: vs), tagL tg, ⟨rows, w2.heap.size⟩, T⟩ w2)) : Goal P Q n c w := by
  simp only [Prod.mk.injEq] at he
  obtain ⟨⟨e1, e0, er, ed, e2, e3⟩, e4⟩ := he
  refine run_ok fuel hW (Seg.refl _ _) ⟨?_, all_of_maps e4, ?_⟩ fun w' hW' hS' => callX_ok e1 ?_
  · rw [e2]; exact h1.mem
  · rw [e3]; exact h2.mem
  · have em : (run P n gt unroll hs fuel c).1.m = ⟨rows, w'.heap.size⟩ := by rw [← er, hW'.size]
    rw [em] at hW' hS'
    refine (hk w' hW' hS').mono ?_
    rintro e w2 ⟨v, rfl, hg⟩
    refine ⟨v, rfl, ?_⟩
    generalize (run P n gt unroll hs fuel c).1 = c1 at *
    obtain ⟨fr, tags, m, todo⟩ := c1
    unfold callDst at ed
    simp only at ed
    match todo, ed with
    | .ops ops (o :: l) i id :: k, ed =>
      simp only [Option.map_eq_some_iff, Prod.mk.injEq] at ed
      obtain ⟨d, hd, rfl, rfl⟩ := ed
      intro a had hn ha
      refine hg a had hn fun t u hu => ?_
      simp only [frOf] at hu
      simp only [resume, putV, hd] at ha
      split at hu
      · rename_i he'
        have := ha t v (by simp [he'])
        rw [this]; exact Option.some.inj hu
      · rename_i he'
        have : fr t = some u ∨ True := .inr trivial
        have hfr : ∀ t' u', frOf ts vs t' = some u' → fr t' = some u' := frOf_fr e0
        exact ha t u (by simp [he', hfr t u hu])
end
end Go.Proofs.YtcimfojbggckhaaDoor
namespace Go.Proofs.YtcimfojbggckhaaDoor
open Go.RowKit
section
variable {P : Program} {W0 : World} {Q : Exit → Act → World → Prop} {n : Nat} {gt : Nat → Option Nat} {unroll : Bool}
/-- Is the walk at a conversion? -/
def atConv (n : Nat) (c : Cfg) : Option (TypeId × TypeId × Value) :=
  match c.todo with
  | .ops ops (o :: _) _ _ :: _ => match wantV ops c.fr o with
    | some true => if allV c.fr o && dstOk n o then match o.op with
        | .convert s d x => some (s, d, rho c.fr x)
        | _ => none
      else none
    | _ => none
  | _ => none
theorem conv_ok {c : Cfg} {w : World} {s d : TypeId} {x : Value} (ha : atConv n c = some (s, d, x)) {v : Value} {w' : World} (hr : (convert s d x).run P w = .ok v w')
    (hg : Goal P Q n (resume c v w'.heap.size) w') : Goal P Q n c w := by
  obtain ⟨fr, tags, m, todo⟩ := c
  unfold atConv at ha
  simp only at ha
  split at ha
  case h_2 => cases ha
  split at ha
  case h_2 => cases ha
  rename_i ops o l i id k _ hw
  split at ha
  case isFalse => cases ha
  rename_i hall
  simp only [Bool.and_eq_true] at hall
  split at ha
  case h_2 => cases ha
  rename_i s' d' x' hop
  cases ha
  intro a hd hn ha
  show wpList P ops (KX P Q k) (o :: l) a w
  have hsel : ∀ cs b, o.op ≠ .select cs b := fun cs b e => by rw [hop] at e; cases e
  unfold wpList
  rw [wantV_wanted ha hw, if_pos rfl]
  refine .inl ?_
  unfold Oper.wp
  rw [execOp_congr o hsel (fun x hx => rho_eval ha hall.1 hx)]
  have hx : (execOp (fun x => rho fr x) o).run P w = .ok (.value v) w' := by
    unfold execOp
    simp only [hop, Sem.run_bind, Sem.run_pure, Result.andThen_ok, hr]
  rw [hx]
  exact hg (a.put o.dst v) (by rw [(put_size a o.dst v).2]; exact hd) (by rw [(put_size a o.dst v).1]; exact hn) (putV_spec ha hn hall.2 (fun u hu => Option.some.inj hu))
/-- Run to a conversion; what it comes to is owed. -/
theorem go_conv (fuel : Nat) (hs : List (Nat × Nat × HintS)) (s d : TypeId) (x : Value) (ts : List Tmp) (vs : List Value) (r : Tmp) (rows : List RowS) (tg : List (Nat × Nat)) (T : List K) (eqs : List (Value × Value)) (sems : List (Sem Value × Value)) {c : Cfg} {w : World}
    (hW : Wst W0 c.m w)
    (he : ((atConv n (run P n gt unroll hs fuel c).1, ts.map (run P n gt unroll hs fuel c).1.fr, (run P n gt unroll hs fuel c).1.m.rows, callDst (run P n gt unroll hs fuel c).1, (run P n gt unroll hs fuel c).2.eqs, (run P n gt unroll hs fuel c).2.sems), (run P n gt unroll hs fuel c).2.blks.map (·.1)) =
      ((some (s, d, x), vs.map some, rows, some (r, T), eqs, sems), (run P n gt unroll hs fuel c).2.blks.map (·.2)))
    (h1 : Eqs eqs) (h2 : SemObs P c.m w sems)
    (hk : ∀ w', Wst W0 ⟨rows, w'.heap.size⟩ w' → Seg c.m w ⟨rows, w'.heap.size⟩ w' → ∃ v w2, (convert s d x).run P w' = .ok v w2 ∧ Goal P Q n ⟨frOf (r :: ts) (v :: vs), tagL tg, ⟨rows, w2.heap.size⟩, T⟩ w2) : Goal P Q n c w := by
  simp only [Prod.mk.injEq] at he
  obtain ⟨⟨e1, e0, er, ed, e2, e3⟩, e4⟩ := he
  refine run_ok fuel hW (Seg.refl _ _) ⟨?_, all_of_maps e4, ?_⟩ fun w' hW' hS' => ?_
  · rw [e2]; exact h1.mem
  · rw [e3]; exact h2.mem
  · have em : (run P n gt unroll hs fuel c).1.m = ⟨rows, w'.heap.size⟩ := by rw [← er, hW'.size]
    rw [em] at hW' hS'
    obtain ⟨v, w2, hr, hg⟩ := hk w' hW' hS'
    exact conv_ok e1 hr (goal_at ed e0 hg)
end
theorem str_bytes (w : World) (l : List UInt8) (hl : l.length ≤ 1099511627776) : ∃ v w', (convert 9 26 (.string (str l))).run Tryd.prog w = .ok v w' ∧ Rd w' v l ∧ Keep No w w' ∧ Since w.heap.size v ∧ Under w'.heap.size v := by
  have h := Lib.run_convert_string_bytes (P := Tryd.prog) w 9 26 5 (str l) Tryd.underlying9 bt.sl Tryd.underlying5
  have hs : (str l).size = l.length := by simp
  rw [hs] at h
  have hcm : grownCap w l.length 0 5 ≤ maxLen := grownCap_le_maxLen w l.length 0 5 (by simp only [maxLen]; omega)
  refine ⟨_, _, h, ⟨⟨_, _, rfl, grownCap_ge w l.length 0 5, hcm, by simp, fun _ => ⟨_, _, rfl⟩⟩, fun i hi => ?_⟩, ?_, fun b hb => ?_, fun b hb => ?_⟩
  · have := Lib.bytesWorld_cell w 5 (str l) i (by rw [hs]; exact hi)
    simp only [blk, offs, Nat.zero_add]
    rw [this]
    simp [str, byteAt]
  · refine ⟨rfl, rfl, rfl, by rw [Lib.bytesWorld_size]; omega, fun k hk _ => Lib.bytesWorld_at_old w 5 (str l) k hk⟩
  · obtain rfl : w.heap.size = b := Option.some.inj hb
    exact Nat.le_refl _
  · obtain rfl : w.heap.size = b := Option.some.inj hb
    rw [Lib.bytesWorld_size]; omega
end Go.Proofs.YtcimfojbggckhaaDoor
namespace Go.Proofs.YtcimfojbggckhaaDoor
open Go.RowKit

noncomputable abbrev t1C : Code := bodyOf Tryd.f49
abbrev hdrL : List UInt8 := [2, 0, 0, 0, 0, 1, 2, 0, 0, 0, 0, 2]
theorem str_app (a b : List UInt8) : str a ++ str b = str (a ++ b) := by
  apply ByteArray.ext
  simp [str]
theorem add_str (w : World) (x y : Operand) (a b : List UInt8) (ha : a.length ≤ 1000000) (hb : b.length ≤ 1000000) : (do eqGuard .add 9 x y (.string (str a)) (.string (str b)); binOp .add 9 (.string (str a)) (.string (str b)) : Sem Value).run Tryd.prog w = .ok (.string (str (a ++ b))) w := by
  simp [eqGuard, binOp, Op.stringOp, str_app]
  omega
theorem eq_str (w : World) (x y : Operand) (a b : List UInt8) : (do eqGuard .eql 9 x y (.string (str a)) (.string (str b)); binOp .eql 9 (.string (str a)) (.string (str b)) : Sem Value).run Tryd.prog w = .ok (.bool (a == b)) w := by
  simp [eqGuard, binOp, Op.stringOp]
theorem frame_err {bs : List UInt8} (h : (frameR bs).2 ≠ 0) : (frameR bs).1 = fc0 := by
  revert h
  unfold frameR
  split
  · intro _; rfl
  split
  · intro _; rfl
  rcases readT 3 [] (bs.drop 12) with ⟨l, rr, e⟩
  simp only
  split
  · intro _; rfl
  split
  · intro _; rfl
  split
  · intro _; rfl
  · intro h; exact absurd rfl h
theorem GetF.later {w w1 w2 : World} {f : Fr} {c : Fc} (h : GetF w f c w1) (k : Keep No w1 w2) : GetF w f c w2 :=
  ⟨⟨h.is.dst, h.is.src, h.is.tags.keep0 k, h.is.kind, h.is.typ, h.is.llc, h.is.oui, h.is.body.keep0 k, h.is.rest.keep0 k⟩, h.keep.trans k, h.st, h.sb, h.sr, h.lt.mono k.size, h.lb.mono k.size, h.lr.mono k.size⟩
/-- Through a stretch whose rows are none of the frame's. -/
theorem GetF.walk {W W0 w w1 w2 : World} {rows : List RowS} {m' : Mem} {f : Fr} {c : Fc} (h : GetF w f c w1) (hr : ∀ r ∈ rows, r.b < w.heap.size) (hS : Seg ⟨rows, w1.heap.size⟩ w1 m' w2) (hW : Wst W0 m' w2) (hsz : W.heap.size ≤ w.heap.size) (k : Keep No W w2) : GetF W f c w2 := by
  have hle : w1.heap.size ≤ w2.heap.size := by rw [hW.size]; exact hS.le
  have sf : ∀ {v : Value}, Since w.heap.size v → Under w1.heap.size v → ∀ b, v.ownBlock = some b → Safe ⟨rows, w1.heap.size⟩ b := fun hs hu b hb => ⟨hu b hb, fun r hm _ e => by have := hr r hm; have := hs b hb; omega⟩
  exact ⟨⟨h.is.dst, h.is.src, h.is.tags.same fun b hb _ => hS.same b (sf h.st h.lt b hb), h.is.kind, h.is.typ, h.is.llc, h.is.oui, h.is.body.safe (sf h.sb h.lb) hS.same, h.is.rest.safe (sf h.sr h.lr) hS.same⟩, k, h.st.mono hsz, h.sb.mono hsz, h.sr.mono hsz, h.lt.mono hle, h.lb.mono hle, h.lr.mono hle⟩
theorem GetF.mono {w0 w w1 : World} {f : Fr} {c : Fc} (h : GetF w f c w1) (k : Keep No w0 w) : GetF w0 f c w1 := ⟨h.is, k.trans h.keep, h.st.mono k.size, h.sb.mono k.size, h.sr.mono k.size, h.lt, h.lb, h.lr⟩
/-- A frame's slices show their parts. -/
theorem GetF.forms {w w1 : World} {f : Fr} {c : Fc} (h : GetF w f c w1) : ∃ to tn tc bo bn' bc ro rn rc, f.tags = .slice to tn tc ∧ f.body = .slice bo bn' bc ∧ f.rest = .slice ro rn rc := by
  obtain ⟨to, tc, ht, _⟩ := h.is.tags.shape
  obtain ⟨bo, bn', bc, hb⟩ := h.is.body.form
  obtain ⟨ro, rn, rc, hr⟩ := h.is.rest.form
  exact ⟨to, _, tc, bo, bn', bc, ro, rn, rc, ht, hb, hr⟩
/-- A frame that was got, or none. -/
theorem tell_any {w : World} (s : List UInt8) (hk : Kh w) (hs : Sh w) (hl : s.length ≤ 1000000) : Calls Tryd.prog 49 #[.string (str s)] w fun x w' => ∃ f, x = .returned (.agg f.a) ∧ GetF w f (frameR (hdrL ++ s)).1 w' := by
  refine enter (args := [.string (str s)]) Tryd.func49 (by kernel_rfl) ?_
  refine go_conv (gt := fun _ => Option.none) (unroll := false) 60 [(1, 1, .sem (.string (str (hdrL ++ s)))), (1, 2, .stop)] 9 26 (.string (str (hdrL ++ s))) [2] [pT w.heap.size] 8 [⟨w.heap.size, fr0.a.toList, true⟩] [(2, 0)] (inR t1C 1 2) [] [((do eqGuard .add 9 (.const (.string (str hdrL))) (.tmp 6) (.string (str hdrL)) (.string (str s)); binOp .add 9 (.string (str hdrL)) (.string (str s)) : Sem Value), .string (str (hdrL ++ s)))] (Wst.start0 w) (by kernel_rfl) trivial ⟨fun wx _ => add_str wx _ _ _ _ (by simp) hl, trivial⟩ ?_
  intro w1 hW1 _
  have hlen : (hdrL ++ s).length ≤ 1099511627776 := by simp; omega
  obtain ⟨v, w2, hr, rd, k2, hsi, hun⟩ := str_bytes w1 (hdrL ++ s) hlen
  refine ⟨v, w2, hr, ?_⟩
  have hW2 := hW1.later k2
  refine go_call_is (gt := fun _ => Option.none) (unroll := false) 60 [] 23 [v] [2] [pT w.heap.size] 9 [⟨w.heap.size, fr0.a.toList, true⟩] [(2, 0)] (inR t1C 1 3) [] [] hW2 (by kernel_rfl) trivial trivial ?_
  intro w3 hW3 hS3
  have r3 : HdB [⟨w.heap.size, fr0.a.toList, true⟩] w3 v (hdrL ++ s) := HdB.pass0 ⟨rd, hun, Ap.fresh hW1 hsi⟩ hS3
  refine (get_any r3.rd hlen (hk.keep0 hW3.keep) (hs.keep0 hW3.keep)).mono ?_
  rintro x w4 ⟨f, rfl, F⟩
  refine ⟨_, rfl, ?_⟩
  have hW4 := hW3.later F.keep
  have F0 := F
  obtain ⟨to, tn, tc, bo, bn', bc, ro, rn, rc, e1, e2, e3⟩ := F.forms
  obtain ⟨fd, fs, ft, fk, fty, fl, fo, fb, fr⟩ := f
  simp only at e1 e2 e3
  subst e1 e2 e3
  by_cases he : (frameR (hdrL ++ s)).2 = 0
  · rw [he]
    refine go_ret (gt := fun _ => Option.none) (unroll := false) 60 [] [.cell 2 28] (.agg (⟨fd, fs, .slice to tn tc, fk, fty, fl, fo, .slice bo bn' bc, .slice ro rn rc⟩ : Fr).a) [] [] hW4 Tryd.results49 (by kernel_rfl) trivial trivial ?_
    intro w5 hW5 hS5
    have hlt : w.heap.size < w3.heap.size := by
      obtain ⟨t, ht⟩ := hW3.rows _ (List.mem_singleton.2 rfl)
      exact block_of_row ht
    exact ⟨_, rfl, F0.walk (rows := [⟨w.heap.size, fr0.a.toList, true⟩]) (fun r hr => by obtain rfl := List.mem_singleton.1 hr; exact hlt) hS5 hW5 hW3.keep.size hW5.keep⟩
  · refine go_ret (gt := fun _ => Option.none) (unroll := false) 60 [(2, 1, .is (.bool true))] [.cell 2 28] (.agg fr0.a) [(.bool ((((frameR (hdrL ++ s)).2 : Nat) : Int) != 0), .bool true)] [] hW4 Tryd.results49 (by kernel_rfl) ⟨congrArg Value.bool (by simpa using he), trivial⟩ trivial ?_
    intro w5 hW5 _
    exact ⟨fr0, rfl, by rw [frame_err he]; exact GetF.zero hW5.keep⟩
end Go.Proofs.YtcimfojbggckhaaDoor
namespace Go.Proofs.YtcimfojbggckhaaDoor
open Go.RowKit

noncomputable abbrev teC : Code := bodyOf Tryd.f19
noncomputable abbrev teN : Nat := Tryd.f19.ntmps
abbrev teQ (w : World) : Ending → World → Prop := fun x w' => x = .returned (.bool true) ∧ Keep No w w'
abbrev fnV : Value := .func (.func 49) #[] #[]
abbrev s1 : List UInt8 := [129, 0, 0, 5, 8, 0, 255]
abbrev s2 : List UInt8 := [0, 8, 170, 170, 3, 0, 0, 0, 8, 6, 238]
abbrev s3 : List UInt8 := [0, 3, 66, 66, 3]
theorem sem_str {w : World} {v : Value} {bs : List UInt8} (r : Rd w v bs) : (convert 26 9 v).run Tryd.prog w = .ok (.string (str bs)) w := r.run_str (dst := 9) bt Tryd.underlying9
theorem eq_sa3 (w : World) (x y : Operand) (a b : List UInt8) : (do eqGuard .eql 25 x y (a3 a) (a3 b); binOp .eql 25 (a3 a) (a3 b) : Sem Value).run Tryd.prog w = .ok (.bool (byteAt a 0 == byteAt b 0 && (byteAt a 1 == byteAt b 1 && byteAt a 2 == byteAt b 2))) w := by
  have h4 : (eqGuard .eql 25 x y (a3 a) (a3 b)).run Tryd.prog w = .ok () w := aRun_none (l := []) (by kernel_rfl)
  simp only [Sem.run_bind, h4, Result.andThen_ok]
  rw [run_eql_struct, eq_a3]
  rfl
theorem tells_any {w : World} (hk : Kh w) (hs : Sh w) : Calls Tryd.prog 19 #[] w (teQ w) := by
  refine enter (args := []) Tryd.func19 (by kernel_rfl) ?_
  refine go_callX_is (gt := fun _ => Option.none) (unroll := false) 60 [] 49 [.string (str s1)] [1] [fnV] 6 [] [] (inR teC 2 1) [] [] (Wst.start0 w) (by kernel_rfl) trivial trivial ?_
  intro w1 hW1 _
  refine (tell_any s1 (hk.keep0 hW1.keep) (hs.keep0 hW1.keep) (by simp)).mono ?_
  rintro x w2 ⟨f1, rfl, F1⟩
  refine ⟨_, rfl, ?_⟩
  have hW2 := hW1.later F1.keep
  refine go_callX_is (gt := fun _ => Option.none) (unroll := false) 60 [] 49 [.string (str s2)] [1, 6] [fnV, .agg f1.a] 8 [] [] (inR teC 2 3) [] [] hW2 (by kernel_rfl) trivial trivial ?_
  intro w3 hW3 hS3
  have F1 := F1.walk (rows := []) (fun _ h => nomatch h) hS3 hW3 hW1.keep.size hW3.keep
  refine (tell_any s2 (hk.keep0 hW3.keep) (hs.keep0 hW3.keep) (by simp)).mono ?_
  rintro x w4 ⟨f2, rfl, F2⟩
  refine ⟨_, rfl, ?_⟩
  have F1 := F1.later F2.keep
  have hW4 := hW3.later F2.keep
  refine go_callX_is (gt := fun _ => Option.none) (unroll := false) 60 [] 49 [.string (str s3)] [6, 8] [.agg f1.a, .agg f2.a] 10 [] [] (inR teC 2 5) [] [] hW4 (by kernel_rfl) trivial trivial ?_
  intro w5 hW5 hS5
  have F1 := F1.walk (rows := []) (fun _ h => nomatch h) hS5 hW5 (Nat.le_refl _) hW5.keep
  have F2 := F2.walk (rows := []) (fun _ h => nomatch h) hS5 hW5 hW3.keep.size hW5.keep
  refine (tell_any s3 (hk.keep0 hW5.keep) (hs.keep0 hW5.keep) (by simp)).mono ?_
  rintro x w6 ⟨f3, rfl, F3⟩
  refine ⟨_, rfl, ?_⟩
  have F1 := F1.later F3.keep
  have F2 := F2.later F3.keep
  have hW6 := hW5.later F3.keep
  obtain ⟨to1, tn1, tc1, bo1, bn1, bc1, ro1, rn1, rc1, a1, a2, a3'⟩ := F1.forms
  obtain ⟨to2, tn2, tc2, bo2, bn2, bc2, ro2, rn2, rc2, b1, b2, b3⟩ := F2.forms
  obtain ⟨to3, tn3, tc3, bo3, bn3, bc3, ro3, rn3, rc3, c1, c2, c3⟩ := F3.forms
  obtain ⟨fd1, fs1, ft1, fk1, fty1, fl1, fo1, fb1, fr1⟩ := f1
  obtain ⟨fd2, fs2, ft2, fk2, fty2, fl2, fo2, fb2, fr2⟩ := f2
  obtain ⟨fd3, fs3, ft3, fk3, fty3, fl3, fo3, fb3, fr3⟩ := f3
  simp only at a1 a2 a3' b1 b2 b3 c1 c2 c3
  subst a1 a2 a3' b1 b2 b3 c1 c2 c3
  obtain rfl : fk1 = 1 := F1.is.kind
  obtain rfl : fty1 = 2048 := F1.is.typ
  obtain rfl : fk2 = 3 := F2.is.kind
  obtain rfl : fty2 = 2054 := F2.is.typ
  obtain rfl : fk3 = 2 := F3.is.kind
  have T1 : Rt w6 (.slice to1 tn1 tc1) [tgN 33024 5] := F1.is.tags
  have B1 : Rd w6 (.slice bo1 bn1 bc1) [255] := F1.is.body
  have B2 : Rd w6 (.slice bo2 bn2 bc2) [] := F2.is.body
  have R2 : Rd w6 (.slice ro2 rn2 rc2) [238] := F2.is.rest
  have L3 : ∀ i, byteAt fl3 i = byteAt [66, 66, 3] i := F3.is.llc
  have t5 : ∀ wx, Rt wx (.slice to1 tn1 tc1) [tgN 33024 5] → (Instr.loadAt 55 (.pointer (some ((adt (.slice to1 tn1 tc1) 0).add 3)))).run Tryd.prog wx = .ok (.int .u16 5) wx := fun wx r => by
    obtain ⟨u, e1, e2⟩ := r.cellAt (i := 0) (j := 3) (by simp) (by omega)
    obtain rfl : Value.int .u16 5 = u := Option.some.inj e1
    have hu := run_underlying (P := Tryd.prog) (w := wx) Tryd.underlying55
    have ea : (adt (.slice to1 tn1 tc1) 0).add 3 = ⟨blk (.slice to1 tn1 tc1), offs (.slice to1 tn1 tc1) + 0 * 4 + 3, none⟩ := Addr_add_mk _ _ _
    rw [ea]
    simp [Instr.loadAt, Instr.sureAddr, loadVar, isAgg, hu, load, Sem.run, e2]
  refine go_stop (gt := fun _ => Option.none) (unroll := false) 100 [(3, 0, .stop)] [2, 3, 4] [pT w6.heap.size, pT (w6.heap.size + 1), pT (w6.heap.size + 2)] ([⟨w6.heap.size, (⟨fd1, fs1, .slice to1 tn1 tc1, 1, 2048, fl1, fo1, .slice bo1 bn1 bc1, .slice ro1 rn1 rc1⟩ : Fr).a.toList, true⟩, ⟨w6.heap.size + 1, (⟨fd2, fs2, .slice to2 tn2 tc2, 3, 2054, fl2, fo2, .slice bo2 bn2 bc2, .slice ro2 rn2 rc2⟩ : Fr).a.toList, true⟩, ⟨w6.heap.size + 2, (⟨fd3, fs3, .slice to3 tn3 tc3, 2, fty3, fl3, fo3, .slice bo3 bn3 bc3, .slice ro3 rn3 rc3⟩ : Fr).a.toList, true⟩]) [(2, 0), (3, 1), (4, 2)] (opsR teC 3) [] [] hW6 (by kernel_rfl) trivial trivial ?_
  intro w7 hW7 hS7
  have key : ∀ {wx : World}, (∀ k, Safe ⟨[⟨w6.heap.size, (⟨fd1, fs1, .slice to1 tn1 tc1, 1, 2048, fl1, fo1, .slice bo1 bn1 bc1, .slice ro1 rn1 rc1⟩ : Fr).a.toList, true⟩, ⟨w6.heap.size + 1, (⟨fd2, fs2, .slice to2 tn2 tc2, 3, 2054, fl2, fo2, .slice bo2 bn2 bc2, .slice ro2 rn2 rc2⟩ : Fr).a.toList, true⟩, ⟨w6.heap.size + 2, (⟨fd3, fs3, .slice to3 tn3 tc3, 2, fty3, fl3, fo3, .slice bo3 bn3 bc3, .slice ro3 rn3 rc3⟩ : Fr).a.toList, true⟩], w7.heap.size⟩ k → wx.heap[k]? = w7.heap[k]?) → ∀ {b : Nat}, b < w6.heap.size → wx.heap[b]? = w6.heap[b]? := fun hx b hb => by
    have hs7 : Safe ⟨[], w6.heap.size⟩ b := ⟨hb, fun _ h => nomatch h⟩
    have h1 := hS7.same b hs7
    refine (hx b ⟨Nat.lt_of_lt_of_le hb hS7.le, fun q hq _ e => ?_⟩).trans h1
    simp only [List.mem_cons, List.not_mem_nil, or_false] at hq
    rcases hq with rfl | rfl | rfl
    · have e : w6.heap.size = b := e; omega
    · have e : w6.heap.size + 1 = b := e; omega
    · have e : w6.heap.size + 2 = b := e; omega
  exact go_ret (gt := fun _ => Option.none) (unroll := false) 100 [(3, 6, .sem (.int .i64 1)), (3, 12, .sem (.pointer (some (adt (.slice to1 tn1 tc1) 0)))), (3, 14, .sem (.int .u16 5)), (3, 25, .sem (.string (str [255]))), (3, 26, .sem (.bool true)), (3, 41, .sem (.int .i64 0)), (3, 47, .sem (.string (str [238]))), (3, 48, .sem (.bool true)), (3, 59, .sem (.bool true))] [.tmp 0] (.bool true) [] [(Builtin.len_ #[24] 3 #[.slice to1 tn1 tc1], .int .i64 1), (Instr.indexAt 24 (.slice to1 tn1 tc1) (.int .i64 0), .pointer (some (adt (.slice to1 tn1 tc1) 0))), (Instr.loadAt 55 (.pointer (some ((adt (.slice to1 tn1 tc1) 0).add 3))), .int .u16 5), (convert 26 9 (.slice bo1 bn1 bc1), .string (str [255])), ((do eqGuard .eql 9 (.tmp 36) (.const (.string (str [255]))) (.string (str [255])) (.string (str [255])); binOp .eql 9 (.string (str [255])) (.string (str [255])) : Sem Value), .bool true), (Builtin.len_ #[26] 3 #[.slice bo2 bn2 bc2], .int .i64 0), (convert 26 9 (.slice ro2 rn2 rc2), .string (str [238])), ((do eqGuard .eql 9 (.tmp 58) (.const (.string (str [238]))) (.string (str [238])) (.string (str [238])); binOp .eql 9 (.string (str [238])) (.string (str [238])) : Sem Value), .bool true), ((do eqGuard .eql 25 (.tmp 68) (.tmp 69) (a3 fl3) (a3 [66, 66, 3]); binOp .eql 25 (a3 fl3) (a3 [66, 66, 3]) : Sem Value), .bool true)] hW7 Tryd.results19 (by kernel_rfl) trivial ⟨fun wx _ => T1.sem_len ett (ty := 3) wx, fun wx _ => T1.sem_at ett (i := 0) (by simp) wx, fun wx hx => t5 wx (T1.same fun b hb _ => key hx (F1.lt b hb)), fun wx hx => sem_str (B1.safe (m := ⟨[], w6.heap.size⟩) (fun b hb => ⟨F1.lb b hb, fun _ h => nomatch h⟩) fun b hb => key hx hb.1), fun wx _ => eq_str wx _ _ _ _, fun wx _ => B2.run_len (ty := 3) bt.sl, fun wx hx => sem_str (R2.safe (m := ⟨[], w6.heap.size⟩) (fun b hb => ⟨F2.lr b hb, fun _ h => nomatch h⟩) fun b hb => key hx hb.1), fun wx _ => eq_str wx _ _ _ _, fun wx _ => by have := eq_sa3 wx (.tmp 68) (.tmp 69) fl3 [66, 66, 3]; rw [L3, L3, L3] at this; exact this, trivial⟩ (fun w9 hW9 _ => ⟨rfl, hW9.keep⟩)
end Go.Proofs.YtcimfojbggckhaaDoor
namespace Go.Proofs.YtcimfojbggckhaaDoor
open Go.RowKit

noncomputable abbrev esC : Code := bodyOf Tryd.f24
noncomputable abbrev esN : Nat := Tryd.f24.ntmps
theorem eq_a6 (w : World) (a b : List UInt8) : (Op.equalIn 10000 22 (a6 a) (a6 b)).run Tryd.prog w = .ok (byteAt a 0 == byteAt b 0 && (byteAt a 1 == byteAt b 1 && (byteAt a 2 == byteAt b 2 && (byteAt a 3 == byteAt b 3 && (byteAt a 4 == byteAt b 4 && byteAt a 5 == byteAt b 5))))) w := by
  obtain ⟨i, hi, _⟩ := bt.info
  have := run_equal_ints (P := Tryd.prog) 9998 Tryd.underlying22 hi Tryd.underlying5 (by kernel_rfl) w #[bv (byteAt a 0), bv (byteAt a 1), bv (byteAt a 2), bv (byteAt a 3), bv (byteAt a 4), bv (byteAt a 5)] #[bv (byteAt b 0), bv (byteAt b 1), bv (byteAt b 2), bv (byteAt b 3), bv (byteAt b 4), bv (byteAt b 5)] (bn a) (bn b) (fun j hj => by
    have : j = 0 ∨ j = 1 ∨ j = 2 ∨ j = 3 ∨ j = 4 ∨ j = 5 := by omega
    rcases this with rfl | rfl | rfl | rfl | rfl | rfl <;> exact ⟨rfl, rfl⟩)
  rw [this]
  have e : ∀ i, (bn a i == bn b i) = (byteAt a i == byteAt b i) := fun i => by
    rw [Bool.eq_iff_iff, beq_iff_eq, beq_iff_eq]
    constructor
    · intro h
      exact UInt8.toNat_inj.1 (by simp only [bn] at h; omega)
    · intro h
      simp only [bn, h]
  simp [List.range_succ, e]
theorem eq_sa6 (w : World) (x y : Operand) (a : List UInt8) : (do eqGuard .eql 22 x y (a6 a) (a6 a); binOp .eql 22 (a6 a) (a6 a) : Sem Value).run Tryd.prog w = .ok (.bool true) w := by
  have h4 : (eqGuard .eql 22 x y (a6 a) (a6 a)).run Tryd.prog w = .ok () w := aRun_none (l := []) (by kernel_rfl)
  simp only [Sem.run_bind, h4, Result.andThen_ok]
  rw [run_eql_struct, eq_a6]
  simp
theorem eq_ssa3 (w : World) (x y : Operand) (a : List UInt8) : (do eqGuard .eql 25 x y (a3 a) (a3 a); binOp .eql 25 (a3 a) (a3 a) : Sem Value).run Tryd.prog w = .ok (.bool true) w := by
  rw [eq_sa3]; simp
abbrev esQ (w : World) : Ending → World → Prop := fun x w' => x = .returned (.bool true) ∧ Keep No w w'
section
variable {w : World} {d s ll oo : List UInt8} {to bo ro uo xo yo : Option Addr} {tn tc bn' bc rn rc un uc xn xc yn yc : Nat} {k t : Int} {l : List Tg} {bs rs : List UInt8}
abbrev esRows (w : World) (F G : Fr) : List RowS := [⟨w.heap.size, F.a.toList, true⟩, ⟨w.heap.size + 1, G.a.toList, true⟩]
noncomputable def esL (w : World) (F G : Fr) (n j : Nat) (w' : World) : Cfg := ⟨frOf [2, 3, 5] [pT w.heap.size, pT (w.heap.size + 1), .int .i64 ((n - j : Nat) : Int)], tagL [(2, 0), (3, 1)], ⟨esRows w F G, w'.heap.size⟩, atL esC 4⟩
def esJ (w : World) (F G : Fr) (n j : Nat) (w' : World) : Prop := j ≤ n ∧ Wst w ⟨esRows w F G, w'.heap.size⟩ w'
noncomputable def esR (w : World) (F G : Fr) (n j : Nat) : Act → World → Prop := fun a' w' => ∃ j', j' < j ∧ esJ w F G n j' w' ∧ agrees esN (esL w F G n j' w') a'
set_option maxRecDepth 8000 in
theorem same_any {F G : Fr} (hF : (⟨d, s, .slice to tn tc, k, t, ll, oo, .slice bo bn' bc, .slice ro rn rc⟩ : Fr) = F) (hG : (⟨d, s, .slice uo un uc, k, t, ll, oo, .slice xo xn xc, .slice yo yn yc⟩ : Fr) = G)
    (r1 : Rt w (.slice to tn tc) l) (r2 : Rt w (.slice uo un uc) l) (b1 : Rd w (.slice bo bn' bc) bs) (b2 : Rd w (.slice xo xn xc) bs) (c1 : Rd w (.slice ro rn rc) rs) (c2 : Rd w (.slice yo yn yc) rs) (hl : l.length ≤ 1000000) :
    Calls Tryd.prog 24 #[.agg F.a, .agg G.a] w (esQ w) := by
  refine enter (args := [.agg F.a, .agg G.a]) Tryd.func24 (by kernel_rfl) ?_
  refine go_stop (gt := fun _ => Option.none) (unroll := false) 100 [(1, 2, .sem (.int .i64 (l.length : Int))), (1, 5, .sem (.int .i64 (l.length : Int))), (1, 6, .is (.bool false))] [2, 3, 5] [pT w.heap.size, pT (w.heap.size + 1), .int .i64 0] (esRows w F G) [(2, 0), (3, 1)] (atL esC 4) [(.bool ((l.length : Int) != (l.length : Int)), .bool false)] [(Builtin.len_ #[30] 3 #[.slice to tn tc], .int .i64 (l.length : Int)), (Builtin.len_ #[30] 3 #[.slice uo un uc], .int .i64 (l.length : Int))] (Wst.start0 w) (by subst hF hG; kernel_rfl) ⟨congrArg Value.bool (by simp), trivial⟩ ⟨fun wx _ => r1.sem_len ertt (ty := 3) wx, fun wx _ => r2.sem_len ertt (ty := 3) wx, trivial⟩ ?_
  intro w1 hW1 _
  have key := loop_okT (P := Tryd.prog) (Q := bodyPost Tryd.prog Tryd.f24 (esQ w)) (n := esN) (x := loopOf (atL esC 4)) (k := (atL esC 4).tail) (fun j : Nat => j) (esL w F G l.length) (esJ w F G l.length) (fun _ _ => by kernel_rfl) ?_ l.length w1
    ⟨Nat.le_refl _, hW1⟩
  · unfold esL at key
    rw [Nat.sub_self] at key
    exact key
  rintro j w' ⟨hj, hW⟩
  cases j with
  | zero =>
    unfold esL
    simp only [Nat.sub_zero]
    refine go_ret (gt := fun _ => Option.none) (unroll := false) 200 [(4, 3, .sem (.int .i64 (l.length : Int))), (4, 4, .is (.bool false)), (8, 4, .sem (.bool true)), (8, 10, .sem (.bool true)), (8, 17, .is (.bool true)), (8, 24, .is (.bool true)), (8, 31, .sem (.bool true)), (8, 38, .sem (.bool true)), (8, 43, .sem (.string (str bs))), (8, 46, .sem (.string (str bs))), (8, 47, .sem (.bool true)), (8, 52, .sem (.string (str rs))), (8, 55, .sem (.string (str rs))), (8, 56, .sem (.bool true))] [.tmp 4] (.bool true) [(.bool (decide ((l.length : Int) < (l.length : Int))), .bool false), (.bool (k == k), .bool true), (.bool (t == t), .bool true)]
      [(Builtin.len_ #[30] 3 #[.slice to tn tc], .int .i64 (l.length : Int)), ((do eqGuard .eql 22 (.tmp 32) (.tmp 34) (a6 d) (a6 d); binOp .eql 22 (a6 d) (a6 d) : Sem Value), .bool true), ((do eqGuard .eql 22 (.tmp 38) (.tmp 40) (a6 s) (a6 s); binOp .eql 22 (a6 s) (a6 s) : Sem Value), .bool true), ((do eqGuard .eql 25 (.tmp 59) (.tmp 61) (a3 ll) (a3 ll); binOp .eql 25 (a3 ll) (a3 ll) : Sem Value), .bool true), ((do eqGuard .eql 25 (.tmp 66) (.tmp 68) (a3 oo) (a3 oo); binOp .eql 25 (a3 oo) (a3 oo) : Sem Value), .bool true),
        (convert 26 9 (.slice bo bn' bc), .string (str bs)), (convert 26 9 (.slice xo xn xc), .string (str bs)), ((do eqGuard .eql 9 (.tmp 74) (.tmp 77) (.string (str bs)) (.string (str bs)); binOp .eql 9 (.string (str bs)) (.string (str bs)) : Sem Value), .bool true),
        (convert 26 9 (.slice ro rn rc), .string (str rs)), (convert 26 9 (.slice yo yn yc), .string (str rs)), ((do eqGuard .eql 9 (.tmp 83) (.tmp 86) (.string (str rs)) (.string (str rs)); binOp .eql 9 (.string (str rs)) (.string (str rs)) : Sem Value), .bool true)]
      hW Tryd.results24 (by subst hF hG; kernel_rfl) ⟨congrArg Value.bool (by simp), congrArg Value.bool (by simp), congrArg Value.bool (by simp), trivial⟩
      ⟨fun wx _ => r1.sem_len ertt (ty := 3) wx, fun wx _ => eq_sa6 wx _ _ _, fun wx _ => eq_sa6 wx _ _ _, fun wx _ => eq_ssa3 wx _ _ _, fun wx _ => eq_ssa3 wx _ _ _, fun wx hx => sem_str (b1.walk hW hx), fun wx hx => sem_str (b2.walk hW hx), fun wx _ => by rw [eq_str]; simp, fun wx hx => sem_str (c1.walk hW hx), fun wx hx => sem_str (c2.walk hW hx), fun wx _ => by rw [eq_str]; simp, trivial⟩ (fun w9 hW9 _ => ⟨rfl, hW9.keep⟩)
  | succ j =>
    show Goal Tryd.prog (bodyPost Tryd.prog Tryd.f24 (esQ w)) esN { esL w F G l.length (j + 1) w' with todo := .code (loopOf (atL esC 4)) :: .inv (esR w F G l.length (j + 1)) :: (atL esC 4).tail } w'
    unfold esL
    simp only
    have hi : l.length - (j + 1) < l.length := by omega
    have hnext : l.length - (j + 1) + 1 = l.length - j := by omega
    generalize hI : l.length - (j + 1) = i at *
    have hc : (i : Int) < (l.length : Int) := by omega
    refine go_drawn_is (gt := fun _ => Option.none) (unroll := false) 60 [(4, 3, .sem (.int .i64 (l.length : Int))), (4, 4, .is (.bool true))] [(.bool (decide ((i : Int) < (l.length : Int))), .bool true)] [(Builtin.len_ #[30] 3 #[.slice to tn tc], .int .i64 (l.length : Int))]
      [(3, .sem (.pointer (some (adt (.slice to tn tc) i)))), (4, .sem (.agg (l[i]).a)), (8, .sem (.pointer (some (adt (.slice uo un uc) i)))), (9, .sem (.agg (l[i]).a)), (10, .bin (.bool false))]
      [2, 3, 5, 30] [pT w.heap.size, pT (w.heap.size + 1), .int .i64 (i : Int), .bool false] (esRows w F G) [(2, 0), (3, 1)] (afterR esC 6 (.inv (esR w F G l.length (j + 1)))) [] [] [(.neq, 72, .agg (l[i]).a, .agg (l[i]).a, .bool false)]
      [(Instr.indexAt 30 (.slice to tn tc) (.int .i64 (i : Int)), .pointer (some (adt (.slice to tn tc) i))), (Instr.loadAt 72 (.pointer (some (adt (.slice to tn tc) i))), .agg (l[i]).a), (Instr.indexAt 30 (.slice uo un uc) (.int .i64 (i : Int)), .pointer (some (adt (.slice uo un uc) i))), (Instr.loadAt 72 (.pointer (some (adt (.slice uo un uc) i))), .agg (l[i]).a)]
      hW (by subst hF hG; kernel_rfl) (by subst hF hG; kernel_rfl) (by subst hF hG; kernel_rfl) ⟨congrArg Value.bool (by simpa using hc), trivial⟩ ⟨fun wx _ => r1.sem_len ertt (ty := 3) wx, trivial⟩ trivial ?_
    intro w2 hW2 hS2
    have k2 := hW2.keep
    refine ⟨trivial, ⟨fun wx _ => nbin_rtg (w := wx) (l[i]), trivial⟩, ⟨fun wx _ => r1.sem_at ertt hi wx, fun wx kx => (r1.keep0 (k2.trans kx)).sem_ld ertt hi, fun wx _ => r2.sem_at ertt hi wx, fun wx kx => (r2.keep0 (k2.trans kx)).sem_ld ertt hi, trivial⟩, ?_⟩
    intro w3 k3 hW3 hS3
    refine go_inv (gt := fun _ => Option.none) (unroll := false) 60 [(5, 1, .is (.int .i64 ((i + 1 : Nat) : Int)))] [2, 3, 5] [pT w.heap.size, pT (w.heap.size + 1), .int .i64 ((i + 1 : Nat) : Int)] (esRows w F G) (esR w F G l.length (j + 1)) [(.int .i64 (IntKind.i64.wrap ((i : Int) + 1)), .int .i64 ((i + 1 : Nat) : Int))] [] hW3 (by kernel_rfl)
      ⟨congrArg (Value.int .i64) (by rw [IntWalk.i64_in _ (by omega)]; omega), trivial⟩ trivial ?_
    intro w5 a hW5 hS5 hs
    refine ⟨j, Nat.lt_succ_self j, ⟨by omega, hW5⟩, ?_⟩
    unfold esL
    rw [← hnext]
    exact hs
end
end Go.Proofs.YtcimfojbggckhaaDoor
namespace Go.Proofs.YtcimfojbggckhaaDoor
open Go.RowKit

/-- What the document's Get leaves: body and rest lie in the bytes that were read. -/
structure RgF (w : World) (v0 : Value) (bs : List UInt8) (f : Fr) (c : Fc) (w' : World) : Prop where
  dst : ∀ i, byteAt f.dst i = byteAt c.dst i
  src : ∀ i, byteAt f.src i = byteAt c.src i
  tags : Rt w' f.tags c.tags
  kind : f.kind = c.kind
  typ : f.typ = c.typ
  llc : ∀ i, byteAt f.llc i = byteAt c.llc i
  oui : ∀ i, byteAt f.oui i = byteAt c.oui i
  body : ∀ wx, Rd wx v0 bs → Rd wx f.body c.body
  rest : ∀ wx, Rd wx v0 bs → Rd wx f.rest c.rest
  keep : Keep No w w'
  st : Since w.heap.size f.tags
  lt : Under w'.heap.size f.tags
abbrev rgQ (w : World) (v : Value) (bs : List UInt8) : Ending → World → Prop := fun x w' => ∃ f, x = .returned (.tuple #[.agg f.a, .int .i64 ((frameR bs).2 : Nat)]) ∧ RgF w v bs f (frameR bs).1 w'
theorem RgF.zero {w w' : World} {v : Value} {bs : List UInt8} (k : Keep No w w') : RgF w v bs fr0 fc0 w' := ⟨fun _ => rfl, fun _ => rfl, Rt.nil _, rfl, rfl, fun _ => rfl, fun _ => rfl, fun _ _ => Rd.nil _, fun _ _ => Rd.nil _, k, nilV_since _, nilV_under _⟩
theorem rg_fail {w w' : World} {v : Value} {bs : List UInt8} {e : Nat} (he : frameR bs = (fc0, e)) (k : Keep No w w') : rgQ w v bs (.returned (.tuple #[.agg fr0.a, .int .i64 (e : Int)])) w' :=
  ⟨fr0, by rw [he], by rw [he]; exact RgF.zero k⟩
noncomputable abbrev rgC : Code := bodyOf Tryd.f25
noncomputable abbrev rgN : Nat := Tryd.f25.ntmps
theorem bt6 (bs : List UInt8) {i : Nat} (h : i < 6) : byteAt (bs.take 6) i = byteAt bs i := by
  simp [byteAt, List.getD_eq_getElem?_getD, h]
theorem bt3 (bs : List UInt8) {i : Nat} (h : i < 3) : byteAt (bs.take 3) i = byteAt bs i := by
  simp [byteAt, List.getD_eq_getElem?_getD, h]
theorem ne_u8 {x y : UInt8} (h : x ≠ y) : (((x.toNat : Int)) != ((y.toNat : Nat) : Int)) = true := by
  have : x.toNat ≠ y.toNat := fun e => h (UInt8.toNat_inj.1 e)
  rw [bne_iff_ne]
  exact fun e => this (by omega)
theorem btd (bs : List UInt8) (a n : Nat) {i : Nat} (h : i < n) : byteAt ((bs.drop a).take n) i = byteAt bs (a + i) := by
  simp [byteAt, List.getD_eq_getElem?_getD, h]
section
variable {w : World} {v : Value} {bs : List UInt8}
theorem ld_as {wx : World} (r : Rd wx v bs) {i : Nat} (hi : i < bs.length) {y : UInt8} (hy : y = byteAt bs i) : (Instr.loadAt 5 (.pointer (some (adr v i)))).run Tryd.prog wx = .ok (bv y) wx := by rw [hy]; exact r.sem_ld hi
set_option maxRecDepth 8000 in
/-- Behind the tags. -/
theorem rg_tail (r : Rd w v bs) (hl : bs.length ≤ 1099511627776) (h1 : ¬ 65535 < bs.length) (h2 : ¬ bs.length < 12) {l : List Tg} {rr : List UInt8} (hq : readT 3 [] (bs.drop 12) = (l, rr, 0)) (hrl : rr.length ≤ 1099511627776) {to : Option Addr} {tn tc : Nat} {u : Value} {w2 : World} (hW2 : Wst w ⟨g2 w, w2.heap.size⟩ w2) (T2 : Hd (g2 w) w2 (.slice to tn tc) l) (U2 : ∀ wx, Rd wx v bs → Rd wx u rr) (hst : Since w.heap.size (.slice to tn tc)) (hr2 : ¬ rr.length < 2) :
    Goal Tryd.prog (bodyPost Tryd.prog Tryd.f25 (rgQ w v bs)) rgN ⟨frOf [0, 2, 4, 5] [v, pT w.heap.size, .slice to tn tc, u], tagL [(2, 0)], ⟨g2 w, w2.heap.size⟩, opsR rgC 10⟩ w2 := by
  have ef : frameR bs = if (carryR (be (rr.take 2)) (rr.drop 2)).e ≠ 0 then (fc0, (carryR (be (rr.take 2)) (rr.drop 2)).e) else (⟨bs.take 6, (bs.drop 6).take 6, l, (carryR (be (rr.take 2)) (rr.drop 2)).kind, (carryR (be (rr.take 2)) (rr.drop 2)).typ, (carryR (be (rr.take 2)) (rr.drop 2)).llc, (carryR (be (rr.take 2)) (rr.drop 2)).oui, (carryR (be (rr.take 2)) (rr.drop 2)).body, (carryR (be (rr.take 2)) (rr.drop 2)).rest⟩, 0) := by
    unfold frameR
    rw [if_neg h1, if_neg h2, hq]
    simp only [ne_eq, not_true_eq_false, if_false]
    exact if_neg hr2
  have rx : ∀ wx, (∀ k, Safe ⟨g2 w, w2.heap.size⟩ k → wx.heap[k]? = w2.heap[k]?) → Rd wx v bs := fun wx hx => (r.keep0 hW2.keep).safe (m := ⟨g2 w, w2.heap.size⟩) (fun b hb => ⟨Nat.lt_of_lt_of_le (r.blk_lt hb (by omega)) hW2.keep.size, fun q hq _ e => by obtain rfl := List.mem_singleton.1 hq; have := r.blk_lt hb (by omega); have e : w.heap.size = b := e; omega⟩) hx
  refine go_stop (gt := fun _ => Option.none) (unroll := true) 400 [(14, 3, .sem (.pointer (some (adr v 0)))), (14, 4, .sem (bv (byteAt (bs.take 6) 0))), (15, 4, .sem (.pointer (some (adr v 6)))), (15, 5, .sem (bv (byteAt ((bs.drop 6).take 6) 0))), (14, 3, .sem (.pointer (some (adr v 1)))), (14, 4, .sem (bv (byteAt (bs.take 6) 1))), (15, 4, .sem (.pointer (some (adr v 7)))), (15, 5, .sem (bv (byteAt ((bs.drop 6).take 6) 1))), (14, 3, .sem (.pointer (some (adr v 2)))), (14, 4, .sem (bv (byteAt (bs.take 6) 2))), (15, 4, .sem (.pointer (some (adr v 8)))), (15, 5, .sem (bv (byteAt ((bs.drop 6).take 6) 2))), (14, 3, .sem (.pointer (some (adr v 3)))), (14, 4, .sem (bv (byteAt (bs.take 6) 3))), (15, 4, .sem (.pointer (some (adr v 9)))), (15, 5, .sem (bv (byteAt ((bs.drop 6).take 6) 3))), (14, 3, .sem (.pointer (some (adr v 4)))), (14, 4, .sem (bv (byteAt (bs.take 6) 4))), (15, 4, .sem (.pointer (some (adr v 10)))), (15, 5, .sem (bv (byteAt ((bs.drop 6).take 6) 4))), (14, 3, .sem (.pointer (some (adr v 5)))), (14, 4, .sem (bv (byteAt (bs.take 6) 5))), (15, 4, .sem (.pointer (some (adr v 11)))), (15, 5, .sem (bv (byteAt ((bs.drop 6).take 6) 5)))] [2, 5, 7] [pT w.heap.size, u, pT w2.heap.size] ([⟨w.heap.size, fr0.a.toList, true⟩, ⟨w2.heap.size, (⟨(bs.take 6), ((bs.drop 6).take 6), .slice to tn tc, 0, 0, [], [], nilV, nilV⟩ : Fr).a.toList, true⟩]) [(2, 0), (7, 1)] (atR rgC 16) [] [(Instr.indexAt 26 v (.int .i64 0), .pointer (some (adr v 0))), (Instr.loadAt 5 (.pointer (some (adr v 0))), bv (byteAt (bs.take 6) 0)), (Instr.indexAt 26 v (.int .i64 6), .pointer (some (adr v 6))), (Instr.loadAt 5 (.pointer (some (adr v 6))), bv (byteAt ((bs.drop 6).take 6) 0)), (Instr.indexAt 26 v (.int .i64 1), .pointer (some (adr v 1))), (Instr.loadAt 5 (.pointer (some (adr v 1))), bv (byteAt (bs.take 6) 1)), (Instr.indexAt 26 v (.int .i64 7), .pointer (some (adr v 7))), (Instr.loadAt 5 (.pointer (some (adr v 7))), bv (byteAt ((bs.drop 6).take 6) 1)), (Instr.indexAt 26 v (.int .i64 2), .pointer (some (adr v 2))), (Instr.loadAt 5 (.pointer (some (adr v 2))), bv (byteAt (bs.take 6) 2)), (Instr.indexAt 26 v (.int .i64 8), .pointer (some (adr v 8))), (Instr.loadAt 5 (.pointer (some (adr v 8))), bv (byteAt ((bs.drop 6).take 6) 2)), (Instr.indexAt 26 v (.int .i64 3), .pointer (some (adr v 3))), (Instr.loadAt 5 (.pointer (some (adr v 3))), bv (byteAt (bs.take 6) 3)), (Instr.indexAt 26 v (.int .i64 9), .pointer (some (adr v 9))), (Instr.loadAt 5 (.pointer (some (adr v 9))), bv (byteAt ((bs.drop 6).take 6) 3)), (Instr.indexAt 26 v (.int .i64 4), .pointer (some (adr v 4))), (Instr.loadAt 5 (.pointer (some (adr v 4))), bv (byteAt (bs.take 6) 4)), (Instr.indexAt 26 v (.int .i64 10), .pointer (some (adr v 10))), (Instr.loadAt 5 (.pointer (some (adr v 10))), bv (byteAt ((bs.drop 6).take 6) 4)), (Instr.indexAt 26 v (.int .i64 5), .pointer (some (adr v 5))), (Instr.loadAt 5 (.pointer (some (adr v 5))), bv (byteAt (bs.take 6) 5)), (Instr.indexAt 26 v (.int .i64 11), .pointer (some (adr v 11))), (Instr.loadAt 5 (.pointer (some (adr v 11))), bv (byteAt ((bs.drop 6).take 6) 5))] hW2 (by kernel_rfl) trivial ⟨fun wx _ => r.sem_at (i := 0) (by omega) wx, fun wx hx => ld_as (rx wx hx) (by omega) (bt6 bs (by omega)), fun wx _ => r.sem_at (i := 6) (by omega) wx, fun wx hx => ld_as (rx wx hx) (by omega) (btd bs 6 6 (i := 0) (by omega)), fun wx _ => r.sem_at (i := 1) (by omega) wx, fun wx hx => ld_as (rx wx hx) (by omega) (bt6 bs (by omega)), fun wx _ => r.sem_at (i := 7) (by omega) wx, fun wx hx => ld_as (rx wx hx) (by omega) (btd bs 6 6 (i := 1) (by omega)), fun wx _ => r.sem_at (i := 2) (by omega) wx, fun wx hx => ld_as (rx wx hx) (by omega) (bt6 bs (by omega)), fun wx _ => r.sem_at (i := 8) (by omega) wx, fun wx hx => ld_as (rx wx hx) (by omega) (btd bs 6 6 (i := 2) (by omega)), fun wx _ => r.sem_at (i := 3) (by omega) wx, fun wx hx => ld_as (rx wx hx) (by omega) (bt6 bs (by omega)), fun wx _ => r.sem_at (i := 9) (by omega) wx, fun wx hx => ld_as (rx wx hx) (by omega) (btd bs 6 6 (i := 3) (by omega)), fun wx _ => r.sem_at (i := 4) (by omega) wx, fun wx hx => ld_as (rx wx hx) (by omega) (bt6 bs (by omega)), fun wx _ => r.sem_at (i := 10) (by omega) wx, fun wx hx => ld_as (rx wx hx) (by omega) (btd bs 6 6 (i := 4) (by omega)), fun wx _ => r.sem_at (i := 5) (by omega) wx, fun wx hx => ld_as (rx wx hx) (by omega) (bt6 bs (by omega)), fun wx _ => r.sem_at (i := 11) (by omega) wx, fun wx hx => ld_as (rx wx hx) (by omega) (btd bs 6 6 (i := 5) (by omega)), trivial⟩ ?_
  intro w3 hW3 hS3
  have hpw : w.heap.size < w2.heap.size := by
    obtain ⟨t', ht⟩ := hW2.rows _ (List.mem_singleton.2 rfl)
    exact block_of_row ht
  have T3 : Hd (g2 w) w3 (.slice to tn tc) l := (T2.pass [⟨w2.heap.size, (⟨(bs.take 6), ((bs.drop 6).take 6), .slice to tn tc, 0, 0, [], [], nilV, nilV⟩ : Fr).a.toList, true⟩] hS3 (fun q hq => by obtain rfl := List.mem_singleton.1 hq; exact Nat.le_refl _)).fewer
  have hTp : ∀ b, (Value.slice to tn tc).ownBlock = some b → b < w2.heap.size := fun b hb => T2.lt b hb
  have U3 : ∀ wx, Keep No w3 wx → Rd wx u rr := fun wx k => U2 wx (r.keep0 (hW3.keep.trans k))
  have hbn0 : bn rr 0 = ((byteAt rr 0).toNat : Int) := rfl
  have hbn1 : bn rr 1 = ((byteAt rr 1).toNat : Int) := rfl
  have hb0 := byteAt_lt rr 0
  have hb1 := byteAt_lt rr 1
  have hbe : be (rr.take 2) = 256 * (byteAt rr 0).toNat + (byteAt rr 1).toNat := by have := be_two (cs := rr) (k := 0) (by omega); simpa using this
  refine drawn_ok (gt := fun _ => Option.none) [(1, .sem (.pointer (some (adr u 0)))), (2, .sem (bv (byteAt rr 0))), (3, .is (.int .i64 (bn rr 0))), (4, .is (.int .i64 (256 * bn rr 0))), (6, .sem (.pointer (some (adr u 1)))), (7, .sem (bv (byteAt rr 1))), (8, .is (.int .i64 (bn rr 1))), (9, .is (.int .i64 (be (rr.take 2) : Nat)))]
    [2, 5, 7, 9] [.is (pT w.heap.size), .is u, .is (pT w2.heap.size), .is (.int .i64 (be (rr.take 2) : Nat))]
    [(.int .i64 (IntKind.i64.wrap (bn rr 0)), .int .i64 (bn rr 0)), (.int .i64 (IntKind.i64.wrap (256 * bn rr 0)), .int .i64 (256 * bn rr 0)), (.int .i64 (IntKind.i64.wrap (bn rr 1)), .int .i64 (bn rr 1)), (.int .i64 (IntKind.i64.wrap (256 * bn rr 0 + bn rr 1)), .int .i64 (be (rr.take 2) : Nat))] [] [] []
    [(Instr.indexAt 26 u (.int .i64 0), .pointer (some (adr u 0))), (Instr.loadAt 5 (.pointer (some (adr u 0))), bv (byteAt rr 0)), (Instr.indexAt 26 u (.int .i64 1), .pointer (some (adr u 1))), (Instr.loadAt 5 (.pointer (some (adr u 1))), bv (byteAt rr 1))]
    hW3 (by kernel_rfl) (by kernel_rfl) ⟨congrArg (Value.int .i64) (i64_small (by omega) (by omega)), congrArg (Value.int .i64) (i64_small (by omega) (by omega)), congrArg (Value.int .i64) (i64_small (by omega) (by omega)), congrArg (Value.int .i64) (by rw [i64_small (by omega) (by omega)]; omega), trivial⟩ trivial trivial trivial
    ⟨fun wx k => (U3 wx k).sem_at (i := 0) (by omega) wx, fun wx k => (U3 wx k).sem_ld (i := 0) (by omega), fun wx k => (U3 wx k).sem_at (i := 1) (by omega) wx, fun wx k => (U3 wx k).sem_ld (i := 1) (by omega), trivial⟩ ?_
  intro w4 vs k4 hok
  obtain rfl := allOk_is (vs := [pT w.heap.size, u, pT w2.heap.size, .int .i64 (be (rr.take 2) : Nat)]) hok
  have hW4 := hW3.later k4
  have T4 := T3.call k4
  have Uc : ∀ wx, Rd wx v bs → Rd wx (cutv u 2 rr.length) (rr.drop 2) := fun wx rx => by
    have := (U2 wx rx).cut (l := 2) (h := rr.length) (by omega) (Nat.le_refl _)
    rwa [List.take_of_length_le (by simp)] at this
  have U0 := U2 w r
  obtain ⟨xo, xn, xc, hx⟩ := (Uc w r).form
  rw [hx] at Uc
  generalize be (rr.take 2) = n at *
  generalize hcs : rr.drop 2 = cs at *
  have hcl : cs.length ≤ 1099511627776 := by rw [← hcs, List.length_drop]; omega
  have r4 : ∀ wx, (∀ k, Safe ⟨[⟨w.heap.size, fr0.a.toList, true⟩, ⟨w2.heap.size, (⟨(bs.take 6), ((bs.drop 6).take 6), .slice to tn tc, 0, 0, [], [], nilV, nilV⟩ : Fr).a.toList, true⟩], w4.heap.size⟩ k → wx.heap[k]? = w4.heap[k]?) → Rd wx v bs := fun wx hx => (r.keep0 hW4.keep).safe (m := ⟨[⟨w.heap.size, fr0.a.toList, true⟩, ⟨w2.heap.size, (⟨(bs.take 6), ((bs.drop 6).take 6), .slice to tn tc, 0, 0, [], [], nilV, nilV⟩ : Fr).a.toList, true⟩], w4.heap.size⟩) (fun b hb => ⟨Nat.lt_of_lt_of_le (r.blk_lt hb (by omega)) hW4.keep.size, fun q hq _ e => by
    have hlt := r.blk_lt hb (by omega)
    simp only [List.mem_cons, List.not_mem_nil, or_false] at hq
    rcases hq with rfl | rfl
    · have e : w.heap.size = b := e; omega
    · have e : w2.heap.size = b := e; omega⟩) hx
  have fin : ∀ {f : Fr} {w9 : World} {rows9 : List RowS}, (carryR n cs).e = 0 → f.dst = bs.take 6 → f.src = (bs.drop 6).take 6 → f.tags = .slice to tn tc → f.kind = (carryR n cs).kind → f.typ = (carryR n cs).typ → (∀ i, byteAt f.llc i = byteAt (carryR n cs).llc i) → (∀ i, byteAt f.oui i = byteAt (carryR n cs).oui i) → (∀ wx, Rd wx v bs → Rd wx f.body (carryR n cs).body) → (∀ wx, Rd wx v bs → Rd wx f.rest (carryR n cs).rest) → Wst w ⟨rows9, w9.heap.size⟩ w9 → (∀ b, (Value.slice to tn tc).ownBlock = some b → w9.heap[b]? = w4.heap[b]?) → w4.heap.size ≤ w9.heap.size → rgQ w v bs (.returned (.tuple #[.agg f.a, .int .i64 0])) w9 := fun {f w9 rows9} he e1 e2 e3 e4 e5 e6 e7 e8 e9 hW9 hs hle => by
    have ef2 : frameR bs = (⟨bs.take 6, (bs.drop 6).take 6, l, (carryR n cs).kind, (carryR n cs).typ, (carryR n cs).llc, (carryR n cs).oui, (carryR n cs).body, (carryR n cs).rest⟩, 0) := by rw [ef]; simp [he]
    refine ⟨f, by rw [ef2]; rfl, ?_⟩
    rw [ef2]
    exact ⟨fun i => by rw [e1], fun i => by rw [e2], by rw [e3]; exact T4.rt.same fun b hb _ => hs b hb, e4, e5, e6, e7, e8, e9, hW9.keep, by rw [e3]; exact hst, by rw [e3]; exact T4.lt.mono hle⟩
  have bad : ∀ {e : Nat} {w9 : World}, (carryR n cs).e = e → e ≠ 0 → Keep No w w9 → rgQ w v bs (.returned (.tuple #[.agg fr0.a, .int .i64 (e : Int)])) w9 := fun {e w9} he h0 k => rg_fail (by rw [ef, if_pos (by rw [he]; exact h0), he]) k
  have sT : ∀ b, (Value.slice to tn tc).ownBlock = some b → Safe ⟨[⟨w.heap.size, fr0.a.toList, true⟩, ⟨w2.heap.size, (⟨(bs.take 6), ((bs.drop 6).take 6), .slice to tn tc, 0, 0, [], [], nilV, nilV⟩ : Fr).a.toList, true⟩], w4.heap.size⟩ b := fun b hb => ⟨T4.lt b hb, fun q hq _ e => by
    have hlt := hTp b hb
    simp only [List.mem_cons, List.not_mem_nil, or_false] at hq
    rcases hq with rfl | rfl
    · exact T4.ap b hb _ (List.mem_singleton.2 rfl) e
    · have e : w2.heap.size = b := e; omega⟩
  by_cases hA : 1536 ≤ n
  · have ec : carryR n cs = ⟨0, 1, n, [], [], cs, []⟩ := if_pos hA
    refine go_retM (gt := fun _ => Option.none) (unroll := false) 100 [(17, 1, .sem (.slice xo xn xc)), (18, 1, .is (.bool true))] [.cell 2 32, .tmp 3] (.tuple #[.agg (⟨bs.take 6, (bs.drop 6).take 6, .slice to tn tc, 1, (n : Nat), [], [], .slice xo xn xc, nilV⟩ : Fr).a, .int .i64 0]) [⟨w.heap.size, (⟨bs.take 6, (bs.drop 6).take 6, .slice to tn tc, 1, (n : Nat), [], [], .slice xo xn xc, nilV⟩ : Fr).a.toList, true⟩, ⟨w2.heap.size, (⟨bs.take 6, (bs.drop 6).take 6, .slice to tn tc, 1, (n : Nat), [], [], .slice xo xn xc, nilV⟩ : Fr).a.toList, true⟩] [(.bool (decide ((n : Int) ≥ 1536)), .bool true)] [(Instr.sliceAt 26 u (some (.int .i64 2)) Option.none Option.none, .slice xo xn xc)] hW4 Tryd.results25 (by kernel_rfl) (by kernel_rfl) ⟨congrArg Value.bool (by simp; omega), trivial⟩ ⟨fun wx _ => by rw [← hx]; exact U0.sem_cutL (k := 2) (by omega) wx, trivial⟩ ?_
    intro w9 hW9 hS9
    exact fin (f := (⟨bs.take 6, (bs.drop 6).take 6, .slice to tn tc, 1, (n : Nat), [], [], .slice xo xn xc, nilV⟩ : Fr)) (by rw [ec]) rfl rfl rfl (by rw [ec]; rfl) (by rw [ec]) (fun i => by rw [ec]) (fun i => by rw [ec]) (by rw [ec]; exact Uc) (by rw [ec]; exact fun _ _ => Rd.nil _) hW9 (fun b hb => hS9.same b (sT b hb)) hS9.le
  by_cases hB : 1500 < n
  · refine go_ret (gt := fun _ => Option.none) (unroll := false) 100 [(17, 1, .sem (.slice xo xn xc)), (18, 1, .is (.bool false)), (23, 1, .is (.bool true))] [.cell 2 32, .tmp 3] (.tuple #[.agg fr0.a, .int .i64 5]) [(.bool (decide ((n : Int) ≥ 1536)), .bool false), (.bool (decide ((n : Int) > 1500)), .bool true)] [(Instr.sliceAt 26 u (some (.int .i64 2)) Option.none Option.none, .slice xo xn xc)] hW4 Tryd.results25 (by kernel_rfl) ⟨congrArg Value.bool (by simp; omega), congrArg Value.bool (by simp; omega), trivial⟩ ⟨fun wx _ => by rw [← hx]; exact U0.sem_cutL (k := 2) (by omega) wx, trivial⟩ ?_
    intro w9 hW9 _
    exact bad (e := 5) (by rw [carryR, if_neg hA, if_pos hB]) (by omega) hW9.keep
  have slen : ∀ wx : World, (Builtin.len_ #[26] 3 #[.slice xo xn xc]).run Tryd.prog wx = .ok (.int .i64 (cs.length : Int)) wx := fun wx => (Uc w r).run_len (ty := 3) bt.sl
  by_cases hC : cs.length < n
  · refine go_ret (gt := fun _ => Option.none) (unroll := false) 100 [(17, 1, .sem (.slice xo xn xc)), (18, 1, .is (.bool false)), (23, 1, .is (.bool false)), (25, 2, .sem (.int .i64 (cs.length : Int))), (25, 3, .is (.bool true))] [.cell 2 32, .tmp 3] (.tuple #[.agg fr0.a, .int .i64 4]) [(.bool (decide ((n : Int) ≥ 1536)), .bool false), (.bool (decide ((n : Int) > 1500)), .bool false), (.bool (decide ((n : Int) > (cs.length : Int))), .bool true)] [(Instr.sliceAt 26 u (some (.int .i64 2)) Option.none Option.none, .slice xo xn xc), (Builtin.len_ #[26] 3 #[.slice xo xn xc], .int .i64 (cs.length : Int))] hW4 Tryd.results25 (by kernel_rfl) ⟨congrArg Value.bool (by simp; omega), congrArg Value.bool (by simp; omega), congrArg Value.bool (by simp; omega), trivial⟩ ⟨fun wx _ => by rw [← hx]; exact U0.sem_cutL (k := 2) (by omega) wx, fun wx _ => slen wx, trivial⟩ ?_
    intro w9 hW9 _
    exact bad (e := 4) (by rw [carryR, if_neg hA, if_neg hB, if_pos hC]) (by omega) hW9.keep
  by_cases hD : n < 3
  · refine go_ret (gt := fun _ => Option.none) (unroll := false) 100 [(17, 1, .sem (.slice xo xn xc)), (18, 1, .is (.bool false)), (23, 1, .is (.bool false)), (25, 2, .sem (.int .i64 (cs.length : Int))), (25, 3, .is (.bool false)), (27, 1, .is (.bool true))] [.cell 2 32, .tmp 3] (.tuple #[.agg fr0.a, .int .i64 5]) [(.bool (decide ((n : Int) ≥ 1536)), .bool false), (.bool (decide ((n : Int) > 1500)), .bool false), (.bool (decide ((n : Int) > (cs.length : Int))), .bool false), (.bool (decide ((n : Int) < 3)), .bool true)] [(Instr.sliceAt 26 u (some (.int .i64 2)) Option.none Option.none, .slice xo xn xc), (Builtin.len_ #[26] 3 #[.slice xo xn xc], .int .i64 (cs.length : Int))] hW4 Tryd.results25 (by kernel_rfl) ⟨congrArg Value.bool (by simp; omega), congrArg Value.bool (by simp; omega), congrArg Value.bool (by simp; omega), congrArg Value.bool (by simp; omega), trivial⟩ ⟨fun wx _ => by rw [← hx]; exact U0.sem_cutL (k := 2) (by omega) wx, fun wx _ => slen wx, trivial⟩ ?_
    intro w9 hW9 _
    exact bad (e := 5) (by rw [carryR, if_neg hA, if_neg hB, if_neg hC, if_pos hD]) (by omega) hW9.keep
  have cR : ∀ wx, Rd wx v bs → Rd wx (cutv (.slice xo xn xc) n cs.length) (cs.drop n) := fun wx rx => by
    have := (Uc wx rx).cut (l := n) (h := cs.length) (by omega) (Nat.le_refl _)
    rwa [List.take_of_length_le (by simp)] at this
  obtain ⟨ro, rn, rc, hrx⟩ := (cR w r).form
  rw [hrx] at cR
  have ec : carryR n cs = if isSap (cs.take 3) = false then ⟨0, 2, 0, cs.take 3, [], (cs.take n).drop 3, cs.drop n⟩ else if n < 8 then ⟨5, 0, 0, [], [], [], []⟩ else ⟨0, 3, be ((cs.drop 6).take 2), cs.take 3, (cs.drop 3).take 3, (cs.take n).drop 8, cs.drop n⟩ := by
    rw [carryR, if_neg hA, if_neg hB, if_neg hC, if_neg hD]
  have sT2 : ∀ b, (Value.slice to tn tc).ownBlock = some b → ∀ {w5 : World}, Seg ⟨[⟨w.heap.size, fr0.a.toList, true⟩, ⟨w2.heap.size, (⟨(bs.take 6), ((bs.drop 6).take 6), .slice to tn tc, 0, 0, [], [], nilV, nilV⟩ : Fr).a.toList, true⟩], w4.heap.size⟩ w4 ⟨[⟨w.heap.size, fr0.a.toList, true⟩, ⟨w2.heap.size, (⟨(bs.take 6), ((bs.drop 6).take 6), .slice to tn tc, 2, 0, (cs.take 3), [], nilV, (.slice ro rn rc)⟩ : Fr).a.toList, true⟩], w5.heap.size⟩ w5 → Safe ⟨[⟨w.heap.size, fr0.a.toList, true⟩, ⟨w2.heap.size, (⟨(bs.take 6), ((bs.drop 6).take 6), .slice to tn tc, 2, 0, (cs.take 3), [], nilV, (.slice ro rn rc)⟩ : Fr).a.toList, true⟩], w5.heap.size⟩ b := fun b hb w5 hS5 => ⟨Nat.lt_of_lt_of_le (T4.lt b hb) hS5.le, fun q hq _ e => by
    have hlt := hTp b hb
    simp only [List.mem_cons, List.not_mem_nil, or_false] at hq
    rcases hq with rfl | rfl
    · exact T4.ap b hb _ (List.mem_singleton.2 rfl) e
    · have e : w2.heap.size = b := e; omega⟩
  have llcEnd : isSap (cs.take 3) = false → ∀ w5, Wst w ⟨[⟨w.heap.size, fr0.a.toList, true⟩, ⟨w2.heap.size, (⟨(bs.take 6), ((bs.drop 6).take 6), .slice to tn tc, 2, 0, (cs.take 3), [], nilV, (.slice ro rn rc)⟩ : Fr).a.toList, true⟩], w5.heap.size⟩ w5 → Seg ⟨[⟨w.heap.size, fr0.a.toList, true⟩, ⟨w2.heap.size, (⟨(bs.take 6), ((bs.drop 6).take 6), .slice to tn tc, 0, 0, [], [], nilV, nilV⟩ : Fr).a.toList, true⟩], w4.heap.size⟩ w4 ⟨[⟨w.heap.size, fr0.a.toList, true⟩, ⟨w2.heap.size, (⟨(bs.take 6), ((bs.drop 6).take 6), .slice to tn tc, 2, 0, (cs.take 3), [], nilV, (.slice ro rn rc)⟩ : Fr).a.toList, true⟩], w5.heap.size⟩ w5 → Goal Tryd.prog (bodyPost Tryd.prog Tryd.f25 (rgQ w v bs)) rgN ⟨frOf [2, 5, 7, 9] [pT w.heap.size, (.slice xo xn xc), pT w2.heap.size, .int .i64 (n : Int)], tagL [(2, 0), (7, 1)], ⟨[⟨w.heap.size, fr0.a.toList, true⟩, ⟨w2.heap.size, (⟨(bs.take 6), ((bs.drop 6).take 6), .slice to tn tc, 2, 0, (cs.take 3), [], nilV, (.slice ro rn rc)⟩ : Fr).a.toList, true⟩], w5.heap.size⟩, opsR rgC 36⟩ w5 := fun hsap w5 hW5 hS5 => by
    rw [if_pos hsap] at ec
    have cB : ∀ wx, Rd wx v bs → Rd wx (cutv (.slice xo xn xc) 3 n) ((cs.take n).drop 3) := fun wx rx => by
      have := (Uc wx rx).cut (l := 3) (h := n) (by omega) (by omega)
      rwa [← List.drop_take] at this
    obtain ⟨yo, yn, yc, hy⟩ := (cB w r).form
    rw [hy] at cB
    refine go_retM (gt := fun _ => Option.none) (unroll := false) 100 [(36, 2, .sem (.slice yo yn yc))] [.cell 2 32, .tmp 3] (.tuple #[.agg (⟨(bs.take 6), ((bs.drop 6).take 6), .slice to tn tc, 2, 0, (cs.take 3), [], (.slice yo yn yc), (.slice ro rn rc)⟩ : Fr).a, .int .i64 0]) [⟨w.heap.size, (⟨(bs.take 6), ((bs.drop 6).take 6), .slice to tn tc, 2, 0, (cs.take 3), [], (.slice yo yn yc), (.slice ro rn rc)⟩ : Fr).a.toList, true⟩, ⟨w2.heap.size, (⟨(bs.take 6), ((bs.drop 6).take 6), .slice to tn tc, 2, 0, (cs.take 3), [], (.slice yo yn yc), (.slice ro rn rc)⟩ : Fr).a.toList, true⟩] [] [(Instr.sliceAt 26 (.slice xo xn xc) (some (.int .i64 3)) (some (.int .i64 (n : Int))) Option.none, .slice yo yn yc)] hW5 Tryd.results25 (by kernel_rfl) (by kernel_rfl) trivial ⟨fun wx _ => by rw [← hy]; exact (Uc w r).sem_cut (k := 3) (h := n) (by omega) (by omega) wx, trivial⟩ ?_
    intro w9 hW9 hS9
    exact fin (f := (⟨(bs.take 6), ((bs.drop 6).take 6), .slice to tn tc, 2, 0, (cs.take 3), [], (.slice yo yn yc), (.slice ro rn rc)⟩ : Fr)) (by rw [ec]) rfl rfl rfl (by rw [ec]; rfl) (by rw [ec]; rfl) (fun i => by rw [ec]) (fun i => by rw [ec]) (by rw [ec]; exact cB) (by rw [ec]; exact cR) hW9 (fun b hb => (hS9.same b (sT2 b hb hS5)).trans (hS5.same b (sT b hb))) (Nat.le_trans hS5.le hS9.le)
  have snapEnd : isSap (cs.take 3) = true → ∀ w5, Wst w ⟨[⟨w.heap.size, fr0.a.toList, true⟩, ⟨w2.heap.size, (⟨(bs.take 6), ((bs.drop 6).take 6), .slice to tn tc, 2, 0, (cs.take 3), [], nilV, (.slice ro rn rc)⟩ : Fr).a.toList, true⟩], w5.heap.size⟩ w5 → Seg ⟨[⟨w.heap.size, fr0.a.toList, true⟩, ⟨w2.heap.size, (⟨(bs.take 6), ((bs.drop 6).take 6), .slice to tn tc, 0, 0, [], [], nilV, nilV⟩ : Fr).a.toList, true⟩], w4.heap.size⟩ w4 ⟨[⟨w.heap.size, fr0.a.toList, true⟩, ⟨w2.heap.size, (⟨(bs.take 6), ((bs.drop 6).take 6), .slice to tn tc, 2, 0, (cs.take 3), [], nilV, (.slice ro rn rc)⟩ : Fr).a.toList, true⟩], w5.heap.size⟩ w5 → Goal Tryd.prog (bodyPost Tryd.prog Tryd.f25 (rgQ w v bs)) rgN ⟨frOf [2, 5, 7, 9] [pT w.heap.size, (.slice xo xn xc), pT w2.heap.size, .int .i64 (n : Int)], tagL [(2, 0), (7, 1)], ⟨[⟨w.heap.size, fr0.a.toList, true⟩, ⟨w2.heap.size, (⟨(bs.take 6), ((bs.drop 6).take 6), .slice to tn tc, 2, 0, (cs.take 3), [], nilV, (.slice ro rn rc)⟩ : Fr).a.toList, true⟩], w5.heap.size⟩, opsR rgC 38⟩ w5 := fun hsap w5 hW5 hS5 => by
    rw [hsap, if_neg (by simp)] at ec
    by_cases h8 : n < 8
    · rw [if_pos h8] at ec
      refine go_ret (gt := fun _ => Option.none) (unroll := false) 100 [(38, 1, .is (.bool true))] [.cell 2 32, .tmp 3] (.tuple #[.agg fr0.a, .int .i64 5]) [(.bool (decide ((n : Int) < 8)), .bool true)] [] hW5 Tryd.results25 (by kernel_rfl) ⟨congrArg Value.bool (by simp; omega), trivial⟩ trivial ?_
      intro w9 hW9 _
      exact bad (e := 5) (by rw [ec]) (by omega) hW9.keep
    rw [if_neg h8] at ec
    have r5 : ∀ wx, (∀ k, Safe ⟨[⟨w.heap.size, fr0.a.toList, true⟩, ⟨w2.heap.size, (⟨(bs.take 6), ((bs.drop 6).take 6), .slice to tn tc, 2, 0, (cs.take 3), [], nilV, (.slice ro rn rc)⟩ : Fr).a.toList, true⟩], w5.heap.size⟩ k → wx.heap[k]? = w5.heap[k]?) → Rd wx v bs := fun wx hx => (r.keep0 hW5.keep).safe (m := ⟨[⟨w.heap.size, fr0.a.toList, true⟩, ⟨w2.heap.size, (⟨(bs.take 6), ((bs.drop 6).take 6), .slice to tn tc, 2, 0, (cs.take 3), [], nilV, (.slice ro rn rc)⟩ : Fr).a.toList, true⟩], w5.heap.size⟩) (fun b hb => ⟨Nat.lt_of_lt_of_le (r.blk_lt hb (by omega)) hW5.keep.size, fun q hq _ e => by
      have hlt := r.blk_lt hb (by omega)
      simp only [List.mem_cons, List.not_mem_nil, or_false] at hq
      rcases hq with rfl | rfl
      · have e : w.heap.size = b := e; omega
      · have e : w2.heap.size = b := e; omega⟩) hx
    refine go_stop (gt := fun _ => Option.none) (unroll := true) 400 [(38, 1, .is (.bool false)), (44, 4, .sem (.pointer (some (adr (.slice xo xn xc) 3)))), (44, 5, .sem (bv (byteAt ((cs.drop 3).take 3) 0))), (44, 4, .sem (.pointer (some (adr (.slice xo xn xc) 4)))), (44, 5, .sem (bv (byteAt ((cs.drop 3).take 3) 1))), (44, 4, .sem (.pointer (some (adr (.slice xo xn xc) 5)))), (44, 5, .sem (bv (byteAt ((cs.drop 3).take 3) 2)))] [2, 5, 7, 9] [pT w.heap.size, (.slice xo xn xc), pT w2.heap.size, .int .i64 (n : Int)] ([⟨w.heap.size, fr0.a.toList, true⟩, ⟨w2.heap.size, (⟨(bs.take 6), ((bs.drop 6).take 6), .slice to tn tc, 3, 0, (cs.take 3), ((cs.drop 3).take 3), nilV, (.slice ro rn rc)⟩ : Fr).a.toList, true⟩]) [(2, 0), (7, 1)] (atR rgC 45) [(.bool (decide ((n : Int) < 8)), .bool false)] [(Instr.indexAt 26 (.slice xo xn xc) (.int .i64 3), .pointer (some (adr (.slice xo xn xc) 3))), (Instr.loadAt 5 (.pointer (some (adr (.slice xo xn xc) 3))), bv (byteAt ((cs.drop 3).take 3) 0)), (Instr.indexAt 26 (.slice xo xn xc) (.int .i64 4), .pointer (some (adr (.slice xo xn xc) 4))), (Instr.loadAt 5 (.pointer (some (adr (.slice xo xn xc) 4))), bv (byteAt ((cs.drop 3).take 3) 1)), (Instr.indexAt 26 (.slice xo xn xc) (.int .i64 5), .pointer (some (adr (.slice xo xn xc) 5))), (Instr.loadAt 5 (.pointer (some (adr (.slice xo xn xc) 5))), bv (byteAt ((cs.drop 3).take 3) 2))] hW5 (by kernel_rfl) ⟨congrArg Value.bool (by simp; omega), trivial⟩ ⟨fun wx _ => (Uc w r).sem_at (i := 3) (by omega) wx, fun wx hx => ld_as (Uc wx (r5 wx hx)) (by omega) (btd cs 3 3 (i := 0) (by omega)), fun wx _ => (Uc w r).sem_at (i := 4) (by omega) wx, fun wx hx => ld_as (Uc wx (r5 wx hx)) (by omega) (btd cs 3 3 (i := 1) (by omega)), fun wx _ => (Uc w r).sem_at (i := 5) (by omega) wx, fun wx hx => ld_as (Uc wx (r5 wx hx)) (by omega) (btd cs 3 3 (i := 2) (by omega)), trivial⟩ ?_
    intro w6 hW6 hS6
    have hrow6 := hW6.rows ⟨w2.heap.size, (⟨(bs.take 6), ((bs.drop 6).take 6), .slice to tn tc, 3, 0, (cs.take 3), ((cs.drop 3).take 3), nilV, (.slice ro rn rc)⟩ : Fr).a.toList, true⟩ (by simp)
    have hW6' : Wst w ⟨g2 w, w6.heap.size⟩ w6 := hW6.fewer (rows := g2 w) (more := [⟨w2.heap.size, (⟨(bs.take 6), ((bs.drop 6).take 6), .slice to tn tc, 3, 0, (cs.take 3), ((cs.drop 3).take 3), nilV, (.slice ro rn rc)⟩ : Fr).a.toList, true⟩])
    have hKN6 : ∀ wx, Keep (One w2.heap.size) w6 wx → Keep No w wx := fun wx k => hW6.keep.trans' k (fun i hi h => by rw [show i = w2.heap.size from h] at hi; omega)
    have hloose : ∀ {wx : World}, Loose w ⟨g2 w, wx.heap.size⟩ (One w2.heap.size) := fun q hq => ⟨by rw [show q = w2.heap.size from hq]; omega, fun r' hr' => by obtain rfl := List.mem_singleton.1 hr'; rw [show q = w2.heap.size from hq]; show w.heap.size ≠ w2.heap.size; omega⟩
    have b6 := byteAt_lt cs 6
    have b7 := byteAt_lt cs 7
    have hb6 : bn cs 6 = ((byteAt cs 6).toNat : Int) := rfl
    have hb7 : bn cs 7 = ((byteAt cs 7).toNat : Int) := rfl
    have hbe2 : be ((cs.drop 6).take 2) = 256 * (byteAt cs 6).toNat + (byteAt cs 7).toNat := be_two (cs := cs) (k := 6) (by omega)
    have U6 : ∀ wx, Keep (One w2.heap.size) w6 wx → Rd wx (.slice xo xn xc) cs := fun wx k => Uc wx (r.keep0 (hKN6 wx k))
    let bk : Nat → List (Nat × List Value) := (fun k => match k with | 0 => [(w2.heap.size, (⟨(bs.take 6), ((bs.drop 6).take 6), .slice to tn tc, 3, 0, (cs.take 3), ((cs.drop 3).take 3), nilV, (.slice ro rn rc)⟩ : Fr).a.toList)] | _ => [(w2.heap.size, (⟨(bs.take 6), ((bs.drop 6).take 6), .slice to tn tc, 3, (be ((cs.drop 6).take 2) : Nat), (cs.take 3), ((cs.drop 3).take 3), nilV, (.slice ro rn rc)⟩ : Fr).a.toList)])
    refine Goal.re (tags := tagL [(2, 0)]) (m := ⟨g2 w, w6.heap.size⟩) ?_
    refine drawnM_ok (S0 := One w2.heap.size) (gt := fun _ => Option.none) (D := RowsK (One w2.heap.size) bk) (g0 := ⟨False, undef, One w2.heap.size⟩)
      [(1, .sem (.pointer (some (adr (.slice xo xn xc) 6)))), (2, .sem (bv (byteAt cs 6))), (3, .is (.int .i64 (bn cs 6))), (4, .is (.int .i64 (256 * bn cs 6))), (6, .sem (.pointer (some (adr (.slice xo xn xc) 7)))), (7, .sem (bv (byteAt cs 7))), (8, .is (.int .i64 (bn cs 7))), (9, .is (.int .i64 (be ((cs.drop 6).take 2) : Nat))), (11, .act (.is undef))]
      [2, 5, 7, 9] [.is (pT w.heap.size), .is (.slice xo xn xc), .is (pT w2.heap.size), .is (.int .i64 (n : Int))]
      (True ∧ SemM Tryd.prog (One w2.heap.size) w6 (Instr.indexAt 26 (.slice xo xn xc) (.int .i64 6)) (.pointer (some (adr (.slice xo xn xc) 6))) ∧ SemM Tryd.prog (One w2.heap.size) w6 (Instr.loadAt 5 (.pointer (some (adr (.slice xo xn xc) 6)))) (bv (byteAt cs 6)) ∧ ((.int .i64 (IntKind.i64.wrap (bn cs 6)) : Value) = .int .i64 (bn cs 6)) ∧ ((.int .i64 (IntKind.i64.wrap (256 * bn cs 6)) : Value) = .int .i64 (256 * bn cs 6)) ∧ True ∧
        SemM Tryd.prog (One w2.heap.size) w6 (Instr.indexAt 26 (.slice xo xn xc) (.int .i64 7)) (.pointer (some (adr (.slice xo xn xc) 7))) ∧ SemM Tryd.prog (One w2.heap.size) w6 (Instr.loadAt 5 (.pointer (some (adr (.slice xo xn xc) 7)))) (bv (byteAt cs 7)) ∧ ((.int .i64 (IntKind.i64.wrap (bn cs 7)) : Value) = .int .i64 (bn cs 7)) ∧ ((.int .i64 (IntKind.i64.wrap (256 * bn cs 6 + bn cs 7)) : Value) = .int .i64 (be ((cs.drop 6).take 2) : Nat)) ∧ True ∧
        ActM Tryd.prog (One w2.heap.size) w6 (RowsK (One w2.heap.size) bk) 0 (.store 3 (.tmp 150) (.tmp 149)) 0 [(150, .is (.pointer (some ⟨w2.heap.size, 14, none⟩))), (149, .is (.int .i64 (be ((cs.drop 6).take 2) : Nat)))] (.is undef) ∧ True)
      1 (afterR rgC 45) hW6' hloose (by kernel_rfl) (by kernel_rfl) (by kernel_rfl) RowsK.keep (fun k h => ⟨by rw [show k = w2.heap.size from h]; obtain ⟨t, ht⟩ := hrow6; exact block_of_row ht, fun _ => h⟩) ⟨rfl, fun q hq => by obtain rfl := List.mem_singleton.1 hq; exact hrow6⟩
      ⟨trivial, fun wx k => (U6 wx k).sem_at (i := 6) (by omega) wx, fun wx k => (U6 wx k).sem_ld (i := 6) (by omega), congrArg (Value.int .i64) (i64_small (by omega) (by omega)), congrArg (Value.int .i64) (i64_small (by omega) (by omega)), trivial, fun wx k => (U6 wx k).sem_at (i := 7) (by omega) wx, fun wx k => (U6 wx k).sem_ld (i := 7) (by omega), congrArg (Value.int .i64) (i64_small (by omega) (by omega)), congrArg (Value.int .i64) (by rw [i64_small (by omega) (by omega)]; omega), trivial,
        act_storeO (off := 14) hKN6 (by omega) rfl rfl rfl (by simp) (fun a g w h => h (149, .is (.int .i64 (be ((cs.drop 6).take 2) : Nat))) (by simp)) [(w2.heap.size, w2.heap.size)] (fun q hq => by obtain rfl := List.mem_singleton.1 hq; rfl) (fun nx => by kernel_rfl), trivial⟩ ?_
    intro g w7 vs k7 _ hd hok
    obtain rfl := allOkM_is (vs := [pT w.heap.size, (.slice xo xn xc), pT w2.heap.size, .int .i64 (n : Int)]) hok
    obtain ⟨t7, hrow7⟩ := hd.2 (w2.heap.size, (⟨(bs.take 6), ((bs.drop 6).take 6), .slice to tn tc, 3, (be ((cs.drop 6).take 2) : Nat), (cs.take 3), ((cs.drop 3).take 3), nilV, (.slice ro rn rc)⟩ : Fr).a.toList) (by simp [bk])
    have hW7 : Wst w ⟨g2 w ++ [⟨w2.heap.size, (⟨(bs.take 6), ((bs.drop 6).take 6), .slice to tn tc, 3, (be ((cs.drop 6).take 2) : Nat), (cs.take 3), ((cs.drop 3).take 3), nilV, (.slice ro rn rc)⟩ : Fr).a.toList, true⟩], w7.heap.size⟩ w7 := (hW6'.laterS k7 hloose).addRow hrow7 (by omega) (fun q hq => by obtain rfl := List.mem_singleton.1 hq; show w.heap.size ≠ w2.heap.size; omega)
    have cZ : ∀ wx, Rd wx v bs → Rd wx (cutv (.slice xo xn xc) 8 n) ((cs.take n).drop 8) := fun wx rx => by
      have := (Uc wx rx).cut (l := 8) (h := n) (by omega) (by omega)
      rwa [← List.drop_take] at this
    obtain ⟨zo, zn, zc, hz⟩ := (cZ w r).form
    rw [hz] at cZ
    refine Goal.re (tags := tagL [(2, 0), (7, 1)]) (m := ⟨[⟨w.heap.size, fr0.a.toList, true⟩, ⟨w2.heap.size, (⟨(bs.take 6), ((bs.drop 6).take 6), .slice to tn tc, 3, (be ((cs.drop 6).take 2) : Nat), (cs.take 3), ((cs.drop 3).take 3), nilV, (.slice ro rn rc)⟩ : Fr).a.toList, true⟩], w7.heap.size⟩) ?_
    refine go_retM (gt := fun _ => Option.none) (unroll := false) 100 [(46, 2, .sem (.slice zo zn zc))] [.cell 2 32, .tmp 3] (.tuple #[.agg (⟨(bs.take 6), ((bs.drop 6).take 6), .slice to tn tc, 3, (be ((cs.drop 6).take 2) : Nat), (cs.take 3), ((cs.drop 3).take 3), (.slice zo zn zc), (.slice ro rn rc)⟩ : Fr).a, .int .i64 0]) [⟨w.heap.size, (⟨(bs.take 6), ((bs.drop 6).take 6), .slice to tn tc, 3, (be ((cs.drop 6).take 2) : Nat), (cs.take 3), ((cs.drop 3).take 3), (.slice zo zn zc), (.slice ro rn rc)⟩ : Fr).a.toList, true⟩, ⟨w2.heap.size, (⟨(bs.take 6), ((bs.drop 6).take 6), .slice to tn tc, 3, (be ((cs.drop 6).take 2) : Nat), (cs.take 3), ((cs.drop 3).take 3), (.slice zo zn zc), (.slice ro rn rc)⟩ : Fr).a.toList, true⟩] [] [(Instr.sliceAt 26 (.slice xo xn xc) (some (.int .i64 8)) (some (.int .i64 (n : Int))) Option.none, .slice zo zn zc)] hW7 Tryd.results25 (by kernel_rfl) (by kernel_rfl) trivial ⟨fun wx _ => by rw [← hz]; exact (Uc w r).sem_cut (k := 8) (h := n) (by omega) (by omega) wx, trivial⟩ ?_
    intro w9 hW9 hS9
    have sT6 : ∀ b, (Value.slice to tn tc).ownBlock = some b → w9.heap[b]? = w4.heap[b]? := fun b hb => by
      have h2 := hTp b hb
      have hne : b ≠ w.heap.size := fun e => T4.ap b hb _ (List.mem_singleton.2 rfl) e.symm
      have q5 := hS5.same b (sT b hb)
      have q6 := hS6.same b (sT2 b hb hS5)
      have hlt6 : b < w6.heap.size := Nat.lt_of_lt_of_le (Nat.lt_of_lt_of_le (Nat.lt_of_lt_of_le (T4.lt b hb) hS5.le) hS6.le) (Nat.le_refl _)
      have q7 := k7.block b hlt6 (fun e => by have e : b = w2.heap.size := e; omega)
      have q9 := hS9.same b ⟨Nat.lt_of_lt_of_le hlt6 k7.size, fun q hq _ e => by
        simp only [List.mem_cons, List.not_mem_nil, or_false] at hq
        rcases hq with rfl | rfl
        · exact hne e.symm
        · have e : w2.heap.size = b := e; omega⟩
      exact q9.trans (q7.trans (q6.trans q5))
    exact fin (f := (⟨(bs.take 6), ((bs.drop 6).take 6), .slice to tn tc, 3, (be ((cs.drop 6).take 2) : Nat), (cs.take 3), ((cs.drop 3).take 3), (.slice zo zn zc), (.slice ro rn rc)⟩ : Fr)) (by rw [ec]) rfl rfl rfl (by rw [ec]; rfl) (by rw [ec]) (fun i => by rw [ec]) (fun i => by rw [ec]) (by rw [ec]; exact cZ) (by rw [ec]; exact cR) hW9 sT6 (Nat.le_trans (Nat.le_trans (Nat.le_trans hS5.le hS6.le) k7.size) hS9.le)
  by_cases h0 : byteAt (cs.take 3) 0 = 170
  · by_cases h1' : byteAt (cs.take 3) 1 = 170
    · by_cases h2' : byteAt (cs.take 3) 2 = 3
      · refine go_stop (gt := fun _ => Option.none) (unroll := true) 400 [(17, 1, .sem (.slice xo xn xc)), (18, 1, .is (.bool false)), (23, 1, .is (.bool false)), (25, 2, .sem (.int .i64 (cs.length : Int))), (25, 3, .is (.bool false)), (27, 1, .is (.bool false)), (33, 3, .sem (.pointer (some (adr (.slice xo xn xc) 0)))), (33, 4, .sem (bv (byteAt (cs.take 3) 0))), (33, 3, .sem (.pointer (some (adr (.slice xo xn xc) 1)))), (33, 4, .sem (bv (byteAt (cs.take 3) 1))), (33, 3, .sem (.pointer (some (adr (.slice xo xn xc) 2)))), (33, 4, .sem (bv (byteAt (cs.take 3) 2))), (34, 2, .sem (.slice ro rn rc)), (35, 1, .sem (.pointer (some (adr (.slice xo xn xc) 0)))), (35, 2, .sem (bv (byteAt (cs.take 3) 0))), (35, 3, .is (.bool false)), (35, 6, .sem (.pointer (some (adr (.slice xo xn xc) 1)))), (35, 7, .sem (bv (byteAt (cs.take 3) 1))), (35, 8, .is (.bool false)), (35, 12, .sem (.pointer (some (adr (.slice xo xn xc) 2)))), (35, 13, .sem (bv (byteAt (cs.take 3) 2))), (35, 14, .is (.bool false)), (38, 0, .stop)] [2, 5, 7, 9] [pT w.heap.size, (.slice xo xn xc), pT w2.heap.size, .int .i64 (n : Int)] ([⟨w.heap.size, fr0.a.toList, true⟩, ⟨w2.heap.size, (⟨(bs.take 6), ((bs.drop 6).take 6), .slice to tn tc, 2, 0, (cs.take 3), [], nilV, (.slice ro rn rc)⟩ : Fr).a.toList, true⟩]) [(2, 0), (7, 1)] (opsR rgC 38) [(.bool (decide ((n : Int) ≥ 1536)), .bool false), (.bool (decide ((n : Int) > 1500)), .bool false), (.bool (decide ((n : Int) > (cs.length : Int))), .bool false), (.bool (decide ((n : Int) < 3)), .bool false), (.bool (((byteAt (cs.take 3) 0).toNat : Int) != 170), .bool false), (.bool (((byteAt (cs.take 3) 1).toNat : Int) != 170), .bool false), (.bool (((byteAt (cs.take 3) 2).toNat : Int) != 3), .bool false)] [(Instr.sliceAt 26 u (some (.int .i64 2)) Option.none Option.none, .slice xo xn xc), (Builtin.len_ #[26] 3 #[.slice xo xn xc], .int .i64 (cs.length : Int)), (Instr.indexAt 26 (.slice xo xn xc) (.int .i64 0), .pointer (some (adr (.slice xo xn xc) 0))), (Instr.loadAt 5 (.pointer (some (adr (.slice xo xn xc) 0))), bv (byteAt (cs.take 3) 0)), (Instr.indexAt 26 (.slice xo xn xc) (.int .i64 1), .pointer (some (adr (.slice xo xn xc) 1))), (Instr.loadAt 5 (.pointer (some (adr (.slice xo xn xc) 1))), bv (byteAt (cs.take 3) 1)), (Instr.indexAt 26 (.slice xo xn xc) (.int .i64 2), .pointer (some (adr (.slice xo xn xc) 2))), (Instr.loadAt 5 (.pointer (some (adr (.slice xo xn xc) 2))), bv (byteAt (cs.take 3) 2)), (Instr.sliceAt 26 (.slice xo xn xc) (some (.int .i64 (n : Int))) Option.none Option.none, (.slice ro rn rc)), (Instr.indexAt 26 (.slice xo xn xc) (.int .i64 0), .pointer (some (adr (.slice xo xn xc) 0))), (Instr.loadAt 5 (.pointer (some (adr (.slice xo xn xc) 0))), bv (byteAt (cs.take 3) 0)), (Instr.indexAt 26 (.slice xo xn xc) (.int .i64 1), .pointer (some (adr (.slice xo xn xc) 1))), (Instr.loadAt 5 (.pointer (some (adr (.slice xo xn xc) 1))), bv (byteAt (cs.take 3) 1)), (Instr.indexAt 26 (.slice xo xn xc) (.int .i64 2), .pointer (some (adr (.slice xo xn xc) 2))), (Instr.loadAt 5 (.pointer (some (adr (.slice xo xn xc) 2))), bv (byteAt (cs.take 3) 2))] hW4 (by kernel_rfl) ⟨congrArg Value.bool (by simp; omega), congrArg Value.bool (by simp; omega), congrArg Value.bool (by simp; omega), congrArg Value.bool (by simp; omega), congrArg Value.bool (by rw [h0]; rfl), congrArg Value.bool (by rw [h1']; rfl), congrArg Value.bool (by rw [h2']; rfl), trivial⟩ ⟨fun wx _ => by rw [← hx]; exact U0.sem_cutL (k := 2) (by omega) wx, fun wx _ => slen wx, fun wx _ => (Uc w r).sem_at (i := 0) (by omega) wx, fun wx hx => ld_as (Uc wx (r4 wx hx)) (by omega) (bt3 cs (by omega)), fun wx _ => (Uc w r).sem_at (i := 1) (by omega) wx, fun wx hx => ld_as (Uc wx (r4 wx hx)) (by omega) (bt3 cs (by omega)), fun wx _ => (Uc w r).sem_at (i := 2) (by omega) wx, fun wx hx => ld_as (Uc wx (r4 wx hx)) (by omega) (bt3 cs (by omega)), fun wx _ => by rw [← hrx]; exact (Uc w r).sem_cutL (k := n) (by omega) wx, fun wx _ => (Uc w r).sem_at (i := 0) (by omega) wx, fun wx hx => ld_as (Uc wx (r4 wx hx)) (by omega) (bt3 cs (by omega)), fun wx _ => (Uc w r).sem_at (i := 1) (by omega) wx, fun wx hx => ld_as (Uc wx (r4 wx hx)) (by omega) (bt3 cs (by omega)), fun wx _ => (Uc w r).sem_at (i := 2) (by omega) wx, fun wx hx => ld_as (Uc wx (r4 wx hx)) (by omega) (bt3 cs (by omega)), trivial⟩ (fun w5 hW5 hS5 => snapEnd (by unfold isSap; rw [h0, h1', h2']; rfl) w5 hW5 hS5)
      · refine go_stop (gt := fun _ => Option.none) (unroll := true) 400 [(17, 1, .sem (.slice xo xn xc)), (18, 1, .is (.bool false)), (23, 1, .is (.bool false)), (25, 2, .sem (.int .i64 (cs.length : Int))), (25, 3, .is (.bool false)), (27, 1, .is (.bool false)), (33, 3, .sem (.pointer (some (adr (.slice xo xn xc) 0)))), (33, 4, .sem (bv (byteAt (cs.take 3) 0))), (33, 3, .sem (.pointer (some (adr (.slice xo xn xc) 1)))), (33, 4, .sem (bv (byteAt (cs.take 3) 1))), (33, 3, .sem (.pointer (some (adr (.slice xo xn xc) 2)))), (33, 4, .sem (bv (byteAt (cs.take 3) 2))), (34, 2, .sem (.slice ro rn rc)), (35, 1, .sem (.pointer (some (adr (.slice xo xn xc) 0)))), (35, 2, .sem (bv (byteAt (cs.take 3) 0))), (35, 3, .is (.bool false)), (35, 6, .sem (.pointer (some (adr (.slice xo xn xc) 1)))), (35, 7, .sem (bv (byteAt (cs.take 3) 1))), (35, 8, .is (.bool false)), (35, 12, .sem (.pointer (some (adr (.slice xo xn xc) 2)))), (35, 13, .sem (bv (byteAt (cs.take 3) 2))), (35, 14, .is (.bool true)), (36, 0, .stop)] [2, 5, 7, 9] [pT w.heap.size, (.slice xo xn xc), pT w2.heap.size, .int .i64 (n : Int)] ([⟨w.heap.size, fr0.a.toList, true⟩, ⟨w2.heap.size, (⟨(bs.take 6), ((bs.drop 6).take 6), .slice to tn tc, 2, 0, (cs.take 3), [], nilV, (.slice ro rn rc)⟩ : Fr).a.toList, true⟩]) [(2, 0), (7, 1)] (opsR rgC 36) [(.bool (decide ((n : Int) ≥ 1536)), .bool false), (.bool (decide ((n : Int) > 1500)), .bool false), (.bool (decide ((n : Int) > (cs.length : Int))), .bool false), (.bool (decide ((n : Int) < 3)), .bool false), (.bool (((byteAt (cs.take 3) 0).toNat : Int) != 170), .bool false), (.bool (((byteAt (cs.take 3) 1).toNat : Int) != 170), .bool false), (.bool (((byteAt (cs.take 3) 2).toNat : Int) != 3), .bool true)] [(Instr.sliceAt 26 u (some (.int .i64 2)) Option.none Option.none, .slice xo xn xc), (Builtin.len_ #[26] 3 #[.slice xo xn xc], .int .i64 (cs.length : Int)), (Instr.indexAt 26 (.slice xo xn xc) (.int .i64 0), .pointer (some (adr (.slice xo xn xc) 0))), (Instr.loadAt 5 (.pointer (some (adr (.slice xo xn xc) 0))), bv (byteAt (cs.take 3) 0)), (Instr.indexAt 26 (.slice xo xn xc) (.int .i64 1), .pointer (some (adr (.slice xo xn xc) 1))), (Instr.loadAt 5 (.pointer (some (adr (.slice xo xn xc) 1))), bv (byteAt (cs.take 3) 1)), (Instr.indexAt 26 (.slice xo xn xc) (.int .i64 2), .pointer (some (adr (.slice xo xn xc) 2))), (Instr.loadAt 5 (.pointer (some (adr (.slice xo xn xc) 2))), bv (byteAt (cs.take 3) 2)), (Instr.sliceAt 26 (.slice xo xn xc) (some (.int .i64 (n : Int))) Option.none Option.none, (.slice ro rn rc)), (Instr.indexAt 26 (.slice xo xn xc) (.int .i64 0), .pointer (some (adr (.slice xo xn xc) 0))), (Instr.loadAt 5 (.pointer (some (adr (.slice xo xn xc) 0))), bv (byteAt (cs.take 3) 0)), (Instr.indexAt 26 (.slice xo xn xc) (.int .i64 1), .pointer (some (adr (.slice xo xn xc) 1))), (Instr.loadAt 5 (.pointer (some (adr (.slice xo xn xc) 1))), bv (byteAt (cs.take 3) 1)), (Instr.indexAt 26 (.slice xo xn xc) (.int .i64 2), .pointer (some (adr (.slice xo xn xc) 2))), (Instr.loadAt 5 (.pointer (some (adr (.slice xo xn xc) 2))), bv (byteAt (cs.take 3) 2))] hW4 (by kernel_rfl) ⟨congrArg Value.bool (by simp; omega), congrArg Value.bool (by simp; omega), congrArg Value.bool (by simp; omega), congrArg Value.bool (by simp; omega), congrArg Value.bool (by rw [h0]; rfl), congrArg Value.bool (by rw [h1']; rfl), congrArg Value.bool (ne_u8 h2'), trivial⟩ ⟨fun wx _ => by rw [← hx]; exact U0.sem_cutL (k := 2) (by omega) wx, fun wx _ => slen wx, fun wx _ => (Uc w r).sem_at (i := 0) (by omega) wx, fun wx hx => ld_as (Uc wx (r4 wx hx)) (by omega) (bt3 cs (by omega)), fun wx _ => (Uc w r).sem_at (i := 1) (by omega) wx, fun wx hx => ld_as (Uc wx (r4 wx hx)) (by omega) (bt3 cs (by omega)), fun wx _ => (Uc w r).sem_at (i := 2) (by omega) wx, fun wx hx => ld_as (Uc wx (r4 wx hx)) (by omega) (bt3 cs (by omega)), fun wx _ => by rw [← hrx]; exact (Uc w r).sem_cutL (k := n) (by omega) wx, fun wx _ => (Uc w r).sem_at (i := 0) (by omega) wx, fun wx hx => ld_as (Uc wx (r4 wx hx)) (by omega) (bt3 cs (by omega)), fun wx _ => (Uc w r).sem_at (i := 1) (by omega) wx, fun wx hx => ld_as (Uc wx (r4 wx hx)) (by omega) (bt3 cs (by omega)), fun wx _ => (Uc w r).sem_at (i := 2) (by omega) wx, fun wx hx => ld_as (Uc wx (r4 wx hx)) (by omega) (bt3 cs (by omega)), trivial⟩ (fun w5 hW5 hS5 => llcEnd (by unfold isSap; simp [h2']) w5 hW5 hS5)
    · refine go_stop (gt := fun _ => Option.none) (unroll := true) 400 [(17, 1, .sem (.slice xo xn xc)), (18, 1, .is (.bool false)), (23, 1, .is (.bool false)), (25, 2, .sem (.int .i64 (cs.length : Int))), (25, 3, .is (.bool false)), (27, 1, .is (.bool false)), (33, 3, .sem (.pointer (some (adr (.slice xo xn xc) 0)))), (33, 4, .sem (bv (byteAt (cs.take 3) 0))), (33, 3, .sem (.pointer (some (adr (.slice xo xn xc) 1)))), (33, 4, .sem (bv (byteAt (cs.take 3) 1))), (33, 3, .sem (.pointer (some (adr (.slice xo xn xc) 2)))), (33, 4, .sem (bv (byteAt (cs.take 3) 2))), (34, 2, .sem (.slice ro rn rc)), (35, 1, .sem (.pointer (some (adr (.slice xo xn xc) 0)))), (35, 2, .sem (bv (byteAt (cs.take 3) 0))), (35, 3, .is (.bool false)), (35, 6, .sem (.pointer (some (adr (.slice xo xn xc) 1)))), (35, 7, .sem (bv (byteAt (cs.take 3) 1))), (35, 8, .is (.bool true)), (36, 0, .stop)] [2, 5, 7, 9] [pT w.heap.size, (.slice xo xn xc), pT w2.heap.size, .int .i64 (n : Int)] ([⟨w.heap.size, fr0.a.toList, true⟩, ⟨w2.heap.size, (⟨(bs.take 6), ((bs.drop 6).take 6), .slice to tn tc, 2, 0, (cs.take 3), [], nilV, (.slice ro rn rc)⟩ : Fr).a.toList, true⟩]) [(2, 0), (7, 1)] (opsR rgC 36) [(.bool (decide ((n : Int) ≥ 1536)), .bool false), (.bool (decide ((n : Int) > 1500)), .bool false), (.bool (decide ((n : Int) > (cs.length : Int))), .bool false), (.bool (decide ((n : Int) < 3)), .bool false), (.bool (((byteAt (cs.take 3) 0).toNat : Int) != 170), .bool false), (.bool (((byteAt (cs.take 3) 1).toNat : Int) != 170), .bool true)] [(Instr.sliceAt 26 u (some (.int .i64 2)) Option.none Option.none, .slice xo xn xc), (Builtin.len_ #[26] 3 #[.slice xo xn xc], .int .i64 (cs.length : Int)), (Instr.indexAt 26 (.slice xo xn xc) (.int .i64 0), .pointer (some (adr (.slice xo xn xc) 0))), (Instr.loadAt 5 (.pointer (some (adr (.slice xo xn xc) 0))), bv (byteAt (cs.take 3) 0)), (Instr.indexAt 26 (.slice xo xn xc) (.int .i64 1), .pointer (some (adr (.slice xo xn xc) 1))), (Instr.loadAt 5 (.pointer (some (adr (.slice xo xn xc) 1))), bv (byteAt (cs.take 3) 1)), (Instr.indexAt 26 (.slice xo xn xc) (.int .i64 2), .pointer (some (adr (.slice xo xn xc) 2))), (Instr.loadAt 5 (.pointer (some (adr (.slice xo xn xc) 2))), bv (byteAt (cs.take 3) 2)), (Instr.sliceAt 26 (.slice xo xn xc) (some (.int .i64 (n : Int))) Option.none Option.none, (.slice ro rn rc)), (Instr.indexAt 26 (.slice xo xn xc) (.int .i64 0), .pointer (some (adr (.slice xo xn xc) 0))), (Instr.loadAt 5 (.pointer (some (adr (.slice xo xn xc) 0))), bv (byteAt (cs.take 3) 0)), (Instr.indexAt 26 (.slice xo xn xc) (.int .i64 1), .pointer (some (adr (.slice xo xn xc) 1))), (Instr.loadAt 5 (.pointer (some (adr (.slice xo xn xc) 1))), bv (byteAt (cs.take 3) 1))] hW4 (by kernel_rfl) ⟨congrArg Value.bool (by simp; omega), congrArg Value.bool (by simp; omega), congrArg Value.bool (by simp; omega), congrArg Value.bool (by simp; omega), congrArg Value.bool (by rw [h0]; rfl), congrArg Value.bool (ne_u8 h1'), trivial⟩ ⟨fun wx _ => by rw [← hx]; exact U0.sem_cutL (k := 2) (by omega) wx, fun wx _ => slen wx, fun wx _ => (Uc w r).sem_at (i := 0) (by omega) wx, fun wx hx => ld_as (Uc wx (r4 wx hx)) (by omega) (bt3 cs (by omega)), fun wx _ => (Uc w r).sem_at (i := 1) (by omega) wx, fun wx hx => ld_as (Uc wx (r4 wx hx)) (by omega) (bt3 cs (by omega)), fun wx _ => (Uc w r).sem_at (i := 2) (by omega) wx, fun wx hx => ld_as (Uc wx (r4 wx hx)) (by omega) (bt3 cs (by omega)), fun wx _ => by rw [← hrx]; exact (Uc w r).sem_cutL (k := n) (by omega) wx, fun wx _ => (Uc w r).sem_at (i := 0) (by omega) wx, fun wx hx => ld_as (Uc wx (r4 wx hx)) (by omega) (bt3 cs (by omega)), fun wx _ => (Uc w r).sem_at (i := 1) (by omega) wx, fun wx hx => ld_as (Uc wx (r4 wx hx)) (by omega) (bt3 cs (by omega)), trivial⟩ (fun w5 hW5 hS5 => llcEnd (by unfold isSap; simp [h1']) w5 hW5 hS5)
  · refine go_stop (gt := fun _ => Option.none) (unroll := true) 400 [(17, 1, .sem (.slice xo xn xc)), (18, 1, .is (.bool false)), (23, 1, .is (.bool false)), (25, 2, .sem (.int .i64 (cs.length : Int))), (25, 3, .is (.bool false)), (27, 1, .is (.bool false)), (33, 3, .sem (.pointer (some (adr (.slice xo xn xc) 0)))), (33, 4, .sem (bv (byteAt (cs.take 3) 0))), (33, 3, .sem (.pointer (some (adr (.slice xo xn xc) 1)))), (33, 4, .sem (bv (byteAt (cs.take 3) 1))), (33, 3, .sem (.pointer (some (adr (.slice xo xn xc) 2)))), (33, 4, .sem (bv (byteAt (cs.take 3) 2))), (34, 2, .sem (.slice ro rn rc)), (35, 1, .sem (.pointer (some (adr (.slice xo xn xc) 0)))), (35, 2, .sem (bv (byteAt (cs.take 3) 0))), (35, 3, .is (.bool true)), (36, 0, .stop)] [2, 5, 7, 9] [pT w.heap.size, (.slice xo xn xc), pT w2.heap.size, .int .i64 (n : Int)] ([⟨w.heap.size, fr0.a.toList, true⟩, ⟨w2.heap.size, (⟨(bs.take 6), ((bs.drop 6).take 6), .slice to tn tc, 2, 0, (cs.take 3), [], nilV, (.slice ro rn rc)⟩ : Fr).a.toList, true⟩]) [(2, 0), (7, 1)] (opsR rgC 36) [(.bool (decide ((n : Int) ≥ 1536)), .bool false), (.bool (decide ((n : Int) > 1500)), .bool false), (.bool (decide ((n : Int) > (cs.length : Int))), .bool false), (.bool (decide ((n : Int) < 3)), .bool false), (.bool (((byteAt (cs.take 3) 0).toNat : Int) != 170), .bool true)] [(Instr.sliceAt 26 u (some (.int .i64 2)) Option.none Option.none, .slice xo xn xc), (Builtin.len_ #[26] 3 #[.slice xo xn xc], .int .i64 (cs.length : Int)), (Instr.indexAt 26 (.slice xo xn xc) (.int .i64 0), .pointer (some (adr (.slice xo xn xc) 0))), (Instr.loadAt 5 (.pointer (some (adr (.slice xo xn xc) 0))), bv (byteAt (cs.take 3) 0)), (Instr.indexAt 26 (.slice xo xn xc) (.int .i64 1), .pointer (some (adr (.slice xo xn xc) 1))), (Instr.loadAt 5 (.pointer (some (adr (.slice xo xn xc) 1))), bv (byteAt (cs.take 3) 1)), (Instr.indexAt 26 (.slice xo xn xc) (.int .i64 2), .pointer (some (adr (.slice xo xn xc) 2))), (Instr.loadAt 5 (.pointer (some (adr (.slice xo xn xc) 2))), bv (byteAt (cs.take 3) 2)), (Instr.sliceAt 26 (.slice xo xn xc) (some (.int .i64 (n : Int))) Option.none Option.none, (.slice ro rn rc)), (Instr.indexAt 26 (.slice xo xn xc) (.int .i64 0), .pointer (some (adr (.slice xo xn xc) 0))), (Instr.loadAt 5 (.pointer (some (adr (.slice xo xn xc) 0))), bv (byteAt (cs.take 3) 0))] hW4 (by kernel_rfl) ⟨congrArg Value.bool (by simp; omega), congrArg Value.bool (by simp; omega), congrArg Value.bool (by simp; omega), congrArg Value.bool (by simp; omega), congrArg Value.bool (ne_u8 h0), trivial⟩ ⟨fun wx _ => by rw [← hx]; exact U0.sem_cutL (k := 2) (by omega) wx, fun wx _ => slen wx, fun wx _ => (Uc w r).sem_at (i := 0) (by omega) wx, fun wx hx => ld_as (Uc wx (r4 wx hx)) (by omega) (bt3 cs (by omega)), fun wx _ => (Uc w r).sem_at (i := 1) (by omega) wx, fun wx hx => ld_as (Uc wx (r4 wx hx)) (by omega) (bt3 cs (by omega)), fun wx _ => (Uc w r).sem_at (i := 2) (by omega) wx, fun wx hx => ld_as (Uc wx (r4 wx hx)) (by omega) (bt3 cs (by omega)), fun wx _ => by rw [← hrx]; exact (Uc w r).sem_cutL (k := n) (by omega) wx, fun wx _ => (Uc w r).sem_at (i := 0) (by omega) wx, fun wx hx => ld_as (Uc wx (r4 wx hx)) (by omega) (bt3 cs (by omega)), trivial⟩ (fun w5 hW5 hS5 => llcEnd (by unfold isSap; simp [h0]) w5 hW5 hS5)
end
end Go.Proofs.YtcimfojbggckhaaDoor
namespace Go.Proofs.YtcimfojbggckhaaDoor
open Go.RowKit
section
variable {w : World} {v : Value} {bs : List UInt8}
set_option maxRecDepth 8000 in
theorem rg_any (r : Rd w v bs) (hl : bs.length ≤ 1099511627776) : Calls Tryd.prog 25 #[v] w (rgQ w v bs) := by
  refine enter (args := [v]) Tryd.func25 (by kernel_rfl) ?_
  by_cases h1 : 65535 < bs.length
  · refine go_ret (gt := fun _ => Option.none) (unroll := false) 60 [(1, 1, .sem (.int .i64 (bs.length : Int))), (1, 2, .is (.bool true))] [.cell 2 32, .tmp 3] (.tuple #[.agg fr0.a, .int .i64 3]) [(.bool (decide ((bs.length : Int) > 65535)), .bool true)] [(Builtin.len_ #[26] 3 #[v], .int .i64 (bs.length : Int))] (Wst.start0 w) Tryd.results25 (by kernel_rfl)
      ⟨congrArg Value.bool (by simp; omega), trivial⟩ ⟨fun wx _ => r.run_len (ty := 3) bt.sl, trivial⟩ ?_
    intro w7 hW7 _
    exact rg_fail (e := 3) (if_pos h1) hW7.keep
  by_cases h2 : bs.length < 12
  · refine go_ret (gt := fun _ => Option.none) (unroll := false) 60 [(1, 1, .sem (.int .i64 (bs.length : Int))), (1, 2, .is (.bool false)), (3, 1, .sem (.int .i64 (bs.length : Int))), (3, 2, .is (.bool true))] [.cell 2 32, .tmp 3] (.tuple #[.agg fr0.a, .int .i64 4]) [(.bool (decide ((bs.length : Int) > 65535)), .bool false), (.bool (decide ((bs.length : Int) < 12)), .bool true)] [(Builtin.len_ #[26] 3 #[v], .int .i64 (bs.length : Int)), (Builtin.len_ #[26] 3 #[v], .int .i64 (bs.length : Int))] (Wst.start0 w) Tryd.results25 (by kernel_rfl)
      ⟨congrArg Value.bool (by simp; omega), congrArg Value.bool (by simp; omega), trivial⟩ ⟨fun wx _ => r.run_len (ty := 3) bt.sl, fun wx _ => r.run_len (ty := 3) bt.sl, trivial⟩ ?_
    intro w7 hW7 _
    exact rg_fail (e := 4) (by rw [frameR, if_neg h1, if_pos h2]) hW7.keep
  have uc : ∀ {wx : World}, Rd wx v bs → Rd wx (cutv v 12 bs.length) (bs.drop 12) := fun rx => by
    have := rx.cut (l := 12) (h := bs.length) (by omega) (Nat.le_refl _)
    rwa [List.take_of_length_le (by simp)] at this
  refine go_call_is (gt := fun _ => Option.none) (unroll := false) 60 [(1, 1, .sem (.int .i64 (bs.length : Int))), (1, 2, .is (.bool false)), (3, 1, .sem (.int .i64 (bs.length : Int))), (3, 2, .is (.bool false)), (5, 1, .sem (cutv v 12 bs.length))] 35 [cutv v 12 bs.length] [0, 2] [v, pT w.heap.size] 23 (g2 w) [(2, 0)] (inR rgC 5 2)
    [(.bool (decide ((bs.length : Int) > 65535)), .bool false), (.bool (decide ((bs.length : Int) < 12)), .bool false)] [(Builtin.len_ #[26] 3 #[v], .int .i64 (bs.length : Int)), (Builtin.len_ #[26] 3 #[v], .int .i64 (bs.length : Int)), (Instr.sliceAt 26 v (some (.int .i64 12)) Option.none Option.none, cutv v 12 bs.length)]
    (Wst.start0 w) (by kernel_rfl) ⟨congrArg Value.bool (by simp; omega), congrArg Value.bool (by simp; omega), trivial⟩ ⟨fun wx _ => r.run_len (ty := 3) bt.sl, fun wx _ => r.run_len (ty := 3) bt.sl, fun wx _ => r.sem_cutL (k := 12) (by omega) wx, trivial⟩ ?_
  intro w1 hW1 _
  refine (refread_any (uc (r.keep0 hW1.keep)) (by simp; omega)).mono ?_
  rintro x w2 ⟨vt, u, rfl, R⟩
  refine ⟨_, rfl, ?_⟩
  have hW2 := hW1.later R.keep
  rcases hq : readT 3 [] (bs.drop 12) with ⟨l, rr, e⟩
  have hrl := read_len hq
  obtain ⟨R1, R2, R3, R4, R5⟩ := R
  rw [hq] at R1 R2
  simp only at R1 R2 ⊢
  have T2 : Hd (g2 w) w2 vt l := ⟨R1, R5, Ap.fresh hW1 R4⟩
  have U2 : ∀ wx, Rd wx v bs → Rd wx u rr := fun wx rx => R2 wx (uc rx)
  have U0 := U2 w r
  obtain ⟨to, cap, rfl, _⟩ := R1.shape
  by_cases he : e = 0
  · subst he
    by_cases hr2 : rr.length < 2
    · refine go_ret (gt := fun _ => Option.none) (unroll := false) 60 [(8, 1, .sem (.int .i64 (rr.length : Int))), (8, 2, .is (.bool true))] [.cell 2 32, .tmp 3] (.tuple #[.agg fr0.a, .int .i64 4]) [(.bool (decide ((rr.length : Int) < 2)), .bool true)] [(Builtin.len_ #[26] 3 #[u], .int .i64 (rr.length : Int))] hW2 Tryd.results25 (by kernel_rfl)
        ⟨congrArg Value.bool (by simp; omega), trivial⟩ ⟨fun wx _ => U0.run_len (ty := 3) bt.sl, trivial⟩ ?_
      intro w7 hW7 _
      refine rg_fail (e := 4) ?_ hW7.keep
      unfold frameR
      rw [if_neg h1, if_neg h2, hq]
      simp [hr2]
    · refine go_stop (gt := fun _ => Option.none) (unroll := false) 60 [(8, 1, .sem (.int .i64 (rr.length : Int))), (8, 2, .is (.bool false)), (10, 0, .stop)] [0, 2, 4, 5] [v, pT w.heap.size, .slice to l.length cap, u] (g2 w) [(2, 0)] (opsR rgC 10) [(.bool (decide ((rr.length : Int) < 2)), .bool false)] [(Builtin.len_ #[26] 3 #[u], .int .i64 (rr.length : Int))] hW2 (by kernel_rfl)
        ⟨congrArg Value.bool (by simp; omega), trivial⟩ ⟨fun wx _ => U0.run_len (ty := 3) bt.sl, trivial⟩ ?_
      intro w3 hW3 hS3
      exact rg_tail r hl h1 h2 hq (by simp at hrl; omega) hW3 (T2.pass0 hS3) U2 (R4.mono hW1.keep.size) hr2
  · refine go_ret (gt := fun _ => Option.none) (unroll := false) 60 [(6, 1, .is (.bool true))] [.cell 2 32, .tmp 3] (.tuple #[.agg fr0.a, .int .i64 (e : Int)]) [(.bool ((e : Int) != 0), .bool true)] [] hW2 Tryd.results25 (by kernel_rfl) ⟨congrArg Value.bool (by simpa using he), trivial⟩ trivial ?_
    intro w7 hW7 _
    refine rg_fail (e := e) ?_ hW7.keep
    unfold frameR
    rw [if_neg h1, if_neg h2, hq]
    simp [he]
end
end Go.Proofs.YtcimfojbggckhaaDoor
namespace Go.Proofs.YtcimfojbggckhaaDoor
open Go.RowKit

/-- What a frame tells, whatever its numbers. -/
structure Fi where
  dst : List UInt8
  src : List UInt8
  tags : List Tg
  kind : Int
  typ : Int
  llc : List UInt8
  oui : List UInt8
  body : List UInt8
  rest : List UInt8
def Fc.i (c : Fc) : Fi := ⟨c.dst, c.src, c.tags, c.kind, c.typ, c.llc, c.oui, c.body, c.rest⟩
/-- Its cells, the slices given. -/
def Fi.f (c : Fi) (t b r : Value) : Fr := ⟨c.dst, c.src, t, c.kind, c.typ, c.llc, c.oui, b, r⟩
abbrev fiCells (c : Fi) (to : Option Addr) (tn tc : Nat) (bo : Option Addr) (bn bc : Nat) (ro : Option Addr) (rn rc : Nat) : Fr := c.f (.slice to tn tc) (.slice bo bn bc) (.slice ro rn rc)
/-- The value x is a frame that tells c. -/
def FrV (w : World) (x : Value) (c : Fi) : Prop := ∃ to tn tc bo bn bc ro rn rc, x = .agg (fiCells c to tn tc bo bn bc ro rn rc).a ∧ Rt w (.slice to tn tc) c.tags ∧ Rd w (.slice bo bn bc) c.body ∧ Rd w (.slice ro rn rc) c.rest
theorem FrV.keep0 {w w' : World} {x : Value} {c : Fi} (h : FrV w x c) (k : Keep No w w') : FrV w' x c := by
  obtain ⟨to, tn, tc, bo, bn, bc, ro, rn, rc, h1, h2, h3, h4⟩ := h
  exact ⟨to, tn, tc, bo, bn, bc, ro, rn, rc, h1, h2.keep0 k, h3.keep0 k, h4.keep0 k⟩
def fvS (c : Fi) : Sv := .such (fun w x => FrV w x c) (fun _ _ _ k h => h.keep0 k)
theorem fr_a_congr {F : Fr} {c : Fi} (hd : ∀ i, byteAt F.dst i = byteAt c.dst i) (hs : ∀ i, byteAt F.src i = byteAt c.src i) (hk : F.kind = c.kind) (ht : F.typ = c.typ) (hl : ∀ i, byteAt F.llc i = byteAt c.llc i) (ho : ∀ i, byteAt F.oui i = byteAt c.oui i) : F.a = (c.f F.tags F.body F.rest).a := by
  simp only [Fr.a, Fi.f, hd, hs, hk, ht, hl, ho]
theorem FrIs.cells {w : World} {f : Fr} {c : Fc} (h : FrIs w f c) : f.a = (c.i.f f.tags f.body f.rest).a := fr_a_congr h.dst h.src h.kind h.typ h.llc h.oui
theorem FrV.of {w : World} {c : Fi} {t b r : Value} (ht : Rt w t c.tags) (hb : Rd w b c.body) (hr : Rd w r c.rest) : FrV w (.agg (c.f t b r).a) c := by
  obtain ⟨to, tc, e1, _⟩ := ht.shape
  obtain ⟨bo, bn, bc, e2⟩ := hb.form
  obtain ⟨ro, rn, rc, e3⟩ := hr.form
  subst e1 e2 e3
  exact ⟨to, _, tc, bo, bn, bc, ro, rn, rc, rfl, ht, hb, hr⟩
theorem FrIs.v {w : World} {f : Fr} {c : Fc} (h : FrIs w f c) : FrV w (.agg f.a) c.i := by
  rw [h.cells]; exact FrV.of h.tags h.body h.rest
/-- Of. -/
theorem vof_any {w : World} {x : Value} {c : Fi} (h : FrV w x c) (hn : c.tags.length ≤ 1000000) : Calls Tryd.prog 14 #[x] w fun e w' => ∃ v, e = .returned v ∧ Keep No w w' ∧ FrV w' v c := by
  obtain ⟨to, tn, tc, bo, bn, bc, ro, rn, rc, rfl, h2, h3, h4⟩ := h
  refine (of_any (F := fiCells c to tn tc bo bn bc ro rn rc) rfl h2 hn).mono ?_
  rintro e w' ⟨uo, un, uc, rfl, h5, h6, _, _⟩
  exact ⟨_, rfl, h6, uo, un, uc, bo, bn, bc, ro, rn, rc, rfl, h5, h3.keep0 h6, h4.keep0 h6⟩
/-- Same. -/
theorem vsame_any {w : World} {x y : Value} {c : Fi} (h : FrV w x c) (k : FrV w y c) (hn : c.tags.length ≤ 1000000) : Calls Tryd.prog 24 #[x, y] w (esQ w) := by
  obtain ⟨to, tn, tc, bo, bn, bc, ro, rn, rc, rfl, h2, h3, h4⟩ := h
  obtain ⟨uo, un, uc, xo, xn, xc, yo, yn, yc, rfl, k2, k3, k4⟩ := k
  exact same_any (F := fiCells c to tn tc bo bn bc ro rn rc) (G := fiCells c uo un uc xo xn xc yo yn yc) rfl rfl h2 k2 h3 k3 h4 k4 hn
theorem allOk1 {s : Sv} {w : World} {l : List Value} (h : allOk [s] w l) : ∃ x, l = [x] ∧ s.ok w x := by
  match l, h with
  | [x], hx => exact ⟨x, rfl, hx.1⟩
theorem allOk2 {s t : Sv} {w : World} {l : List Value} (h : allOk [s, t] w l) : ∃ x y, l = [x, y] ∧ s.ok w x ∧ t.ok w y := by
  match l, h with
  | [x, y], hx => exact ⟨x, y, rfl, hx.1, hx.2.1⟩
section
variable {w0 : World} {c : Fi}
theorem vof_ob (hn : c.tags.length ≤ 1000000) : CallOb Tryd.prog w0 14 [fvS c] (fvS c) := by
  rintro w vals k ha
  obtain ⟨x, rfl, h1⟩ := allOk1 ha
  have e1 : FrV w x c := h1
  exact (vof_any e1 hn).mono fun e w' ⟨v, h1, h2, h3⟩ => ⟨v, h1, h2, h3⟩
theorem vof_obI {x : Value} (h : FrV w0 x c) (hn : c.tags.length ≤ 1000000) : CallOb Tryd.prog w0 14 [.is x] (fvS c) := by
  rintro w vals k ha
  obtain ⟨y, rfl, h1⟩ := allOk1 ha
  obtain rfl : y = x := h1
  exact (vof_any (h.keep0 k) hn).mono fun e w' ⟨v, h1, h2, h3⟩ => ⟨v, h1, h2, h3⟩
theorem vsame_ob (hn : c.tags.length ≤ 1000000) : CallOb Tryd.prog w0 24 [fvS c, fvS c] (.is (.bool true)) := by
  rintro w vals k ha
  obtain ⟨x, y, rfl, h1, h2⟩ := allOk2 ha
  have e1 : FrV w x c := h1
  have e2 : FrV w y c := h2
  exact (vsame_any e1 e2 hn).mono fun e w' ⟨h1, h2⟩ => ⟨_, h1, h2, rfl⟩
theorem vsame_obI {y : Value} (h : FrV w0 y c) (hn : c.tags.length ≤ 1000000) : CallOb Tryd.prog w0 24 [fvS c, .is y] (.is (.bool true)) := by
  rintro w vals k ha
  obtain ⟨x, z, rfl, h1, h2⟩ := allOk2 ha
  obtain rfl : z = y := h2
  have e1 : FrV w x c := h1
  exact (vsame_any e1 (h.keep0 k) hn).mono fun e w' ⟨h1, h2⟩ => ⟨_, h1, h2, rfl⟩
theorem tells_ob (hk : Kh w0) (hs : Sh w0) : CallOb Tryd.prog w0 19 [] (.is (.bool true)) := by
  rintro w vals k ha
  match vals, ha with
  | [], _ => exact (tells_any (hk.keep0 k) (hs.keep0 k)).mono fun e w' ⟨h1, h2⟩ => ⟨_, h1, h2, rfl⟩
end

/-! ### frames held through a walk -/
structure HdF (rows : List RowS) (w : World) (f : Fr) (c : Fi) : Prop where
  cells : f.a = (c.f f.tags f.body f.rest).a
  t : Hd rows w f.tags c.tags
  b : HdB rows w f.body c.body
  r : HdB rows w f.rest c.rest
section
variable {W0 w w' : World} {rows : List RowS} {f : Fr} {c : Fi}
theorem HdF.pass (more : List RowS) (h : HdF rows w f c) (hS : Seg ⟨rows, w.heap.size⟩ w ⟨rows ++ more, w'.heap.size⟩ w') (hm : ∀ r ∈ more, w.heap.size ≤ r.b) : HdF (rows ++ more) w' f c := ⟨h.cells, h.t.pass more hS hm, h.b.pass more hS hm, h.r.pass more hS hm⟩
theorem HdF.pass0 (h : HdF rows w f c) (hS : Seg ⟨rows, w.heap.size⟩ w ⟨rows, w'.heap.size⟩ w') : HdF rows w' f c := ⟨h.cells, h.t.pass0 hS, h.b.pass0 hS, h.r.pass0 hS⟩
theorem HdF.call (h : HdF rows w f c) (k : Keep No w w') : HdF rows w' f c := ⟨h.cells, h.t.call k, h.b.call k, h.r.call k⟩
theorem HdF.fewer {more : List RowS} (h : HdF (rows ++ more) w f c) : HdF rows w f c := ⟨h.cells, h.t.fewer, h.b.fewer, h.r.fewer⟩
theorem HdF.none (h : HdF rows w f c) : HdF [] w f c := ⟨h.cells, h.t.none, h.b.none, h.r.none⟩
theorem HdF.v (h : HdF rows w f c) : FrV w (.agg f.a) c := by rw [h.cells]; exact FrV.of h.t.rt h.b.rd h.r.rd
theorem GetF.hd {c : Fc} (h : GetF w f c w') (hW : Wst W0 ⟨rows, w.heap.size⟩ w) : HdF rows w' f c.i :=
  ⟨h.is.cells, ⟨h.is.tags, h.lt, Ap.fresh hW h.st⟩, ⟨h.is.body, h.lb, Ap.fresh hW h.sb⟩, ⟨h.is.rest, h.lr, Ap.fresh hW h.sr⟩⟩
/-- A frame's cells show their slices. -/
theorem HdF.forms (h : HdF rows w f c) : ∃ to tn tc bo bn' bc ro rn rc, f.tags = .slice to tn tc ∧ f.body = .slice bo bn' bc ∧ f.rest = .slice ro rn rc := by
  obtain ⟨to, tc, ht, _⟩ := h.t.rt.shape
  obtain ⟨bo, bn', bc, hb⟩ := h.b.rd.form
  obtain ⟨ro, rn, rc, hr⟩ := h.r.rd.form
  exact ⟨to, _, tc, bo, bn', bc, ro, rn, rc, ht, hb, hr⟩
end
end Go.Proofs.YtcimfojbggckhaaDoor
namespace Go.Proofs.YtcimfojbggckhaaDoor
open Go.RowKit Go.ChangeShapes Go.WideShapes Go.ChangeAt

theorem list_of {α : Type} (d : α) : ∀ (n : Nat) (P : Nat → α → Prop), (∀ i, i < n → ∃ a, P i a) → ∃ l : List α, l.length = n ∧ ∀ i, i < n → P i (l.getD i d)
  | 0, _, _ => ⟨[], rfl, fun _ h => by omega⟩
  | n + 1, P, h => by
    obtain ⟨a, ha⟩ := h 0 (by omega)
    obtain ⟨l, hl, hp⟩ := list_of d n (fun i => P (i + 1)) (fun i hi => h (i + 1) (by omega))
    refine ⟨a :: l, by simp [hl], fun i hi => ?_⟩
    cases i with
    | zero => exact ha
    | succ i => exact hp i (by omega)
section
variable {H : Type} {enc : TypeId × Value → H} {w : World} {base : Nat} {held : Bool}
theorem tags_of {v : Value} {f : Nat} {x : DataW H × List MemPlace} (h : DataW.trod enc Tryd.prog w base (fun _ => true) held f 24 [v] = some x) : ∃ l : List Tg, Rt w v l := by
  obtain ⟨n, c, sl, hel⟩ := open_row (s := 4) Tryd.underlying24 (by kernel_rfl) (by omega) h
  obtain ⟨l, hl, hp⟩ := list_of (⟨0, 0, false, 0⟩ : Tg) n (fun i t => ((List.range 4).map fun j => c (i * 4 + j)) = t.a.toList) (fun i hi => by
    obtain ⟨f', y, hy⟩ := hel i hi
    obtain ⟨t, h1, _⟩ := tg_of (by simp) hy
    exact ⟨t, h1⟩)
  refine ⟨l, by rw [hl]; exact sl.shape, fun j hj => ?_⟩
  have hi : j / 4 < l.length := by omega
  have h1 := csT_get (l := l) hi (j := j % 4) (by omega)
  rw [show j / 4 * 4 + j % 4 = j by omega] at h1
  have h2 := hp (j / 4) (by omega)
  have h3 : l.getD (j / 4) ⟨0, 0, false, 0⟩ = l[j / 4] := by simp [hi]
  rw [h3] at h2
  have h4 : ((List.range 4).map fun q => c (j / 4 * 4 + q))[j % 4]? = some (c j) := by
    rw [List.getElem?_map, List.getElem?_range (by omega), Option.map_some, show j / 4 * 4 + j % 4 = j by omega]
  rw [h2, ← h1] at h4
  rw [List.getD_eq_getElem?_getD, h4]
  exact sl.cell j (by omega)
theorem byte_of {n : Int} (h : (Lit.int .u8 n).wf = true) : ∃ x : UInt8, Value.int .u8 n = bv x := ⟨UInt8.ofNat n.toNat, by rw [bv, byte_of_int (wf_u8 h)]⟩
theorem leaf_u8 {t : TypeId} {j : Nat} {cs : List Value} {f : Nat} {x : DataW H × List MemPlace} (h : DataW.trod enc Tryd.prog w base (fun _ => true) held f t cs = some x) (hl : leafAt Tryd.prog 4 t j = some 5) : ∃ y : UInt8, cs[j]? = some (bv y) := by
  obtain ⟨n, e, hw⟩ := cell_int h hl Tryd.underlying5
  obtain ⟨y, hy⟩ := byte_of hw
  exact ⟨y, by rw [e, hy]⟩
theorem leaf_bytes {t : TypeId} {j : Nat} {cs : List Value} {f : Nat} {x : DataW H × List MemPlace} (h : DataW.trod enc Tryd.prog w base (fun _ => true) held f t cs = some x) (hl : leafAt Tryd.prog 4 t j = some 26) : ∃ a n c bs, cs[j]? = some (.slice a n c) ∧ Rd w (.slice a n c) bs := by
  obtain ⟨f2, y2, cc, e3, h3⟩ := trod_leaf 4 h hl
  rcases DataW.trod_slice Tryd.underlying26 h3 with ⟨h4, _⟩ | ⟨a, len, cap, _, _, _, _, h4, _⟩
  · simp at h4
    subst h4
    obtain ⟨bs, hr, _⟩ := open_bytes Tryd.underlying26 rfl h3
    exact ⟨none, 0, 0, bs, e3, hr⟩
  · simp at h4
    subst h4
    obtain ⟨bs, hr, _⟩ := open_bytes Tryd.underlying26 rfl h3
    exact ⟨some a, len, cap, bs, e3, hr⟩
theorem leaf_tags {t : TypeId} {j : Nat} {cs : List Value} {f : Nat} {x : DataW H × List MemPlace} (h : DataW.trod enc Tryd.prog w base (fun _ => true) held f t cs = some x) (hl : leafAt Tryd.prog 4 t j = some 24) : ∃ a n c l, cs[j]? = some (.slice a n c) ∧ Rt w (.slice a n c) l := by
  obtain ⟨f2, y2, cc, e3, h3⟩ := trod_leaf 4 h hl
  obtain ⟨l, hr⟩ := tags_of h3
  obtain ⟨a, c, e, _⟩ := hr.shape
  subst e
  exact ⟨a, _, c, l, e3, hr⟩
theorem open_frame {cs : Array Value} {f : Nat} {x : DataW H × List MemPlace} (hs : cs.size = Tryd.prog.cellsOf 28) (h : DataW.trod enc Tryd.prog w base (fun _ => true) held f 28 cs.toList = some x) :
    ∃ c to tn tc bo bn bc ro rn rc, cs = (fiCells c to tn tc bo bn bc ro rn rc).a ∧ Rt w (.slice to tn tc) c.tags ∧ Rd w (.slice bo bn bc) c.body ∧ Rd w (.slice ro rn rc) c.rest := by
  have hl : cs.toList.length = 23 := by rw [Array.length_toList, hs]; kernel_rfl
  obtain ⟨y0, e0⟩ := leaf_u8 (j := 0) h (by kernel_rfl)
  obtain ⟨y1, e1⟩ := leaf_u8 (j := 1) h (by kernel_rfl)
  obtain ⟨y2, e2⟩ := leaf_u8 (j := 2) h (by kernel_rfl)
  obtain ⟨y3, e3⟩ := leaf_u8 (j := 3) h (by kernel_rfl)
  obtain ⟨y4, e4⟩ := leaf_u8 (j := 4) h (by kernel_rfl)
  obtain ⟨y5, e5⟩ := leaf_u8 (j := 5) h (by kernel_rfl)
  obtain ⟨y6, e6⟩ := leaf_u8 (j := 6) h (by kernel_rfl)
  obtain ⟨y7, e7⟩ := leaf_u8 (j := 7) h (by kernel_rfl)
  obtain ⟨y8, e8⟩ := leaf_u8 (j := 8) h (by kernel_rfl)
  obtain ⟨y9, e9⟩ := leaf_u8 (j := 9) h (by kernel_rfl)
  obtain ⟨y10, e10⟩ := leaf_u8 (j := 10) h (by kernel_rfl)
  obtain ⟨y11, e11⟩ := leaf_u8 (j := 11) h (by kernel_rfl)
  obtain ⟨y15, e15⟩ := leaf_u8 (j := 15) h (by kernel_rfl)
  obtain ⟨y16, e16⟩ := leaf_u8 (j := 16) h (by kernel_rfl)
  obtain ⟨y17, e17⟩ := leaf_u8 (j := 17) h (by kernel_rfl)
  obtain ⟨y18, e18⟩ := leaf_u8 (j := 18) h (by kernel_rfl)
  obtain ⟨y19, e19⟩ := leaf_u8 (j := 19) h (by kernel_rfl)
  obtain ⟨y20, e20⟩ := leaf_u8 (j := 20) h (by kernel_rfl)
  obtain ⟨to, tn, tc, lt, e12, rt⟩ := leaf_tags (j := 12) h (by kernel_rfl)
  obtain ⟨kd, e13, _⟩ := cell_int (d := 4) (j := 13) h (t' := 3) (by kernel_rfl) Tryd.underlying3
  obtain ⟨ty, e14, _⟩ := cell_int (d := 4) (j := 14) h (t' := 3) (by kernel_rfl) Tryd.underlying3
  obtain ⟨bo, bn, bc, lb, e21, rb⟩ := leaf_bytes (j := 21) h (by kernel_rfl)
  obtain ⟨ro, rn, rc, lr, e22, rr⟩ := leaf_bytes (j := 22) h (by kernel_rfl)
  refine ⟨⟨[y0, y1, y2, y3, y4, y5], [y6, y7, y8, y9, y10, y11], lt, kd, ty, [y15, y16, y17], [y18, y19, y20], lb, lr⟩, to, tn, tc, bo, bn, bc, ro, rn, rc, Array.ext' ?_, rt, rb, rr⟩
  generalize cs.toList = l at *
  match l, hl, e0, e1, e2, e3, e4, e5, e6, e7, e8, e9, e10, e11, e12, e13, e14, e15, e16, e17, e18, e19, e20, e21, e22 with
  | [c0, c1, c2, c3, c4, c5, c6, c7, c8, c9, c10, c11, c12, c13, c14, c15, c16, c17, c18, c19, c20, c21, c22], _, e0, e1, e2, e3, e4, e5, e6, e7, e8, e9, e10, e11, e12, e13, e14, e15, e16, e17, e18, e19, e20, e21, e22 =>
    obtain rfl := Option.some.inj e0
    obtain rfl := Option.some.inj e1
    obtain rfl := Option.some.inj e2
    obtain rfl := Option.some.inj e3
    obtain rfl := Option.some.inj e4
    obtain rfl := Option.some.inj e5
    obtain rfl := Option.some.inj e6
    obtain rfl := Option.some.inj e7
    obtain rfl := Option.some.inj e8
    obtain rfl := Option.some.inj e9
    obtain rfl := Option.some.inj e10
    obtain rfl := Option.some.inj e11
    obtain rfl := Option.some.inj e12
    obtain rfl := Option.some.inj e13
    obtain rfl := Option.some.inj e14
    obtain rfl := Option.some.inj e15
    obtain rfl := Option.some.inj e16
    obtain rfl := Option.some.inj e17
    obtain rfl := Option.some.inj e18
    obtain rfl := Option.some.inj e19
    obtain rfl := Option.some.inj e20
    obtain rfl := Option.some.inj e21
    obtain rfl := Option.some.inj e22
    rfl
theorem open_u16 {n : Int} {f : Nat} {x : DataW H × List MemPlace} (h : DataW.trod enc Tryd.prog w base (fun _ => true) held f 55 [.int .u16 n] = some x) : ∃ k : Nat, n = (k : Int) ∧ k < 65536 := by
  obtain ⟨m, h1, h2⟩ := leaf_int Tryd.underlying55 h
  obtain rfl : n = m := by simpa using h1
  have := bounds_u16 h2
  exact ⟨n.toNat, by omega, by omega⟩
theorem open_oui {cs : Array Value} {f : Nat} {x : DataW H × List MemPlace} (hs : cs.size = Tryd.prog.cellsOf 25) (h : DataW.trod enc Tryd.prog w base (fun _ => true) held f 25 cs.toList = some x) : ∃ l : List UInt8, cs = #[bv (byteAt l 0), bv (byteAt l 1), bv (byteAt l 2)] := by
  have hl : cs.toList.length = 3 := by rw [Array.length_toList, hs]; kernel_rfl
  obtain ⟨y0, e0⟩ := leaf_u8 (j := 0) h (by kernel_rfl)
  obtain ⟨y1, e1⟩ := leaf_u8 (j := 1) h (by kernel_rfl)
  obtain ⟨y2, e2⟩ := leaf_u8 (j := 2) h (by kernel_rfl)
  refine ⟨[y0, y1, y2], Array.ext' ?_⟩
  generalize cs.toList = l at *
  match l, hl, e0, e1, e2 with
  | [c0, c1, c2], _, e0, e1, e2 =>
    obtain rfl := Option.some.inj e0
    obtain rfl := Option.some.inj e1
    obtain rfl := Option.some.inj e2
    rfl
end
end Go.Proofs.YtcimfojbggckhaaDoor
namespace Go.Proofs.YtcimfojbggckhaaDoor
open Go.RowKit

/-- brought. -/
def broT (t : Tg) : Tg := ⟨if t.k % 2 = 0 then 34984 else 33024, t.p % 8, t.d, t.v % 4096⟩
theorem brought_tg (w : World) (t : Tg) : Calls Tryd.prog 38 #[.agg t.a] w fun x w' => x = .returned (.agg (broT t).a) ∧ Keep No w w' := by
  refine (brought_any w t.k t.p t.v t.d).mono fun e w' ⟨h1, h2⟩ => ⟨?_, h2⟩
  rw [h1]
  have e1 : Int.tmod (t.k : Int) 2 = ((t.k % 2 : Nat) : Int) := rem_nat t.k 2
  have e2 : Int.tmod (t.p : Int) 8 = ((t.p % 8 : Nat) : Int) := rem_nat t.p 8
  have e3 : Int.tmod (t.v : Int) 4096 = ((t.v % 4096 : Nat) : Int) := rem_nat t.v 4096
  unfold broughtR broT Tg.a
  rw [e1, e2, e3]
  by_cases h : t.k % 2 = 0
  · simp [h]
  · have : ¬ (((t.k % 2 : Nat) : Int) == 0) = true := by simp; omega
    rw [if_neg this]
    simp only [h, if_false]
    rfl
theorem may_bro (t : Tg) : mayT (broT t) = true := by
  have h1 : t.p % 8 < 8 := Nat.mod_lt _ (by omega)
  have h2 : t.v % 4096 < 4096 := Nat.mod_lt _ (by omega)
  have h3 : (kindsL 0).contains ((broT t).k : Int) = true := by
    unfold broT
    simp only
    split <;> decide
  simp only [mayT, h3, Bool.true_and, Bool.and_eq_true, decide_eq_true_eq]
  simp only [broT]
  omega
noncomputable abbrev tpC : Code := bodyOf Tryd.f9
noncomputable abbrev tpN : Nat := Tryd.f9.ntmps
def tpBs (h : Nat) (x y x' y' : Tg) : Nat → List (Nat × List Value)
  | 0 => [(h, x.a.toList), (h + 1, y.a.toList)]
  | 1 => [(h, x'.a.toList), (h + 1, y.a.toList)]
  | _ => [(h, x'.a.toList), (h + 1, y'.a.toList)]
def tpS (h : Nat) : Nat → Prop := fun k => k = h ∨ k = h + 1
abbrev tpQ (w : World) : Ending → World → Prop := fun x w' => x = .returned (.bool true) ∧ Keep No w w'
abbrev tpRows (h : Nat) (x y : Tg) : List RowS := [⟨h, x.a.toList, true⟩, ⟨h + 1, y.a.toList, true⟩]
section
variable {w : World}
/-- Up to the brought tags. -/
theorem tp_head (x y : Tg) (hk : ∀ w2, Wst w ⟨tpRows w.heap.size (broT x) (broT y), w2.heap.size⟩ w2 → Goal Tryd.prog (bodyPost Tryd.prog Tryd.f9 (tpQ w)) tpN ⟨frOf [2, 3] [.pointer (some ⟨w.heap.size, 0, none⟩), .pointer (some ⟨w.heap.size + 1, 0, none⟩)], tagL [(2, 0), (3, 1)], ⟨tpRows w.heap.size (broT x) (broT y), w2.heap.size⟩, afterR tpC 1⟩ w2) :
    Calls Tryd.prog 9 #[.agg x.a, .agg y.a] w (tpQ w) := by
  refine enter (args := [.agg x.a, .agg y.a]) Tryd.func9 (by kernel_rfl) ?_
  refine go_stop (gt := fun _ => Option.none) (unroll := false) 60 [] [2, 3] [.pointer (some ⟨w.heap.size, 0, none⟩), .pointer (some ⟨w.heap.size + 1, 0, none⟩)] (tpRows w.heap.size x y) [] (atR tpC 1) [] [] (Wst.start0 w) (by kernel_rfl) trivial trivial ?_
  intro w1 hW1 _
  obtain ⟨t1, hr1⟩ := hW1.rows ⟨w.heap.size, x.a.toList, true⟩ (by simp)
  obtain ⟨t2, hr2⟩ := hW1.rows ⟨w.heap.size + 1, y.a.toList, true⟩ (by simp)
  have hW1' : Wst w ⟨[], w1.heap.size⟩ w1 := hW1.fewer (rows := []) (more := tpRows w.heap.size x y)
  have hlo : ∀ k, tpS w.heap.size k → w.heap.size ≤ k := fun k hk => by rcases hk with rfl | rfl <;> omega
  have hKN : ∀ wx, Keep (tpS w.heap.size) w1 wx → Keep No w wx := fun wx k => hW1.keep.trans' k (fun i hi h => by have := hlo i h; omega)
  have hSl : ∀ k, tpS w.heap.size k → k < w1.heap.size := fun k hk => by
    have q1 := block_of_row hr1
    have q2 := block_of_row hr2
    rcases hk with rfl | rfl
    · exact q1
    · exact q2
  refine Goal.re (tags := tagL []) (m := ⟨[], w1.heap.size⟩) ?_
  refine drawnM_ok (S0 := tpS w.heap.size) (gt := fun _ => Option.none) (D := RowsK (tpS w.heap.size) (tpBs w.heap.size x y (broT x) (broT y))) (g0 := ⟨False, undef, tpS w.heap.size⟩)
    [(0, .early (.is (.agg x.a))), (1, .call (.is (.agg (broT x).a))), (2, .early (.is (.agg y.a))), (3, .call (.is (.agg (broT y).a))), (4, .act (.is undef)), (5, .act (.is undef))] [2, 3] [.is (.pointer (some ⟨w.heap.size, 0, none⟩)), .is (.pointer (some ⟨w.heap.size + 1, 0, none⟩))]
    (EarlyM Tryd.prog (tpS w.heap.size) w1 (RowsK (tpS w.heap.size) (tpBs w.heap.size x y (broT x) (broT y))) (.load 57 (.tmp 2)) 57 [(2, .is (.pointer (some ⟨w.heap.size, 0, none⟩)))] (.is (.agg x.a)) ∧
      CallM Tryd.prog (tpS w.heap.size) w1 38 [.is (.agg x.a)] (.is (.agg (broT x).a)) ∧
      EarlyM Tryd.prog (tpS w.heap.size) w1 (RowsK (tpS w.heap.size) (tpBs w.heap.size x y (broT x) (broT y))) (.load 57 (.tmp 3)) 57 [(3, .is (.pointer (some ⟨w.heap.size + 1, 0, none⟩)))] (.is (.agg y.a)) ∧
      CallM Tryd.prog (tpS w.heap.size) w1 38 [.is (.agg y.a)] (.is (.agg (broT y).a)) ∧
      ActM Tryd.prog (tpS w.heap.size) w1 (RowsK (tpS w.heap.size) (tpBs w.heap.size x y (broT x) (broT y))) 0 (.store 57 (.tmp 2) (.tmp 22)) 0 [(2, .is (.pointer (some ⟨w.heap.size, 0, none⟩))), (22, .is (.agg (broT x).a))] (.is undef) ∧
      ActM Tryd.prog (tpS w.heap.size) w1 (RowsK (tpS w.heap.size) (tpBs w.heap.size x y (broT x) (broT y))) 1 (.store 57 (.tmp 3) (.tmp 24)) 0 [(3, .is (.pointer (some ⟨w.heap.size + 1, 0, none⟩))), (24, .is (.agg (broT y).a))] (.is undef) ∧ True)
    2 (afterR tpC 1) hW1' (fun k hk => ⟨hlo k hk, fun _ h => nomatch h⟩) (by kernel_rfl) (by kernel_rfl) (by kernel_rfl) RowsK.keep (fun k h => ⟨hSl k h, fun _ => h⟩)
    ⟨rfl, fun q hq => by
      rcases List.mem_cons.1 hq with rfl | hq
      · exact ⟨t1, hr1⟩
      · obtain rfl := List.mem_singleton.1 hq
        exact ⟨t2, hr2⟩⟩
    ⟨early_loadR (b := w.heap.size) (cs := x.a.toList) (by simp [tpBs]) (List.replicate 4 (w.heap.size, w.heap.size)) (fun q hq => by rw [List.eq_of_mem_replicate hq]) (fun nx => by kernel_rfl), ?_,
      early_loadR (b := w.heap.size + 1) (cs := y.a.toList) (by simp [tpBs]) (List.replicate 4 (w.heap.size + 1, w.heap.size + 1)) (fun q hq => by rw [List.eq_of_mem_replicate hq]) (fun nx => by kernel_rfl), ?_,
      act_storeR (cs0 := x.a.toList) (cs1 := (broT x).a.toList) hKN (Nat.le_refl _) (.inl rfl) (by simp [tpBs]) (fun q hq => ?_) (List.replicate 4 (w.heap.size, w.heap.size)) (fun q hq => by rw [List.eq_of_mem_replicate hq]) (fun nx => by kernel_rfl),
      act_storeR (cs0 := y.a.toList) (cs1 := (broT y).a.toList) hKN (Nat.le_succ _) (.inr rfl) (by simp [tpBs]) (fun q hq => ?_) (List.replicate 4 (w.heap.size + 1, w.heap.size + 1)) (fun q hq => by rw [List.eq_of_mem_replicate hq]) (fun nx => by kernel_rfl), trivial⟩ ?_
  · intro g wx vals k hbase hv
    match vals, hv with
    | [z], hz => obtain rfl : z = _ := hz.1; exact (brought_tg wx x).mono fun e w9 ⟨h1, h2⟩ => ⟨_, h1, h2, rfl⟩
  · intro g wx vals k hbase hv
    match vals, hv with
    | [z], hz => obtain rfl : z = _ := hz.1; exact (brought_tg wx y).mono fun e w9 ⟨h1, h2⟩ => ⟨_, h1, h2, rfl⟩
  · rcases List.mem_cons.1 hq with rfl | hq
    · exact .inl rfl
    · obtain rfl := List.mem_singleton.1 hq
      exact .inr ⟨by simp [tpBs], by simp⟩
  · rcases List.mem_cons.1 hq with rfl | hq
    · exact .inr ⟨by simp [tpBs], by simp⟩
    · obtain rfl := List.mem_singleton.1 hq
      exact .inl rfl
  intro g w2 vs k2 _ hd hok
  obtain rfl := allOkM_is (vs := [.pointer (some ⟨w.heap.size, 0, none⟩), .pointer (some ⟨w.heap.size + 1, 0, none⟩)]) hok
  obtain ⟨_, hrows⟩ := hd
  obtain ⟨s1, q1⟩ := hrows (w.heap.size, (broT x).a.toList) (by simp [tpBs])
  obtain ⟨s2, q2⟩ := hrows (w.heap.size + 1, (broT y).a.toList) (by simp [tpBs])
  have hW2 := hW1'.laterS k2 (fun k hk => ⟨hlo k hk, fun _ h => nomatch h⟩)
  have hW2b : Wst w ⟨[⟨w.heap.size, (broT x).a.toList, true⟩], w2.heap.size⟩ w2 := hW2.addRow q1 (Nat.le_refl _) (fun _ h => nomatch h)
  have hW2c : Wst w ⟨tpRows w.heap.size (broT x) (broT y), w2.heap.size⟩ w2 := hW2b.addRow q2 (Nat.le_succ _) (fun r hr => by obtain rfl := List.mem_singleton.1 hr; show w.heap.size ≠ w.heap.size + 1; omega)
  exact Goal.re (hk w2 hW2c)
end
theorem eeq_tg (w : World) (x y : Operand) (t : Tg) : (do eqGuard .eql 57 x y (.agg t.a) (.agg t.a); binOp .eql 57 (.agg t.a) (.agg t.a) : Sem Value).run Tryd.prog w = .ok (.bool true) w := by
  have h4 : (eqGuard .eql 57 x y (.agg t.a) (.agg t.a)).run Tryd.prog w = .ok () w := aRun_none (l := []) (by kernel_rfl)
  simp only [Sem.run_bind, h4, Result.andThen_ok]
  exact ebin_tg w t
theorem may_k {t : Tg} (h : mayT t = true) : (kindsL 0).contains (t.k : Int) = true := by
  simp only [mayT, Bool.and_eq_true] at h
  exact h.1.1
theorem mayL_one {t : Tg} (h : mayT t = true) : mayL [t] = true := by simp only [mayL, mayFrom, h, may_k h]; rfl
theorem push_nil {t : Tg} (h : mayT t = true) : pushR [] t = ([t], 0) := by simp only [pushR, h, mayL_one h]; rfl
theorem mayL_two {x y : Tg} (hx : mayT x = true) (hy : mayT y = true) (hk : y.k = 33024) : mayL [x, y] = true := by simp only [mayL, mayFrom, hx, hy, may_k hx, hk]; rfl
theorem mayL_two_no {x y : Tg} (hk : y.k = 34984) : mayL [x, y] = false := by
  have : (kindsL 1).contains ((34984 : Nat) : Int) = false := by decide
  simp only [mayL, mayFrom, hk, this, Bool.and_false, Bool.false_and]
theorem push_one {x y : Tg} (hx : mayT x = true) (hy : mayT y = true) (hk : y.k = 33024) : pushR [y] x = ([x, y], 0) := by simp only [pushR, hx, mayL_one hy, mayL_two hx hy hk]; rfl
theorem push_one_no {x y : Tg} (hx : mayT x = true) (hy : mayT y = true) (hk : y.k = 34984) : pushR [y] x = ([], 1) := by simp only [pushR, hx, mayL_one hy, mayL_two_no hk]; rfl
theorem push_two {x y z : Tg} (hx : mayT x = true) (hz : mayT z = true) (hy : mayT y = true) (hk : y.k = 33024) : pushR [x, y] z = ([], 7) := by simp only [pushR, hz, mayL_two hx hy hk]; rfl
theorem pop_two {x y : Tg} (hx : mayT x = true) (hy : mayT y = true) (hk : y.k = 33024) : popR [x, y] = (x, [y], 0) := by simp only [popR, mayL_two hx hy hk]; rfl
theorem pop_one {y : Tg} (hy : mayT y = true) : popR [y] = (y, [], 0) := by simp only [popR, mayL_one hy]; rfl
section
variable {w : World}
set_option maxRecDepth 4000 in
theorem tp_rest (x : Tg) (p v : Nat) (d b : Bool) (hx : mayT x = true) (hy : mayT ⟨if b then 33024 else 34984, p, d, v⟩ = true) (hk : Kh w) (w2 : World) (hW2 : Wst w ⟨tpRows w.heap.size x ⟨if b then 33024 else 34984, p, d, v⟩, w2.heap.size⟩ w2) :
    Goal Tryd.prog (bodyPost Tryd.prog Tryd.f9 (tpQ w)) tpN ⟨frOf [2, 3] [pT w.heap.size, pT (w.heap.size + 1)], tagL [(2, 0), (3, 1)], ⟨tpRows w.heap.size x ⟨if b then 33024 else 34984, p, d, v⟩, w2.heap.size⟩, afterR tpC 1⟩ w2 := by
  generalize hyy : Tg.mk (if b then 33024 else 34984) p d v = y at *
  refine go_call_is (gt := fun _ => Option.none) (unroll := false) 60 [] 26 [.slice none 0 0, .agg y.a] [2, 3] [pT w.heap.size, pT (w.heap.size + 1)] 27 (tpRows w.heap.size x y) [(2, 0), (3, 1)] (inR tpC 2 1) [] [] hW2 (by kernel_rfl) trivial trivial ?_
  intro w3 hW3 _
  refine (push_any (l := []) (Rt.nil _) (by simp) y (hk.keep0 hW3.keep)).mono ?_
  rintro e w4 ⟨v1, rfl, f1⟩
  rw [push_nil hy] at f1 ⊢
  refine ⟨_, rfl, ?_⟩
  have hW4 := hW3.later f1.keep
  have H1 := f1.hd hW3
  refine go_call_is (gt := fun _ => Option.none) (unroll := false) 60 [] 26 [v1, .agg x.a] [2, 3, 5, 6] [pT w.heap.size, pT (w.heap.size + 1), v1, .int .i64 0] 33 (tpRows w.heap.size x y) [(2, 0), (3, 1)] (inR tpC 3 2) [] [] hW4 (by kernel_rfl) trivial trivial ?_
  intro w5 hW5 hS5
  have H1 := H1.pass0 hS5
  refine (push_any H1.rt (by simp) x (hk.keep0 hW5.keep)).mono ?_
  rintro e w6 ⟨v2, rfl, f2⟩
  have hW6 := hW5.later f2.keep
  have H1 := H1.call f2.keep
  have H2 := f2.hd hW5
  refine ⟨_, rfl, ?_⟩
  cases b with
  | false =>
    have hyk : y.k = 34984 := by rw [← hyy]; rfl
    rw [push_one_no hx hy hyk]
    subst hyy
    simp only [Bool.false_eq_true, if_false] at *
    refine go_call_is (gt := fun _ => Option.none) (unroll := false) 80 [] 40 [v1, .slice (some ⟨w6.heap.size, 0, none⟩) 1 1] [8, 9, 41] [.int .i64 1, .bool false, .bool false] 45 (tpRows w.heap.size x ⟨34984, p, d, v⟩ ++ [⟨w6.heap.size, (Tg.mk 34984 p d v).a.toList, true⟩]) [] (inR tpC 5 6) [] [] hW6 (by kernel_rfl) trivial trivial ?_
    intro w7 hW7 hS7
    have H1 := H1.pass [⟨w6.heap.size, (Tg.mk 34984 p d v).a.toList, true⟩] hS7 (fun r hr => by obtain rfl := List.mem_singleton.1 hr; exact Nat.le_refl _)
    obtain ⟨tt, hrow⟩ := hW7.rows ⟨w6.heap.size, (Tg.mk 34984 p d v).a.toList, true⟩ (by simp)
    refine (teq_any H1.rt (Rt.of_row (l := [Tg.mk 34984 p d v]) hrow (by simp [csT]) (by simp [maxLen]))).mono ?_
    rintro e w8 ⟨rfl, k8⟩
    refine ⟨_, rfl, ?_⟩
    refine go_call_is (gt := fun _ => Option.none) (unroll := false) 80 [] 34 [] [] [] 64 (tpRows w.heap.size x ⟨34984, p, d, v⟩ ++ [⟨w6.heap.size, (Tg.mk 34984 p d v).a.toList, true⟩]) [] (inR tpC 8 0) [] [] (hW7.later k8) (by kernel_rfl) trivial trivial ?_
    intro w9 hW9 _
    refine (wakes3_any w9 (hk.keep0 hW9.keep)).mono ?_
    rintro e wa ⟨rfl, ka⟩
    refine ⟨_, rfl, ?_⟩
    exact go_ret (gt := fun _ => Option.none) (unroll := false) 60 [] [.tmp 4] (.bool true) [] [] (hW9.later ka) Tryd.results9 (by kernel_rfl) trivial trivial (fun w9 hW9 _ => ⟨rfl, hW9.keep⟩)
  | true =>
    have hyk : y.k = 33024 := by rw [← hyy]; rfl
    rw [push_one hx hy hyk] at H2 ⊢
    subst hyy
    simp only [if_true] at *
    clear hyk
    generalize hY : Tg.mk 33024 p d v = y at *
    have hyk : y.k = 33024 := by rw [← hY]
    refine go_call_is (gt := fun _ => Option.none) (unroll := false) 80 [(4, 2, .is (.bool true))] 40 [v1, .slice (some ⟨w6.heap.size, 0, none⟩) 1 1] [2, 3, 5, 7, 8, 9, 41] [pT w.heap.size, pT (w.heap.size + 1), v1, v2, .int .i64 0, .bool true, .bool false] 45 (tpRows w.heap.size x y ++ [⟨w6.heap.size, y.a.toList, true⟩]) [(2, 0), (3, 1)] (inR tpC 5 6) [(.bool ((y.k : Int) == 33024), .bool true)] [] hW6 (by kernel_rfl) ⟨by rw [hyk]; rfl, trivial⟩ trivial ?_
    intro w7 hW7 hS7
    have H1 := H1.pass [⟨w6.heap.size, y.a.toList, true⟩] hS7 (fun r hr => by obtain rfl := List.mem_singleton.1 hr; exact Nat.le_refl _)
    have H2 := H2.pass [⟨w6.heap.size, y.a.toList, true⟩] hS7 (fun r hr => by obtain rfl := List.mem_singleton.1 hr; exact Nat.le_refl _)
    obtain ⟨tt, hrow⟩ := hW7.rows ⟨w6.heap.size, y.a.toList, true⟩ (by simp)
    refine (teq_any H1.rt (Rt.of_row (l := [y]) hrow (by simp [csT]) (by simp [maxLen]))).mono ?_
    rintro e w8 ⟨rfl, k8⟩
    refine ⟨_, rfl, ?_⟩
    have hW8 : Wst w ⟨tpRows w.heap.size x y, w8.heap.size⟩ w8 := (hW7.later k8).fewer (rows := tpRows w.heap.size x y)
    have H1 := (H1.call k8).fewer
    have H2 := (H2.call k8).fewer
    refine Goal.re (tags := tagL [(2, 0), (3, 1)]) (m := ⟨tpRows w.heap.size x y, w8.heap.size⟩) ?_
    refine go_call_is (gt := fun _ => Option.none) (unroll := false) 80 [] 26 [v2, .agg x.a] [2, 5, 7] [pT w.heap.size, v1, v2] 68 (tpRows w.heap.size x y) [(2, 0)] (inR tpC 9 2) [] [] hW8 (by kernel_rfl) trivial trivial ?_
    intro w9 hW9 hS9
    have H1 := H1.pass0 hS9
    have H2 := H2.pass0 hS9
    refine (push_any H2.rt (by simp) x (hk.keep0 hW9.keep)).mono ?_
    rintro e wa ⟨v3, rfl, f3⟩
    rw [push_two hx hx hy hyk]
    refine ⟨_, rfl, ?_⟩
    have hWa := hW9.later f3.keep
    have H1 := H1.call f3.keep
    have H2 := H2.call f3.keep
    refine go_call_is (gt := fun _ => Option.none) (unroll := false) 80 [] 31 [v2] [2, 5, 11] [pT w.heap.size, v1, .int .i64 7] 73 (tpRows w.heap.size x y) [(2, 0)] (inR tpC 10 1) [] [] hWa (by kernel_rfl) trivial trivial ?_
    intro wb hWb hSb
    have H1 := H1.pass0 hSb
    have H2 := H2.pass0 hSb
    refine (pop_any H2.rt (by simp) (hk.keep0 hWb.keep)).mono ?_
    rintro e wc ⟨v4, rfl, f4⟩
    rw [pop_two hx hy hyk] at f4 ⊢
    refine ⟨_, rfl, ?_⟩
    have hWc := hWb.later f4.keep
    have H1 := H1.call f4.keep
    have H4 := f4.hd hWb
    refine go_call_is (gt := fun _ => Option.none) (unroll := false) 80 [] 31 [v4] [2, 5, 11, 12, 13, 14] [pT w.heap.size, v1, .int .i64 7, pT wc.heap.size, v4, .int .i64 0] 79 (tpRows w.heap.size x y ++ [⟨wc.heap.size, x.a.toList, true⟩]) [(2, 0), (12, 2)] (inR tpC 11 1) [] [] hWc (by kernel_rfl) trivial trivial ?_
    intro wd hWd hSd
    have H1 := H1.pass [⟨wc.heap.size, x.a.toList, true⟩] hSd (fun r hr => by obtain rfl := List.mem_singleton.1 hr; exact Nat.le_refl _)
    have H4 := H4.pass [⟨wc.heap.size, x.a.toList, true⟩] hSd (fun r hr => by obtain rfl := List.mem_singleton.1 hr; exact Nat.le_refl _)
    refine (pop_any H4.rt (by simp) (hk.keep0 hWd.keep)).mono ?_
    rintro e we ⟨v5, rfl, f5⟩
    rw [pop_one hy] at f5 ⊢
    refine ⟨_, rfl, ?_⟩
    have hWe := hWd.later f5.keep
    have H1 := H1.call f5.keep
    have H4 := H4.call f5.keep
    have H5 := f5.hd hWd
    refine go_call_is (gt := fun _ => Option.none) (unroll := false) 80 [] 31 [v5] [2, 5, 11, 12, 13, 14, 16, 17] [pT w.heap.size, v1, .int .i64 7, pT wc.heap.size, v4, .int .i64 0, v5, .int .i64 0] 85 (tpRows w.heap.size x y ++ [⟨wc.heap.size, x.a.toList, true⟩] ++ [⟨we.heap.size, y.a.toList, true⟩]) [(2, 0), (12, 2)] (inR tpC 12 1) [] [] hWe (by kernel_rfl) trivial trivial ?_
    intro wf hWf hSf
    have H1 := H1.pass [⟨we.heap.size, y.a.toList, true⟩] hSf (fun r hr => by obtain rfl := List.mem_singleton.1 hr; exact Nat.le_refl _)
    have H4 := H4.pass [⟨we.heap.size, y.a.toList, true⟩] hSf (fun r hr => by obtain rfl := List.mem_singleton.1 hr; exact Nat.le_refl _)
    have H5 := H5.pass [⟨we.heap.size, y.a.toList, true⟩] hSf (fun r hr => by obtain rfl := List.mem_singleton.1 hr; exact Nat.le_refl _)
    refine (pop_any H5.rt (by simp) (hk.keep0 hWf.keep)).mono ?_
    rintro e wg ⟨v6, rfl, f6⟩
    rw [show popR [] = (t0, [], 6) from rfl] at f6 ⊢
    refine ⟨_, rfl, ?_⟩
    have hWg := hWf.later f6.keep
    have H1 := H1.call f6.keep
    have H4 := H4.call f6.keep
    refine go_call_is (gt := fun _ => Option.none) (unroll := false) 80 [(13, 9, .sem (.bool true))] 40 [v4, v1] [16, 17, 20, 100] [v5, .int .i64 0, .int .i64 6, .bool true] 103 (tpRows w.heap.size x y ++ [⟨wc.heap.size, x.a.toList, true⟩] ++ [⟨we.heap.size, y.a.toList, true⟩] ++ [⟨wg.heap.size, t0.a.toList, true⟩]) [] (inR tpC 13 14) []
      [((do eqGuard .eql 57 (.tmp 96) (.tmp 97) (.agg x.a) (.agg x.a); binOp .eql 57 (.agg x.a) (.agg x.a) : Sem Value), .bool true)] hWg (by kernel_rfl) trivial ⟨fun wx _ => eeq_tg wx _ _ x, trivial⟩ ?_
    intro wh hWh hSh
    have H1 := H1.pass [⟨wg.heap.size, t0.a.toList, true⟩] hSh (fun r hr => by obtain rfl := List.mem_singleton.1 hr; exact Nat.le_refl _)
    have H4 := H4.pass [⟨wg.heap.size, t0.a.toList, true⟩] hSh (fun r hr => by obtain rfl := List.mem_singleton.1 hr; exact Nat.le_refl _)
    refine (teq_any H4.rt H1.rt).mono ?_
    rintro e wi ⟨rfl, ki⟩
    refine ⟨_, rfl, ?_⟩
    refine go_call_is (gt := fun _ => Option.none) (unroll := false) 80 [(13, 22, .sem (.int .i64 0))] 34 [] [118] [.bool true] 119 (tpRows w.heap.size x y ++ [⟨wc.heap.size, x.a.toList, true⟩] ++ [⟨we.heap.size, y.a.toList, true⟩] ++ [⟨wg.heap.size, t0.a.toList, true⟩]) [] (inR tpC 13 30) [] [(Builtin.len_ #[24] 3 #[v5], .int .i64 0)] (hWh.later ki) (by kernel_rfl) trivial ⟨fun wx _ => H5.rt.sem_len ett (ty := 3) wx, trivial⟩ ?_
    intro wj hWj _
    refine (wakes3_any wj (hk.keep0 hWj.keep)).mono ?_
    rintro e wk ⟨rfl, kk⟩
    refine ⟨_, rfl, ?_⟩
    exact go_ret (gt := fun _ => Option.none) (unroll := false) 60 [] [.tmp 4] (.bool true) [] [] (hWj.later kk) Tryd.results9 (by kernel_rfl) trivial trivial (fun w9 hW9 _ => ⟨rfl, hW9.keep⟩)
theorem tagpushes_walk (x y : Tg) (hk : Kh w) : Calls Tryd.prog 9 #[.agg x.a, .agg y.a] w (tpQ w) := by
  refine tp_head x y fun w2 hW2 => ?_
  have hy := may_bro y
  have hb : broT y = ⟨if (decide (y.k % 2 = 1)) then 33024 else 34984, y.p % 8, y.d, y.v % 4096⟩ := by
    unfold broT
    by_cases h : y.k % 2 = 0
    · have h1 : ¬ y.k % 2 = 1 := by omega
      simp [h]
    · have h1 : y.k % 2 = 1 := by omega
      simp [h1]
  rw [hb] at hy hW2 ⊢
  exact tp_rest (broT x) _ _ _ _ (may_bro x) hy hk w2 hW2
end
end Go.Proofs.YtcimfojbggckhaaDoor
namespace Go.Proofs.YtcimfojbggckhaaDoor
open Go.RowKit

theorem be_b2 {n : Nat} (h : n < 65536) : be (bytes2 n) = n := by
  simp only [be, bytes2, List.foldl_cons, List.foldl_nil]
  rw [UInt8.toNat_ofNat', UInt8.toNat_ofNat']
  omega
theorem b2_len (n : Nat) : (bytes2 n).length = 2 := rfl
theorem b2_be (a b : UInt8) : bytes2 (be [a, b]) = [a, b] := by
  have ha := a.toNat_lt
  have hb := b.toNat_lt
  have e : be [a, b] = a.toNat * 256 + b.toNat := by simp [be]
  rw [e]
  simp only [bytes2, List.cons.injEq, and_true]
  constructor
  · apply UInt8.toNat_inj.1
    rw [UInt8.toNat_ofNat']
    omega
  · apply UInt8.toNat_inj.1
    rw [UInt8.toNat_ofNat']
    omega
theorem take2_of {bs : List UInt8} {k : Nat} (h : k + 2 ≤ bs.length) : (bs.drop k).take 2 = [byteAt bs k, byteAt bs (k + 1)] := by
  have e0 : bs.drop k = byteAt bs k :: bs.drop (k + 1) := by rw [byteAt_eq (by omega), List.drop_eq_getElem_cons (by omega)]
  have e1 : bs.drop (k + 1) = byteAt bs (k + 1) :: bs.drop (k + 2) := by rw [byteAt_eq (by omega), List.drop_eq_getElem_cons (by omega)]
  rw [e0, e1]; rfl

theorem bytesT_t2 (t : Tg) (cs : List UInt8) : (bytesT t ++ cs).take 2 = bytes2 t.k := by
  simp only [bytesT, List.append_assoc]
  rw [List.take_append_of_le_length (by rw [b2_len]; omega)]
  exact List.take_of_length_le (by rw [b2_len]; omega)
theorem bytesT_d2 (t : Tg) (cs : List UInt8) : ((bytesT t ++ cs).drop 2).take 2 = bytes2 (wordN t) := by
  simp only [bytesT, List.append_assoc]
  rw [List.drop_append_of_le_length (by rw [b2_len]; omega), List.drop_of_length_le (by rw [b2_len]; omega), List.nil_append, List.take_append_of_le_length (by rw [b2_len]; omega)]
  exact List.take_of_length_le (by rw [b2_len]; omega)
theorem bytesT_d4 (t : Tg) (cs : List UInt8) : (bytesT t ++ cs).drop 4 = cs := by
  have : (bytesT t).length = 4 := rfl
  rw [List.drop_append_of_le_length (by omega), List.drop_of_length_le (by omega), List.nil_append]
/-- A tag ahead is read. -/
theorem readT_cons {t : Tg} {f : Nat} {l : List Tg} {cs : List UInt8} (hm : mayT t = true) (hl : l.length < 2) (hk : (kindsL l.length).contains (t.k : Int) = true) : readT (f + 1) l (bytesT t ++ cs) = readT f (l ++ [t]) cs := by
  obtain ⟨h1, h2, h3⟩ := mayT_spec hm
  have hlen : (bytesT t ++ cs).length = 4 + cs.length := by rw [List.length_append]; rfl
  have hb : begB (bytesT t ++ cs) l.length = true := by
    simp only [begB, bytesT_t2, be_b2 h1, hk, Bool.and_true, Bool.and_eq_true, decide_eq_true_eq]
    exact ⟨by omega, hl⟩
  rw [readT, hb, if_pos rfl, if_neg (by omega), bytesT_t2, bytesT_d2, bytesT_d4, be_b2 h1, be_b2 (wordN_lt h2 h3), tgN_word h2 h3]
/-- Cut within a tag. -/
theorem readT_cut {t : Tg} {f : Nat} {l : List Tg} {cs : List UInt8} (hm : mayT t = true) (hl : l.length < 2) (hk : (kindsL l.length).contains (t.k : Int) = true) {k : Nat} (h4 : k < 4) :
    (readT (f + 1) l ((bytesT t ++ cs).take k)).2.2 = if 2 ≤ k then 4 else 0 := by
  obtain ⟨h1, h2, h3⟩ := mayT_spec hm
  have hlen : ((bytesT t ++ cs).take k).length = k := by
    have : (bytesT t).length = 4 := rfl
    rw [List.length_take, List.length_append]; omega
  by_cases h : 2 ≤ k
  · have ht : ((bytesT t ++ cs).take k).take 2 = bytes2 t.k := by
      rw [List.take_take, Nat.min_eq_left h, bytesT_t2]
    have hb : begB ((bytesT t ++ cs).take k) l.length = true := by
      simp only [begB, ht, be_b2 h1, hk, Bool.and_true, Bool.and_eq_true, decide_eq_true_eq]
      exact ⟨by omega, hl⟩
    rw [readT, hb, if_pos rfl, if_pos (by omega), if_pos h]
  · have hb : begB ((bytesT t ++ cs).take k) l.length = false := by
      simp only [begB, hlen, decide_eq_false h, Bool.false_and]
    rw [readT, hb]
    simp only [Bool.false_eq_true, if_false]
    rw [if_neg h]
/-- The stacks that are laid. -/
inductive Stk : List Tg → Prop
  | nil : Stk []
  | one {t : Tg} : mayT t = true → Stk [t]
  | two {x y : Tg} : mayT x = true → mayT y = true → y.k = 33024 → Stk [x, y]
theorem k1 : (kindsL 1).contains ((33024 : Nat) : Int) = true := by decide
theorem Stk.may {l : List Tg} (h : Stk l) : mayL l = true := by
  cases h with
  | nil => rfl
  | one h => exact mayL_one h
  | two hx hy hk => exact mayL_two hx hy hk
theorem Stk.all {l : List Tg} (h : Stk l) : l.all mayT = true := by
  cases h with
  | nil => rfl
  | one h => simp [h]
  | two hx hy hk => simp [hx, hy]
theorem Stk.len {l : List Tg} (h : Stk l) : l.length ≤ 2 := by cases h <;> simp
theorem Stk.bytes {l : List Tg} (h : Stk l) : bytesB l = bytesL l := by rw [bytesB, h.all, if_pos rfl]
theorem Stk.read {l : List Tg} (h : Stk l) {cs : List UInt8} (hb : begB cs l.length = false) : readT 3 [] (bytesL l ++ cs) = (l, cs, 0) := by
  have fin : ∀ f, readT (f + 1) l cs = (l, cs, 0) := fun f => by rw [readT, hb]; rfl
  cases h with
  | nil => exact fin 2
  | @one t h =>
    rw [show bytesL [t] ++ cs = bytesT t ++ cs by simp [bytesL], readT_cons (l := []) h (by simp) (may_k h)]
    exact fin 1
  | @two x y hx hy hk =>
    rw [show bytesL [x, y] ++ cs = bytesT x ++ (bytesT y ++ cs) by simp [bytesL], readT_cons (l := []) hx (by simp) (may_k hx), readT_cons (l := [] ++ [x]) hy (by simp) (by rw [hk]; exact k1)]
    exact fin 0
theorem Stk.cut {l : List Tg} (h : Stk l) {k : Nat} (hk : k < 4 * l.length) : (readT 3 [] ((bytesL l).take k)).2.2 = if 2 ≤ k % 4 then 4 else 0 := by
  cases h with
  | nil => simp at hk
  | @one t h =>
    simp only [List.length_cons, List.length_nil] at hk
    rw [show bytesL [t] = bytesT t ++ [] by simp [bytesL], readT_cut (l := []) h (by simp) (may_k h) (by omega), Nat.mod_eq_of_lt (by omega)]
  | @two x y hx hy hky =>
    simp only [List.length_cons, List.length_nil] at hk
    rw [show bytesL [x, y] = bytesT x ++ (bytesT y ++ []) by simp [bytesL]]
    by_cases h4 : k < 4
    · rw [readT_cut (l := []) hx (by simp) (may_k hx) h4, Nat.mod_eq_of_lt h4]
    · have e : (bytesT x ++ (bytesT y ++ [])).take k = bytesT x ++ (bytesT y ++ []).take (k - 4) := by
        rw [List.take_append, List.take_of_length_le (by rw [bytesT_len]; omega)]
        rfl
      rw [e, readT_cons (l := []) hx (by simp) (may_k hx), readT_cut (l := [] ++ [x]) hy (by simp) (by rw [hky]; exact k1) (by omega)]
      rw [show k % 4 = k - 4 by omega]
/-- What is read is what was there. -/
theorem readT_back : ∀ (f : Nat) (l : List Tg) (b : List UInt8), (readT f l b = ([], [], 4)) ∨ ∃ m r, readT f l b = (l ++ m, r, 0) ∧ b = bytesL m ++ r ∧ mayFrom l.length m = true ∧ m.all mayT = true
  | 0, l, b => .inr ⟨[], b, by simp [readT], by simp [bytesL], rfl, rfl⟩
  | f + 1, l, b => by
    rw [readT]
    cases hb : begB b l.length with
    | false => exact .inr ⟨[], b, by simp, by simp [bytesL], rfl, rfl⟩
    | true =>
      simp only [begB, Bool.and_eq_true, decide_eq_true_eq] at hb
      obtain ⟨h2, hl, hk⟩ := hb
      simp only [if_true]
      by_cases h4 : b.length < 4
      · rw [if_pos h4]; exact .inl rfl
      · rw [if_neg h4]
        have hk16 : be (b.take 2) < 65536 := be_small (n := 2) (by simp; omega)
        have hn16 : be ((b.drop 2).take 2) < 65536 := be_small (n := 2) (by simp; omega)
        have hw : wordN (tgN (be (b.take 2)) (be ((b.drop 2).take 2))) = be ((b.drop 2).take 2) := by
          generalize be ((b.drop 2).take 2) = n at *
          unfold wordN tgN
          simp only
          have : n / 4096 % 2 = 0 ∨ n / 4096 % 2 = 1 := by omega
          rcases this with h | h <;> rw [h] <;> simp <;> omega
        have hby : bytesT (tgN (be (b.take 2)) (be ((b.drop 2).take 2))) = b.take 4 := by
          unfold bytesT
          rw [hw]
          have e1 : b.take 2 = [byteAt b 0, byteAt b 1] := by have := take2_of (bs := b) (k := 0) (by omega); simpa using this
          have e2 := take2_of (bs := b) (k := 2) (by omega)
          show bytes2 (be (b.take 2)) ++ _ = _
          rw [e1, e2, b2_be, b2_be, ← e1, ← e2]
          rw [show 4 = 2 + 2 from rfl, List.take_add]
        have hmt : mayT (tgN (be (b.take 2)) (be ((b.drop 2).take 2))) = true := by
          have h0 : (kindsL 0).contains ((be (b.take 2) : Nat) : Int) = true := by
            generalize ((be (b.take 2) : Nat) : Int) = k at *
            have h01 : l.length = 0 ∨ l.length = 1 := by omega
            rcases h01 with h | h <;> rw [h] at hk
            · exact hk
            · simp only [kindsL, List.contains_cons, List.contains_nil, Bool.or_false, Bool.or_eq_true, beq_iff_eq] at hk ⊢
              exact .inr hk
          have q1 : ((be ((b.drop 2).take 2) / 8192 : Nat) : Int) < 8 := by omega
          have q2 : ((be ((b.drop 2).take 2) % 4096 : Nat) : Int) ≤ 4095 := by omega
          show ((kindsL 0).contains ((be (b.take 2) : Nat) : Int) && decide (((be ((b.drop 2).take 2) / 8192 : Nat) : Int) < 8) && decide (((be ((b.drop 2).take 2) % 4096 : Nat) : Int) ≤ 4095)) = true
          rw [h0, decide_eq_true q1, decide_eq_true q2]
          rfl
        rcases readT_back f (l ++ [tgN (be (b.take 2)) (be ((b.drop 2).take 2))]) (b.drop 4) with h | ⟨m, r, h, h1, h3, h5⟩
        · exact .inl h
        · refine .inr ⟨tgN (be (b.take 2)) (be ((b.drop 2).take 2)) :: m, r, by rw [h]; simp, ?_, ?_, ?_⟩
          · rw [show bytesL (tgN (be (b.take 2)) (be ((b.drop 2).take 2)) :: m) = bytesT (tgN (be (b.take 2)) (be ((b.drop 2).take 2))) ++ bytesL m from rfl, hby, List.append_assoc, ← h1, List.take_append_drop]
          · rw [List.length_append] at h3
            simp only [mayFrom, hmt, decide_eq_true hl, Bool.true_and]
            rw [show (tgN (be (b.take 2)) (be ((b.drop 2).take 2))).k = be (b.take 2) from rfl, hk]
            exact h3
          · simp [hmt, h5]
end Go.Proofs.YtcimfojbggckhaaDoor
namespace Go.Proofs.YtcimfojbggckhaaDoor
open Go.RowKit
section
variable {P : Program} {W0 : World} {Q : Exit → Act → World → Prop} {n : Nat} {gt : Nat → Option Nat} {unroll : Bool}
/-- Run to an append of bytes. -/
theorem go_appB (fuel : Nat) (hs : List (Nat × Nat × HintS)) (u s : Value) (t e : TypeId) (ts : List Tmp) (vs : List Value) (r : Tmp) (rows : List RowS) (tg : List (Nat × Nat)) (T : List K) (eqs : List (Value × Value)) (sems : List (Sem Value × Value)) {c : Cfg} {w : World} (B : BT P t e)
    (hW : Wst W0 c.m w)
    (he : ((atApp n (run P n gt unroll hs fuel c).1, ts.map (run P n gt unroll hs fuel c).1.fr, (run P n gt unroll hs fuel c).1.m.rows, callDst (run P n gt unroll hs fuel c).1, (run P n gt unroll hs fuel c).2.eqs, (run P n gt unroll hs fuel c).2.sems), (run P n gt unroll hs fuel c).2.blks.map (·.1)) =
      ((some (u, s, t, t), vs.map some, rows, some (r, T), eqs, sems), (run P n gt unroll hs fuel c).2.blks.map (·.2)))
    (h1 : Eqs eqs) (h2 : SemObs P c.m w sems)
    (hk : ∀ w', Wst W0 ⟨rows, w'.heap.size⟩ w' → Seg c.m w ⟨rows, w'.heap.size⟩ w' → ∃ bs ys, Own e w' u bs ∧ Rd w' s ys ∧ bs.length + ys.length ≤ 140737488351232 ∧
      ∀ v w2, Own e w2 v (bs ++ ys) → Keep (fun k => u.ownBlock = some k) w' w2 → (v.ownBlock = u.ownBlock ∨ v.ownBlock = some w'.heap.size) → Goal P Q n ⟨frOf (r :: ts) (v :: vs), tagL tg, ⟨rows, w2.heap.size⟩, T⟩ w2) : Goal P Q n c w := by
  simp only [Prod.mk.injEq] at he
  obtain ⟨⟨e1, e0, er, ed, e2, e3⟩, e4⟩ := he
  refine run_ok fuel hW (Seg.refl _ _) ⟨?_, all_of_maps e4, ?_⟩ fun w' hW' hS' => ?_
  · rw [e2]; exact h1.mem
  · rw [e3]; exact h2.mem
  · have em : (run P n gt unroll hs fuel c).1.m = ⟨rows, w'.heap.size⟩ := by rw [← er, hW'.size]
    rw [em] at hW' hS'
    obtain ⟨bs, ys, own, rd, hn, hg⟩ := hk w' hW' hS'
    obtain ⟨v, w2, hr, ho, hkp, hblk, _⟩ := run_append_b (P := P) (w := w') B 0 own rd hn
    have hr' : ∀ ty, (Builtin.append_ #[t, t] ty #[u, s]).run P w' = .ok v w2 := fun ty => hr
    exact app_ok e1 hr' (goal_at ed e0 (hg v w2 ho hkp hblk))
end
theorem Own.of_row {e : TypeId} {w : World} {b : Nat} {bs : List UInt8} (hg : w.heap[b]? = some (.cells (bvs bs).toArray e (0, 0))) (hm : bs.length ≤ maxLen) : Own e w (.slice (some ⟨b, 0, none⟩) bs.length bs.length) bs :=
  ⟨by simp [bvs_length], .inr ⟨b, bs.length, (bvs bs).toArray, rfl, Nat.zero_le _, hg, Nat.le_refl _, hm, by simp [bvs_length], by simp [← bvs_length bs]⟩⟩
end Go.Proofs.YtcimfojbggckhaaDoor
namespace Go.Proofs.YtcimfojbggckhaaDoor
open Go.RowKit
theorem heap_lt {w : World} {b : Nat} {o : Obj} (h : w.heap[b]? = some o) : b < w.heap.size := by
  rcases Nat.lt_or_ge b w.heap.size with h1 | h1
  · exact h1
  · rw [Array.getElem?_eq_none h1] at h; cases h
theorem alloc_keeps {w : World} {b : Nat} {o : Obj} (h : w.heap[b]? = some o) (o' : Obj) : (w.alloc o').heap[b]? = some o := (heap_alloc_old w o' (heap_lt h)).trans h
theorem Keep.heap {S : Nat → Prop} {w w' : World} {b : Nat} {o : Obj} (k : Keep S w w') (h : w.heap[b]? = some o) (hn : ¬ S b) : w'.heap[b]? = some o := (k.block b (heap_lt h) hn).trans h
theorem Keep.row {S : Nat → Prop} {a w : World} (h : Keep S a w) {g : Nat} (hp : g < a.heap.size → S g) (cs : Array Value) : Keep S a (w.setRow g cs) :=
  h.trans' (T := One g) (Keep.setRow g cs) (fun i hi e => by cases e; exact hp hi)
section
variable {P : Program}
theorem run_store_row {W : World} {g : Nat} {old : Array Value} {t : TypeId} (hg : W.heap[g]? = some (.cells old t (0, 0))) (l : List Value) (hl : l.length = old.size) (h1 : (l.all fun v => v.oneCell') = true) :
    (storeCells ⟨g, 0, none⟩ l 0).run P W = .ok () (W.setRow g l.toArray) := by
  have := run_storeCells_from (P := P) g t l 0 old W hg (by omega) (fun v hv => List.all_eq_true.1 h1 v hv)
  simpa using this

theorem wpList_store_any {ops : Array Oper} {rest : List Oper} {o : Oper} {a : Act} {w : World} {Q : Exit → Act → World → Prop} (hgd : o.guard = none) {ty : TypeId} {x y : Operand} (ho : o.op = .store ty x y)
    {g : Nat} {cells : Array Value} (hx : a.eval x = .pointer (some ⟨g, 0, none⟩)) (hy : a.eval y = .agg cells)
    {t : TypeId} {old : Array Value} (hg : w.heap[g]? = some (.cells old t (0, 0))) {n : Nat} (hi : (P.info? ty).map (·.size) = some n) (hn : cells.size = n) (hold : old.size = n) (h1 : (cells.toList.all fun v => v.oneCell') = true)
    (h : wpList P ops Q rest (a.put o.dst undef) (w.setRow g cells)) : wpList P ops Q (o :: rest) a w :=
  wpList_plain hgd fun _ hK => wp_store_row ty x y ho g cells hx hy t old hg (by rw [hn]; exact hi) (by omega) (by simpa using h1) (hK _ _ h)

theorem run_var_row {W : World} {g : Nat} {t ty : TypeId} {cs : Array Value} {fr : Nat × Nat} {d : TypeDesc} (hg : W.heap[g]? = some (.cells cs t fr))
    (hu : P.underlying ty = some d) (hd : (match d with | .struct _ | .array _ _ => true | _ => false) = true) (hi : (P.info? ty).map (·.size) = some cs.size) : (loadVar ty ⟨g, 0, none⟩).run P W = .ok (.agg cs) W :=
  run_loadVar_row W g t ty cs fr d hg hu hd hi

theorem results_row_tmp {fn : Func} {p q : Tmp} {ty : TypeId} (h : fn.results = #[.cell p ty, .tmp q]) {tmps : Array Value} {W : World} {g : Nat} {t : TypeId} {cs : Array Value} {fr : Nat × Nat} {d : TypeDesc} {u : Value}
    (hp : tmps.getD p undef = .pointer (some ⟨g, 0, none⟩)) (hq : tmps.getD q undef = u) (hg : W.heap[g]? = some (.cells cs t fr))
    (hu : P.underlying ty = some d) (hd : (match d with | .struct _ | .array _ _ => true | _ => false) = true) (hi : (P.info? ty).map (·.size) = some cs.size) :
    (results fn tmps).run P W = .ok (.tuple #[.agg cs, u]) W := by
  subst hq
  have hp' : tmps[p]?.getD undef = .pointer (some ⟨g, 0, none⟩) := by simpa using hp
  simp [results, h, hp', asAddr, run_loadVar_row W g t ty cs fr d hg hu hd hi]
theorem results_row {fn : Func} {p : Tmp} {ty : TypeId} (h : fn.results = #[.cell p ty]) {tmps : Array Value} {W : World} {g : Nat} {t : TypeId} {cs : Array Value} {fr : Nat × Nat} {d : TypeDesc}
    (hp : tmps.getD p undef = .pointer (some ⟨g, 0, none⟩)) (hg : W.heap[g]? = some (.cells cs t fr))
    (hu : P.underlying ty = some d) (hd : (match d with | .struct _ | .array _ _ => true | _ => false) = true) (hi : (P.info? ty).map (·.size) = some cs.size) :
    (results fn tmps).run P W = .ok (.agg cs) W := results_cell_row h tmps W g t cs fr d hp hg hu hd hi
end
end Go.Proofs.YtcimfojbggckhaaDoor
namespace Go.Proofs.YtcimfojbggckhaaDoor
open Go.RowKit
section
variable {P : Program} {w : World} {v : Value} {bs : List UInt8}
theorem Own.set {e : TypeId} (h : Own e w v bs) {i : Nat} (hi : i < bs.length) (x : UInt8) : Own e (w.setCell (adr v i) (bv x)) v (bs.set i x) := by
  obtain ⟨g, cap, rfl⟩ := h.form (by omega)
  unfold Own at h ⊢
  have := World.ownsRow.stored h i (bv x)
  simp only [adr, blk, offs, Nat.zero_add]
  have e1 : bvs (bs.set i x) = (bvs bs).set i (bv x) := by simp [bvs, List.map_set]
  rw [e1, List.length_set]
  exact this.1
theorem Own.free {e : TypeId} (h : Own e w v bs) {i : Nat} (hi : i < bs.length) : w.frozen? (adr v i) = false := by
  obtain ⟨g, cap, rfl⟩ := h.form (by omega)
  unfold Own at h
  have := World.ownsRow.frozenAt h i
  simpa [adr, blk, offs] using this

theorem zeros_list (m : Nat) : (Builtin.zeroCells (Value.int .u8 0).cells m).toList = bvs (List.replicate m 0) := by
  apply List.ext_getElem
  · simp [Builtin.zeroCells, bvs, Value.cells]
  · intro i h1 h2
    simp [Builtin.zeroCells, bvs, Value.cells, Nat.mod_one]
theorem run_append_z {t tn e : TypeId} {kn : IntKind} (T : BT P t e) (htn : P.underlying tn = some (.int kn)) (ty : TypeId) {g n m : Nat} (o : Own e w (.slice (some ⟨g, 0, none⟩) n n) bs) (hn : n = bs.length) (hm : 0 < m) (hb : n + m ≤ 140737488351232) (k : IntKind) :
    ∃ v' w', (Builtin.append_ #[t, tn] ty #[.slice (some ⟨g, 0, none⟩) n n, .int k m]).run P w = .ok v' w' ∧ Own e w' v' (bs ++ List.replicate m 0) ∧ Keep No w w' ∧ v'.ownBlock = some w.heap.size := by
  obtain ⟨i, hi, hz1, hz2, hz3⟩ := T.info
  subst hn
  have hfit : Builtin.nextslicecap (bs.length + m) bs.length * i.bytes ≤ 281474976710656 := by
    have := growslice_fits (bytes := 1) (show bs.length < bs.length + m by omega) (by omega)
    rw [hz2]; omega
  have h := Lib.run_append_grow_zeros (P := P) w t tn ty e i (.int .u8 0) k kn T.sl htn hi hz3 (some ⟨g, 0, none⟩) bs.length bs.length (bvs bs) ?_ m hm (by omega) (by omega) (by omega) (by rw [hz2]; omega) hfit
  · have hge := grownCap_ge w (bs.length + m) bs.length e
    have hcm : grownCap w (bs.length + m) bs.length e ≤ maxLen := grownCap_le_maxLen w (bs.length + m) bs.length e (by simp only [maxLen]; omega)
    refine ⟨_, _, h, ⟨?_, .inr ⟨w.heap.size, _, _, ?_, Nat.zero_le _, heap_alloc_new w.drew _, ?_, hcm, ?_, ?_⟩⟩, ((Keep.refl _ _).drew).alloc _, rfl⟩
    · simp [bvs_length]
    · simp
    · simpa using hge
    · simp [Builtin.zeroCells, bvs_length, Value.cells]; omega
    · simp only [Array.toList_append, zeros_list, List.length_append, List.length_replicate, bvs_append]
      apply List.take_left'
      simp [bvs_length]
  · rw [hz1]
    refine run_firstCells_some w.drew 1 bs.length ⟨g, 0, none⟩ bs.length bs.length (bvs bs) (by simp [bvs_length]) (fun j v hj => ?_)
    have hl : j < bs.length := by
      rcases Nat.lt_or_ge j bs.length with h | h
      · exact h
      · rw [List.getElem?_eq_none (by simpa [bvs_length] using h)] at hj; cases hj
    rw [bvs_get hl] at hj
    have := o.rd.cell j hl
    cases hj
    rw [Addr_add_mk]
    simpa [blk, offs] using this

/-- 'append(s, make([]byte, m)...)' in a plain region's list. -/
theorem wpList_append_z {ops : Array Oper} {rest : List Oper} {o : Oper} {a : Act} {Q : Exit → Act → World → Prop} (hgd : o.guard = none) (s x : Operand) {t tn e : TypeId} {kn : IntKind} (T : BT P t e) (htn : P.underlying tn = some (.int kn))
    (ho : o.op = .call { callee := .builtin .append, args := #[s, x], argTypes := #[t, tn] }) {g n m : Nat} {k : IntKind} (hs : a.eval s = .slice (some ⟨g, 0, none⟩) n n) (own : Own e w (.slice (some ⟨g, 0, none⟩) n n) bs) (hn : n = bs.length) (hx : a.eval x = .int k m) (hm : 0 < m) (hb : n + m ≤ 140737488351232)
    (h : ∀ v' w', Own e w' v' (bs ++ List.replicate m 0) → Keep No w w' → v'.ownBlock = some w.heap.size → wpList P ops Q rest (a.put o.dst v') w') : wpList P ops Q (o :: rest) a w :=
  wpList_plain hgd fun _ hK => by
    obtain ⟨v', w', hr, h2, h3, h4⟩ := run_append_z (P := P) (w := w) T htn o.type own hn hm hb k
    unfold Oper.wp execOp
    simp only [ho, resolve, invoke, builtin, Sem.run_bind, Sem.run_pure, Result.andThen_ok, List.map_toArray, List.map_cons, List.map_nil, hs, hx, hr]
    exact hK _ _ (h v' w' h2 h3 h4)
end
end Go.Proofs.YtcimfojbggckhaaDoor
namespace Go.Proofs.YtcimfojbggckhaaDoor
open Go.RowKit

section
variable {P : Program} {W0 : World} {Q : Exit → Act → World → Prop} {n : Nat} {gt : Nat → Option Nat} {unroll : Bool}
/-- Run to an append of two types. -/
theorem go_appZ (fuel : Nat) (hs : List (Nat × Nat × HintS)) (u s : Value) (t t2 : TypeId) (ts : List Tmp) (vs : List Value) (r : Tmp) (rows : List RowS) (tg : List (Nat × Nat)) (T : List K) (eqs : List (Value × Value)) (sems : List (Sem Value × Value)) {c : Cfg} {w : World}
    (hW : Wst W0 c.m w)
    (he : ((atApp n (run P n gt unroll hs fuel c).1, ts.map (run P n gt unroll hs fuel c).1.fr, (run P n gt unroll hs fuel c).1.m.rows, callDst (run P n gt unroll hs fuel c).1, (run P n gt unroll hs fuel c).2.eqs, (run P n gt unroll hs fuel c).2.sems), (run P n gt unroll hs fuel c).2.blks.map (·.1)) =
      ((some (u, s, t, t2), vs.map some, rows, some (r, T), eqs, sems), (run P n gt unroll hs fuel c).2.blks.map (·.2)))
    (h1 : Eqs eqs) (h2 : SemObs P c.m w sems)
    (hk : ∀ w', Wst W0 ⟨rows, w'.heap.size⟩ w' → Seg c.m w ⟨rows, w'.heap.size⟩ w' → ∃ v w2, (∀ ty, (Builtin.append_ #[t, t2] ty #[u, s]).run P w' = .ok v w2) ∧ Goal P Q n ⟨frOf (r :: ts) (v :: vs), tagL tg, ⟨rows, w2.heap.size⟩, T⟩ w2) : Goal P Q n c w := by
  simp only [Prod.mk.injEq] at he
  obtain ⟨⟨e1, e0, er, ed, e2, e3⟩, e4⟩ := he
  refine run_ok fuel hW (Seg.refl _ _) ⟨?_, all_of_maps e4, ?_⟩ fun w' hW' hS' => ?_
  · rw [e2]; exact h1.mem
  · rw [e3]; exact h2.mem
  · have em : (run P n gt unroll hs fuel c).1.m = ⟨rows, w'.heap.size⟩ := by rw [← er, hW'.size]
    rw [em] at hW' hS'
    obtain ⟨v, w2, hr, hg⟩ := hk w' hW' hS'
    exact app_ok e1 hr (goal_at ed e0 hg)
end
section
variable {w : World}
theorem run_zeros_nil (m : Nat) (h0 : 0 < m) (hm : m ≤ 1099511627776) : ∃ G, m ≤ G ∧ G ≤ maxLen ∧ ∃ cur : Array Value, cur.size = G ∧
    ∀ ty : TypeId, (Builtin.append_ #[26, 3] ty #[.slice none 0 0, .int .i64 (m : Int)]).run Tryd.prog w = .ok (.slice (some ⟨w.heap.size, 0, none⟩) m G) (w.drew.alloc (.cells cur 5)) := by
  obtain ⟨i, hi, hz1, hz2, hz3⟩ := bt.info
  have hfit : Builtin.nextslicecap (0 + m) 0 * i.bytes ≤ 281474976710656 := by
    have := growslice_fits (bytes := 1) (show 0 < 0 + m by omega) (by omega)
    rw [hz2]; omega
  have h := Lib.run_append_grow_zeros (P := Tryd.prog) w 26 3 0 5 i (.int .u8 0) .i64 .i64 bt.sl Tryd.underlying3 hi hz3 Option.none 0 0 [] (run_firstCells_none w.drew i.size 0 0 0) m h0 (by omega) (by omega) (by omega) (by rw [hz2]; omega) hfit
  rw [Nat.zero_add] at h
  have hge := grownCap_ge w m 0 5
  have hcm : grownCap w m 0 5 ≤ maxLen := grownCap_le_maxLen w m 0 5 (by simp only [maxLen]; omega)
  refine ⟨_, hge, hcm, _, ?_, fun _ => h⟩
  simp [Builtin.zeroCells, Value.cells]
  omega
theorem grow_any (m : Nat) (hm : m ≤ 1099511627776) : Calls Tryd.prog 63 #[.slice none 0 0, .int .i64 (m : Int)] w fun x w' => ∃ v, x = .returned v ∧ Fresh w [] v w' := by
  refine enter (args := [.slice none 0 0, .int .i64 (m : Int)]) Tryd.func63 (by kernel_rfl) ?_
  rcases Nat.eq_zero_or_pos m with h0 | h0
  · subst h0
    exact go_ret (gt := fun _ => Option.none) (unroll := false) 60 [] [.tmp 4] (.slice none 0 0) [] [] (Wst.start0 w) Tryd.results63 (by kernel_rfl) trivial trivial (fun w9 hW9 _ => ⟨_, rfl, Own.nil _ _, hW9.keep, fun b h => by simp [Value.ownBlock] at h⟩)
  · refine go_appZ (gt := fun _ => Option.none) (unroll := false) 60 [(1, 1, .is (.bool false)), (3, 6, .is (.int .i64 (m : Int))), (4, 1, .is (.bool true)), (5, 5, .stop)] (.slice none 0 0) (.int .i64 (m : Int)) 26 3 [0] [.slice none 0 0] 22 [] [] (inR (bodyOf Tryd.f63) 5 5) [(.bool (decide ((m : Int) < 0)), .bool false), (.int .i64 (IntKind.i64.wrap ((m : Int) - 0)), .int .i64 (m : Int)), (.bool (decide ((m : Int) > 0)), .bool true)] [] (Wst.start0 w) (by kernel_rfl)
      ⟨congrArg Value.bool (by simp), congrArg (Value.int .i64) (by rw [IntWalk.i64_in _ (by omega)]; omega), congrArg Value.bool (by simp; omega), trivial⟩ trivial ?_
    intro w1 hW1 _
    obtain ⟨G, hmG, hG, cur, hcs, hrun⟩ := run_zeros_nil (w := w1) m h0 hm
    refine ⟨_, _, hrun, ?_⟩
    have k2 : Keep No w1 (w1.drew.alloc (.cells cur 5)) := ((Keep.refl _ _).drew).alloc _
    have hg := heap_alloc_new w1.drew (.cells cur 5)
    have hW2 := hW1.later k2
    have hsz : w1.drew.heap.size = w1.heap.size := rfl
    rw [hsz] at hg
    generalize w1.drew.alloc (.cells cur 5) = w2 at *
    refine go_ret (gt := fun _ => Option.none) (unroll := false) 60 [(5, 8, .sem (.slice (some ⟨w1.heap.size, 0, none⟩) 0 G))] [.tmp 4] (.slice (some ⟨w1.heap.size, 0, none⟩) 0 G) [] [(Instr.sliceAt 26 (.slice (some ⟨w1.heap.size, 0, none⟩) m G) Option.none (some (.int .i64 0)) Option.none, .slice (some ⟨w1.heap.size, 0, none⟩) 0 G)] hW2 Tryd.results63 (by kernel_rfl) trivial ⟨fun wx _ => ?_, trivial⟩ (fun w9 hW9 hS9 => ⟨_, rfl, ?_, hW9.keep, fun b h => by obtain rfl : w1.heap.size = b := Option.some.inj h; exact hW1.keep.size⟩)
    · have hb := run_bound (P := Tryd.prog) (w' := wx) 0 G (Nat.zero_le _) .i64
      simp only [Int.natCast_zero] at hb
      simp [Instr.sliceAt, Instr.slice, run_underlying bt.sl, Instr.sliceBounds, hb, size_of bsize]
      exact fun _ => rfl
    · refine ⟨rfl, .inr ⟨w1.heap.size, G, cur, rfl, Nat.zero_le _, ?_, Nat.zero_le _, hG, by simpa using hcs, rfl⟩⟩
      rw [hS9.same w1.heap.size ⟨block_of_row hg, fun _ h => nomatch h⟩]
      exact hg
/-- Slices of bytes in a slice. -/
structure Sls (w : World) (v : Value) (us : List Value) (ls : List (List UInt8)) : Prop where
  sl : Sl 1 w v us.length fun i => us.getD i undef
  len : us.length = ls.length
  rd : ∀ i, i < us.length → Rd w (us.getD i undef) (ls.getD i [])
theorem Sls.keep0 {v : Value} {us : List Value} {ls : List (List UInt8)} {w' : World} (h : Sls w v us ls) (k : Keep No w w') : Sls w' v us ls := ⟨h.sl.keep0 k, h.len, fun i hi => (h.rd i hi).keep0 k⟩
theorem Sl.walk {s n : Nat} {c : Nat → Value} {w0 w1 w2 : World} {v : Value} {m : Mem} (r : Sl s w0 v n c) (hW : Wst w0 m w1) (hs : ∀ k, Safe m k → w2.heap[k]? = w1.heap[k]?) : Sl s w2 v n c := by
  have r1 := r.keep0 hW.keep
  refine ⟨r.shape, fun j hj => ?_⟩
  have hlt := World.block_lt_of_cell? w0 _ (r.cell j hj)
  simp only at hlt
  rw [← r1.cell j hj]
  exact World.cell?_of_block (hs _ ⟨by have := hW.keep.size; rw [← hW.size]; simp only; omega, fun q hq ho => by have := hW.own q hq ho; simp only; omega⟩)
theorem Sls.walk {w1 w2 : World} {v : Value} {us : List Value} {ls : List (List UInt8)} {m : Mem} (h : Sls w v us ls) (hW : Wst w m w1) (hs : ∀ k, Safe m k → w2.heap[k]? = w1.heap[k]?) : Sls w2 v us ls :=
  ⟨h.sl.walk hW hs, h.len, fun i hi => (h.rd i hi).walk hW hs⟩
theorem ssize : (Tryd.prog.info? 26).map (·.size) = some 1 := by kernel_rfl
theorem Sls.sem_len {v : Value} {us : List Value} {ls : List (List UInt8)} (h : Sls w v us ls) (wx : World) : (Builtin.len_ #[103] 3 #[v]).run Tryd.prog wx = .ok (.int .i64 (us.length : Int)) wx := h.sl.run_len Tryd.underlying103
theorem Sls.sem_at {v : Value} {us : List Value} {ls : List (List UInt8)} (h : Sls w v us ls) {i : Nat} (hi : i < us.length) (wx : World) : (Instr.indexAt 103 v (.int .i64 (i : Int))).run Tryd.prog wx = .ok (.pointer (some (adr v i))) wx := by
  have := h.sl.run_at (P := Tryd.prog) (w' := wx) Tryd.underlying103 ssize (k := .i64) (i := (i : Int)) (by omega) (by omega)
  simpa using this
theorem Sls.sem_ld {v : Value} {us : List Value} {ls : List (List UInt8)} (h : Sls w v us ls) {i : Nat} (hi : i < us.length) : (Instr.loadAt 26 (.pointer (some (adr v i)))).run Tryd.prog w = .ok (us.getD i undef) w := by
  have hc := h.sl.cell i (by omega)
  have hu := run_underlying (P := Tryd.prog) (w := w) Tryd.underlying26
  simp [Instr.loadAt, Instr.sureAddr, loadVar, isAgg, hu, load, Sem.run, hc]
theorem flat_take {ls : List (List UInt8)} {i : Nat} (hi : i < ls.length) : (ls.take (i + 1)).flatten = (ls.take i).flatten ++ ls.getD i [] := by
  rw [List.take_succ_eq_append_getElem hi, List.flatten_append]
  simp [List.getD_eq_getElem?_getD, hi]
theorem flat_le (ls : List (List UInt8)) (i : Nat) : (ls.take i).flatten.length ≤ ls.flatten.length := by
  conv => rhs; rw [← List.take_append_drop i ls, List.flatten_append, List.length_append]
  omega
noncomputable abbrev coC : Code := bodyOf Tryd.f45
noncomputable abbrev coN : Nat := Tryd.f45.ntmps
abbrev coQ (w : World) (ls : List (List UInt8)) : Ending → World → Prop := fun x w' => ∃ v, x = .returned v ∧ Fresh w ls.flatten v w'
noncomputable def co1L (v : Value) (ls : List (List UInt8)) (j : Nat) (w' : World) : Cfg := ⟨frOf [0, 3, 9, 10, 11] [v, .int .i64 ((ls.take (ls.length - j)).flatten.length : Nat), v, .int .i64 (ls.length : Int), .int .i64 ((ls.length - j : Nat) : Int)], tagL [], ⟨[], w'.heap.size⟩, atL coC 3⟩
def co1J (w : World) (ls : List (List UInt8)) (j : Nat) (w' : World) : Prop := j ≤ ls.length ∧ Wst w ⟨[], w'.heap.size⟩ w'
noncomputable def co1R (w : World) (v : Value) (ls : List (List UInt8)) (j : Nat) : Act → World → Prop := fun a' w' => ∃ j', j' < j ∧ co1J w ls j' w' ∧ agrees coN (co1L v ls j' w') a'
noncomputable def co2L (v : Value) (n : Nat) (i : Nat × Value) (w' : World) : Cfg := ⟨frOf [6, 25, 26, 27] [i.2, v, .int .i64 (n : Int), .int .i64 ((n - i.1 : Nat) : Int)], tagL [], ⟨[], w'.heap.size⟩, atL coC 11⟩
def co2J (w : World) (ls : List (List UInt8)) (i : Nat × Value) (w' : World) : Prop := i.1 ≤ ls.length ∧ Wst w ⟨[], w'.heap.size⟩ w' ∧ Own 5 w' i.2 (ls.take (ls.length - i.1)).flatten ∧ Since w.heap.size i.2
noncomputable def co2R (w : World) (v : Value) (ls : List (List UInt8)) (i : Nat × Value) : Act → World → Prop := fun a' w' => ∃ j : Nat × Value, j.1 < i.1 ∧ co2J w ls j w' ∧ agrees coN (co2L v ls.length j w') a'
section
variable {v : Value} {us : List Value} {ls : List (List UInt8)}
theorem co1_round (S : Sls w v us ls) (hn : ls.length ≤ 1000) (hl : ls.flatten.length ≤ 1099511627776) (j : Nat) (w' : World) (hJ : co1J w ls (j + 1) w') :
    Goal Tryd.prog (bodyPost Tryd.prog Tryd.f45 (coQ w ls)) coN { co1L v ls (j + 1) w' with todo := .code (loopOf (atL coC 3)) :: .inv (co1R w v ls (j + 1)) :: (atL coC 3).tail } w' := by
  obtain ⟨hj, hW⟩ := hJ
  unfold co1L
  have hi : ls.length - (j + 1) < ls.length := by omega
  have hnext : ls.length - (j + 1) + 1 = ls.length - j := by omega
  generalize hI : ls.length - (j + 1) = i at *
  have hc : (i : Int) < (ls.length : Int) := by omega
  have hft := flat_take hi
  have hle := flat_le ls (i + 1)
  have hiu : i < us.length := by rw [S.len]; exact hi
  have hlen := congrArg List.length hft
  rw [List.length_append] at hlen
  simp only
  generalize (ls.take i).flatten.length = m at *
  refine go_inv (gt := fun _ => Option.none) (unroll := false) 60 [(3, 0, .is (.bool true)), (4, 0, .sem (.pointer (some (adr v i)))), (4, 1, .sem (us.getD i undef)), (5, 2, .sem (.int .i64 ((ls.getD i []).length : Nat))), (5, 3, .is (.int .i64 ((ls.take (i + 1)).flatten.length : Nat))), (6, 1, .is (.bool false)), (8, 0, .is (.int .i64 ((i + 1 : Nat) : Int)))] [0, 3, 9, 10, 11] [v, .int .i64 ((ls.take (i + 1)).flatten.length : Nat), v, .int .i64 (ls.length : Int), .int .i64 ((i + 1 : Nat) : Int)] [] (co1R w v ls (j + 1))
    [(.bool (decide ((i : Int) < (ls.length : Int))), .bool true), (.int .i64 (IntKind.i64.wrap ((m : Int) + ((ls.getD i []).length : Nat))), .int .i64 ((ls.take (i + 1)).flatten.length : Nat)), (.bool (decide ((((ls.take (i + 1)).flatten.length : Nat) : Int) < 0)), .bool false), (.int .i64 (IntKind.i64.wrap ((i : Int) + 1)), .int .i64 ((i + 1 : Nat) : Int))]
    [(Instr.indexAt 103 v (.int .i64 (i : Int)), .pointer (some (adr v i))), (Instr.loadAt 26 (.pointer (some (adr v i))), us.getD i undef), (Builtin.len_ #[26] 3 #[us.getD i undef], .int .i64 ((ls.getD i []).length : Nat))] hW (by kernel_rfl)
    ⟨congrArg Value.bool (by simpa using hc), congrArg (Value.int .i64) (by rw [IntWalk.i64_in _ (by omega)]; omega), congrArg Value.bool (by simp), congrArg (Value.int .i64) (by rw [IntWalk.i64_in _ (by omega)]; omega), trivial⟩
    ⟨fun wx _ => S.sem_at hiu wx, fun wx hx => (S.walk hW hx).sem_ld hiu, fun wx _ => (S.rd i hiu).run_len (ty := 3) bt.sl, trivial⟩ ?_
  intro w5 a hW5 hS5 hs
  refine ⟨j, Nat.lt_succ_self j, ⟨by omega, hW5⟩, ?_⟩
  unfold co1L
  rw [← hnext]
  exact hs
theorem co2_round (S : Sls w v us ls) (hn : ls.length ≤ 1000) (hl : ls.flatten.length ≤ 1099511627776) (j : Nat) (vo : Value) (w' : World) (hJ : co2J w ls (j + 1, vo) w') :
    Goal Tryd.prog (bodyPost Tryd.prog Tryd.f45 (coQ w ls)) coN { co2L v ls.length (j + 1, vo) w' with todo := .code (loopOf (atL coC 11)) :: .inv (co2R w v ls (j + 1, vo)) :: (atL coC 11).tail } w' := by
  obtain ⟨hj, hW, ho, hsi⟩ := hJ
  simp only at hj ho hsi
  unfold co2L
  simp only
  have hi : ls.length - (j + 1) < ls.length := by omega
  have hnext : ls.length - (j + 1) + 1 = ls.length - j := by omega
  generalize hI : ls.length - (j + 1) = i at *
  have hc : (i : Int) < (ls.length : Int) := by omega
  have hft := flat_take hi
  have hle := flat_le ls (i + 1)
  have hiu : i < us.length := by rw [S.len]; exact hi
  have hlen := congrArg List.length hft
  rw [List.length_append] at hlen
  refine go_appB (gt := fun _ => Option.none) (unroll := false) 60 [(11, 0, .is (.bool true)), (12, 0, .sem (.pointer (some (adr v i)))), (12, 1, .sem (us.getD i undef)), (13, 2, .stop)] vo (us.getD i undef) 26 5 [25, 26, 27] [v, .int .i64 (ls.length : Int), .int .i64 (i : Int)] 33 [] [] (inR coC 13 2 (.inv (co2R w v ls (j + 1, vo))))
    [(.bool (decide ((i : Int) < (ls.length : Int))), .bool true)] [(Instr.indexAt 103 v (.int .i64 (i : Int)), .pointer (some (adr v i))), (Instr.loadAt 26 (.pointer (some (adr v i))), us.getD i undef)] bt hW (by kernel_rfl)
    ⟨congrArg Value.bool (by simpa using hc), trivial⟩ ⟨fun wx _ => S.sem_at hiu wx, fun wx hx => (S.walk hW hx).sem_ld hiu, trivial⟩ ?_
  intro w1 hW1 hS1
  have ho1 := ho.same fun b hb => hS1.same b ⟨ho.lt b hb, fun _ h => nomatch h⟩
  refine ⟨_, _, ho1, (S.rd i hiu).keep0 hW1.keep, by omega, ?_⟩
  intro vn w2 ho2 k2 hbl
  have hW2 := hW1.laterS k2 (fun q hq => ⟨hsi q hq, fun _ h => nomatch h⟩)
  rw [← hft] at ho2
  have hsn : Since w.heap.size vn := fun b hb => by
    rcases hbl with h | h <;> rw [h] at hb
    · exact hsi b hb
    · obtain rfl := Option.some.inj hb; exact hW1.keep.size
  refine go_inv (gt := fun _ => Option.none) (unroll := false) 60 [(14, 0, .is (.int .i64 ((i + 1 : Nat) : Int)))] [6, 25, 26, 27] [vn, v, .int .i64 (ls.length : Int), .int .i64 ((i + 1 : Nat) : Int)] [] (co2R w v ls (j + 1, vo)) [(.int .i64 (IntKind.i64.wrap ((i : Int) + 1)), .int .i64 ((i + 1 : Nat) : Int))] [] hW2 (by kernel_rfl)
    ⟨congrArg (Value.int .i64) (by rw [IntWalk.i64_in _ (by omega)]; omega), trivial⟩ trivial ?_
  intro w5 a hW5 hS5 hs
  refine ⟨(j, vn), Nat.lt_succ_self j, ⟨by show j ≤ ls.length; omega, hW5, ?_, hsn⟩, ?_⟩
  · show Own 5 w5 vn (ls.take (ls.length - j)).flatten
    rw [← hnext]
    exact ho2.same fun b hb => hS5.same b ⟨ho2.lt b hb, fun _ h => nomatch h⟩
  · unfold co2L
    simp only
    rw [← hnext]
    exact hs
theorem concat_any (S : Sls w v us ls) (hn : ls.length ≤ 1000) (hl : ls.flatten.length ≤ 1099511627776) : Calls Tryd.prog 45 #[v] w (coQ w ls) := by
  refine enter (args := [v]) Tryd.func45 (by kernel_rfl) ?_
  refine go_stop (gt := fun _ => Option.none) (unroll := false) 60 [(2, 1, .sem (.int .i64 (ls.length : Int)))] [0, 3, 9, 10, 11] [v, .int .i64 0, v, .int .i64 (ls.length : Int), .int .i64 0] [] [] (atL coC 3) [] [(Builtin.len_ #[103] 3 #[v], .int .i64 (ls.length : Int))] (Wst.start0 w) (by kernel_rfl) trivial ⟨fun wx _ => by rw [← S.len]; exact S.sem_len wx, trivial⟩ ?_
  intro w1 hW1 _
  have key := loop_okT (P := Tryd.prog) (Q := bodyPost Tryd.prog Tryd.f45 (coQ w ls)) (n := coN) (x := loopOf (atL coC 3)) (k := (atL coC 3).tail) (fun j : Nat => j) (co1L v ls) (co1J w ls) (fun _ _ => by kernel_rfl) ?_ ls.length w1 ⟨Nat.le_refl _, hW1⟩
  · unfold co1L at key
    rw [Nat.sub_self] at key
    exact key
  intro j w2 hJ
  cases j with
  | succ j => exact co1_round S hn hl j w2 hJ
  | zero =>
    obtain ⟨_, hW2⟩ := hJ
    unfold co1L
    simp only [Nat.sub_zero, List.take_length]
    refine go_call_is (gt := fun _ => Option.none) (unroll := false) 60 [(3, 0, .is (.bool false))] 63 [.slice none 0 0, .int .i64 (ls.flatten.length : Int)] [0] [v] 24 [] [] (inR coC 9 1) [(.bool (decide ((ls.length : Int) < (ls.length : Int))), .bool false)] [] hW2 (by kernel_rfl) ⟨congrArg Value.bool (by simp), trivial⟩ trivial ?_
    intro w3 hW3 _
    refine (grow_any ls.flatten.length hl).mono ?_
    rintro x w4 ⟨vg, rfl, fr⟩
    refine ⟨_, rfl, ?_⟩
    have hW4 := hW3.later fr.keep
    refine go_stop (gt := fun _ => Option.none) (unroll := false) 60 [(10, 1, .sem (.int .i64 (ls.length : Int)))] [6, 25, 26, 27] [vg, v, .int .i64 (ls.length : Int), .int .i64 0] [] [] (atL coC 11) [] [(Builtin.len_ #[103] 3 #[v], .int .i64 (ls.length : Int))] hW4 (by kernel_rfl) trivial ⟨fun wx _ => by rw [← S.len]; exact S.sem_len wx, trivial⟩ ?_
    intro w5 hW5 hS5
    have ho5 := fr.own.same fun b hb => hS5.same b ⟨fr.own.lt b hb, fun _ h => nomatch h⟩
    have hsi := fr.since.mono hW3.keep.size
    have key := loop_okT (P := Tryd.prog) (Q := bodyPost Tryd.prog Tryd.f45 (coQ w ls)) (n := coN) (x := loopOf (atL coC 11)) (k := (atL coC 11).tail) (fun i : Nat × Value => i.1) (co2L v ls.length) (co2J w ls) (fun _ _ => by kernel_rfl) ?_ (ls.length, vg) w5 ⟨Nat.le_refl _, hW5, by simpa using ho5, hsi⟩
    · unfold co2L at key
      rw [Nat.sub_self] at key
      exact key
    rintro ⟨j, vo⟩ w6 hJ
    cases j with
    | succ j => exact co2_round S hn hl j vo w6 hJ
    | zero =>
      obtain ⟨_, hW6, ho6, hs6⟩ := hJ
      simp only [Nat.sub_zero, List.take_length] at ho6 hs6
      unfold co2L
      simp only [Nat.sub_zero]
      refine go_ret (gt := fun _ => Option.none) (unroll := false) 60 [(11, 0, .is (.bool false))] [.tmp 2] vo [(.bool (decide ((ls.length : Int) < (ls.length : Int))), .bool false)] [] hW6 Tryd.results45 (by kernel_rfl) ⟨congrArg Value.bool (by simp), trivial⟩ trivial (fun w9 hW9 hS9 => ⟨vo, rfl, ho6.same fun b hb => hS9.same b ⟨ho6.lt b hb, fun _ h => nomatch h⟩, hW9.keep, hs6⟩)
end
end
end Go.Proofs.YtcimfojbggckhaaDoor
