/-
  tag's Push, Pop, Plain. Condition: the kinds are as they were laid; at most 10^6 tags.
-/
import Derived.Test.YtcimfojbggckhaaDoorTagBytes
namespace Go.Proofs.YtcimfojbggckhaaDoor
open Go.RowKit

section
variable {W0 w w' : World} {v : Value} {l : List Tg} {rows : List RowS} {m' : Mem}
theorem Rt.pass (h : Rt w v l) (hlt : Under w.heap.size v) (hap : ∀ b, v.ownBlock = some b → ∀ r ∈ rows, r.b ≠ b) (hS : Seg ⟨rows, w.heap.size⟩ w m' w') (hW : Wst W0 m' w') : Rt w' v l ∧ Under w'.heap.size v :=
  ⟨h.same fun b hb _ => hS.same b ⟨hlt b hb, fun r hr _ => hap b hb r hr⟩, fun b hb => by have := hS.le; have := hlt b hb; rw [hW.size]; exact Nat.lt_of_lt_of_le (hlt b hb) hS.le⟩
theorem Under.mono {n m : Nat} {v : Value} (h : Under n v) (hm : n ≤ m) : Under m v := fun b hb => Nat.lt_of_lt_of_le (h b hb) hm
end
/-- What Push tells. -/
def pushR (l : List Tg) (t : Tg) : List Tg × Nat := if !mayL l || !mayT t then ([], 1) else if l.length = 2 then ([], 7) else if !mayL (t :: l) then ([], 1) else (t :: l, 0)
noncomputable abbrev puC : Code := bodyOf Tryd.f26
abbrev puQ (w : World) (l : List Tg) (t : Tg) : Ending → World → Prop := fun x w' => ∃ v', x = .returned (.tuple #[v', .int .i64 ((pushR l t).2 : Nat)]) ∧ FreshR w (pushR l t).1 v' w'
theorem FreshR.nil {w w' : World} (k : Keep No w w') : FreshR w [] (.slice none 0 0) w' := ⟨Rt.nil _, k, fun b hb => by simp [Value.ownBlock] at hb, fun b hb => by simp [Value.ownBlock] at hb⟩
theorem push_any {w : World} {v : Value} {l : List Tg} (r : Rt w v l) (hl : l.length ≤ 1000000) (t : Tg) (hk : Kh w) : Calls Tryd.prog 26 #[v, .agg t.a] w (puQ w l t) := by
  refine enter (args := [v, .agg t.a]) Tryd.func26 (by kernel_rfl) ?_
  refine go_appX (gt := fun _ => Option.none) (unroll := false) 60 [(1, 3, .stop)] (.slice (some ⟨w.heap.size + 1, 0, none⟩) 1 1) v 24 [0, 3] [v, .pointer (some ⟨w.heap.size, 0, none⟩)] 10 [⟨w.heap.size, t.a.toList, true⟩, ⟨w.heap.size + 1, t.a.toList, true⟩] [(3, 0)] (inR puC 1 3) [] [] (Wst.start0 w) (by kernel_rfl) trivial trivial ?_
  intro w1 hW1 _
  obtain ⟨tt, hrow⟩ := hW1.rows ⟨w.heap.size + 1, t.a.toList, true⟩ (by simp)
  obtain ⟨vn, w2, ha, rn, k2, hb2, hl2⟩ := run_append_full ett (l := [t]) (block_of_row hrow) (Rt.of_row (l := [t]) hrow (by simp [csT]) (by simp [maxLen])) (r.keep0 hW1.keep) (by simp; omega)
  refine ⟨vn, w2, ha, ?_⟩
  refine Goal.re (tags := tagL [(3, 0)]) (m := ⟨[⟨w.heap.size, t.a.toList, true⟩], w2.heap.size⟩) ?_
  have hW2 := (hW1.fewer (rows := [⟨w.heap.size, t.a.toList, true⟩]) (more := [⟨w.heap.size + 1, t.a.toList, true⟩])).later k2
  have h01 : w.heap.size + 1 < w1.heap.size := block_of_row hrow
  have hb2 : ∀ k, vn.ownBlock = some k → k = w.heap.size + 1 ∨ w1.heap.size ≤ k := hb2
  have hap : ∀ b, vn.ownBlock = some b → ∀ q ∈ ([⟨w.heap.size, t.a.toList, true⟩] : List RowS), q.b ≠ b := fun b hb q hq => by
    obtain rfl := List.mem_singleton.1 hq
    show w.heap.size ≠ b
    rcases hb2 b hb with h | h <;> omega
  have hsn : Since w.heap.size vn := fun b hb => by rcases hb2 b hb with h | h <;> omega
  refine go_call_is (gt := fun _ => Option.none) (unroll := false) 60 [] 22 [v] [0, 3, 6] [v, .pointer (some ⟨w.heap.size, 0, none⟩), vn] 13 [⟨w.heap.size, t.a.toList, true⟩] [(3, 0)] (inR puC 2 1) [] [] hW2 (by kernel_rfl) trivial trivial ?_
  intro w3 hW3 hS3
  obtain ⟨r3, l3⟩ := rn.pass hl2 hap hS3 hW3
  refine (may_any (r.keep0 hW3.keep) (hk.keep0 hW3.keep)).mono ?_
  rintro x w4 ⟨rfl, k4⟩
  refine ⟨_, rfl, ?_⟩
  have hW4 := hW3.later k4
  have r4 := r3.keep0 k4
  have l4 := l3.mono k4.size
  cases hm : mayL l with
  | false =>
    have e : pushR l t = ([], 1) := by simp [pushR, hm]
    exact go_ret (gt := fun _ => Option.none) (unroll := false) 60 [] [.tmp 4, .tmp 5] (.tuple #[.slice none 0 0, .int .i64 1]) [] [] hW4 Tryd.results26 (by kernel_rfl) trivial trivial (fun w9 hW9 _ => ⟨_, by rw [e]; rfl, by rw [e]; exact FreshR.nil hW9.keep⟩)
  | true =>
  refine go_call_is (gt := fun _ => Option.none) (unroll := false) 60 [] 27 [.agg t.a] [0, 6, 15] [v, vn, .bool false] 17 [⟨w.heap.size, t.a.toList, true⟩] [] (inR puC 2 5) [] [] hW4 (by kernel_rfl) trivial trivial ?_
  intro w5 hW5 hS5
  obtain ⟨r5, l5⟩ := r4.pass l4 hap hS5 hW5
  refine (maytag_any (hk.keep0 hW5.keep) t).mono ?_
  rintro x w6 ⟨rfl, k6⟩
  refine ⟨_, rfl, ?_⟩
  have hW6 := hW5.later k6
  have r6 := r5.keep0 k6
  have l6 := l5.mono k6.size
  cases hmt : mayT t with
  | false =>
    have e : pushR l t = ([], 1) := by simp [pushR, hmt]
    exact go_ret (gt := fun _ => Option.none) (unroll := false) 60 [] [.tmp 4, .tmp 5] (.tuple #[.slice none 0 0, .int .i64 1]) [] [] hW6 Tryd.results26 (by kernel_rfl) trivial trivial (fun w9 hW9 _ => ⟨_, by rw [e]; rfl, by rw [e]; exact FreshR.nil hW9.keep⟩)
  | true =>
  by_cases h2 : l.length = 2
  · have e : pushR l t = ([], 7) := by simp [pushR, hm, hmt, h2]
    exact go_ret (gt := fun _ => Option.none) (unroll := false) 60 [(4, 1, .sem (.int .i64 (l.length : Int))), (4, 2, .is (.bool true))] [.tmp 4, .tmp 5] (.tuple #[.slice none 0 0, .int .i64 7]) [(.bool ((l.length : Int) == 2), .bool true)] [(Builtin.len_ #[24] 3 #[v], .int .i64 (l.length : Int))] hW6 Tryd.results26 (by kernel_rfl)
      ⟨congrArg Value.bool (by simp; omega), trivial⟩ ⟨fun wx _ => r.sem_len ett (ty := 3) wx, trivial⟩ (fun w9 hW9 _ => ⟨_, by rw [e]; rfl, by rw [e]; exact FreshR.nil hW9.keep⟩)
  refine go_call_is (gt := fun _ => Option.none) (unroll := false) 60 [(4, 1, .sem (.int .i64 (l.length : Int))), (4, 2, .is (.bool false))] 22 [vn] [6] [vn] 26 [⟨w.heap.size, t.a.toList, true⟩] [] (inR puC 6 1) [(.bool ((l.length : Int) == 2), .bool false)] [(Builtin.len_ #[24] 3 #[v], .int .i64 (l.length : Int))] hW6 (by kernel_rfl)
    ⟨congrArg Value.bool (by simp; omega), trivial⟩ ⟨fun wx _ => r.sem_len ett (ty := 3) wx, trivial⟩ ?_
  intro w7 hW7 hS7
  obtain ⟨r7, l7⟩ := r6.pass l6 hap hS7 hW7
  refine (may_any r7 (hk.keep0 hW7.keep)).mono ?_
  rintro x w8 ⟨rfl, k8⟩
  refine ⟨_, rfl, ?_⟩
  have hW8 := hW7.later k8
  have r8 := r7.keep0 k8
  have l8 := l7.mono k8.size
  cases hm2 : mayL ([t] ++ l) with
  | false =>
    have e : pushR l t = ([], 1) := by simp only [pushR, hm, hmt, h2, show mayL (t :: l) = false from hm2]; rfl
    exact go_ret (gt := fun _ => Option.none) (unroll := false) 60 [] [.tmp 4, .tmp 5] (.tuple #[.slice none 0 0, .int .i64 1]) [] [] hW8 Tryd.results26 (by kernel_rfl) trivial trivial (fun w9 hW9 _ => ⟨_, by rw [e]; rfl, by rw [e]; exact FreshR.nil hW9.keep⟩)
  | true =>
    have e : pushR l t = (t :: l, 0) := by simp only [pushR, hm, hmt, h2, show mayL (t :: l) = true from hm2]; rfl
    refine go_ret (gt := fun _ => Option.none) (unroll := false) 60 [] [.tmp 4, .tmp 5] (.tuple #[vn, .int .i64 0]) [] [] hW8 Tryd.results26 (by kernel_rfl) trivial trivial (fun w9 hW9 hS9 => ⟨_, by rw [e]; rfl, ?_⟩)
    obtain ⟨r9, l9⟩ := r8.pass l8 hap hS9 hW9
    rw [e]
    exact ⟨r9, hW9.keep, hsn, l9⟩

theorem plain_any (w : World) (n : Nat) : Calls Tryd.prog 30 #[.int .u16 n] w fun x w' => x = .returned (.agg (Tg.mk 33024 0 false n).a) ∧ Keep No w w' := by
  refine enter (args := [.int .u16 n]) Tryd.func30 (by kernel_rfl) ?_
  exact go_ret (gt := fun _ => Option.none) (unroll := true) 60 [] [.cell 2 57] (.agg (Tg.mk 33024 0 false n).a) [] [] (Wst.start0 w) Tryd.results30 (by kernel_rfl) trivial trivial (fun w' hW _ => ⟨rfl, hW.keep⟩)

/-! ### Pop -/
/-- A row that is known, stored into within a region. -/
def RowK (b : Nat) (cs0 cs1 : List Value) : Nat → Gh → World → Prop := fun k g w => g.priv = One b ∧ ∃ t, w.heap[b]? = some (.cells (if k = 0 then cs0 else cs1).toArray t (0, 0))
theorem RowK.keep {b : Nat} {cs0 cs1 : List Value} : ∀ (k : Nat) (g : Gh) (w w' : World), Keep No w w' → RowK b cs0 cs1 k g w → RowK b cs0 cs1 k g w' :=
  fun _ _ _ _ kp ⟨h1, t, h2⟩ => ⟨h1, t, (kp.block b (block_of_row h2) (fun f => f)).trans h2⟩
theorem act_storeK {P : Program} {W w0 : World} {b : Nat} {cs0 cs1 : List Value} {e ty : TypeId} {p v : Tmp} {V : Value} (hK : ∀ w, Keep (One b) w0 w → Keep No W w) (hb0 : W.heap.size ≤ b) (l : List (Nat × Nat)) (hl : ∀ q ∈ l, q.1 = q.2)
    (hq : ∀ nx, gRun P (some 0) (Instr.storeAt e (.pointer (some ⟨b, 0, none⟩)) V) ⟨[⟨b, cs0, true⟩], nx⟩ = some ((), ⟨[⟨b, cs1, true⟩], nx⟩, l)) :
    ActM P (One b) w0 (RowK b cs0 cs1) 0 (.store e (.tmp p) (.tmp v)) ty [(p, .is (.pointer (some ⟨b, 0, none⟩))), (v, .is V)] (.is undef) := by
  intro a o g w ho _ hk hb hd hr
  obtain ⟨hp, t, hrow⟩ := hd
  simp only [if_true] at hrow
  have e1 : a.tmps.getD p undef = .pointer (some ⟨b, 0, none⟩) := hr (p, .is (.pointer (some ⟨b, 0, none⟩))) (by simp)
  have e2 : a.tmps.getD v undef = V := hr (v, .is V) (by simp)
  have hW : Wst W ⟨[⟨b, cs0, true⟩], w.heap.size⟩ w := ⟨rfl, fun r hr => by obtain rfl := List.mem_singleton.1 hr; exact ⟨t, hrow⟩, by simp, fun r hr _ => by obtain rfl := List.mem_singleton.1 hr; exact hb0, hK w hk⟩
  obtain ⟨w', h1, h2, h3⟩ := gRun_ok hW (hq w.heap.size) hl
  have he : (execOp a.eval o).run P w = .ok .skip w' := by
    unfold execOp
    simp only [ho, Sem.run_bind, Sem.run_pure]
    rw [show a.eval (.tmp p) = .pointer (some ⟨b, 0, none⟩) from e1, show a.eval (.tmp v) = V from e2, h1]; rfl
  rw [he]
  obtain ⟨t', ht⟩ := h2.rows _ (List.mem_singleton.2 rfl)
  have hk0 := hK w hk
  refine ⟨g, ⟨⟨h2.keep.os.trans hk0.os.symm, h2.keep.tape.trans hk0.tape.symm, h2.keep.output.trans hk0.output.symm, by rw [h2.size]; exact Nat.le_refl _, fun k hkl hn => h3.same k ⟨hkl, fun r hr _ => ?_⟩⟩, fun k h => .inl h, fun h => ⟨h, rfl⟩⟩, ?_, ⟨hp, t', ht⟩, rfl⟩
  · obtain rfl := List.mem_singleton.1 hr
    intro e
    exact hn (by rw [hp]; exact e.symm)
  · intro k h
    exact ⟨by have := (hb k h).1; rw [h2.size]; exact this, (hb k h).2⟩
/-- A new slice of tags. -/
def frS (N : Nat) (l : List Tg) : Sm := .such (fun g w x => Rt w x l ∧ Since N x ∧ ∀ b, x.ownBlock = some b → b < w.heap.size ∧ ¬ g.priv b)
  (fun g w g' w' x k h => ⟨h.1.keep k.keep (fun b hb => (h.2.2 b hb).2), h.2.1, fun b hb => ⟨Nat.lt_of_lt_of_le (h.2.2 b hb).1 k.keep.size, fun hp => by
    rcases k.priv b hp with h1 | h1
    · exact (h.2.2 b hb).2 h1
    · have := (h.2.2 b hb).1; omega⟩⟩)
def t0 : Tg := ⟨0, 0, false, 0⟩
/-- What Pop tells. -/
def popR (l : List Tg) : Tg × List Tg × Nat := if !mayL l then (t0, [], 1) else match l with | [] => (t0, [], 6) | t :: l => (t, l, 0)
noncomputable abbrev poC : Code := bodyOf Tryd.f31
abbrev poQ (w : World) (l : List Tg) : Ending → World → Prop := fun x w' => ∃ v', x = .returned (.tuple #[.agg (popR l).1.a, v', .int .i64 ((popR l).2.2 : Nat)]) ∧ FreshR w (popR l).2.1 v' w'
theorem pop_any {w : World} {v : Value} {l : List Tg} (r : Rt w v l) (hl : l.length ≤ 1000000) (hk : Kh w) : Calls Tryd.prog 31 #[v] w (poQ w l) := by
  refine enter (args := [v]) Tryd.func31 (by kernel_rfl) ?_
  refine go_call_is (gt := fun _ => Option.none) (unroll := false) 60 [] 22 [v] [0, 2] [v, .pointer (some ⟨w.heap.size, 0, none⟩)] 7 [⟨w.heap.size, t0.a.toList, true⟩] [(2, 0)] (inR poC 1 1) [] [] (Wst.start0 w) (by kernel_rfl) trivial trivial ?_
  intro w1 hW1 _
  refine (may_any (r.keep0 hW1.keep) (hk.keep0 hW1.keep)).mono ?_
  rintro x w2 ⟨rfl, k2⟩
  refine ⟨_, rfl, ?_⟩
  have hW2 := hW1.later k2
  cases hm : mayL l with
  | false =>
    have e : popR l = (t0, [], 1) := by simp [popR, hm]
    exact go_ret (gt := fun _ => Option.none) (unroll := false) 60 [] [.cell 2 57, .tmp 3, .tmp 4] (.tuple #[.agg t0.a, .slice none 0 0, .int .i64 1]) [] [] hW2 Tryd.results31 (by kernel_rfl) trivial trivial (fun w9 hW9 _ => ⟨_, by rw [e]; rfl, by rw [e]; exact FreshR.nil hW9.keep⟩)
  | true =>
  match l, r, hl, hm with
  | [], r, _, hm =>
    have e : popR [] = (t0, [], 6) := rfl
    exact go_ret (gt := fun _ => Option.none) (unroll := false) 60 [(3, 1, .sem (.int .i64 0))] [.cell 2 57, .tmp 3, .tmp 4] (.tuple #[.agg t0.a, .slice none 0 0, .int .i64 6]) [] [(Builtin.len_ #[24] 3 #[v], .int .i64 0)] hW2 Tryd.results31 (by kernel_rfl)
      trivial ⟨fun wx _ => r.sem_len ett (ty := 3) wx, trivial⟩ (fun w9 hW9 _ => ⟨_, by rw [e]; rfl, by rw [e]; exact FreshR.nil hW9.keep⟩)
  | t :: l, r, hl, hm =>
    have e : popR (t :: l) = (t, l, 0) := by simp [popR, hm]
    have hcut : (((t :: l).drop 1).take ((t :: l).length - 1)) = l := by simp
    refine go_stop (gt := fun _ => Option.none) (unroll := false) 60 [(3, 1, .sem (.int .i64 ((t :: l).length : Int))), (3, 2, .is (.bool false))] [0, 2] [v, .pointer (some ⟨w.heap.size, 0, none⟩)] [⟨w.heap.size, t0.a.toList, true⟩] [] (atR poC 5) [(.bool (((t :: l).length : Int) == 0), .bool false)] [(Builtin.len_ #[24] 3 #[v], .int .i64 ((t :: l).length : Int))] hW2 (by kernel_rfl)
      ⟨congrArg Value.bool (by simp; omega), trivial⟩ ⟨fun wx _ => r.sem_len ett (ty := 3) wx, trivial⟩ ?_
    intro w3 hW3 _
    obtain ⟨tt, hrow⟩ := hW3.rows ⟨w.heap.size, t0.a.toList, true⟩ (by simp)
    have hW3' : Wst w ⟨[], w3.heap.size⟩ w3 := hW3.fewer (rows := []) (more := [⟨w.heap.size, t0.a.toList, true⟩])
    have hKN : ∀ wx, Keep (One w.heap.size) w3 wx → Keep No w wx := fun wx k => hW3.keep.trans' k (fun i hi h => by rw [show i = w.heap.size from h] at hi; omega)
    have r3 : ∀ wx, Keep (One w.heap.size) w3 wx → Rt wx v (t :: l) := fun wx k => r.keep0 (hKN wx k)
    refine Goal.re (tags := tagL []) (m := ⟨[], w3.heap.size⟩) ?_
    refine drawnM_ok (S0 := One w.heap.size) (gt := fun _ => Option.none) (D := RowK w.heap.size t0.a.toList t.a.toList) (g0 := ⟨False, undef, One w.heap.size⟩)
      [(1, .sem (.pointer (some (adt v 0)))), (2, .sem (.agg t.a)), (4, .sem (cuts 4 v 1 (t :: l).length)), (5, .call (frS w.heap.size l)), (6, .act (.is undef)), (7, .by (frS w.heap.size l))]
      [2, 3, 4] [.is (.pointer (some ⟨w.heap.size, 0, none⟩)), frS w.heap.size l, .is (.int .i64 0)]
      (True ∧ SemM Tryd.prog (One w.heap.size) w3 (Instr.indexAt 24 v (.int .i64 0)) (.pointer (some (adt v 0))) ∧ SemM Tryd.prog (One w.heap.size) w3 (Instr.loadAt 57 (.pointer (some (adt v 0)))) (.agg t.a) ∧ True ∧
        SemM Tryd.prog (One w.heap.size) w3 (Instr.sliceAt 24 v (some (.int .i64 1)) Option.none Option.none) (cuts 4 v 1 (t :: l).length) ∧
        CallM Tryd.prog (One w.heap.size) w3 58 [.is (cuts 4 v 1 (t :: l).length)] (frS w.heap.size l) ∧
        ActM Tryd.prog (One w.heap.size) w3 (RowK w.heap.size t0.a.toList t.a.toList) 0 (.store 57 (.tmp 2) (.tmp 17)) 0 [(2, .is (.pointer (some ⟨w.heap.size, 0, none⟩))), (17, .is (.agg t.a))] (.is undef) ∧
        ByM Tryd.prog (One w.heap.size) w3 (.assign (.tmp 20)) 24 [(20, frS w.heap.size l)] (frS w.heap.size l) ∧ True ∧ True)
      1 (afterR poC 5) hW3' (fun k hk => ⟨Nat.le_of_eq (Eq.symm hk), fun _ h => nomatch h⟩) (by kernel_rfl) (by kernel_rfl) (by kernel_rfl) RowK.keep (fun k h => ⟨by rw [show k = w.heap.size from h]; exact block_of_row hrow, fun _ => h⟩) ⟨rfl, tt, hrow⟩
      ⟨trivial, fun wx k => r.sem_at ett (i := 0) (by simp) wx, fun wx k => (r3 wx k).sem_ld ett (i := 0) (by simp), trivial, fun wx k => r.sem_cutL ett (a := 1) (by simp) wx, ?_, act_storeK hKN (Nat.le_refl _) (List.replicate 4 (w.heap.size, w.heap.size)) (fun q hq => by rw [List.eq_of_mem_replicate hq]) (fun nx => by kernel_rfl), by_assign, trivial, trivial⟩ ?_
    · intro g wx vals k hbase hv
      match vals, hv with
      | [x], hx =>
        obtain rfl : x = _ := hx.1
        have rc := (r3 wx k).cut (a := 1) (h := (t :: l).length) (by simp) (Nat.le_refl _)
        rw [hcut] at rc
        refine (tclone_any rc (by simp at hl; omega)).mono ?_
        rintro e w9 ⟨u, rfl, fr⟩
        refine ⟨u, rfl, fr.keep, fr.rt, fr.since.mono (hKN wx k).size, fun b hb => ⟨fr.lt b hb, fun hp => ?_⟩⟩
        have := (hbase b hp).1
        have := fr.since b hb
        omega
    intro g w4 vs k4 hbase hd hok
    match vs, hok with
    | [x1, x2, x3], hx =>
    obtain ⟨h1, ⟨h2, h3, h4⟩, h5, _⟩ : x1 = _ ∧ (Rt w4 x2 l ∧ Since w.heap.size x2 ∧ ∀ b, x2.ownBlock = some b → b < w4.heap.size ∧ ¬ g.priv b) ∧ x3 = _ ∧ True := hx
    subst h1 h5
    obtain ⟨hp, t', hrow'⟩ := hd
    simp only [Nat.one_ne_zero, if_false] at hrow'
    have hW4 : Wst w ⟨[] ++ [⟨w.heap.size, t.a.toList, true⟩], w4.heap.size⟩ w4 := (hW3'.laterS k4 (fun k hk => ⟨Nat.le_of_eq (Eq.symm hk), fun _ h => nomatch h⟩)).addRow hrow' (Nat.le_refl _) (fun _ h => nomatch h)
    refine Goal.re (tags := tagL [(2, 0)]) (m := ⟨[⟨w.heap.size, t.a.toList, true⟩], w4.heap.size⟩) ?_
    refine go_ret (gt := fun _ => Option.none) (unroll := false) 60 [] [.cell 2 57, .tmp 3, .tmp 4] (.tuple #[.agg t.a, x2, .int .i64 0]) [] [] hW4 Tryd.results31 (by kernel_rfl) trivial trivial (fun w9 hW9 hS9 => ⟨_, by rw [e]; rfl, ?_⟩)
    obtain ⟨r9, l9⟩ := h2.pass (rows := [⟨w.heap.size, t.a.toList, true⟩]) (fun b hb => (h4 b hb).1) (fun b hb q hq => by
      obtain rfl := List.mem_singleton.1 hq
      intro h
      exact (h4 b hb).2 (by rw [hp]; exact h.symm)) hS9 hW9
    rw [e]
    exact ⟨r9, hW9.keep, h3, l9⟩
end Go.Proofs.YtcimfojbggckhaaDoor
