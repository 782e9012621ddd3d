/-
  DhcpParts: for every input the call returns true and each argument reads afterwards as before. No condition.
-/
import Derived.Test.YtpnocepepihflaaDhcpPartsAllB
namespace Go.Proofs.Ytpnocepepihflaa
open Go.RowKit

def valO (c : UInt8) (l : List Opt) : List UInt8 := (l.filter fun x => x.1 == c && (c != 0 && c != 255)).flatMap (·.2)
theorem valE_o (c : UInt8) (l : List Oe) : valE c l = valO c (l.map Oe.o) := by
  unfold valE valO
  rw [List.filter_map, List.flatMap_map]
  rfl
theorem NewB.hx {W w w' : World} {rows : List RowS} {v : Value} {l : List UInt8} (h : NewB w.heap.size w' v l) (hW : Wst W ⟨rows, w.heap.size⟩ w) : Hx rows w' v l := ⟨h.rd, fun b hb _ => ⟨h.un b hb, fun r hr _ => by
  obtain ⟨t, ht⟩ := hW.rows r hr
  have h1 : r.b < w.heap.size := block_of_row ht
  have h2 := h.si b hb
  omega⟩⟩
theorem NewO.hx {W w w' : World} {rows : List RowS} {v : Value} {l : List Oe} (h : NewO w.heap.size w' v l) (hW : Wst W ⟨rows, w.heap.size⟩ w) : HxO false rows w' v l := ⟨h.ro, fun b hb _ => ⟨h.un b hb, fun r hr _ => by
  obtain ⟨t, ht⟩ := hW.rows r hr
  have h1 : r.b < w.heap.size := block_of_row ht
  have h2 := h.si b hb
  omega⟩, fun e he => (h.each e he).hx hW⟩
def L2 : List UInt8 := [255]
def L3 : List UInt8 := [0, 53, 1, 5, 0, 255]
def L4 : List UInt8 := [53, 1, 1, 53, 1, 2, 255]
theorem g2 : getR (plainL ++ L2) = (some (getH (plainL ++ L2), ([], [])), 0) := by kernel_rfl
theorem g3 : getR (plainL ++ L3) = (some (getH (plainL ++ L3), ([(53, [5])], [])), 0) := by kernel_rfl
theorem g4 : getR (plainL ++ L4) = (some (getH (plainL ++ L4), ([(53, [1]), (53, [2])], [])), 0) := by kernel_rfl
noncomputable abbrev wkC : Code := bodyOf Try.f11
abbrev trQ (w : World) : Ending → World → Prop := fun x w' => x = .returned (.bool true) ∧ Keep No w w'
set_option maxRecDepth 8000 in
theorem wakes_any (w : World) : Calls Try.prog 11 #[] w (trQ w) := by
  refine enter (args := []) Try.func11 (by kernel_rfl) ?_
  refine go_call_is (gt := fun _ => Option.none) (unroll := false) 60 [] 26 [nilV] [] [] 10 [] [] (inR wkC 1 0) [] [] (Wst.start0 w) (by kernel_rfl) trivial trivial ?_
  intro w1 hW1 _
  refine (plain_any (Rd.nil w1) (by simp)).mono ?_
  rintro x w2 ⟨v1, rfl, k2, n2⟩
  refine ⟨_, rfl, ?_⟩
  have hW2 := hW1.later k2
  have h2 := n2.hx hW1
  refine go_call_is (gt := fun _ => Option.none) (unroll := false) 60 [] 14 [v1] [] [] 11 [] [] (inR wkC 1 1) [] [] hW2 (by kernel_rfl) trivial trivial ?_
  intro w3 hW3 hS3
  have h3 := h2.pass0 hS3
  refine (dget_any h3.rd (by show (plainL ++ []).length ≤ _; decide)).mono ?_
  rintro x w4 ⟨m1, rfl, k4, g1⟩
  refine ⟨_, rfl, ?_⟩
  have hW4 := hW3.later k4
  have e1 : getR (plainL ++ []) = (none, 4) := by kernel_rfl
  rw [e1] at g1 ⊢
  obtain rfl : m1 = .agg (mz.a nilV nilV) := g1
  refine go_call_is (gt := fun _ => Option.none) (unroll := false) 60 [] 26 [.slice (some ⟨w4.heap.size + 1, 0, none⟩) 1 1] [2] [.int .i64 4] 16 [⟨w4.heap.size, (mz.a nilV nilV).toList, true⟩, ⟨w4.heap.size + 1, bvs L2, true⟩] [] (inR wkC 2 1) [] [] hW4 (by kernel_rfl) trivial trivial ?_
  intro w5 hW5 hS5
  have src5 : Rd w5 (.slice (some ⟨w4.heap.size + 1, 0, none⟩) 1 1) L2 := Rd.of_row (bs := L2) (cs := bvs L2) (ow := true) hW5 (by simp) 1 rfl (by simp [maxLen]) (fun i hi => by rw [Nat.zero_add]; exact bvs_get hi)
  have hm5 : ∀ r ∈ ([⟨w4.heap.size, (mz.a nilV nilV).toList, true⟩, ⟨w4.heap.size + 1, bvs L2, true⟩] : List RowS), w4.heap.size ≤ r.b := fun r hr => by
    simp only [List.mem_cons, List.not_mem_nil, or_false] at hr
    rcases hr with rfl | rfl
    · exact Nat.le_refl _
    · exact Nat.le_succ _
  have hWf5 : Wst w ⟨[], w5.heap.size⟩ w5 := hW5.fewer (rows := []) (more := [⟨w4.heap.size, (mz.a nilV nilV).toList, true⟩, ⟨w4.heap.size + 1, bvs L2, true⟩])
  refine (plain_any src5 (by decide)).mono ?_
  rintro x w6 ⟨v6, rfl, k6, n6⟩
  refine ⟨_, rfl, ?_⟩
  have hW6 := hWf5.later k6
  have n6 := n6.hx hWf5
  refine Goal.re (tags := tagL []) (m := ⟨[], w6.heap.size⟩) ?_
  refine go_call_is (gt := fun _ => Option.none) (unroll := false) 60 [] 14 [v6] [2] [.int .i64 4] 17 [] [] (inR wkC 2 2) [] [] hW6 (by kernel_rfl) trivial trivial ?_
  intro w7 hW7 hS7
  have n7 := n6.pass0 hS7
  refine (dget_any n7.rd (by decide)).mono ?_
  rintro x w8 ⟨m2, rfl, k8, G2⟩
  refine ⟨_, rfl, ?_⟩
  have hW8 := hW7.later k8
  rw [g2] at G2 ⊢
  obtain ⟨H2z, H2b, H2es, rfl, H2o, H2n, _⟩ := G2
  have hH2 := H2n.hx hW7
  refine go_call_is (gt := fun _ => Option.none) (unroll := false) 60 [] 26 [.slice (some ⟨w8.heap.size + 1, 0, none⟩) 6 6] [2, 3, 4] [.int .i64 4, pT w8.heap.size, .int .i64 0] 22 [⟨w8.heap.size, ((getH (plainL ++ L2)).a H2z.v H2b.v).toList, true⟩, ⟨w8.heap.size + 1, bvs L3, true⟩] [(3, 0)] (inR wkC 3 1) [] [] hW8 (by kernel_rfl) trivial trivial ?_
  intro w9 hW9 hS9
  have src9 : Rd w9 (.slice (some ⟨w8.heap.size + 1, 0, none⟩) 6 6) L3 := Rd.of_row (bs := L3) (cs := bvs L3) (ow := true) hW9 (by simp) 6 rfl (by simp [maxLen]) (fun i hi => by rw [Nat.zero_add]; exact bvs_get hi)
  have hm9 : ∀ r ∈ ([⟨w8.heap.size, ((getH (plainL ++ L2)).a H2z.v H2b.v).toList, true⟩, ⟨w8.heap.size + 1, bvs L3, true⟩] : List RowS), w8.heap.size ≤ r.b := fun r hr => by
    simp only [List.mem_cons, List.not_mem_nil, or_false] at hr
    rcases hr with rfl | rfl
    · exact Nat.le_refl _
    · exact Nat.le_succ _
  have hH2 := (hH2.pass (more := [⟨w8.heap.size, ((getH (plainL ++ L2)).a H2z.v H2b.v).toList, true⟩, ⟨w8.heap.size + 1, bvs L3, true⟩]) hS9 hm9)
  have hWf9 : Wst w ⟨[⟨w8.heap.size, ((getH (plainL ++ L2)).a H2z.v H2b.v).toList, true⟩], w9.heap.size⟩ w9 := hW9.fewer (rows := [⟨w8.heap.size, ((getH (plainL ++ L2)).a H2z.v H2b.v).toList, true⟩]) (more := [⟨w8.heap.size + 1, bvs L3, true⟩])
  have hH2 : HxO false [⟨w8.heap.size, ((getH (plainL ++ L2)).a H2z.v H2b.v).toList, true⟩] w9 H2z.v H2es := hH2.fewer (rows := [⟨w8.heap.size, ((getH (plainL ++ L2)).a H2z.v H2b.v).toList, true⟩]) (more := [⟨w8.heap.size + 1, bvs L3, true⟩])
  refine (plain_any src9 (by decide)).mono ?_
  rintro x w10 ⟨v10, rfl, k10, n10⟩
  refine ⟨_, rfl, ?_⟩
  have hW10 := hWf9.later k10
  have n10 := n10.hx hWf9
  have hH2 := hH2.call k10
  refine Goal.re (tags := tagL [(3, 0)]) (m := ⟨[⟨w8.heap.size, ((getH (plainL ++ L2)).a H2z.v H2b.v).toList, true⟩], w10.heap.size⟩) ?_
  refine go_call_is (gt := fun _ => Option.none) (unroll := false) 60 [] 14 [v10] [2, 3, 4] [.int .i64 4, pT w8.heap.size, .int .i64 0] 23 [⟨w8.heap.size, ((getH (plainL ++ L2)).a H2z.v H2b.v).toList, true⟩] [(3, 0)] (inR wkC 3 2) [] [] hW10 (by kernel_rfl) trivial trivial ?_
  intro w11 hW11 hS11
  have n11 := n10.pass0 hS11
  have hH2 := hH2.pass0 hS11
  refine (dget_any n11.rd (by decide)).mono ?_
  rintro x w12 ⟨m3, rfl, k12, G3⟩
  refine ⟨_, rfl, ?_⟩
  have hW12 := hW11.later k12
  rw [g3] at G3 ⊢
  obtain ⟨H3z, H3b, H3es, rfl, H3o, H3n, _⟩ := G3
  have hH2 := hH2.call k12
  have hH3 := H3n.hx hW11
  refine go_call_is (gt := fun _ => Option.none) (unroll := false) 60 [] 26 [.slice (some ⟨w12.heap.size + 1, 0, none⟩) 7 7] [2, 3, 4, 5, 6] [.int .i64 4, pT w8.heap.size, .int .i64 0, pT w12.heap.size, .int .i64 0] 28 [⟨w8.heap.size, ((getH (plainL ++ L2)).a H2z.v H2b.v).toList, true⟩, ⟨w12.heap.size, ((getH (plainL ++ L3)).a H3z.v H3b.v).toList, true⟩, ⟨w12.heap.size + 1, bvs L4, true⟩] [(3, 0), (5, 1)] (inR wkC 4 1) [] [] hW12 (by kernel_rfl) trivial trivial ?_
  intro w13 hW13 hS13
  have src13 : Rd w13 (.slice (some ⟨w12.heap.size + 1, 0, none⟩) 7 7) L4 := Rd.of_row (bs := L4) (cs := bvs L4) (ow := true) hW13 (by simp) 7 rfl (by simp [maxLen]) (fun i hi => by rw [Nat.zero_add]; exact bvs_get hi)
  have hm13 : ∀ r ∈ ([⟨w12.heap.size, ((getH (plainL ++ L3)).a H3z.v H3b.v).toList, true⟩, ⟨w12.heap.size + 1, bvs L4, true⟩] : List RowS), w12.heap.size ≤ r.b := fun r hr => by
    simp only [List.mem_cons, List.not_mem_nil, or_false] at hr
    rcases hr with rfl | rfl
    · exact Nat.le_refl _
    · exact Nat.le_succ _
  have hH2 := (hH2.pass (more := [⟨w12.heap.size, ((getH (plainL ++ L3)).a H3z.v H3b.v).toList, true⟩, ⟨w12.heap.size + 1, bvs L4, true⟩]) hS13 hm13)
  have hH3 := (hH3.pass (more := [⟨w12.heap.size, ((getH (plainL ++ L3)).a H3z.v H3b.v).toList, true⟩, ⟨w12.heap.size + 1, bvs L4, true⟩]) hS13 hm13)
  have hWf13 : Wst w ⟨[⟨w8.heap.size, ((getH (plainL ++ L2)).a H2z.v H2b.v).toList, true⟩, ⟨w12.heap.size, ((getH (plainL ++ L3)).a H3z.v H3b.v).toList, true⟩], w13.heap.size⟩ w13 := hW13.fewer (rows := [⟨w8.heap.size, ((getH (plainL ++ L2)).a H2z.v H2b.v).toList, true⟩, ⟨w12.heap.size, ((getH (plainL ++ L3)).a H3z.v H3b.v).toList, true⟩]) (more := [⟨w12.heap.size + 1, bvs L4, true⟩])
  have hH2 : HxO false [⟨w8.heap.size, ((getH (plainL ++ L2)).a H2z.v H2b.v).toList, true⟩, ⟨w12.heap.size, ((getH (plainL ++ L3)).a H3z.v H3b.v).toList, true⟩] w13 H2z.v H2es := hH2.fewer (rows := [⟨w8.heap.size, ((getH (plainL ++ L2)).a H2z.v H2b.v).toList, true⟩, ⟨w12.heap.size, ((getH (plainL ++ L3)).a H3z.v H3b.v).toList, true⟩]) (more := [⟨w12.heap.size + 1, bvs L4, true⟩])
  have hH3 : HxO false [⟨w8.heap.size, ((getH (plainL ++ L2)).a H2z.v H2b.v).toList, true⟩, ⟨w12.heap.size, ((getH (plainL ++ L3)).a H3z.v H3b.v).toList, true⟩] w13 H3z.v H3es := hH3.fewer (rows := [⟨w8.heap.size, ((getH (plainL ++ L2)).a H2z.v H2b.v).toList, true⟩, ⟨w12.heap.size, ((getH (plainL ++ L3)).a H3z.v H3b.v).toList, true⟩]) (more := [⟨w12.heap.size + 1, bvs L4, true⟩])
  refine (plain_any src13 (by decide)).mono ?_
  rintro x w14 ⟨v14, rfl, k14, n14⟩
  refine ⟨_, rfl, ?_⟩
  have hW14 := hWf13.later k14
  have n14 := n14.hx hWf13
  have hH2 := hH2.call k14
  have hH3 := hH3.call k14
  refine Goal.re (tags := tagL [(3, 0), (5, 1)]) (m := ⟨[⟨w8.heap.size, ((getH (plainL ++ L2)).a H2z.v H2b.v).toList, true⟩, ⟨w12.heap.size, ((getH (plainL ++ L3)).a H3z.v H3b.v).toList, true⟩], w14.heap.size⟩) ?_
  refine go_call_is (gt := fun _ => Option.none) (unroll := false) 60 [] 14 [v14] [2, 3, 4, 5, 6] [.int .i64 4, pT w8.heap.size, .int .i64 0, pT w12.heap.size, .int .i64 0] 29 [⟨w8.heap.size, ((getH (plainL ++ L2)).a H2z.v H2b.v).toList, true⟩, ⟨w12.heap.size, ((getH (plainL ++ L3)).a H3z.v H3b.v).toList, true⟩] [(3, 0), (5, 1)] (inR wkC 4 2) [] [] hW14 (by kernel_rfl) trivial trivial ?_
  intro w15 hW15 hS15
  have n15 := n14.pass0 hS15
  have hH2 := hH2.pass0 hS15
  have hH3 := hH3.pass0 hS15
  refine (dget_any n15.rd (by decide)).mono ?_
  rintro x w16 ⟨m4, rfl, k16, G4⟩
  refine ⟨_, rfl, ?_⟩
  have hW16 := hW15.later k16
  rw [g4] at G4 ⊢
  obtain ⟨H4z, H4b, H4es, rfl, H4o, H4n, _⟩ := G4
  have hH2 := hH2.call k16
  have hH3 := hH3.call k16
  have hH4 := H4n.hx hW15
  have he2 : H2es = [] := List.map_eq_nil_iff.1 H2o
  refine go_call_is (gt := fun _ => Option.none) (unroll := false) 60 [(5, 9, .sem (.int .i64 0))] 10 [.agg ((getH (plainL ++ L3)).a H3z.v H3b.v)] [7, 8, 48] [pT w16.heap.size, .int .i64 0, .bool true] 50 [⟨w8.heap.size, ((getH (plainL ++ L2)).a H2z.v H2b.v).toList, true⟩, ⟨w12.heap.size, ((getH (plainL ++ L3)).a H3z.v H3b.v).toList, true⟩, ⟨w16.heap.size, ((getH (plainL ++ L4)).a H4z.v H4b.v).toList, true⟩] [(7, 2)] (inR wkC 5 18) [] [(Builtin.len_ #[25] 3 #[H2z.v], .int .i64 0)] hW16 (by kernel_rfl) trivial ⟨fun wx _ => by have := hH2.ro.sem_len E2o (ty := 3) wx; rw [he2] at this; exact this, trivial⟩ ?_
  intro w17 hW17 hS17
  have hm17 : ∀ r ∈ ([⟨w16.heap.size, ((getH (plainL ++ L4)).a H4z.v H4b.v).toList, true⟩] : List RowS), w16.heap.size ≤ r.b := fun r hr => by
    obtain rfl := List.mem_singleton.1 hr
    exact Nat.le_refl _
  have hH3 := hH3.pass (more := [⟨w16.heap.size, ((getH (plainL ++ L4)).a H4z.v H4b.v).toList, true⟩]) hS17 hm17
  have hH4 := hH4.pass (more := [⟨w16.heap.size, ((getH (plainL ++ L4)).a H4z.v H4b.v).toList, true⟩]) hS17 hm17
  refine (mtype_any (m := getH (plainL ++ L3)) (so := H3z) (sb := H3b) hH3.rv (by have := congrArg List.length H3o; simp at this; omega) (by rw [valE_o, H3o]; decide)).mono ?_
  rintro x w18 ⟨rfl, k18⟩
  refine ⟨_, rfl, ?_⟩
  rw [show typR (valE 53 H3es) = 5 by rw [valE_o, H3o]; decide]
  have hW18 := hW17.later k18
  have hH4 := hH4.call k18
  refine go_call_is (gt := fun _ => Option.none) (unroll := false) 60 [] 10 [.agg ((getH (plainL ++ L4)).a H4z.v H4b.v)] [57] [.bool true] 59 [⟨w8.heap.size, ((getH (plainL ++ L2)).a H2z.v H2b.v).toList, true⟩, ⟨w12.heap.size, ((getH (plainL ++ L3)).a H3z.v H3b.v).toList, true⟩, ⟨w16.heap.size, ((getH (plainL ++ L4)).a H4z.v H4b.v).toList, true⟩] [] (inR wkC 5 27) [] [] hW18 (by kernel_rfl) trivial trivial ?_
  intro w19 hW19 hS19
  have hH4 := hH4.pass0 hS19
  refine (mtype_any (m := getH (plainL ++ L4)) (so := H4z) (sb := H4b) hH4.rv (by have := congrArg List.length H4o; simp at this; omega) (by rw [valE_o, H4o]; decide)).mono ?_
  rintro x w20 ⟨rfl, k20⟩
  refine ⟨_, rfl, ?_⟩
  rw [show typR (valE 53 H4es) = 0 by rw [valE_o, H4o]; decide]
  exact go_ret (gt := fun _ => Option.none) (unroll := false) 60 [] [.tmp 0] (.bool true) [] [] (hW19.later k20) Try.results11 (by kernel_rfl) trivial trivial (fun w9 hW9 _ => ⟨rfl, hW9.keep⟩)
end Go.Proofs.Ytpnocepepihflaa
namespace Go.Proofs.Ytpnocepepihflaa
open Go.RowKit

/-- A message whose options are es, new. -/
def msgX (N : Nat) (m : Mh) (es : List Oe) (g : Gh) (w : World) (x : Value) : Prop := ∃ z : Sb, x = .agg (m.a z.v nilV) ∧ Ro false w z.v es ∧ Since N z.v ∧ ∀ b, z.v.ownBlock = some b → b < w.heap.size ∧ ¬ g.priv b
theorem msgX.tr {N : Nat} {m : Mh} {es : List Oe} {g g' : Gh} {w w' : World} {x : Value} (h : msgX N m es g w x) (k : Tr g w g' w') : msgX N m es g' w' x := by
  obtain ⟨z, h1, h2, h3, h4⟩ := h
  exact ⟨z, h1, h2.keep k.keep (fun b hb => (h4 b hb).2), h3, fun b hb => ⟨Nat.lt_of_lt_of_le (h4 b hb).1 k.keep.size, fun hp => by
    rcases k.priv b hp with h | h
    · exact (h4 b hb).2 h
    · have := (h4 b hb).1; omega⟩⟩
def msgS (N : Nat) (m : Mh) (es : List Oe) : Sm := .such (msgX N m es) (fun _ _ _ _ _ k h => h.tr k)
/-- New options. -/
def newS (N : Nat) (es : List Oe) : Sm := .such (fun g w x => ∃ z : Sb, x = z.v ∧ Ro false w z.v es ∧ Since N z.v ∧ ∀ b, z.v.ownBlock = some b → b < w.heap.size ∧ ¬ g.priv b)
  (fun g w g' w' x k h => by
    obtain ⟨z, h1, h2, h3, h4⟩ := h
    exact ⟨z, h1, h2.keep k.keep (fun b hb => (h4 b hb).2), h3, fun b hb => ⟨Nat.lt_of_lt_of_le (h4 b hb).1 k.keep.size, fun hp => by
      rcases k.priv b hp with h | h
      · exact (h4 b hb).2 h
      · have := (h4 b hb).1; omega⟩⟩)
theorem new_opts {P : Program} {w0 : World} {q : Sem Value} {n : Nat} {es : List Oe} (hn : n ≤ maxLen) (hl : es.length = n)
    (hq : ∀ nx, gRun P none q ⟨[], nx⟩ = some (.slice (some ⟨nx, 0, none⟩) n n, ⟨[⟨nx, csO false es, true⟩], nx + 1⟩, [])) : NewM P No w0 q (newS w0.heap.size es) := by
  subst hl
  intro g w hk hb
  obtain ⟨w', h1, h2, h3⟩ := gRun_ok (Wst.start0 w) (hq w.heap.size) (fun _ h => nomatch h)
  obtain ⟨t, ht⟩ := h2.rows ⟨w.heap.size, csO false es, true⟩ (by simp)
  refine ⟨_, w', h1, h2.keep, ⟨some ⟨w.heap.size, 0, none⟩, es.length, es.length⟩, rfl, Ro.of_row ht rfl hn, fun b hb' => ?_, fun b hb' => ?_⟩
  · obtain rfl : w.heap.size = b := Option.some.inj hb'
    exact hk.size
  · obtain rfl : w.heap.size = b := Option.some.inj hb'
    exact ⟨block_of_row ht, fun hp => by have := (hb _ hp).1; omega⟩
theorem by_msg {P : Program} {S0 : Nat → Prop} {w0 : World} {N : Nat} {x : Tmp} {t ty : TypeId} {m : Mh} {es : List Oe} {o1 : Value} (hq : ∀ o n k, aRun P none (Instr.build t #[(0, o1), (13, .slice o n k)]) = some (.agg (m.a (.slice o n k) nilV), [])) :
    ByM P S0 w0 (.build t #[(0, .const o1), (13, .tmp x)]) ty [(x, newS N es)] (msgS N m es) := by
  intro a o g w ho _ _ _ hr
  obtain ⟨z, e1, h2⟩ : ∃ z : Sb, a.tmps.getD x undef = z.v ∧ _ := hr (x, newS N es) (by simp)
  unfold execOp
  simp only [ho, Sem.run_bind, Sem.run_pure]
  simp only [List.map_toArray, List.map_cons, List.map_nil, Act.eval, e1]
  rw [aRun_none (hq z.o z.n z.c)]
  exact ⟨Keep.refl _ _, z, rfl, h2⟩
/-- A row made, and filled with such a message. -/
def PaD (N : Nat) (m : Mh) (es : List Oe) (w0 : World) : Nat → Gh → World → Prop
  | 0, g, _ => ¬ g.live ∧ ∀ b, ¬ g.priv b
  | 1, g, w => g.live ∧ ∃ b t, g.val = pT b ∧ g.priv = (fun j => j = b) ∧ w0.heap.size ≤ b ∧ w.heap[b]? = some (.cells (mz.a nilV nilV).toList.toArray t (0, 0))
  | _, g, w => g.live ∧ ∃ b t, ∃ z : Sb, g.val = pT b ∧ g.priv = (fun j => j = b) ∧ w0.heap.size ≤ b ∧ w.heap[b]? = some (.cells (m.a z.v nilV).toList.toArray t (0, 0)) ∧ msgX N m es g w (.agg (m.a z.v nilV)) ∧ Ro false w z.v es ∧ Since N z.v ∧ ∀ i, z.v.ownBlock = some i → i < w.heap.size ∧ ¬ g.priv i
theorem PaD.keep {N : Nat} {m : Mh} {es : List Oe} {w0 : World} : ∀ (k : Nat) (g : Gh) (w w' : World), Keep No w w' → PaD N m es w0 k g w → PaD N m es w0 k g w'
  | 0, _, _, _, _, h => h
  | 1, _, _, _, kp, ⟨h1, b, t, h2, h3, h4, h5⟩ => ⟨h1, b, t, h2, h3, h4, (kp.block b (block_of_row h5) (fun f => f)).trans h5⟩
  | _ + 2, _, _, _, kp, ⟨h1, b, t, z, h2, h3, h4, h5, h6, h7, h8, h9⟩ => ⟨h1, b, t, z, h2, h3, h4, (kp.block b (block_of_row h5) (fun f => f)).trans h5, h6.tr (Tr.quiet kp), h7.keep0 kp, h8, fun i hi => ⟨Nat.lt_of_lt_of_le (h9 i hi).1 kp.size, (h9 i hi).2⟩⟩
section
variable {P : Program} {w0 : World} {N : Nat} {m : Mh} {es : List Oe}
theorem pa_alloc {e ty : TypeId} (hq : ∀ nx, gRun P none (Instr.alloc e true (.tuple #[])) ⟨[], nx⟩ = some (.pointer (some ⟨nx, 0, none⟩), ⟨[⟨nx, (mz.a nilV nilV).toList, true⟩], nx + 1⟩, [])) :
    ActM P No w0 (PaD N m es w0) 0 (.alloc e) ty [] padS := by
  intro a o g w ho _ hk _ hd _
  obtain ⟨w', h1, h2, _⟩ := gRun_ok (Wst.start0 w) (hq w.heap.size) (fun _ h => nomatch h)
  have he : (execOp a.eval o).run P w = .ok (.value (.pointer (some ⟨w.heap.size, 0, none⟩))) w' := by
    unfold execOp
    simp only [ho, Sem.run_bind, Sem.run_pure]
    rw [h1]; rfl
  rw [he]
  obtain ⟨t, ht⟩ := h2.rows _ (List.mem_singleton.2 rfl)
  have hs : w0.heap.size ≤ w.heap.size := hk.size
  refine ⟨⟨True, .pointer (some ⟨w.heap.size, 0, none⟩), fun j => j = w.heap.size⟩, ⟨h2.keep.no, fun k h => .inr (Nat.le_of_eq (Eq.symm h)), fun h => absurd h hd.1⟩, ?_, ⟨trivial, _, t, rfl, rfl, hs, ht⟩, ⟨trivial, rfl⟩⟩
  rintro k rfl
  exact ⟨block_of_row ht, fun h => absurd h (Nat.not_lt.2 hs)⟩
theorem pa_store {e ty : TypeId} {p v : Tmp} (l : Nat → List (Nat × Nat)) (hl : ∀ b, ∀ q ∈ l b, q.1 = q.2)
    (hq : ∀ zo zn zc b nx, gRun P (some 0) (Instr.storeAt e (.pointer (some ⟨b, 0, none⟩)) (.agg (m.a (.slice zo zn zc) nilV))) ⟨[⟨b, (mz.a nilV nilV).toList, true⟩], nx⟩ = some ((), ⟨[⟨b, (m.a (.slice zo zn zc) nilV).toList, true⟩], nx⟩, l b)) :
    ActM P No w0 (PaD N m es w0) 1 (.store e (.tmp p) (.tmp v)) ty [(p, padS), (v, msgS N m es)] (.is undef) := by
  intro a o g w ho _ hk hb hd hr
  obtain ⟨hlive, b, t, hv, hp, hb0, hrow⟩ := hd
  have e1 : a.tmps.getD p undef = .pointer (some ⟨b, 0, none⟩) := (hr (p, padS) (by simp)).2.trans hv
  obtain ⟨z, e2, h3, h4, h5⟩ : msgX N m es g w (a.tmps.getD v undef) := hr (v, msgS N m es) (by simp)
  have hW : Wst w0 ⟨[⟨b, (mz.a nilV nilV).toList, true⟩], w.heap.size⟩ w := ⟨rfl, fun r hr => by obtain rfl := List.mem_singleton.1 hr; exact ⟨t, hrow⟩, by simp, fun r hr _ => by obtain rfl := List.mem_singleton.1 hr; exact hb0, hk⟩
  obtain ⟨w', g1, g2, g3⟩ := gRun_ok hW (hq z.o z.n z.c b w.heap.size) (hl b)
  have he : (execOp a.eval o).run P w = .ok .skip w' := by
    unfold execOp
    simp only [ho, Sem.run_bind, Sem.run_pure]
    rw [show a.eval (.tmp p) = .pointer (some ⟨b, 0, none⟩) from e1, show a.eval (.tmp v) = _ from e2, g1]; rfl
  rw [he]
  obtain ⟨t', ht⟩ := g2.rows _ (List.mem_singleton.2 rfl)
  have htr : Tr g w g w' := ⟨⟨g2.keep.os.trans hk.os.symm, g2.keep.tape.trans hk.tape.symm, g2.keep.output.trans hk.output.symm, by rw [g2.size]; exact Nat.le_refl _, fun k hkl hn => g3.same k ⟨hkl, fun r hr _ => by
    obtain rfl := List.mem_singleton.1 hr
    intro e
    exact hn (by rw [hp]; exact e.symm)⟩⟩, fun k h => .inl h, fun h => ⟨h, rfl⟩⟩
  obtain ⟨z', q1, q2, q3, q4⟩ := (show msgX N m es g w (.agg (m.a z.v nilV)) from ⟨z, rfl, h3, h4, h5⟩).tr htr
  refine ⟨g, htr, fun k h => ⟨by have := (hb k h).1; rw [g2.size]; exact this, (hb k h).2⟩, ⟨hlive, b, t', z, hv, hp, hb0, ht, ⟨z', q1, q2, q3, q4⟩, h3.keep htr.keep (fun i hi => (h5 i hi).2), h4, fun i hi => ⟨by rw [g2.size]; exact (h5 i hi).1, (h5 i hi).2⟩⟩, rfl⟩
end
end Go.Proofs.Ytpnocepepihflaa
namespace Go.Proofs.Ytpnocepepihflaa
open Go.RowKit

noncomputable abbrev dpC : Code := bodyOf Try.f3
noncomputable abbrev dpN : Nat := Try.f3.ntmps
def m1 : Mh := { mz with op := 1 }
abbrev dpR (p9 p10 : Nat) (z2 z3 : Sb) : List RowS := [⟨p9, (m1.a z2.v nilV).toList, true⟩, ⟨p10, (m1.a z3.v nilV).toList, true⟩]
theorem type_ob {w0 : World} {m : Mh} {so : Sb} {l : List Oe} {n : Nat} (r : RoV false w0 so.v l) (hl : l.length ≤ 1000000) (hv : (valE 53 l).length ≤ 1099511627776) (ht : typR (valE 53 l) = n) : CallOb Try.prog w0 10 [.is (.agg (m.a so.v nilV))] (.is (.int .i64 (n : Int))) := by
  intro w vals k ha
  match vals, ha with
  | [x], ha =>
    obtain rfl : x = _ := ha.1
    refine (mtype_any (m := m) (sb := ⟨none, 0, 0⟩) (r.keep0 k) hl hv).mono ?_
    rintro e w' ⟨rfl, k'⟩
    exact ⟨_, rfl, k', by rw [ht]; rfl⟩
theorem wakes_ob {w0 : World} : CallOb Try.prog w0 11 [] (.is (.bool true)) := by
  intro w vals k ha
  match vals, ha with
  | [], _ =>
    refine (wakes_any w).mono ?_
    rintro e w' ⟨rfl, k'⟩
    exact ⟨_, rfl, k', rfl⟩
section
variable {w : World} {vl : List UInt8} {qo : Option Addr} {qn qc p9 p10 : Nat} {z2 z3 : Sb} {es2 es3 : List Oe}
theorem dp_false (n2 : es2.length ≤ 3) (n3 : es3.length ≤ 3) (h2 : (valE 53 es2).length ≤ 60) (h3 : (valE 53 es3).length ≤ 60) (t2 : typR (valE 53 es2) = 0) (t3 : typR (valE 53 es3) = 0) (w0 : World) (hW0 : Wst w ⟨dpR p9 p10 z2 z3, w0.heap.size⟩ w0) (H2 : HxO false (dpR p9 p10 z2 z3) w0 z2.v es2) (H3 : HxO false (dpR p9 p10 z2 z3) w0 z3.v es3) :
    Goal Try.prog (bodyPost Try.prog Try.f3 (trQ w)) dpN ⟨frOf [0, 9, 10, 23] [.slice qo qn qc, pT p9, pT p10, .bool false], tagL [(9, 0), (10, 1)], ⟨dpR p9 p10 z2 z3, w0.heap.size⟩, atR dpC 18⟩ w0 := by
  refine drawn_ok (gt := fun _ => Option.none) [(1, .call (.is (.int .i64 (0 : Nat)))), (3, .call (.is (.int .i64 (0 : Nat)))), (7, .call (.is (.int .i64 (0 : Nat)))), (26, .call (.is (.bool true)))] [6] [.is (.bool true)] [] [(10, [.is (.agg (m1.a z2.v nilV))], .is (.int .i64 (0 : Nat))), (10, [.is (.agg (m1.a z3.v nilV))], .is (.int .i64 (0 : Nat))), (10, [.is (.agg (m1.a z2.v nilV))], .is (.int .i64 (0 : Nat))), (11, [], .is (.bool true))] [] [] []
    hW0 (by kernel_rfl) (by kernel_rfl) trivial ⟨type_ob H2.rv (by omega) (by omega) t2, type_ob H3.rv (by omega) (by omega) t3, type_ob H2.rv (by omega) (by omega) t2, wakes_ob, trivial⟩ trivial trivial trivial ?_
  intro w1 vs k1 hok
  obtain rfl := allOk_is (vs := [.bool true]) hok
  have hW1 : Wst w ⟨[], w1.heap.size⟩ w1 := (hW0.later k1).fewer (rows := [])
  refine Goal.re (tags := tagL []) (m := ⟨[], w1.heap.size⟩) ?_
  exact go_ret (gt := fun _ => Option.none) (unroll := false) 60 [] [.tmp 6] (.bool true) [] [] hW1 Try.results3 (by kernel_rfl) trivial trivial (fun w9 hW9 _ => ⟨rfl, hW9.keep⟩)
theorem dp_true {n : Nat} (rq : Rd w (.slice qo qn qc) vl) (hv : 0 < vl.length) (hn : (byteAt vl 0).toNat = n) (hn0 : n ≠ 0) (n2 : es2.length ≤ 3) (n3 : es3.length ≤ 3) (h2 : (valE 53 es2).length ≤ 60) (h3 : (valE 53 es3).length ≤ 60) (t2 : typR (valE 53 es2) = n) (t3 : typR (valE 53 es3) = n) (w0 : World) (hW0 : Wst w ⟨dpR p9 p10 z2 z3, w0.heap.size⟩ w0) (H2 : HxO false (dpR p9 p10 z2 z3) w0 z2.v es2) (H3 : HxO false (dpR p9 p10 z2 z3) w0 z3.v es3) :
    Goal Try.prog (bodyPost Try.prog Try.f3 (trQ w)) dpN ⟨frOf [0, 9, 10, 23] [.slice qo qn qc, pT p9, pT p10, .bool true], tagL [(9, 0), (10, 1)], ⟨dpR p9 p10 z2 z3, w0.heap.size⟩, atR dpC 18⟩ w0 := by
  have hlt := (byteAt vl 0).toNat_lt
  refine drawn_ok (gt := fun _ => Option.none) [(1, .call (.is (.int .i64 (n : Int)))), (3, .call (.is (.int .i64 (n : Int)))), (4, .is (.bool true)), (7, .call (.is (.int .i64 (n : Int)))), (8, .is (.bool true)), (17, .call (.is (.int .i64 (n : Int)))), (19, .sem (.pointer (some (adr (.slice qo qn qc) 0)))), (20, .sem (.int .u8 (n : Int))), (21, .is (.int .i64 (n : Int))), (22, .is (.bool true)), (26, .call (.is (.bool true)))] [6] [.is (.bool true)]
    [(.bool ((n : Int) == (n : Int)), .bool true), (.bool ((n : Int) != 0), .bool true), (.int .i64 (IntKind.i64.wrap (n : Int)), .int .i64 (n : Int)), (.bool ((n : Int) == (n : Int)), .bool true)]
    [(10, [.is (.agg (m1.a z2.v nilV))], .is (.int .i64 (n : Int))), (10, [.is (.agg (m1.a z3.v nilV))], .is (.int .i64 (n : Int))), (10, [.is (.agg (m1.a z2.v nilV))], .is (.int .i64 (n : Int))), (10, [.is (.agg (m1.a z2.v nilV))], .is (.int .i64 (n : Int))), (11, [], .is (.bool true))] [] [] [(Instr.indexAt 22 (.slice qo qn qc) (.int .i64 0), .pointer (some (adr (.slice qo qn qc) 0))), (Instr.loadAt 5 (.pointer (some (adr (.slice qo qn qc) 0))), .int .u8 (n : Int))]
    hW0 (by kernel_rfl) (by kernel_rfl) ⟨congrArg Value.bool (by simp), congrArg Value.bool (by simp; omega), congrArg (Value.int .i64) (i64_small (by omega) (by omega)), congrArg Value.bool (by simp), trivial⟩
    ⟨type_ob H2.rv (by omega) (by omega) t2, type_ob H3.rv (by omega) (by omega) t3, type_ob H2.rv (by omega) (by omega) t2, type_ob H2.rv (by omega) (by omega) t2, wakes_ob, trivial⟩ trivial trivial
    ⟨fun wx _ => rq.sem_at (i := 0) hv wx, fun wx k => by rw [← hn]; exact (rq.keep0 (hW0.keep.trans k)).sem_ld (i := 0) hv, trivial⟩ ?_
  intro w1 vs k1 hok
  obtain rfl := allOk_is (vs := [.bool true]) hok
  have hW1 : Wst w ⟨[], w1.heap.size⟩ w1 := (hW0.later k1).fewer (rows := [])
  refine Goal.re (tags := tagL []) (m := ⟨[], w1.heap.size⟩) ?_
  exact go_ret (gt := fun _ => Option.none) (unroll := false) 60 [] [.tmp 6] (.bool true) [] [] hW1 Try.results3 (by kernel_rfl) trivial trivial (fun w9 hW9 _ => ⟨rfl, hW9.keep⟩)
theorem dp_end {cc : UInt8} (rq : Rd w (.slice qo qn qc) vl) (hvl : vl.length ≤ 60) (n2 : es2.length ≤ 3) (n3 : es3.length ≤ 3) (t2 : valE 53 es2 = if cc = 53 then vl else []) (t3 : valE 53 es3 = if cc = 53 then vl else [])
    (w0 : World) (hW0 : Wst w ⟨dpR p9 p10 z2 z3, w0.heap.size⟩ w0) (H2 : HxO false (dpR p9 p10 z2 z3) w0 z2.v es2) (H3 : HxO false (dpR p9 p10 z2 z3) w0 z3.v es3) :
    Goal Try.prog (bodyPost Try.prog Try.f3 (trQ w)) dpN ⟨frOf [0, 1, 9, 10, 160] [.slice qo qn qc, bv cc, pT p9, pT p10, .bool false], tagL [(9, 0), (10, 1)], ⟨dpR p9 p10 z2 z3, w0.heap.size⟩, afterR dpC 15⟩ w0 := by
  by_cases h53 : cc = 53
  case neg =>
    rw [if_neg h53] at t2 t3
    have hz : typR [] = 0 := rfl
    refine go_stop (gt := fun _ => Option.none) (unroll := false) 60 [(17, 1, .is (.bool false))] [0, 9, 10, 23] [.slice qo qn qc, pT p9, pT p10, .bool false] (dpR p9 p10 z2 z3) [(9, 0), (10, 1)] (atR dpC 18) [(.bool (((cc.toNat : Nat) : Int) == 53), .bool false)] [] hW0 (by kernel_rfl) ⟨congrArg Value.bool ((i8_eq cc 53).trans (by simpa using h53)), trivial⟩ trivial ?_
    intro w1 hW1 hS1
    exact dp_false n2 n3 (by rw [t2]; first | (simp; done) | omega) (by rw [t3]; first | (simp; done) | omega) (by rw [t2]; exact hz) (by rw [t3]; exact hz) w1 hW1 (H2.pass0 hS1) (H3.pass0 hS1)
  rw [if_pos h53] at t2 t3
  by_cases h1 : vl.length = 1
  case neg =>
    have hz : typR vl = 0 := if_neg (fun h => h1 h.1)
    refine go_stop (gt := fun _ => Option.none) (unroll := false) 60 [(17, 1, .is (.bool true)), (17, 4, .sem (.int .i64 (vl.length : Int))), (17, 5, .is (.bool false))] [0, 9, 10, 23] [.slice qo qn qc, pT p9, pT p10, .bool false] (dpR p9 p10 z2 z3) [(9, 0), (10, 1)] (atR dpC 18) [(.bool (((cc.toNat : Nat) : Int) == 53), .bool true), (.bool (((vl.length : Nat) : Int) == 1), .bool false)] [(Builtin.len_ #[22] 3 #[.slice qo qn qc], .int .i64 (vl.length : Int))] hW0 (by kernel_rfl) ⟨congrArg Value.bool ((i8_eq cc 53).trans (by simpa using h53)), congrArg Value.bool (beq_eq_false_iff_ne.2 (by omega)), trivial⟩ ⟨fun wx _ => rq.run_len (ty := 3) bt.sl, trivial⟩ ?_
    intro w1 hW1 hS1
    exact dp_false n2 n3 (by rw [t2]; first | (simp; done) | omega) (by rw [t3]; first | (simp; done) | omega) (by rw [t2]; exact hz) (by rw [t3]; exact hz) w1 hW1 (H2.pass0 hS1) (H3.pass0 hS1)
  by_cases h2 : 1 ≤ (byteAt vl 0).toNat
  case neg =>
    have hz : typR vl = 0 := by unfold typR; rw [if_pos ⟨h1, by omega⟩]; omega
    refine go_stop (gt := fun _ => Option.none) (unroll := false) 60 [(17, 1, .is (.bool true)), (17, 4, .sem (.int .i64 (vl.length : Int))), (17, 5, .is (.bool true)), (17, 9, .sem (.pointer (some (adr (.slice qo qn qc) 0)))), (17, 10, .sem (bv (byteAt vl 0))), (17, 11, .is (.bool false))] [0, 9, 10, 23] [.slice qo qn qc, pT p9, pT p10, .bool false] (dpR p9 p10 z2 z3) [(9, 0), (10, 1)] (atR dpC 18) [(.bool (((cc.toNat : Nat) : Int) == 53), .bool true), (.bool (((vl.length : Nat) : Int) == 1), .bool true), (.bool (decide (((byteAt vl 0).toNat : Int) ≥ 1)), .bool false)] [(Builtin.len_ #[22] 3 #[.slice qo qn qc], .int .i64 (vl.length : Int)), (Instr.indexAt 22 (.slice qo qn qc) (.int .i64 0), .pointer (some (adr (.slice qo qn qc) 0))), (Instr.loadAt 5 (.pointer (some (adr (.slice qo qn qc) 0))), bv (byteAt vl 0))] hW0 (by kernel_rfl) ⟨congrArg Value.bool ((i8_eq cc 53).trans (by simpa using h53)), congrArg Value.bool (beq_iff_eq.2 (by omega)), congrArg Value.bool (decide_eq_false (by omega)), trivial⟩ ⟨fun wx _ => rq.run_len (ty := 3) bt.sl, fun wx _ => rq.sem_at (i := 0) (by omega) wx, fun wx hx => (rq.walk hW0 hx).sem_ld (i := 0) (by omega), trivial⟩ ?_
    intro w1 hW1 hS1
    exact dp_false n2 n3 (by rw [t2]; first | (simp; done) | omega) (by rw [t3]; first | (simp; done) | omega) (by rw [t2]; exact hz) (by rw [t3]; exact hz) w1 hW1 (H2.pass0 hS1) (H3.pass0 hS1)
  by_cases h3 : (byteAt vl 0).toNat ≤ 8
  case neg =>
    have hz : typR vl = 0 := if_neg (fun h => h3 h.2)
    refine go_stop (gt := fun _ => Option.none) (unroll := false) 60 [(17, 1, .is (.bool true)), (17, 4, .sem (.int .i64 (vl.length : Int))), (17, 5, .is (.bool true)), (17, 9, .sem (.pointer (some (adr (.slice qo qn qc) 0)))), (17, 10, .sem (bv (byteAt vl 0))), (17, 11, .is (.bool true)), (17, 15, .sem (.pointer (some (adr (.slice qo qn qc) 0)))), (17, 16, .sem (bv (byteAt vl 0))), (17, 17, .is (.bool false))] [0, 9, 10, 23] [.slice qo qn qc, pT p9, pT p10, .bool false] (dpR p9 p10 z2 z3) [(9, 0), (10, 1)] (atR dpC 18) [(.bool (((cc.toNat : Nat) : Int) == 53), .bool true), (.bool (((vl.length : Nat) : Int) == 1), .bool true), (.bool (decide (((byteAt vl 0).toNat : Int) ≥ 1)), .bool true), (.bool (decide (((byteAt vl 0).toNat : Int) ≤ 8)), .bool false)] [(Builtin.len_ #[22] 3 #[.slice qo qn qc], .int .i64 (vl.length : Int)), (Instr.indexAt 22 (.slice qo qn qc) (.int .i64 0), .pointer (some (adr (.slice qo qn qc) 0))), (Instr.loadAt 5 (.pointer (some (adr (.slice qo qn qc) 0))), bv (byteAt vl 0)), (Instr.indexAt 22 (.slice qo qn qc) (.int .i64 0), .pointer (some (adr (.slice qo qn qc) 0))), (Instr.loadAt 5 (.pointer (some (adr (.slice qo qn qc) 0))), bv (byteAt vl 0))] hW0 (by kernel_rfl) ⟨congrArg Value.bool ((i8_eq cc 53).trans (by simpa using h53)), congrArg Value.bool (beq_iff_eq.2 (by omega)), congrArg Value.bool (decide_eq_true (by omega)), congrArg Value.bool (decide_eq_false (by omega)), trivial⟩ ⟨fun wx _ => rq.run_len (ty := 3) bt.sl, fun wx _ => rq.sem_at (i := 0) (by omega) wx, fun wx hx => (rq.walk hW0 hx).sem_ld (i := 0) (by omega), fun wx _ => rq.sem_at (i := 0) (by omega) wx, fun wx hx => (rq.walk hW0 hx).sem_ld (i := 0) (by omega), trivial⟩ ?_
    intro w1 hW1 hS1
    exact dp_false n2 n3 (by rw [t2]; first | (simp; done) | omega) (by rw [t3]; first | (simp; done) | omega) (by rw [t2]; exact hz) (by rw [t3]; exact hz) w1 hW1 (H2.pass0 hS1) (H3.pass0 hS1)
  have hz : typR vl = (byteAt vl 0).toNat := if_pos ⟨h1, h3⟩
  refine go_stop (gt := fun _ => Option.none) (unroll := false) 60 [(17, 1, .is (.bool true)), (17, 4, .sem (.int .i64 (vl.length : Int))), (17, 5, .is (.bool true)), (17, 9, .sem (.pointer (some (adr (.slice qo qn qc) 0)))), (17, 10, .sem (bv (byteAt vl 0))), (17, 11, .is (.bool true)), (17, 15, .sem (.pointer (some (adr (.slice qo qn qc) 0)))), (17, 16, .sem (bv (byteAt vl 0))), (17, 17, .is (.bool true))] [0, 9, 10, 23] [.slice qo qn qc, pT p9, pT p10, .bool true] (dpR p9 p10 z2 z3) [(9, 0), (10, 1)] (atR dpC 18) [(.bool (((cc.toNat : Nat) : Int) == 53), .bool true), (.bool (((vl.length : Nat) : Int) == 1), .bool true), (.bool (decide (((byteAt vl 0).toNat : Int) ≥ 1)), .bool true), (.bool (decide (((byteAt vl 0).toNat : Int) ≤ 8)), .bool true)] [(Builtin.len_ #[22] 3 #[.slice qo qn qc], .int .i64 (vl.length : Int)), (Instr.indexAt 22 (.slice qo qn qc) (.int .i64 0), .pointer (some (adr (.slice qo qn qc) 0))), (Instr.loadAt 5 (.pointer (some (adr (.slice qo qn qc) 0))), bv (byteAt vl 0)), (Instr.indexAt 22 (.slice qo qn qc) (.int .i64 0), .pointer (some (adr (.slice qo qn qc) 0))), (Instr.loadAt 5 (.pointer (some (adr (.slice qo qn qc) 0))), bv (byteAt vl 0))] hW0 (by kernel_rfl) ⟨congrArg Value.bool ((i8_eq cc 53).trans (by simpa using h53)), congrArg Value.bool (beq_iff_eq.2 (by omega)), congrArg Value.bool (decide_eq_true (by omega)), congrArg Value.bool (decide_eq_true (by omega)), trivial⟩ ⟨fun wx _ => rq.run_len (ty := 3) bt.sl, fun wx _ => rq.sem_at (i := 0) (by omega) wx, fun wx hx => (rq.walk hW0 hx).sem_ld (i := 0) (by omega), fun wx _ => rq.sem_at (i := 0) (by omega) wx, fun wx hx => (rq.walk hW0 hx).sem_ld (i := 0) (by omega), trivial⟩ ?_
  intro w1 hW1 hS1
  exact dp_true rq (by omega) rfl (by omega) n2 n3 (by rw [t2]; omega) (by rw [t3]; omega) (by rw [t2]; exact hz) (by rw [t3]; exact hz) w1 hW1 (H2.pass0 hS1) (H3.pass0 hS1)
end
end Go.Proofs.Ytpnocepepihflaa
namespace Go.Proofs.Ytpnocepepihflaa
open Go.RowKit

section
variable {w : World} {vl : List UInt8} {cc : UInt8} {qo : Option Addr} {qn qc p9 p10 : Nat} {z2 z3 : Sb} {es2 es3 : List Oe}
theorem orG {A x k : Nat} (h : A * 2 ^ k + x < 4294967296) (hx : x < 2 ^ k) : bits BinOp.or IntKind.u32 ((A * 2 ^ k : Nat) : Int) (x : Int) = ((A * 2 ^ k + x : Nat) : Int) := by
  have e : A * 2 ^ k + x = A * 2 ^ k ||| x := by
    have := Nat.shiftLeft_add_eq_or_of_lt (i := k) (b := x) hx A
    simpa [Nat.shiftLeft_eq] using this
  have h1 : (BitVec.ofInt 32 ((A * 2 ^ k : Nat) : Int)).toNat = A * 2 ^ k := by
    rw [BitVec.ofInt_natCast, BitVec.toNat_ofNat]; exact Nat.mod_eq_of_lt (by omega)
  have h2 : (BitVec.ofInt 32 (x : Int)).toNat = x := by
    rw [BitVec.ofInt_natCast, BitVec.toNat_ofNat]; exact Nat.mod_eq_of_lt (by omega)
  show IntKind.u32.wrap ((BitVec.ofInt 32 ((A * 2 ^ k : Nat) : Int) ||| BitVec.ofInt 32 (x : Int)).toNat : Int) = _
  rw [BitVec.toNat_or, h1, h2, ← e, IntKind.wrap_u32]
  omega
theorem dp_mid (rq : Rd w (.slice qo qn qc) vl) (hvl : vl.length ≤ 60) (n2 : es2.length ≤ 3) (n3 : es3.length ≤ 3) (q2 : valE cc es2 = vl) (q3 : valE cc es3 = vl) (i2 : isE cc es2 = true) (i3 : isE cc es3 = true) (t2 : valE 53 es2 = if cc = 53 then vl else []) (t3 : valE 53 es3 = if cc = 53 then vl else [])
    (w0 : World) (hW0 : Wst w ⟨dpR p9 p10 z2 z3, w0.heap.size⟩ w0) (H2 : HxO false (dpR p9 p10 z2 z3) w0 z2.v es2) (H3 : HxO false (dpR p9 p10 z2 z3) w0 z3.v es3) :
    Goal Try.prog (bodyPost Try.prog Try.f3 (trQ w)) dpN ⟨frOf [0, 1, 9, 10] [.slice qo qn qc, bv cc, pT p9, pT p10], tagL [(9, 0), (10, 1)], ⟨dpR p9 p10 z2 z3, w0.heap.size⟩, afterR dpC 6⟩ w0 := by
  have z0 : valE 0 es3 = [] ∧ isE 0 es3 = false := by
    have h : hitE 0 = fun _ => false := by funext e; unfold hitE; simp
    unfold valE isE
    rw [h]
    simp
  have z255 : valE 255 es3 = [] ∧ isE 255 es3 = false := by
    have h : hitE 255 = fun _ => false := by funext e; unfold hitE; simp
    unfold valE isE
    rw [h]
    simp
  have hW := hW0
  clear hW0
  refine go_call_is (gt := fun _ => Option.none) (unroll := false) 60 [] 7 [.agg (m1.a z2.v nilV), bv cc] [0, 1, 9, 10] [.slice qo qn qc, bv cc, pT p9, pT p10] 62 (dpR p9 p10 z2 z3) [(9, 0), (10, 1)] (inR dpC 7 2) [] [] hW (by kernel_rfl) trivial trivial ?_
  intro w1 hW1 hS1
  have H2 := H2.pass0 hS1
  have H3 := H3.pass0 hS1
  refine (value_any (m := m1) (sb := ⟨none, 0, 0⟩) (c := cc) H2.rv (by omega) (by rw [q2]; omega)).mono ?_
  rintro x w2 ⟨v11, rfl, rd11, k2, si11, un11⟩
  refine ⟨_, rfl, ?_⟩
  rw [q2] at rd11
  rw [i2]
  have V11 : Hx (dpR p9 p10 z2 z3) w2 v11 _ := NewB.hx ⟨rd11, si11, un11⟩ hW1
  have H2 := H2.call k2
  have H3 := H3.call k2
  have hW := hW1.later k2
  clear hS1 k2
  refine go_call_is (gt := fun _ => Option.none) (unroll := false) 60 [] 7 [.agg (m1.a z3.v nilV), bv cc] [0, 1, 9, 10, 11, 12] [.slice qo qn qc, bv cc, pT p9, pT p10, v11, .bool true] 68 (dpR p9 p10 z2 z3) [(9, 0), (10, 1)] (inR dpC 8 2) [] [] hW (by kernel_rfl) trivial trivial ?_
  intro w3 hW3 hS3
  have H2 := H2.pass0 hS3
  have H3 := H3.pass0 hS3
  have V11 := V11.pass0 hS3
  refine (value_any (m := m1) (sb := ⟨none, 0, 0⟩) (c := cc) H3.rv (by omega) (by rw [q3]; omega)).mono ?_
  rintro x w4 ⟨v13, rfl, rd13, k4, si13, un13⟩
  refine ⟨_, rfl, ?_⟩
  rw [q3] at rd13
  rw [i3]
  have V13 : Hx (dpR p9 p10 z2 z3) w4 v13 _ := NewB.hx ⟨rd13, si13, un13⟩ hW3
  have H2 := H2.call k4
  have H3 := H3.call k4
  have V11 := V11.call k4
  have hW := hW3.later k4
  clear hS3 k4
  refine go_call_is (gt := fun _ => Option.none) (unroll := false) 60 [] 8 [.agg (m1.a z2.v nilV), bv cc] [0, 1, 9, 10, 11, 12, 13, 14] [.slice qo qn qc, bv cc, pT p9, pT p10, v11, .bool true, v13, .bool true] 74 (dpR p9 p10 z2 z3) [(9, 0), (10, 1)] (inR dpC 9 2) [] [] hW (by kernel_rfl) trivial trivial ?_
  intro w5 hW5 hS5
  have H2 := H2.pass0 hS5
  have H3 := H3.pass0 hS5
  have V11 := V11.pass0 hS5
  have V13 := V13.pass0 hS5
  refine (mnumber_any (m := m1) (sb := ⟨none, 0, 0⟩) (c := cc) H2.rv (by omega) (by rw [q2]; omega)).mono ?_
  rintro x w6 ⟨rfl, k6⟩
  refine ⟨_, rfl, ?_⟩
  rw [q2]
  have H2 := H2.call k6
  have H3 := H3.call k6
  have V11 := V11.call k6
  have V13 := V13.call k6
  have hW := hW5.later k6
  clear hS5 k6
  refine go_call_is (gt := fun _ => Option.none) (unroll := false) 60 [] 8 [.agg (m1.a z3.v nilV), bv cc] [0, 1, 9, 10, 11, 12, 13, 14, 15, 16] [.slice qo qn qc, bv cc, pT p9, pT p10, v11, .bool true, v13, .bool true, .int .u32 ((numR vl).1 : Int), .bool (numR vl).2] 80 (dpR p9 p10 z2 z3) [(9, 0), (10, 1)] (inR dpC 10 2) [] [] hW (by kernel_rfl) trivial trivial ?_
  intro w7 hW7 hS7
  have H2 := H2.pass0 hS7
  have H3 := H3.pass0 hS7
  have V11 := V11.pass0 hS7
  have V13 := V13.pass0 hS7
  refine (mnumber_any (m := m1) (sb := ⟨none, 0, 0⟩) (c := cc) H3.rv (by omega) (by rw [q3]; omega)).mono ?_
  rintro x w8 ⟨rfl, k8⟩
  refine ⟨_, rfl, ?_⟩
  rw [q3]
  have H2 := H2.call k8
  have H3 := H3.call k8
  have V11 := V11.call k8
  have V13 := V13.call k8
  have hW := hW7.later k8
  clear hS7 k8
  refine go_call_is (gt := fun _ => Option.none) (unroll := false) 60 [] 7 [.agg (m1.a z3.v nilV), bv 0] [0, 1, 9, 10, 11, 12, 13, 14, 15, 16, 17, 18] [.slice qo qn qc, bv cc, pT p9, pT p10, v11, .bool true, v13, .bool true, .int .u32 ((numR vl).1 : Int), .bool (numR vl).2, .int .u32 ((numR vl).1 : Int), .bool (numR vl).2] 85 (dpR p9 p10 z2 z3) [(9, 0), (10, 1)] (inR dpC 11 1) [] [] hW (by kernel_rfl) trivial trivial ?_
  intro w9 hW9 hS9
  have H2 := H2.pass0 hS9
  have H3 := H3.pass0 hS9
  have V11 := V11.pass0 hS9
  have V13 := V13.pass0 hS9
  refine (value_any (m := m1) (sb := ⟨none, 0, 0⟩) (c := 0) H3.rv (by omega) (by rw [z0.1]; simp)).mono ?_
  rintro x w10 ⟨v19, rfl, rd19, k10, si19, un19⟩
  refine ⟨_, rfl, ?_⟩
  rw [z0.1] at rd19
  rw [z0.2]
  have V19 : Hx (dpR p9 p10 z2 z3) w10 v19 _ := NewB.hx ⟨rd19, si19, un19⟩ hW9
  have H2 := H2.call k10
  have H3 := H3.call k10
  have V11 := V11.call k10
  have V13 := V13.call k10
  have hW := hW9.later k10
  clear hS9 k10
  refine go_call_is (gt := fun _ => Option.none) (unroll := false) 60 [] 7 [.agg (m1.a z3.v nilV), bv 255] [0, 1, 9, 10, 11, 12, 13, 14, 15, 16, 17, 18, 20] [.slice qo qn qc, bv cc, pT p9, pT p10, v11, .bool true, v13, .bool true, .int .u32 ((numR vl).1 : Int), .bool (numR vl).2, .int .u32 ((numR vl).1 : Int), .bool (numR vl).2, .bool false] 90 (dpR p9 p10 z2 z3) [(9, 0), (10, 1)] (inR dpC 12 1) [] [] hW (by kernel_rfl) trivial trivial ?_
  intro w11 hW11 hS11
  have H2 := H2.pass0 hS11
  have H3 := H3.pass0 hS11
  have V11 := V11.pass0 hS11
  have V13 := V13.pass0 hS11
  refine (value_any (m := m1) (sb := ⟨none, 0, 0⟩) (c := 255) H3.rv (by omega) (by rw [z255.1]; simp)).mono ?_
  rintro x w12 ⟨v21, rfl, rd21, k12, si21, un21⟩
  refine ⟨_, rfl, ?_⟩
  rw [z255.1] at rd21
  rw [z255.2]
  have V21 : Hx (dpR p9 p10 z2 z3) w12 v21 _ := NewB.hx ⟨rd21, si21, un21⟩ hW11
  have H2 := H2.call k12
  have H3 := H3.call k12
  have V11 := V11.call k12
  have V13 := V13.call k12
  have hW := hW11.later k12
  clear hS11 k12
  refine go_call_is (gt := fun _ => Option.none) (unroll := false) 60 [] 9 [v11, .slice qo qn qc] [0, 1, 9, 10, 13, 15, 16, 17, 18, 20, 22, 99] [.slice qo qn qc, bv cc, pT p9, pT p10, v13, .int .u32 ((numR vl).1 : Int), .bool (numR vl).2, .int .u32 ((numR vl).1 : Int), .bool (numR vl).2, .bool false, .bool false, .bool false] 102 (dpR p9 p10 z2 z3) [(9, 0), (10, 1)] (inR dpC 13 9) [] [] hW (by kernel_rfl) trivial trivial ?_
  intro w13 hW13 hS13
  have H2 := H2.pass0 hS13
  have H3 := H3.pass0 hS13
  have V11 := V11.pass0 hS13
  have V13 := V13.pass0 hS13
  refine (bequal_any V11.rd (rq.keep0 hW13.keep)).mono ?_
  rintro x w14 ⟨rfl, rfl⟩
  refine ⟨_, rfl, ?_⟩
  rw [beq_self_eq_true]
  have hW := hW13
  clear hS13
  refine go_call_is (gt := fun _ => Option.none) (unroll := false) 60 [] 9 [v13, .slice qo qn qc] [0, 1, 9, 10, 15, 16, 17, 18, 20, 22, 105] [.slice qo qn qc, bv cc, pT p9, pT p10, .int .u32 ((numR vl).1 : Int), .bool (numR vl).2, .int .u32 ((numR vl).1 : Int), .bool (numR vl).2, .bool false, .bool false, .bool false] 108 (dpR p9 p10 z2 z3) [(9, 0), (10, 1)] (inR dpC 13 15) [] [] hW (by kernel_rfl) trivial trivial ?_
  intro w15 hW15 hS15
  have H2 := H2.pass0 hS15
  have H3 := H3.pass0 hS15
  have V13 := V13.pass0 hS15
  refine (bequal_any V13.rd (rq.keep0 hW15.keep)).mono ?_
  rintro x w16 ⟨rfl, rfl⟩
  refine ⟨_, rfl, ?_⟩
  rw [beq_self_eq_true]
  have hW := hW15
  clear hS15
  by_cases h4 : vl.length = 4
  case neg =>
    have e4 : numR vl = (0, false) := if_neg h4
    have h4' : (((vl.length : Nat) : Int) == 4) = false := beq_eq_false_iff_ne.2 (by omega)
    rw [e4]
    refine go_stop (gt := fun _ => Option.none) (unroll := false) 60 [(13, 31, .sem (.int .i64 (vl.length : Int))), (13, 32, .is (.bool false))] [0, 1, 9, 10, 15, 16] [.slice qo qn qc, bv cc, pT p9, pT p10, .int .u32 0, .bool false] (dpR p9 p10 z2 z3) [(9, 0), (10, 1)] (atR dpC 15) [(.bool (((vl.length : Nat) : Int) == 4), .bool false)] [(Builtin.len_ #[22] 3 #[.slice qo qn qc], .int .i64 (vl.length : Int))] hW (by kernel_rfl) ⟨congrArg Value.bool h4', trivial⟩ ⟨fun wx _ => rq.run_len (ty := 3) bt.sl, trivial⟩ ?_
    intro wa hWa hSa
    have H2 := H2.pass0 hSa
    have H3 := H3.pass0 hSa
    refine drawn_ok (gt := fun _ => Option.none) [] [0, 1, 9, 10, 160] [.is (.slice qo qn qc), .is (bv cc), .is (pT p9), .is (pT p10), .is (.bool false)] [] [] [] [] [] hWa (by kernel_rfl) (by kernel_rfl) trivial trivial trivial trivial trivial ?_
    intro wb vs kb hok
    obtain rfl := allOk_is (vs := [.slice qo qn qc, bv cc, pT p9, pT p10, .bool false]) hok
    refine Goal.re (tags := tagL [(9, 0), (10, 1)]) (m := ⟨dpR p9 p10 z2 z3, wb.heap.size⟩) ?_
    exact dp_end rq hvl n2 n3 t2 t3 wb (hWa.later kb) (H2.call kb) (H3.call kb)
  have e4 : numR vl = (be vl, true) := if_pos h4
  have h4' : (((vl.length : Nat) : Int) == 4) = true := beq_iff_eq.2 (by omega)
  have b0 := (byteAt vl 0).toNat_lt
  have b1 := (byteAt vl 1).toNat_lt
  have b2 := (byteAt vl 2).toNat_lt
  have b3 := (byteAt vl 3).toNat_lt
  have hbe : be vl = (((byteAt vl 0).toNat * 256 + (byteAt vl 1).toNat) * 256 + (byteAt vl 2).toNat) * 256 + (byteAt vl 3).toNat := by
    match vl, h4 with
    | [a, b, c, d], _ => simp [be, byteAt]
  rw [e4]
  refine go_stop (gt := fun _ => Option.none) (unroll := false) 60 [(13, 21, .is (.bool false)), (13, 31, .sem (.int .i64 (vl.length : Int))), (13, 32, .is (.bool true))] [0, 1, 9, 10, 15, 16] [.slice qo qn qc, bv cc, pT p9, pT p10, .int .u32 (be vl : Nat), .bool true] (dpR p9 p10 z2 z3) [(9, 0), (10, 1)] (atR dpC 15) [(.bool (((be vl : Nat) : Int) != ((be vl : Nat) : Int)), .bool false), (.bool (((vl.length : Nat) : Int) == 4), .bool true)] [(Builtin.len_ #[22] 3 #[.slice qo qn qc], .int .i64 (vl.length : Int))] hW (by kernel_rfl) ⟨congrArg Value.bool (by simp), congrArg Value.bool h4', trivial⟩ ⟨fun wx _ => rq.run_len (ty := 3) bt.sl, trivial⟩ ?_
  intro wa hWa hSa
  have H2 := H2.pass0 hSa
  have H3 := H3.pass0 hSa
  refine drawn_ok (gt := fun _ => Option.none) [(4, .sem (.pointer (some (adr (.slice qo qn qc) 0)))), (5, .sem (bv (byteAt vl 0))), (6, .is (.int .u32 (((byteAt vl 0).toNat : Nat) : Int))), (7, .is (.int .u32 (((byteAt vl 0).toNat * 2 ^ 24 : Nat) : Int))), (9, .sem (.pointer (some (adr (.slice qo qn qc) 1)))), (10, .sem (bv (byteAt vl 1))), (11, .is (.int .u32 (((byteAt vl 1).toNat : Nat) : Int))), (12, .is (.int .u32 (((byteAt vl 1).toNat * 2 ^ 16 : Nat) : Int))), (13, .is (.int .u32 ((((byteAt vl 0).toNat * 256 + (byteAt vl 1).toNat) * 2 ^ 16 : Nat) : Int))), (15, .sem (.pointer (some (adr (.slice qo qn qc) 2)))), (16, .sem (bv (byteAt vl 2))), (17, .is (.int .u32 (((byteAt vl 2).toNat : Nat) : Int))), (18, .is (.int .u32 (((byteAt vl 2).toNat * 2 ^ 8 : Nat) : Int))), (19, .is (.int .u32 (((((byteAt vl 0).toNat * 256 + (byteAt vl 1).toNat) * 256 + (byteAt vl 2).toNat) * 2 ^ 8 : Nat) : Int))), (21, .sem (.pointer (some (adr (.slice qo qn qc) 3)))), (22, .sem (bv (byteAt vl 3))), (23, .is (.int .u32 (((byteAt vl 3).toNat : Nat) : Int))), (24, .is (.int .u32 ((be vl : Nat) : Int))), (25, .is (.bool false))] [0, 1, 9, 10, 160] [.is (.slice qo qn qc), .is (bv cc), .is (pT p9), .is (pT p10), .is (.bool false)]
    [(.int .u32 (IntKind.u32.wrap (((byteAt vl 0).toNat : Nat) : Int)), .int .u32 (((byteAt vl 0).toNat : Nat) : Int)), (.int .u32 (IntKind.u32.wrap ((((byteAt vl 0).toNat : Nat) : Int) * 2 ^ 24)), .int .u32 (((byteAt vl 0).toNat * 2 ^ 24 : Nat) : Int)), (.int .u32 (IntKind.u32.wrap (((byteAt vl 1).toNat : Nat) : Int)), .int .u32 (((byteAt vl 1).toNat : Nat) : Int)), (.int .u32 (IntKind.u32.wrap ((((byteAt vl 1).toNat : Nat) : Int) * 2 ^ 16)), .int .u32 (((byteAt vl 1).toNat * 2 ^ 16 : Nat) : Int)), (.int .u32 (bits BinOp.or IntKind.u32 (((byteAt vl 0).toNat * 2 ^ 24 : Nat) : Int) (((byteAt vl 1).toNat * 2 ^ 16 : Nat) : Int)), .int .u32 ((((byteAt vl 0).toNat * 256 + (byteAt vl 1).toNat) * 2 ^ 16 : Nat) : Int)), (.int .u32 (IntKind.u32.wrap (((byteAt vl 2).toNat : Nat) : Int)), .int .u32 (((byteAt vl 2).toNat : Nat) : Int)), (.int .u32 (IntKind.u32.wrap ((((byteAt vl 2).toNat : Nat) : Int) * 2 ^ 8)), .int .u32 (((byteAt vl 2).toNat * 2 ^ 8 : Nat) : Int)), (.int .u32 (bits BinOp.or IntKind.u32 ((((byteAt vl 0).toNat * 256 + (byteAt vl 1).toNat) * 2 ^ 16 : Nat) : Int) (((byteAt vl 2).toNat * 2 ^ 8 : Nat) : Int)), .int .u32 (((((byteAt vl 0).toNat * 256 + (byteAt vl 1).toNat) * 256 + (byteAt vl 2).toNat) * 2 ^ 8 : Nat) : Int)), (.int .u32 (IntKind.u32.wrap (((byteAt vl 3).toNat : Nat) : Int)), .int .u32 (((byteAt vl 3).toNat : Nat) : Int)), (.int .u32 (bits BinOp.or IntKind.u32 (((((byteAt vl 0).toNat * 256 + (byteAt vl 1).toNat) * 256 + (byteAt vl 2).toNat) * 2 ^ 8 : Nat) : Int) (((byteAt vl 3).toNat : Nat) : Int)), .int .u32 ((be vl : Nat) : Int)), (.bool (((be vl : Nat) : Int) != ((be vl : Nat) : Int)), .bool false)] [] [] []
    [(Instr.indexAt 22 (.slice qo qn qc) (.int .i64 0), .pointer (some (adr (.slice qo qn qc) 0))), (Instr.loadAt 5 (.pointer (some (adr (.slice qo qn qc) 0))), bv (byteAt vl 0)), (Instr.indexAt 22 (.slice qo qn qc) (.int .i64 1), .pointer (some (adr (.slice qo qn qc) 1))), (Instr.loadAt 5 (.pointer (some (adr (.slice qo qn qc) 1))), bv (byteAt vl 1)), (Instr.indexAt 22 (.slice qo qn qc) (.int .i64 2), .pointer (some (adr (.slice qo qn qc) 2))), (Instr.loadAt 5 (.pointer (some (adr (.slice qo qn qc) 2))), bv (byteAt vl 2)), (Instr.indexAt 22 (.slice qo qn qc) (.int .i64 3), .pointer (some (adr (.slice qo qn qc) 3))), (Instr.loadAt 5 (.pointer (some (adr (.slice qo qn qc) 3))), bv (byteAt vl 3))] hWa (by kernel_rfl) (by kernel_rfl)
    ⟨congrArg (Value.int .u32) (IntWalk.u32_in _ (by omega)), congrArg (Value.int .u32) ((IntWalk.u32_in _ (by omega)).trans (by omega)), congrArg (Value.int .u32) (IntWalk.u32_in _ (by omega)), congrArg (Value.int .u32) ((IntWalk.u32_in _ (by omega)).trans (by omega)), congrArg (Value.int .u32) ((orG (by omega) (by omega)).trans (by omega)), congrArg (Value.int .u32) (IntWalk.u32_in _ (by omega)), congrArg (Value.int .u32) ((IntWalk.u32_in _ (by omega)).trans (by omega)), congrArg (Value.int .u32) ((orG (by omega) (by omega)).trans (by omega)), congrArg (Value.int .u32) (IntWalk.u32_in _ (by omega)), congrArg (Value.int .u32) ((orG (by omega) (by omega)).trans (by have := hbe; omega)), congrArg Value.bool (by simp), trivial⟩ trivial trivial trivial
    ⟨fun wx _ => rq.sem_at (i := 0) (by omega) wx, fun wx k' => (rq.keep0 (hWa.keep.trans k')).sem_ld (i := 0) (by omega), fun wx _ => rq.sem_at (i := 1) (by omega) wx, fun wx k' => (rq.keep0 (hWa.keep.trans k')).sem_ld (i := 1) (by omega), fun wx _ => rq.sem_at (i := 2) (by omega) wx, fun wx k' => (rq.keep0 (hWa.keep.trans k')).sem_ld (i := 2) (by omega), fun wx _ => rq.sem_at (i := 3) (by omega) wx, fun wx k' => (rq.keep0 (hWa.keep.trans k')).sem_ld (i := 3) (by omega), trivial⟩ ?_
  intro wb vs kb hok
  obtain rfl := allOk_is (vs := [.slice qo qn qc, bv cc, pT p9, pT p10, .bool false]) hok
  refine Goal.re (tags := tagL [(9, 0), (10, 1)]) (m := ⟨dpR p9 p10 z2 z3, wb.heap.size⟩) ?_
  exact dp_end rq hvl n2 n3 t2 t3 wb (hWa.later kb) (H2.call kb) (H3.call kb)
end
end Go.Proofs.Ytpnocepepihflaa
namespace Go.Proofs.Ytpnocepepihflaa
open Go.RowKit

def codeR (c : UInt8) : UInt8 := UInt8.ofNat (1 + c.toNat % 253)
theorem codeR_nat (c : UInt8) : (codeR c).toNat = 1 + c.toNat % 253 := by
  unfold codeR
  rw [UInt8.toNat_ofNat']
  omega
/-- The options, parted or not. -/
def oeV (c : UInt8) (s : Sb) (l : List UInt8) : Oe := ⟨c, s, l⟩
abbrev s99 (n : Nat) : Sb := ⟨some ⟨n, 0, none⟩, 2, 2⟩
theorem hit_cc {cc : UInt8} (h : 1 ≤ cc.toNat ∧ cc.toNat ≤ 253) (s : Sb) (l : List UInt8) : hitE cc (oeV cc s l) = true := by
  have h0 : cc ≠ 0 := fun e => by rw [e] at h; exact absurd h.1 (by decide)
  have h1 : cc ≠ 255 := fun e => by rw [e] at h; exact absurd h.2 (by decide)
  simp [hitE, oeV, h0, h1]
theorem hit_no {cc : UInt8} (h : 1 ≤ cc.toNat ∧ cc.toNat ≤ 253) (s : Sb) (l : List UInt8) : hitE cc (oeV 254 s l) = false := by
  have h0 : ¬ (254 : UInt8) = cc := fun e => by rw [← e] at h; exact absurd h.2 (by decide)
  simp [hitE, oeV, h0]
theorem hit_53 {cc : UInt8} (s : Sb) (l : List UInt8) : hitE 53 (oeV cc s l) = decide (cc = 53) := by
  rw [Bool.eq_iff_iff]
  simp [hitE, oeV]
theorem valE_cons (c : UInt8) (e : Oe) (l : List Oe) : valE c (e :: l) = (if hitE c e then e.val else []) ++ valE c l := by
  have := valE_append c [e] l
  rw [valE_one] at this
  exact this
theorem valE_nil (c : UInt8) : valE c [] = [] := rfl
theorem isE_cons (c : UInt8) (e : Oe) (l : List Oe) : isE c (e :: l) = (hitE c e || isE c l) := by simp [isE]
section
variable {w : World} {v : Value} {bs : List UInt8} {c at_ : UInt8}
set_option maxRecDepth 8000 in
theorem dhcpparts_walk (r : Rd w v bs) : Calls Try.prog 3 #[v, bv c, bv at_] w (trQ w) := by
  have hm := mn_le_left bs.length 60
  have hm60 := mn_le_right bs.length 60
  have rq : Rd w (cutv v 0 (mn bs.length 60)) ((bs.drop 0).take (mn bs.length 60 - 0)) := r.cut (Nat.zero_le _) hm
  have lq : ((bs.drop 0).take (mn bs.length 60 - 0)).length ≤ 60 := by simp; omega
  have hcut := fun wx : World => r.sem_cutH (k := mn bs.length 60) hm wx
  obtain ⟨qo, qn, qc, hqv⟩ := rq.form
  rw [hqv] at rq hcut
  obtain ⟨vl, hvl⟩ : ∃ vl, (bs.drop 0).take (mn bs.length 60 - 0) = vl := ⟨_, rfl⟩
  rw [hvl] at rq lq
  have hc1 : Int.tmod ((c.toNat : Nat) : Int) 253 = ((c.toNat % 253 : Nat) : Int) := rem_nat c.toNat 253
  have hc2 : IntKind.u8.wrap (1 + ((c.toNat % 253 : Nat) : Int)) = (((codeR c).toNat : Nat) : Int) := by
    rw [codeR_nat, IntWalk.u8_in _ (by omega)]
    omega
  have hcb : 1 ≤ (codeR c).toNat ∧ (codeR c).toNat ≤ 253 := by rw [codeR_nat]; omega
  obtain ⟨cc, hcc⟩ : ∃ cc, codeR c = cc := ⟨_, rfl⟩
  rw [hcc] at hcb
  rw [hcc] at hc2
  have hat : IntKind.i64.wrap ((at_.toNat : Nat) : Int) = ((at_.toNat : Nat) : Int) := i64_small (by omega) (by have := at_.toNat_lt; omega)
  obtain ⟨k, hk⟩ : ∃ k, at_.toNat % (vl.length + 1) = k := ⟨_, rfl⟩
  have hkl : k ≤ vl.length := by have := Nat.mod_lt at_.toNat (show 0 < vl.length + 1 by omega); omega
  refine enter (args := [v, bv c, bv at_]) Try.func3 (by kernel_rfl) ?_
  refine go_stop (gt := fun _ => Option.none) (unroll := false) 100 [(1, 2, .sem (.int .i64 (bs.length : Int))), (1, 3, .sem (.int .i64 (mn bs.length 60 : Nat))), (1, 4, .sem (.slice qo qn qc)), (2, 1, .is (.int .u8 ((c.toNat % 253 : Nat) : Int))), (2, 2, .is (bv cc)), (3, 1, .is (.int .i64 ((at_.toNat : Nat) : Int))), (3, 3, .sem (.int .i64 (vl.length : Int))), (3, 4, .is (.int .i64 ((vl.length + 1 : Nat) : Int))), (3, 5, .is (.int .i64 (k : Int)))]
    [0, 1, 7, 8, 9] [.slice qo qn qc, bv cc, .int .i64 (k : Int), pT (w.heap.size + 1), pT (w.heap.size + 3)]
    [⟨w.heap.size, bvs [9, 9], true⟩, ⟨w.heap.size + 1, ((oeV 254 (s99 w.heap.size) [9, 9]).a false).toList, true⟩, ⟨w.heap.size + 2, csO false [oeV cc ⟨qo, qn, qc⟩ vl, oeV 254 (s99 w.heap.size) [9, 9]], true⟩, ⟨w.heap.size + 3, (m1.a (.slice (some ⟨w.heap.size + 2, 0, none⟩) 2 2) nilV).toList, true⟩] [(8, 1), (9, 3)] (atR dpC 6)
    [(.int .u8 (Int.tmod ((c.toNat : Nat) : Int) 253), .int .u8 ((c.toNat % 253 : Nat) : Int)), (.int .u8 (IntKind.u8.wrap (1 + ((c.toNat % 253 : Nat) : Int))), bv cc), (.int .i64 (IntKind.i64.wrap ((at_.toNat : Nat) : Int)), .int .i64 ((at_.toNat : Nat) : Int)), (.int .i64 (IntKind.i64.wrap ((vl.length : Int) + 1)), .int .i64 ((vl.length + 1 : Nat) : Int)), (.int .i64 (Int.tmod ((at_.toNat : Nat) : Int) ((vl.length + 1 : Nat) : Int)), .int .i64 (k : Int))]
    [(Builtin.len_ #[22] 3 #[v], .int .i64 (bs.length : Int)), (Builtin.min_ #[3, 3] 3 #[.int .i64 (bs.length : Int), .int .i64 60], .int .i64 (mn bs.length 60 : Nat)), (Instr.sliceAt 22 v Option.none (some (.int .i64 (mn bs.length 60 : Nat))) Option.none, .slice qo qn qc), (Builtin.len_ #[22] 3 #[.slice qo qn qc], .int .i64 (vl.length : Int))]
    (Wst.start0 w) (by kernel_rfl)
    ⟨congrArg (Value.int .u8) hc1, congrArg (Value.int .u8) hc2, congrArg (Value.int .i64) hat, congrArg (Value.int .i64) (by rw [i64_small (by omega) (by omega)]; omega), congrArg (Value.int .i64) (by rw [rem_nat, hk]), trivial⟩
    ⟨fun wx _ => r.run_len (ty := 3) bt.sl, fun wx _ => run_mn #[3, 3] 3 bs.length 60, fun wx _ => hcut wx, fun wx _ => rq.run_len (ty := 3) bt.sl, trivial⟩ ?_
  intro w1 hW1 _
  have c1 : Rd w (cutv (.slice qo qn qc) 0 k) (vl.take k) := by simpa using rq.cut (l := 0) (h := k) (Nat.zero_le _) hkl
  have c2 : Rd w (cutv (.slice qo qn qc) k vl.length) (vl.drop k) := by
    have := rq.cut (l := k) (h := vl.length) hkl (Nat.le_refl _)
    rwa [List.take_of_length_le (by simp)] at this
  have x1 := fun wx : World => rq.sem_cutH (k := k) hkl wx
  have x2 := fun wx : World => rq.sem_cutL (k := k) hkl wx
  obtain ⟨s1, hs1⟩ : ∃ s1 : Sb, cutv (.slice qo qn qc) 0 k = s1.v := by
    obtain ⟨a, b, d, h⟩ := c1.form
    exact ⟨⟨a, b, d⟩, h⟩
  obtain ⟨s2, hs2⟩ : ∃ s2 : Sb, cutv (.slice qo qn qc) k vl.length = s2.v := by
    obtain ⟨a, b, d, h⟩ := c2.form
    exact ⟨⟨a, b, d⟩, h⟩
  rw [hs1] at c1 x1
  rw [hs2] at c2 x2
  obtain ⟨es3, he3⟩ : ∃ es3, [oeV cc s1 (vl.take k), oeV 254 (s99 w.heap.size) [9, 9], oeV cc s2 (vl.drop k)] = es3 := ⟨_, rfl⟩
  have hl3 : es3.length = 3 := by rw [← he3]; rfl
  refine drawnM_ok (S0 := No) (gt := fun _ => Option.none) (D := (PaD w1.heap.size m1 es3 w1)) (g0 := noGh)
    [(3, .sem s1.v), (9, .sem s2.v), (11, .new (newS w1.heap.size es3)), (12, .by (msgS w1.heap.size m1 es3)), (13, .act padS), (14, .act (.is undef))] [0, 1, 9, 10] [.is (.slice qo qn qc), .is (bv cc), .is (pT (w.heap.size + 3)), padS]
    (True ∧ True ∧ True ∧ SemM Try.prog No w1 (Instr.sliceAt 22 (.slice qo qn qc) Option.none (some (.int .i64 (k : Int))) Option.none) s1.v ∧ True ∧ True ∧ True ∧ True ∧ True ∧ SemM Try.prog No w1 (Instr.sliceAt 22 (.slice qo qn qc) (some (.int .i64 (k : Int))) Option.none Option.none) s2.v ∧ True ∧
      NewM Try.prog No w1 (Instr.buildSlice 25 3 #[(0, .agg ((oeV cc s1 (vl.take k)).a false)), (1, .agg ((oeV 254 (s99 w.heap.size) [9, 9]).a false)), (2, .agg ((oeV cc s2 (vl.drop k)).a false))]) (newS w1.heap.size es3) ∧
      ByM Try.prog No w1 (.build 35 #[(0, .const (.int .u8 1)), (13, .tmp 57)]) 35 [(57, newS w1.heap.size es3)] (msgS w1.heap.size m1 es3) ∧
      ActM Try.prog No w1 (PaD w1.heap.size m1 es3 w1) 0 (.alloc 35) 0 [] padS ∧
      ActM Try.prog No w1 (PaD w1.heap.size m1 es3 w1) 1 (.store 35 (.tmp 10) (.tmp 58)) 0 [(10, padS), (58, msgS w1.heap.size m1 es3)] (.is undef) ∧ True)
    2 (afterR dpC 6) hW1 (fun _ h => h.elim) (by kernel_rfl) (by kernel_rfl) (by kernel_rfl) PaD.keep (noGh_base w1) ⟨fun h => h, fun _ h => h⟩
    ⟨trivial, trivial, trivial, fun wx _ => x1 wx, trivial, trivial, trivial, trivial, trivial, fun wx _ => x2 wx, trivial, new_opts (by simp [maxLen]) hl3 (fun nx => by subst he3; kernel_rfl), by_msg (fun o n k => by kernel_rfl), pa_alloc (fun nx => by kernel_rfl), pa_store (fun b => List.replicate 219 (b, b)) (fun b q hq => by rw [List.eq_of_mem_replicate hq]) (fun zo zn zc b nx => by kernel_rfl), trivial⟩ ?_
  intro g w2 vs k2 _ hd hok
  match vs, hok with
  | [y0, y1, y9, y10], hx =>
  obtain ⟨rfl, rfl, rfl, ⟨_, h10⟩, _⟩ : y0 = _ ∧ y1 = _ ∧ y9 = pT (w.heap.size + 3) ∧ (g.live ∧ y10 = g.val) ∧ True := hx
  obtain ⟨_, b, tb, z, hv, hp, hb0, hrow, _, ro3, si3, un3⟩ := hd
  rw [hv] at h10
  subst h10
  have hW2 := hW1.later k2
  have hn3 : w.heap.size + 3 < w1.heap.size := by obtain ⟨t, ht⟩ := hW1.rows ⟨w.heap.size + 3, (m1.a (.slice (some ⟨w.heap.size + 2, 0, none⟩) 2 2) nilV).toList, true⟩ (by simp); exact block_of_row ht
  have h12 := k2.size
  have hWs : Wst w ⟨[⟨w.heap.size + 3, (m1.a (.slice (some ⟨w.heap.size + 2, 0, none⟩) 2 2) nilV).toList, true⟩], w2.heap.size⟩ w2 := ⟨rfl, fun r hr => hW2.rows r (by obtain rfl := List.mem_singleton.1 hr; simp), by simp, fun r hr ho => hW2.own r (by obtain rfl := List.mem_singleton.1 hr; simp) ho, hW2.keep⟩
  have hWp : Wst w ⟨dpR (w.heap.size + 3) b ⟨some ⟨w.heap.size + 2, 0, none⟩, 2, 2⟩ z, w2.heap.size⟩ w2 := hWs.addRow hrow (by omega) (fun r hr => by obtain rfl := List.mem_singleton.1 hr; show w.heap.size + 3 ≠ b; omega)
  have sf : ∀ i, i < w2.heap.size → i ≠ w.heap.size + 3 → i ≠ b → Safe ⟨dpR (w.heap.size + 3) b ⟨some ⟨w.heap.size + 2, 0, none⟩, 2, 2⟩ z, w2.heap.size⟩ i := fun i h1 h2 h3 => ⟨h1, fun r hr _ => by
    simp only [List.mem_cons, List.not_mem_nil, or_false] at hr
    rcases hr with rfl | rfl
    · exact fun e => h2 (Eq.symm e)
    · exact fun e => h3 (Eq.symm e)⟩
  obtain ⟨t0, r0⟩ := hW2.rows ⟨w.heap.size, bvs [9, 9], true⟩ (by simp)
  obtain ⟨t2, r2⟩ := hW2.rows ⟨w.heap.size + 2, csO false [oeV cc ⟨qo, qn, qc⟩ vl, oeV 254 (s99 w.heap.size) [9, 9]], true⟩ (by simp)
  have x99 : Hx (dpR (w.heap.size + 3) b ⟨some ⟨w.heap.size + 2, 0, none⟩, 2, 2⟩ z) w2 (s99 w.heap.size).v [9, 9] := ⟨Rd.of_row (bs := [9, 9]) (cs := bvs [9, 9]) (ow := true) hW2 (by simp) 2 rfl (by simp [maxLen]) (fun i hi => by rw [Nat.zero_add]; exact bvs_get hi), fun i hi _ => by
    obtain rfl : w.heap.size = i := Option.some.inj hi
    exact sf _ (by omega) (by omega) (by omega)⟩
  have H2 : HxO false (dpR (w.heap.size + 3) b ⟨some ⟨w.heap.size + 2, 0, none⟩, 2, 2⟩ z) w2 (.slice (some ⟨w.heap.size + 2, 0, none⟩) 2 2) [oeV cc ⟨qo, qn, qc⟩ vl, oeV 254 (s99 w.heap.size) [9, 9]] := ⟨Ro.of_row (l := [oeV cc ⟨qo, qn, qc⟩ vl, oeV 254 (s99 w.heap.size) [9, 9]]) r2 rfl (by simp [maxLen]), fun i hi _ => by
    obtain rfl : w.heap.size + 2 = i := Option.some.inj hi
    exact sf _ (by omega) (by omega) (by omega), fun e he => by
    simp only [List.mem_cons, List.not_mem_nil, or_false] at he
    rcases he with rfl | rfl
    · exact rq.hx hWp
    · exact x99⟩
  have H3 : HxO false (dpR (w.heap.size + 3) b ⟨some ⟨w.heap.size + 2, 0, none⟩, 2, 2⟩ z) w2 z.v es3 := ⟨ro3, fun i hi _ => by
    have h1 := un3 i hi
    have h2 := si3 i hi
    exact sf _ h1.1 (by omega) (fun e => h1.2 (by rw [hp]; exact e)), fun e he => by
    rw [← he3] at he
    simp only [List.mem_cons, List.not_mem_nil, or_false] at he
    rcases he with rfl | rfl | rfl
    · exact c1.hx hWp
    · exact x99
    · exact c2.hx hWp⟩
  have f1 := fun s l => hit_cc hcb s l
  have f2 := fun s l => hit_no hcb s l
  have h99 : ∀ s l, hitE 53 (oeV 254 s l) = false := fun s l => by rw [hit_53]; decide
  refine Goal.re (tags := tagL [(9, 0), (10, 1)]) (m := ⟨dpR (w.heap.size + 3) b ⟨some ⟨w.heap.size + 2, 0, none⟩, 2, 2⟩ z, w2.heap.size⟩) ?_
  refine dp_mid rq lq (by simp) (by omega) ?_ ?_ ?_ ?_ ?_ ?_ w2 hWp H2 H3
  · rw [valE_cons, valE_cons, valE_nil, f1, f2]
    simp [oeV]
  · rw [← he3, valE_cons, valE_cons, valE_cons, valE_nil, f1, f2, f1]
    simp [oeV]
  · rw [isE_cons, f1]
    rfl
  · rw [← he3, isE_cons, f1]
    rfl
  · rw [valE_cons, valE_cons, valE_nil, hit_53, h99]
    by_cases h : cc = 53 <;> simp [h, oeV]
  · rw [← he3, valE_cons, valE_cons, valE_cons, valE_nil, hit_53, h99, hit_53]
    by_cases h : cc = 53 <;> simp [h, oeV]
end
end Go.Proofs.Ytpnocepepihflaa
namespace Go.Proofs.Ytpnocepepihflaa.lawDhcpParts
open Go.ChangeShapes Go.WideShapes Go.ChangeAt Go.RowKit

set_option maxRecDepth 100000 in
theorem lifted (os : Os) (started : os.Started) (H : Type) (enc : TypeId × Value → H) :
    ReturnsInHanded {} Try.checked os 3 .any (Rows.dhcpPartsSpec.pre6 enc Try.prog Try.f3 Rows.dhcpPartsRow.domain false) (Rows.dhcpPartsSpec.post enc Try.prog Try.f3 false true false false) := by
  refine returnsInHanded_of_change (C := Try.checked) own started (by kernel_rfl) Try.func3
    (ChangeSpec.witness6 (enc := enc) (C := Try.checked) false ⟨#[], #[.slice none 0 0, .int .u8 0, .int .u8 0], []⟩ 8 (by kernel_rfl) (by kernel_rfl) (by kernel_rfl) (by kernel_rfl)) ?_
  intro W base args ds gs before hval0 hW _ _
  have hval : ∀ (j : Nat) t v, Try.f3.params[j]? = some t → args[j]? = some v → Value.okWide Try.prog W .any base t v := hval0
  have hW' := hW
  obtain ⟨p, q, hA0, hV, rfl, _, _⟩ := hW
  have hA : DataW.TrodAll enc Try.prog W 0 (fun _ => true) true Try.f3.params.toList args.toList ds p := hA0
  rw [Try.params3] at hA hval
  obtain ⟨v0, vs0, d0, ds0, p0, q0, hargs, rfl, rfl, h0, r0⟩ := trodAll_cons hA
  obtain ⟨v1, vs1, d1, ds1, p1, q1, rfl, rfl, rfl, h1, r1⟩ := trodAll_cons r0
  obtain ⟨v2, vs2, d2, ds2, p2, q2, rfl, rfl, rfl, h2, r2⟩ := trodAll_cons r1
  obtain ⟨rfl, rfl, rfl⟩ := trodAll_nil r2
  obtain rfl : args = #[v0, v1, v2] := by cases args; simp_all
  obtain ⟨rfl, rfl⟩ := trodVars_none hV
  obtain ⟨a0, len0, cap0, rfl⟩ := okWide_slice Try.underlying22 (hval 0 22 v0 rfl rfl)
  have k0 := h0
  have lt0 : ∀ x ∈ p0, x.block < W.heap.size := by obtain ⟨m, hm⟩ := k0; exact DataW.trod_lt m _ _ _ hm
  obtain ⟨bs0, w0, _⟩ := open_bytes Try.underlying22 rfl h0.choose_spec
  obtain ⟨a1, rfl, rfl, rfl, w1⟩ := open_int Try.underlying5 (hval 1 5 v1 rfl rfl) h1
  obtain ⟨a2, rfl, rfl, rfl, w2⟩ := open_int Try.underlying5 (hval 2 5 v2 rfl rfl) h2
  clear hA0 hval0
  obtain ⟨x1, ex1⟩ : ∃ x : UInt8, Value.int .u8 a1 = bv x := ⟨UInt8.ofNat a1.toNat, by rw [bv, byte_of_int (wf_u8 w1)]⟩
  obtain ⟨x2, ex2⟩ : ∃ x : UInt8, Value.int .u8 a2 = bv x := ⟨UInt8.ofNat a2.toNat, by rw [bv, byte_of_int (wf_u8 w2)]⟩
  have hw := dhcpparts_walk (c := x1) (at_ := x2) w0
  rw [← ex1, ← ex2] at hw
  refine hw.mono fun e W' ⟨he, bel0⟩ => ?_
  have bel := bel0.to_below
  subst he
  exact ⟨_, rfl, _, _, _, [], _, [], hW', trodAll_mk1 (shut_bool Try.underlying4 _), (trodAll_cons_mk (Below.trod laidOut (by kernel_rfl) (of_decide_eq_true (by kernel_rfl)) k0 bel lt0) (trodAll_cons_mk (shut_int Try.underlying5 w1) (trodAll_cons_mk (shut_int Try.underlying5 w2) trodAll_mk0))), rfl, bel.frame _, fun h => by cases h⟩

theorem over : Rows.dhcpPartsRow.holds Try.pinned (OpenSpec.ofChange Rows.dhcpPartsSpec) :=
  OpenClaim.holds_of_wide 3 Try.f3 rfl rfl rfl rfl rfl rfl rfl ⟨rfl, rfl, rfl, rfl, rfl⟩ rfl rfl rfl rfl rfl (by kernel_rfl) Try.func3 (by kernel_rfl)
    (of_decide_eq_true (by kernel_rfl)) (by unfold Func.isWrapper; first | (rw [if_pos (by decide +kernel)]; kernel_rfl) | (rw [if_neg (by decide +kernel)]; exact ⟨rfl, rfl⟩))
    (fun os started H enc _ => lifted os started H enc)

theorem proved : Rows.DhcpPartsSaid := over
end Go.Proofs.Ytpnocepepihflaa.lawDhcpParts
