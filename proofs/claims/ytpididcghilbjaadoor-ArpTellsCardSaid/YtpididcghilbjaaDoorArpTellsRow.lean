/-
  ArpTells: for every input the call returns true and each argument reads afterwards as before. The listed variable is as the program's text lays it.
-/
import Derived.Test.YtpididcghilbjaaDoorArpLaid
import Derived.Test.YtpididcghilbjaaDoorArpTells
import Derived.Test.YtpididcghilbjaaDoorCards
namespace Go.Proofs.YtpididcghilbjaaDoor.lawArpTells
open Go.ChangeShapes Go.WideShapes Go.ChangeAt Go.RowKit

theorem nat16 {n : Int} (h : (Lit.int .u16 n).wf = true) : ∃ k : Nat, n = k ∧ k < 65536 := by
  have h' : IntKind.u16.min ≤ n ∧ n ≤ IntKind.u16.max := by simpa [Lit.wf] using h
  rw [show IntKind.u16.min = 0 from rfl, show IntKind.u16.max = 65535 from rfl] at h'
  exact ⟨n.toNat, by omega, by omega⟩
theorem nat32 {n : Int} (h : (Lit.int .u32 n).wf = true) : ∃ k : Nat, n = k ∧ k < 4294967296 := by
  have h' : IntKind.u32.min ≤ n ∧ n ≤ IntKind.u32.max := by simpa [Lit.wf] using h
  rw [show IntKind.u32.min = 0 from rfl, show IntKind.u32.max = 4294967295 from rfl] at h'
  exact ⟨n.toNat, by omega, by omega⟩
theorem walk (w : World) (op fi ti : Int) (f t m : List UInt8) (ho : (Lit.int .u16 op).wf = true) (hf : (Lit.int .u32 fi).wf = true) (ht : (Lit.int .u32 ti).wf = true) (ha : Ah w) :
    Calls Tryd.prog 6 #[.agg (pkA op fi ti f t), .agg (macV m)] w fun x w' => x = .returned (.bool true) ∧ Keep No w w' := by
  obtain ⟨op', rfl, ho'⟩ := nat16 ho
  obtain ⟨fi', rfl, hf'⟩ := nat32 hf
  obtain ⟨ti', rfl, ht'⟩ := nat32 ht
  by_cases h : (op' : Int) = 1
  · exact arptells_walk (rop := 2) (rfi := ti') (rti := fi') (rf := m) (rt := f) ho' hf' ht' (by decide) (by decide) (by rw [replyV, if_pos h]) rfl (by rw [if_pos h]) ha
  · exact arptells_walk (rop := 0) (rfi := 0) (rti := 0) (rf := []) (rt := []) ho' hf' ht' (by decide) (by decide) (by rw [replyV, if_neg h]) rfl (by rw [if_neg h]) ha
set_option maxRecDepth 100000 in
theorem lifted (os : Os) (started : os.Started) (H : Type) (enc : TypeId × Value → H) :
    ReturnsInHanded {} Tryd.checked os 6 .any (fun w args => (Rows.arpTellsSpec.pre enc Tryd.prog Tryd.f6 Rows.arpTellsRow.domain false w args ∧ laidMetH Tryd.prog Rows.arpTellsRow.laid w) ∧ sizedMet enc Tryd.prog Tryd.f6 (OpenSpec.ofChange Rows.arpTellsSpec) false w args)
      (Rows.arpTellsSpec.post enc Tryd.prog Tryd.f6 false true false false) := by
  refine returnsInHanded_of_change_and (C := Tryd.checked) (X := fun w _ => laidMetH Tryd.prog Rows.arpTellsRow.laid w) (fun _ _ _ hh h => h.of_heap hh) own started (by kernel_rfl) Tryd.func6
    (ChangeSpec.witness_shaped (enc := enc) (C := Tryd.checked) (os := os) (X := fun w _ => laidMetH Tryd.prog Rows.arpTellsRow.laid w) false (World.laidAll Tryd.prog os Rows.arpTellsRow.laid) #[.agg (pkA 0 0 0 [] []), .agg (macV [])] 8 (World.laidAll_os _ _ _)
      (World.shaped_of_ZipB (by kernel_rfl) (by kernel_rfl)) (by kernel_rfl) (by kernel_rfl) (by kernel_rfl)
      (by rw [MakeChecks.laidMetH_plain _ _ _ (by kernel_rfl)]; exact laidMet_laidAll _ (by kernel_rfl) (by kernel_rfl))) ?_
  intro W base args ds gs before hval0 hW _ _ hL _
  have hval : ∀ (j : Nat) t v, Tryd.f6.params[j]? = some t → args[j]? = some v → Value.okWide Tryd.prog W .any base t v := hval0
  have hW' := hW
  obtain ⟨p, q, hA0, hV, rfl, _, _⟩ := hW
  have hA : DataW.TrodAll enc Tryd.prog W 0 (fun _ => true) true Tryd.f6.params.toList args.toList ds p := hA0
  rw [Tryd.params6] at hA hval
  obtain ⟨v0, vs0, d0, ds0, p0, q0, hargs, rfl, rfl, h0, t0⟩ := trodAll_cons hA
  obtain ⟨v1, vs1, d1, ds1, p1, q1, rfl, rfl, rfl, h1, t1⟩ := trodAll_cons t0
  obtain ⟨rfl, rfl, rfl⟩ := trodAll_nil t1
  obtain rfl : args = #[v0, v1] := by cases args; simp_all
  obtain ⟨rfl, rfl⟩ := trodVars_none hV
  obtain ⟨c0, rfl, s0⟩ := okWide_row Tryd.underlying28 rfl (hval 0 28 v0 rfl rfl)
  have k0 := h0
  have lt0 : ∀ x ∈ p0, x.block < W.heap.size := by obtain ⟨m, hm⟩ := k0; exact DataW.trod_lt m _ _ _ hm
  obtain ⟨op0, fi0, ti0, fl0, tl0, rfl, wo0, wf0, wt0, lf0, ll0⟩ := open_pk s0 h0.choose_spec
  obtain ⟨c1, rfl, s1⟩ := okWide_row Tryd.underlying24 rfl (hval 1 24 v1 rfl rfl)
  have k1 := h1
  have lt1 : ∀ x ∈ p1, x.block < W.heap.size := by obtain ⟨m, hm⟩ := k1; exact DataW.trod_lt m _ _ _ hm
  obtain ⟨ml1, rfl, lm1⟩ := open_mac s1 h1.choose_spec
  clear hA0 hval0
  refine (walk W op0 fi0 ti0 fl0 tl0 ml1 wo0 wf0 wt0 (ah_of_laid hL)).mono fun e W' ⟨he, bel0⟩ => ?_
  have bel := bel0.to_below
  subst he
  exact ⟨_, rfl, _, _, _, [], _, [], hW', trodAll_mk1 (shut_bool Tryd.underlying4 _), (trodAll_cons_mk (Below.trod laidOut (by kernel_rfl) (of_decide_eq_true (by kernel_rfl)) k0 bel lt0) (trodAll_cons_mk (Below.trod laidOut (by kernel_rfl) (of_decide_eq_true (by kernel_rfl)) k1 bel lt1) trodAll_mk0)), rfl, bel.frame _, fun h => by cases h⟩

theorem over : Rows.arpTellsRow.holds Tryd.pinned (OpenSpec.ofChange Rows.arpTellsSpec) :=
  OpenClaim.holds_of_wide 6 Tryd.f6 rfl rfl rfl rfl rfl rfl rfl ⟨rfl, rfl, rfl, rfl, rfl⟩ rfl rfl rfl rfl rfl (by kernel_rfl) Tryd.func6 (by kernel_rfl)
    (of_decide_eq_true (by kernel_rfl)) (by unfold Func.isWrapper; first | (rw [if_pos (by decide +kernel)]; kernel_rfl) | (rw [if_neg (by decide +kernel)]; exact ⟨rfl, rfl⟩))
    (fun os started H enc _ => lifted os started H enc)

theorem proved : Rows.ArpTellsCardSaid :=
  Claim7.holds_tied_plain_at .later [] [.widerDeep] true (true, "3cafa6bf60a238c94753d734b1f255655cf6316adb085df0e926c7396fecf194") false over (fun _ h => by cases h) (by kernel_rfl) (fun _ h => by cases h) arpTells_row_tie rfl ⟨rfl, rfl⟩ (by kernel_rfl) rfl
    (fun f fn hf hfn => by
      obtain rfl : f = 6 := Option.some.inj ((show Tryd.prog.funcNamed "toll/tolllaw05.ArpTells" = some 6 by kernel_rfl).symm.trans hf) |>.symm
      obtain rfl : fn = Tryd.f6 := (Option.some.inj (Tryd.func6.symm.trans hfn)).symm
      exact ⟨by kernel_rfl, fun j t ht => by
        rw [Tryd.params6] at ht
        have hm : t ∈ [28, 24] := by simpa using Array.mem_of_getElem? ht
        have hall : ([28, 24].all fun u => !Tryd.prog.wantsStandIn u) = true := by kernel_rfl
        exact (show Tryd.prog.wantsStandIn t = false by simpa using List.all_eq_true.1 hall t hm)⟩)
    (by kernel_rfl)
end Go.Proofs.YtpididcghilbjaaDoor.lawArpTells
