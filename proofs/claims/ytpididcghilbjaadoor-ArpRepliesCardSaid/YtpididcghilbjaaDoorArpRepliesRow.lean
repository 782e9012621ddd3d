/-
  ArpReplies: for every input the call returns true and each argument reads afterwards as before. The listed variable is as the program's text lays it.
-/
import Derived.Test.YtpididcghilbjaaDoorArpLaid
import Derived.Test.YtpididcghilbjaaDoorArpReplies
import Derived.Test.YtpididcghilbjaaDoorCards
namespace Go.Proofs.YtpididcghilbjaaDoor.lawArpReplies
open Go.ChangeShapes Go.WideShapes Go.ChangeAt Go.RowKit

theorem walk (w : World) (op fi ti : Int) (f t m : List UInt8) (ha : Ah w) :
    Calls Tryd.prog 3 #[.agg (pkA op fi ti f t), .agg (macV m)] w fun x w' => x = .returned (.bool true) ∧ Keep No w w' := by
  by_cases h : op = 1
  · subst h
    refine arpreplies_yes w fi ti f t m _ _ rfl rfl ?_ ha
    intro h0
    have : fi = 0 := by simpa using h0
    subst this
    simp [itselfR]
  · exact arpreplies_no w op fi ti f t m h ha

set_option maxRecDepth 100000 in
theorem lifted (os : Os) (started : os.Started) (H : Type) (enc : TypeId × Value → H) :
    ReturnsInHanded {} Tryd.checked os 3 .any (fun w args => (Rows.arpRepliesSpec.pre enc Tryd.prog Tryd.f3 Rows.arpRepliesRow.domain false w args ∧ laidMetH Tryd.prog Rows.arpRepliesRow.laid w) ∧ sizedMet enc Tryd.prog Tryd.f3 (OpenSpec.ofChange Rows.arpRepliesSpec) false w args)
      (Rows.arpRepliesSpec.post enc Tryd.prog Tryd.f3 false true false false) := by
  refine returnsInHanded_of_change_and (C := Tryd.checked) (X := fun w _ => laidMetH Tryd.prog Rows.arpRepliesRow.laid w) (fun _ _ _ hh h => h.of_heap hh) own started (by kernel_rfl) Tryd.func3
    (ChangeSpec.witness_shaped (enc := enc) (C := Tryd.checked) (os := os) (X := fun w _ => laidMetH Tryd.prog Rows.arpRepliesRow.laid w) false (World.laidAll Tryd.prog os Rows.arpRepliesRow.laid) #[.agg (pkA 0 0 0 [] []), .agg (macV [])] 8 (World.laidAll_os _ _ _)
      (World.shaped_of_ZipB (by kernel_rfl) (by kernel_rfl)) (by kernel_rfl) (by kernel_rfl) (by kernel_rfl)
      (by rw [MakeChecks.laidMetH_plain _ _ _ (by kernel_rfl)]; exact laidMet_laidAll _ (by kernel_rfl) (by kernel_rfl))) ?_
  intro W base args ds gs before hval0 hW _ _ hL _
  have hval : ∀ (j : Nat) t v, Tryd.f3.params[j]? = some t → args[j]? = some v → Value.okWide Tryd.prog W .any base t v := hval0
  have hW' := hW
  obtain ⟨p, q, hA0, hV, rfl, _, _⟩ := hW
  have hA : DataW.TrodAll enc Tryd.prog W 0 (fun _ => true) true Tryd.f3.params.toList args.toList ds p := hA0
  rw [Tryd.params3] at hA hval
  obtain ⟨v0, vs0, d0, ds0, p0, q0, hargs, rfl, rfl, h0, r0⟩ := trodAll_cons hA
  obtain ⟨v1, vs1, d1, ds1, p1, q1, rfl, rfl, rfl, h1, r1⟩ := trodAll_cons r0
  obtain ⟨rfl, rfl, rfl⟩ := trodAll_nil r1
  obtain rfl : args = #[v0, v1] := by cases args; simp_all
  obtain ⟨rfl, rfl⟩ := trodVars_none hV
  obtain ⟨c0, rfl, s0⟩ := okWide_row Tryd.underlying28 rfl (hval 0 28 v0 rfl rfl)
  have k0 := h0
  have lt0 : ∀ x ∈ p0, x.block < W.heap.size := by obtain ⟨m, hm⟩ := k0; exact DataW.trod_lt m _ _ _ hm
  obtain ⟨op, fi, ti, fl, tl, rfl, _⟩ := open_pk s0 h0.choose_spec
  obtain ⟨c1, rfl, s1⟩ := okWide_row Tryd.underlying24 rfl (hval 1 24 v1 rfl rfl)
  have k1 := h1
  have lt1 : ∀ x ∈ p1, x.block < W.heap.size := by obtain ⟨m, hm⟩ := k1; exact DataW.trod_lt m _ _ _ hm
  obtain ⟨ml, rfl, _⟩ := open_mac s1 h1.choose_spec
  clear hA0 hval0
  refine (walk W op fi ti fl tl ml (ah_of_laid hL)).mono fun e W' ⟨he, bel0⟩ => ?_
  have bel := bel0.to_below
  subst he
  exact ⟨_, rfl, _, _, _, [], _, [], hW', trodAll_mk1 (shut_bool Tryd.underlying4 _), (trodAll_cons_mk (Below.trod laidOut (by kernel_rfl) (of_decide_eq_true (by kernel_rfl)) k0 bel lt0) (trodAll_cons_mk (Below.trod laidOut (by kernel_rfl) (of_decide_eq_true (by kernel_rfl)) k1 bel lt1) trodAll_mk0)), rfl, bel.frame _, fun h => by cases h⟩

theorem over : Rows.arpRepliesRow.holds Tryd.pinned (OpenSpec.ofChange Rows.arpRepliesSpec) :=
  OpenClaim.holds_of_wide 3 Tryd.f3 rfl rfl rfl rfl rfl rfl rfl ⟨rfl, rfl, rfl, rfl, rfl⟩ rfl rfl rfl rfl rfl (by kernel_rfl) Tryd.func3 (by kernel_rfl)
    (of_decide_eq_true (by kernel_rfl)) (by unfold Func.isWrapper; first | (rw [if_pos (by decide +kernel)]; kernel_rfl) | (rw [if_neg (by decide +kernel)]; exact ⟨rfl, rfl⟩))
    (fun os started H enc _ => lifted os started H enc)

theorem proved : Rows.ArpRepliesCardSaid :=
  Claim7.holds_tied_plain_at .later [] [.widerDeep] true (true, "3cafa6bf60a238c94753d734b1f255655cf6316adb085df0e926c7396fecf194") false over (fun _ h => by cases h) (by kernel_rfl) (fun _ h => by cases h) arpReplies_row_tie rfl ⟨rfl, rfl⟩ (by kernel_rfl) rfl
    (fun f fn hf hfn => by
      obtain rfl : f = 3 := Option.some.inj ((show Tryd.prog.funcNamed "toll/tolllaw05.ArpReplies" = some 3 by kernel_rfl).symm.trans hf) |>.symm
      obtain rfl : fn = Tryd.f3 := (Option.some.inj (Tryd.func3.symm.trans hfn)).symm
      exact ⟨by kernel_rfl, fun j t ht => by
        rw [Tryd.params3] at ht
        have hm : t ∈ [28, 24] := by simpa using Array.mem_of_getElem? ht
        have hall : ([28, 24].all fun u => !Tryd.prog.wantsStandIn u) = true := by kernel_rfl
        exact (show Tryd.prog.wantsStandIn t = false by simpa using List.all_eq_true.1 hall t hm)⟩)
    (by kernel_rfl)
end Go.Proofs.YtpididcghilbjaaDoor.lawArpReplies
