/-
  ArpBack: for every input the call returns true and each argument reads afterwards as before. The listed variable is as the program's text lays it.
-/
import Derived.Test.YtpididcghilbjaaDoorArpLaid
import Derived.Test.YtpididcghilbjaaDoorArpBack
import Derived.Test.YtpididcghilbjaaDoorCards
namespace Go.Proofs.YtpididcghilbjaaDoor.lawArpBack
open Go.ChangeShapes Go.WideShapes Go.ChangeAt Go.RowKit

theorem nat16 {n : Int} (h : (Lit.int .u16 n).wf = true) : ∃ k : Nat, n = k ∧ k < 65536 := by
  have h' : IntKind.u16.min ≤ n ∧ n ≤ IntKind.u16.max := by simpa [Lit.wf] using h
  rw [show IntKind.u16.min = 0 from rfl, show IntKind.u16.max = 65535 from rfl] at h'
  exact ⟨n.toNat, by omega, by omega⟩
theorem nat32 {n : Int} (h : (Lit.int .u32 n).wf = true) : ∃ k : Nat, n = k ∧ k < 4294967296 := by
  have h' : IntKind.u32.min ≤ n ∧ n ≤ IntKind.u32.max := by simpa [Lit.wf] using h
  rw [show IntKind.u32.min = 0 from rfl, show IntKind.u32.max = 4294967295 from rfl] at h'
  exact ⟨n.toNat, by omega, by omega⟩
theorem walk (w : World) (op fi ti : Int) (f t : List UInt8) {v : Value} {bs : List UInt8} (r : Rd w v bs) (ho : (Lit.int .u16 op).wf = true) (hf : (Lit.int .u32 fi).wf = true) (ht : (Lit.int .u32 ti).wf = true) (ha : Ah w) :
    Calls Tryd.prog 5 #[.agg (pkA op fi ti f t), v] w fun x w' => x = .returned (.bool true) ∧ Keep No w w' := by
  obtain ⟨op', rfl, _⟩ := nat16 ho
  obtain ⟨fi', rfl, hf'⟩ := nat32 hf
  obtain ⟨ti', rfl, ht'⟩ := nat32 ht
  have e : Int.tmod (op' : Int) 2 = ((op' % 2 : Nat) : Int) := rem_nat op' 2
  have h2 : op' % 2 = 0 ∨ op' % 2 = 1 := by omega
  rcases h2 with h | h
  · exact arpback_walk (q := 1) r (.inl rfl) (by rw [e, h]; decide) hf' ht' ha
  · exact arpback_walk (q := 2) r (.inr rfl) (by rw [e, h]; decide) hf' ht' ha
set_option maxRecDepth 100000 in
theorem lifted (os : Os) (started : os.Started) (H : Type) (enc : TypeId × Value → H) :
    ReturnsInHanded {} Tryd.checked os 5 .any (fun w args => (Rows.arpBackSpec.pre enc Tryd.prog Tryd.f5 Rows.arpBackRow.domain false w args ∧ laidMetH Tryd.prog Rows.arpBackRow.laid w) ∧ sizedMet enc Tryd.prog Tryd.f5 (OpenSpec.ofChange Rows.arpBackSpec) false w args)
      (Rows.arpBackSpec.post enc Tryd.prog Tryd.f5 false true false false) := by
  refine returnsInHanded_of_change_and (C := Tryd.checked) (X := fun w _ => laidMetH Tryd.prog Rows.arpBackRow.laid w) (fun _ _ _ hh h => h.of_heap hh) own started (by kernel_rfl) Tryd.func5
    (ChangeSpec.witness_shaped (enc := enc) (C := Tryd.checked) (os := os) (X := fun w _ => laidMetH Tryd.prog Rows.arpBackRow.laid w) false (World.laidAll Tryd.prog os Rows.arpBackRow.laid) #[.agg (pkA 0 0 0 [] []), .slice none 0 0] 8 (World.laidAll_os _ _ _)
      (World.shaped_of_ZipB (by kernel_rfl) (by kernel_rfl)) (by kernel_rfl) (by kernel_rfl) (by kernel_rfl)
      (by rw [MakeChecks.laidMetH_plain _ _ _ (by kernel_rfl)]; exact laidMet_laidAll _ (by kernel_rfl) (by kernel_rfl))) ?_
  intro W base args ds gs before hval0 hW _ _ hL _
  have hval : ∀ (j : Nat) t v, Tryd.f5.params[j]? = some t → args[j]? = some v → Value.okWide Tryd.prog W .any base t v := hval0
  have hW' := hW
  obtain ⟨p, q, hA0, hV, rfl, _, _⟩ := hW
  have hA : DataW.TrodAll enc Tryd.prog W 0 (fun _ => true) true Tryd.f5.params.toList args.toList ds p := hA0
  rw [Tryd.params5] at hA hval
  obtain ⟨v0, vs0, d0, ds0, p0, q0, hargs, rfl, rfl, h0, t0⟩ := trodAll_cons hA
  obtain ⟨v1, vs1, d1, ds1, p1, q1, rfl, rfl, rfl, h1, t1⟩ := trodAll_cons t0
  obtain ⟨rfl, rfl, rfl⟩ := trodAll_nil t1
  obtain rfl : args = #[v0, v1] := by cases args; simp_all
  obtain ⟨rfl, rfl⟩ := trodVars_none hV
  obtain ⟨c0, rfl, s0⟩ := okWide_row Tryd.underlying28 rfl (hval 0 28 v0 rfl rfl)
  have k0 := h0
  have lt0 : ∀ x ∈ p0, x.block < W.heap.size := by obtain ⟨m, hm⟩ := k0; exact DataW.trod_lt m _ _ _ hm
  obtain ⟨op0, fi0, ti0, fl0, tl0, rfl, wo0, wf0, wt0, lf0, ll0⟩ := open_pk s0 h0.choose_spec
  obtain ⟨a1, len1, cap1, rfl⟩ := okWide_slice Tryd.underlying33 (hval 1 33 v1 rfl rfl)
  have k1 := h1
  have lt1 : ∀ x ∈ p1, x.block < W.heap.size := by obtain ⟨m, hm⟩ := k1; exact DataW.trod_lt m _ _ _ hm
  obtain ⟨bs1, r1, _⟩ := open_bytes Tryd.underlying33 rfl h1.choose_spec
  clear hA0 hval0
  refine (walk W op0 fi0 ti0 fl0 tl0 r1 wo0 wf0 wt0 (ah_of_laid hL)).mono fun e W' ⟨he, bel0⟩ => ?_
  have bel := bel0.to_below
  subst he
  exact ⟨_, rfl, _, _, _, [], _, [], hW', trodAll_mk1 (shut_bool Tryd.underlying4 _), (trodAll_cons_mk (Below.trod laidOut (by kernel_rfl) (of_decide_eq_true (by kernel_rfl)) k0 bel lt0) (trodAll_cons_mk (Below.trod laidOut (by kernel_rfl) (of_decide_eq_true (by kernel_rfl)) k1 bel lt1) trodAll_mk0)), rfl, bel.frame _, fun h => by cases h⟩

theorem over : Rows.arpBackRow.holds Tryd.pinned (OpenSpec.ofChange Rows.arpBackSpec) :=
  OpenClaim.holds_of_wide 5 Tryd.f5 rfl rfl rfl rfl rfl rfl rfl ⟨rfl, rfl, rfl, rfl, rfl⟩ rfl rfl rfl rfl rfl (by kernel_rfl) Tryd.func5 (by kernel_rfl)
    (of_decide_eq_true (by kernel_rfl)) (by unfold Func.isWrapper; first | (rw [if_pos (by decide +kernel)]; kernel_rfl) | (rw [if_neg (by decide +kernel)]; exact ⟨rfl, rfl⟩))
    (fun os started H enc _ => lifted os started H enc)

theorem proved : Rows.ArpBackCardSaid :=
  Claim7.holds_tied_plain_at .later [] [.widerDeep] true (true, "3cafa6bf60a238c94753d734b1f255655cf6316adb085df0e926c7396fecf194") false over (fun _ h => by cases h) (by kernel_rfl) (fun _ h => by cases h) arpBack_row_tie rfl ⟨rfl, rfl⟩ (by kernel_rfl) rfl
    (fun f fn hf hfn => by
      obtain rfl : f = 5 := Option.some.inj ((show Tryd.prog.funcNamed "toll/tolllaw05.ArpBack" = some 5 by kernel_rfl).symm.trans hf) |>.symm
      obtain rfl : fn = Tryd.f5 := (Option.some.inj (Tryd.func5.symm.trans hfn)).symm
      exact ⟨by kernel_rfl, fun j t ht => by
        rw [Tryd.params5] at ht
        have hm : t ∈ [28, 33] := by simpa using Array.mem_of_getElem? ht
        have hall : ([28, 33].all fun u => !Tryd.prog.wantsStandIn u) = true := by kernel_rfl
        exact (show Tryd.prog.wantsStandIn t = false by simpa using List.all_eq_true.1 hall t hm)⟩)
    (by kernel_rfl)
end Go.Proofs.YtpididcghilbjaaDoor.lawArpBack
