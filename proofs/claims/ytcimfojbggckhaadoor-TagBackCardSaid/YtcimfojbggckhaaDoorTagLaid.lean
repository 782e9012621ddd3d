/-
  tag: the laid kinds as the walks want them. No condition.
-/
import Derived.Test.YtcimfojbggckhaaDoorLeaf
import Derived.Test.YtcimfojbggckhaaDoorTagMay
import Derived.Test.YtcimfojbggckhaaDoorTie
import Derived.LaidMore
import Derived.Lay
import Derived.SevenTiedAt
import Derived.Stop.Joined
namespace Go.Proofs.YtcimfojbggckhaaDoor
open Go.RowKit Go.ChangeShapes Go.WideShapes Go.ChangeAt

theorem lits_inj {H : Type} {k : IntKind} : ∀ {a b : List Int}, (lits k a : List (DataW H)) = lits k b → a = b
  | [], [], _ => rfl
  | [], _ :: _, h => by simp [lits] at h
  | _ :: _, [], h => by simp [lits] at h
  | x :: a, y :: b, h => by
    simp only [lits, List.map_cons, List.cons.injEq] at h
    obtain ⟨h1, h2⟩ := h
    have h3 : x = y := by simpa using h1
    rw [h3, lits_inj (k := k) h2]
theorem ks_of {H : Type} {enc : TypeId × Value → H} {W : World} {base : Nat} {spare : Nat → Bool} {held : Bool} {f : Nat} {cs : List Value} {x : DataW H × List MemPlace} {ks : List Int} {rest : List (DataW H)}
    (h : DataW.trod enc Tryd.prog W base spare held f 89 cs = some x) (hx : x.1 = .slice (lits .u16 ks) rest) (hne : 0 < ks.length) : ∃ v, cs = [v] ∧ Ks W v ks := by
  rcases open_ints Tryd.underlying89 Tryd.underlying55 (by kernel_rfl) h with ⟨_, rfl⟩ | ⟨a, len, cap, zs, hcs, hb, hl, hm, hz, rfl, hcell, _⟩
  · cases hx
  · simp only [DataW.slice.injEq] at hx
    have e : zs.take len = ks := lits_inj hx.1
    have hzl : len ≤ zs.length := by rw [hz]; split <;> omega
    have hlen : ks.length = len := by rw [← e, List.length_take]; omega
    have sp : a = ⟨a.block, a.off, none⟩ := by
      have := spot_of_cell (hcell 0 (by omega))
      simp [Addr.add] at this
      cases a
      simp_all
    refine ⟨_, hcs, ⟨⟨some a, cap, by rw [hlen], by omega, hm, by simp, fun _ => ⟨a.block, a.off, by rw [← sp]⟩⟩, fun j hj => ?_⟩⟩
    have h1 := hcell j (by omega)
    rw [sp, Addr_add_mk] at h1
    have h2 : ks.getD j 0 = zs.getD j 0 := by
      rw [← e, List.getD_eq_getElem?_getD, List.getElem?_take, if_pos (by omega), ← List.getD_eq_getElem?_getD]
    rw [h2]
    exact h1
theorem kh_of_laid {W : World} (h : laidMetH Tryd.prog Rows.tagReadsRow.laid W) : Kh W := by
  rw [MakeChecks.laidMetH_plain _ _ _ (by kernel_rfl)] at h
  obtain ⟨ps, ⟨g, t, cs, fuel, p, q, hg, ht, hv, hd, _, _⟩, _, _⟩ := h
  obtain rfl := Option.some.inj ((show Tryd.prog.globalNamed "toll/tag.kinds" = some 0 by kernel_rfl).symm.trans hg)
  obtain rfl := Option.some.inj ((show (Tryd.prog.globals[0]?).map (·.type) = some 90 by kernel_rfl).symm.trans ht)
  obtain ⟨xs, m, _, ex, _, hl, hel⟩ := DataW.trod_array Tryd.underlying90 hd
  have c5 : Tryd.prog.cellsOf 89 = 1 := by kernel_rfl
  have e3 : (xs.map (·.1)) = [.slice (lits .u16 [34984, 33024]) [], .slice (lits .u16 [33024]) []] := (DataW.agg.inj (Prod.mk.inj ex).1).symm
  have hE := fun r hr => hel r hr
  rw [c5] at hE
  have key : ∀ r, r < 2 → ∀ ks : List Int, (xs.map (·.1))[r]? = some (.slice (lits .u16 ks) []) → 0 < ks.length → ∃ v, W.cell? ⟨0, r, none⟩ = some v ∧ Ks W v ks := fun r hr ks hk hn => by
    have h1 := hE r hr
    rw [Nat.mul_one, List.getElem?_eq_getElem (by omega)] at h1
    rw [List.getElem?_map, List.getElem?_eq_getElem (by omega : r < xs.length), Option.map_some] at hk
    obtain ⟨v, e1, e2⟩ := ks_of h1 (Option.some.inj hk) hn
    refine ⟨v, ?_, e2⟩
    rw [World.var?_cell hg hv r]
    have h0 : ((cs.toList.drop r).take 1)[0]? = some v := by rw [e1]; rfl
    simpa using h0
  obtain ⟨v0, a1, a2⟩ := key 0 (by omega) [34984, 33024] (by rw [e3]; rfl) (by decide)
  obtain ⟨v1, b1, b2⟩ := key 1 (by omega) [33024] (by rw [e3]; rfl) (by decide)
  exact ⟨v0, v1, a1, b1, a2, b2⟩
/-- A tag whose numbers are of their kinds. -/
def Tg.wf (t : Tg) : Prop := t.k < 65536 ∧ t.p < 256 ∧ t.v < 65536
theorem tg_of {H : Type} {enc : TypeId × Value → H} {w : World} {base : Nat} {spare : Nat → Bool} {held : Bool} {cs : List Value} {f : Nat} {x : DataW H × List MemPlace} (hl : cs.length = 4)
    (h : DataW.trod enc Tryd.prog w base spare held f 57 cs = some x) : ∃ t : Tg, cs = t.a.toList ∧ t.wf := by
  obtain ⟨k, e0, w0⟩ := cell_int (d := 3) (j := 0) h (t' := 55) (by kernel_rfl) Tryd.underlying55
  obtain ⟨p, e1, w1⟩ := cell_int (d := 3) (j := 1) h (t' := 5) (by kernel_rfl) Tryd.underlying5
  obtain ⟨d, e2⟩ := cell_bool (d := 3) (j := 2) h (t' := 4) (by kernel_rfl) Tryd.underlying4
  obtain ⟨v, e3, w3⟩ := cell_int (d := 3) (j := 3) h (t' := 55) (by kernel_rfl) Tryd.underlying55
  have b0 := bounds_u16 w0
  have b1 := wf_u8 w1
  have b3 := bounds_u16 w3
  obtain ⟨k, rfl⟩ := Int.eq_ofNat_of_zero_le b0.1
  obtain ⟨p, rfl⟩ := Int.eq_ofNat_of_zero_le b1.1
  obtain ⟨v, rfl⟩ := Int.eq_ofNat_of_zero_le b3.1
  refine ⟨⟨k, p, d, v⟩, ?_, by show k < 65536; omega, by show p < 256; omega, by show v < 65536; omega⟩
  match cs, hl, e0, e1, e2, e3 with
  | [c0, c1, c2, c3], _, e0, e1, e2, e3 =>
    simp at e0 e1 e2 e3
    subst e0 e1 e2 e3
    rfl
/-- A tag that came in. -/
theorem open_tg {H : Type} {enc : TypeId × Value → H} {w : World} {base : Nat} {spare : Nat → Bool} {held : Bool} {cs : Array Value} {f : Nat} {x : DataW H × List MemPlace} (hs : cs.size = Tryd.prog.cellsOf 57)
    (h : DataW.trod enc Tryd.prog w base spare held f 57 cs.toList = some x) : ∃ t : Tg, cs = t.a ∧ t.wf := by
  obtain ⟨t, h1, h2⟩ := tg_of (by rw [Array.length_toList, hs]; kernel_rfl) h
  exact ⟨t, Array.ext' h1, h2⟩
theorem okWide_row {P : Program} {w : World} {r : Reach} {base : Nat} {t : TypeId} {v : Value} {d : TypeDesc} (ht : P.underlying t = some d) (hd : (match d with | .struct _ | .array _ _ => true | _ => false) = true) (h : Value.okWide P w r base t v) : ∃ cs, v = .agg cs ∧ cs.size = P.cellsOf t := by
  unfold Value.okWide at h
  rw [ht] at h
  cases d <;> simp at hd
  · obtain ⟨cs, h1, h2, _⟩ := h; exact ⟨cs, h1, h2⟩
  · obtain ⟨cs, h1, h2, _⟩ := h; exact ⟨cs, h1, h2⟩
end Go.Proofs.YtcimfojbggckhaaDoor
