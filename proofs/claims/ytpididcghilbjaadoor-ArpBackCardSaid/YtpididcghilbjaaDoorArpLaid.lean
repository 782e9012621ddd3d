/-
  arp: the laid table, a message and an address that came in, as the walks want them. No condition.
-/
import Derived.Test.YtpididcghilbjaaDoorLeaf
import Derived.Test.YtpididcghilbjaaDoorArpGet
import Derived.Test.YtpididcghilbjaaDoorTie
import Derived.LaidMore
import Derived.Lay
import Derived.SevenTiedAt
import Derived.Stop.Joined
namespace Go.Proofs.YtpididcghilbjaaDoor
open Go.RowKit Go.ChangeShapes Go.WideShapes Go.ChangeAt

theorem ah_of_laid {W : World} (h : laidMetH Tryd.prog Rows.arpRepliesRow.laid W) : Ah W := by
  rw [MakeChecks.laidMetH_plain _ _ _ (by kernel_rfl)] at h
  obtain ⟨ps, ⟨g, t, cs, fuel, p, q, hg, ht, hv, hd, _, _⟩, _, _⟩ := h
  obtain rfl := Option.some.inj ((show Tryd.prog.globalNamed "toll/arp.ahead" = some 0 by kernel_rfl).symm.trans hg)
  obtain rfl := Option.some.inj ((show (Tryd.prog.globals[0]?).map (·.type) = some 23 by kernel_rfl).symm.trans ht)
  obtain ⟨xs, m, _, ex, _, hl, hel⟩ := DataW.trod_array Tryd.underlying23 hd
  have c5 : Tryd.prog.cellsOf 5 = 1 := by kernel_rfl
  refine ⟨fun r hr => ?_⟩
  have hE := hel r hr
  rw [c5, Nat.mul_one, List.getElem?_eq_getElem (by omega)] at hE
  obtain ⟨z, e1, e2, _⟩ := DataW.trod_int Tryd.underlying5 hE
  have e3 : (xs.map (·.1)) = [.lit (.int .u8 0), .lit (.int .u8 1), .lit (.int .u8 8), .lit (.int .u8 0), .lit (.int .u8 6), .lit (.int .u8 4)] := (DataW.agg.inj (Prod.mk.inj ex).1).symm
  have e4 : (xs.map (·.1))[r]? = some (.lit (.int .u8 z)) := by rw [List.getElem?_map, List.getElem?_eq_getElem (by omega : r < xs.length), Option.map_some, e2]
  rw [e3] at e4
  have hz : z = ((byteAt aheadL r).toNat : Int) := by
    have : r = 0 ∨ r = 1 ∨ r = 2 ∨ r = 3 ∨ r = 4 ∨ r = 5 := by omega
    rcases this with rfl | rfl | rfl | rfl | rfl | rfl <;> simp at e4 <;> rw [← e4] <;> rfl
  rw [World.var?_cell hg hv r, bv, ← hz]
  have : cs.toList[r]? = some (.int .u8 z) := by
    have h0 : ((cs.toList.drop r).take 1)[0]? = some (.int .u8 z) := by rw [e1]; rfl
    simpa using h0
  simpa using this

/-! ### rows of numbers that came in -/
def leavesB (P : Program) (d : Nat) (t : TypeId) (ks : List (TypeId × IntKind)) : Bool :=
  (List.range ks.length).all fun j => match ks[j]? with
    | some (t', k) => leafAt P d t j == some t' && (match P.underlying t' with | some (.int k') => k' == k | _ => false)
    | none => false
theorem row_ints {H : Type} {enc : TypeId × Value → H} {P : Program} {w : World} {base : Nat} {spare : Nat → Bool} {held : Bool} {d : Nat} {t : TypeId} {ks : List (TypeId × IntKind)} {cs : List Value} {f : Nat} {x : DataW H × List MemPlace}
    (h : DataW.trod enc P w base spare held f t cs = some x) (hb : leavesB P d t ks = true) (hl : cs.length = ks.length) :
    ∃ ns : List Int, ns.length = ks.length ∧ cs = List.zipWith (fun k n => .int k.2 n) ks ns ∧ ∀ (j : Nat) (k : TypeId × IntKind) (n : Int), ks[j]? = some k → ns[j]? = some n → (Lit.int k.2 n).wf = true := by
  have key : ∀ j (hj : j < ks.length), ∃ n, cs[j]? = some (.int (ks[j]).2 n) ∧ (Lit.int (ks[j]).2 n).wf = true := fun j hj => by
    have := List.all_eq_true.1 hb j (List.mem_range.2 hj)
    rw [List.getElem?_eq_getElem hj] at this
    simp only [Bool.and_eq_true, beq_iff_eq] at this
    obtain ⟨h1, h2⟩ := this
    split at h2
    · rename_i k' hu
      simp only [beq_iff_eq] at h2
      rw [← h2]
      exact cell_int h h1 hu
    · cases h2
  refine ⟨cs.map fun c => match c with | .int _ n => n | _ => 0, by simp [hl], ?_, ?_⟩
  · apply List.ext_getElem?
    intro j
    by_cases hj : j < ks.length
    · obtain ⟨n, h1, _⟩ := key j hj
      rw [h1, List.getElem?_zipWith, List.getElem?_eq_getElem hj, List.getElem?_map, h1]
      rfl
    · rw [List.getElem?_eq_none (by omega), List.getElem?_eq_none (by simp; omega)]
  · intro j k n hk hn
    obtain ⟨hj, rfl⟩ := List.getElem?_eq_some_iff.1 hk
    obtain ⟨m, h1, h2⟩ := key j hj
    rw [List.getElem?_map, h1] at hn
    simp at hn
    subst hn
    exact h2

theorem okWide_row {P : Program} {w : World} {r : Reach} {base : Nat} {t : TypeId} {v : Value} {d : TypeDesc} (ht : P.underlying t = some d) (hd : (match d with | .struct _ | .array _ _ => true | _ => false) = true) (h : Value.okWide P w r base t v) : ∃ cs, v = .agg cs ∧ cs.size = P.cellsOf t := by
  unfold Value.okWide at h
  rw [ht] at h
  cases d <;> simp at hd
  · obtain ⟨cs, h1, h2, _⟩ := h; exact ⟨cs, h1, h2⟩
  · obtain ⟨cs, h1, h2, _⟩ := h; exact ⟨cs, h1, h2⟩

def pkKs : List (TypeId × IntKind) := [(22, .u16), (5, .u8), (5, .u8), (5, .u8), (5, .u8), (5, .u8), (5, .u8), (26, .u32), (5, .u8), (5, .u8), (5, .u8), (5, .u8), (5, .u8), (5, .u8), (26, .u32)]
def b8 (n : Int) : UInt8 := UInt8.ofNat n.toNat
theorem b8_of {n : Int} (h : (Lit.int .u8 n).wf = true) : ((b8 n).toNat : Int) = n := byte_of_int (wf_u8 h)

theorem seven_of {α : Type} {l : List α} (h : l.length = 6) : ∃ a0 a1 a2 a3 a4 a5, l = [a0, a1, a2, a3, a4, a5] := by
  match l, h with
  | [a0, a1, a2, a3, a4, a5], _ => exact ⟨a0, a1, a2, a3, a4, a5, rfl⟩
theorem fifteen_of {α : Type} {l : List α} (h : l.length = 15) : ∃ a0 a1 a2 a3 a4 a5 a6 a7 a8 a9 b0 b1 b2 b3 b4, l = [a0, a1, a2, a3, a4, a5, a6, a7, a8, a9, b0, b1, b2, b3, b4] := by
  match l, h with
  | [a0, a1, a2, a3, a4, a5, a6, a7, a8, a9, b0, b1, b2, b3, b4], _ => exact ⟨a0, a1, a2, a3, a4, a5, a6, a7, a8, a9, b0, b1, b2, b3, b4, rfl⟩

/-- A message that came in. -/
theorem open_pk {H : Type} {enc : TypeId × Value → H} {w : World} {base : Nat} {spare : Nat → Bool} {held : Bool} {cs : Array Value} {f : Nat} {x : DataW H × List MemPlace}
    (hs : cs.size = Tryd.prog.cellsOf 28) (h : DataW.trod enc Tryd.prog w base spare held f 28 cs.toList = some x) :
    ∃ (op fi ti : Int) (fl tl : List UInt8), cs = pkA op fi ti fl tl ∧ (Lit.int .u16 op).wf = true ∧ (Lit.int .u32 fi).wf = true ∧ (Lit.int .u32 ti).wf = true ∧ fl.length = 6 ∧ tl.length = 6 := by
  obtain ⟨ns, h1, h2, h3⟩ := row_ints (d := 4) (ks := pkKs) h (by kernel_rfl) (by rw [Array.length_toList, hs]; kernel_rfl)
  obtain ⟨a0, a1, a2, a3, a4, a5, a6, a7, a8, a9, b0, b1, b2, b3, b4, rfl⟩ := fifteen_of h1
  refine ⟨a0, a7, b4, [b8 a1, b8 a2, b8 a3, b8 a4, b8 a5, b8 a6], [b8 a8, b8 a9, b8 b0, b8 b1, b8 b2, b8 b3], ?_, h3 0 _ _ rfl rfl, h3 7 _ _ rfl rfl, h3 14 _ _ rfl rfl, rfl, rfl⟩
  apply Array.ext'
  rw [h2]
  simp only [pkA, byteAt, List.getD_cons_zero, List.getD_cons_succ, bv, b8_of (h3 1 _ _ rfl rfl), b8_of (h3 2 _ _ rfl rfl), b8_of (h3 3 _ _ rfl rfl), b8_of (h3 4 _ _ rfl rfl), b8_of (h3 5 _ _ rfl rfl), b8_of (h3 6 _ _ rfl rfl), b8_of (h3 8 _ _ rfl rfl), b8_of (h3 9 _ _ rfl rfl), b8_of (h3 10 _ _ rfl rfl), b8_of (h3 11 _ _ rfl rfl), b8_of (h3 12 _ _ rfl rfl), b8_of (h3 13 _ _ rfl rfl)]
  rfl
def macKs : List (TypeId × IntKind) := [(5, .u8), (5, .u8), (5, .u8), (5, .u8), (5, .u8), (5, .u8)]
/-- An address that came in. -/
theorem open_mac {H : Type} {enc : TypeId × Value → H} {w : World} {base : Nat} {spare : Nat → Bool} {held : Bool} {cs : Array Value} {f : Nat} {x : DataW H × List MemPlace}
    (hs : cs.size = Tryd.prog.cellsOf 24) (h : DataW.trod enc Tryd.prog w base spare held f 24 cs.toList = some x) :
    ∃ (ml : List UInt8), cs = macV ml ∧ ml.length = 6 := by
  obtain ⟨ns, h1, h2, h3⟩ := row_ints (d := 4) (ks := macKs) h (by kernel_rfl) (by rw [Array.length_toList, hs]; kernel_rfl)
  obtain ⟨a0, a1, a2, a3, a4, a5, rfl⟩ := seven_of h1
  refine ⟨[b8 a0, b8 a1, b8 a2, b8 a3, b8 a4, b8 a5], ?_, rfl⟩
  apply Array.ext'
  rw [h2]
  simp only [macV, byteAt, List.getD_cons_zero, List.getD_cons_succ, b8_of (h3 0 _ _ rfl rfl), b8_of (h3 1 _ _ rfl rfl), b8_of (h3 2 _ _ rfl rfl), b8_of (h3 3 _ _ rfl rfl), b8_of (h3 4 _ _ rfl rfl), b8_of (h3 5 _ _ rfl rfl)]
  rfl
end Go.Proofs.YtpididcghilbjaaDoor
