/-
  A region that draws its order and lays onto a pad that was there. No condition.
-/
import Derived.Test.YtcimfojbggckhaaDoorPadM
import Derived.Test.YtcimfojbggckhaaDoorObj
namespace Go.Proofs.YtcimfojbggckhaaDoor
open Go.RowKit

/-- Behind k calls the pad at p holds B k. -/
def PadE (B : Nat → List UInt8) (p : Nat) (sv0 : Value) (w0 : World) : Nat → Gh → World → Prop := fun k g w => g.live ∧ g.val = .pointer (some ⟨p, 0, none⟩) ∧ ∃ sv, Pd w p sv (B k) ∧ g.priv = Foot p sv ∧ Later w0.heap.size sv0 sv
theorem PadE.keep {B : Nat → List UInt8} {p : Nat} {sv0 : Value} {w0 : World} : ∀ (k : Nat) (g : Gh) (w w' : World), Keep No w w' → PadE B p sv0 w0 k g w → PadE B p sv0 w0 k g w' :=
  fun _ _ _ _ kp ⟨h1, h2, sv, h3, h4, h5⟩ => ⟨h1, h2, sv, h3.keep0 kp, h4, h5⟩
def gE (p : Nat) (sv : Value) : Gh := ⟨True, .pointer (some ⟨p, 0, none⟩), Foot p sv⟩
section
variable {w0 : World} {B : Nat → List UInt8} {p : Nat} {sv0 : Value}
theorem gE_base {bs : List UInt8} (h : Pd w0 p sv0 bs) : Base (Foot p sv0) w0 (gE p sv0) w0 := fun k hk => by
  refine ⟨?_, fun _ => hk⟩
  rcases hk with rfl | hk
  · exact h.lt
  · exact h.own.lt k hk
theorem gE_D (h : Pd w0 p sv0 (B 0)) : PadE B p sv0 w0 0 (gE p sv0) w0 := ⟨trivial, rfl, sv0, h, rfl, Later.refl _ _⟩
theorem padE_step {g : Gh} {w w' : World} {sv sv' : Value} {bs : List UInt8} (hg : g.priv = Foot p sv) (hv : g.val = .pointer (some ⟨p, 0, none⟩)) (hb : Base (Foot p sv0) w0 g w) (h0 : w0.heap.size ≤ w.heap.size)
    (hl0 : Later w0.heap.size sv0 sv) (hpd : Pd w' p sv' bs) (hk : Keep (Foot p sv) w w') (hlat : Later w.heap.size sv sv') :
    Tr g w (gE p sv') w' ∧ Base (Foot p sv0) w0 (gE p sv') w' ∧ Later w0.heap.size sv0 sv' := by
  have hl' : Later w0.heap.size sv0 sv' := hl0.trans hlat h0
  refine ⟨⟨by rw [hg]; exact hk, ?_, fun _ => ⟨trivial, hv.symm⟩⟩, ?_, hl'⟩
  · rintro k (rfl | hk')
    · rw [hg]; exact .inl (.inl rfl)
    · rcases hlat with h | h
      · rw [hg]; exact .inl (.inr (by rw [← h]; exact hk'))
      · exact .inr (h k hk')
  · rintro k (rfl | hk')
    · exact ⟨hpd.lt, fun _ => .inl rfl⟩
    · refine ⟨hpd.own.lt k hk', fun h => ?_⟩
      rcases hl' with q | q
      · exact .inr (by rw [← q]; exact hk')
      · exact absurd h (Nat.not_lt.2 (q k hk'))
theorem loud_twoE {r : Nat} {xs : List Nat} (hB : B (r + 1) = B r ++ xs.flatMap bytes2) (hn : (B r).length + 2 * xs.length ≤ 1099511627776) (hx : ∀ i, i < xs.length → xs.getD i 0 < 65536) :
    LoudM Tryd.prog (Foot p sv0) w0 (PadE B p sv0 w0) r 56 [.is (.pointer (some ⟨p, 0, none⟩)), rowS 1 xs.length (fun i => .int .u16 (xs.getD i 0 : Nat))] padS := by
  intro g w vals hk hb hd ha
  match vals, ha with
  | [x, y], ha =>
    obtain ⟨hx', ⟨hy, hyb⟩, _⟩ := ha
    obtain ⟨_, hv, sv, hpd, hg, hla⟩ := hd
    have hx2 : x = .pointer (some ⟨p, 0, none⟩) := hx'
    rw [hx2]
    refine (ptwo_any hpd hy hx (fun b h => by have := (hyb b h).2; rwa [hg] at this) hn).mono ?_
    rintro e w' ⟨sv', rfl, hpd', k, hlat⟩
    obtain ⟨h1, h2, h3⟩ := padE_step hg hv hb hk.size hla hpd' k hlat
    exact ⟨_, _, rfl, h1, h2, ⟨trivial, rfl, sv', by rw [hB]; exact hpd', rfl, h3⟩, trivial, rfl⟩
theorem loud_byteE {r : Nat} {v : Value} {ys : List UInt8} (hB : B (r + 1) = B r ++ ys) (hn : (B r).length + ys.length ≤ 1099511627776) (hr : ∀ w, Keep (Foot p sv0) w0 w → Rd w v ys) :
    LoudM Tryd.prog (Foot p sv0) w0 (PadE B p sv0 w0) r 66 [.is (.pointer (some ⟨p, 0, none⟩)), .is v] padS := by
  intro g w vals hk hb hd ha
  match vals, ha with
  | [x, y], ha =>
    obtain ⟨hx, hy, _⟩ := ha
    have hx' : x = .pointer (some ⟨p, 0, none⟩) := hx
    have hy' : y = v := hy
    obtain ⟨_, hv, sv, hpd, hg, hla⟩ := hd
    rw [hx', hy']
    refine (pbyte_any hpd (hr w hk) hn).mono ?_
    rintro e w' ⟨sv', rfl, hpd', k, hlat⟩
    obtain ⟨h1, h2, h3⟩ := padE_step hg hv hb hk.size hla hpd' k hlat
    exact ⟨_, _, rfl, h1, h2, ⟨trivial, rfl, sv', by rw [hB]; exact hpd', rfl, h3⟩, trivial, rfl⟩
end
end Go.Proofs.YtcimfojbggckhaaDoor
