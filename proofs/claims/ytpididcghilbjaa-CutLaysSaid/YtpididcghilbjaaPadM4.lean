/-
  Pads under the reckoner: Four and Mac. No condition.
-/
import Derived.Test.YtpididcghilbjaaPadM
import Derived.Test.YtpididcghilbjaaPadFour
import Derived.Test.YtpididcghilbjaaPadMac
namespace Go.Proofs.Ytpididcghilbjaa
open Go.RowKit
section
variable {S0 : Nat → Prop} {w0 : World} {B : Nat → List UInt8}
theorem loud_four {r : Nat} {xs : List Nat} (hB : B (r + 1) = B r ++ xs.flatMap bytes4) (hn : (B r).length + 4 * xs.length ≤ 1099511627776) (hx : ∀ i, i < xs.length → xs.getD i 0 < 4294967296) :
    LoudM Try.prog S0 w0 (PadD B w0) (r + 1) 34 [padS, rowS 1 xs.length (fun i => .int .u32 (xs.getD i 0 : Nat))] padS := by
  intro g w vals hk hb hd ha
  match vals, ha with
  | [x, y], ha =>
    obtain ⟨⟨hl, hx'⟩, ⟨hy, hyb⟩, _⟩ := ha
    obtain ⟨_, p, sv, hv, hpd, hg, hp, hs⟩ := hd
    rw [hx', hv]
    refine (pfour_any hpd hy hx (fun b h => by have := (hyb b h).2; rwa [hg] at this) hn).mono ?_
    rintro e w' ⟨sv', rfl, hpd', k, hlat⟩
    obtain ⟨h1, h2, h3⟩ := pad_step (S0 := S0) hg hv hl hp hs hk.size hpd' k hlat
    exact ⟨_, _, rfl, h1, h2, ⟨trivial, p, sv', rfl, by rw [hB]; exact hpd', rfl, hp, h3⟩, trivial, rfl⟩

theorem loud_mac {r : Nat} {xs : List (List UInt8)} (hB : B (r + 1) = B r ++ xs.flatMap macL) (hn : (B r).length + 6 * xs.length ≤ 1099511627776) :
    LoudM Try.prog S0 w0 (PadD B w0) (r + 1) 35 [padS, rowS 6 xs.length (fun j => .int .u8 ((byteAt (xs.getD (j / 6) []) (j % 6)).toNat : Int))] padS := by
  intro g w vals hk hb hd ha
  match vals, ha with
  | [x, y], ha =>
    obtain ⟨⟨hl, hx'⟩, ⟨hy, hyb⟩, _⟩ := ha
    obtain ⟨_, p, sv, hv, hpd, hg, hp, hs⟩ := hd
    rw [hx', hv]
    refine (pmac_any hpd hy (fun b h => by have := (hyb b h).2; rwa [hg] at this) hn).mono ?_
    rintro e w' ⟨sv', rfl, hpd', k, hlat⟩
    obtain ⟨h1, h2, h3⟩ := pad_step (S0 := S0) hg hv hl hp hs hk.size hpd' k hlat
    exact ⟨_, _, rfl, h1, h2, ⟨trivial, p, sv', rfl, by rw [hB]; exact hpd', rfl, hp, h3⟩, trivial, rfl⟩

end
end Go.Proofs.Ytpididcghilbjaa
