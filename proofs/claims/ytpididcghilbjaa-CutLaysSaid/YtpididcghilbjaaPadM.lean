/-
  Pads under the reckoner: the loud calls of a region that lays bytes. No condition.
-/
import Derived.Test.YtpididcghilbjaaEvM
import Derived.Test.YtpididcghilbjaaPadTwo
namespace Go.Proofs.Ytpididcghilbjaa
open Go.RowKit

section
variable {P : Program} {S0 : Nat → Prop} {w0 : World}
/-- The pad's pointer. -/
def padS : Sm := .such (fun g _ x => g.live ∧ x = g.val) (fun _ _ _ _ _ k h => ⟨(k.live h.1).1, h.2.trans (k.live h.1).2.symm⟩)
/-- A new row of n elements of s cells. -/
def rowS (s n : Nat) (c : Nat → Value) : Sm := .such (fun g w x => Sl s w x n c ∧ ∀ b, x.ownBlock = some b → b < w.heap.size ∧ ¬ g.priv b)
  (fun g w g' w' x k h => ⟨h.1.keep k.keep (fun b hb => (h.2 b hb).2), fun b hb => ⟨Nat.lt_of_lt_of_le (h.2 b hb).1 k.keep.size, fun hp => by
    rcases k.priv b hp with h1 | h1
    · exact (h.2 b hb).2 h1
    · have := (h.2 b hb).1; omega⟩⟩)
/-- Behind k calls the pad holds B k; ahead of the first there is none; behind the last (m) nothing is said. -/
def PadD (B : Nat → List UInt8) (w0 : World) : Nat → Gh → World → Prop
  | 0, g, _ => ¬ g.live ∧ ∀ b, ¬ g.priv b
  | k + 1, g, w => g.live ∧ ∃ p sv, g.val = .pointer (some ⟨p, 0, none⟩) ∧ Pd w p sv (B k) ∧ g.priv = Foot p sv ∧ w0.heap.size ≤ p ∧ Since w0.heap.size sv
theorem PadD.keep {B : Nat → List UInt8} : ∀ (k : Nat) (g : Gh) (w w' : World), Keep No w w' → PadD B w0 k g w → PadD B w0 k g w'
  | 0, _, _, _, _, h => h
  | _ + 1, _, _, _, kp, ⟨h1, p, sv, h2, h3, h4, h5, h6⟩ => ⟨h1, p, sv, h2, h3.keep0 kp, h4, h5, h6⟩
def noGh : Gh := ⟨False, undef, fun _ => False⟩
theorem noGh_base (w : World) : Base S0 w0 noGh w := fun _ h => h.elim
theorem noGh_D {B : Nat → List UInt8} (w : World) : PadD B w0 0 noGh w := ⟨fun h => h, fun _ h => h⟩

/-- From a pad's contract to a loud step. -/
theorem pad_step {g : Gh} {w w' : World} {p : Nat} {sv sv' : Value} {bs : List UInt8} (hg : g.priv = Foot p sv) (hv : g.val = .pointer (some ⟨p, 0, none⟩)) (_hl : g.live) (hp : w0.heap.size ≤ p) (hs : Since w0.heap.size sv) (h0 : w0.heap.size ≤ w.heap.size)
    (hpd : Pd w' p sv' bs) (hk : Keep (Foot p sv) w w') (hlat : Later w.heap.size sv sv') :
    Tr g w ⟨True, .pointer (some ⟨p, 0, none⟩), Foot p sv'⟩ w' ∧ Base S0 w0 ⟨True, .pointer (some ⟨p, 0, none⟩), Foot p sv'⟩ w' ∧ Since w0.heap.size sv' := by
  have hs' : Since w0.heap.size sv' := by
    rcases hlat with h | h
    · intro b hb; rw [h] at hb; exact hs b hb
    · exact h.mono h0
  refine ⟨⟨by rw [hg]; exact hk, ?_, fun _ => ⟨trivial, hv.symm⟩⟩, ?_, hs'⟩
  · rintro k (rfl | hk')
    · rw [hg]; exact .inl (.inl rfl)
    · rcases hlat with h | h
      · rw [hg]; exact .inl (.inr (by rw [← h]; exact hk'))
      · exact .inr (h k hk')
  · rintro k (rfl | hk')
    · exact ⟨hpd.lt, fun h => absurd h (Nat.not_lt.2 hp)⟩
    · exact ⟨hpd.own.lt k hk', fun h => absurd h (Nat.not_lt.2 (hs' k hk'))⟩
end

section
variable {S0 : Nat → Prop} {w0 : World} {B : Nat → List UInt8}
theorem loud_lay (hB : B 0 = []) : LoudM Try.prog S0 w0 (PadD B w0) 0 30 [] padS := by
  intro g w vals hk hb hd ha
  match vals, ha with
  | [], _ =>
    refine (lay_any w).mono ?_
    rintro e w' ⟨p, rfl, hpd, k, hp⟩
    have h0 := hk.size
    have hbp : w0.heap.size ≤ p := Nat.le_trans h0 hp
    refine ⟨_, ⟨True, .pointer (some ⟨p, 0, Option.none⟩), Foot p (.slice Option.none 0 0)⟩, rfl, ⟨k.no, ?_, fun h => absurd h hd.1⟩, ?_, ⟨trivial, p, _, rfl, by rw [hB]; exact hpd, rfl, hbp, fun b h => by simp [Value.ownBlock] at h⟩, trivial, rfl⟩
    · rintro q (rfl | hq)
      · exact .inr hp
      · simp [Value.ownBlock] at hq
    · rintro q (rfl | hq)
      · exact ⟨hpd.lt, fun h => absurd h (Nat.not_lt.2 hbp)⟩
      · simp [Value.ownBlock] at hq

theorem loud_byte {r : Nat} {v : Value} {ys : List UInt8} (hB : B (r + 1) = B r ++ ys) (hn : (B r).length + ys.length ≤ 1099511627776) (hr : ∀ w, Keep S0 w0 w → Rd w v ys) :
    LoudM Try.prog S0 w0 (PadD B w0) (r + 1) 31 [padS, .is v] padS := by
  intro g w vals hk hb hd ha
  match vals, ha with
  | [x, y], ha =>
    obtain ⟨⟨hl, hx⟩, hy, _⟩ := ha
    have hy' : y = v := hy
    obtain ⟨_, p, sv, hv, hpd, hg, hp, hs⟩ := hd
    rw [hx, hv, hy']
    refine (pbyte_any hpd (hr w hk) hn).mono ?_
    rintro e w' ⟨sv', rfl, hpd', k, hlat⟩
    obtain ⟨h1, h2, h3⟩ := pad_step (S0 := S0) hg hv hl hp hs hk.size hpd' k hlat
    exact ⟨_, _, rfl, h1, h2, ⟨trivial, p, sv', rfl, by rw [hB]; exact hpd', rfl, hp, h3⟩, trivial, rfl⟩

theorem loud_two {r : Nat} {xs : List Nat} (hB : B (r + 1) = B r ++ xs.flatMap bytes2) (hn : (B r).length + 2 * xs.length ≤ 1099511627776) (hx : ∀ i, i < xs.length → xs.getD i 0 < 65536) :
    LoudM Try.prog S0 w0 (PadD B w0) (r + 1) 32 [padS, rowS 1 xs.length (fun i => .int .u16 (xs.getD i 0 : Nat))] padS := by
  intro g w vals hk hb hd ha
  match vals, ha with
  | [x, y], ha =>
    obtain ⟨⟨hl, hx'⟩, ⟨hy, hyb⟩, _⟩ := ha
    obtain ⟨_, p, sv, hv, hpd, hg, hp, hs⟩ := hd
    rw [hx', hv]
    refine (ptwo_any hpd hy hx (fun b h => by have := (hyb b h).2; rwa [hg] at this) hn).mono ?_
    rintro e w' ⟨sv', rfl, hpd', k, hlat⟩
    obtain ⟨h1, h2, h3⟩ := pad_step (S0 := S0) hg hv hl hp hs hk.size hpd' k hlat
    exact ⟨_, _, rfl, h1, h2, ⟨trivial, p, sv', rfl, by rw [hB]; exact hpd', rfl, hp, h3⟩, trivial, rfl⟩

/-- What Done hands over. -/
def doneS (w0 : World) (bs : List UInt8) : Sm := .such (fun g w x => Own 5 w x bs ∧ Since w0.heap.size x ∧ ∀ b, x.ownBlock = some b → ¬ g.priv b)
  (fun g w g' w' x k h => ⟨h.1.keep k.keep h.2.2, h.2.1, fun b hb hp => by
    rcases k.priv b hp with h1 | h1
    · exact h.2.2 b hb h1
    · have := h.1.lt b hb; omega⟩)
theorem loud_done {r : Nat} {bs : List UInt8} (hB : B r = bs) (hB' : B (r + 1) = bs) (hn : bs.length ≤ 140737488351232) :
    LoudM Try.prog S0 w0 (PadD B w0) (r + 1) 33 [padS] (doneS w0 bs) := by
  intro g w vals hk hb hd ha
  match vals, ha with
  | [x], ha =>
    obtain ⟨⟨hl, hx'⟩, _⟩ := ha
    obtain ⟨hl', p, sv, hv, hpd, hg, hp, hs⟩ := hd
    rw [hx', hv]
    rw [hB] at hpd
    refine (done_any hpd hn).mono ?_
    rintro e w' ⟨v, rfl, fr⟩
    refine ⟨v, g, rfl, Tr.quiet fr.keep, hb.mono fr.keep, ⟨hl', p, sv, hv, by rw [hB']; exact hpd.keep0 fr.keep, hg, hp, hs⟩, fr.own, fr.since.mono hk.size, fun b hb' hp' => ?_⟩
    have h1 := (hb b hp').1
    have h2 := fr.since b hb'
    omega
end

/-- A new slice, by reckoning. -/
theorem new_row {P : Program} {S0 : Nat → Prop} {w0 : World} {q : Sem Value} {s n : Nat} {cs : List Value} {c : Nat → Value} (hn : n ≤ maxLen)
    (hq : ∀ nx, gRun P none q ⟨[], nx⟩ = some (.slice (some ⟨nx, 0, none⟩) n n, ⟨[⟨nx, cs, true⟩], nx + 1⟩, [])) (hc : ∀ j, j < n * s → cs[j]? = some (c j)) : NewM P S0 w0 q (rowS s n c) := by
  intro g w hk hb
  obtain ⟨w', h1, h2, h3⟩ := gRun_ok (Wst.start0 w) (hq w.heap.size) (fun _ h => nomatch h)
  obtain ⟨t, ht⟩ := h2.rows ⟨w.heap.size, cs, true⟩ (by simp)
  refine ⟨_, w', h1, h2.keep, ⟨⟨_, n, rfl, Nat.le_refl _, hn, by simp, fun _ => ⟨_, _, rfl⟩⟩, fun j hj => ?_⟩, fun b hb' => ?_⟩
  · simp only [blk, offs, Nat.zero_add, World.cell?, ht]
    simpa using hc j hj
  · have : w.heap.size = b := Option.some.inj hb'
    subst this
    refine ⟨by rw [h2.size]; simp, fun hp => ?_⟩
    have := (hb _ hp).1
    omega
end Go.Proofs.Ytpididcghilbjaa
