/-
  tolllaw01's CutBack: the things, the bytes they come to, and the taking of one. No condition.
-/
import Derived.Test.YtpididcghilbjaaCutTakes2
import Derived.Test.YtpididcghilbjaaPadM4
namespace Go.Proofs.Ytpididcghilbjaa
open Go.RowKit

structure Thg where
  kd : Nat
  v : Nat
  ao : Option Addr
  ln : Nat
  cp : Nat
  l : List UInt8
abbrev Thg.b (x : Thg) : Value := .slice x.ao x.ln x.cp
def thE : Thg := ⟨0, 0, none, 0, 0, []⟩
def thM (v : Nat) : List UInt8 := [UInt8.ofNat v, UInt8.ofNat (v / 256), 2, 3, 4, 5]
def thB (x : Thg) : List UInt8 :=
  match x.kd % 5 with
  | 0 => [UInt8.ofNat x.v]
  | 1 => bytes2 (x.v % 65536)
  | 2 => bytes4 x.v
  | 3 => thM x.v
  | _ => x.l.take (mn x.l.length 40)
theorem thB_len (x : Thg) : (thB x).length ≤ 40 := by
  unfold thB
  split <;> simp [bytes2, bytes4, thM]
  have := mn_le_right x.l.length 40
  omega
theorem ths_len : ∀ (l : List Thg), (l.flatMap thB).length ≤ 40 * l.length
  | [] => by simp
  | x :: l => by
    have := thB_len x
    have := ths_len l
    simp only [List.flatMap_cons, List.length_append, List.length_cons]
    omega
def thA (x : Thg) : Array Value := #[.int .u8 (x.kd : Int), .int .u32 (x.v : Int), .slice x.ao x.ln x.cp]
structure ThOk (w : World) (x : Thg) : Prop where
  kd : x.kd < 256
  v : x.v < 4294967296
  rd : Rd w x.b x.l
def ThsAt (w : World) (vl : Value) (xs : List Thg) : Prop := ∃ c, Sl 3 w vl xs.length c ∧ ∀ i, i < xs.length → ThOk w (xs.getD i thE) ∧ c (i * 3) = .int .u8 ((xs.getD i thE).kd : Int) ∧ c (i * 3 + 1) = .int .u32 ((xs.getD i thE).v : Int) ∧ c (i * 3 + 2) = (xs.getD i thE).b
theorem cutv0 (a : Option Addr) (n c k : Nat) : cutv (.slice a n c) 0 k = .slice a k c := by
  unfold cutv
  cases a <;> simp [Addr.add]
theorem Sl.cut0 {s n k : Nat} {w : World} {v : Value} {c : Nat → Value} (h : Sl s w v n c) (hk : k ≤ n) : Sl s w (cutv v 0 k) k c := by
  obtain ⟨ao, cap, rfl, h1, h2, h3, h4⟩ := h.shape
  rw [cutv0]
  refine ⟨⟨ao, cap, rfl, by omega, h2, h3, fun h => h4 (by omega)⟩, fun j hj => ?_⟩
  have hj' := h.cell j (Nat.lt_of_lt_of_le hj (Nat.mul_le_mul_right s hk))
  cases ao <;> exact hj'
theorem Sl.of_row {W0 w : World} {m : Mem} (hW : Wst W0 m w) {b : Nat} {cs : List Value} {ow : Bool} (hr : ⟨b, cs, ow⟩ ∈ m.rows) (s n : Nat) (hn : n ≤ maxLen) {c : Nat → Value} (hc : ∀ j, j < n * s → cs[j]? = some (c j)) : Sl s w (.slice (some ⟨b, 0, none⟩) n n) n c := by
  obtain ⟨t, ht⟩ := hW.rows _ hr
  refine ⟨⟨_, n, rfl, Nat.le_refl _, hn, by simp, fun _ => ⟨_, _, rfl⟩⟩, fun j hj => ?_⟩
  simp only [blk, offs, Nat.zero_add, World.cell?, ht]
  simpa using hc j hj
abbrev adT (vl : Value) (i : Nat) : Addr := ⟨blk vl, offs vl + i * 3, none⟩
section
variable {w : World} {vl : Value} {xs : List Thg} {n : Nat} {c : Nat → Value}
theorem th_len (sl : Sl 3 w vl n c) (wx : World) : (Builtin.len_ #[59] 3 #[vl]).run Try.prog wx = .ok (.int .i64 (n : Int)) wx := sl.run_len Try.underlying59
theorem th_cut (sl : Sl 3 w vl n c) {k : Nat} (h : k ≤ n) (wx : World) : (Instr.sliceAt 59 vl Option.none (some (.int .i64 (k : Int))) Option.none).run Try.prog wx = .ok (cutv vl 0 k) wx := by
  obtain ⟨ao, cap, rfl, hc, _⟩ := sl.shape
  have hz : (Try.prog.info? 61).map (·.size) = some 3 := by kernel_rfl
  simp [Instr.sliceAt, Instr.slice, run_underlying Try.underlying59, Instr.sliceBounds, run_bound k cap (by omega), size_of hz, cutv]
theorem th_at (sl : Sl 3 w vl n c) {i : Nat} (hi : i < n) (wx : World) : (Instr.indexAt 59 vl (.int .i64 (i : Int))).run Try.prog wx = .ok (.pointer (some (adT vl i))) wx := by
  have := sl.run_at (P := Try.prog) (w' := wx) Try.underlying59 (show (Try.prog.info? 61).map (·.size) = some 3 by kernel_rfl) (k := .i64) (i := (i : Int)) (by omega) (by omega)
  simpa using this
theorem th_ld (sl : Sl 3 w vl n c) {i : Nat} (hi : i < n) {x : Thg} (h0 : c (i * 3) = .int .u8 (x.kd : Int)) (h1 : c (i * 3 + 1) = .int .u32 (x.v : Int)) (h2 : c (i * 3 + 2) = x.b) :
    (Instr.loadAt 61 (.pointer (some (adT vl i)))).run Try.prog w = .ok (.agg (thA x)) w := by
  have := run_loadAt_mid (P := Try.prog) w (blk vl) (offs vl + i * 3) 61 (thA x).toList _ (fun j u hj => by
    match j, hj with
    | 0, hj => cases hj; have := sl.cell (i * 3) (by omega); rw [h0] at this; exact this
    | 1, hj => cases hj; have := sl.cell (i * 3 + 1) (by omega); rw [h1] at this; rw [Nat.add_assoc]; exact this
    | 2, hj => cases hj; have := sl.cell (i * 3 + 2) (by omega); rw [h2] at this; rw [Nat.add_assoc]; exact this) Try.underlying61 rfl (by kernel_rfl)
  simpa using this
theorem ths_cut (h : ThsAt w vl xs) {k : Nat} (hk : k ≤ xs.length) : ThsAt w (cutv vl 0 k) (xs.take k) := by
  obtain ⟨c, sl, hel⟩ := h
  have hl : (xs.take k).length = k := by simp; omega
  refine ⟨c, by rw [hl]; exact sl.cut0 hk, fun i hi => ?_⟩
  rw [hl] at hi
  have : (xs.take k).getD i thE = xs.getD i thE := by simp [List.getD_eq_getElem?_getD, hi]
  rw [this]
  exact hel i (by omega)
end
/-- What has to be known to take the k-th thing. -/
theorem ths_step {xs : List Thg} {k : Nat} (hk : k < xs.length) : (xs.take (k + 1)).flatMap thB = (xs.take k).flatMap thB ++ thB (xs.getD k thE) := by
  rw [List.take_succ_eq_append_getElem hk, List.flatMap_append]
  simp [List.getD_eq_getElem?_getD, hk]
def CbS (xs : List Thg) (less k a : Nat) (e : Int) : Prop := (e = 0 ∧ a = ((xs.take k).flatMap thB).length) ∨ (less = 1 ∧ e = 4)
theorem cb_step {xs : List Thg} {less k a : Nat} {e : Int} {cs : List UInt8} (hk : k < xs.length) (hl : less ≤ 1) (hcs : cs = (xs.flatMap thB).take ((xs.flatMap thB).length - less)) (h : CbS xs less k a e) (n : Nat) (hn : n = (thB (xs.getD k thE)).length) :
    CbS xs less (k + 1) (takeA cs a e n) (takeE cs a e n) ∧ (less = 0 → takeB cs a e n = thB (xs.getD k thE)) := by
  have hs := ths_step hk
  have hall : xs.flatMap thB = (xs.take (k + 1)).flatMap thB ++ (xs.drop (k + 1)).flatMap thB := by rw [← List.flatMap_append, List.take_append_drop]
  have hlen : (xs.flatMap thB).length = ((xs.take k).flatMap thB).length + n + ((xs.drop (k + 1)).flatMap thB).length := by rw [hall, List.length_append, hs, List.length_append, hn]
  have hcl : cs.length = (xs.flatMap thB).length - less := by rw [hcs, List.length_take]; omega
  have hs1 : ((xs.take (k + 1)).flatMap thB).length = ((xs.take k).flatMap thB).length + n := by rw [hs, List.length_append, hn]
  rcases h with ⟨rfl, ha⟩ | ⟨h1, rfl⟩
  · by_cases hfit : (n : Int) ≤ (cs.length - a : Nat)
    · refine ⟨.inl ⟨?_, ?_⟩, fun h0 => ?_⟩
      · unfold takeE
        rw [if_pos rfl, if_neg (by omega), if_neg (by omega)]
      · unfold takeA
        rw [if_pos ⟨rfl, by omega, hfit⟩, hs1, ha]
        simp
      · unfold takeB
        rw [if_pos ⟨rfl, by omega, hfit⟩]
        subst h0
        rw [hcs, Nat.sub_zero, List.take_length, hall, hs, ha]
        simp [hn]
    · have h1 : less = 1 := by omega
      refine ⟨.inr ⟨h1, ?_⟩, fun h0 => by omega⟩
      unfold takeE
      rw [if_pos rfl, if_neg (by omega), if_pos (by omega)]
  · exact ⟨.inr ⟨h1, by simp [takeE]⟩, fun h0 => by omega⟩
theorem eq_mac2 (w : World) (l l' : List UInt8) : (binOp .eql 37 (.agg (macV l)) (.agg (macV l'))).run Try.prog w = .ok (.bool ((List.range 6).all fun j => bn l j == bn l' j)) w := by
  obtain ⟨i, hi, _⟩ := bt.info
  have he := run_equal_ints (P := Try.prog) 9998 Try.underlying37 hi Try.underlying5 (by kernel_rfl) w (macV l) (macV l') (bn l) (bn l') (fun j hj => by
    have : j = 0 ∨ j = 1 ∨ j = 2 ∨ j = 3 ∨ j = 4 ∨ j = 5 := by omega
    rcases this with rfl | rfl | rfl | rfl | rfl | rfl <;> exact ⟨rfl, rfl⟩)
  rw [run_eql_struct, he]
  rfl
theorem eq_mac_same {l l' : List UInt8} (h : l = l') : ((List.range 6).all fun j => bn l j == bn l' j) = true := by subst h; simp
theorem be2 (n : Nat) (h : n < 65536) : be (bytes2 n) = n := by
  have h1 := byte_hi h
  have h2 := byte_lo n
  unfold be bytes2
  simp only [List.foldl_cons, List.foldl_nil]
  omega
theorem be4 (n : Nat) (h : n < 4294967296) : be (bytes4 n) = n := by
  have h1 := byte_hi (n := n / 65536) (by omega)
  have h2 := byte_lo (n / 65536)
  have h3 := byte_hi (n := n % 65536) (by omega)
  have h4 := byte_lo (n % 65536)
  unfold be bytes4 bytes2
  simp only [List.cons_append, List.nil_append, List.foldl_cons, List.foldl_nil]
  omega
theorem m_lo (v : Nat) : IntKind.u8.wrap (v : Int) = ((UInt8.ofNat v).toNat : Int) := by
  rw [byte_lo]
  simp [IntKind.wrap]
  rfl
/-- The cutter's one loud call. -/
def CbD (pc : Nat) (svc : Value) (cs : List UInt8) (a : Nat) (e nn : Int) : Nat → Gh → World → Prop
  | 0, g, w1 => g.priv = One pc ∧ Cu w1 pc svc cs a e
  | _, g, w1 => g.priv = One pc ∧ Cu w1 pc svc cs (takeA cs a e nn) (takeE cs a e nn)
theorem CbD.keep {pc : Nat} {svc : Value} {cs : List UInt8} {a : Nat} {e nn : Int} : ∀ (k : Nat) (g : Gh) (w1 w2 : World), Keep No w1 w2 → CbD pc svc cs a e nn k g w1 → CbD pc svc cs a e nn k g w2
  | 0, _, _, _, kp, h => ⟨h.1, h.2.keep0 kp⟩
  | _ + 1, _, _, _, kp, h => ⟨h.1, h.2.keep0 kp⟩
theorem cb_loud {pc : Nat} {svc : Value} {cs : List UInt8} {a : Nat} {e nn : Int} {w0 : World} {f : FuncId} {v : Value}
    (hc : ∀ w1, Cu w1 pc svc cs a e → Calls Try.prog f #[pT pc] w1 fun x w' => x = .returned v ∧ Cu w' pc svc cs (takeA cs a e nn) (takeE cs a e nn) ∧ Keep (One pc) w1 w') :
    LoudM Try.prog (One pc) w0 (CbD pc svc cs a e nn) 0 f [.is (pT pc)] (.is v) := by
  intro g w1 vals hk hb hd ha
  match vals, ha with
  | [x], ha =>
    obtain rfl : x = _ := ha.1
    obtain ⟨hp, F⟩ := hd
    refine (hc w1 F).mono ?_
    rintro z w2 ⟨rfl, cu, k⟩
    exact ⟨_, g, rfl, ⟨k.mono fun q _ h => by rw [hp]; exact h, fun q h => .inl h, fun h => ⟨h, rfl⟩⟩, fun q h => ⟨Nat.lt_of_lt_of_le (hb q h).1 k.size, (hb q h).2⟩, ⟨hp, cu⟩, rfl⟩
theorem cb_base {pc : Nat} {svc : Value} {cs : List UInt8} {a : Nat} {e : Int} {w : World} (h : Cu w pc svc cs a e) : Base (One pc) w ⟨False, undef, One pc⟩ w := fun k hk => ⟨by rw [show k = pc from hk]; exact h.lt, fun _ => hk⟩
end Go.Proofs.Ytpididcghilbjaa
