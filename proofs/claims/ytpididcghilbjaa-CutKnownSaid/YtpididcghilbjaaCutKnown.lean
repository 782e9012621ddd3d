/-
  tolllaw01.CutKnown answers true, and turns nothing that was there: the walk. No condition.
-/
import Derived.Test.YtpididcghilbjaaWakes1
import Derived.Test.YtpididcghilbjaaNone
import Derived.Test.YtpididcghilbjaaPadFour
import Derived.Test.YtpididcghilbjaaPadMac
import Derived.Test.YtpididcghilbjaaBytes
namespace Go.Proofs.Ytpididcghilbjaa
open Go.RowKit

theorem Sl.mac1 {w : World} (a b c d e f : Value) (t : TypeId) (g : Nat → Value) (h0 : g 0 = a) (h1 : g 1 = b) (h2 : g 2 = c) (h3 : g 3 = d) (h4 : g 4 = e) (h5 : g 5 = f) :
    Sl 6 (w.alloc (.cells #[a, b, c, d, e, f] t)) (.slice (some ⟨w.heap.size, 0, none⟩) 1 1) 1 g := by
  refine ⟨⟨some ⟨w.heap.size, 0, none⟩, 1, rfl, by simp, by simp [maxLen], by simp, fun _ => ⟨_, _, rfl⟩⟩, ?_⟩
  intro j hj
  have : j = 0 ∨ j = 1 ∨ j = 2 ∨ j = 3 ∨ j = 4 ∨ j = 5 := by omega
  rcases this with rfl | rfl | rfl | rfl | rfl | rfl
  · rw [h0]; exact cell_new w #[a, b, c, d, e, f] t 0
  · rw [h1]; exact cell_new w #[a, b, c, d, e, f] t 1
  · rw [h2]; exact cell_new w #[a, b, c, d, e, f] t 2
  · rw [h3]; exact cell_new w #[a, b, c, d, e, f] t 3
  · rw [h4]; exact cell_new w #[a, b, c, d, e, f] t 4
  · rw [h5]; exact cell_new w #[a, b, c, d, e, f] t 5
theorem Parts.none (w : World) : Parts w (.slice Option.none 0 0) [] :=
  ⟨fun _ => .bool true, ⟨⟨Option.none, 0, rfl, by simp, by simp [maxLen], by simp, by simp⟩, by simp⟩, by simp⟩

set_option maxRecDepth 100000 in
set_option maxHeartbeats 4000000 in
theorem cutknown_walk (w : World) :
    Calls Try.prog 8 #[] w fun x w' => x = .returned (.bool true) ∧ Keep No w w' := by
  go_enter Try.func8, Try.ntmps8
  go_wp2_with fail
  have k0 : Keep No w ((w.alloc (.cells #[.slice Option.none 0 0, .int .i64 0, .int .i64 0, .bool false] 71)).alloc (.cells #[.slice Option.none 0 0, .bool false] 73)) := ((Keep.refl _ _).alloc _).alloc _
  have hz : NoC ((w.alloc (.cells #[.slice Option.none 0 0, .int .i64 0, .int .i64 0, .bool false] 71)).alloc (.cells #[.slice Option.none 0 0, .bool false] 73)) (.pointer (some ⟨w.heap.size, 0, Option.none⟩)) :=
    .inr ⟨_, rfl, by rw [cells_of (heap_new0 _ _ _)]; rfl⟩
  have he : NoP ((w.alloc (.cells #[.slice Option.none 0 0, .int .i64 0, .int .i64 0, .bool false] 71)).alloc (.cells #[.slice Option.none 0 0, .bool false] 73)) (.pointer (some ⟨w.heap.size + 1, 0, Option.none⟩)) :=
    .inr ⟨_, rfl, by rw [cells_of (heap_new1 _ _ _)]; rfl⟩
  generalize (w.alloc (.cells #[.slice Option.none 0 0, .int .i64 0, .int .i64 0, .bool false] 71)).alloc (.cells #[.slice Option.none 0 0, .bool false] 73) = W at *
  refine (fail_no (.inl rfl) 1).mono ?_
  rintro x w1 ⟨rfl, rfl⟩
  go_wp2_with fail
  refine (skip_no hz 1).mono ?_
  rintro x w1 ⟨rfl, rfl⟩
  go_wp2_with fail
  refine (err_no (.inl rfl)).mono ?_
  rintro x w1 ⟨rfl, rfl⟩
  go_wp2_with fail
  refine (err_no hz).mono ?_
  rintro x w1 ⟨rfl, rfl⟩
  go_wp2_with fail
  refine (byte_no (.inl rfl)).mono ?_
  rintro x w1 ⟨rfl, rfl⟩
  go_wp2_with fail
  refine (two_no hz).mono ?_
  rintro x w1 ⟨rfl, rfl⟩
  go_wp2_with fail
  refine (left_no (.inl rfl)).mono ?_
  rintro x w1 ⟨rfl, rfl⟩
  go_wp2_with fail
  refine (at_no hz).mono ?_
  rintro x w1 ⟨rfl, rfl⟩
  go_wp2_with fail
  refine (rest_no (.inl rfl)).mono ?_
  rintro x w1 ⟨rfl, rfl⟩
  go_wp2_with fail
  refine (plen_no (.inl rfl)).mono ?_
  rintro x w1 ⟨rfl, rfl⟩
  go_wp2_with fail
  refine (done_no he).mono ?_
  rintro x w1 ⟨rfl, rfl⟩
  go_wp2_with fail
  refine (pfill_none (.inl rfl) 0 1).mono ?_
  rintro x w1 ⟨rfl, rfl⟩
  go_wp2_with fail
  refine (pbyte_no (he.keep0 ((Keep.refl _ _).alloc _)) _).mono ?_
  rintro x w1 ⟨rfl, rfl⟩
  go_wp2_with fail
  refine (plen_no (he.keep0 ((Keep.refl _ _).alloc _))).mono ?_
  rintro x w1 ⟨rfl, rfl⟩
  have k1 := k0.alloc (.cells #[.int .u8 1] 5)
  clear hz he k0
  generalize W.alloc (.cells #[.int .u8 1] 5) = W1 at *
  go_wp2_with fail
  have s7 := Sl.one (w := W1) (.int .u16 7) 32 (fun i => .int .u16 ([7].getD i 0 : Nat)) rfl
  refine (ptwo_no (.inl rfl) (xs := [7]) s7 (by intro i hi; have : i = 0 := (by simp at hi; omega); subst this; decide)).mono ?_
  rintro x w2 ⟨rfl, k2⟩
  have k3 := (k1.alloc (.cells #[.int .u16 7] 32)).trans k2
  clear s7 k2 k1
  go_wp2_with fail
  refine (done_no (.inl rfl)).mono ?_
  rintro x w3 ⟨rfl, rfl⟩
  go_wp2_with fail
  refine (new_any (Rd.nil w2) (by simp)).mono ?_
  rintro x wx ⟨px, sx, rfl, hx, k4, hpx, _⟩
  have k5 := k3.trans k4
  have hw2 := k3.size
  clear k3 k4
  go_wp2_with fail
  have r9 : Rd (wx.alloc (.cells #[.int .u8 9] 5)) (.slice (some ⟨wx.heap.size, 0, Option.none⟩) 1 1) [9] := (Own.made (e := 5) wx [9] (by simp [maxLen])).rd
  refine (new_any r9 (by simp)).mono ?_
  rintro x wy ⟨py, sy, rfl, hy, k6, hpy, hsy⟩
  have kx := ((Keep.refl No wx).alloc (.cells #[.int .u8 9] 5)).trans k6
  simp at hpy
  have hpl := hx.lt
  have hsn : ∀ b, sy.ownBlock = some b → px < b := fun b hb => by have h1 := hsy b hb; simp at h1; omega
  have hzx := kx.size
  clear r9 k6
  go_wp2_with fail
  refine (take_any hy (-1)).mono ?_
  rintro x wz ⟨vz, rfl, tz⟩
  have hy2 := tz.cu
  change Cu wz py sy [9] 0 1 at hy2
  have kx2 := kx.trans' tz.keep (by intro i hi (e : i = py); omega)
  have hwz := kx2.size
  clear hy tz kx
  go_wp2_with fail
  refine (lay_any wz).mono ?_
  rintro x w5 ⟨p, rfl, hp, kp, hpp⟩
  have ky := kp
  clear kp
  go_wp2_with fail
  have s2 := Sl.two (w := w5) (.int .u16 0) (.int .u16 1) 32 (fun i => .int .u16 ([0, 1].getD i 0 : Nat)) rfl rfl
  refine (ptwo_any (hp.keep0 ((Keep.refl _ _).alloc _)) (xs := [0, 1]) s2 (by intro i hi; have : i = 0 ∨ i = 1 := (by simp at hi; omega); rcases this with rfl | rfl <;> decide) (new_not_foot hp _ _) (by simp)).mono ?_
  rintro x w6 ⟨s6, rfl, hp6, k6, l6⟩
  have ky6 := (ky.alloc (.cells #[.int .u16 0, .int .u16 1] 32)).trans' k6 (by rintro i hi (e | e); (omega); (simp [Value.ownBlock] at e))
  have n6 : Since wz.heap.size s6 := by
    intro b hb
    rcases l6 with e | e
    · rw [e] at hb; simp [Value.ownBlock] at hb
    · have h1 := e b hb
      have h2 := ky.size
      simp at h1; omega
  clear hp s2 k6 l6 ky
  change Pd w6 p s6 [0, 0, 0, 1] at hp6
  go_wp2_with fail
  have s4 := Sl.one (w := w6) (.int .u32 2) 34 (fun i => .int .u32 ([2].getD i 0 : Nat)) rfl
  refine (pfour_any (hp6.keep0 ((Keep.refl _ _).alloc _)) (xs := [2]) s4 (by intro i hi; have : i = 0 := (by simp at hi; omega); subst this; decide) (new_not_foot hp6 _ _) (by simp)).mono ?_
  rintro x w7 ⟨s7, rfl, hp7, k7, l7⟩
  have ky7 := (ky6.alloc (.cells #[.int .u32 2] 34)).trans' k7 (by rintro i hi (e | e); (omega); (have := n6 i e; omega))
  have n7 : Since wz.heap.size s7 := by
    intro b hb
    rcases l7 with e | e
    · rw [e] at hb; exact n6 b hb
    · have h1 := e b hb
      have h2 := ky6.size
      simp at h1; omega
  clear hp6 s4 k7 l7 ky6 n6
  change Pd w7 p s7 [0, 0, 0, 1, 0, 0, 0, 2] at hp7
  go_wp2_with fail
  have sm := Sl.mac1 (w := w7) (.int .u8 3) (.int .u8 0) (.int .u8 0) (.int .u8 0) (.int .u8 0) (.int .u8 0) 37 (fun j => .int .u8 ((byteAt ([[3]].getD (j / 6) []) (j % 6)).toNat : Int)) rfl rfl rfl rfl rfl rfl
  refine (pmac_any (hp7.keep0 ((Keep.refl _ _).alloc _)) (xs := [[3]]) sm (new_not_foot hp7 _ _) (by simp)).mono ?_
  rintro x w8 ⟨s8, rfl, hp8, k8, l8⟩
  have ky8 := (ky7.alloc (.cells #[.int .u8 3, .int .u8 0, .int .u8 0, .int .u8 0, .int .u8 0, .int .u8 0] 37)).trans' k8 (by rintro i hi (e | e); (omega); (have := n7 i e; omega))
  have n8 : Since wz.heap.size s8 := by
    intro b hb
    rcases l8 with e | e
    · rw [e] at hb; exact n7 b hb
    · have h1 := e b hb
      have h2 := ky7.size
      simp at h1; omega
  clear hp7 sm k8 l8 ky7 n7
  change Pd w8 p s8 [0, 0, 0, 1, 0, 0, 0, 2, 3, 0, 0, 0, 0, 0] at hp8
  have kx8 := kx2.trans' ky8 (fun _ _ f => f)
  have hx8 := hx.keep0 kx8
  have hy8 := hy2.keep0 ky8
  clear hx hy2 kx2
  go_wp2_with fail
  refine (left_any hx8).mono ?_
  rintro x w9 ⟨rfl, nd, rfl⟩
  rw [show leftR [] 0 0 = 0 from rfl]
  have hx9 := hx8.keep0 ((Keep.refl _ _).drewN nd)
  have hy9 := hy8.keep0 ((Keep.refl _ _).drewN nd)
  have hp9 := hp8.keep0 ((Keep.refl _ _).drewN nd)
  have ky9 := ky8.drewN nd
  have kx9 := kx8.drewN nd
  clear hx8 hy8 hp8 ky8 kx8
  generalize w8.drewN nd = w9 at *
  go_wp2_with fail
  refine (take_any hx9 0).mono ?_
  rintro x w10 ⟨va, rfl, ta⟩
  have hx10 := ta.cu
  change Cu w10 px sx [] 0 0 at hx10
  have ra := ta.rd
  have hla : ∀ wq, (Builtin.len_ #[22] 3 #[va]).run Try.prog wq = .ok (.int .i64 0) wq := fun wq => ra.run_len bt.sl
  have hy10 := hy9.keep ta.keep (by intro (e : py = px); omega) (by intro b hb (e : b = px); have := hsn b hb; omega)
  have hpp2 : px < wz.heap.size := by omega
  have hp10 := hp9.keep ta.keep (by intro (e : p = px); omega) (by intro b hb (e : b = px); have := n8 b hb; omega)
  have k10 := (k5.trans kx9).trans' ta.keep (by intro i hi (e : i = px); omega)
  clear ta hx9 hy9 hp9 ky9 kx9 ra
  go_wp2_with fail
  refine (err_any hx10).mono ?_
  rintro x w11 ⟨rfl, rfl⟩
  go_wp2_with fail
  refine (err_any hy10).mono ?_
  rintro x w11 ⟨rfl, rfl⟩
  go_wp2_with fail
  refine (plen_any hp10).mono ?_
  rintro x w11 ⟨rfl, rfl⟩
  go_wp2_with fail
  refine (pfill_ok hp10 12 43981 (by simp) (by decide) (by simp)).mono ?_
  rintro x w12 ⟨rfl, hp12, k12⟩
  change Pd w12 p s8 [0, 0, 0, 1, 0, 0, 0, 2, 3, 0, 0, 0, 0xab, 0xcd] at hp12
  have k13 := k10.trans' k12 (by rintro i hi (e | e); (have := k5.size; omega); (have := n8 i e; have := k5.size; omega))
  clear k10 k12 hp10 hx10 hy10
  go_wp2_with fail
  refine (pfill_no hp12 13 1 (by simp) (by simp)).mono ?_
  rintro x w13 ⟨rfl, rfl⟩
  go_wp2_with fail
  refine (done_any hp12 (by simp)).mono ?_
  rintro x w14 ⟨vd, rfl, fd⟩
  have k14 := k13.trans fd.keep
  go_wp2_with fail
  have rw14 : Rd (w14.alloc (.cells #[.int .u8 0, .int .u8 0, .int .u8 0, .int .u8 1, .int .u8 0, .int .u8 0, .int .u8 0, .int .u8 2, .int .u8 3, .int .u8 0, .int .u8 0, .int .u8 0, .int .u8 171, .int .u8 205] 5)) (.slice (some ⟨w14.heap.size, 0, Option.none⟩) 14 14) [0, 0, 0, 1, 0, 0, 0, 2, 3, 0, 0, 0, 0xab, 0xcd] :=
    (Own.made (e := 5) w14 [0, 0, 0, 1, 0, 0, 0, 2, 3, 0, 0, 0, 0xab, 0xcd] (by simp [maxLen])).rd
  have hq : (([0, 0, 0, 1, 0, 0, 0, 2, 3, 0, 0, 0, 0xab, 0xcd] : List UInt8) == [0, 0, 0, 1, 0, 0, 0, 2, 3, 0, 0, 0, 0xab, 0xcd]) = true := by decide
  refine (bequal_any (fd.rd.keep0 ((Keep.refl _ _).alloc _)) rw14).mono ?_
  rintro x w15 ⟨rfl, rfl⟩
  rw [hq]
  have k15 := k14.alloc (.cells #[.int .u8 0, .int .u8 0, .int .u8 0, .int .u8 1, .int .u8 0, .int .u8 0, .int .u8 0, .int .u8 2, .int .u8 3, .int .u8 0, .int .u8 0, .int .u8 0, .int .u8 171, .int .u8 205] 5)
  clear rw14 hq fd k14 hp12 k13
  generalize w14.alloc (.cells #[.int .u8 0, .int .u8 0, .int .u8 0, .int .u8 1, .int .u8 0, .int .u8 0, .int .u8 0, .int .u8 2, .int .u8 3, .int .u8 0, .int .u8 0, .int .u8 0, .int .u8 171, .int .u8 205] 5) = w15 at *
  go_wp2_with fail
  refine (sum_any (Parts.none w15) (by simp) (by simp)).mono ?_
  rintro x w16 ⟨rfl, rfl⟩
  rw [show sumOf ([] : List (List UInt8)).flatten = 65535 from rfl]
  go_wp2_with fail
  have rf : Rd (w15.alloc (.cells #[.int .u8 255, .int .u8 255] 5)) (.slice (some ⟨w15.heap.size, 0, Option.none⟩) 2 2) [255, 255] := made2 w15 rfl rfl
  have pf := Parts.one rf 22
  simp only [World.size_alloc] at pf
  refine (sum_any pf (by simp) (by simp)).mono ?_
  rintro x w17 ⟨rfl, rfl⟩
  rw [show sumOf [[255, 255]].flatten = 0 from rfl]
  have k17 := (k15.alloc (.cells #[.int .u8 255, .int .u8 255] 5)).alloc (.cells #[.slice (some ⟨w15.heap.size, 0, Option.none⟩) 2 2] 22)
  clear rf pf k15
  generalize (w15.alloc (.cells #[.int .u8 255, .int .u8 255] 5)).alloc (.cells #[.slice (some ⟨w15.heap.size, 0, Option.none⟩) 2 2] 22) = w17 at *
  go_wp2_with fail
  have rf : Rd (w17.alloc (.cells #[.int .u8 1] 5)) (.slice (some ⟨w17.heap.size, 0, Option.none⟩) 1 1) [1] := (Own.made (e := 5) w17 [1] (by simp [maxLen])).rd
  have pf := Parts.one rf 22
  simp only [World.size_alloc] at pf
  refine (sum_any pf (by simp) (by simp)).mono ?_
  rintro x w18 ⟨rfl, rfl⟩
  rw [show sumOf [[1]].flatten = 65279 from rfl]
  go_wp2_with fail
  refine (wakes_any _).mono ?_
  rintro x w19 ⟨rfl, k19⟩
  go_wp2_with fail
  go_ret
  exact ⟨rfl, ((k17.alloc _).alloc _).trans k19⟩
end Go.Proofs.Ytpididcghilbjaa
