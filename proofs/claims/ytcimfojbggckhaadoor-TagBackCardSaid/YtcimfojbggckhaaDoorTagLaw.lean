/-
  Tags there and back: plain laws. No condition.
-/
import Derived.Test.YtcimfojbggckhaaDoorTagPushes
import Derived.Test.YtcimfojbggckhaaDoorTagRefRead
namespace Go.Proofs.YtcimfojbggckhaaDoor
open Go.RowKit

theorem be_b2 {n : Nat} (h : n < 65536) : be (bytes2 n) = n := by
  simp only [be, bytes2, List.foldl_cons, List.foldl_nil]
  rw [UInt8.toNat_ofNat', UInt8.toNat_ofNat']
  omega
theorem b2_len (n : Nat) : (bytes2 n).length = 2 := rfl
theorem b2_be (a b : UInt8) : bytes2 (be [a, b]) = [a, b] := by
  have ha := a.toNat_lt
  have hb := b.toNat_lt
  have e : be [a, b] = a.toNat * 256 + b.toNat := by simp [be]
  rw [e]
  simp only [bytes2, List.cons.injEq, and_true]
  constructor
  · apply UInt8.toNat_inj.1
    rw [UInt8.toNat_ofNat']
    omega
  · apply UInt8.toNat_inj.1
    rw [UInt8.toNat_ofNat']
    omega
theorem take2_of {bs : List UInt8} {k : Nat} (h : k + 2 ≤ bs.length) : (bs.drop k).take 2 = [byteAt bs k, byteAt bs (k + 1)] := by
  have e0 : bs.drop k = byteAt bs k :: bs.drop (k + 1) := by rw [byteAt_eq (by omega), List.drop_eq_getElem_cons (by omega)]
  have e1 : bs.drop (k + 1) = byteAt bs (k + 1) :: bs.drop (k + 2) := by rw [byteAt_eq (by omega), List.drop_eq_getElem_cons (by omega)]
  rw [e0, e1]; rfl

theorem bytesT_t2 (t : Tg) (cs : List UInt8) : (bytesT t ++ cs).take 2 = bytes2 t.k := by
  simp only [bytesT, List.append_assoc]
  rw [List.take_append_of_le_length (by rw [b2_len]; omega)]
  exact List.take_of_length_le (by rw [b2_len]; omega)
theorem bytesT_d2 (t : Tg) (cs : List UInt8) : ((bytesT t ++ cs).drop 2).take 2 = bytes2 (wordN t) := by
  simp only [bytesT, List.append_assoc]
  rw [List.drop_append_of_le_length (by rw [b2_len]; omega), List.drop_of_length_le (by rw [b2_len]; omega), List.nil_append, List.take_append_of_le_length (by rw [b2_len]; omega)]
  exact List.take_of_length_le (by rw [b2_len]; omega)
theorem bytesT_d4 (t : Tg) (cs : List UInt8) : (bytesT t ++ cs).drop 4 = cs := by
  have : (bytesT t).length = 4 := rfl
  rw [List.drop_append_of_le_length (by omega), List.drop_of_length_le (by omega), List.nil_append]
/-- A tag ahead is read. -/
theorem readT_cons {t : Tg} {f : Nat} {l : List Tg} {cs : List UInt8} (hm : mayT t = true) (hl : l.length < 2) (hk : (kindsL l.length).contains (t.k : Int) = true) : readT (f + 1) l (bytesT t ++ cs) = readT f (l ++ [t]) cs := by
  obtain ⟨h1, h2, h3⟩ := mayT_spec hm
  have hlen : (bytesT t ++ cs).length = 4 + cs.length := by rw [List.length_append]; rfl
  have hb : begB (bytesT t ++ cs) l.length = true := by
    simp only [begB, bytesT_t2, be_b2 h1, hk, Bool.and_true, Bool.and_eq_true, decide_eq_true_eq]
    exact ⟨by omega, hl⟩
  rw [readT, hb, if_pos rfl, if_neg (by omega), bytesT_t2, bytesT_d2, bytesT_d4, be_b2 h1, be_b2 (wordN_lt h2 h3), tgN_word h2 h3]
/-- Cut within a tag. -/
theorem readT_cut {t : Tg} {f : Nat} {l : List Tg} {cs : List UInt8} (hm : mayT t = true) (hl : l.length < 2) (hk : (kindsL l.length).contains (t.k : Int) = true) {k : Nat} (h4 : k < 4) :
    (readT (f + 1) l ((bytesT t ++ cs).take k)).2.2 = if 2 ≤ k then 4 else 0 := by
  obtain ⟨h1, h2, h3⟩ := mayT_spec hm
  have hlen : ((bytesT t ++ cs).take k).length = k := by
    have : (bytesT t).length = 4 := rfl
    rw [List.length_take, List.length_append]; omega
  by_cases h : 2 ≤ k
  · have ht : ((bytesT t ++ cs).take k).take 2 = bytes2 t.k := by
      rw [List.take_take, Nat.min_eq_left h, bytesT_t2]
    have hb : begB ((bytesT t ++ cs).take k) l.length = true := by
      simp only [begB, ht, be_b2 h1, hk, Bool.and_true, Bool.and_eq_true, decide_eq_true_eq]
      exact ⟨by omega, hl⟩
    rw [readT, hb, if_pos rfl, if_pos (by omega), if_pos h]
  · have hb : begB ((bytesT t ++ cs).take k) l.length = false := by
      simp only [begB, hlen, decide_eq_false h, Bool.false_and]
    rw [readT, hb]
    simp only [Bool.false_eq_true, if_false]
    rw [if_neg h]
/-- The stacks that are laid. -/
inductive Stk : List Tg → Prop
  | nil : Stk []
  | one {t : Tg} : mayT t = true → Stk [t]
  | two {x y : Tg} : mayT x = true → mayT y = true → y.k = 33024 → Stk [x, y]
theorem k1 : (kindsL 1).contains ((33024 : Nat) : Int) = true := by decide
theorem Stk.may {l : List Tg} (h : Stk l) : mayL l = true := by
  cases h with
  | nil => rfl
  | one h => exact mayL_one h
  | two hx hy hk => exact mayL_two hx hy hk
theorem Stk.all {l : List Tg} (h : Stk l) : l.all mayT = true := by
  cases h with
  | nil => rfl
  | one h => simp [h]
  | two hx hy hk => simp [hx, hy]
theorem Stk.len {l : List Tg} (h : Stk l) : l.length ≤ 2 := by cases h <;> simp
theorem Stk.bytes {l : List Tg} (h : Stk l) : bytesB l = bytesL l := by rw [bytesB, h.all, if_pos rfl]
theorem Stk.read {l : List Tg} (h : Stk l) {cs : List UInt8} (hb : begB cs l.length = false) : readT 3 [] (bytesL l ++ cs) = (l, cs, 0) := by
  have fin : ∀ f, readT (f + 1) l cs = (l, cs, 0) := fun f => by rw [readT, hb]; rfl
  cases h with
  | nil => exact fin 2
  | @one t h =>
    rw [show bytesL [t] ++ cs = bytesT t ++ cs by simp [bytesL], readT_cons (l := []) h (by simp) (may_k h)]
    exact fin 1
  | @two x y hx hy hk =>
    rw [show bytesL [x, y] ++ cs = bytesT x ++ (bytesT y ++ cs) by simp [bytesL], readT_cons (l := []) hx (by simp) (may_k hx), readT_cons (l := [] ++ [x]) hy (by simp) (by rw [hk]; exact k1)]
    exact fin 0
theorem Stk.cut {l : List Tg} (h : Stk l) {k : Nat} (hk : k < 4 * l.length) : (readT 3 [] ((bytesL l).take k)).2.2 = if 2 ≤ k % 4 then 4 else 0 := by
  cases h with
  | nil => simp at hk
  | @one t h =>
    simp only [List.length_cons, List.length_nil] at hk
    rw [show bytesL [t] = bytesT t ++ [] by simp [bytesL], readT_cut (l := []) h (by simp) (may_k h) (by omega), Nat.mod_eq_of_lt (by omega)]
  | @two x y hx hy hky =>
    simp only [List.length_cons, List.length_nil] at hk
    rw [show bytesL [x, y] = bytesT x ++ (bytesT y ++ []) by simp [bytesL]]
    by_cases h4 : k < 4
    · rw [readT_cut (l := []) hx (by simp) (may_k hx) h4, Nat.mod_eq_of_lt h4]
    · have e : (bytesT x ++ (bytesT y ++ [])).take k = bytesT x ++ (bytesT y ++ []).take (k - 4) := by
        rw [List.take_append, List.take_of_length_le (by rw [bytesT_len]; omega)]
        rfl
      rw [e, readT_cons (l := []) hx (by simp) (may_k hx), readT_cut (l := [] ++ [x]) hy (by simp) (by rw [hky]; exact k1) (by omega)]
      rw [show k % 4 = k - 4 by omega]
/-- What is read is what was there. -/
theorem readT_back : ∀ (f : Nat) (l : List Tg) (b : List UInt8), (readT f l b = ([], [], 4)) ∨ ∃ m r, readT f l b = (l ++ m, r, 0) ∧ b = bytesL m ++ r ∧ mayFrom l.length m = true ∧ m.all mayT = true
  | 0, l, b => .inr ⟨[], b, by simp [readT], by simp [bytesL], rfl, rfl⟩
  | f + 1, l, b => by
    rw [readT]
    cases hb : begB b l.length with
    | false => exact .inr ⟨[], b, by simp, by simp [bytesL], rfl, rfl⟩
    | true =>
      simp only [begB, Bool.and_eq_true, decide_eq_true_eq] at hb
      obtain ⟨h2, hl, hk⟩ := hb
      simp only [if_true]
      by_cases h4 : b.length < 4
      · rw [if_pos h4]; exact .inl rfl
      · rw [if_neg h4]
        have hk16 : be (b.take 2) < 65536 := be_small (n := 2) (by simp; omega)
        have hn16 : be ((b.drop 2).take 2) < 65536 := be_small (n := 2) (by simp; omega)
        have hw : wordN (tgN (be (b.take 2)) (be ((b.drop 2).take 2))) = be ((b.drop 2).take 2) := by
          generalize be ((b.drop 2).take 2) = n at *
          unfold wordN tgN
          simp only
          have : n / 4096 % 2 = 0 ∨ n / 4096 % 2 = 1 := by omega
          rcases this with h | h <;> rw [h] <;> simp <;> omega
        have hby : bytesT (tgN (be (b.take 2)) (be ((b.drop 2).take 2))) = b.take 4 := by
          unfold bytesT
          rw [hw]
          have e1 : b.take 2 = [byteAt b 0, byteAt b 1] := by have := take2_of (bs := b) (k := 0) (by omega); simpa using this
          have e2 := take2_of (bs := b) (k := 2) (by omega)
          show bytes2 (be (b.take 2)) ++ _ = _
          rw [e1, e2, b2_be, b2_be, ← e1, ← e2]
          rw [show 4 = 2 + 2 from rfl, List.take_add]
        have hmt : mayT (tgN (be (b.take 2)) (be ((b.drop 2).take 2))) = true := by
          have h0 : (kindsL 0).contains ((be (b.take 2) : Nat) : Int) = true := by
            generalize ((be (b.take 2) : Nat) : Int) = k at *
            have h01 : l.length = 0 ∨ l.length = 1 := by omega
            rcases h01 with h | h <;> rw [h] at hk
            · exact hk
            · simp only [kindsL, List.contains_cons, List.contains_nil, Bool.or_false, Bool.or_eq_true, beq_iff_eq] at hk ⊢
              exact .inr hk
          have q1 : ((be ((b.drop 2).take 2) / 8192 : Nat) : Int) < 8 := by omega
          have q2 : ((be ((b.drop 2).take 2) % 4096 : Nat) : Int) ≤ 4095 := by omega
          show ((kindsL 0).contains ((be (b.take 2) : Nat) : Int) && decide (((be ((b.drop 2).take 2) / 8192 : Nat) : Int) < 8) && decide (((be ((b.drop 2).take 2) % 4096 : Nat) : Int) ≤ 4095)) = true
          rw [h0, decide_eq_true q1, decide_eq_true q2]
          rfl
        rcases readT_back f (l ++ [tgN (be (b.take 2)) (be ((b.drop 2).take 2))]) (b.drop 4) with h | ⟨m, r, h, h1, h3, h5⟩
        · exact .inl h
        · refine .inr ⟨tgN (be (b.take 2)) (be ((b.drop 2).take 2)) :: m, r, by rw [h]; simp, ?_, ?_, ?_⟩
          · rw [show bytesL (tgN (be (b.take 2)) (be ((b.drop 2).take 2)) :: m) = bytesT (tgN (be (b.take 2)) (be ((b.drop 2).take 2))) ++ bytesL m from rfl, hby, List.append_assoc, ← h1, List.take_append_drop]
          · rw [List.length_append] at h3
            simp only [mayFrom, hmt, decide_eq_true hl, Bool.true_and]
            rw [show (tgN (be (b.take 2)) (be ((b.drop 2).take 2))).k = be (b.take 2) from rfl, hk]
            exact h3
          · simp [hmt, h5]
end Go.Proofs.YtcimfojbggckhaaDoor
