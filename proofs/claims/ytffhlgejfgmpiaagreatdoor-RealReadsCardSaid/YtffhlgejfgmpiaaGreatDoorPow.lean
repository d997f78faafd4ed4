/-
  Numbers, in plain Lean: a number doubled, halved; a quotient's sign.
-/
import Derived.Test.YtffhlgejfgmpiaaGreatDoorRefPure
import Derived.Test.YtffhlgejfgmpiaaGreatDoorShowFlt
import Derived.Test.YtffhlgejfgmpiaaGreatDoorRealDec
import Derived.Test.YtffhlgejfgmpiaaGreatDoorRefDec
import Derived.Test.YtffhlgejfgmpiaaGreatDoorHex
namespace Go.Vc
open Go.RowKit
section
variable {B : Nat} (hB : B = 1074)
include hB
theorem two_MM : mg 4611686018427387904 = 4503599627370496 ∧ ex 4611686018427387904 = B - 51 := by
  subst hB; decide
/-- Half of a number that is twice another one. -/
theorem quo_two {x y : Nat} (h0 : 0 < x) (h : x < 9218868437227405312) (hy : y < 9218868437227405312) (hxy : MM x = 2 * MM y) : floatBits .quo .f64 x 4611686018427387904 = some y := by
  obtain ⟨t1, t2⟩ := two_MM hB
  have hmp := mg_pos h0
  have hml := mg_lt x
  have hl := mlog h0
  rw [div_eq', read_pos hB h, read_pos hB (t := 4611686018427387904) (by decide), t1, t2]
  have hl1 : (4503599627370496 : Nat).log2 = 52 := by decide
  rw [quot_num _ _ _ _ _ _ (by decide), hl1, Nat.shiftLeft_eq]
  have hp : (2 : Nat) ^ (52 + 2 + 52 - (mg x).log2) = 2 ^ (54 - (mg x).log2) * 4503599627370496 := by
    rw [show 52 + 2 + 52 - (mg x).log2 = 54 - (mg x).log2 + 52 by omega, Nat.pow_add, show (2 ^ 52 : Nat) = 4503599627370496 by decide]
  have e1 : mg x * 2 ^ (52 + 2 + 52 - (mg x).log2) / 4503599627370496 = mg x * 2 ^ (54 - (mg x).log2) := by
    rw [hp, ← Nat.mul_assoc, Nat.mul_div_cancel _ (by decide)]
  have e2 : mg x * 2 ^ (52 + 2 + 52 - (mg x).log2) % 4503599627370496 = 0 := by
    rw [hp, ← Nat.mul_assoc, Nat.mul_mod_left]
  rw [e1, e2]
  have e3 : (2 * (mg x * 2 ^ (54 - (mg x).log2)) + ((0 : Nat) != 0).toNat) = mg x * 2 ^ (55 - (mg x).log2) := by
    have : ((0 : Nat) != 0).toNat = 0 := rfl
    rw [this, show 55 - (mg x).log2 = 54 - (mg x).log2 + 1 by omega, Nat.pow_succ]
    generalize 2 ^ (54 - (mg x).log2) = Z
    rw [← Nat.mul_assoc (mg x) Z 2]; omega
  rw [e3]
  show some (Ieee.double.write _) = _
  have hxl := ex_le h
  rw [write_num, near_eq hB _ _ _ (by omega)]
  have e4 : ((-(B : Int) + (ex x : Int)) - (-(B : Int) + ((B - 51 : Nat) : Int)) - ((52 + 2 + 52 - (mg x).log2 : Nat) : Int) - 1 + 2 * (B : Int)).toNat = ex x + (B - 56) + (mg x).log2 := by omega
  rw [e4, Nat.mul_assoc, ← Nat.pow_add, show 55 - (mg x).log2 + (ex x + (B - 56) + (mg x).log2) = ex x + (B - 1) by omega, Nat.pow_add, ← Nat.mul_assoc]
  have e5 : mg x * 2 ^ ex x * 2 ^ (B - 1) = MM y * 2 ^ B := by
    have : mg x * 2 ^ ex x = 2 * MM y := hxy
    rw [this, show B = B - 1 + 1 by omega, Nat.pow_succ, Nat.add_sub_cancel]
    rw [Nat.mul_comm 2, Nat.mul_assoc, Nat.mul_comm 2]
  rw [e5, RR_MM, Nat.min_eq_left (by omega), Bool.false_xor, word_false]
theorem mul_two {x y : Nat} (h : x < 9218868437227405312) (hy : y < 9218868437227405312) (hxy : 2 * MM x = MM y) : floatBits .mul .f64 x 4611686018427387904 = some y := by
  obtain ⟨t1, t2⟩ := two_MM hB
  have e : MM x * MM 4611686018427387904 = MM y * 2 ^ B := by
    unfold MM at hxy ⊢
    rw [t1, t2, show (4503599627370496 : Nat) = 2 ^ 52 by decide, ← Nat.pow_add, show 52 + (B - 51) = B + 1 by omega, Nat.pow_succ, ← hxy]
    generalize mg x * 2 ^ ex x = A
    generalize 2 ^ B = Z
    rw [Nat.mul_comm 2 A, Nat.mul_assoc, Nat.mul_comm 2 Z]
  have := mul_pos' hB h (x := 4611686018427387904) (by decide) (by rw [e, RR_MM]; exact hy)
  rw [this, e, RR_MM]
/-- A quotient's sign. -/
theorem read_neg {t : Nat} (h : t < 9218868437227405312) : Ieee.double.read (t + 9223372036854775808) = .number true (mg t) (-(B : Int) + (ex t : Int)) := by
  have h1 : rung (t + 9223372036854775808) = t := by unfold rung; omega
  have h2 : sgn (t + 9223372036854775808) = true := by
    unfold sgn; rw [show (t + 9223372036854775808) / 9223372036854775808 = 1 by omega]; rfl
  rw [read_fin (by rw [h1]; exact h), h1, h2, least hB]
end
theorem word_true (k : Nat) : Ieee.double.word true k = Ieee.double.word false k + 9223372036854775808 := by
  unfold Ieee.Format.word
  simp [Ieee.Format.signWeight, Ieee.double]
  try omega
theorem nearest_sign (m : Nat) (p : Int) : ∃ k, Ieee.double.nearest false m p = Ieee.double.word false k ∧ Ieee.double.nearest true m p = Ieee.double.word true k ∧ k ≤ 9218868437227405312 := by
  have hi : Ieee.double.infRung = 9218868437227405312 := by decide
  unfold Ieee.Format.nearest
  by_cases hm : m = 0
  · rw [if_pos hm, if_pos hm]
    exact ⟨_, rfl, rfl, by omega⟩
  · rw [if_neg hm, if_neg hm]
    simp only [cut_rne]
    exact ⟨_, rfl, rfl, by rw [hi]; exact Nat.min_le_right _ _⟩
theorem quo_neg {x y z : Nat} (hx : x < 9218868437227405312) (h0 : 0 < y) (hy : y < 9218868437227405312) (h : floatBits .quo .f64 x y = some z) : floatBits .quo .f64 (x + 9223372036854775808) y = some (z + 9223372036854775808) ∧ z ≤ 9218868437227405312 := by
  obtain ⟨B, hB⟩ : ∃ B : Nat, B = 1074 := ⟨_, rfl⟩
  rw [div_eq', read_pos hB hx, read_pos hB hy] at h
  rw [div_eq', read_neg hB hx, read_pos hB hy]
  have hm := mg_pos h0
  rw [quot_num _ _ _ _ _ _ (by omega)] at h ⊢
  simp only [Option.map_some, Option.some.injEq] at h ⊢
  rw [write_num, Bool.false_xor] at h
  rw [write_num, Bool.true_xor, Bool.not_false]
  obtain ⟨k, k1, k2, k3⟩ := nearest_sign (2 * ((mg x <<< (52 + 2 + (mg y).log2 - (mg x).log2)) / mg y) + (((mg x <<< (52 + 2 + (mg y).log2 - (mg x).log2)) % mg y != 0)).toNat) (-(B : Int) + (ex x : Int) - (-(B : Int) + (ex y : Int)) - (52 + 2 + (mg y).log2 - (mg x).log2 : Nat) - 1)
  rw [k1] at h
  have hz : z = k := by rw [← h]; exact (word_false _ _)
  rw [k2, word_true, h]
  exact ⟨rfl, by omega⟩
end Go.Vc

/-
  Numbers, in plain Lean: powers of two times a number.
-/
namespace Go.Vc
open Go.RowKit
theorem rep_exact (B : Nat) {N i : Nat} (hN : N < 9007199254740992) : MM (RR B (N * 2 ^ i * 2 ^ B)) = N * 2 ^ i := by
  by_cases h0 : N = 0
  · subst h0
    rw [Nat.zero_mul, Nat.zero_mul, RR_zero, MM_zero]
  · have hk : N.log2 < 53 := (Nat.pow_lt_pow_iff_right (a := 2) (by decide)).1 (Nat.lt_of_le_of_lt (le_log h0) (by simpa using hN))
    have a1 : 4503599627370496 ≤ N * 2 ^ (52 - N.log2) := by
      have := Nat.mul_le_mul_right (2 ^ (52 - N.log2)) (le_log h0)
      rwa [← Nat.pow_add, show N.log2 + (52 - N.log2) = 52 by omega] at this
    have a2 : N * 2 ^ (52 - N.log2) < 9007199254740992 := by
      have := Nat.mul_lt_mul_of_pos_right (lt_log N) (Nat.two_pow_pos (52 - N.log2))
      rwa [← Nat.pow_add, show N.log2 + 1 + (52 - N.log2) = 53 by omega] at this
    rcases Nat.lt_or_ge i (52 - N.log2) with hi | hi
    · have hm : N * 2 ^ i * 2 ^ (52 - N.log2 - i) = N * 2 ^ (52 - N.log2) := by
        rw [Nat.mul_assoc, ← Nat.pow_add, show i + (52 - N.log2 - i) = 52 - N.log2 by omega]
      have hle : N * 2 ^ i * 2 ≤ N * 2 ^ (52 - N.log2) := by
        rw [← hm]
        refine Nat.mul_le_mul_left _ ?_
        have := Nat.pow_le_pow_right (show 0 < 2 by decide) (show 1 ≤ 52 - N.log2 - i by omega)
        simpa using this
      rw [RR_sub B (by omega)]
      unfold MM mg ex
      rw [if_pos (by omega), if_pos (by omega), Nat.pow_zero, Nat.mul_one]
    · have e1 : N * 2 ^ i * 2 ^ B = N * 2 ^ (52 - N.log2) * 2 ^ (i - (52 - N.log2) + B) := by
        rw [Nat.mul_assoc, ← Nat.pow_add, Nat.mul_assoc, ← Nat.pow_add, pw (show i + B = 52 - N.log2 + (i - (52 - N.log2) + B) by omega)]
      have e2 : N * 2 ^ i = N * 2 ^ (52 - N.log2) * 2 ^ (i - (52 - N.log2)) := by
        rw [Nat.mul_assoc, ← Nat.pow_add, pw (show i = 52 - N.log2 + (i - (52 - N.log2)) by omega)]
      rw [e1, RR_norm B a1 a2 (by omega), e2]
      generalize N * 2 ^ (52 - N.log2) = M at *
      generalize i - (52 - N.log2) = z at *
      unfold MM mg ex
      rw [if_neg (by omega), if_neg (by omega), pw (show ((z + B - B) * 4503599627370496 + M) / 4503599627370496 - 1 = z by omega), show 4503599627370496 + ((z + B - B) * 4503599627370496 + M) % 4503599627370496 = M by omega]
theorem mg_lt53 (r : Nat) : mg r < 9007199254740992 := mg_lt r
section
variable {B : Nat} (hB : B = 1074) {r M0 n : Nat} {E : Int} (hn : n ≤ 13) (hM : M0 * 16 ^ (13 - n) = nM r) (hE : nE r = E)
include hB hn hM hE
/-- The value behind the digits. -/
theorem digits_val : MM r * 2 ^ (4 * (n : Int) - E).toNat = M0 * 2 ^ B * 2 ^ (E - 4 * (n : Int)).toNat := by
  have h1 := MM_nM (r := r)
  have hNE : nE r = (ex r : Int) - 1022 - (mgk r : Int) := rfl
  have h16 : (16 : Nat) ^ (13 - n) = 2 ^ (52 - 4 * n) := by
    rw [show 52 - 4 * n = 4 * (13 - n) by omega, Nat.pow_mul]
  rw [← hM, h16] at h1
  generalize mgk r = K at *
  generalize ex r = x at *
  generalize MM r = V at *
  -- V * 2^K = M0 * 2^(52-4n) * 2^x ; E = x - 1022 - K
  have h2 : V * 2 ^ K = M0 * 2 ^ (52 - 4 * n + x) := by rw [h1, Nat.mul_assoc, ← Nat.pow_add]
  have h3 : V * 2 ^ (4 * (n : Int) - E).toNat * 2 ^ K = M0 * 2 ^ B * 2 ^ (E - 4 * (n : Int)).toNat * 2 ^ K := by
    rw [Nat.mul_right_comm, h2, Nat.mul_assoc, Nat.mul_assoc, Nat.mul_assoc, ← Nat.pow_add, ← Nat.pow_add, ← Nat.pow_add]
    rw [pw (show 52 - 4 * n + x + (4 * (n : Int) - E).toNat = B + ((E - 4 * (n : Int)).toNat + K) by omega)]
  exact Nat.eq_of_mul_eq_mul_right (Nat.two_pow_pos K) h3
end
end Go.Vc

/-
  The document's decimal numbers, in any text.
-/
namespace Go.Proofs.YtffhlgejfgmpiaaGreatDoor
open Go.RowKit Go.Vc
variable {w : World} {R : Ending → World → Prop}
theorem rdec_all (s : ByteArray) (hs : s.size ≤ 140737488355328) : Does Tryz.prog 33 #[.string s] w fun e w' => ∃ f b, e = .returned (.tuple #[.float .f64 f, .bool b]) ∧ Wd f ∧ decC (L s) = (if b then some (cls f) else none) ∧ Ext w w' := by
  refine f33_does _ ?_
  have hl := L_len s
  have no : decOk (L s) = false → ∀ {w'}, Ext w w' → ∃ f b, Ending.returned (.tuple #[.float .f64 0, .bool false]) = .returned (.tuple #[.float .f64 f, .bool b]) ∧ Wd f ∧ decC (L s) = (if b then some (cls f) else none) ∧ Ext w w' := fun h {w'} x =>
    ⟨0, false, rfl, by unfold Wd; decide, by unfold decC; rw [if_neg (by rw [h]; simp)]; rfl, x⟩
  have noc : (decOk (L s) = true → False) → decOk (L s) = false := fun h => by
    cases e : decOk (L s) with
    | false => rfl
    | true => exact (h e).elim
  refine ⟨fun x4 x5 x6 x7 n wl => ∃ j : Nat, x7 = j ∧ n = s.size - j ∧ j ≤ s.size ∧ x4 = (numV (digs (L s) j) : Int) ∧ x5 = ((digs (L s) j).length : Int) ∧ (digs (L s) j).length ≤ 15 ∧ numV (digs (L s) j) < 10 ^ (digs (L s) j).length ∧
      ((j ≤ (headD (L s)).length ∧ x6 = -1) ∨ ((headD (L s)).length < j ∧ 0 < (headD (L s)).length ∧ x6 = (j : Int) - (headD (L s)).length - 1 ∧ ∀ i (hi : i < (L s).length), (headD (L s)).length < i → i < j → (L s)[i] ≠ 46)) ∧ (∀ i (hi : i < (L s).length), i < j → isNum (L s)[i] = true) ∧ wl = w,
    ⟨_, 0, rfl, rfl, Nat.zero_le _, rfl, rfl, Nat.zero_le _, by show numV [] < 10 ^ 0; decide, .inl ⟨Nat.zero_le _, rfl⟩, fun i hi h => by omega, rfl⟩, ?_⟩
  rintro _ _ x6 _ _ wl ⟨j, rfl, rfl, hj, rfl, rfl, h15, hlt, hst, hnum, rfl⟩
  have hpow : (10 : Nat) ^ (digs (L s) j).length ≤ 1000000000000000 := by
    have := Nat.pow_le_pow_right (show 0 < 10 by decide) h15
    have e : (10 : Nat) ^ 15 = 1000000000000000 := by decide
    omega
  refine brr (fun q => ?_) fun q => ?_
  · have q := of_decide_eq_true q
    have hjl : j < (L s).length := by omega
    rw [L_sb hjl]
    have snoc : isNum (L s)[j] = true → ∀ i (hi : i < (L s).length), i < j + 1 → isNum (L s)[i] = true := fun h i hi hij => by
      rcases Nat.lt_or_ge i j with h1 | h1
      · exact hnum i hi h1
      · have : i = j := by omega
        subst this; exact h
    have hb1 : 0 ≤ x6 → (L s)[j] = 46 → decOk (L s) = true → False := fun h6 hc hd => by
      rcases dec_char hd hjl with ⟨e, _⟩ | ⟨_, e⟩
      · rcases hst with ⟨_, e6⟩ | ⟨h1, _⟩ <;> omega
      · omega
    have hb2 : ¬ (j : Int) > 0 → (L s)[j] = 46 → decOk (L s) = true → False := fun h0 hc hd => by
      rcases dec_char hd hjl with ⟨e, _⟩ | ⟨_, e⟩
      · have h0 := (dec_facts hd).2.1
        omega
      · omega
    refine ⟨⟨by omega, by omega⟩, brr (fun hc => brr (fun q1 => brr (fun q2 => ?a) fun q2 => ?_) fun q1 => ?_) fun hc => ?_⟩
    case a =>
      have hc : (L s)[j] = 46 := by simpa using hc
      have q1 := of_decide_eq_true q1
      have q2 := of_decide_eq_true q2
      refine fls (decide_eq_false (by omega)) ⟨inI64 (by omega) (by omega), _, ?_, j + 1, by omega, rfl, by omega, by rw [digs_dot hjl hc], by rw [digs_dot hjl hc], by rw [digs_dot hjl hc]; exact h15, by rw [digs_dot hjl hc]; exact hlt, .inr ?_, snoc (by rw [hc]; rfl), rfl⟩
      · omega
      · rcases hst with ⟨h1, _⟩ | ⟨h1, _, h3, _⟩
        · have e : j = (headD (L s)).length := by
            rcases Nat.lt_or_ge j (headD (L s)).length with h | h
            · exact absurd hc (head_char h hjl)
            · omega
          exact ⟨by omega, by omega, by omega, fun i hi a b => by omega⟩
        · omega
    all_goals
      have hb : (L s)[j] = 46 → decOk (L s) = true → False := by
        first
          | exact hb1 (by have := of_decide_eq_false q1; omega)
          | exact hb2 (of_decide_eq_false q2)
          | exact fun h => by rw [h] at hc; simp at hc
      refine ⟨⟨by omega, by omega⟩, digit_does _ ⟨_, rfl, brr (fun hd => no (noc fun h => ?_) (Upd.refl _ _)) fun hd => ?_⟩⟩
      · rcases dec_char h hjl with ⟨_, e⟩ | ⟨_, e⟩
        · exact hb e h
        · unfold isDig at hd; simp at hd; omega
      · have hd : 48 ≤ (L s)[j] ∧ (L s)[j] ≤ 57 := by unfold isDig at hd; simpa using hd
        have h46 : (L s)[j] ≠ 46 := by omega
        have hnj : isNum (L s)[j] = true := by unfold isNum; rw [decide_eq_true hd.1, decide_eq_true hd.2]; simp
        have hw : IntKind.wrap .u8 ((L s)[j] - 48) = (L s)[j] - 48 := wrap_in ⟨by show (0 : Int) ≤ _; omega, by show _ ≤ (255 : Int); omega⟩
        have e1 := digs_dig hjl h46
        have e2 : (numV (digs (L s) (j + 1)) : Int) = (numV (digs (L s) j) : Int) * 10 + ((L s)[j] - 48) := by rw [e1, numV_snoc]; omega
        have e3 : (digs (L s) (j + 1)).length = (digs (L s) j).length + 1 := by rw [e1]; simp
        have e4 : numV (digs (L s) (j + 1)) < 10 ^ (digs (L s) (j + 1)).length := by rw [e3, Nat.pow_succ]; omega
        have long : ((digs (L s) j).length : Int) + 1 > 15 → decOk (L s) = true → False := fun h hd => by have := digs_len hd (j + 1); omega
        rw [hw, ← e2]
        refine ⟨inI64 (by omega) (by omega), ⟨by omega, by omega⟩, inI64 (by omega) (by omega), inI64 (by omega) (by rw [e3, Nat.pow_succ] at e4; omega), inI64 (by omega) (by omega), brr (fun q6 => ⟨inI64 (by omega) (by omega), brr (fun q7 => no (noc (long (of_decide_eq_true q7))) (Upd.refl _ _)) fun q7 => ⟨inI64 (by omega) (by omega), _, ?_, j + 1, by omega, rfl, by omega, rfl, by omega, by have := of_decide_eq_false q7; omega, e4, ?_, snoc hnj, rfl⟩⟩) fun q6 => brr (fun q7 => no (noc (long (of_decide_eq_true q7))) (Upd.refl _ _)) fun q7 => ⟨inI64 (by omega) (by omega), _, ?_, j + 1, by omega, rfl, by omega, rfl, by omega, by have := of_decide_eq_false q7; omega, e4, ?_, snoc hnj, rfl⟩⟩
        · omega
        · have q6 := of_decide_eq_true q6
          rcases hst with ⟨h1, h2⟩ | ⟨h1, h2, h3, h4⟩
          · omega
          · refine .inr ⟨by omega, h2, by omega, fun i hi a b => ?_⟩
            rcases Nat.lt_or_ge i j with h | h
            · exact h4 i hi a h
            · have : i = j := by omega
              subst this; exact h46
        · omega
        · have q6 := of_decide_eq_false q6
          rcases hst with ⟨h1, h2⟩ | ⟨h1, h2, h3, h4⟩
          · refine .inl ⟨?_, h2⟩
            rcases Nat.lt_or_ge j (headD (L s)).length with h | h
            · omega
            · have e : j = (headD (L s)).length := by omega
              have := head_stop (d := L s) (by omega)
              simp only [← e] at this
              exact absurd this h46
          · omega
  · have q := of_decide_eq_false q
    have hjs : j = (L s).length := by omega
    have hall : ∀ x ∈ L s, isNum x = true := fun x hx => by
      obtain ⟨i, hi, e⟩ := List.mem_iff_getElem.1 hx
      rw [← e]; exact hnum i hi (by omega)
    have htl : (tailD (L s)).length = (L s).length - ((headD (L s)).length + 1) := by unfold tailD; rw [List.length_drop]
    have hhl : (headD (L s)).length ≤ (L s).length := List.IsPrefix.length_le (List.takeWhile_prefix _)
    have ht46 : ∀ x ∈ tailD (L s), x ≠ 46 := fun x hx => by
      obtain ⟨i, hi, e⟩ := List.mem_iff_getElem.1 hx
      rcases hst with ⟨h1, h2⟩ | ⟨h1, h2, h3, h4⟩
      · omega
      · have := h4 ((headD (L s)).length + 1 + i) (by omega) (by omega) (by omega)
        have e2 : (tailD (L s))[i]? = (L s)[(headD (L s)).length + 1 + i]? := by unfold tailD; rw [List.getElem?_drop]
        rw [List.getElem?_eq_getElem hi, List.getElem?_eq_getElem (by omega), e] at e2
        rw [Option.some.inj e2]
        exact this
    have hD := digs_all' ht46
    rw [hjs, hD] at hlt h15 hpow ⊢
    have digOf : ∀ x, isNum x = true → x ≠ 46 → isDig x = true := fun x h1 h2 => by
      unfold isNum at h1
      simp only [Bool.or_eq_true, beq_iff_eq] at h1
      rcases h1 with h1 | h1
      · exact absurd h1 h2
      · exact h1
    have memH : ∀ x ∈ headD (L s), x ∈ L s := fun x hx => (List.takeWhile_sublist _).subset hx
    have memT : ∀ x ∈ tailD (L s), x ∈ L s := fun x hx => List.mem_of_mem_drop hx
    have fH : (headD (L s)).all isDig = true := List.all_eq_true.2 fun x hx => digOf x (hall x (memH x hx)) (head_no x hx)
    have fT : (tailD (L s)).all isDig = true := List.all_eq_true.2 fun x hx => digOf x (hall x (memT x hx)) (ht46 x hx)
    have h15' : (headD (L s)).length + (tailD (L s)).length ≤ 15 := by rw [List.length_append] at h15; exact h15
    refine brr (fun q2 => no (noc fun h => ?_) (Upd.refl _ _)) fun q2 => brr (fun q3 => no (noc fun h => ?_) (Upd.refl _ _)) fun q3 => ?_
    · have q2 : ((headD (L s) ++ tailD (L s)).length : Int) = 0 := by simpa using q2
      have := (dec_facts h).2.1
      rw [List.length_append] at q2
      omega
    · have q3 : x6 = 0 := by simpa using q3
      rcases hst with ⟨h1, h2⟩ | ⟨h1, h2, h3, h4⟩
      · omega
      · have := dec_tail h (by omega)
        omega
    have q2 : (headD (L s)).length + (tailD (L s)).length ≠ 0 := fun e => by
      rw [List.length_append, e] at q2; simp at q2
    have q3 : x6 ≠ 0 := by simpa using q3
    have hh0 : 0 < (headD (L s)).length := by
      rcases hst with ⟨h1, h2⟩ | ⟨h1, h2, h3, h4⟩ <;> omega
    have hsz0 : 0 < (L s).length := by omega
    have hfirst : (headD (L s)).headD 0 = (L s)[0] := by
      have e : (L s)[0]? = (headD (L s))[0]? := by
        conv => lhs; rw [dec_split (L s)]
        rw [List.getElem?_append_left hh0]
      rw [List.getElem?_eq_getElem hsz0, List.getElem?_eq_getElem hh0] at e
      rw [Option.some.inj e, headD_zero hh0]
    have hk : ∃ k : Nat, k = (tailD (L s)).length ∧ (x6 = k ∨ (x6 = -1 ∧ k = 0)) := ⟨_, rfl, by
      rcases hst with ⟨h1, h2⟩ | ⟨h1, h2, h3, h4⟩ <;> omega⟩
    obtain ⟨k, hkt, hk6⟩ := hk
    have good : ((headD (L s)).length ≤ 1 ∨ (L s)[0] ≠ 48) → decOk (L s) = true := fun h => by
      unfold decOk
      simp only [Bool.and_eq_true, Bool.or_eq_true, decide_eq_true_eq, bne_iff_ne, Bool.not_eq_true']
      refine ⟨⟨⟨?_, by rw [hfirst]; exact h⟩, ?_⟩, h15'⟩
      · unfold figs
        rw [fH, Bool.true_and, Bool.not_eq_true', List.isEmpty_eq_false_iff]
        exact List.length_pos_iff.1 hh0
      · rcases hst with ⟨h1, h2⟩ | ⟨h1, h2, h3, h4⟩
        · left; unfold pointD; exact decide_eq_false (by omega)
        · right
          unfold figs
          rw [fT, Bool.true_and, Bool.not_eq_true', List.isEmpty_eq_false_iff]
          exact List.length_pos_iff.1 (by omega)
    have hM : numV (headD (L s) ++ tailD (L s)) < 1000000000000000 := by omega
    have fin : decOk (L s) = true → ∃ f71 : Nat, ∃ w71, (convert 3 22 (.int .i64 (numV (headD (L s) ++ tailD (L s)) : Int))).run Tryz.prog wl = .ok (.float .f64 f71) w71 ∧ ∃ I22 : Nat → Int → Nat → World → Prop, (∃ nl22, I22 4607182418800017408 0 nl22 w71) ∧ ∀ f9 : Nat, ∀ x10 : Int, ∀ (nl22 : Nat) (wl22 : World), I22 f9 x10 nl22 wl22 →
        Br (decide (x10 < x6))
        (∃ f78 : Nat, ∃ w78, (binOp .mul 22 (.float .f64 f9) (.float .f64 4621819117588971520)).run Tryz.prog wl22 = .ok (.float .f64 f78) w78 ∧ InK .i64 (x10 + 1) ∧ ∃ ml22, ml22 < nl22 ∧ I22 f78 (x10 + 1) ml22 w78)
        (∃ f81 : Nat, ∃ w81, (binOp .quo 22 (.float .f64 f71) (.float .f64 f9)).run Tryz.prog wl22 = .ok (.float .f64 f81) w81 ∧ ∃ f b, Ending.returned (.tuple #[.float .f64 f81, .bool true]) = .returned (.tuple #[.float .f64 f, .bool b]) ∧ Wd f ∧ decC (L s) = (if b then some (cls f) else none) ∧ Ext wl w81) := fun hd => by
      refine ⟨_, wl, i2f wl, fun f9 x10 n22 w22 => ∃ t : Nat, x10 = t ∧ t ≤ k ∧ n22 = k - t ∧ f9 = ten t ∧ Ext wl w22, ⟨_, 0, rfl, Nat.zero_le _, rfl, ten_zero.symm, Upd.refl _ _⟩, ?_⟩
      rintro _ _ _ w22 ⟨t, rfl, ht, rfl, rfl, x22⟩
      refine brr (fun q7 => ?_) fun q7 => ?_
      · have q7 := of_decide_eq_true q7
        have hm := ten_mul t (by omega)
        have hw1 : Wd (ten (t + 1)) := foi_wd _
        obtain ⟨r, w', h1, h2, h3, h4⟩ := flt_run (P := Tryz.prog) .mul rfl 22 (ten t) 4621819117588971520 w22
        refine ⟨r, w', h1, inI64 (by omega) (by omega), _, ?_, t + 1, by omega, by omega, rfl, ?_, Ext.then x22 h2⟩
        · omega
        · rcases h4 with h | ⟨h, _⟩
          · rw [hm] at h; exact (Option.some.inj h).symm
          · rw [hm] at h; cases h
      · have q7 := of_decide_eq_false q7
        have et : t = k := by omega
        subst et
        obtain ⟨r, w', h1, h2, h3, h4⟩ := opC_run (P := Tryz.prog) .quo rfl 22 (floatOfInt .f64 (numV (headD (L s) ++ tailD (L s)) : Int)) (ten t) w22
        refine ⟨r, w', h1, r, true, rfl, h3, ?_, Ext.then x22 h2⟩
        unfold decC
        rw [if_pos hd, if_pos rfl, h4, decV_eq hM (by omega), hkt]
    refine ⟨⟨by omega, by omega⟩, brr (fun q4 => ⟨by split <;> exact inI64 (by omega) (by omega), brr (fun q5 => no (noc fun h => ?_) (Upd.refl _ _)) fun q5 => fin (good ?_)⟩) fun q4 => fin (good (.inr ?_))⟩
    · have q5 := of_decide_eq_true q5
      have h3 := (dec_facts h).2.2.1
      rw [hfirst] at h3
      have e0 : sb s 0 = (L s)[0] := L_sb hsz0
      rw [e0] at q4
      have q4 : (L s)[0] = 48 := by simpa using q4
      rw [List.length_append] at q5
      split at q5 <;> omega
    · have q5 := of_decide_eq_false q5
      left
      rw [List.length_append] at q5
      split at q5 <;> omega
    · have e0 : sb s 0 = (L s)[0] := L_sb hsz0
      rw [e0] at q4
      simpa using q4
end Go.Proofs.YtffhlgejfgmpiaaGreatDoor

/-
  The document's numbers in base 16.
-/
namespace Go.Vc
open Go.RowKit
def hexV (c : Int) : Int := if isDig c then IntKind.wrap .u64 (IntKind.wrap .u8 (c - 48)) else if 97 ≤ c then (if c ≤ 102 then IntKind.wrap .u64 ((IntKind.wrap .u64 (IntKind.wrap .u8 (c - 97))) + 10) else 16) else 16
theorem hexV_hexc : ∀ d : Nat, d < 16 → hexV (hexc d) = (d : Int) := by decide +kernel
theorem or16 {X d : Nat} (hX : X < 1152921504606846976) (hd : d < 16) : bits .or .u64 (IntKind.wrap .u64 ((X : Int) * 2 ^ 4)) (d : Int) = ((X * 16 + d : Nat) : Int) := by
  have e : (X : Int) * 2 ^ 4 = ((X * 16 : Nat) : Int) := by
    have : (2 : Int) ^ 4 = 16 := by decide
    rw [this]; omega
  rw [e, w64 (by omega), bor (by omega) (by omega)]
  have := Nat.shiftLeft_add_eq_or_of_lt (i := 4) (b := d) (by omega) X
  rw [Nat.shiftLeft_eq, show (2 : Nat) ^ 4 = 16 by decide] at this
  rw [← this]
end Go.Vc
namespace Go.Proofs.YtffhlgejfgmpiaaGreatDoor
open Go.RowKit Go.Vc
variable {w : World} {R : Ending → World → Prop}
theorem rhex_does (c : Int) (h : R (.returned (.int .u64 (hexV c))) w) : Does Tryz.prog 54 #[.int .u8 c] w R := by
  refine f54_does _ (digit_does c ⟨_, rfl, brr (fun q => ?_) fun q => brr (fun q1 => brr (fun q2 => ?_) fun q2 => ?_) fun q1 => ?_⟩)
  · unfold hexV at h; rw [if_pos q] at h; exact h
  · unfold hexV at h; rw [if_neg (by rw [q]; simp), if_pos (of_decide_eq_true q1), if_pos (of_decide_eq_true q2)] at h; exact h
  · unfold hexV at h; rw [if_neg (by rw [q]; simp), if_pos (of_decide_eq_true q1), if_neg (of_decide_eq_false q2)] at h; exact h
  · unfold hexV at h; rw [if_neg (by rw [q]; simp), if_neg (of_decide_eq_false q1)] at h; exact h
/-- Whatever stands there: it ends. -/
theorem power_any {t : ByteArray} (h3 : 3 < t.size) (h40 : t.size < 40) : Does Tryz.prog 31 #[.string t] w fun e w' => ∃ f b, e = .returned (.tuple #[.float .f64 f, .bool b]) ∧ Wd f ∧ Ext w w' := by
  have no : ∃ f b, Ending.returned (.tuple #[.float .f64 0, .bool false]) = .returned (.tuple #[.float .f64 f, .bool b]) ∧ Wd f ∧ Ext w w := ⟨0, false, rfl, by unfold Wd; decide, Upd.refl _ _⟩
  refine f31_does _ ?_
  unfold f31_vc
  refine ⟨fun x y z n wc => 3 ≤ x ∧ x ≤ t.size ∧ 0 ≤ z ∧ z ≤ 13 ∧ w = wc, brr (fun _ => ⟨⟨by omega, by omega⟩, brr (fun _ => ?_) fun _ => ⟨0, by omega, by omega, by omega, by omega, rfl⟩⟩) fun _ => ⟨0, by omega, by omega, by omega, by omega, rfl⟩, ?_⟩
  · refine ⟨inI64 (by omega) (by omega), fun x y z n wl => 3 ≤ x ∧ x ≤ t.size ∧ 0 ≤ z ∧ z ≤ 13 ∧ n = (t.size - x).toNat ∧ w = wl, ⟨_, by omega, by omega, by omega, by omega, rfl, rfl⟩, ?_⟩
    rintro x y z _ _ ⟨a1, a2, a3, a4, rfl, rfl⟩
    have out : ∃ nc10 : Nat, 3 ≤ x ∧ x ≤ t.size ∧ 0 ≤ z ∧ z ≤ 13 ∧ w = w := ⟨0, a1, a2, a3, a4, rfl⟩
    refine brr (fun q => ?_) fun _ => out
    have q := of_decide_eq_true q
    refine ⟨⟨by omega, by omega⟩, rhex_does _ ⟨_, rfl, brr (fun _ => brr (fun q2 => ?_) fun _ => out) fun _ => out⟩⟩
    have q2 := of_decide_eq_true q2
    exact ⟨by decide, ⟨by omega, by omega⟩, rhex_does _ ⟨_, rfl, inI64 (by omega) (by omega), inI64 (by omega) (by omega), (t.size - (x + 1)).toNat, by omega, by omega, by omega, by omega, by omega, rfl, rfl⟩⟩
  rintro x y z _ _ ⟨a1, a2, a3, a4, rfl⟩
  refine ⟨fun n wc => x + 2 < t.size ∧ t.size - x ≤ 6 ∧ w = wc, ⟨inI64 (by omega) (by omega), brr (fun _ => no) fun q => ?_⟩, ?_⟩
  · have q := of_decide_eq_false q
    have six : InK .i64 ((t.size : Int) - x) ∧ Br (decide ((t.size : Int) - x > 6)) (∃ f b, Ending.returned (.tuple #[.float .f64 0, .bool false]) = .returned (.tuple #[.float .f64 f, .bool b]) ∧ Wd f ∧ Ext w w) (∃ nc12 : Nat, x + 2 < t.size ∧ t.size - x ≤ 6 ∧ w = w) :=
      ⟨inI64 (by omega) (by omega), brr (fun _ => no) fun q2 => ⟨0, by omega, by have := of_decide_eq_false q2; omega, rfl⟩⟩
    exact ⟨⟨by omega, by omega⟩, brr (fun _ => no) fun _ => ⟨inI64 (by omega) (by omega), ⟨by omega, by omega⟩, brr (fun _ => ⟨inI64 (by omega) (by omega), ⟨by omega, by omega⟩, brr (fun _ => no) fun _ => six⟩) fun _ => six⟩⟩
  rintro _ _ ⟨b1, b2, rfl⟩
  refine ⟨inI64 (by omega) (by omega), fun v k n wl => ∃ j : Nat, k = x + 2 + (j : Int) ∧ k ≤ t.size ∧ 0 ≤ v ∧ v < ((10 ^ j : Nat) : Int) ∧ n = (t.size - k).toNat ∧ w = wl, ⟨_, 0, by omega, by omega, by omega, by decide, rfl, rfl⟩, ?_⟩
  rintro v _ _ _ ⟨j, rfl, c1, c2, c3, rfl, rfl⟩
  have hj : j ≤ 4 := by omega
  have hp : 10 ^ j ≤ 10 ^ 4 := Nat.pow_le_pow_right (by decide) hj
  have hp4 : (10 : Nat) ^ 4 = 10000 := by decide
  refine brr (fun q => ?_) fun q => ?_
  · have q := of_decide_eq_true q
    refine ⟨⟨by omega, by omega⟩, digit_does _ ⟨_, rfl, brr (fun _ => no) fun q2 => ?_⟩⟩
    have q2 : isDig (sb t (x + 2 + (j : Int))) = true := by simpa using q2
    unfold isDig at q2
    simp only [Bool.and_eq_true, decide_eq_true_eq] at q2
    have hw : IntKind.wrap .u8 (sb t (x + 2 + (j : Int)) - 48) = sb t (x + 2 + (j : Int)) - 48 := wrap_in ⟨by show (0 : Int) ≤ _; omega, by show _ ≤ (255 : Int); omega⟩
    have hps : 10 ^ (j + 1) = 10 ^ j * 10 := Nat.pow_succ ..
    rw [hw]
    exact ⟨inI64 (by omega) (by omega), ⟨by omega, by omega⟩, inI64 (by omega) (by omega), inI64 (by omega) (by omega), inI64 (by omega) (by omega), (t.size - (x + 2 + (j : Int) + 1)).toNat, by omega, j + 1, by omega, by omega, by omega, by omega, rfl, rfl⟩
  refine ⟨fun v n wc => -10000 ≤ v ∧ v ≤ 10000 ∧ w = wc, ⟨inI64 (by omega) (by omega), ⟨by omega, by omega⟩, brr (fun _ => ⟨inI64 (by omega) (by omega), 0, by omega, by omega, rfl⟩) fun _ => ⟨0, by omega, by omega, rfl⟩⟩, ?_⟩
  rintro v _ _ ⟨d1, d2, rfl⟩
  refine ⟨_, w, u2f w, inI64 (by omega) (by omega), inI64 (by omega) (by omega), fun v f n wl => -10100 ≤ v ∧ v ≤ 10000 ∧ Wd f ∧ n = v.toNat ∧ Ext w wl, ⟨_, by omega, by omega, foi_wd _, rfl, Upd.refl _ _⟩, ?_⟩
  rintro v f _ wl ⟨e1, e2, e3, rfl, xl⟩
  refine brr (fun q => ?_) fun q => ?_
  · have q := of_decide_eq_true q
    obtain ⟨r, w', h1, h2, h3, _⟩ := flt_run (P := Tryz.prog) .mul rfl 22 f 4611686018427387904 wl
    exact ⟨r, w', h1, inI64 (by omega) (by omega), (v - 1).toNat, by omega, by omega, by omega, h3, rfl, Ext.then xl h2⟩
  refine ⟨fun v f n wl => -10100 ≤ v ∧ v ≤ 10000 ∧ Wd f ∧ n = (-v).toNat ∧ Ext w wl, ⟨_, e1, e2, e3, rfl, xl⟩, ?_⟩
  rintro v f _ wl ⟨e1, e2, e3, rfl, xl⟩
  refine brr (fun q => brr (fun _ => ?_) fun _ => ⟨f, true, rfl, e3, xl⟩) fun _ => ⟨f, true, rfl, e3, xl⟩
  have q := of_decide_eq_true q
  obtain ⟨r, w', h1, h2, h3, _⟩ := flt_run (P := Tryz.prog) .quo rfl 22 f 4611686018427387904 wl
  exact ⟨r, w', h1, inI64 (by omega) (by omega), (-(v + 1)).toNat, by omega, by omega, by omega, h3, rfl, Ext.then xl h2⟩
section
variable {t : ByteArray} {ds : List Nat} {r : Nat} (hs : L t = 48 :: 120 :: (mantL ds ++ expL (nE r))) (hd : ∀ d ∈ ds, d < 16) (hl : ds.length ≤ 13) (hM : hexN (1 :: ds) * 16 ^ (13 - ds.length) = nM r) (h0 : 0 < r) (h1 : r < 9218868437227405312)
include hs hd hl hM h0 h1
/-- What Show writes. -/
theorem power_hex : Does Tryz.prog 31 #[.string t] w fun e w' => e = .returned (.tuple #[.float .f64 r, .bool true]) ∧ Ext w w' := by
  obtain ⟨be1, be2⟩ := nE_bounds h0 h1
  have hs' : L t = sgnL false ++ 48 :: 120 :: (mantL ds ++ expL (nE r)) := hs
  have hz := hex_size hs'
  have hml := mant_len ds
  have hm15 : (mantL ds).length ≤ 15 ∧ 1 ≤ (mantL ds).length := by rw [hml]; split <;> omega
  obtain ⟨sg, D, hx, hD, hsg⟩ := exp_text (e := nE r)
  have hxl : (expL (nE r)).length = D.length + 2 := by rw [hx]; rfl
  have hDl : D.length ≤ 4 := by rw [hD]; exact decL_len_le (by decide) (by omega)
  have hDp : 1 ≤ D.length := by rw [hD]; exact decL_pos _
  have hz : t.size = 2 + (mantL ds).length + (D.length + 2) := by
    have e : (sgnL false).length = 0 := rfl
    rw [e, hxl] at hz; omega
  have cm : ∀ j (hj : j < (mantL ds).length), sb t ((2 + j : Nat) : Int) = (mantL ds)[j] := fun j hj => by
    have := hex_mant hs' hj
    rw [show (sgnL false).length + 2 + j = 2 + j by show 0 + 2 + j = _; omega] at this
    exact this
  have cx : ∀ k (hk : k < (expL (nE r)).length), sb t ((2 + (mantL ds).length + k : Nat) : Int) = (expL (nE r))[k] := fun k hk => by
    have := hex_exp hs' hk
    rw [show (sgnL false).length + 2 + (mantL ds).length + k = 2 + (mantL ds).length + k by show 0 + 2 + _ + k = _; omega] at this
    exact this
  have cx0 : sb t ((2 + (mantL ds).length : Nat) : Int) = 112 := by
    have := cx 0 (by omega)
    rw [Nat.add_zero] at this
    rw [this]; simp [hx]
  have cx1 : sb t ((2 + (mantL ds).length : Nat) + 1 : Int) = sg := by
    have := cx 1 (by omega)
    rw [show (((2 + (mantL ds).length : Nat) : Int) + 1) = ((2 + (mantL ds).length + 1 : Nat) : Int) by omega, this]
    simp [hx]
  have cxd : ∀ k (hk : k < D.length), sb t ((2 + (mantL ds).length + 2 + k : Nat) : Int) = D[k] := fun k hk => by
    have := cx (2 + k) (by omega)
    rw [show 2 + (mantL ds).length + 2 + k = 2 + (mantL ds).length + (2 + k) by omega, this]
    have : (expL (nE r))[2 + k]? = some D[k] := by
      rw [hx, show 2 + k = k + 1 + 1 by omega, List.getElem?_cons_succ, List.getElem?_cons_succ, List.getElem?_eq_getElem hk]
    rw [List.getElem?_eq_getElem (by omega)] at this
    exact Option.some.inj this
  have hDd : ∀ k (hk : k < D.length), 48 ≤ D[k] ∧ D[k] ≤ 57 := fun k hk => by
    have hm : ∀ x ∈ D, 48 ≤ x ∧ x ≤ 57 := by rw [hD]; exact decL_dig _
    exact hm _ (List.getElem_mem hk)
  have hMlt : hexN (1 :: ds) < 9007199254740992 := by
    have := (nM_bounds h0).2
    have h16 := Nat.pow_pos (n := 13 - ds.length) (show 0 < 16 by decide)
    have := Nat.le_mul_of_pos_right (hexN (1 :: ds)) h16
    omega
  have hMpos : 0 < hexN (1 :: ds) := by
    rw [hexN_cons]
    have := Nat.pow_pos (n := ds.length) (show 0 < 16 by decide)
    omega
  refine f31_does _ ?_
  unfold f31_vc
  refine ⟨fun x y z n wc => x = ((2 + (mantL ds).length : Nat) : Int) ∧ y = ((hexN (1 :: ds) : Nat) : Int) ∧ z = (ds.length : Int) ∧ w = wc, tru (decide_eq_true (by split at hml <;> omega)) ⟨⟨by omega, by split at hml <;> omega⟩, ?_⟩, ?_⟩
  · by_cases hnil : ds = []
    · subst hnil
      have e : ((3 : Nat) : Int) = ((2 + (mantL []).length : Nat) : Int) := rfl
      have c3 : sb t 3 = 112 := cx0
      rw [c3]
      exact fls (by decide) ⟨0, rfl, rfl, rfl, rfl⟩
    · rw [if_neg hnil] at hml
      have c3 : sb t 3 = 46 := by
        have := cm 1 (by omega)
        have h2 : (mantL ds)[1]'(by omega) = 46 := by
          rcases mant_at (ds := ds) (j := 1) (by omega) with ⟨h, _⟩ | ⟨_, h⟩ | ⟨h, _⟩
          · omega
          · exact h
          · omega
        rw [h2] at this
        exact this
      rw [c3]
      refine tru (by decide) ⟨by decide, fun x y z n wl => ∃ k : Nat, k ≤ ds.length ∧ x = ((4 + k : Nat) : Int) ∧ y = ((hexN (1 :: ds.take k) : Nat) : Int) ∧ z = (k : Int) ∧ n = ds.length - k ∧ w = wl, ⟨_, 0, Nat.zero_le _, rfl, rfl, rfl, rfl, rfl⟩, ?_⟩
      rintro _ _ _ _ _ ⟨k, hk, rfl, rfl, rfl, rfl, rfl⟩
      refine tru (decide_eq_true (by omega)) ⟨⟨by omega, by omega⟩, rhex_does _ ⟨_, rfl, ?_⟩⟩
      rcases Nat.lt_or_ge k ds.length with hkl | hkl
      · have hc : sb t ((4 + k : Nat) : Int) = hexc ds[k] := by
          have := cm (2 + k) (by omega)
          rw [show 2 + (2 + k) = 4 + k by omega] at this
          rw [this]
          rcases mant_at (ds := ds) (j := 2 + k) (by omega) with ⟨h, _⟩ | ⟨h, _⟩ | ⟨_, hj, h⟩
          · omega
          · omega
          · rw [h]; congr 1; congr 1; omega
        have hd16 := hd _ (List.getElem_mem hkl)
        rw [hc, hexV_hexc _ hd16]
        refine tru (decide_eq_true (by omega)) (tru (decide_eq_true (by omega)) ⟨by decide, ⟨by omega, by omega⟩, rhex_does _ ⟨_, rfl, inI64 (by omega) (by omega), inI64 (by omega) (by omega), ds.length - (k + 1), by omega, k + 1, by omega, by omega, ?_, by omega, rfl, rfl⟩⟩)
        have hN : hexN (1 :: ds.take (k + 1)) = hexN (1 :: ds.take k) * 16 + ds[k] := by
          rw [List.take_succ_eq_append_getElem hkl, ← List.cons_append, hexN_snoc]
        have hlt : hexN (1 :: ds.take k) < 16 ^ (k + 1) := by
          have := hexN_lt (l := 1 :: ds.take k) fun x hx => by
            rcases List.mem_cons.1 hx with rfl | hx
            · decide
            · exact hd x (List.mem_of_mem_take hx)
          rw [List.length_cons, List.length_take, Nat.min_eq_left (by omega)] at this
          exact this
        have hlt2 : (16 : Nat) ^ (k + 1) ≤ 16 ^ 13 := Nat.pow_le_pow_right (by decide) (by omega)
        have h13 : (16 : Nat) ^ 13 = 4503599627370496 := by decide
        rw [hexV_hexc _ hd16, or16 (by omega) hd16, hN]
      · have hke : k = ds.length := by omega
        have hc : sb t ((4 + k : Nat) : Int) = 112 := by
          rw [show 4 + k = 2 + (mantL ds).length by omega]; exact cx0
        have hv : hexV 112 = 16 := by decide
        rw [hc, hv]
        refine fls (by decide) ⟨0, by omega, ?_, by omega, rfl⟩
        rw [hke, List.take_length]
  rintro _ _ _ _ _ ⟨rfl, rfl, rfl, rfl⟩
  refine ⟨fun n wc => w = wc, ⟨inI64 (by omega) (by omega), fls (decide_eq_false (by omega)) ⟨⟨by omega, by omega⟩, ?_⟩⟩, ?_⟩
  · rw [cx0]
    refine fls (by decide) ⟨inI64 (by omega) (by omega), ⟨by omega, by omega⟩, ?_⟩
    rw [cx1]
    have six : InK .i64 ((t.size : Int) - ((2 + (mantL ds).length : Nat) : Int)) ∧ Br (decide ((t.size : Int) - ((2 + (mantL ds).length : Nat) : Int) > 6)) (Ending.returned (.tuple #[.float .f64 0, .bool false]) = .returned (.tuple #[.float .f64 r, .bool true]) ∧ Ext w w) (∃ nc12 : Nat, w = w) :=
      ⟨inI64 (by omega) (by omega), fls (decide_eq_false (by omega)) ⟨0, rfl⟩⟩
    rcases hsg with ⟨rfl, _⟩ | ⟨rfl, _⟩
    · exact fls (by decide) six
    · exact tru (by decide) ⟨inI64 (by omega) (by omega), ⟨by omega, by omega⟩, fls (by decide) six⟩
  rintro _ _ rfl
  refine ⟨inI64 (by omega) (by omega), fun v k n wl => ∃ j : Nat, j ≤ D.length ∧ k = ((2 + (mantL ds).length + 2 + j : Nat) : Int) ∧ v = ((numV (D.take j) : Nat) : Int) ∧ n = D.length - j ∧ w = wl, ⟨_, 0, Nat.zero_le _, by omega, rfl, rfl, rfl⟩, ?_⟩
  rintro _ _ _ _ ⟨j, hj, rfl, rfl, rfl, rfl⟩
  refine brr (fun q => ?_) fun q => ?_
  · have q := of_decide_eq_true q
    have hjl : j < D.length := by omega
    have dt := hDd j hjl
    have hval : numV (D.take j) < 10000 := by
      have h1 := numV_lt (l := D.take j) fun x hx' => by
        have := List.mem_of_mem_take hx'
        rw [hD] at this
        have := decL_dig _ _ this
        unfold isDig; simp only [Bool.and_eq_true, decide_eq_true_eq]; exact this
      have h2 : (10 : Nat) ^ (D.take j).length ≤ 10 ^ 4 := Nat.pow_le_pow_right (by decide) (by rw [List.length_take]; omega)
      have h3 : (10 : Nat) ^ 4 = 10000 := by decide
      omega
    have hsn : numV (D.take (j + 1)) = numV (D.take j) * 10 + (D[j] - 48).toNat := by rw [List.take_succ_eq_append_getElem hjl, numV_snoc]
    rw [cxd j hjl]
    have hdig : isDig D[j] = true := by unfold isDig; rw [decide_eq_true dt.1, decide_eq_true dt.2]; rfl
    have hw : IntKind.wrap .u8 (D[j] - 48) = D[j] - 48 := wrap_in ⟨by show (0 : Int) ≤ _; omega, by show _ ≤ (255 : Int); omega⟩
    rw [hw]
    exact ⟨⟨by omega, by omega⟩, digit_does _ ⟨_, rfl, fls (by rw [hdig]; rfl) ⟨inI64 (by omega) (by omega), ⟨by omega, by omega⟩, inI64 (by omega) (by omega), inI64 (by omega) (by omega), inI64 (by omega) (by omega), D.length - (j + 1), by omega, j + 1, by omega, by omega, by rw [hsn]; omega, rfl, rfl⟩⟩⟩
  have q := of_decide_eq_false q
  have hjD : j = D.length := by omega
  have hnv : numV (D.take j) = (nE r).natAbs := by rw [hjD, List.take_length, hD, numV_decL]
  rw [hnv]
  refine ⟨fun v n wc => v = nE r ∧ w = wc, ⟨inI64 (by omega) (by omega), ⟨by omega, by omega⟩, ?_⟩, ?_⟩
  · rw [cx1]
    rcases hsg with ⟨rfl, h⟩ | ⟨rfl, h⟩
    · exact fls (by decide) ⟨0, by omega, rfl⟩
    · exact tru (by decide) ⟨inI64 (by omega) (by omega), 0, by omega, rfl⟩
  rintro _ _ _ ⟨rfl, rfl⟩
  have hB : BB = 1074 := rfl
  have hdv := digits_val hB hl hM rfl
  have hv0 := foi_val hB (N := hexN (1 :: ds)) (by omega)
  have ht0 := foi_top hB (N := hexN (1 :: ds)) (by omega)
  refine ⟨_, w, u2f w, inI64 (by omega) (by omega), inI64 (by omega) (by omega), ?_⟩
  rw [hv0]
  generalize hexN (1 :: ds) = M0 at *
  generalize ds.length = n at *
  generalize nE r = E at *
  generalize BB = B at *
  have hMr := mg_lt r
  have hpB := Nat.two_pow_pos B
  refine ⟨fun v f k wl => (∃ i j : Nat, v = (j : Int) ∧ j = k ∧ f = RR B (M0 * 2 ^ i * 2 ^ B) ∧ M0 * 2 ^ i * 2 ^ j = MM r ∧ j ≤ 2000 ∧ Ext w wl) ∨ (v = E - 4 * (n : Int) ∧ v < 0 ∧ k = 0 ∧ f = RR B (M0 * 2 ^ (2 * B)) ∧ Ext w wl), ?_, ?_⟩
  · rcases Int.lt_or_le (E - 4 * (n : Int)) 0 with hneg | hpos
    · exact ⟨0, .inr ⟨rfl, hneg, rfl, rfl, Upd.refl _ _⟩⟩
    · refine ⟨_, .inl ⟨B, (E - 4 * (n : Int)).toNat, by omega, rfl, by rw [Nat.mul_assoc, ← Nat.pow_add, show B + B = 2 * B by omega], ?_, by omega, Upd.refl _ _⟩⟩
      rw [show (4 * (n : Int) - E).toNat = 0 by omega, Nat.pow_zero, Nat.mul_one] at hdv
      rw [hdv]
  -- halving
  have halve : ∀ (f : Nat) (j : Nat) (wl : World), (f = RR B (MM r * 2 ^ j * 2 ^ B)) → (j = 0 ∨ MM r * 2 ^ j ≤ M0 * 2 ^ B) → j ≤ 100000 → Ext w wl → ∃ I26 : Int → Nat → Nat → World → Prop, (∃ nl26, I26 (-(j : Int)) f nl26 wl) ∧ ∀ x7_3 : Int, ∀ f9_1 : Nat, ∀ (nl26 : Nat) (wl26 : World), I26 x7_3 f9_1 nl26 wl26 →
      Br (decide (x7_3 < 0))
      (Br ((FloatKind.f64.format.order f9_1 0 != some Ordering.eq))
      (∃ f129 : Nat, ∃ w129, (binOp .quo 22 (.float .f64 f9_1) (.float .f64 4611686018427387904)).run Tryz.prog wl26 = .ok (.float .f64 f129) w129 ∧ InK .i64 (x7_3 + 1) ∧ ∃ ml26, ml26 < nl26 ∧ I26 (x7_3 + 1) f129 ml26 w129)
      (Ending.returned (.tuple #[.float .f64 f9_1, .bool true]) = .returned (.tuple #[.float .f64 r, .bool true]) ∧ Ext w wl26))
      (Ending.returned (.tuple #[.float .f64 f9_1, .bool true]) = .returned (.tuple #[.float .f64 r, .bool true]) ∧ Ext w wl26) := fun f j wl hf hjm hj5 xl => by
    refine ⟨fun v f k wl => ∃ j : Nat, v = -(j : Int) ∧ j = k ∧ f = RR B (MM r * 2 ^ j * 2 ^ B) ∧ (j = 0 ∨ MM r * 2 ^ j ≤ M0 * 2 ^ B) ∧ j ≤ 100000 ∧ Ext w wl, ⟨_, j, rfl, rfl, hf, hjm, hj5, xl⟩, ?_⟩
    rintro _ _ _ wl ⟨j, rfl, rfl, rfl, hjm, hj5, xl⟩
    have hrep : ∀ i, MM (RR B (MM r * 2 ^ i * 2 ^ B)) = MM r * 2 ^ i := fun i => by
      have := rep_exact B (N := mg r) (i := ex r + i) hMr
      rw [Nat.pow_add, ← Nat.mul_assoc] at this
      exact this
    have hfin : ∀ i, (i = 0 ∨ MM r * 2 ^ i ≤ M0 * 2 ^ B) → RR B (MM r * 2 ^ i * 2 ^ B) < 9218868437227405312 := fun i hi => by
      rcases hi with rfl | hi
      · rw [Nat.pow_zero, Nat.mul_one, RR_MM]; exact h1
      · have h2 := RR_mono B (Nat.mul_le_mul_right (2 ^ B) hi)
        rw [Nat.mul_assoc M0, ← Nat.pow_add, show B + B = 2 * B by omega] at h2
        omega
    have hMM : 0 < MM r := Nat.mul_pos (mg_pos h0) (Nat.two_pow_pos _)
    have hpos : ∀ i, 0 < RR B (MM r * 2 ^ i * 2 ^ B) := fun i => by
      rcases Nat.eq_zero_or_pos (RR B (MM r * 2 ^ i * 2 ^ B)) with h | h
      · have := hrep i
        rw [h, MM_zero] at this
        have := Nat.mul_pos hMM (Nat.two_pow_pos i)
        omega
      · exact h
    refine brr (fun q => ?_) fun q => ?_
    · have q := of_decide_eq_true q
      have hj1 : 1 ≤ j := by omega
      have hle : MM r * 2 ^ j ≤ M0 * 2 ^ B := by rcases hjm with h | h <;> omega
      have hsucc : MM r * 2 ^ j = 2 * (MM r * 2 ^ (j - 1)) := by
        rw [show 2 ^ j = 2 ^ (j - 1) * 2 by rw [← Nat.pow_succ, show (j - 1).succ = j by omega], ← Nat.mul_assoc]; omega
      have hfj := hfin j (.inr hle)
      have hpj := hpos j
      obtain ⟨rs1, rs2⟩ := rung_small (t := RR B (MM r * 2 ^ j * 2 ^ B)) (by omega)
      have hq := quo_two hB hpj hfj (hfin (j - 1) (.inr (by omega))) (by rw [hrep, hrep]; exact hsucc)
      refine tru ?_ ⟨_, wl, run_float_arith wl .quo _ .f64 _ _ _ hq, inI64 (by omega) (by omega), j - 1, by omega, j - 1, by omega, rfl, rfl, .inr (by omega), by omega, xl⟩
      rw [show (FloatKind.f64.format.order (RR B (MM r * 2 ^ j * 2 ^ B)) 0 != some Ordering.eq) = !(FloatKind.f64.format.order (RR B (MM r * 2 ^ j * 2 ^ B)) 0 == some Ordering.eq) from rfl, order_eq, show fval 0 = 0 by decide, fval_pos (by omega), decide_eq_false (by omega), Bool.and_false]; rfl
    · have q := of_decide_eq_false q
      have : j = 0 := by omega
      subst this
      rw [Nat.pow_zero, Nat.mul_one, RR_MM]
      exact ⟨rfl, xl⟩
  rintro _ _ _ wl (⟨i, j, rfl, rfl, rfl, hij, hj2, xl⟩ | ⟨rfl, hneg, rfl, rfl, xl⟩)
  · have hpi : ∀ i, MM (RR B (M0 * 2 ^ i * 2 ^ B)) = M0 * 2 ^ i := fun i => rep_exact B hMlt
    have hfi : ∀ i, M0 * 2 ^ i ≤ MM r → RR B (M0 * 2 ^ i * 2 ^ B) < 9218868437227405312 := fun i hi => by
      have h2 := RR_mono B (Nat.mul_le_mul_right (2 ^ B) hi)
      rw [RR_MM] at h2
      omega
    refine brr (fun q => ?_) fun q => ?_
    · have q := of_decide_eq_true q
      have hs1 : M0 * 2 ^ (i + 1) = 2 * (M0 * 2 ^ i) := by rw [Nat.pow_succ, ← Nat.mul_assoc]; omega
      have hij' : M0 * 2 ^ (i + 1) * 2 ^ (j - 1) = MM r := by
        rw [← hij, Nat.mul_assoc, Nat.mul_assoc, ← Nat.pow_add, ← Nat.pow_add, show i + 1 + (j - 1) = i + j by omega]
      have le1 : M0 * 2 ^ (i + 1) ≤ MM r := by
        rw [← hij']; exact Nat.le_mul_of_pos_right _ (Nat.two_pow_pos _)
      have hq := mul_two hB (hfi i (by omega)) (hfi (i + 1) le1) (by rw [hpi, hpi, hs1])
      exact ⟨_, wl, run_float_arith wl .mul _ .f64 _ _ _ hq, inI64 (by omega) (by omega), j - 1, by omega, .inl ⟨i + 1, j - 1, by omega, rfl, rfl, hij', by omega, xl⟩⟩
    · have q := of_decide_eq_false q
      have : j = 0 := by omega
      subst this
      rw [Nat.pow_zero, Nat.mul_one] at hij
      have := halve (RR B (M0 * 2 ^ i * 2 ^ B)) 0 wl (by rw [hij, Nat.pow_zero, Nat.mul_one]) (.inl rfl) (by decide) xl
      exact this
  · refine fls (decide_eq_false (by omega)) ?_
    rw [show (E - 4 * (n : Int)).toNat = 0 by omega, Nat.pow_zero, Nat.mul_one] at hdv
    have := halve (RR B (M0 * 2 ^ (2 * B))) (4 * (n : Int) - E).toNat wl (by rw [hdv, Nat.mul_assoc, ← Nat.pow_add, show B + B = 2 * B by omega]) (.inr (by omega)) (by omega) xl
    rw [show -(((4 * (n : Int) - E).toNat : Nat) : Int) = E - 4 * (n : Int) by omega] at this
    exact this
end
end Go.Proofs.YtffhlgejfgmpiaaGreatDoor
