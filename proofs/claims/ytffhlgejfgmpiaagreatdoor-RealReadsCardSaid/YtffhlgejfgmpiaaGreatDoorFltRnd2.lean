/-
  Numbers with a point: the model's roundings are these.
-/
import Derived.Test.YtffhlgejfgmpiaaGreatDoorFltRnd
import Derived.Laws.FloatArith
namespace Go.Vc
theorem cut_floor {way : Ieee.Toward} (hw : way = .zero ∨ way = .down) (m d : Nat) : way.cut false m d = m / 2 ^ d := by
  have e : way.cut false m d = m / 2 ^ min d (m.log2 + 2) := by
    rcases hw with rfl | rfl <;> simp [Ieee.Toward.cut, Nat.shiftLeft_eq]
  rw [e]
  by_cases h : d ≤ m.log2 + 2
  · rw [Nat.min_eq_left h]
  · rw [Nat.min_eq_right (by omega)]
    have h1 := lt_log m
    have h2 : 2 ^ (m.log2 + 2) = 2 * 2 ^ (m.log2 + 1) := by rw [Nat.pow_succ 2 (m.log2 + 1)]; omega
    have h3 : 2 ^ (m.log2 + 2) ≤ 2 ^ d := Nat.pow_le_pow_right (by decide) (by omega)
    generalize 2 ^ (m.log2 + 2) = g at *
    generalize 2 ^ d = k at *
    rw [Nat.div_eq_of_lt (by omega), Nat.div_eq_of_lt (by omega)]
theorem pw {a b : Nat} (h : a = b) : 2 ^ a = 2 ^ b := by rw [h]
theorem word_false (f : Ieee.Format) (k : Nat) : f.word false k = k := rfl
theorem foi_near (n : Int) : floatOfInt .f64 n = Ieee.double.nearest (decide (n < 0)) n.natAbs 0 := by
  unfold floatOfInt FloatKind.nearest FloatKind.encode FloatKind.format Ieee.Format.write
  rfl
theorem mul_near (s t : Bool) (m n : Nat) (i j : Int) : ((Ieee.Datum.number s m i).product (.number t n j)).map Ieee.double.write = some (Ieee.double.nearest (s ^^ t) (m * n) (i + j)) := by
  unfold Ieee.Datum.product Ieee.Format.write
  rfl
theorem fmul_eq (r x : Nat) : floatBits .mul .f64 r x = ((Ieee.double.read r).product (Ieee.double.read x)).map Ieee.double.write := by
  unfold floatBits FloatKind.format Ieee.Format.mul
  rfl
theorem integral_num (way : Ieee.Toward) (s : Bool) (m : Nat) (i : Int) : (Ieee.Datum.number s m i).integral way = .number s (way.cut s (m <<< i.toNat) (-i).toNat) 0 := rfl
theorem toint_num (way : Ieee.Toward) (s : Bool) (m : Nat) (i : Int) : (Ieee.Datum.number s m i).toInt way = some (Ieee.signed s (way.cut s (m <<< i.toNat) (-i).toNat) 0) := rfl
theorem decode_f64 (t : Nat) : FloatKind.f64.decode t = Ieee.double.read t := by unfold FloatKind.decode FloatKind.format; rfl
section
variable {B : Nat} (hB : B = 1074)
include hB
theorem least : Ieee.double.leastPlace = -(B : Int) := by subst hB; decide
theorem near_eq (neg : Bool) (m : Nat) (place : Int) (hp : -(2 * B : Int) ≤ place) :
    Ieee.double.nearest neg m place = Ieee.double.word neg (min (RR B (m * 2 ^ (place + 2 * B).toNat)) 9218868437227405312) := by
  have hb : Ieee.double.binade = 4503599627370496 := by decide
  have hi : Ieee.double.infRung = 9218868437227405312 := by decide
  have hf : Ieee.double.fractionBits = 52 := by decide
  unfold Ieee.Format.nearest
  rw [least hB, hb, hi, hf]
  by_cases hm : m = 0
  · subst hm
    have := RR_sub B (m := 0) (by decide)
    rw [Nat.zero_mul] at this
    rw [if_pos rfl, Nat.zero_mul, this]; rfl
  · rw [if_neg hm]
    show Ieee.double.word neg (min ((max (place + m.log2 - (52 : Nat)) (-(B : Int)) - -(B : Int)).toNat * 4503599627370496 + Ieee.Toward.even.cut neg (m <<< (place - max (place + m.log2 - (52 : Nat)) (-(B : Int))).toNat) (max (place + m.log2 - (52 : Nat)) (-(B : Int)) - place).toNat) 9218868437227405312) = _
    rw [cut_rne, Nat.shiftLeft_eq]
    have hL : LL B (m * 2 ^ (place + 2 * B).toNat) = (max (place + m.log2 - (52 : Nat)) (-(B : Int)) + 2 * B).toNat := by
      unfold LL; rw [log_mul hm]; omega
    generalize hlast : max (place + m.log2 - (52 : Nat)) (-(B : Int)) = last at *
    have h1 : -(B : Int) ≤ last := by omega
    unfold RR
    rw [hL]
    have e1 : rne (m * 2 ^ (place - last).toNat) (last - place).toNat = rne (m * 2 ^ (place + 2 * B).toNat) (last + 2 * B).toNat := by
      have e2 : (place + 2 * B).toNat = (place - last).toNat + ((last + 2 * B).toNat - (last - place).toNat) := by omega
      have e3 : (last + 2 * B).toNat = (last - place).toNat + ((last + 2 * B).toNat - (last - place).toNat) := by omega
      rw [e2]
      generalize (last + 2 * B).toNat - (last - place).toNat = z at *
      rw [e3, Nat.pow_add, ← Nat.mul_assoc, rne_scale]
    rw [e1, show (last - -(B : Int)).toNat = (last + 2 * B).toNat - B by omega]
/-- A whole number, rounded. -/
theorem foi_eq (N : Nat) : floatOfInt .f64 (N : Int) = min (RR B (N * 2 ^ (2 * B))) 9218868437227405312 := by
  rw [foi_near, near_eq hB _ _ _ (by omega), decide_eq_false (by omega), Int.natAbs_natCast, show ((0 : Int) + 2 * B).toNat = 2 * B by omega, word_false]
theorem foi_top {N : Nat} (h : N < 9223372036854775808) : RR B (N * 2 ^ (2 * B)) ≤ 4890909195324358656 := by
  have e : MM 4890909195324358656 = 4503599627370496 * 2 ^ (B + 11) := by
    unfold MM
    rw [show mg 4890909195324358656 = 4503599627370496 by decide, show ex 4890909195324358656 = B + 11 by rw [hB]; decide]
  have h1 : N * 2 ^ (2 * B) ≤ MM 4890909195324358656 * 2 ^ B := by
    have e2 : 4503599627370496 * 2 ^ (B + 11) * 2 ^ B = 9223372036854775808 * 2 ^ (2 * B) := by
      rw [Nat.mul_assoc, ← Nat.pow_add, show B + 11 + B = 11 + 2 * B by omega, Nat.pow_add 2 11, ← Nat.mul_assoc]
    rw [e, e2]
    exact Nat.mul_le_mul_right _ (by omega)
  have := RR_mono B h1
  rwa [RR_MM] at this
theorem foi_val {N : Nat} (h : N < 9223372036854775808) : floatOfInt .f64 (N : Int) = RR B (N * 2 ^ (2 * B)) := by
  rw [foi_eq hB, Nat.min_eq_left (Nat.le_trans (foi_top hB h) (by decide))]
theorem foi_low {N : Nat} (h0 : 1 ≤ N) : 4607182418800017408 ≤ RR B (N * 2 ^ (2 * B)) := by
  have e : MM 4607182418800017408 = 4503599627370496 * 2 ^ (B - 52) := by
    unfold MM
    rw [show mg 4607182418800017408 = 4503599627370496 by decide, show ex 4607182418800017408 = B - 52 by rw [hB]; decide]
  have h1 : MM 4607182418800017408 * 2 ^ B ≤ N * 2 ^ (2 * B) := by
    have e2 : 4503599627370496 * 2 ^ (B - 52) * 2 ^ B = 1 * 2 ^ (2 * B) := by
      rw [show (4503599627370496 : Nat) = 2 ^ 52 by decide, ← Nat.pow_add, ← Nat.pow_add, Nat.one_mul]
      exact pw (by omega)
    rw [e, e2]
    exact Nat.mul_le_mul_right _ h0
  have := RR_mono B h1
  rwa [RR_MM] at this
theorem below_one {x : Nat} (h : x < 4607182418800017408) : MM x * 9007199254740992 ≤ 2 ^ B * 9007199254740991 := by
  have e : MM 4607182418800017407 = 9007199254740991 * 2 ^ (B - 53) := by
    unfold MM
    rw [show mg 4607182418800017407 = 9007199254740991 by decide, show ex 4607182418800017407 = B - 53 by rw [hB]; decide]
  have h1 : MM x ≤ MM 4607182418800017407 := by
    rcases Nat.lt_or_ge x 4607182418800017407 with h | h
    · exact Nat.le_of_lt (MM_lt h)
    · rw [show x = 4607182418800017407 by omega]; exact Nat.le_refl _
  have e2 : 2 ^ B = 2 ^ (B - 53) * 9007199254740992 := by
    rw [show (9007199254740992 : Nat) = 2 ^ 53 by decide, ← Nat.pow_add]
    exact pw (by omega)
  rw [e2]
  rw [e] at h1
  generalize 2 ^ (B - 53) = g at *
  omega
/-- The whole part. -/
def flr (B t : Nat) : Nat := MM t / 2 ^ B
omit hB in
theorem rung_small {t : Nat} (h : t < 9223372036854775808) : rung t = t ∧ sgn t = false := by
  unfold rung sgn
  exact ⟨Nat.mod_eq_of_lt h, by rw [Nat.div_eq_of_lt h]; rfl⟩
theorem read_pos {t : Nat} (h : t < 9218868437227405312) : Ieee.double.read t = .number false (mg t) (-(B : Int) + (ex t : Int)) := by
  obtain ⟨h1, h2⟩ := rung_small (t := t) (by omega)
  rw [read_fin (by rw [h1]; exact h), h1, h2, least hB]
theorem cut_flr {way : Ieee.Toward} (hw : way = .zero ∨ way = .down) (t : Nat) : way.cut false (mg t <<< (-(B : Int) + (ex t : Int)).toNat) (-(-(B : Int) + (ex t : Int))).toNat = flr B t := by
  rw [cut_floor hw, Nat.shiftLeft_eq]
  unfold flr MM
  rcases Nat.le_total B (ex t) with h | h
  · rw [show (-(-(B : Int) + (ex t : Int))).toNat = 0 by omega, show (-(B : Int) + (ex t : Int)).toNat = ex t - B by omega, Nat.pow_zero, Nat.div_one]
    have e : 2 ^ ex t = 2 ^ (ex t - B) * 2 ^ B := by rw [← Nat.pow_add]; exact pw (by omega)
    rw [e, ← Nat.mul_assoc, Nat.mul_div_cancel _ (Nat.two_pow_pos _)]
  · rw [show (-(-(B : Int) + (ex t : Int))).toNat = B - ex t by omega, show (-(B : Int) + (ex t : Int)).toNat = 0 by omega, Nat.pow_zero, Nat.mul_one]
    have e : 2 ^ B = 2 ^ (B - ex t) * 2 ^ ex t := by rw [← Nat.pow_add]; exact pw (by omega)
    rw [e, Nat.mul_div_mul_right _ _ (Nat.two_pow_pos _)]
theorem toint_pos {t : Nat} (h : t < 9218868437227405312) (hf : flr B t ≤ 9223372036854775807) : floatToIntVal .f64 t .i64 = some (flr B t : Int) := by
  have e : (FloatKind.f64.decode t).toInt .zero = some ((flr B t : Nat) : Int) := by
    rw [decode_f64, read_pos hB h, toint_num, cut_flr hB (.inl rfl)]
    simp [Ieee.signed]
  unfold floatToIntVal
  rw [e]
  have : IntKind.min .i64 ≤ ((flr B t : Nat) : Int) ∧ ((flr B t : Nat) : Int) ≤ IntKind.max .i64 := ⟨by show (-9223372036854775808 : Int) ≤ _; omega, by show _ ≤ (9223372036854775807 : Int); omega⟩
  simp only [this, and_self, if_true]
theorem mul_pos' {r x : Nat} (hr : r < 9218868437227405312) (hx : x < 9218868437227405312) (hb : RR B (MM r * MM x) < 9218868437227405312) : floatBits .mul .f64 r x = some (RR B (MM r * MM x)) := by
  rw [fmul_eq, read_pos hB hr, read_pos hB hx, mul_near]
  rw [near_eq hB _ _ _ (by omega), show (-(B : Int) + (ex r : Int) + (-(B : Int) + (ex x : Int)) + 2 * B).toNat = ex r + ex x by omega]
  have e : mg r * mg x * 2 ^ (ex r + ex x) = MM r * MM x := by
    unfold MM
    rw [Nat.pow_add, Nat.mul_mul_mul_comm]
  rw [e, Nat.min_eq_left (by omega), Bool.false_xor, word_false]
/-- The whole part is a number. -/
theorem floor_rep (t : Nat) : MM (RR B (flr B t * 2 ^ (2 * B))) = flr B t * 2 ^ B := by
  rcases Nat.le_total B (ex t) with h | h
  · have e : flr B t * 2 ^ B = MM t := by
      unfold flr
      refine Nat.div_mul_cancel ⟨mg t * 2 ^ (ex t - B), ?_⟩
      unfold MM
      rw [Nat.mul_left_comm, ← Nat.pow_add, pw (show B + (ex t - B) = ex t by omega)]
    rw [show 2 ^ (2 * B) = 2 ^ B * 2 ^ B by rw [← Nat.pow_add]; exact pw (by omega), ← Nat.mul_assoc, e, RR_MM]
  · have hN : flr B t < 9007199254740992 := by
      have hm : mg t < 9007199254740992 := by
        unfold mg
        have := Nat.mod_lt t (show 0 < 4503599627370496 by decide)
        split <;> omega
      refine Nat.lt_of_le_of_lt ?_ hm
      unfold flr MM
      refine Nat.div_le_of_le_mul ?_
      rw [Nat.mul_comm]
      exact Nat.mul_le_mul_right _ (Nat.pow_le_pow_right (by decide) h)
    generalize flr B t = N at *
    by_cases h0 : N = 0
    · subst h0
      have := RR_sub B (m := 0) (by decide)
      rw [Nat.zero_mul] at this
      rw [Nat.zero_mul, this, Nat.zero_mul]; decide
    · have hk : N.log2 < 53 := (Nat.pow_lt_pow_iff_right (a := 2) (by decide)).1 (Nat.lt_of_le_of_lt (le_log h0) (by simpa using hN))
      have a1 : 4503599627370496 ≤ N * 2 ^ (52 - N.log2) := by
        have := Nat.mul_le_mul_right (2 ^ (52 - N.log2)) (le_log h0)
        rwa [← Nat.pow_add, show N.log2 + (52 - N.log2) = 52 by omega] at this
      have a2 : N * 2 ^ (52 - N.log2) < 9007199254740992 := by
        have := Nat.mul_lt_mul_of_pos_right (lt_log N) (Nat.two_pow_pos (52 - N.log2))
        rwa [← Nat.pow_add, show N.log2 + 1 + (52 - N.log2) = 53 by omega] at this
      have e1 : N * 2 ^ (2 * B) = N * 2 ^ (52 - N.log2) * 2 ^ (2 * B - (52 - N.log2)) := by
        rw [Nat.mul_assoc, ← Nat.pow_add, pw (show 52 - N.log2 + (2 * B - (52 - N.log2)) = 2 * B by omega)]
      have e2 : N * 2 ^ B = N * 2 ^ (52 - N.log2) * 2 ^ (B - (52 - N.log2)) := by
        rw [Nat.mul_assoc, ← Nat.pow_add, pw (show 52 - N.log2 + (B - (52 - N.log2)) = B by omega)]
      rw [e1, e2, RR_norm B a1 a2 (by omega)]
      generalize N * 2 ^ (52 - N.log2) = M at *
      unfold MM mg ex
      rw [if_neg (by omega), if_neg (by omega), pw (show ((2 * B - (52 - N.log2) - B) * 4503599627370496 + M) / 4503599627370496 - 1 = B - (52 - N.log2) by omega), show 4503599627370496 + ((2 * B - (52 - N.log2) - B) * 4503599627370496 + M) % 4503599627370496 = M by omega]
theorem floor_flr (t : Nat) : flr B (RR B (flr B t * 2 ^ (2 * B))) = flr B t := by
  have := floor_rep hB t
  unfold flr at this ⊢
  rw [this, Nat.mul_div_cancel _ (Nat.two_pow_pos _)]
/-- A share of a whole number. -/
theorem share {N x : Nat} (hN : 1 ≤ N) (h : N < 9223372036854775808) (hx : x < 4607182418800017408) : RR B (MM (RR B (N * 2 ^ (2 * B))) * MM x) < RR B (N * 2 ^ (2 * B)) ∧ flr B (RR B (MM (RR B (N * 2 ^ (2 * B))) * MM x)) < N := by
  have h1 := foi_low hB hN
  have hlt : RR B (MM (RR B (N * 2 ^ (2 * B))) * MM x) < RR B (N * 2 ^ (2 * B)) := by
    refine RR_below B (by omega) ?_
    rw [Nat.mul_assoc, Nat.mul_assoc]
    exact Nat.mul_le_mul_left _ (below_one hB hx)
  refine ⟨hlt, ?_⟩
  generalize RR B (MM (RR B (N * 2 ^ (2 * B))) * MM x) = t at *
  unfold flr
  rw [Nat.div_lt_iff_lt_mul (Nat.two_pow_pos _)]
  refine Nat.lt_of_not_le fun hle => ?_
  have h2 : N * 2 ^ (2 * B) ≤ MM t * 2 ^ B := by
    rw [show 2 ^ (2 * B) = 2 ^ B * 2 ^ B by rw [← Nat.pow_add]; exact pw (by omega), ← Nat.mul_assoc]
    exact Nat.mul_le_mul_right _ hle
  have := RR_mono B h2
  rw [RR_MM] at this
  omega
end
theorem flr_mono (B : Nat) {s t : Nat} (h : s ≤ t) : flr B s ≤ flr B t := by
  unfold flr
  refine Nat.div_le_div_right ?_
  rcases Nat.lt_or_ge s t with h' | h'
  · exact Nat.le_of_lt (MM_lt h')
  · rw [show s = t by omega]; exact Nat.le_refl _
end Go.Vc
