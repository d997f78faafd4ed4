/-
  Numbers with a point: how two stand to each other, in plain Lean.
-/
import Derived.Test.YtffhlgejfgmpiaaGreatDoorWords2
import Ieee.Arith
namespace Go.Vc
def rung (x : Nat) : Nat := x % 9223372036854775808
def sgn (x : Nat) : Bool := x / 9223372036854775808 % 2 == 1
def nan (x : Nat) : Bool := decide (9218868437227405312 < rung x)
/-- A whole number whose order is that of the numbers. -/
def fval (x : Nat) : Int := if sgn x then -(rung x : Int) else (rung x : Int)
def mg (r : Nat) : Nat := if r < 4503599627370496 then r else 4503599627370496 + r % 4503599627370496
def ex (r : Nat) : Nat := if r < 4503599627370496 then 0 else r / 4503599627370496 - 1
/-- A magnitude, in units of the least one. -/
def MM (r : Nat) : Nat := mg r * 2 ^ ex r
theorem MM_lt {r s : Nat} (h : r < s) : MM r < MM s := by
  unfold MM mg ex
  by_cases h1 : s < 4503599627370496
  · rw [if_pos h1, if_pos h1, if_pos (by omega), if_pos (by omega)]; simpa using h
  · rw [if_neg h1, if_neg h1]
    have p2 : 0 < 2 ^ (s / 4503599627370496 - 1) := Nat.two_pow_pos _
    by_cases h2 : r < 4503599627370496
    · rw [if_pos h2, if_pos h2]
      have : 4503599627370496 * 1 ≤ (4503599627370496 + s % 4503599627370496) * 2 ^ (s / 4503599627370496 - 1) := Nat.mul_le_mul (by omega) p2
      omega
    · rw [if_neg h2, if_neg h2]
      have hr := Nat.mod_lt r (show 0 < 4503599627370496 by decide)
      have p1 : 0 < 2 ^ (r / 4503599627370496 - 1) := Nat.two_pow_pos _
      by_cases hq : r / 4503599627370496 = s / 4503599627370496
      · rw [hq]
        exact Nat.mul_lt_mul_of_pos_right (by omega) p2
      · have hlt : r / 4503599627370496 < s / 4503599627370496 := by
          have := Nat.div_le_div_right (c := 4503599627370496) (Nat.le_of_lt h)
          omega
        have h3 : (4503599627370496 + r % 4503599627370496) * 2 ^ (r / 4503599627370496 - 1) < (2 * 4503599627370496) * 2 ^ (r / 4503599627370496 - 1) := Nat.mul_lt_mul_of_pos_right (by omega) p1
        have h4 : (2 * 4503599627370496) * 2 ^ (r / 4503599627370496 - 1) = 4503599627370496 * 2 ^ (r / 4503599627370496 - 1 + 1) := by rw [Nat.pow_succ]; omega
        have h5 : 2 ^ (r / 4503599627370496 - 1 + 1) ≤ 2 ^ (s / 4503599627370496 - 1) := Nat.pow_le_pow_right (by decide) (by omega)
        have h6 : 4503599627370496 * 2 ^ (r / 4503599627370496 - 1 + 1) ≤ (4503599627370496 + s % 4503599627370496) * 2 ^ (s / 4503599627370496 - 1) := Nat.mul_le_mul (by omega) h5
        omega
theorem MM_inj {r s : Nat} (h : MM r = MM s) : r = s := by
  rcases Nat.lt_trichotomy r s with h' | h' | h'
  · have := MM_lt h'; omega
  · exact h'
  · have := MM_lt h'; omega
theorem MM_iff {r s : Nat} : MM r < MM s ↔ r < s := ⟨fun h => by
  rcases Nat.lt_trichotomy r s with h' | h' | h'
  · exact h'
  · subst h'; omega
  · have := MM_lt h'; omega, MM_lt⟩
theorem read_fin {x : Nat} (h : rung x < 9218868437227405312) : Ieee.double.read x = .number (sgn x) (mg (rung x)) (Ieee.double.leastPlace + (ex (rung x) : Int)) := by
  have hs : Ieee.double.signWeight = 9223372036854775808 := by decide
  have hb : Ieee.double.binade = 4503599627370496 := by decide
  have hi : Ieee.double.infRung = 9218868437227405312 := by decide
  unfold Ieee.Format.read
  simp only [hs, hb, hi]
  unfold mg ex
  show (if rung x < _ then _ else if rung x < _ then _ else _) = _
  by_cases h1 : rung x < 4503599627370496
  · rw [if_pos h1, if_pos h1, if_pos h1]; simp [sgn, rung]
  · rw [if_neg h1, if_pos h, if_neg h1, if_neg h1]; rfl
theorem read_inf {x : Nat} (h : rung x = 9218868437227405312) : Ieee.double.read x = .infinity (sgn x) := by
  have hs : Ieee.double.signWeight = 9223372036854775808 := by decide
  have hb : Ieee.double.binade = 4503599627370496 := by decide
  have hi : Ieee.double.infRung = 9218868437227405312 := by decide
  unfold Ieee.Format.read
  simp only [hs, hb, hi]
  show (if rung x < _ then _ else if rung x < _ then _ else if rung x = _ then _ else _) = _
  rw [if_neg (by omega), if_neg (by omega), if_pos h]; rfl
theorem read_nan {x : Nat} (h : 9218868437227405312 < rung x) : Ieee.double.read x = .nan (sgn x) (rung x - 9218868437227405312) := by
  have hs : Ieee.double.signWeight = 9223372036854775808 := by decide
  have hb : Ieee.double.binade = 4503599627370496 := by decide
  have hi : Ieee.double.infRung = 9218868437227405312 := by decide
  unfold Ieee.Format.read
  simp only [hs, hb, hi]
  show (if rung x < _ then _ else if rung x < _ then _ else if rung x = _ then _ else _) = _
  rw [if_neg (by omega), if_neg (by omega), if_neg (by omega)]; rfl
theorem cmp_congr {a b c d : Int} (h1 : a < b ↔ c < d) (h2 : a = b ↔ c = d) : compare a b = compare c d := by
  show compareOfLessAndEq a b = compareOfLessAndEq c d
  unfold compareOfLessAndEq
  by_cases h : a < b
  · rw [if_pos h, if_pos (h1.1 h)]
  · rw [if_neg h, if_neg fun k => h (h1.2 k)]
    by_cases e : a = b
    · rw [if_pos e, if_pos (h2.1 e)]
    · rw [if_neg e, if_neg fun k => e (h2.2 k)]
theorem cmp_lt {a b : Int} (h : a < b) : compare a b = .lt := by
  show compareOfLessAndEq a b = _
  unfold compareOfLessAndEq; rw [if_pos h]
theorem cmp_eq {a b : Int} (h : a = b) : compare a b = .eq := by
  subst h
  show compareOfLessAndEq a a = _
  unfold compareOfLessAndEq; rw [if_neg (by omega), if_pos rfl]
theorem cmp_gt {a b : Int} (h : b < a) : compare a b = .gt := by
  show compareOfLessAndEq a b = _
  unfold compareOfLessAndEq; rw [if_neg (by omega), if_neg (by omega)]
theorem scaled {m1 m2 e1 e2 : Nat} : (m1 * 2 ^ (e1 - min e1 e2) < m2 * 2 ^ (e2 - min e1 e2) ↔ m1 * 2 ^ e1 < m2 * 2 ^ e2) ∧ (m1 * 2 ^ (e1 - min e1 e2) = m2 * 2 ^ (e2 - min e1 e2) ↔ m1 * 2 ^ e1 = m2 * 2 ^ e2) := by
  have hp : 0 < 2 ^ min e1 e2 := Nat.two_pow_pos _
  have h1 : m1 * 2 ^ e1 = m1 * 2 ^ (e1 - min e1 e2) * 2 ^ min e1 e2 := by rw [Nat.mul_assoc, ← Nat.pow_add]; congr 2; omega
  have h2 : m2 * 2 ^ e2 = m2 * 2 ^ (e2 - min e1 e2) * 2 ^ min e1 e2 := by rw [Nat.mul_assoc, ← Nat.pow_add]; congr 2; omega
  rw [h1, h2]
  exact ⟨(Nat.mul_lt_mul_right hp).symm, ⟨fun h => by rw [h], fun h => Nat.eq_of_mul_eq_mul_right hp h⟩⟩
/-- How two stand to each other. -/
theorem forder (x y : Nat) : Ieee.double.order x y = if nan x || nan y then none else some (compare (fval x) (fval y)) := by
  unfold Ieee.Format.order nan
  by_cases hx : 9218868437227405312 < rung x
  · rw [read_nan hx, decide_eq_true hx]; rfl
  by_cases hy : 9218868437227405312 < rung y
  · rw [read_nan hy, decide_eq_true hy]
    simp only [Bool.or_true, if_true]
    unfold Ieee.Datum.order
    split <;> first | rfl | (rename_i h; cases h) | skip
    all_goals simp_all
  rw [decide_eq_false hx, decide_eq_false hy]
  simp only [Bool.or_self, Bool.false_eq_true, if_false]
  by_cases hx1 : rung x = 9218868437227405312
  · rw [read_inf hx1]
    by_cases hy1 : rung y = 9218868437227405312
    · rw [read_inf hy1]
      simp only [Ieee.Datum.order]
      unfold fval
      rw [hx1, hy1]
      cases sgn x <;> cases sgn y <;> decide
    · rw [read_fin (by omega)]
      simp only [Ieee.Datum.order]
      unfold fval
      rw [hx1]
      cases sgn x <;> cases sgn y <;> simp only [Bool.false_eq_true, if_false, if_true] <;> first | exact congrArg some (cmp_lt (by omega)).symm | exact congrArg some (cmp_gt (by omega)).symm
  · by_cases hy1 : rung y = 9218868437227405312
    · rw [read_inf hy1, read_fin (by omega)]
      simp only [Ieee.Datum.order]
      unfold fval
      rw [hy1]
      cases sgn x <;> cases sgn y <;> simp only [Bool.false_eq_true, if_false, if_true] <;> first | exact congrArg some (cmp_lt (by omega)).symm | exact congrArg some (cmp_gt (by omega)).symm
    · rw [read_fin (by omega), read_fin (x := y) (by omega)]
      simp only [Ieee.Datum.order]
      congr 1
      have e1 : (Ieee.double.leastPlace + (ex (rung x) : Int) - min (Ieee.double.leastPlace + (ex (rung x) : Int)) (Ieee.double.leastPlace + (ex (rung y) : Int))).toNat = ex (rung x) - min (ex (rung x)) (ex (rung y)) := by omega
      have e2 : (Ieee.double.leastPlace + (ex (rung y) : Int) - min (Ieee.double.leastPlace + (ex (rung x) : Int)) (Ieee.double.leastPlace + (ex (rung y) : Int))).toNat = ex (rung y) - min (ex (rung x)) (ex (rung y)) := by omega
      rw [e1, e2]
      have hs := scaled (m1 := mg (rung x)) (m2 := mg (rung y)) (e1 := ex (rung x)) (e2 := ex (rung y))
      have hs' := scaled (m1 := mg (rung y)) (m2 := mg (rung x)) (e1 := ex (rung y)) (e2 := ex (rung x))
      rw [Nat.min_comm] at hs'
      have l1 : MM (rung x) < MM (rung y) ↔ rung x < rung y := MM_iff
      have l2 : MM (rung y) < MM (rung x) ↔ rung y < rung x := MM_iff
      have l3 : MM (rung x) = MM (rung y) ↔ rung x = rung y := ⟨MM_inj, fun h => by rw [h]⟩
      have z1 : mg (rung x) * 2 ^ (ex (rung x) - min (ex (rung x)) (ex (rung y))) = 0 ↔ rung x = 0 := by
        have : MM 0 = 0 := by decide
        constructor
        · intro h
          rcases Nat.mul_eq_zero.1 h with h | h
          · exact MM_inj (by rw [this]; unfold MM; rw [h, Nat.zero_mul])
          · exact absurd h (Nat.ne_of_gt (Nat.two_pow_pos _))
        · intro h; rw [h, show mg 0 = 0 by decide, Nat.zero_mul]
      have z2 : mg (rung y) * 2 ^ (ex (rung y) - min (ex (rung x)) (ex (rung y))) = 0 ↔ rung y = 0 := by
        have : MM 0 = 0 := by decide
        constructor
        · intro h
          rcases Nat.mul_eq_zero.1 h with h | h
          · exact MM_inj (by rw [this]; unfold MM; rw [h, Nat.zero_mul])
          · exact absurd h (Nat.ne_of_gt (Nat.two_pow_pos _))
        · intro h; rw [h, show mg 0 = 0 by decide, Nat.zero_mul]
      unfold MM at l1 l2 l3
      unfold Ieee.signed fval
      rw [Nat.shiftLeft_eq, Nat.shiftLeft_eq]
      generalize mg (rung x) * 2 ^ (ex (rung x) - min (ex (rung x)) (ex (rung y))) = A at *
      generalize mg (rung y) * 2 ^ (ex (rung y) - min (ex (rung x)) (ex (rung y))) = B at *
      have h1 := hs.1.trans l1
      have h2 := hs.2.trans l3
      have h3 := hs'.1.trans l2
      refine cmp_congr ?_ ?_ <;> cases sgn x <;> cases sgn y <;> simp only [Bool.false_eq_true, if_false, if_true] <;> omega
end Go.Vc
