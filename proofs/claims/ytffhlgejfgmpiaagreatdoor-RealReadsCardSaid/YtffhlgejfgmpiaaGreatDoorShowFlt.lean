/-
  Numbers shown, in plain Lean: a number's parts; its text.
-/
import Derived.Test.YtffhlgejfgmpiaaGreatDoorFltRnd2
import Derived.Test.YtffhlgejfgmpiaaGreatDoorShowPure
namespace Go.Vc
theorem mg_lt (r : Nat) : mg r < 9007199254740992 := by
  unfold mg
  have := Nat.mod_lt r (show 0 < 4503599627370496 by decide)
  split <;> omega
theorem mg_pos {r : Nat} (h : 0 < r) : 0 < mg r := by unfold mg; split <;> omega
/-- A number's highest place, in its 53 digits. -/
def mgk (r : Nat) : Nat := 52 - (mg r).log2
def nM (r : Nat) : Nat := mg r * 2 ^ mgk r
def nE (r : Nat) : Int := (ex r : Int) - 1022 - (mgk r : Int)
theorem mlog {r : Nat} (h : 0 < r) : (mg r).log2 ≤ 52 := by
  have h1 := le_log (n := mg r) (by have := mg_pos h; omega)
  have h2 := mg_lt r
  have := (Nat.pow_lt_pow_iff_right (a := 2) (by decide)).1 (Nat.lt_of_le_of_lt h1 (show mg r < 2 ^ 53 from h2))
  omega
theorem nM_bounds {r : Nat} (h : 0 < r) : 4503599627370496 ≤ nM r ∧ nM r < 9007199254740992 := by
  have hm := mg_pos h
  have hl := mlog h
  unfold nM mgk
  constructor
  · have := Nat.mul_le_mul_right (2 ^ (52 - (mg r).log2)) (le_log (n := mg r) (by omega))
    rwa [← Nat.pow_add, show (mg r).log2 + (52 - (mg r).log2) = 52 by omega] at this
  · have := Nat.mul_lt_mul_of_pos_right (lt_log (mg r)) (Nat.two_pow_pos (52 - (mg r).log2))
    rwa [← Nat.pow_add, show (mg r).log2 + 1 + (52 - (mg r).log2) = 53 by omega] at this
theorem mgk_norm {r : Nat} (h : 4503599627370496 ≤ r) : mgk r = 0 ∧ nM r = mg r ∧ mg r = 4503599627370496 + r % 4503599627370496 ∧ ex r = r / 4503599627370496 - 1 := by
  have e1 : mg r = 4503599627370496 + r % 4503599627370496 := by unfold mg; rw [if_neg (by omega)]
  have e2 : ex r = r / 4503599627370496 - 1 := by unfold ex; rw [if_neg (by omega)]
  have hl : (mg r).log2 = 52 := log_eq (by rw [e1]; simp) (by have := mg_lt r; simpa using this)
  have e3 : mgk r = 0 := by unfold mgk; rw [hl]
  refine ⟨e3, ?_, e1, e2⟩
  unfold nM; rw [e3]; simp
theorem mg_sub {r : Nat} (h : r < 4503599627370496) : mg r = r ∧ ex r = 0 := by unfold mg ex; rw [if_pos h, if_pos h]; exact ⟨rfl, rfl⟩
theorem ex_le {r : Nat} (h : r < 9218868437227405312) : ex r ≤ 2045 := by unfold ex; split <;> omega
theorem nE_bounds {r : Nat} (h0 : 0 < r) (h : r < 9218868437227405312) : -1074 ≤ nE r ∧ nE r ≤ 1023 := by
  have := ex_le h
  have hl := mlog h0
  unfold nE
  by_cases hs : r < 4503599627370496
  · obtain ⟨_, e⟩ := mg_sub hs
    rw [e]; unfold mgk; omega
  · rw [(mgk_norm (by omega)).1]; omega
/-- Is it whole, and not great? -/
def wholeB (r : Nat) : Bool := decide (MM r % 2 ^ 1074 = 0) && decide (MM r / 2 ^ 1074 < 1000000000000000)
def ptL (l : List Int) : List Int := if l = [] then [] else 46 :: l
def expL (e : Int) : List Int := if 0 ≤ e then 112 :: 43 :: decL e.toNat else 112 :: 45 :: decL (-e).toNat
def hexX (X : Nat) (e : Int) : List Int := 48 :: 120 :: 49 :: (ptL (frL 13 X) ++ expL e)
def hexS (r : Nat) : List Int := hexX (nM r - 4503599627370496) (nE r)
def showR (r : Nat) : List Int := if r = 9218868437227405312 then [105, 110, 102] else if wholeB r then decL (MM r / 2 ^ 1074) else hexS r
def showS (x : Nat) : List Int := if nan x then [110, 97, 110] else (if sgn x then [45] else []) ++ showR (rung x)
theorem MM_nM {r : Nat} : MM r * 2 ^ mgk r = nM r * 2 ^ ex r := by
  unfold MM nM
  rw [Nat.mul_assoc, Nat.mul_assoc, Nat.mul_comm (2 ^ ex r)]
section
variable {B : Nat} (hB : B = 1074)
include hB
/-- What is whole, by its parts. -/
theorem whole_parts {r : Nat} (h0 : 0 < r) : wholeB r = true ↔ 0 ≤ nE r ∧ nE r ≤ 52 ∧ nM r % 2 ^ (52 - nE r).toNat = 0 ∧ nM r / 2 ^ (52 - nE r).toNat < 1000000000000000 := by
  obtain ⟨b1, b2⟩ := nM_bounds h0
  have key := MM_nM (r := r)
  unfold wholeB
  rw [← hB]
  simp only [Bool.and_eq_true, decide_eq_true_eq]
  have hE : nE r = (ex r : Int) - 1022 - (mgk r : Int) := rfl
  rcases Int.lt_or_le (nE r) 0 with hn | hn
  · -- less than one
    refine ⟨fun ⟨h1, h2⟩ => ?_, fun h => by omega⟩
    exfalso
    have hlt : MM r < 2 ^ B := by
      have h3 : MM r * 2 ^ mgk r < 2 ^ B * 2 ^ mgk r := by
        rw [key, ← Nat.pow_add]
        have h4 : nM r * 2 ^ ex r < 9007199254740992 * 2 ^ ex r := Nat.mul_lt_mul_of_pos_right b2 (Nat.two_pow_pos _)
        rw [show (9007199254740992 : Nat) = 2 ^ 53 by decide, ← Nat.pow_add] at h4
        exact Nat.lt_of_lt_of_le h4 (Nat.pow_le_pow_right (by decide) (by omega))
      exact Nat.lt_of_mul_lt_mul_right h3
    rw [Nat.mod_eq_of_lt hlt] at h1
    have h5 : nM r * 2 ^ ex r = 0 := by rw [← key, h1, Nat.zero_mul]
    have := Nat.mul_pos (show 0 < nM r by omega) (Nat.two_pow_pos (ex r))
    omega
  · rcases Int.lt_or_le 52 (nE r) with hm | hm
    · -- great
      refine ⟨fun ⟨h1, h2⟩ => ?_, fun h => by omega⟩
      exfalso
      have h3 : 1000000000000000 * 2 ^ B * 2 ^ mgk r ≤ MM r * 2 ^ mgk r := by
        rw [key, Nat.mul_assoc, ← Nat.pow_add]
        refine Nat.mul_le_mul (by omega) (Nat.pow_le_pow_right (by decide) (by omega))
      have h4 := Nat.le_of_mul_le_mul_right h3 (Nat.two_pow_pos _)
      have := (Nat.le_div_iff_mul_le (Nat.two_pow_pos B)).2 h4
      omega
    · obtain ⟨d, hd⟩ : ∃ d : Nat, (52 - nE r).toNat = d := ⟨_, rfl⟩
      rw [hd]
      have e1 : MM r * 2 ^ mgk r * 2 ^ d = nM r * (2 ^ B * 2 ^ mgk r) := by
        rw [key, Nat.mul_assoc, ← Nat.pow_add, ← Nat.pow_add, show ex r + d = B + mgk r by omega]
      have e2 : MM r * 2 ^ d = nM r * 2 ^ B := by
        refine Nat.eq_of_mul_eq_mul_right (Nat.two_pow_pos (mgk r)) ?_
        rw [Nat.mul_right_comm, e1, Nat.mul_assoc]
      have f1 : MM r % 2 ^ B = 0 ↔ nM r % 2 ^ d = 0 := by
        rw [← Nat.dvd_iff_mod_eq_zero, ← Nat.dvd_iff_mod_eq_zero]
        constructor
        · rintro ⟨q, hq⟩
          refine ⟨q, Nat.eq_of_mul_eq_mul_right (Nat.two_pow_pos B) ?_⟩
          rw [← e2, hq, Nat.mul_right_comm (2 ^ d), Nat.mul_comm (2 ^ B) q, Nat.mul_right_comm q, Nat.mul_comm q, Nat.mul_right_comm (2 ^ d)]
        · rintro ⟨q, hq⟩
          refine ⟨q, Nat.eq_of_mul_eq_mul_right (Nat.two_pow_pos d) ?_⟩
          rw [e2, hq, Nat.mul_right_comm (2 ^ B), Nat.mul_comm (2 ^ d) q, Nat.mul_right_comm q, Nat.mul_comm q, Nat.mul_right_comm (2 ^ B)]
      have f2 : MM r / 2 ^ B = nM r / 2 ^ d := by
        have g1 : MM r * 2 ^ d / (2 ^ B * 2 ^ d) = MM r / 2 ^ B := Nat.mul_div_mul_right _ _ (Nat.two_pow_pos d)
        have g2 : nM r * 2 ^ B / (2 ^ d * 2 ^ B) = nM r / 2 ^ d := Nat.mul_div_mul_right _ _ (Nat.two_pow_pos B)
        rw [← g1, ← g2, e2, Nat.mul_comm (2 ^ B)]
      rw [f1, f2]
      exact ⟨fun ⟨a, b⟩ => ⟨hn, hm, a, b⟩, fun ⟨_, _, a, b⟩ => ⟨a, b⟩⟩
theorem whole_val {r : Nat} (h : 0 ≤ nE r) (h' : nE r ≤ 52) : MM r / 2 ^ B = nM r / 2 ^ (52 - nE r).toNat := by
  have key := MM_nM (r := r)
  have hE : nE r = (ex r : Int) - 1022 - (mgk r : Int) := rfl
  obtain ⟨d, hd⟩ : ∃ d : Nat, (52 - nE r).toNat = d := ⟨_, rfl⟩
  rw [hd]
  have e1 : MM r * 2 ^ mgk r * 2 ^ d = nM r * (2 ^ B * 2 ^ mgk r) := by
    rw [key, Nat.mul_assoc, ← Nat.pow_add, ← Nat.pow_add, show ex r + d = B + mgk r by omega]
  have e2 : MM r * 2 ^ d = nM r * 2 ^ B := by
    refine Nat.eq_of_mul_eq_mul_right (Nat.two_pow_pos (mgk r)) ?_
    rw [Nat.mul_right_comm, e1, Nat.mul_assoc]
  have g1 : MM r * 2 ^ d / (2 ^ B * 2 ^ d) = MM r / 2 ^ B := Nat.mul_div_mul_right _ _ (Nat.two_pow_pos d)
  have g2 : nM r * 2 ^ B / (2 ^ d * 2 ^ B) = nM r / 2 ^ d := Nat.mul_div_mul_right _ _ (Nat.two_pow_pos B)
  rw [← g1, ← g2, e2, Nat.mul_comm (2 ^ B)]
/-- A number of 53 digits as a whole number. -/
theorem norm_word {M : Nat} (h1 : 4503599627370496 ≤ M) (h2 : M < 9007199254740992) : RR B (M * 2 ^ (2 * B)) = B * 4503599627370496 + M ∧ MM (B * 4503599627370496 + M) = M * 2 ^ B := by
  refine ⟨?_, ?_⟩
  · rw [RR_norm B h1 h2 (by omega), show 2 * B - B = B by omega]
  · unfold MM mg ex
    rw [if_neg (by omega), if_neg (by omega), show (B * 4503599627370496 + M) / 4503599627370496 - 1 = B by omega, show 4503599627370496 + (B * 4503599627370496 + M) % 4503599627370496 = M by omega]
end
end Go.Vc
