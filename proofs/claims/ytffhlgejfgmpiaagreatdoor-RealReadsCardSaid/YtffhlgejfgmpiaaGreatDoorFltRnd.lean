/-
  Numbers with a point: rounding keeps order, and what is a number stays.
-/
import Derived.Test.YtffhlgejfgmpiaaGreatDoorFltPure
namespace Go.Vc
/-- A quotient rounded to the nearest, ties to even. -/
def rne (V L : Nat) : Nat := V / 2 ^ L + if 2 ^ L < 2 * (V % 2 ^ L) ∨ 2 ^ L = 2 * (V % 2 ^ L) ∧ V / 2 ^ L % 2 = 1 then 1 else 0
theorem rne_mono {V1 V2 L : Nat} (h : V1 ≤ V2) : rne V1 L ≤ rne V2 L := by
  unfold rne
  have hg : 0 < 2 ^ L := Nat.two_pow_pos _
  generalize 2 ^ L = g at *
  have e1 := Nat.div_add_mod V1 g
  have e2 := Nat.div_add_mod V2 g
  have m1 := Nat.mod_lt V1 hg
  have m2 := Nat.mod_lt V2 hg
  have hd : V1 / g ≤ V2 / g := Nat.div_le_div_right h
  by_cases hq : V1 / g = V2 / g
  · rw [hq] at e1 ⊢
    generalize g * (V2 / g) = p at *
    (repeat' split) <;> omega
  · (repeat' split) <;> omega
theorem rne_exact (q L : Nat) : rne (q * 2 ^ L) L = q := by
  unfold rne
  have hg : 0 < 2 ^ L := Nat.two_pow_pos _
  rw [Nat.mul_div_cancel _ hg, Nat.mul_mod_left, if_neg (by omega), Nat.add_zero]
theorem rne_scale (m s d : Nat) : rne (m * 2 ^ s) (d + s) = rne m d := by
  unfold rne
  have hs : 0 < 2 ^ s := Nat.two_pow_pos _
  rw [Nat.pow_add, Nat.mul_div_mul_right _ _ hs, Nat.mul_mod_mul_right]
  have e : 2 * (m % 2 ^ d * 2 ^ s) = 2 * (m % 2 ^ d) * 2 ^ s := by rw [Nat.mul_assoc]
  have e1 : 2 ^ d * 2 ^ s < 2 * (m % 2 ^ d) * 2 ^ s ↔ 2 ^ d < 2 * (m % 2 ^ d) := Nat.mul_lt_mul_right hs
  have e2 : (2 ^ d * 2 ^ s = 2 * (m % 2 ^ d) * 2 ^ s) ↔ 2 ^ d = 2 * (m % 2 ^ d) := ⟨fun h => Nat.eq_of_mul_eq_mul_right hs h, fun h => by rw [← h]⟩
  rw [e]
  have hc := or_congr e1 (and_congr e2 (Iff.refl (m / 2 ^ d % 2 = 1)))
  by_cases k : 2 ^ d < 2 * (m % 2 ^ d) ∨ 2 ^ d = 2 * (m % 2 ^ d) ∧ m / 2 ^ d % 2 = 1
  · rw [if_pos (hc.2 k), if_pos k]
  · rw [if_neg fun z => k (hc.1 z), if_neg k]
theorem lt_log (n : Nat) : n < 2 ^ (n.log2 + 1) := Nat.lt_log2_self
theorem le_log {n : Nat} (h : n ≠ 0) : 2 ^ n.log2 ≤ n := Nat.log2_self_le h
theorem log_eq {n k : Nat} (h1 : 2 ^ k ≤ n) (h2 : n < 2 ^ (k + 1)) : n.log2 = k := by
  have : 0 < 2 ^ k := Nat.two_pow_pos _
  exact (Nat.log2_eq_iff (by omega)).2 ⟨h1, h2⟩
theorem log_mul {m : Nat} (h : m ≠ 0) (s : Nat) : (m * 2 ^ s).log2 = m.log2 + s := by
  refine log_eq ?_ ?_
  · rw [Nat.pow_add]; exact Nat.mul_le_mul_right _ (le_log h)
  · rw [show m.log2 + s + 1 = m.log2 + 1 + s by omega, Nat.pow_add _ (m.log2 + 1)]
    exact Nat.mul_lt_mul_of_pos_right (lt_log m) (Nat.two_pow_pos _)
theorem log_mono {a b : Nat} (h : a ≤ b) : a.log2 ≤ b.log2 := by
  by_cases ha : a = 0
  · subst ha; simp
  · refine Nat.le_of_lt_succ ((Nat.pow_lt_pow_iff_right (a := 2) (by decide)).1 ?_)
    exact Nat.lt_of_le_of_lt (Nat.le_trans (le_log ha) h) (lt_log b)
theorem cut_rne (neg : Bool) (m d : Nat) : Ieee.Toward.even.cut neg m d = rne m d := by
  unfold Ieee.Toward.cut rne
  simp only [Nat.shiftLeft_eq, Nat.one_mul]
  have hb : ∀ g r q : Nat, (decide (g < 2 * r) || (g == 2 * r && q % 2 == 1)).toNat = if g < 2 * r ∨ g = 2 * r ∧ q % 2 = 1 then 1 else 0 := fun g r q => by
    by_cases h1 : g < 2 * r
    · simp [h1]
    · by_cases h2 : g = 2 * r
      · by_cases h3 : q % 2 = 1 <;> simp [h1, h2, h3]
      · simp [h1, h2]
  rw [hb]
  by_cases h : d ≤ m.log2 + 2
  · rw [Nat.min_eq_left h]
  · rw [Nat.min_eq_right (by omega)]
    have h1 := lt_log m
    have h2 : 2 ^ (m.log2 + 2) = 2 * 2 ^ (m.log2 + 1) := by rw [Nat.pow_succ 2 (m.log2 + 1)]; omega
    have h3 : 2 ^ (m.log2 + 2) ≤ 2 ^ d := Nat.pow_le_pow_right (by decide) (by omega)
    generalize 2 ^ (m.log2 + 2) = g at *
    generalize 2 ^ d = k at *
    rw [Nat.div_eq_of_lt (by omega), Nat.mod_eq_of_lt (a := m) (b := g) (by omega), Nat.div_eq_of_lt (by omega), Nat.mod_eq_of_lt (a := m) (b := k) (by omega), if_neg (by omega), if_neg (by omega)]
/-- The place of the last digit that is kept, in units; the rung. -/
def LL (B V : Nat) : Nat := max (V.log2 - 52) B
def RR (B V : Nat) : Nat := (LL B V - B) * 4503599627370496 + rne V (LL B V)
theorem LL_ge (B V : Nat) : B ≤ LL B V := Nat.le_max_right _ _
theorem RR_mono (B : Nat) {V1 V2 : Nat} (h : V1 ≤ V2) : RR B V1 ≤ RR B V2 := by
  have hl := log_mono h
  have g1 := LL_ge B V1
  have hL : LL B V1 ≤ LL B V2 := by unfold LL; omega
  by_cases he : LL B V1 = LL B V2
  · unfold RR; rw [he]
    exact Nat.add_le_add_left (rne_mono h) _
  · have h2 : LL B V2 = V2.log2 - 52 ∧ B < V2.log2 - 52 := by unfold LL at *; omega
    have a1 : rne V1 (LL B V1) ≤ 9007199254740992 := by
      have hx : V1 < 9007199254740992 * 2 ^ LL B V1 := by
        refine Nat.lt_of_lt_of_le (lt_log V1) ?_
        rw [show (9007199254740992 : Nat) = 2 ^ 53 by decide, ← Nat.pow_add]
        exact Nat.pow_le_pow_right (by decide) (by unfold LL; omega)
      have := rne_mono (L := LL B V1) (Nat.le_of_lt hx)
      rwa [rne_exact] at this
    have a2 : 4503599627370496 ≤ rne V2 (LL B V2) := by
      have hx : 4503599627370496 * 2 ^ LL B V2 ≤ V2 := by
        have hne : V2 ≠ 0 := fun e => by subst e; simp at h2
        refine Nat.le_trans ?_ (le_log hne)
        rw [show (4503599627370496 : Nat) = 2 ^ 52 by decide, ← Nat.pow_add]
        exact Nat.pow_le_pow_right (by decide) (by omega)
      have := rne_mono (L := LL B V2) hx
      rwa [rne_exact] at this
    unfold RR
    omega
theorem RR_norm (B : Nat) {M E : Nat} (h1 : 4503599627370496 ≤ M) (h2 : M < 9007199254740992) (hE : B ≤ E) : RR B (M * 2 ^ E) = (E - B) * 4503599627370496 + M := by
  have hl : (M * 2 ^ E).log2 = 52 + E := by
    rw [log_mul (by omega), log_eq (n := M) (k := 52) (by simpa using h1) (by simpa using h2)]
  have hL : LL B (M * 2 ^ E) = E := by unfold LL; rw [hl]; omega
  unfold RR
  rw [hL, rne_exact]
theorem RR_sub (B : Nat) {m : Nat} (h : m < 9007199254740992) : RR B (m * 2 ^ B) = m := by
  have hL : LL B (m * 2 ^ B) = B := by
    unfold LL
    by_cases h0 : m = 0
    · subst h0; simp
    · rw [log_mul h0]
      have : m.log2 < 53 := (Nat.pow_lt_pow_iff_right (a := 2) (by decide)).1 (Nat.lt_of_le_of_lt (le_log h0) (by simpa using h))
      omega
  unfold RR
  rw [hL, rne_exact]; omega
theorem RR_MM (B r : Nat) : RR B (MM r * 2 ^ B) = r := by
  unfold MM mg ex
  by_cases h : r < 4503599627370496
  · rw [if_pos h, if_pos h, Nat.pow_zero, Nat.mul_one, RR_sub B (by omega)]
  · rw [if_neg h, if_neg h, Nat.mul_assoc, ← Nat.pow_add]
    have hr := Nat.mod_lt r (show 0 < 4503599627370496 by decide)
    rw [RR_norm B (by omega) (by omega) (by omega)]
    omega
/-- A little below a number it is rounded below it. -/
theorem RR_below (B : Nat) {V r : Nat} (hr : 9007199254740992 ≤ r) (h : V * 9007199254740992 ≤ MM r * 2 ^ B * 9007199254740991) : RR B V < r := by
  have hmr := Nat.mod_lt r (show 0 < 4503599627370496 by decide)
  have hg : 0 < 2 ^ (r / 4503599627370496 - 2 + B) := Nat.two_pow_pos _
  have hE : 2 ^ (r / 4503599627370496 - 1) * 2 ^ B = 2 * 2 ^ (r / 4503599627370496 - 2 + B) := by
    rw [← Nat.pow_add, show r / 4503599627370496 - 1 + B = r / 4503599627370496 - 2 + B + 1 by omega, Nat.pow_succ]; omega
  by_cases hM : r % 4503599627370496 = 0
  · have hp : RR B (9007199254740991 * 2 ^ (r / 4503599627370496 - 2 + B)) = r - 1 := by
      rw [RR_norm B (by decide) (by decide) (by omega)]; omega
    have hV : V ≤ 9007199254740991 * 2 ^ (r / 4503599627370496 - 2 + B) := by
      unfold MM mg ex at h
      rw [if_neg (by omega), if_neg (by omega), hM, Nat.mul_assoc _ _ (2 ^ B), hE] at h
      omega
    have := RR_mono B hV
    omega
  · have hV : V < (2 * (4503599627370496 + r % 4503599627370496) - 1) * 2 ^ (r / 4503599627370496 - 2 + B) := by
      unfold MM mg ex at h
      rw [if_neg (by omega), if_neg (by omega), Nat.mul_assoc _ _ (2 ^ B), hE] at h
      rw [Nat.mul_sub_right_distrib, Nat.one_mul, Nat.mul_assoc]
      have k1 : (4503599627370496 + 1) * 2 ^ (r / 4503599627370496 - 2 + B) ≤ (4503599627370496 + r % 4503599627370496) * 2 ^ (r / 4503599627370496 - 2 + B) := Nat.mul_le_mul_right _ (by omega)
      rw [show (4503599627370496 + r % 4503599627370496) * (2 * 2 ^ (r / 4503599627370496 - 2 + B)) = 2 * ((4503599627370496 + r % 4503599627370496) * 2 ^ (r / 4503599627370496 - 2 + B)) by rw [Nat.mul_left_comm]] at h
      generalize (4503599627370496 + r % 4503599627370496) * 2 ^ (r / 4503599627370496 - 2 + B) = p at *
      generalize 2 ^ (r / 4503599627370496 - 2 + B) = g at *
      omega
    generalize hMM : 4503599627370496 + r % 4503599627370496 = M at *
    have hg2 : 2 ^ (r / 4503599627370496 - 1 + B) = 2 * 2 ^ (r / 4503599627370496 - 2 + B) := by rw [Nat.pow_add]; exact hE
    have hV2 : V ≤ (M - 1) * 2 ^ (r / 4503599627370496 - 1 + B) + (2 ^ (r / 4503599627370496 - 2 + B) - 1) := by
      rw [hg2]
      rw [show 2 * M - 1 = 2 * (M - 1) + 1 by omega, Nat.add_mul, Nat.one_mul] at hV
      rw [Nat.mul_left_comm, ← Nat.mul_assoc]
      omega
    have hlow : 4503599627370496 * 2 ^ (r / 4503599627370496 - 1 + B) ≤ (M - 1) * 2 ^ (r / 4503599627370496 - 1 + B) := Nat.mul_le_mul_right _ (by omega)
    have hhigh : (M - 1 + 1) * 2 ^ (r / 4503599627370496 - 1 + B) ≤ 9007199254740992 * 2 ^ (r / 4503599627370496 - 1 + B) := Nat.mul_le_mul_right _ (by omega)
    rw [Nat.add_mul, Nat.one_mul] at hhigh
    have hlog : ((M - 1) * 2 ^ (r / 4503599627370496 - 1 + B) + (2 ^ (r / 4503599627370496 - 2 + B) - 1)).log2 = 52 + (r / 4503599627370496 - 1 + B) := by
      refine log_eq ?_ ?_
      · rw [Nat.pow_add 2 52, show 2 ^ 52 = 4503599627370496 by decide]; omega
      · rw [show 52 + (r / 4503599627370496 - 1 + B) + 1 = 53 + (r / 4503599627370496 - 1 + B) by omega, Nat.pow_add 2 53, show 2 ^ 53 = 9007199254740992 by decide]; omega
    have hR : RR B ((M - 1) * 2 ^ (r / 4503599627370496 - 1 + B) + (2 ^ (r / 4503599627370496 - 2 + B) - 1)) = r - 1 := by
      have hL : LL B ((M - 1) * 2 ^ (r / 4503599627370496 - 1 + B) + (2 ^ (r / 4503599627370496 - 2 + B) - 1)) = r / 4503599627370496 - 1 + B := by
        unfold LL; rw [hlog]; omega
      unfold RR
      rw [hL]
      unfold rne
      rw [hg2]
      generalize 2 ^ (r / 4503599627370496 - 2 + B) = g at *
      have d1 : ((M - 1) * (2 * g) + (g - 1)) / (2 * g) = M - 1 := by
        rw [Nat.mul_comm (M - 1), Nat.mul_add_div (by omega), Nat.div_eq_of_lt (by omega), Nat.add_zero]
      have d2 : ((M - 1) * (2 * g) + (g - 1)) % (2 * g) = g - 1 := by
        rw [Nat.mul_comm (M - 1), Nat.mul_add_mod, Nat.mod_eq_of_lt (by omega)]
      rw [d1, d2, if_neg (by omega)]
      omega
    have := RR_mono B hV2
    omega
end Go.Vc
