/-
  Numbers shown, in plain Lean: digits in base 10 and in base 16.
-/
import Derived.Test.YtffhlgejfgmpiaaGreatDoorStrL
namespace Go.Vc
/-- A whole number's digits. -/
def decL (n : Nat) : List Int := if n < 10 then [48 + (n : Int)] else decL (n / 10) ++ [48 + ((n % 10 : Nat) : Int)]
termination_by n
decreasing_by omega
theorem decL_small {n : Nat} (h : n < 10) : decL n = [48 + (n : Int)] := by rw [decL, if_pos h]
theorem decL_big {n : Nat} (h : ¬ n < 10) : decL n = decL (n / 10) ++ [48 + ((n % 10 : Nat) : Int)] := by rw [decL, if_neg h]
theorem decL_pos (n : Nat) : 0 < (decL n).length := by
  rw [decL]; split <;> simp
theorem decL_dig : ∀ n, ∀ x ∈ decL n, 48 ≤ x ∧ x ≤ 57 := by
  intro n
  induction n using Nat.strongRecOn with
  | ind n ih =>
    intro x hx
    by_cases h : n < 10
    · rw [decL_small h] at hx
      simp at hx; omega
    · rw [decL_big h] at hx
      rcases List.mem_append.1 hx with hx | hx
      · exact ih (n / 10) (by omega) x hx
      · simp only [List.mem_singleton] at hx; omega
theorem decL_len : ∀ n, n < 10 ^ (decL n).length ∧ (n = 0 ∨ 10 ^ ((decL n).length - 1) ≤ n) := by
  intro n
  induction n using Nat.strongRecOn with
  | ind n ih =>
    by_cases h : n < 10
    · rw [decL_small h]
      simp only [List.length_singleton]
      omega
    · rw [decL_big h, List.length_append, List.length_singleton, Nat.pow_succ]
      obtain ⟨h1, h2⟩ := ih (n / 10) (by omega)
      have hp := decL_pos (n / 10)
      refine ⟨by omega, .inr ?_⟩
      rw [Nat.add_sub_cancel]
      have e : 10 ^ (decL (n / 10)).length = 10 ^ ((decL (n / 10)).length - 1) * 10 := by
        rw [← Nat.pow_succ]; congr 1; omega
      rw [e]
      omega
theorem pow_len {n a b : Nat} (h1 : n < 10 ^ a) (h2 : 10 ^ (b - 1) ≤ n) : b ≤ a := by
  have := (Nat.pow_lt_pow_iff_right (a := 10) (by decide)).1 (Nat.lt_of_le_of_lt h2 h1)
  omega
theorem decL_len_le {n k : Nat} (hk : 1 ≤ k) (h : n < 10 ^ k) : (decL n).length ≤ k := by
  obtain ⟨h1, h2⟩ := decL_len n
  by_cases h0 : n = 0
  · subst h0
    have : decL 0 = [48] := decL_small (by decide)
    rw [this]; exact hk
  · rcases h2 with h2 | h2
    · exact absurd h2 h0
    · exact pow_len h h2
theorem decL_uniq {n l : Nat} (h1 : n < 10 ^ l) (h2 : l = 1 ∨ 10 ^ (l - 1) ≤ n) (h3 : 1 ≤ l) : (decL n).length = l := by
  obtain ⟨g1, g2⟩ := decL_len n
  have gp := decL_pos n
  have a := decL_len_le h3 h1
  rcases h2 with h2 | h2
  · omega
  · by_cases h0 : n = 0
    · subst h0
      have hp : 0 < 10 ^ (l - 1) := Nat.pow_pos (by decide)
      omega
    · have b := pow_len g1 h2
      omega
/-- The digits by place. -/
theorem decL_get : ∀ n j, (h : j < (decL n).length) → (decL n)[j] = 48 + ((n / 10 ^ ((decL n).length - 1 - j) % 10 : Nat) : Int) := by
  intro n
  induction n using Nat.strongRecOn with
  | ind n ih =>
    intro j hj
    by_cases h : n < 10
    · have e := decL_small h
      have hj0 : j = 0 := by rw [e] at hj; simp at hj; exact hj
      subst hj0
      simp only [e, List.length_singleton, List.getElem_cons_zero]
      simp
      omega
    · have e := decL_big h
      have hl : (decL n).length = (decL (n / 10)).length + 1 := by rw [e]; simp
      rcases Nat.lt_or_ge j (decL (n / 10)).length with h2 | h2
      · have g : (decL n)[j] = (decL (n / 10))[j] := by
          have : (decL n)[j]? = (decL (n / 10))[j]? := by rw [e, List.getElem?_append_left h2]
          rw [List.getElem?_eq_getElem hj, List.getElem?_eq_getElem h2] at this
          exact Option.some.inj this
        rw [g, ih (n / 10) (by omega) j h2, hl, Nat.div_div_eq_div_mul, ← Nat.pow_succ']
        rw [show ((decL (n / 10)).length - 1 - j).succ = (decL (n / 10)).length + 1 - 1 - j by omega]
      · have hj1 : j = (decL (n / 10)).length := by omega
        have g : (decL n)[j] = 48 + ((n % 10 : Nat) : Int) := by
          have : (decL n)[j]? = some (48 + ((n % 10 : Nat) : Int)) := by
            rw [e, hj1, List.getElem?_append_right (Nat.le_refl _), Nat.sub_self]; rfl
          rw [List.getElem?_eq_getElem hj] at this
          exact Option.some.inj this
        rw [g, hl, show (decL (n / 10)).length + 1 - 1 - j = 0 by omega, Nat.pow_zero, Nat.div_one]
theorem list_ext' {a b : List Int} (hl : a.length = b.length) (h : ∀ j (h1 : j < a.length) (h2 : j < b.length), a[j] = b[j]) : a = b := List.ext_getElem hl h
theorem decL_eq {n : Nat} {l : List Int} (h1 : n < 10 ^ l.length) (h2 : l.length = 1 ∨ 10 ^ (l.length - 1) ≤ n) (h3 : 1 ≤ l.length) (h : ∀ j (h : j < l.length), l[j] = 48 + ((n / 10 ^ (l.length - 1 - j) % 10 : Nat) : Int)) : l = decL n := by
  have hl := decL_uniq h1 h2 h3
  refine list_ext' hl.symm fun j a b => ?_
  rw [h j a, decL_get n j b, hl]
/-- A digit in base 16. -/
def hexc (d : Nat) : Int := if d < 10 then 48 + (d : Int) else 87 + (d : Int)
def hexL (n : Nat) : List Int := if n < 16 then [hexc n] else hexL (n / 16) ++ [hexc (n % 16)]
termination_by n
decreasing_by omega
theorem hexL_small {n : Nat} (h : n < 16) : hexL n = [hexc n] := by rw [hexL, if_pos h]
theorem hexL_big {n : Nat} (h : ¬ n < 16) : hexL n = hexL (n / 16) ++ [hexc (n % 16)] := by rw [hexL, if_neg h]
theorem hexL_len : ∀ {n k}, 1 ≤ k → n < 16 ^ k → (hexL n).length ≤ k ∧ 1 ≤ (hexL n).length := by
  intro n
  induction n using Nat.strongRecOn with
  | ind n ih =>
    intro k hk h
    by_cases h0 : n < 16
    · rw [hexL_small h0]; simp; exact hk
    · rw [hexL_big h0]
      obtain ⟨k, rfl⟩ : ∃ t, k = t + 1 := ⟨k - 1, by omega⟩
      have hk1 : 1 ≤ k := by
        rcases Nat.eq_zero_or_pos k with rfl | h'
        · simp at h; omega
        · exact h'
      rw [Nat.pow_succ] at h
      have := ih (n / 16) (by omega) hk1 (by omega)
      rw [List.length_append, List.length_singleton]
      omega
/-- So many digits in base 16. -/
def padL : Nat → Nat → List Int
  | 0, _ => []
  | k + 1, n => padL k (n / 16) ++ [hexc (n % 16)]
theorem padL_len : ∀ k n, (padL k n).length = k
  | 0, _ => rfl
  | k + 1, n => by show (padL k (n / 16) ++ [hexc (n % 16)]).length = k + 1; rw [List.length_append, padL_len k]; rfl
theorem padL_zero : ∀ k, padL k 0 = List.replicate k 48
  | 0 => rfl
  | k + 1 => by
    show padL k (0 / 16) ++ [hexc (0 % 16)] = _
    rw [Nat.zero_div, padL_zero k]
    show List.replicate k 48 ++ [48] = _
    rw [List.replicate_succ']
theorem pad_hex : ∀ {k n}, n < 16 ^ k → 1 ≤ k → List.replicate (k - (hexL n).length) 48 ++ hexL n = padL k n
  | 0, n, _, h => by omega
  | k + 1, n, h, _ => by
    by_cases h0 : n < 16
    · rw [hexL_small h0]
      show List.replicate (k + 1 - 1) 48 ++ [hexc n] = padL k (n / 16) ++ [hexc (n % 16)]
      rw [Nat.div_eq_of_lt h0, Nat.mod_eq_of_lt h0, padL_zero, Nat.add_sub_cancel]
    · rw [hexL_big h0, List.length_append, List.length_singleton, Nat.add_sub_add_right]
      have hk1 : 1 ≤ k := by
        rcases Nat.eq_zero_or_pos k with rfl | h'
        · simp at h; omega
        · exact h'
      rw [Nat.pow_succ] at h
      rw [← List.append_assoc, pad_hex (n := n / 16) (by omega) hk1]
      rfl
theorem padL_head : ∀ {k n}, n < 16 ^ (k + 1) → padL (k + 1) n = hexc (n / 16 ^ k) :: padL k (n % 16 ^ k)
  | 0, n, h => by
    simp at h
    show padL 0 (n / 16) ++ [hexc (n % 16)] = _
    rw [Nat.pow_zero, Nat.div_one, Nat.mod_eq_of_lt h]; rfl
  | k + 1, n, h => by
    have h' : n < 16 ^ (k + 1) * 16 := by rw [← Nat.pow_succ]; exact h
    have e1 : padL (k + 1 + 1) n = padL (k + 1) (n / 16) ++ [hexc (n % 16)] := rfl
    rw [e1, padL_head (k := k) (n := n / 16) (by omega), List.cons_append]
    have e2 : n / 16 / 16 ^ k = n / 16 ^ (k + 1) := by rw [Nat.div_div_eq_div_mul, ← Nat.pow_succ']
    have e3 : padL (k + 1) (n % 16 ^ (k + 1)) = padL k (n % 16 ^ (k + 1) / 16) ++ [hexc (n % 16 ^ (k + 1) % 16)] := rfl
    have e4 : n % 16 ^ (k + 1) / 16 = n / 16 % 16 ^ k := by
      rw [Nat.pow_succ', Nat.mod_mul_right_div_self]
    have e5 : n % 16 ^ (k + 1) % 16 = n % 16 := by
      rw [Nat.pow_succ', Nat.mod_mul_right_mod]
    rw [e2, e3, e4, e5]
/-- The digits behind the point, without zeros at the end. -/
def frL : Nat → Nat → List Int
  | 0, _ => []
  | k + 1, n => if n = 0 then [] else hexc (n / 16 ^ k) :: frL k (n % 16 ^ k)
theorem frL_zero : ∀ k, frL k 0 = []
  | 0 => rfl
  | k + 1 => by show (if (0 : Nat) = 0 then [] else _) = _; rw [if_pos rfl]
theorem frL_len : ∀ k n, (frL k n).length ≤ k
  | 0, _ => Nat.le_refl _
  | k + 1, n => by
    show (if n = 0 then [] else hexc (n / 16 ^ k) :: frL k (n % 16 ^ k)).length ≤ k + 1
    split
    · simp
    · rw [List.length_cons]; have := frL_len k (n % 16 ^ k); omega
theorem frL_nil : ∀ {k n}, n < 16 ^ k → frL k n = [] → n = 0
  | 0, n, h, _ => by simp at h; exact h
  | k + 1, n, h, e => by
    unfold frL at e
    split at e
    · assumption
    · cases e
/-- Without zeros at the end. -/
def trimZ (l : List Int) : List Int := (l.reverse.dropWhile (· == 48)).reverse
theorem trimZ_nil : trimZ [] = [] := rfl
theorem trimZ_snoc (l : List Int) (c : Int) : trimZ (l ++ [c]) = if c = 48 then trimZ l else l ++ [c] := by
  unfold trimZ
  rw [List.reverse_append, List.reverse_singleton, List.singleton_append, List.dropWhile_cons]
  by_cases h : c = 48
  · have : (c == 48) = true := by simpa using h
    rw [if_pos this, if_pos h]
  · have : ¬ (c == 48) = true := by simpa using h
    rw [if_neg this, if_neg h, List.reverse_cons, List.reverse_reverse]
theorem trimZ_cons (c : Int) (l : List Int) : trimZ (c :: l) = if trimZ l = [] then (if c = 48 then [] else [c]) else c :: trimZ l := by
  have key : ∀ (n : Nat) (l : List Int), l.length = n → trimZ (c :: l) = if trimZ l = [] then (if c = 48 then [] else [c]) else c :: trimZ l := by
    intro n
    induction n with
    | zero =>
      intro l hl
      have : l = [] := List.length_eq_zero_iff.1 hl
      subst this
      rw [trimZ_nil, if_pos rfl]
      have := trimZ_snoc [] c
      rw [List.nil_append, trimZ_nil] at this
      exact this
    | succ n ih =>
      intro l hl
      rcases List.eq_nil_or_concat l with rfl | ⟨q, x, rfl⟩
      · simp at hl
      · rw [List.concat_eq_append] at hl ⊢
        rw [← List.cons_append, trimZ_snoc, trimZ_snoc]
        by_cases hx : x = 48
        · rw [if_pos hx, if_pos hx]
          exact ih q (by simp at hl; exact hl)
        · rw [if_neg hx, if_neg hx, if_neg (by simp), List.cons_append]
  exact key _ l rfl
theorem hexc_zero {d : Nat} (h : hexc d = 48) : d = 0 := by
  unfold hexc at h
  split at h <;> omega
theorem trim_pad : ∀ {k n}, n < 16 ^ k → trimZ (padL k n) = frL k n
  | 0, _, _ => rfl
  | k + 1, n, h => by
    rw [padL_head h, trimZ_cons, trim_pad (k := k) (Nat.mod_lt _ (Nat.pow_pos (by decide)))]
    show _ = if n = 0 then [] else hexc (n / 16 ^ k) :: frL k (n % 16 ^ k)
    by_cases h0 : n = 0
    · subst h0
      rw [if_pos rfl, Nat.zero_mod, frL_zero, if_pos rfl, Nat.zero_div]
      rfl
    · rw [if_neg h0]
      by_cases h1 : frL k (n % 16 ^ k) = []
      · rw [if_pos h1, h1]
        have e := frL_nil (Nat.mod_lt _ (Nat.pow_pos (by decide))) h1
        rw [if_neg]
        intro hc
        have e2 := hexc_zero hc
        have := Nat.div_add_mod n (16 ^ k)
        rw [e, e2] at this
        simp at this
        omega
      · rw [if_neg h1]
end Go.Vc
