/-
  Numbers in base 16, in plain Lean: what their digits say.
-/
import Derived.Test.YtffhlgejfgmpiaaGreatDoorShowFlt
namespace Go.Vc
def hexN (l : List Nat) : Nat := l.foldl (fun n d => n * 16 + d) 0
theorem hexN_snoc (l : List Nat) (d : Nat) : hexN (l ++ [d]) = hexN l * 16 + d := by unfold hexN; rw [List.foldl_append]; rfl
theorem hexN_acc : ∀ (l : List Nat) (a : Nat), l.foldl (fun n d => n * 16 + d) a = a * 16 ^ l.length + hexN l
  | [], a => by simp [hexN]
  | d :: r, a => by
    rw [List.foldl_cons, hexN_acc r]
    unfold hexN
    rw [List.foldl_cons, hexN_acc r (0 * 16 + d), List.length_cons, Nat.pow_succ]
    rw [Nat.add_mul, Nat.zero_mul, Nat.zero_add, Nat.mul_assoc, Nat.mul_comm 16, Nat.add_assoc]
    rfl
theorem hexN_cons (d : Nat) (r : List Nat) : hexN (d :: r) = d * 16 ^ r.length + hexN r := by
  unfold hexN
  rw [List.foldl_cons, hexN_acc r]
  rw [Nat.zero_mul, Nat.zero_add]
  rfl
theorem hexN_lt : ∀ {l : List Nat}, (∀ d ∈ l, d < 16) → hexN l < 16 ^ l.length
  | [], _ => by decide
  | d :: r, h => by
    rw [hexN_cons, List.length_cons, Nat.pow_succ]
    have h1 := h d List.mem_cons_self
    have h2 := hexN_lt (l := r) fun x hx => h x (List.mem_cons_of_mem _ hx)
    have h3 : d * 16 ^ r.length ≤ 15 * 16 ^ r.length := Nat.mul_le_mul_right _ (by omega)
    omega
/-- The digits behind the point, as numbers. -/
def frN : Nat → Nat → List Nat
  | 0, _ => []
  | k + 1, n => if n = 0 then [] else (n / 16 ^ k) :: frN k (n % 16 ^ k)
theorem frN_map : ∀ k n, frL k n = (frN k n).map hexc
  | 0, _ => rfl
  | k + 1, n => by
    unfold frL frN
    split
    · rfl
    · rw [List.map_cons, frN_map k]
theorem frN_len : ∀ k n, (frN k n).length ≤ k := fun k n => by
  have := frL_len k n
  rw [frN_map, List.length_map] at this
  exact this
theorem frN_dig : ∀ {k n}, n < 16 ^ k → ∀ d ∈ frN k n, d < 16
  | 0, _, _, d, hd => by cases hd
  | k + 1, n, h, d, hd => by
    unfold frN at hd
    split at hd
    · cases hd
    · rcases List.mem_cons.1 hd with rfl | hd
      · rw [Nat.div_lt_iff_lt_mul (Nat.pow_pos (by decide)), ← Nat.pow_succ']; exact h
      · exact frN_dig (Nat.mod_lt _ (Nat.pow_pos (by decide))) d hd
theorem frN_val : ∀ {k n}, n < 16 ^ k → hexN (frN k n) * 16 ^ (k - (frN k n).length) = n
  | 0, n, h => by
    simp at h; subst h; decide
  | k + 1, n, h => by
    unfold frN
    split
    · rename_i h0; subst h0; simp [hexN]
    · have ih := frN_val (k := k) (n := n % 16 ^ k) (Nat.mod_lt _ (Nat.pow_pos (by decide)))
      have hl := frN_len k (n % 16 ^ k)
      rw [hexN_cons, List.length_cons, Nat.add_sub_add_right, Nat.add_mul, ih, Nat.mul_assoc, ← Nat.pow_add, show (frN k (n % 16 ^ k)).length + (k - (frN k (n % 16 ^ k)).length) = k by omega]
      rw [Nat.mul_comm]; exact Nat.div_add_mod n (16 ^ k)
/-- A number's digits, the first one too. -/
theorem lead_val {k n : Nat} (h : n < 16 ^ k) : hexN (1 :: frN k n) * 16 ^ (k - (frN k n).length) = 16 ^ k + n := by
  have hl := frN_len k n
  rw [hexN_cons, Nat.add_mul, frN_val h, Nat.one_mul, ← Nat.pow_add, show (frN k n).length + (k - (frN k n).length) = k by omega]
theorem hexc_range {d : Nat} (h : d < 16) : (48 ≤ hexc d ∧ hexc d ≤ 57 ∧ d < 10 ∧ hexc d = 48 + d) ∨ (97 ≤ hexc d ∧ hexc d ≤ 102 ∧ 10 ≤ d ∧ hexc d = 87 + d) := by
  unfold hexc
  split
  · left; omega
  · right; omega
/-- A text in base 16, behind its beginning. -/
def mantL (ds : List Nat) : List Int := 49 :: ptL (ds.map hexc)
theorem mant_len (ds : List Nat) : (mantL ds).length = if ds = [] then 1 else ds.length + 2 := by
  unfold mantL ptL
  cases ds with
  | nil => rfl
  | cons x r => simp
/-- The digits of so many bytes. -/
def digN (ds : List Nat) (j : Nat) : List Nat := (1 :: ds).take (if j ≤ 1 then j else j - 1)
theorem mant_at {ds : List Nat} {j : Nat} (hj : j < (mantL ds).length) : (j = 0 ∧ (mantL ds)[j] = 49) ∨ (j = 1 ∧ (mantL ds)[j] = 46) ∨ (2 ≤ j ∧ ∃ h : j - 2 < ds.length, (mantL ds)[j] = hexc ds[j - 2]) := by
  have hl := mant_len ds
  match j, hj with
  | 0, _ => exact .inl ⟨rfl, rfl⟩
  | 1, hj =>
    right; left
    refine ⟨rfl, ?_⟩
    cases ds with
    | nil => rw [hl] at hj; simp at hj
    | cons x r => rfl
  | j + 2, hj =>
    right; right
    cases ds with
    | nil => rw [hl] at hj; simp at hj
    | cons x r =>
      rw [hl, if_neg (by simp)] at hj
      refine ⟨by omega, by omega, ?_⟩
      have e : (mantL (x :: r))[j + 2]? = some (hexc ((x :: r)[j + 2 - 2]'(by omega))) := by
        show ((x :: r).map hexc)[j]? = _
        rw [List.getElem?_map, List.getElem?_eq_getElem (by omega)]
        rfl
      rw [List.getElem?_eq_getElem (by assumption)] at e
      exact Option.some.inj e
theorem digN_dot {ds : List Nat} : digN ds 2 = digN ds 1 := rfl
theorem digN_one {ds : List Nat} : digN ds 1 = [1] := rfl
theorem digN_next {ds : List Nat} {j : Nat} (h2 : 2 ≤ j) (h : j - 2 < ds.length) : digN ds (j + 1) = digN ds j ++ [ds[j - 2]] := by
  unfold digN
  rw [if_neg (by omega), if_neg (by omega), show j + 1 - 1 = j - 1 + 1 by omega, List.take_succ_eq_append_getElem (by rw [List.length_cons]; omega)]
  congr 1
  congr 1
  have : (1 :: ds)[j - 1]? = some ds[j - 2] := by
    rw [show j - 1 = j - 2 + 1 by omega, List.getElem?_cons_succ, List.getElem?_eq_getElem h]
  rw [List.getElem?_eq_getElem (by rw [List.length_cons]; omega)] at this
  exact Option.some.inj this
theorem digN_all {ds : List Nat} : digN ds (mantL ds).length = 1 :: ds := by
  rw [mant_len]
  unfold digN
  cases ds with
  | nil => rfl
  | cons x r =>
    rw [if_neg (show ¬ (x :: r = []) by simp), if_neg (show ¬ ((x :: r).length + 2 ≤ 1) by omega)]
    exact List.take_of_length_le (by simp)
theorem digN_len {ds : List Nat} {j : Nat} (hj : j ≤ (mantL ds).length) : (digN ds j).length = if j ≤ 1 then j else j - 1 := by
  rw [mant_len] at hj
  unfold digN
  rw [List.length_take, List.length_cons]
  split at hj
  · rename_i h; subst h; simp only [List.length_nil]; split <;> omega
  · split <;> omega
theorem digN_lt {ds : List Nat} (hd : ∀ d ∈ ds, d < 16) (j : Nat) : hexN (digN ds j) < 16 ^ (digN ds j).length := hexN_lt fun d h => by
  unfold digN at h
  rcases List.mem_cons.1 (List.mem_of_mem_take h) with rfl | h
  · decide
  · exact hd d h
end Go.Vc
