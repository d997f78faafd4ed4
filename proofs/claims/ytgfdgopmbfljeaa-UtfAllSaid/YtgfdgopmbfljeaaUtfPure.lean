/-
  Letters: the plain law.
-/
import Derived.Test.YtgfdgopmbfljeaaUtfBits
namespace Go.Vc
/-- A byte that follows in a letter. -/
def tl (c : Int) : Bool := decide (128 ≤ c ∧ c < 192)
def lenC (c : Int) : Nat := if 192 ≤ c ∧ c < 224 then 2 else if 224 ≤ c ∧ c < 240 then 3 else if 240 ≤ c ∧ c < 248 then 4 else 0
def headC (c : Int) : Int := if lenC c = 2 then c % 32 else if lenC c = 3 then c % 16 else c % 8
def leastN (n : Nat) : Int := if n = 2 then 128 else if n = 3 then 2048 else 65536
def mayR (r : Int) : Bool := decide (0 ≤ r ∧ r ≤ 1114111) && decide (r < 55296 ∨ r > 57343)
def restV (r : Int) (cs : List Int) : Int := cs.foldl (fun r c => r * 64 + c % 64) r
/-- The letter of several bytes that these begin with. -/
def sev : List Int → Option (Int × Nat)
  | [] => none
  | c :: t => if lenC c = 0 ∨ t.length + 1 < lenC c then none else if (t.take (lenC c - 1)).all tl = true then
      (if leastN (lenC c) ≤ restV (headC c) (t.take (lenC c - 1)) ∧ mayR (restV (headC c) (t.take (lenC c - 1))) = true then some (restV (headC c) (t.take (lenC c - 1)), lenC c) else none) else none
def sevN (b : List Int) : Nat := match sev b with
  | some x => x.2
  | none => 0
theorem lenC_le (c : Int) : lenC c ≤ 4 ∧ lenC c ≠ 1 := by
  unfold lenC
  split
  · exact ⟨by decide, by decide⟩
  split
  · exact ⟨by decide, by decide⟩
  split
  · exact ⟨by decide, by decide⟩
  · exact ⟨by decide, by decide⟩
theorem lenC_pos {c : Int} (h : lenC c ≠ 0) : 192 ≤ c ∧ c < 248 := by
  unfold lenC at h
  split at h
  · omega
  split at h
  · omega
  split at h
  · omega
  · exact absurd rfl h
theorem sev_some {b : List Int} {v : Int} {n : Nat} (h : sev b = some (v, n)) : ∃ c t, b = c :: t ∧ n = lenC c ∧ lenC c ≠ 0 ∧ n ≤ b.length ∧ (∀ x ∈ t.take (n - 1), tl x = true) ∧ v = restV (headC c) (t.take (n - 1)) ∧ leastN n ≤ v ∧ mayR v = true := by
  match b with
  | [] => cases h
  | c :: t =>
    rw [sev] at h
    split at h
    · cases h
    rename_i h1
    split at h
    · rename_i h2
      split at h
      · rename_i h3
        injection h with h
        injection h with hv hn
        subst hv
        subst hn
        refine ⟨c, t, rfl, rfl, by omega, by simp only [List.length_cons]; omega, fun x hx => ?_, rfl, h3.1, h3.2⟩
        exact (List.all_eq_true.1 h2) x hx
      · cases h
    · cases h
theorem sev_of {c : Int} {t : List Int} (h0 : lenC c ≠ 0) (hl : lenC c ≤ t.length + 1) (ht : ∀ x ∈ t.take (lenC c - 1), tl x = true) (h1 : leastN (lenC c) ≤ restV (headC c) (t.take (lenC c - 1))) (h2 : mayR (restV (headC c) (t.take (lenC c - 1))) = true) :
    sev (c :: t) = some (restV (headC c) (t.take (lenC c - 1)), lenC c) := by
  rw [sev, if_neg (by omega), if_pos (List.all_eq_true.2 ht), if_pos ⟨h1, h2⟩]
theorem sev_range {b : List Int} {v : Int} {n : Nat} (h : sev b = some (v, n)) : 2 ≤ n ∧ n ≤ 4 ∧ n ≤ b.length := by
  obtain ⟨c, t, rfl, rfl, h0, hl, _⟩ := sev_some h
  have := lenC_le c
  omega
/-- Only the bytes of the letter are looked at. -/
theorem sev_append {b d : List Int} {v : Int} {n : Nat} (h : sev b = some (v, n)) : sev (b ++ d) = some (v, n) := by
  obtain ⟨c, t, rfl, rfl, h0, hl, ht, rfl, h1, h2⟩ := sev_some h
  simp only [List.length_cons] at hl
  have e : (t ++ d).take (lenC c - 1) = t.take (lenC c - 1) := List.take_append_of_le_length (by omega)
  have := sev_of (c := c) (t := t ++ d) h0 (by simp; omega) (by rw [e]; exact ht) (by rw [e]; exact h1) (by rw [e]; exact h2)
  rwa [e] at this
theorem sev_take {b : List Int} {v : Int} {n m : Nat} (h : sev b = some (v, n)) (hm : n ≤ m) : sev (b.take m) = some (v, n) := by
  obtain ⟨c, t, rfl, rfl, h0, hl, ht, rfl, h1, h2⟩ := sev_some h
  simp only [List.length_cons] at hl
  obtain ⟨m, rfl⟩ : ∃ k, m = k + 1 := ⟨m - 1, by omega⟩
  have e : (t.take m).take (lenC c - 1) = t.take (lenC c - 1) := by rw [List.take_take, Nat.min_eq_left (by omega)]
  have := sev_of (c := c) (t := t.take m) h0 (by rw [List.length_take]; omega) (by rw [e]; exact ht) (by rw [e]; exact h1) (by rw [e]; exact h2)
  rw [e] at this
  rwa [List.take_succ_cons]
theorem sev_of_take {b : List Int} {x : Int × Nat} {m : Nat} (h : sev (b.take m) = some x) : sev b = some x := by
  have := sev_append (d := b.drop m) (v := x.1) (n := x.2) h
  rwa [List.take_append_drop] at this
theorem sevN_le (b : List Int) : sevN b ≤ 4 ∧ sevN b ≠ 1 ∧ sevN b ≤ b.length := by
  unfold sevN
  split
  · rename_i x h
    have := sev_range (v := x.1) (n := x.2) h
    omega
  · omega
theorem sevN_eq {b : List Int} {n : Nat} (hn : n ≠ 0) : sevN b = n ↔ ∃ v, sev b = some (v, n) := by
  unfold sevN
  constructor
  · intro h
    split at h
    · rename_i x hx; exact ⟨x.1, by rw [hx, ← h]⟩
    · exact absurd h.symm hn
  · rintro ⟨v, h⟩; rw [h]
theorem sevN_tl {c : Int} {t : List Int} (h : tl c = true) : sevN (c :: t) = 0 := by
  unfold tl at h
  have h := of_decide_eq_true h
  have : lenC c = 0 := by
    unfold lenC
    rw [if_neg (by omega), if_neg (by omega), if_neg (by omega)]
  unfold sevN
  rw [sev, if_pos (.inl this)]
/-- The bytes inside of a letter follow. -/
theorem sev_inside {b : List Int} {j i : Nat} (h1 : j < i) (h2 : i < j + sevN (b.drop j)) : sevN (b.drop i) = 0 ∧ i < b.length := by
  have hne : sevN (b.drop j) ≠ 0 := by omega
  obtain ⟨v, hs⟩ := (sevN_eq hne).1 rfl
  generalize sevN (b.drop j) = n at *
  obtain ⟨c, t, hb, hn, h0, hl, ht, _⟩ := sev_some hs
  have hlen : n ≤ b.length - j := by rw [← List.length_drop]; exact hl
  have hi : i < b.length := by omega
  refine ⟨?_, hi⟩
  have hd : b.drop i = b[i] :: b.drop (i + 1) := List.drop_eq_getElem_cons hi
  rw [hd]
  apply sevN_tl
  apply ht
  have hti : t = b.drop (j + 1) := by
    have := List.drop_eq_getElem_cons (l := b) (i := j) (by omega)
    rw [this] at hb
    injection hb with _ hb
    exact hb.symm
  have : (t.take (n - 1))[i - (j + 1)]? = some b[i] := by
    rw [List.getElem?_take_of_lt (by omega), hti, List.getElem?_drop, show j + 1 + (i - (j + 1)) = i by omega, List.getElem?_eq_getElem hi]
  exact List.mem_of_getElem? this
/-- Inside of a letter. -/
def ins (b : List Int) (i : Nat) : Prop := ∃ j, j < i ∧ i < j + sevN (b.drop j)
theorem ins_iff {b : List Int} {i : Nat} : ins b i ↔ ∃ k, 1 ≤ k ∧ k ≤ 3 ∧ k ≤ i ∧ k < sevN (b.drop (i - k)) := by
  constructor
  · rintro ⟨j, h1, h2⟩
    have := sevN_le (b.drop j)
    exact ⟨i - j, by omega, by omega, by omega, by rw [show i - (i - j) = j by omega]; omega⟩
  · rintro ⟨k, h1, h2, h3, h4⟩
    exact ⟨i - k, by omega, by omega⟩
theorem ins_iff3 {b : List Int} {i : Nat} : ins b i ↔ (1 ≤ i ∧ 1 < sevN (b.drop (i - 1))) ∨ (2 ≤ i ∧ 2 < sevN (b.drop (i - 2))) ∨ (3 ≤ i ∧ 3 < sevN (b.drop (i - 3))) := by
  rw [ins_iff]
  constructor
  · rintro ⟨k, h1, h2, h3, h4⟩
    obtain rfl | rfl | rfl : k = 1 ∨ k = 2 ∨ k = 3 := by omega
    · exact .inl ⟨h3, h4⟩
    · exact .inr (.inl ⟨h3, h4⟩)
    · exact .inr (.inr ⟨h3, h4⟩)
  · rintro (⟨h3, h4⟩ | ⟨h3, h4⟩ | ⟨h3, h4⟩)
    · exact ⟨1, by omega, by omega, h3, h4⟩
    · exact ⟨2, by omega, by omega, h3, h4⟩
    · exact ⟨3, by omega, by omega, h3, h4⟩
instance instIns (b : List Int) (i : Nat) : Decidable (ins b i) := decidable_of_iff _ ins_iff3.symm
/-- How many bytes has the letter that begins at a place. -/
def nx (b : List Int) (i : Nat) : Nat := if sevN (b.drop i) = 0 then 1 else sevN (b.drop i)
theorem nx_pos (b : List Int) (i : Nat) : 1 ≤ nx b i := by unfold nx; split <;> omega
theorem nx_le {b : List Int} {i : Nat} (h : i < b.length) : i + nx b i ≤ b.length := by
  have := sevN_le (b.drop i)
  rw [List.length_drop] at this
  unfold nx
  split <;> omega
theorem ins_zero (b : List Int) : ¬ ins b 0 := fun ⟨j, h, _⟩ => by omega
theorem ins_lt {b : List Int} {i : Nat} (h : ins b i) : i < b.length := by
  obtain ⟨j, h1, h2⟩ := h
  exact (sev_inside h1 h2).2
/-- Behind a letter another one begins. -/
theorem ins_next {b : List Int} {i : Nat} (h : ¬ ins b i) : ¬ ins b (i + nx b i) := by
  rintro ⟨j, h1, h2⟩
  rcases Nat.lt_trichotomy j i with hj | rfl | hj
  · exact h ⟨j, hj, by have := nx_pos b i; omega⟩
  · unfold nx at h2; split at h2 <;> omega
  · have hn : nx b i = sevN (b.drop i) := by
      unfold nx at h1 ⊢
      split
      · rename_i hz; rw [if_pos hz] at h1; omega
      · rfl
    have := (sev_inside (b := b) (j := i) (i := j) hj (by omega)).1
    omega
theorem ins_mid {b : List Int} {i j : Nat} (h1 : i < j) (h2 : j < i + nx b i) : ins b j := by
  refine ⟨i, h1, ?_⟩
  unfold nx at h2
  split at h2
  · omega
  · exact h2
/-- The letter ahead of a place where one begins. -/
theorem ins_prev {b : List Int} {i : Nat} (h0 : 0 < i) (hi : i ≤ b.length) (h : ¬ ins b i) : ∃ q, q < i ∧ ¬ ins b q ∧ q + nx b q = i := by
  by_cases hp : ins b (i - 1)
  · obtain ⟨j, h1, h2⟩ := hp
    have hle : ¬ i < j + sevN (b.drop j) := fun h' => h ⟨j, by omega, h'⟩
    refine ⟨j, by omega, fun hj => ?_, ?_⟩
    · obtain ⟨k, k1, k2⟩ := hj
      have := (sev_inside k1 k2).1
      omega
    · unfold nx; rw [if_neg (by omega)]; omega
  · refine ⟨i - 1, by omega, hp, ?_⟩
    unfold nx
    split
    · omega
    · rename_i hz
      have := sevN_le (b.drop (i - 1))
      exact absurd ⟨i - 1, by omega, by omega⟩ h
/-- The places where letters begin, ahead of a place. -/
def posL (b : List Int) (i : Nat) : List Nat := (List.range i).filter fun j => !decide (ins b j)
theorem posL_next {b : List Int} {i : Nat} (h : ¬ ins b i) : posL b (i + nx b i) = posL b i ++ [i] := by
  unfold posL
  obtain ⟨m, hm⟩ : ∃ m, nx b i = m + 1 := ⟨nx b i - 1, by have := nx_pos b i; omega⟩
  have key : ∀ k, k ≤ m → (List.range (i + (k + 1))).filter (fun j => !decide (ins b j)) = (List.range i).filter (fun j => !decide (ins b j)) ++ [i] := by
    intro k
    induction k with
    | zero => intro _; rw [show i + (0 + 1) = i + 1 by omega, List.range_succ, List.filter_append]; simp [h]
    | succ k ih =>
      intro hk
      have hin : ins b (i + (k + 1)) := ins_mid (i := i) (by omega) (by omega)
      rw [show i + (k + 1 + 1) = (i + (k + 1)) + 1 by omega, List.range_succ, List.filter_append, ih (by omega)]
      simp [hin]
  rw [hm]
  exact key m (Nat.le_refl _)
theorem posL_len_le (b : List Int) (i : Nat) : (posL b i).length ≤ i := by
  have := List.length_filter_le (fun j => !decide (ins b j)) (List.range i)
  rwa [List.length_range] at this
theorem posL_mono {b : List Int} {i k : Nat} (h : i ≤ k) : ∃ r, posL b k = posL b i ++ r ∧ ∀ x ∈ r, i ≤ x := by
  obtain ⟨d, rfl⟩ : ∃ d, k = i + d := ⟨k - i, by omega⟩
  induction d with
  | zero => exact ⟨[], by simp, by simp⟩
  | succ d ih =>
    obtain ⟨r, hr, hx⟩ := ih (by omega)
    by_cases hin : ins b (i + d)
    · refine ⟨r, ?_, hx⟩
      rw [← hr, show i + (d + 1) = (i + d) + 1 by omega]
      unfold posL
      rw [List.range_succ, List.filter_append]
      simp [hin]
    · refine ⟨r ++ [i + d], ?_, fun x hm => ?_⟩
      · rw [← List.append_assoc, ← hr, show i + (d + 1) = (i + d) + 1 by omega]
        unfold posL
        rw [List.range_succ, List.filter_append]
        simp [hin]
      · rcases List.mem_append.1 hm with hm | hm
        · exact hx x hm
        · simp at hm; omega
/-- The place of that number. -/
theorem posL_at {b : List Int} {i k : Nat} (hk : i < k) : ((posL b k)[(posL b i).length]? = some i) ↔ ¬ ins b i := by
  obtain ⟨r, hr, hx⟩ := posL_mono (b := b) (i := i + 1) (k := k) (by omega)
  have hs : posL b (i + 1) = posL b i ++ if ins b i then [] else [i] := by
    unfold posL
    rw [List.range_succ, List.filter_append]
    by_cases h : ins b i <;> simp [h]
  rw [hr, hs]
  by_cases h : ins b i
  · rw [if_pos h, List.append_nil]
    refine ⟨fun he => ?_, fun hn => absurd h hn⟩
    rw [List.getElem?_append_right (Nat.le_refl _), Nat.sub_self] at he
    have := hx i (List.mem_of_getElem? he)
    exact absurd this (by omega)
  · refine ⟨fun _ => h, fun _ => ?_⟩
    rw [if_neg h, List.append_assoc, List.getElem?_append_right (Nat.le_refl _), Nat.sub_self]
    rfl
/-- The letter ahead: its length. -/
theorem last_law {b : List Int} {i q : Nat} (hi : i ≤ b.length) (hq : ¬ ins b q) (h : q + nx b q = i) : ∀ k, 2 ≤ k → k ≤ i → (sevN (b.drop (i - k)) = k → k = nx b q) ∧ (k = nx b q → sevN (b.drop (i - k)) = k) := by
  intro k h2 hk
  refine ⟨fun hs => ?_, fun hs => ?_⟩
  · rcases Nat.lt_trichotomy (i - k) q with hlt | heq | hgt
    · exact absurd ⟨i - k, hlt, by have := nx_pos b q; omega⟩ hq
    · omega
    · have hm : ins b (i - k) := ins_mid hgt (by omega)
      obtain ⟨j, j1, j2⟩ := hm
      have := (sev_inside j1 j2).1
      omega
  · rw [show i - k = q by omega]
    unfold nx at hs
    split at hs
    · omega
    · omega
/-- Letters are found as well in a beginning of the bytes. -/
theorem sevN_cut {b : List Int} {i k : Nat} (hi : i ≤ b.length) (hk : k ≤ i) (h2 : 2 ≤ k) : sevN ((b.take i).drop (i - k)) = k ↔ sevN (b.drop (i - k)) = k := by
  have e : (b.take i).drop (i - k) = (b.drop (i - k)).take k := by rw [List.drop_take, show i - (i - k) = k by omega]
  rw [e, sevN_eq (by omega), sevN_eq (by omega)]
  constructor
  · rintro ⟨v, h⟩; exact ⟨v, sev_of_take h⟩
  · rintro ⟨v, h⟩; exact ⟨v, sev_take h (Nat.le_refl _)⟩
end Go.Vc
