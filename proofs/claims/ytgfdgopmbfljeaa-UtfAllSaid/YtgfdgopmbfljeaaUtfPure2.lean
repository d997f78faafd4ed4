/-
  Letters: the plain law, second part: rows side by side; letters' bytes.
-/
import Derived.Test.YtgfdgopmbfljeaaUtfCalls2
namespace Go.Vc
open Go.RowKit
/-! ### Rows side by side -/
section
variable {a b : List Int}
theorem sevN_left {j : Nat} (hj : j < a.length) : sevN (a.drop j) = if j + sevN ((a ++ b).drop j) ≤ a.length then sevN ((a ++ b).drop j) else 0 := by
  have hd : (a ++ b).drop j = a.drop j ++ b := List.drop_append_of_le_length (by omega)
  have htk : (a.drop j ++ b).take (a.length - j) = a.drop j := by rw [List.take_append_of_le_length (by rw [List.length_drop]; omega), List.take_of_length_le (by rw [List.length_drop]; omega)]
  by_cases hz : sevN (a.drop j) = 0
  · rw [hz, hd]
    split
    · rename_i hle
      by_cases hc : sevN (a.drop j ++ b) = 0
      · rw [hc]
      · obtain ⟨v, hs⟩ := (sevN_eq hc).1 rfl
        have := sev_take (m := a.length - j) hs (by omega)
        rw [htk] at this
        have := (sevN_eq hc).2 ⟨v, this⟩
        omega
    · rfl
  · obtain ⟨v, hs⟩ := (sevN_eq hz).1 rfl
    have h1 := sev_append (d := b) hs
    have h2 := (sevN_eq hz).2 ⟨v, h1⟩
    have h3 := sevN_le (a.drop j)
    rw [List.length_drop] at h3
    rw [hd, h2, if_pos (by omega)]
theorem sevN_right {j : Nat} (hj : a.length ≤ j) : sevN ((a ++ b).drop j) = sevN (b.drop (j - a.length)) := by
  rw [List.drop_append, List.drop_eq_nil_of_le hj, List.nil_append]
/-- A letter over the seam. -/
def Cross (a b : List Int) (j : Nat) : Prop := j < a.length ∧ a.length < j + sevN ((a ++ b).drop j)
theorem ins_seam : ins (a ++ b) a.length ↔ ∃ j, Cross a b j := Iff.rfl
theorem ins_left {i : Nat} (hi : i ≤ a.length) (h : ∀ j, j < i → i < j + sevN ((a ++ b).drop j) → j + sevN ((a ++ b).drop j) ≤ a.length) : ins (a ++ b) i ↔ ins a i := by
  constructor
  · rintro ⟨j, h1, h2⟩
    have h3 := h j h1 h2
    exact ⟨j, h1, by rw [sevN_left (b := b) (by omega), if_pos h3]; exact h2⟩
  · rintro ⟨j, h1, h2⟩
    rw [sevN_left (b := b) (by omega)] at h2
    split at h2
    · exact ⟨j, h1, h2⟩
    · omega
theorem ins_right {d : Nat} (h : ∀ j, j < a.length → a.length + d < j + sevN ((a ++ b).drop j) → False) : ins (a ++ b) (a.length + d) ↔ ins b d := by
  constructor
  · rintro ⟨j, h1, h2⟩
    rcases Nat.lt_or_ge j a.length with hj | hj
    · exact (h j hj h2).elim
    · rw [sevN_right hj] at h2
      exact ⟨j - a.length, by omega, by omega⟩
  · rintro ⟨j, h1, h2⟩
    refine ⟨a.length + j, by omega, ?_⟩
    rw [sevN_right (by omega), show a.length + j - a.length = j by omega]
    omega
def cnt (b : List Int) (i : Nat) : Nat := (posL b i).length
theorem cnt_succ (b : List Int) (i : Nat) : cnt b (i + 1) = cnt b i + if ins b i then 0 else 1 := by
  unfold cnt posL
  rw [List.range_succ, List.filter_append, List.length_append]
  by_cases h : ins b i <;> simp [h]
theorem cnt_zero (b : List Int) : cnt b 0 = 0 := rfl
theorem count_none (h : ¬ ∃ j, Cross a b j) : cnt (a ++ b) (a.length + b.length) = cnt a a.length + cnt b b.length := by
  have h1 : ∀ i, i ≤ a.length → cnt (a ++ b) i = cnt a i := by
    intro i
    induction i with
    | zero => intro _; rfl
    | succ i ih =>
      intro hi
      have e : ins (a ++ b) i ↔ ins a i := ins_left (by omega) fun j h1 h2 => by
        rcases Nat.lt_or_ge a.length (j + sevN ((a ++ b).drop j)) with hc | hc
        · exact absurd ⟨j, by omega, hc⟩ h
        · exact hc
      rw [cnt_succ, cnt_succ, ih (by omega)]
      by_cases hh : ins a i
      · rw [if_pos hh, if_pos (e.2 hh)]
      · rw [if_neg hh, if_neg (fun k => hh (e.1 k))]
  have h2 : ∀ d, cnt (a ++ b) (a.length + d) = cnt a a.length + cnt b d := by
    intro d
    induction d with
    | zero => rw [Nat.add_zero, h1 _ (Nat.le_refl _), cnt_zero]; rfl
    | succ d ih =>
      have e : ins (a ++ b) (a.length + d) ↔ ins b d := ins_right fun j h1 h2 => h ⟨j, h1, by omega⟩
      rw [show a.length + (d + 1) = (a.length + d) + 1 by omega, cnt_succ, cnt_succ, ih]
      by_cases hh : ins b d
      · rw [if_pos hh, if_pos (e.2 hh)]; omega
      · rw [if_neg hh, if_neg (fun k => hh (e.1 k))]; omega
  exact h2 _
theorem count_cross {j0 : Nat} (h : Cross a b j0) : cnt (a ++ b) (a.length + b.length) + (sevN ((a ++ b).drop j0) - 1) = cnt a a.length + cnt b b.length := by
  obtain ⟨hj, hc⟩ := h
  have hL := sevN_le ((a ++ b).drop j0)
  rw [List.length_drop, List.length_append] at hL
  have nin : ∀ j, j < j0 → ¬ j0 < j + sevN ((a ++ b).drop j) := fun j h1 h2 => by
    have := (sev_inside (b := a ++ b) h1 h2).1
    omega
  have mid : ∀ j, j0 < j → j < j0 + sevN ((a ++ b).drop j0) → sevN ((a ++ b).drop j) = 0 := fun j h1 h2 => (sev_inside (b := a ++ b) h1 h2).1
  generalize hn : sevN ((a ++ b).drop j0) = n at *
  have h1 : ∀ i, i ≤ j0 + 1 → cnt (a ++ b) i = cnt a i := by
    intro i
    induction i with
    | zero => intro _; rfl
    | succ i ih =>
      intro hi
      have e : ins (a ++ b) i ↔ ins a i := ins_left (by omega) fun j q1 q2 => by
        have := nin j (by omega)
        omega
      rw [cnt_succ, cnt_succ, ih (by omega)]
      by_cases hh : ins a i
      · rw [if_pos hh, if_pos (e.2 hh)]
      · rw [if_neg hh, if_neg (fun k => hh (e.1 k))]
  have h2 : ∀ k, j0 + 1 + k ≤ a.length → cnt (a ++ b) (j0 + 1 + k) + k = cnt a (j0 + 1 + k) := by
    intro k
    induction k with
    | zero => intro _; exact h1 _ (Nat.le_refl _)
    | succ k ih =>
      intro hk
      have e1 : ins (a ++ b) (j0 + 1 + k) := ⟨j0, by omega, by omega⟩
      have e2 : ¬ ins a (j0 + 1 + k) := by
        rintro ⟨j, q1, q2⟩
        rw [sevN_left (b := b) (by omega)] at q2
        split at q2
        · rename_i hle
          rcases Nat.lt_trichotomy j j0 with hlt | rfl | hgt
          · exact nin j hlt (by omega)
          · omega
          · have := mid j hgt (by omega); omega
        · omega
      rw [show j0 + 1 + (k + 1) = (j0 + 1 + k) + 1 by omega, cnt_succ, cnt_succ, if_pos e1, if_neg e2]
      have := ih (by omega)
      omega
  have h3 := h2 (a.length - (j0 + 1)) (by omega)
  rw [show j0 + 1 + (a.length - (j0 + 1)) = a.length by omega] at h3
  have h4 : ∀ d, d ≤ j0 + n - a.length → cnt (a ++ b) (a.length + d) + (a.length - (j0 + 1)) + d = cnt a a.length + cnt b d := by
    intro d
    induction d with
    | zero => intro _; rw [Nat.add_zero, cnt_zero]; omega
    | succ d ih =>
      intro hd
      have e1 : ins (a ++ b) (a.length + d) := ⟨j0, by omega, by omega⟩
      have e2 : ¬ ins b d := by
        rintro ⟨j, q1, q2⟩
        have := mid (a.length + j) (by omega) (by omega)
        rw [sevN_right (by omega), show a.length + j - a.length = j by omega] at this
        omega
      rw [show a.length + (d + 1) = (a.length + d) + 1 by omega, cnt_succ, cnt_succ, if_pos e1, if_neg e2]
      have := ih (by omega)
      omega
  have h5 := h4 (j0 + n - a.length) (Nat.le_refl _)
  have h6 : ∀ k, cnt (a ++ b) (a.length + (j0 + n - a.length + k)) + (n - 1) = cnt a a.length + cnt b (j0 + n - a.length + k) := by
    intro k
    induction k with
    | zero => rw [Nat.add_zero]; omega
    | succ k ih =>
      have e : ins (a ++ b) (a.length + (j0 + n - a.length + k)) ↔ ins b (j0 + n - a.length + k) := ins_right fun j q1 q2 => by
        rcases Nat.lt_trichotomy j j0 with hlt | rfl | hgt
        · exact nin j hlt (by omega)
        · omega
        · have := mid j hgt (by omega); omega
      rw [show a.length + (j0 + n - a.length + (k + 1)) = (a.length + (j0 + n - a.length + k)) + 1 by omega, show j0 + n - a.length + (k + 1) = (j0 + n - a.length + k) + 1 by omega, cnt_succ, cnt_succ]
      by_cases hh : ins b (j0 + n - a.length + k)
      · rw [if_pos hh, if_pos (e.2 hh)]; omega
      · rw [if_neg hh, if_neg (fun q => hh (e.1 q))]; omega
  have h7 := h6 (b.length - (j0 + n - a.length))
  rw [show j0 + n - a.length + (b.length - (j0 + n - a.length)) = b.length by omega] at h7
  exact h7
theorem ins_far {i : Nat} (h : i + 3 < a.length) : ins (a ++ b) i ↔ ins a i := ins_left (by omega) fun j h1 h2 => by
  have := sevN_le ((a ++ b).drop j)
  omega
end
/-! ### A letter's bytes -/
def encF (r : Int) : List Int := if mayR r = true then (if r < 128 then [r] else if r < 2048 then [192 + r / 64, 128 + r % 64] else if r < 65536 then [224 + r / 4096, 128 + r / 64 % 64, 128 + r % 64] else [240 + r / 262144, 128 + r / 4096 % 64, 128 + r / 64 % 64, 128 + r % 64]) else []
theorem mayR_iff {r : Int} : mayR r = true ↔ (0 ≤ r ∧ r ≤ 1114111) ∧ (r < 55296 ∨ r > 57343) := by
  unfold mayR
  rw [Bool.and_eq_true, decide_eq_true_iff, decide_eq_true_iff]
theorem encF_nil {r : Int} : encF r = [] ↔ ¬ mayR r = true := by
  unfold encF
  by_cases h : mayR r = true
  · rw [if_pos h]
    constructor
    · intro he
      split at he
      · cases he
      split at he
      · cases he
      split at he <;> cases he
    · intro hn; exact absurd h hn
  · rw [if_neg h]; simp [h]
theorem encF_inK {r : Int} : ∀ x ∈ encF r, InK .u8 x := by
  intro x hx
  show 0 ≤ x ∧ x ≤ 255
  unfold encF at hx
  split at hx
  · rename_i h
    have h := mayR_iff.1 h
    split at hx
    · simp at hx; omega
    split at hx
    · simp at hx; omega
    split at hx
    · simp at hx; omega
    · simp at hx; omega
  · cases hx
theorem encF_len (r : Int) : (encF r).length ≤ 4 := by
  unfold encF
  repeat' split
  all_goals simp
theorem sev_enc {r : Int} (h : mayR r = true) (h2 : 128 ≤ r) (d : List Int) : sev (encF r ++ d) = some (r, (encF r).length) := by
  have hr := mayR_iff.1 h
  have tlv : ∀ {y : Int}, 0 ≤ y → y < 64 → tl (128 + y) = true := fun h0 h1 => by unfold tl; rw [decide_eq_true (by omega)]
  unfold encF
  rw [if_pos h, if_neg (by omega)]
  by_cases c2 : r < 2048
  · rw [if_pos c2]
    have hl : lenC (192 + r / 64) = 2 := by unfold lenC; rw [if_pos (by omega)]
    have hh : headC (192 + r / 64) = r / 64 := by unfold headC; rw [if_pos hl]; omega
    have e : (([128 + r % 64] ++ d).take (lenC (192 + r / 64) - 1)) = [128 + r % 64] := by rw [hl]; simp
    have hv : restV (headC (192 + r / 64)) [128 + r % 64] = r := by rw [hh]; show r / 64 * 64 + (128 + r % 64) % 64 = r; omega
    have := sev_of (c := 192 + r / 64) (t := [128 + r % 64] ++ d) (by rw [hl]; decide) (by rw [hl]; simp) (by rw [e]; intro x hx; simp at hx; subst hx; exact tlv (by omega) (by omega)) (by rw [e, hv, hl]; show (128 : Int) ≤ r; omega) (by rw [e, hv]; exact h)
    rw [e, hv, hl] at this
    exact this
  rw [if_neg c2]
  by_cases c3 : r < 65536
  · rw [if_pos c3]
    have hl : lenC (224 + r / 4096) = 3 := by unfold lenC; rw [if_neg (by omega), if_pos (by omega)]
    have hh : headC (224 + r / 4096) = r / 4096 := by unfold headC; rw [hl, if_neg (by decide), if_pos rfl]; omega
    have e : (([128 + r / 64 % 64, 128 + r % 64] ++ d).take (lenC (224 + r / 4096) - 1)) = [128 + r / 64 % 64, 128 + r % 64] := by rw [hl]; simp
    have hv : restV (headC (224 + r / 4096)) [128 + r / 64 % 64, 128 + r % 64] = r := by rw [hh]; show (r / 4096 * 64 + (128 + r / 64 % 64) % 64) * 64 + (128 + r % 64) % 64 = r; omega
    have := sev_of (c := 224 + r / 4096) (t := [128 + r / 64 % 64, 128 + r % 64] ++ d) (by rw [hl]; decide) (by rw [hl]; simp) (by rw [e]; intro x hx; simp at hx; rcases hx with rfl | rfl <;> exact tlv (by omega) (by omega)) (by rw [e, hv, hl]; show (2048 : Int) ≤ r; omega) (by rw [e, hv]; exact h)
    rw [e, hv, hl] at this
    exact this
  rw [if_neg c3]
  have hl : lenC (240 + r / 262144) = 4 := by unfold lenC; rw [if_neg (by omega), if_neg (by omega), if_pos (by omega)]
  have hh : headC (240 + r / 262144) = r / 262144 := by unfold headC; rw [hl, if_neg (by decide), if_neg (by decide)]; omega
  have e : (([128 + r / 4096 % 64, 128 + r / 64 % 64, 128 + r % 64] ++ d).take (lenC (240 + r / 262144) - 1)) = [128 + r / 4096 % 64, 128 + r / 64 % 64, 128 + r % 64] := by rw [hl]; simp
  have hv : restV (headC (240 + r / 262144)) [128 + r / 4096 % 64, 128 + r / 64 % 64, 128 + r % 64] = r := by rw [hh]; show ((r / 262144 * 64 + (128 + r / 4096 % 64) % 64) * 64 + (128 + r / 64 % 64) % 64) * 64 + (128 + r % 64) % 64 = r; omega
  have := sev_of (c := 240 + r / 262144) (t := [128 + r / 4096 % 64, 128 + r / 64 % 64, 128 + r % 64] ++ d) (by rw [hl]; decide) (by rw [hl]; simp) (by rw [e]; intro x hx; simp at hx; rcases hx with rfl | rfl | rfl <;> exact tlv (by omega) (by omega)) (by rw [e, hv, hl]; show (65536 : Int) ≤ r; omega) (by rw [e, hv]; exact h)
  rw [e, hv, hl] at this
  exact this
theorem encF_small {r : Int} (h : mayR r = true) (h2 : r < 128) : encF r = [r] := by unfold encF; rw [if_pos h, if_pos h2]
/-- The bytes of a letter, at a place. -/
theorem nx_enc {a d : List Int} {r : Int} (h : mayR r = true) : nx (a ++ (encF r ++ d)) a.length = (encF r).length := by
  have hd : (a ++ (encF r ++ d)).drop a.length = encF r ++ d := List.drop_left' rfl
  unfold nx
  rw [hd]
  by_cases h2 : r < 128
  · rw [encF_small h h2]
    have hr := mayR_iff.1 h
    have : lenC r = 0 := by unfold lenC; rw [if_neg (by omega), if_neg (by omega), if_neg (by omega)]
    have h0 : sevN ([r] ++ d) = 0 := by unfold sevN; rw [List.singleton_append, sev, if_pos (.inl this)]
    rw [if_pos h0]; rfl
  · have hs := sev_enc h (by omega) d
    have hl : sevN (encF r ++ d) = (encF r).length := by unfold sevN; rw [hs]
    have hne : encF r ≠ [] := fun e => (encF_nil.1 e) h
    have hpos : (encF r).length ≠ 0 := fun e => hne (List.length_eq_zero_iff.1 e)
    rw [hl, if_neg hpos]
end Go.Vc
namespace Go.Proofs.Ytgfdgopmbfljeaa
open Go.RowKit Go.Vc
theorem next_enc {a d : List Int} {r : Int} (h : mayR r = true) : nextF (a ++ (encF r ++ d)) (a.length : Int) = (r, (((encF r).length : Nat) : Int)) := by
  have hd : (a ++ (encF r ++ d)).drop a.length = encF r ++ d := List.drop_left' rfl
  have hne : encF r ≠ [] := fun e => (encF_nil.1 e) h
  have hpos : (encF r).length ≠ 0 := fun e => hne (List.length_eq_zero_iff.1 e)
  have hr := mayR_iff.1 h
  unfold nextF
  rw [if_neg (by simp only [List.length_append]; omega), Int.toNat_natCast, hd]
  by_cases h2 : r < 128
  · rw [encF_small h h2]
    have : lenC r = 0 := by unfold lenC; rw [if_neg (by omega), if_neg (by omega), if_neg (by omega)]
    have h0 : sevN ([r] ++ d) = 0 := by unfold sevN; rw [List.singleton_append, sev, if_pos (.inl this)]
    have hg : (a ++ ([r] ++ d)).getD a.length 0 = r := by
      rw [List.getD_eq_getElem?_getD, List.getElem?_append_right (Nat.le_refl _), Nat.sub_self]; rfl
    rw [h0, if_neg (by omega), hg, if_pos h2]; rfl
  · have hs := sev_enc h (by omega) d
    have hl : sevN (encF r ++ d) = (encF r).length := by unfold sevN; rw [hs]
    rw [hl, if_pos (by omega), sevP_some hs]
end Go.Proofs.Ytgfdgopmbfljeaa
