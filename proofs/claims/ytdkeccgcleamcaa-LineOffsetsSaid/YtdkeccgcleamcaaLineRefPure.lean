/-
  Command lines: the reference's reading, and that it is the program's.
-/
import Derived.Test.YtdkeccgcleamcaaLineCalls3
namespace Go.Vc
open Go.RowKit
theorem unb_blank {t : List Int} : unb' (32 :: t) = unb' t := by
  unfold unb' whileF
  simp only [List.take_length, List.takeWhile_cons, blankB]
  simp
theorem unb_other {x : Int} {t : List Int} (h : x ≠ 32) : unb' (x :: t) = x :: t := by
  unfold unb' whileF
  simp [blankB, h]
theorem unb_nil : unb' [] = [] := rfl
/-- Digits: at most 9. -/
def digG (n : Int) (k : Nat) : List Int → Option (Int × List Int)
  | [] => some (n, [])
  | x :: t => if figB x = true then (if 9 ≤ k then none else digG (n * 10 + (x - 48)) (k + 1) t) else some (n, x :: t)
theorem digG_cons (n : Int) (k : Nat) (x : Int) (t : List Int) : digG n k (x :: t) = if figB x = true then (if 9 ≤ k then none else digG (n * 10 + (x - 48)) (k + 1) t) else some (n, x :: t) := rfl
theorem digG_len : ∀ {t : List Int} {n : Int} {k : Nat} {p : Int × List Int}, digG n k t = some p → p.2.length ≤ t.length
  | [], n, k, p, h => by simp [digG] at h; subst h; simp
  | x :: t, n, k, p, h => by
    unfold digG at h
    split at h
    · split at h
      · cases h
      · have := digG_len h; simp; omega
    · injection h with h; subst h; simp
theorem digG_some : ∀ {t : List Int} {n : Int} {k : Nat} {p : Int × List Int}, k ≤ 9 → digG n k t = some p →
    p.1 = (whileF figB (9 - k) t).foldl (fun n c => 10 * n + (c - 48)) n ∧ p.2 = t.drop (whileF figB (9 - k) t).length
  | [], n, k, p, _, h => by simp [digG] at h; subst h; simp [whileF]
  | x :: t, n, k, p, hk, h => by
    unfold digG at h
    split at h
    · rename_i hx
      split at h
      · cases h
      · obtain ⟨h1, h2⟩ := digG_some (by omega) h
        have e : 9 - k = 9 - (k + 1) + 1 := by omega
        have e2 : whileF figB (9 - k) (x :: t) = x :: whileF figB (9 - (k + 1)) t := by
          rw [e]; unfold whileF; rw [List.take_succ_cons, List.takeWhile_cons, hx, if_pos rfl]
        rw [e2]
        refine ⟨?_, ?_⟩
        · rw [h1, List.foldl_cons]; congr 1; omega
        · rw [h2]; rfl
    · rename_i hx
      have hx : figB x = false := by simpa using hx
      injection h with h; subst h
      have e2 : whileF figB (9 - k) (x :: t) = [] := by
        unfold whileF
        cases h9 : 9 - k with
        | zero => rfl
        | succ m => rw [List.take_succ_cons, List.takeWhile_cons, hx]; rfl
      rw [e2]
      exact ⟨rfl, rfl⟩
theorem digG_none : ∀ {t : List Int} {n : Int} {k : Nat}, k ≤ 9 → digG n k t = none → ∃ x r, t.drop (whileF figB (9 - k) t).length = x :: r ∧ figB x = true
  | [], n, k, _, h => by simp [digG] at h
  | x :: t, n, k, hk, h => by
    unfold digG at h
    split at h
    · rename_i hx
      split at h
      · rename_i h9
        obtain rfl : k = 9 := by omega
        exact ⟨x, t, by simp [whileF], hx⟩
      · obtain ⟨y, r, h1, h2⟩ := digG_none (by omega) h
        have e : 9 - k = 9 - (k + 1) + 1 := by omega
        have e2 : whileF figB (9 - k) (x :: t) = x :: whileF figB (9 - (k + 1)) t := by
          rw [e]; unfold whileF; rw [List.take_succ_cons, List.takeWhile_cons, hx, if_pos rfl]
        rw [e2]
        exact ⟨y, r, h1, h2⟩
    · cases h
/-- Where there is a digit the two numbers are the same. -/
theorem dig_num {t : List Int} {p : Int × List Int} (h : digG 0 0 t = some p) (m : Int) : p.2 = numR t ∧ (if p.2.length = t.length then m else p.1) = numF m t := by
  obtain ⟨h1, h2⟩ := digG_some (Nat.zero_le _) h
  refine ⟨h2, ?_⟩
  have hl := whileF_len figB 9 t
  unfold numF
  rw [h2, List.length_drop]
  by_cases h0 : whileF figB 9 t = []
  · rw [if_pos h0, if_pos (by simp only [Nat.sub_zero, h0]; simp)]
  · rw [if_neg h0, if_neg (by
      have : 0 < (whileF figB 9 t).length := List.length_pos_iff.2 h0
      simp only [Nat.sub_zero]
      omega)]
    exact h1
def offG (off : Int) (t : List Int) : Option (Int × List Int) :=
  match t with
  | [] => some (off, [])
  | x :: r =>
    if x = 43 ∨ x = 45 then
      match h : digG 0 0 r with
      | none => none
      | some p =>
        have := digG_len h
        offG (if x = 45 then off - (if p.2.length = r.length then 1 else p.1) else off + (if p.2.length = r.length then 1 else p.1)) p.2
    else some (off, x :: r)
termination_by t.length
decreasing_by simp; omega
theorem offG_nil (off : Int) : offG off [] = some (off, []) := by rw [offG]
theorem offG_end {off x : Int} {r : List Int} (h : ¬ (x = 43 ∨ x = 45)) : offG off (x :: r) = some (off, x :: r) := by rw [offG]; rw [if_neg h]
theorem offG_bad {off x : Int} {r : List Int} (h : x = 43 ∨ x = 45) (hd : digG 0 0 r = none) : offG off (x :: r) = none := by
  rw [offG, if_pos h]; split
  · rfl
  · rename_i p hp; rw [hd] at hp; cases hp
theorem offG_step {off x : Int} {r : List Int} {p : Int × List Int} (h : x = 43 ∨ x = 45) (hd : digG 0 0 r = some p) :
    offG off (x :: r) = offG (if x = 45 then off - (if p.2.length = r.length then 1 else p.1) else off + (if p.2.length = r.length then 1 else p.1)) p.2 := by
  conv => lhs; rw [offG]
  rw [if_pos h]; split
  · rename_i hp; rw [hd] at hp; cases hp
  · rename_i q hq; rw [hd] at hq; injection hq with hq; subst hq; rfl
theorem off_eq : ∀ (m : Nat) (off : Int) (t : List Int), t.length ≤ m → offG off t = some (offF off t) ∨ (offG off t = none ∧ ∃ x r, (offF off t).2 = x :: r ∧ figB x = true)
  | m, off, [], _ => by
    left
    rw [offG_nil, offF_end (by simp [tk]) (by simp [tk])]
  | 0, off, x :: r, h => by simp at h
  | m + 1, off, x :: r, hm => by
    have hm : r.length ≤ m := by simpa using hm
    by_cases h : x = 43 ∨ x = 45
    · cases hd : digG 0 0 r with
      | none =>
        right
        refine ⟨offG_bad h hd, ?_⟩
        obtain ⟨y, q, h1, h2⟩ := digG_none (Nat.zero_le _) hd
        have hn : numR r = y :: q := h1
        have hend : ∀ o, offF o (y :: q) = (o, y :: q) := fun o => by
          have hy := of_decide_eq_true h2
          exact offF_end (by simp [tk]; omega) (by simp [tk]; omega)
        rcases h with rfl | rfl
        · rw [offF_plus (by simp [tk])]
          simp only [List.tail_cons, hn, hend]
          exact ⟨y, q, rfl, h2⟩
        · rw [offF_minus (by simp [tk]) (by simp [tk])]
          simp only [List.tail_cons, hn, hend]
          exact ⟨y, q, rfl, h2⟩
      | some p =>
        obtain ⟨h1, h2⟩ := dig_num hd 1
        rw [offG_step h hd, h2]
        have hl := digG_len hd
        rcases h with rfl | rfl
        · rw [if_neg (by decide), offF_plus (by simp [tk]), List.tail_cons, ← h1]
          exact off_eq m _ _ (by omega)
        · rw [if_pos rfl, offF_minus (by simp [tk]) (by simp [tk]), List.tail_cons, ← h1]
          exact off_eq m _ _ (by omega)
    · left
      rw [offG_end h, offF_end (by simp [tk]; omega) (by simp [tk]; omega)]
/-- An address's head, for the reference. -/
def headG (xs : List Int) : Option (Option (A × List Int)) :=
  match xs with
  | [] => some none
  | x :: t =>
    if figB x = true then (match digG 0 0 (x :: t) with | none => none | some p => some (some (⟨110, p.1, 0, 0⟩, p.2)))
    else if x = 46 ∨ x = 36 then some (some (⟨x, 0, 0, 0⟩, t))
    else if x = 39 then (match t with | [] => none | c :: r => if smallB c = true then some (some (⟨109, 0, 0, c⟩, r)) else none)
    else some none
def addrG (xs : List Int) : Option (Option (A × List Int)) :=
  match headG xs with
  | none => none
  | some none => some none
  | some (some (a, r)) => match offG 0 r with
    | none => none
    | some p => some (some ({ a with off := p.1 }, p.2))
theorem head_eq (xs : List Int) : headG xs = headF xs ∨ (headG xs = none ∧ ∃ a x r, headF xs = some (some (a, x :: r)) ∧ figB x = true) := by
  cases xs with
  | nil => left; rfl
  | cons x t =>
    unfold headG headF
    by_cases hf : figB x = true
    · simp only [hf, if_true]
      cases hd : digG 0 0 (x :: t) with
      | none =>
        right
        obtain ⟨y, q, h1, h2⟩ := digG_none (Nat.zero_le _) hd
        exact ⟨rfl, _, y, q, by rw [show numR (x :: t) = y :: q from h1], h2⟩
      | some p =>
        left
        obtain ⟨h1, h2⟩ := dig_num hd 0
        have hne : p.2.length ≠ (x :: t).length := by
          intro e
          rw [if_pos e] at h2
          obtain ⟨_, h4⟩ := digG_some (Nat.zero_le _) hd
          have : (whileF figB 9 (x :: t)).length = 0 := by
            have h5 := congrArg List.length h4
            rw [List.length_drop, e] at h5
            have := (whileF_len figB 9 (x :: t)).2
            simp only [Nat.sub_zero] at h5
            omega
          unfold whileF at this
          rw [show (9 : Nat) = 8 + 1 from rfl, List.take_succ_cons, List.takeWhile_cons, hf] at this
          simp at this
        rw [if_neg hne] at h2
        simp only [h1, h2]
    · simp only [hf]
      left
      by_cases h1 : x = 46
      · subst h1; simp
      · by_cases h2 : x = 36
        · subst h2; simp
        · simp [h1, h2]; rfl
theorem addr_eq (xs : List Int) : addrG xs = addrF xs ∨ (addrG xs = none ∧ ∃ a x r, addrF xs = some (some (a, x :: r)) ∧ figB x = true) := by
  unfold addrG addrF
  rcases head_eq xs with h | ⟨h, a, x, r, h1, h2⟩
  · rw [h]
    cases hh : headF xs with
    | none => exact .inl rfl
    | some o =>
      cases o with
      | none => exact .inl rfl
      | some p =>
        obtain ⟨a, r⟩ := p
        rcases off_eq r.length 0 r (Nat.le_refl _) with h | ⟨h, x, q, h1, h2⟩
        · left; simp only [h]
        · right
          simp only [h, h1]
          exact ⟨trivial, _, x, q, rfl, h2⟩
  · right
    rw [h, h1]
    have hy := of_decide_eq_true h2
    have hend : offF 0 (x :: r) = (0, x :: r) := offF_end (by simp [tk]; omega) (by simp [tk]; omega)
    exact ⟨rfl, { a with off := 0 }, x, r, by simp only [hend], h2⟩
def reachG (xs : List Int) : Option (List A × List Int) :=
  if tk 37 xs = true then some ([a1, aEnd], xs.tail) else
  match addrG xs with
  | none => none
  | some none => some ([], xs)
  | some (some (a, r)) => if tk 44 r = true then (match addrG r.tail with | some (some (a2, r2)) => some ([a, a2], r2) | _ => none) else some ([a], r)
def allG (xs : List Int) : Option Cm :=
  match reachG (unb' xs) with
  | none => none
  | some (al, r) =>
    if (nameF (unb' r)).1 = [] then (if (nameF (unb' r)).2 = [] then some ⟨al, [], false, []⟩ else none)
    else some ⟨al, (nameF (unb' r)).1, tk 33 (nameF (unb' r)).2, unb' (tkR 33 (nameF (unb' r)).2)⟩
theorem name_fig {x : Int} {r : List Int} (h : figB x = true) : nameF (unb' (x :: r)) = ([], x :: r) := by
  have hx := of_decide_eq_true h
  rw [unb_other (by omega)]
  unfold nameF
  rw [if_neg (by simp [tk]; omega), if_neg (by simp [tk]; omega), if_neg (by simp [tk]; omega)]
  have : whileF smallB (x :: r).length (x :: r) = [] := by
    unfold whileF
    rw [List.take_length, List.takeWhile_cons, if_neg (by unfold smallB; simp; omega)]
  rw [this]
  rfl
theorem reach_eq (xs : List Int) : reachG xs = reachF xs ∨ (reachG xs = none ∧ ∃ al x r, reachF xs = some (al, x :: r) ∧ figB x = true) := by
  unfold reachG reachF
  split
  · exact .inl rfl
  · rcases addr_eq xs with h | ⟨h, a, x, r, h1, h2⟩
    · rw [h]
      cases hh : addrF xs with
      | none => exact .inl rfl
      | some o =>
        cases o with
        | none => exact .inl rfl
        | some p =>
          obtain ⟨a, r⟩ := p
          simp only
          split
          · rcases addr_eq r.tail with h | ⟨h, a, x, q, h1, h2⟩
            · rw [h]; exact .inl rfl
            · right
              rw [h, h1]
              exact ⟨rfl, _, x, q, rfl, h2⟩
          · exact .inl rfl
    · right
      rw [h, h1]
      have hy := of_decide_eq_true h2
      refine ⟨rfl, [a], x, r, ?_, h2⟩
      simp only
      rw [if_neg (by simp [tk]; omega)]
theorem all_eq (xs : List Int) : allG xs = allF xs := by
  unfold allG allF
  rcases reach_eq (unb' xs) with h | ⟨h, al, x, r, h1, h2⟩
  · rw [h]; cases reachF (unb' xs) <;> rfl
  · rw [h, h1]
    simp only [name_fig h2]
    simp
end Go.Vc
