/-
  Expressions, in plain Lean: whole texts.
-/
import Derived.Test.YtffhlgejfgmpiaaGreatDoorCalcShape
namespace Go.Vc
theorem eval_expr {n : Nat} {l : List Int} {c : Option Nat} {m : Nat} (h : evalN n l = some (c, m)) : ∃ r, exprN n l = some (c, m, r) ∧ skip r = [] := by
  unfold evalN at h
  cases h1 : exprN n l with
  | none => rw [h1] at h; cases h
  | some x =>
    obtain ⟨c1, m1, r1⟩ := x
    rw [h1] at h
    simp only at h
    split at h
    · rename_i hr
      simp only [Option.some.injEq, Prod.mk.injEq] at h
      obtain ⟨rfl, rfl⟩ := h
      exact ⟨r1, rfl, hr⟩
    · cases h
theorem expr_eval {n : Nat} {l : List Int} {c : Option Nat} {m : Nat} {r : List Int} (h : exprN n l = some (c, m, r)) (hr : skip r = []) : evalN n l = some (c, m) := by
  unfold evalN; rw [h]; simp only; rw [if_pos hr]
theorem fact_eval {n : Nat} {l : List Int} {c : Option Nat} {m : Nat} (h : factN n l = some (c, m, [])) : evalN n l = some (c, m) := expr_eval (expr_one h (.inl rfl)) rfl
theorem eval_less {l : List Int} (hl : l.length < 4998) {x : Option (Option Nat × Nat)} (h : evalN FU l = x) : evalN 4999 l = x := by
  rw [← h]
  unfold evalN
  rw [show FU = 4999 + 1 from rfl, exprN_more (n := 4999) (k := 1) (by omega)]
section
variable {s t : List Int} {c1 c2 : Option Nat} {m1 m2 : Nat} (h1 : evalN FU s = some (c1, m1)) (hs : s.length ≤ 2100)
include h1 hs
theorem eval_paren : evalN FU (40 :: (s ++ [41])) = some (c1, m1 + 1) := by
  obtain ⟨r, e, hr⟩ := eval_expr (eval_less (by omega) h1)
  exact fact_eval (n := 4999 + 1) (paren_fact e hr [])
variable (h2 : evalN FU t = some (c2, m2)) (ht : t.length ≤ 2100)
include h2 ht
theorem eval_low {o : Int} (ho : o = 43 ∨ o = 45) : evalN FU (40 :: (s ++ 41 :: o :: 40 :: (t ++ [41]))) = some ((if o = 43 then opCC .add else opCC .sub) c1 c2, max m1 m2 + 1) := by
  obtain ⟨r, e, hr⟩ := eval_expr (eval_less (by omega) h1)
  obtain ⟨r2, e2, hr2⟩ := eval_expr (eval_less (by omega) h2)
  have := expr_eval (pair_low e hr e2 hr2 ho) rfl
  rw [show max (m1 + 1) (m2 + 1) = max m1 m2 + 1 by omega] at this
  exact this
theorem eval_high {o : Int} (ho : o = 42 ∨ o = 47) : evalN FU (40 :: (s ++ 41 :: o :: 40 :: (t ++ [41]))) = some ((if o = 42 then opCC .mul else opCC .quo) c1 c2, max m1 m2 + 1) := by
  obtain ⟨r, e, hr⟩ := eval_expr (eval_less (by omega) h1)
  obtain ⟨r2, e2, hr2⟩ := eval_expr (eval_less (by omega) h2)
  have := expr_eval (pair_high e hr e2 hr2 ho) rfl
  rw [show max (m1 + 1) (m2 + 1) = max m1 m2 + 1 by omega] at this
  exact this
theorem eval_min : evalN FU (109 :: 105 :: 110 :: 40 :: (s ++ 44 :: (t ++ [41]))) = some (minC c1 c2, max m1 m2 + 1) := by
  obtain ⟨r, e, hr⟩ := eval_expr (eval_less (by omega) h1)
  obtain ⟨r2, e2, hr2⟩ := eval_expr (eval_less (by omega) h2)
  exact fact_eval (n := 4999 + 1) (min_fact e hr e2 hr2 [])
theorem eval_max : evalN FU (109 :: 97 :: 120 :: 40 :: (s ++ 44 :: (t ++ [41]))) = some (maxC c1 c2, max m1 m2 + 1) := by
  obtain ⟨r, e, hr⟩ := eval_expr (eval_less (by omega) h1)
  obtain ⟨r2, e2, hr2⟩ := eval_expr (eval_less (by omega) h2)
  exact fact_eval (n := 4999 + 1) (max_fact e hr e2 hr2 [])
end
/-- Blanks ahead and behind. -/
theorem eval_front (n : Nat) (l : List Int) : evalN n (32 :: l) = evalN n l := by
  unfold evalN
  rw [exprN_skip (l := 32 :: l) (l' := l) rfl]
theorem eval_behind (n : Nat) (l b : List Int) (hb : ∀ x ∈ b, x = 32) : evalN n (l ++ b) = evalN n l := by
  have hsb : skip b = [] := by
    induction b with
    | nil => rfl
    | cons x r ih =>
      have := hb x List.mem_cons_self
      subst this
      exact ih fun y hy => hb y (List.mem_cons_of_mem _ hy)
  have hp : Beh True b := ⟨fun x h => .inl (hb x (List.mem_of_mem_head? h)), fun x h => (by rw [hsb] at h; cases h), fun _ => hsb⟩
  have h := exprN_loc hp n l
  unfold evalN
  cases h1 : exprN n l with
  | none => rw [h.2 trivial h1]
  | some x =>
    obtain ⟨c, m, r⟩ := x
    obtain ⟨r', e, hr⟩ := h.1 _ _ _ h1
    rw [e]
    simp only
    rw [hr, skip_app]
    by_cases h0 : skip r = []
    · rw [if_pos h0, if_pos hsb, if_pos h0]
    · rw [if_neg h0, if_neg h0, if_neg (by simp [h0])]
theorem drop_head : ∀ {l : List Int} {y : Int} {q : List Int}, l.drop (headD l).length = y :: q → y = 46
  | [], _, _, h => by simp at h
  | x :: r, y, q, h => by
    unfold headD at h
    rw [List.takeWhile_cons] at h
    by_cases hx : (x != 46) = true
    · rw [if_pos hx, List.length_cons, List.drop_succ_cons] at h
      exact drop_head h
    · rw [if_neg hx] at h
      have : x = 46 := by simpa using hx
      simp at h
      rw [← h.1]; exact this
theorem tw_all : ∀ l : List Int, (∀ x ∈ l, isNum x = true) → l.takeWhile isNum = l
  | [], _ => rfl
  | x :: r, h => by
    rw [List.takeWhile_cons, if_pos (h x List.mem_cons_self), tw_all r fun y hy => h y (List.mem_cons_of_mem _ hy)]
/-- A decimal number is one. -/
theorem dec_shape {l : List Int} (h : decOk l = true) : (∀ x ∈ l, isNum x = true) ∧ ∃ x r, l = x :: r ∧ isDig x = true := by
  unfold decOk at h
  simp only [Bool.and_eq_true] at h
  obtain ⟨⟨⟨h1, _⟩, h3⟩, _⟩ := h
  unfold figs at h1
  simp only [Bool.and_eq_true, List.all_eq_true, Bool.not_eq_true', List.isEmpty_eq_false_iff] at h1
  obtain ⟨h1, h0⟩ := h1
  have hd : ∀ x, isDig x = true → isNum x = true := fun x hx => by unfold isDig at hx; unfold isNum; rw [hx, Bool.or_true]
  have hsplit : l = headD l ++ l.drop (headD l).length := by
    conv => lhs; rw [← List.take_append_drop (headD l).length l]
    congr 1
    exact (List.prefix_iff_eq_take.1 (List.takeWhile_prefix _)).symm
  refine ⟨fun x hx => ?_, ?_⟩
  · rw [hsplit] at hx
    rcases List.mem_append.1 hx with hx | hx
    · exact hd x (h1 x hx)
    · cases hq : l.drop (headD l).length with
      | nil => rw [hq] at hx; cases hx
      | cons y q =>
        have hy : y = 46 := drop_head hq
        have hp : pointD l = true := by
          unfold pointD
          have : (l.drop (headD l).length).length = q.length + 1 := by rw [hq]; rfl
          rw [List.length_drop] at this
          exact decide_eq_true (by omega)
        rw [hp] at h3
        simp only [Bool.not_true, Bool.false_or] at h3
        unfold figs at h3
        simp only [Bool.and_eq_true, List.all_eq_true] at h3
        have ht : tailD l = q := by
          unfold tailD
          rw [← List.drop_drop, hq]; rfl
        rw [hq] at hx
        rcases List.mem_cons.1 hx with rfl | hx
        · rw [hy]; decide
        · rw [ht] at h3
          exact hd x (h3.1 x hx)
  · cases hh : headD l with
    | nil => exact absurd hh h0
    | cons x r =>
      rw [hh] at hsplit h1
      exact ⟨x, _, hsplit, h1 x List.mem_cons_self⟩
theorem dec_fact {l : List Int} (h : decOk l = true) (n : Nat) : factN (n + 1) l = some (decV (numV (headD l ++ tailD l)) (tailD l).length, 0, []) := by
  obtain ⟨h1, x, r, rfl, hx⟩ := dec_shape h
  have hx2 : 48 ≤ x ∧ x ≤ 57 := by unfold isDig at hx; simpa using hx
  have hs : skip (x :: r) = x :: r := by
    have : (x == 32) = false := by rw [beq_eq_false_iff_ne]; omega
    unfold skip; rw [List.dropWhile_cons, this]; rfl
  have htw : (x :: r).takeWhile isNum = x :: r := tw_all _ h1
  rw [fact_succ]
  unfold factorP
  have hn : ∀ a v, a < 48 ∨ 57 < a → tk (a :: v) (x :: r) = none := fun a v ha => tk_not (by omega) (by omega) v r
  rw [hn _ _ (by decide), hn _ _ (by decide), hn _ _ (by decide), hn _ _ (by decide), hn _ _ (by decide), hn _ _ (by decide), hn _ _ (by decide)]
  simp only
  unfold numP
  rw [hs, htw]
  unfold decC
  rw [if_pos h]
  simp
theorem dec_eval {l : List Int} (h : decOk l = true) : evalN FU l = some (decV (numV (headD l ++ tailD l)) (tailD l).length, 0) ∧ evalN FU (45 :: l) = some (negC (decV (numV (headD l ++ tailD l)) (tailD l).length), 1) :=
  ⟨fact_eval (n := 4999 + 1) (dec_fact h 4999), fact_eval (n := 4999 + 1) (by rw [minus_fact (dec_fact h 4998)]; rfl)⟩
end Go.Vc
