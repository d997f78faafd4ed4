/-
  Expressions, in plain Lean: depth beyond what a text has changes nothing; what stands behind a text changes nothing.
-/
import Derived.Test.YtffhlgejfgmpiaaGreatDoorCalcPure
namespace Go.Vc
theorem skip_len (l : List Int) : (skip l).length ≤ l.length := by
  unfold skip
  induction l with
  | nil => simp
  | cons x r ih => rw [List.dropWhile_cons]; split <;> simp only [List.length_cons] <;> omega
theorem skip_skip (l : List Int) : skip (skip l) = skip l := by
  unfold skip
  induction l with
  | nil => rfl
  | cons x r ih =>
    rw [List.dropWhile_cons]
    by_cases h : (x == 32) = true
    · rw [if_pos h]; exact ih
    · rw [if_neg h, List.dropWhile_cons, if_neg h]
theorem tk_skip (w l : List Int) : tk w (skip l) = tk w l := by unfold tk; rw [skip_skip]
theorem tk_len {w l r : List Int} (h : tk w l = some r) : r.length + w.length ≤ l.length := by
  unfold tk at h
  split at h
  · rename_i hp
    injection h with h
    subst h
    have := List.IsPrefix.length_le (List.isPrefixOf_iff_prefix.1 hp)
    rw [List.length_drop]
    have := skip_len l
    omega
  · cases h
def Short (F : List Int → Res) : Prop := ∀ l c m r, F l = some (c, m, r) → r.length < l.length
theorem closedP_short {E : List Int → Res} (h : Short E) : Short (closedP E) := fun l c m r e => by
  unfold closedP at e
  cases h1 : E l with
  | none => rw [h1] at e; cases e
  | some x =>
    obtain ⟨c1, m1, r1⟩ := x
    rw [h1] at e
    simp only at e
    cases h2 : tk [41] r1 with
    | none => rw [h2] at e; cases e
    | some r2 =>
      rw [h2] at e
      simp only [Option.some.injEq, Prod.mk.injEq] at e
      obtain ⟨_, _, rfl⟩ := e
      have := h _ _ _ _ h1
      have := tk_len h2
      simp only [List.length_cons, List.length_nil] at this
      omega
theorem twoP_short {E : List Int → Res} (h : Short E) (g : Option Nat → Option Nat → Option Nat) : Short (twoP E g) := fun l c m r e => by
  unfold twoP at e
  cases h1 : E l with
  | none => rw [h1] at e; cases e
  | some x =>
    obtain ⟨c1, m1, r1⟩ := x
    rw [h1] at e
    simp only at e
    cases h2 : tk [44] r1 with
    | none => rw [h2] at e; cases e
    | some r2 =>
      rw [h2] at e
      simp only at e
      cases h3 : closedP E r2 with
      | none => rw [h3] at e; cases e
      | some x =>
        obtain ⟨c3, m3, r3⟩ := x
        rw [h3] at e
        simp only [Option.some.injEq, Prod.mk.injEq] at e
        obtain ⟨_, _, rfl⟩ := e
        have := h _ _ _ _ h1
        have := tk_len h2
        have := closedP_short h _ _ _ _ h3
        simp only [List.length_cons, List.length_nil] at *
        omega
theorem up_some {g : Option Nat → Option Nat} {x : Res} {c : Option Nat} {m : Nat} {r : List Int} (h : up g x = some (c, m, r)) : ∃ c' m', x = some (c', m', r) ∧ c = g c' ∧ m = m' + 1 := by
  unfold up at h
  cases x with
  | none => cases h
  | some x =>
    obtain ⟨c1, m1, r1⟩ := x
    simp only [Option.some.injEq, Prod.mk.injEq] at h
    obtain ⟨rfl, rfl, rfl⟩ := h
    exact ⟨_, _, rfl, rfl, rfl⟩
theorem callP_short {f : List Int → Res} (h : Short f) (g : Option Nat → Option Nat) : Short (callP f g) := fun l c m r e => by
  unfold callP at e
  cases h2 : tk [40] l with
  | none => rw [h2] at e; cases e
  | some r2 =>
    rw [h2] at e
    obtain ⟨_, _, h1, _, _⟩ := up_some e
    have := h _ _ _ _ h1
    have := tk_len h2
    simp only [List.length_cons, List.length_nil] at *
    omega
theorem figs_nil : figs [] = false := rfl
theorem decC_nil : decC [] = none := by decide
theorem numP_short : Short numP := fun l c m r e => by
  unfold numP at e
  cases h : decC ((skip l).takeWhile isNum) with
  | none => rw [h] at e; cases e
  | some d =>
    rw [h] at e
    simp only [Option.some.injEq, Prod.mk.injEq] at e
    obtain ⟨_, _, rfl⟩ := e
    have h0 : 0 < ((skip l).takeWhile isNum).length := by
      refine List.length_pos_iff.2 fun e => ?_
      rw [e, decC_nil] at h; cases h
    have h1 : ((skip l).takeWhile isNum).length ≤ (skip l).length := List.IsPrefix.length_le (List.takeWhile_prefix _)
    have := skip_len l
    rw [List.length_drop]
    omega
theorem factorP_short {E F : List Int → Res} (hE : Short E) (hF : Short F) : Short (factorP E F) := fun l c m r e => by
  unfold factorP at e
  repeat' split at e
  all_goals first
    | (rename_i r' hr
       obtain ⟨_, _, h1, _, _⟩ := up_some e
       have := tk_len hr
       first
         | (have := hF _ _ _ _ h1; simp only [List.length_cons, List.length_nil] at *; omega)
         | (have := closedP_short hE _ _ _ _ h1; simp only [List.length_cons, List.length_nil] at *; omega))
    | (rename_i r' hr
       have := tk_len hr
       first
         | (have := callP_short (twoP_short hE _) _ _ _ _ _ e; simp only [List.length_cons, List.length_nil] at *; omega)
         | (have := callP_short (closedP_short hE) _ _ _ _ _ e; simp only [List.length_cons, List.length_nil] at *; omega)
         | (simp only [Option.some.injEq, Prod.mk.injEq] at e; obtain ⟨_, _, rfl⟩ := e; simp only [List.length_cons, List.length_nil] at *; omega))
    | exact numP_short _ _ _ _ e
section
variable {F G : List Int → Res} {a b : Int} {ga gb : Option Nat → Option Nat → Option Nat}
theorem chainP_le (hF : Short F) : ∀ {n : Nat} {c : Option Nat} {m : Nat} {l : List Int} {c' : Option Nat} {m' : Nat} {r : List Int}, chainP F a b ga gb n c m l = some (c', m', r) → r.length ≤ l.length
  | 0, _, _, _, _, _, _, h => by cases h
  | n + 1, c, m, l, c', m', r, h => by
    unfold chainP at h
    cases h1 : tk [a] l with
    | some r1 =>
      rw [h1] at h
      simp only at h
      cases h2 : F r1 with
      | none => rw [h2] at h; cases h
      | some x =>
        obtain ⟨c2, m2, r2⟩ := x
        rw [h2] at h
        have := chainP_le hF h
        have := hF _ _ _ _ h2
        have := tk_len h1
        omega
    | none =>
      rw [h1] at h
      simp only at h
      cases h3 : tk [b] l with
      | some r1 =>
        rw [h3] at h
        simp only at h
        cases h2 : F r1 with
        | none => rw [h2] at h; cases h
        | some x =>
          obtain ⟨c2, m2, r2⟩ := x
          rw [h2] at h
          have := chainP_le hF h
          have := hF _ _ _ _ h2
          have := tk_len h3
          omega
      | none =>
        rw [h3] at h
        simp only [Option.some.injEq, Prod.mk.injEq] at h
        obtain ⟨_, _, rfl⟩ := h
        exact skip_len l
theorem seqP_short (hF : Short F) : Short (seqP F a b ga gb) := fun l c m r e => by
  unfold seqP at e
  cases h1 : F l with
  | none => rw [h1] at e; cases e
  | some x =>
    obtain ⟨c1, m1, r1⟩ := x
    rw [h1] at e
    have := chainP_le hF e
    have := hF _ _ _ _ h1
    omega
theorem chainP_congr (hF : Short F) {N : Nat} (h : ∀ l, l.length ≤ N → F l = G l) : ∀ {n : Nat} {c : Option Nat} {m : Nat} {l : List Int}, l.length ≤ N → chainP F a b ga gb n c m l = chainP G a b ga gb n c m l
  | 0, _, _, _, _ => rfl
  | n + 1, c, m, l, hl => by
    unfold chainP
    cases h1 : tk [a] l with
    | some r1 =>
      have h3 := tk_len h1
      simp only
      rw [← h r1 (by omega)]
      cases h2 : F r1 with
      | none => rfl
      | some x =>
        obtain ⟨c2, m2, r2⟩ := x
        have := hF _ _ _ _ h2
        exact chainP_congr hF h (by omega)
    | none =>
      simp only
      cases h1 : tk [b] l with
      | some r1 =>
        have h3 := tk_len h1
        simp only
        rw [← h r1 (by omega)]
        cases h2 : F r1 with
        | none => rfl
        | some x =>
          obtain ⟨c2, m2, r2⟩ := x
          have := hF _ _ _ _ h2
          exact chainP_congr hF h (by omega)
      | none => rfl
theorem seqP_congr (hF : Short F) {N : Nat} (h : ∀ l, l.length ≤ N → F l = G l) {l : List Int} (hl : l.length ≤ N) : seqP F a b ga gb l = seqP G a b ga gb l := by
  unfold seqP
  rw [← h l hl]
  cases h1 : F l with
  | none => rfl
  | some x =>
    obtain ⟨c1, m1, r1⟩ := x
    have := hF _ _ _ _ h1
    exact chainP_congr hF h (by omega)
end
theorem exprP_short {F : List Int → Res} (hF : Short F) : Short (exprP F) := seqP_short (seqP_short hF)
theorem exprP_congr {F G : List Int → Res} (hF : Short F) {N : Nat} (h : ∀ l, l.length ≤ N → F l = G l) {l : List Int} (hl : l.length ≤ N) : exprP F l = exprP G l :=
  seqP_congr (seqP_short hF) (fun _ h' => seqP_congr hF h h') hl
theorem factN_short : ∀ n, Short (factN n)
  | 0 => fun _ _ _ _ h => by cases h
  | n + 1 => factorP_short (exprP_short (factN_short n)) (factN_short n)
theorem closedP_congr {E G : List Int → Res} {l : List Int} (h : E l = G l) : closedP E l = closedP G l := by unfold closedP; rw [h]
theorem twoP_congr {E G : List Int → Res} (hE : Short E) {N : Nat} (h : ∀ l, l.length ≤ N → E l = G l) {g : Option Nat → Option Nat → Option Nat} {l : List Int} (hl : l.length ≤ N) : twoP E g l = twoP G g l := by
  unfold twoP
  rw [← h l hl]
  cases h1 : E l with
  | none => rfl
  | some x =>
    obtain ⟨c1, m1, r1⟩ := x
    simp only
    cases h2 : tk [44] r1 with
    | none => rfl
    | some r2 =>
      have := tk_len h2
      have := hE _ _ _ _ h1
      simp only
      rw [closedP_congr (h r2 (by omega))]
theorem callP_congr {f g : List Int → Res} {k : Option Nat → Option Nat} {l : List Int} {N : Nat} (h : ∀ l, l.length ≤ N → f l = g l) (hl : l.length ≤ N) : callP f k l = callP g k l := by
  unfold callP
  cases h1 : tk [40] l with
  | none => rfl
  | some r =>
    have := tk_len h1
    simp only
    rw [h r (by omega)]
theorem factorP_congr {E F E' F' : List Int → Res} (hE : Short E) {N : Nat} (h1 : ∀ l, l.length ≤ N → E l = E' l) (h2 : ∀ l, l.length ≤ N → F l = F' l) {l : List Int} (hl : l.length ≤ N + 1) : factorP E F l = factorP E' F' l := by
  unfold factorP
  repeat' split
  all_goals first
    | rfl
    | (rename_i r' hr
       have := tk_len hr
       simp only [List.length_cons, List.length_nil] at this
       first
         | rw [h2 r' (by omega)]
         | rw [closedP_congr (h1 r' (by omega))]
         | exact callP_congr (fun l hl => twoP_congr hE h1 hl) (by omega)
         | exact callP_congr (fun l hl => closedP_congr (h1 l hl)) (by omega))
/-- Depth that a text has not changes nothing. -/
theorem factN_fuel : ∀ {n : Nat} {l : List Int}, l.length < n → factN n l = factN (n + 1) l
  | 0, _, h => by omega
  | n + 1, l, h => by
    have ih : ∀ l', l'.length ≤ n - 1 → 0 < n → factN n l' = factN (n + 1) l' := fun l' h' h0 => factN_fuel (by omega)
    by_cases h0 : n = 0
    · subst h0
      have : l = [] := List.eq_nil_of_length_eq_zero (by omega)
      subst this
      rfl
    · show factorP (exprP (factN n)) (factN n) l = factorP (exprP (factN (n + 1))) (factN (n + 1)) l
      exact factorP_congr (N := n - 1) (exprP_short (factN_short n)) (fun l' h' => exprP_congr (factN_short n) (fun l'' h'' => ih l'' h'' (by omega)) h') (fun l' h' => ih l' h' (by omega)) (by omega)
theorem factN_more {n : Nat} {l : List Int} (h : l.length < n) : ∀ k, factN (n + k) l = factN n l
  | 0 => rfl
  | k + 1 => by rw [show n + (k + 1) = n + k + 1 by omega, ← factN_fuel (n := n + k) (by omega)]; exact factN_more h k
theorem exprN_more {n k : Nat} {l : List Int} (h : l.length < n) : exprN (n + k) l = exprN n l :=
  exprP_congr (N := n - 1) (factN_short _) (fun l' h' => factN_more (by omega) k) (by omega)
end Go.Vc
