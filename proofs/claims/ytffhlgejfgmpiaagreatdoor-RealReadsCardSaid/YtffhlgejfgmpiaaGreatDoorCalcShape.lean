/-
  Expressions, in plain Lean: brackets, signs, calls, two side by side.
-/
import Derived.Test.YtffhlgejfgmpiaaGreatDoorCalcLoc2
namespace Go.Vc
/-- What nothing goes on with. -/
def Ends (r : List Int) : Prop := skip r = [] ∨ ∃ q, skip r = 41 :: q ∨ skip r = 44 :: q
theorem ends_tk {r : List Int} (h : Ends r) {a : Int} (ha : a ≠ 41 ∧ a ≠ 44) : tk [a] r = none := by
  unfold tk
  rcases h with h | ⟨q, h | h⟩ <;> rw [h] <;> simp [List.isPrefixOf] <;> omega
theorem chain_stop {F : List Int → Res} {a b : Int} {ga gb : Option Nat → Option Nat → Option Nat} {n : Nat} {c : Option Nat} {m : Nat} {r : List Int} (h1 : tk [a] r = none) (h2 : tk [b] r = none) : chainP F a b ga gb (n + 1) c m r = some (c, m, skip r) := by
  unfold chainP; rw [h1, h2]
theorem chain_a {F : List Int → Res} {a b : Int} {ga gb : Option Nat → Option Nat → Option Nat} {n : Nat} {c c' : Option Nat} {m m' : Nat} {l r r' : List Int} (h1 : tk [a] l = some r) (h2 : F r = some (c', m', r')) : chainP F a b ga gb (n + 1) c m l = chainP F a b ga gb n (ga c c') (max m m') r' := by
  conv => lhs; unfold chainP
  rw [h1]
  simp only [h2]
theorem chain_b {F : List Int → Res} {a b : Int} {ga gb : Option Nat → Option Nat → Option Nat} {n : Nat} {c c' : Option Nat} {m m' : Nat} {l r r' : List Int} (h0 : tk [a] l = none) (h1 : tk [b] l = some r) (h2 : F r = some (c', m', r')) : chainP F a b ga gb (n + 1) c m l = chainP F a b ga gb n (gb c c') (max m m') r' := by
  conv => lhs; unfold chainP
  rw [h0, h1]
  simp only [h2]
theorem FU_succ : FU = 4998 + 1 + 1 := rfl
theorem seq_one {F : List Int → Res} {a b : Int} {ga gb : Option Nat → Option Nat → Option Nat} {c : Option Nat} {m : Nat} {l r : List Int} (h : F l = some (c, m, r)) (h1 : tk [a] r = none) (h2 : tk [b] r = none) : seqP F a b ga gb l = some (c, m, skip r) := by
  unfold seqP
  rw [h, FU_succ]
  exact chain_stop h1 h2
theorem term_one {F : List Int → Res} {c : Option Nat} {m : Nat} {l r : List Int} (h : F l = some (c, m, r)) (h1 : tk [42] r = none) (h2 : tk [47] r = none) : termP F l = some (c, m, skip r) := seq_one h h1 h2
/-- A factor alone. -/
theorem expr_one {n : Nat} {c : Option Nat} {m : Nat} {l r : List Int} (h : factN n l = some (c, m, r)) (he : Ends r) : exprN n l = some (c, m, skip r) := by
  have h1 := term_one h (ends_tk he (by decide)) (ends_tk he (by decide))
  have h2 := seq_one (a := 43) (b := 45) (ga := opCC .add) (gb := opCC .sub) h1 (by rw [tk_skip]; exact ends_tk he (by decide)) (by rw [tk_skip]; exact ends_tk he (by decide))
  rw [skip_skip] at h2
  exact h2
theorem post_close (q : List Int) : Beh False (41 :: q) := ⟨fun x h => by simp at h; omega, fun x h => by simp [skip] at h; omega, fun h => h.elim⟩
theorem post_comma (q : List Int) : Beh False (44 :: q) := ⟨fun x h => by simp at h; omega, fun x h => by simp [skip] at h; omega, fun h => h.elim⟩
theorem tk_at {a : Int} (h : a ≠ 32) (q : List Int) : tk [a] (a :: q) = some q := by
  have : (a == 32) = false := by simpa using h
  unfold tk skip
  rw [List.dropWhile_cons, this]
  simp [List.isPrefixOf]
theorem tk_not {a b : Int} (h : b ≠ 32) (hab : a ≠ b) (v q : List Int) : tk (a :: v) (b :: q) = none := by
  have : (b == 32) = false := by simpa using h
  unfold tk skip
  rw [List.dropWhile_cons, this]
  simp [List.isPrefixOf, hab]
/-- An inside that is read whole, and the bracket behind it. -/
theorem closed_full {n : Nat} {s : List Int} {c : Option Nat} {m : Nat} {r : List Int} (h : exprN n s = some (c, m, r)) (hr : skip r = []) (q : List Int) : closedP (exprN n) (s ++ 41 :: q) = some (c, m, q) := by
  obtain ⟨r', h1, h2⟩ := (exprN_loc (post_close q) n s).1 _ _ _ h
  unfold closedP
  rw [h1]
  simp only
  rw [skip_app, if_pos hr] at h2
  have : tk [41] r' = tk [41] (41 :: q) := tk_inv h2
  rw [this, tk_at (by decide)]
theorem two_full {n : Nat} {s t : List Int} {c1 c2 : Option Nat} {m1 m2 : Nat} {r1 r2 : List Int} (h1 : exprN n s = some (c1, m1, r1)) (hr1 : skip r1 = []) (h2 : exprN n t = some (c2, m2, r2)) (hr2 : skip r2 = []) (g : Option Nat → Option Nat → Option Nat) (q : List Int) :
    twoP (exprN n) g (s ++ 44 :: (t ++ 41 :: q)) = some (g c1 c2, max m1 m2, q) := by
  obtain ⟨r', k1, k2⟩ := (exprN_loc (post_comma (t ++ 41 :: q)) n s).1 _ _ _ h1
  unfold twoP
  rw [k1]
  simp only
  rw [skip_app, if_pos hr1] at k2
  have : tk [44] r' = tk [44] (44 :: (t ++ 41 :: q)) := tk_inv k2
  rw [this, tk_at (by decide)]
  simp only
  rw [closed_full h2 hr2]
theorem fact_succ (n : Nat) (l : List Int) : factN (n + 1) l = factorP (exprN n) (factN n) l := rfl
theorem paren_fact {n : Nat} {s : List Int} {c : Option Nat} {m : Nat} {r : List Int} (h : exprN n s = some (c, m, r)) (hr : skip r = []) (q : List Int) : factN (n + 1) (40 :: (s ++ 41 :: q)) = some (c, m + 1, q) := by
  rw [fact_succ]
  unfold factorP
  rw [tk_not (by decide) (by decide), tk_at (by decide)]
  simp only
  rw [closed_full h hr]; rfl
theorem minus_fact {n : Nat} {s : List Int} {x : Res} (h : factN n s = x) : factN (n + 1) (45 :: s) = up negC x := by
  rw [fact_succ]
  unfold factorP
  rw [tk_at (by decide)]
  simp only
  rw [h]
theorem tk3 {a b c : Int} (h : a ≠ 32) (q : List Int) : tk [a, b, c] (a :: b :: c :: q) = some q := by
  have : (a == 32) = false := by simpa using h
  unfold tk skip
  rw [List.dropWhile_cons, this]
  simp [List.isPrefixOf]
theorem tk3_not {a b c d e : Int} (h : a ≠ 32) (hn : b ≠ d) (q : List Int) : tk [a, b, c] (a :: d :: e :: q) = none := by
  have : (a == 32) = false := by simpa using h
  unfold tk skip
  rw [List.dropWhile_cons, this]
  simp [List.isPrefixOf, hn]
theorem abs_fact {n : Nat} {s : List Int} {c : Option Nat} {m : Nat} {r : List Int} (h : exprN n s = some (c, m, r)) (hr : skip r = []) (q : List Int) : factN (n + 1) (97 :: 98 :: 115 :: 40 :: (s ++ 41 :: q)) = some (absC c, m + 1, q) := by
  rw [fact_succ]
  unfold factorP
  rw [tk_not (by decide) (by decide), tk_not (by decide) (by decide), tk_not (by decide) (by decide), tk_not (by decide) (by decide), tk3 (by decide)]
  simp only
  unfold callP
  rw [tk_at (by decide)]
  simp only
  rw [closed_full h hr]; rfl
theorem min_fact {n : Nat} {s t : List Int} {c1 c2 : Option Nat} {m1 m2 : Nat} {r1 r2 : List Int} (h1 : exprN n s = some (c1, m1, r1)) (hr1 : skip r1 = []) (h2 : exprN n t = some (c2, m2, r2)) (hr2 : skip r2 = []) (q : List Int) :
    factN (n + 1) (109 :: 105 :: 110 :: 40 :: (s ++ 44 :: (t ++ 41 :: q))) = some (minC c1 c2, max m1 m2 + 1, q) := by
  rw [fact_succ]
  unfold factorP
  rw [tk_not (by decide) (by decide), tk_not (by decide) (by decide), tk3 (by decide)]
  simp only
  unfold callP
  rw [tk_at (by decide)]
  simp only
  rw [two_full h1 hr1 h2 hr2]; rfl
theorem max_fact {n : Nat} {s t : List Int} {c1 c2 : Option Nat} {m1 m2 : Nat} {r1 r2 : List Int} (h1 : exprN n s = some (c1, m1, r1)) (hr1 : skip r1 = []) (h2 : exprN n t = some (c2, m2, r2)) (hr2 : skip r2 = []) (q : List Int) :
    factN (n + 1) (109 :: 97 :: 120 :: 40 :: (s ++ 44 :: (t ++ 41 :: q))) = some (maxC c1 c2, max m1 m2 + 1, q) := by
  rw [fact_succ]
  unfold factorP
  rw [tk_not (by decide) (by decide), tk_not (by decide) (by decide), tk3_not (by decide) (by decide), tk3 (by decide)]
  simp only
  unfold callP
  rw [tk_at (by decide)]
  simp only
  rw [two_full h1 hr1 h2 hr2]; rfl
section
variable {n : Nat} {s t : List Int} {c1 c2 : Option Nat} {m1 m2 : Nat} {r1 r2 : List Int} (h1 : exprN n s = some (c1, m1, r1)) (hr1 : skip r1 = []) (h2 : exprN n t = some (c2, m2, r2)) (hr2 : skip r2 = [])
include h1 hr1 h2 hr2
/-- Two brackets, a sign between them. -/
theorem pair_low {o : Int} (ho : o = 43 ∨ o = 45) : exprN (n + 1) (40 :: (s ++ 41 :: o :: 40 :: (t ++ [41]))) = some ((if o = 43 then opCC .add else opCC .sub) c1 c2, max (m1 + 1) (m2 + 1), []) := by
  have o32 : o ≠ 32 := by omega
  have f1 := paren_fact h1 hr1 (o :: 40 :: (t ++ [41]))
  have f2 := paren_fact h2 hr2 []
  have e : skip (o :: 40 :: (t ++ [41])) = o :: 40 :: (t ++ [41]) := by
    have : (o == 32) = false := by simpa using o32
    unfold skip; rw [List.dropWhile_cons, this]; rfl
  have t1 : termP (factN (n + 1)) (40 :: (s ++ 41 :: o :: 40 :: (t ++ [41]))) = some (c1, m1 + 1, o :: 40 :: (t ++ [41])) := by
    rw [term_one f1 (tk_not o32 (by omega) _ _) (tk_not o32 (by omega) _ _), e]
  have t2 : termP (factN (n + 1)) (40 :: (t ++ [41])) = some (c2, m2 + 1, []) := term_one f2 rfl rfl
  show seqP (termP (factN (n + 1))) 43 45 (opCC .add) (opCC .sub) _ = _
  unfold seqP
  rw [t1, FU_succ]
  rcases ho with rfl | rfl
  · show chainP _ _ _ _ _ (4998 + 1 + 1) _ _ _ = _
    rw [chain_a (tk_at (by decide) _) t2, chain_stop rfl rfl, if_pos rfl]; rfl
  · show chainP _ _ _ _ _ (4998 + 1 + 1) _ _ _ = _
    rw [chain_b (tk_not (by decide) (by decide) _ _) (tk_at (by decide) _) t2, chain_stop rfl rfl, if_neg (by decide)]; rfl
theorem pair_high {o : Int} (ho : o = 42 ∨ o = 47) : exprN (n + 1) (40 :: (s ++ 41 :: o :: 40 :: (t ++ [41]))) = some ((if o = 42 then opCC .mul else opCC .quo) c1 c2, max (m1 + 1) (m2 + 1), []) := by
  have f1 := paren_fact h1 hr1 (o :: 40 :: (t ++ [41]))
  have f2 := paren_fact h2 hr2 []
  have t1 : termP (factN (n + 1)) (40 :: (s ++ 41 :: o :: 40 :: (t ++ [41]))) = some ((if o = 42 then opCC .mul else opCC .quo) c1 c2, max (m1 + 1) (m2 + 1), []) := by
    show seqP (factN (n + 1)) 42 47 (opCC .mul) (opCC .quo) _ = _
    unfold seqP
    rw [f1, FU_succ]
    rcases ho with rfl | rfl
    · show chainP _ _ _ _ _ (4998 + 1 + 1) _ _ _ = _
      rw [chain_a (tk_at (by decide) _) f2, chain_stop rfl rfl, if_pos rfl]; rfl
    · show chainP _ _ _ _ _ (4998 + 1 + 1) _ _ _ = _
      rw [chain_b (tk_not (by decide) (by decide) _ _) (tk_at (by decide) _) f2, chain_stop rfl rfl, if_neg (by decide)]; rfl
  exact seq_one t1 rfl rfl
end
end Go.Vc
