/-
  Where lines begin: the plain law.
-/
namespace Go.Vc
/-- The places behind the bytes 10 of bytes that begin at a place. -/
def endsF (a : Int) : List Int → List Int
  | [] => []
  | c :: r => if c = 10 then (a + 1) :: endsF (a + 1) r else endsF (a + 1) r
def linesF (l : List Int) : Nat := (endsF 0 l).length
theorem endsF_append (a : Int) (l m : List Int) : endsF a (l ++ m) = endsF a l ++ endsF (a + l.length) m := by
  induction l generalizing a with
  | nil => simp [endsF]
  | cons c r ih =>
    have e : a + 1 + (r.length : Int) = a + ((c :: r).length : Int) := by simp; omega
    simp only [List.cons_append, endsF, ih, e]
    split <;> rfl
theorem endsF_shift (a d : Int) (l : List Int) : (endsF a l).map (· + d) = endsF (a + d) l := by
  induction l generalizing a with
  | nil => rfl
  | cons c r ih =>
    have e : a + 1 + d = a + d + 1 := by omega
    simp only [endsF]
    split
    · rw [List.map_cons, ih, e]
    · rw [ih, e]
theorem endsF_bounds {a : Int} {l : List Int} {x : Int} (h : x ∈ endsF a l) : a < x ∧ x ≤ a + l.length := by
  induction l generalizing a with
  | nil => simp [endsF] at h
  | cons c r ih =>
    rw [endsF] at h
    simp only [List.length_cons]
    split at h
    · rcases List.mem_cons.1 h with rfl | h
      · omega
      · have := ih h; omega
    · have := ih h; omega
theorem endsF_length (a b : Int) (l : List Int) : (endsF a l).length = (endsF b l).length := by
  induction l generalizing a b with
  | nil => rfl
  | cons c r ih =>
    simp only [endsF]
    split
    · simp [ih (a + 1) (b + 1)]
    · exact ih _ _
theorem endsF_le (a : Int) (l : List Int) : (endsF a l).length ≤ l.length := by
  induction l generalizing a with
  | nil => simp [endsF]
  | cons c r ih =>
    simp only [endsF]
    have := ih (a + 1)
    split <;> simp <;> omega
theorem linesF_snoc (l : List Int) (c : Int) : linesF (l ++ [c]) = linesF l + if c = 10 then 1 else 0 := by
  rw [linesF, endsF_append, List.length_append, linesF]
  simp only [endsF]
  split <;> simp
theorem endsF_snoc (a : Int) (l : List Int) (c : Int) : endsF a (l ++ [c]) = endsF a l ++ if c = 10 then [a + l.length + 1] else [] := by
  rw [endsF_append]
  simp only [endsF]
/-- The place behind the j-th byte 10. -/
theorem endsF_get {a : Int} {l : List Int} {j : Nat} {e : Int} (h : (endsF a l)[j]? = some e) : ∃ pre post, l = pre ++ 10 :: post ∧ e = a + pre.length + 1 ∧ (endsF a pre).length = j := by
  induction l generalizing a j with
  | nil => simp [endsF] at h
  | cons c r ih =>
    rw [endsF] at h
    split at h
    · rename_i hc
      subst hc
      cases j with
      | zero =>
        simp at h
        exact ⟨[], r, rfl, by simp; omega, rfl⟩
      | succ j =>
        simp at h
        obtain ⟨pre, post, rfl, he, hl⟩ := ih h
        refine ⟨10 :: pre, post, rfl, by simp; omega, ?_⟩
        simp [endsF, hl]
    · rename_i hc
      obtain ⟨pre, post, rfl, he, hl⟩ := ih h
      refine ⟨c :: pre, post, rfl, by simp; omega, ?_⟩
      simp [endsF, hc, hl]
/-- Where a line begins. -/
def beginE (c : List Int) (k : Int) : Int × Bool :=
  if k < 0 ∨ k > (endsF 0 c).length then (0, false) else if k = 0 then (0, true) else ((endsF 0 c).getD (k.toNat - 1) 0, true)
/-- On which line a place is. -/
def lineE (c : List Int) (at_ : Int) : Int × Bool := if at_ < 0 ∨ at_ > c.length then (0, false) else (linesF (c.take at_.toNat), true)
theorem endsF_split (c : List Int) (n : Nat) (h : n ≤ c.length) : endsF 0 c = endsF 0 (c.take n) ++ endsF n (c.drop n) := by
  conv => lhs; rw [← List.take_append_drop n c, endsF_append]
  rw [List.length_take, Nat.min_eq_left h, Int.zero_add]
theorem endsF_pos {c : List Int} {k : Nat} (hk : 1 ≤ k) (h : k ≤ (endsF 0 c).length) : ∃ e : Int, (endsF 0 c)[k - 1]? = some e ∧ 1 ≤ e ∧ e ≤ c.length ∧ linesF (c.take e.toNat) = k ∧ linesF (c.take (e - 1).toNat) = k - 1 ∧ c[(e - 1).toNat]? = some 10 := by
  have hg : (endsF 0 c)[k - 1]? = some ((endsF 0 c)[k - 1]'(by omega)) := List.getElem?_eq_getElem _
  obtain ⟨pre, post, rfl, he, hl⟩ := endsF_get hg
  refine ⟨_, hg, by omega, by rw [he]; simp; omega, ?_, ?_, ?_⟩
  · rw [he, show (0 + (pre.length : Int) + 1).toNat = (pre ++ [10]).length by rw [List.length_append, List.length_singleton]; omega, show pre ++ 10 :: post = (pre ++ [10]) ++ post by simp, List.take_left' rfl, linesF_snoc, linesF, hl]
    simp; omega
  · rw [he, show (0 + (pre.length : Int) + 1 - 1).toNat = pre.length by omega, List.take_left' rfl, linesF, hl]
  · rw [he, show (0 + (pre.length : Int) + 1 - 1).toNat = pre.length by omega, List.getElem?_append_right (Nat.le_refl _)]
    simp
end Go.Vc
