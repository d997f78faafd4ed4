/-
  Patterns in bytes: the plain law.
-/
namespace Go.Vc
/-- The pattern's first k bytes are the last k bytes. -/
def Suf (p s : List Int) (k : Nat) : Prop := k ≤ p.length ∧ k ≤ s.length ∧ p.take k = s.drop (s.length - k)
/-- The greatest such k, up to a bound. -/
def Best (p s : List Int) (L k : Nat) : Prop := k ≤ L ∧ Suf p s k ∧ ∀ j, j ≤ L → Suf p s j → j ≤ k
theorem Best.unique {p s : List Int} {L k k' : Nat} (h : Best p s L k) (h' : Best p s L k') : k = k' :=
  Nat.le_antisymm (h'.2.2 _ h.1 h.2.1) (h.2.2 _ h'.1 h'.2.1)
theorem suf_zero (p s : List Int) : Suf p s 0 := ⟨Nat.zero_le _, Nat.zero_le _, by simp⟩
theorem suf_snoc {p s : List Int} {c : Int} {j : Nat} : Suf p (s ++ [c]) (j + 1) ↔ Suf p s j ∧ p[j]? = some c := by
  unfold Suf
  simp only [List.length_append, List.length_singleton]
  constructor
  · rintro ⟨h1, h2, h3⟩
    rw [List.take_succ_eq_append_getElem (by omega), show s.length + 1 - (j + 1) = s.length - j by omega, List.drop_append_of_le_length (by omega)] at h3
    obtain ⟨h4, h5⟩ := List.append_inj' h3 rfl
    simp only [List.cons.injEq, and_true] at h5
    exact ⟨⟨by omega, by omega, h4⟩, by rw [List.getElem?_eq_getElem (by omega), h5]⟩
  · rintro ⟨⟨h1, h2, h3⟩, h4⟩
    obtain ⟨h5, h6⟩ := List.getElem?_eq_some_iff.1 h4
    refine ⟨by omega, by omega, ?_⟩
    rw [List.take_succ_eq_append_getElem (by omega), show s.length + 1 - (j + 1) = s.length - j by omega, List.drop_append_of_le_length (by omega), h3, h6]
theorem suf_trans {p s : List Int} {x j : Nat} (hx : Suf p s x) (hj : j ≤ x) : Suf p s j ↔ Suf p (p.take x) j := by
  obtain ⟨h1, h2, h3⟩ := hx
  have hl : (p.take x).length = x := by rw [List.length_take]; omega
  unfold Suf
  rw [hl, h3, List.drop_drop, show s.length - x + (x - j) = s.length - j by omega]
  constructor
  · rintro ⟨a, b, c⟩; exact ⟨a, hj, c⟩
  · rintro ⟨a, b, c⟩; exact ⟨a, by omega, c⟩
/-- The numbers are how much of the pattern's beginning stands at each place's end. -/
def FailOK (p : List Int) (fl : List Int) : Prop := ∀ (i : Nat), i < fl.length → ∃ k : Nat, fl[i]? = some (k : Int) ∧ Best p (p.take (i + 1)) i k
theorem FailOK.eq {p fl fl' : List Int} (h : FailOK p fl) (h' : FailOK p fl') (hl : fl.length = fl'.length) : fl = fl' := by
  apply List.ext_getElem? 
  intro i
  by_cases hi : i < fl.length
  · obtain ⟨k, e, b⟩ := h i hi
    obtain ⟨k', e', b'⟩ := h' i (by omega)
    rw [e, e', b.unique b']
  · rw [List.getElem?_eq_none (by omega), List.getElem?_eq_none (by omega)]
theorem FailOK.snoc {p fl : List Int} (h : FailOK p fl) {k : Nat} (hk : Best p (p.take (fl.length + 1)) fl.length k) : FailOK p (fl ++ [(k : Int)]) := fun i hi => by
  simp only [List.length_append, List.length_singleton] at hi
  by_cases hl : i < fl.length
  · obtain ⟨j, e, b⟩ := h i hl
    exact ⟨j, by rw [List.getElem?_append_left hl]; exact e, b⟩
  · obtain rfl : i = fl.length := by omega
    exact ⟨k, by simp, hk⟩
/-- One byte more: where the search for the next number stands. -/
structure OnI (p s : List Int) (c : Int) (L x : Nat) : Prop where
  suf : Suf p s x
  le : x ≤ L
  all : ∀ j, j ≤ L → Suf p (s ++ [c]) (j + 1) → j ≤ x
theorem OnI.start {p s : List Int} {c : Int} {L k : Nat} (h : Best p s L k) : OnI p s c L k := ⟨h.2.1, h.1, fun j hj hs => h.2.2 j hj (suf_snoc.1 hs).1⟩
theorem OnI.hit {p s : List Int} {c : Int} {L x : Nat} (h : OnI p s c L x) (hx : p[x]? = some c) : Best p (s ++ [c]) (L + 1) (x + 1) :=
  ⟨by have := h.le; omega, suf_snoc.2 ⟨h.suf, hx⟩, fun j hj hs => by
    cases j with
    | zero => omega
    | succ j => have := h.all j (by omega) hs; omega⟩
theorem OnI.none {p s : List Int} {c : Int} {L : Nat} (h : OnI p s c L 0) (hx : p[0]? ≠ some c) : Best p (s ++ [c]) (L + 1) 0 :=
  ⟨Nat.zero_le _, suf_zero _ _, fun j hj hs => by
    cases j with
    | zero => omega
    | succ j =>
      have := h.all j (by omega) hs
      obtain rfl : j = 0 := by omega
      exact absurd (suf_snoc.1 hs).2 hx⟩
theorem OnI.next {p s : List Int} {c : Int} {L x k : Nat} (h : OnI p s c L x) (hx : p[x]? ≠ some c) (h0 : x ≠ 0) (hk : Best p (p.take (x - 1 + 1)) (x - 1) k) : OnI p s c L k := by
  rw [show x - 1 + 1 = x by omega] at hk
  refine ⟨(suf_trans h.suf (by have := hk.1; omega)).2 hk.2.1, by have := hk.1; have := h.le; omega, fun j hj hs => ?_⟩
  have h1 := h.all j hj hs
  have h2 : j ≠ x := fun e => hx (e ▸ (suf_snoc.1 hs).2)
  exact hk.2.2 j (by omega) ((suf_trans h.suf h1).1 (suf_snoc.1 hs).1)
/-- The pattern stands at a place. -/
def Occ (p t : List Int) (a : Nat) : Prop := p ≠ [] ∧ (t.drop a).take p.length = p
instance (p t : List Int) (a : Nat) : Decidable (Occ p t a) := inferInstanceAs (Decidable (_ ∧ _))
theorem Occ.le {p t : List Int} {a : Nat} (h : Occ p t a) : 0 < p.length ∧ a + p.length ≤ t.length := by
  obtain ⟨h1, h2⟩ := h
  have hp : 0 < p.length := List.length_pos_iff.2 h1
  have := congrArg List.length h2
  rw [List.length_take, List.length_drop] at this
  omega
theorem suf_occ {p t : List Int} {e : Nat} (hp : p ≠ []) (he : e ≤ t.length) : Suf p (t.take e) p.length ↔ p.length ≤ e ∧ Occ p t (e - p.length) := by
  have hl : (t.take e).length = e := by rw [List.length_take]; omega
  unfold Suf Occ
  rw [hl, List.take_length, List.drop_take]
  constructor
  · rintro ⟨_, h2, h3⟩
    rw [show e - (e - p.length) = p.length by omega] at h3
    exact ⟨h2, hp, h3.symm⟩
  · rintro ⟨h2, _, h3⟩
    rw [show e - (e - p.length) = p.length by omega]
    exact ⟨Nat.le_refl _, h2, h3.symm⟩
/-- All places where the pattern stands, up to one. -/
def occN (p t : List Int) (n : Nat) : List Nat := (List.range n).filter (fun a => decide (Occ p t a))
theorem occN_succ (p t : List Int) (n : Nat) : occN p t (n + 1) = occN p t n ++ if Occ p t n then [n] else [] := by
  unfold occN
  rw [List.range_succ, List.filter_append]
  congr 1
  by_cases h : Occ p t n <;> simp [h]
theorem occN_mem {p t : List Int} {n a : Nat} : a ∈ occN p t n ↔ a < n ∧ Occ p t a := by simp [occN]
theorem occN_le {p t : List Int} {n m : Nat} (hnm : n ≤ m) (h : ∀ a, n ≤ a → a < m → ¬ Occ p t a) : occN p t m = occN p t n := by
  induction m with
  | zero => obtain rfl : n = 0 := by omega
            rfl
  | succ m ih =>
    by_cases he : n = m + 1
    · rw [he]
    · rw [occN_succ, if_neg (h m (by omega) (by omega)), List.append_nil, ih (by omega) fun a h1 h2 => h a h1 (by omega)]
abbrev occs (p t : List Int) : List Nat := occN p t t.length
theorem occs_sorted (p t : List Int) (n : Nat) : (occN p t n).Pairwise (· < ·) := by
  induction n with
  | zero => simp [occN]
  | succ n ih =>
    rw [occN_succ]
    rw [List.pairwise_append]
    refine ⟨ih, by split <;> simp, fun a ha b hb => ?_⟩
    have := (occN_mem.1 ha).1
    split at hb
    · simp at hb; omega
    · cases hb
/-- The first place from one on, and the last one below one. -/
def firstE (p t : List Int) (from_ : Int) : Int := match (occs p t).find? (fun (a : Nat) => decide (from_ ≤ (a : Int))) with
  | some a => a
  | none => -1
def lastE (p t : List Int) (before : Int) : Int := match ((occs p t).filter (fun (a : Nat) => decide ((a : Int) < before))).getLast? with
  | some a => a
  | none => -1
/-- Where occurrences end, behind the first so many bytes. -/
def endsE (p t : List Int) (behind n : Nat) : List Int := ((occN p t n).filter (fun (a : Nat) => decide (behind < a + p.length))).map (fun (a : Nat) => (a : Int) + p.length)
theorem endsE_succ (p t : List Int) (b n : Nat) : endsE p t b (n + 1) = endsE p t b n ++ if Occ p t n ∧ b < n + p.length then [(n : Int) + p.length] else [] := by
  unfold endsE
  rw [occN_succ, List.filter_append, List.map_append]
  congr 1
  by_cases h1 : Occ p t n <;> by_cases h2 : b < n + p.length <;> simp [h1, h2]
theorem endsE_le {p t : List Int} {b n m : Nat} (hnm : n ≤ m) (h : ∀ a, n ≤ a → a < m → ¬ Occ p t a) : endsE p t b m = endsE p t b n := by
  rw [endsE, occN_le hnm h]; rfl
theorem endsE_nil {p t : List Int} {b n : Nat} (h : ∀ a, a < n → a + p.length ≤ b) : endsE p t b n = [] := by
  unfold endsE
  rw [List.map_eq_nil_iff, List.filter_eq_nil_iff]
  intro a ha
  have := h a (occN_mem.1 ha).1
  simp; omega
theorem occN_split (p t : List Int) {n m : Nat} (h : n ≤ m) : ∃ r, occN p t m = occN p t n ++ r ∧ ∀ a ∈ r, n ≤ a := by
  induction m with
  | zero => obtain rfl : n = 0 := by omega
            exact ⟨[], by simp, by simp⟩
  | succ m ih =>
    by_cases he : n = m + 1
    · exact ⟨[], by rw [he]; simp, by simp⟩
    · obtain ⟨r, h1, h2⟩ := ih (by omega)
      refine ⟨r ++ if Occ p t m then [m] else [], by rw [occN_succ, h1, List.append_assoc], fun a ha => ?_⟩
      rcases List.mem_append.1 ha with ha | ha
      · exact h2 a ha
      · split at ha
        · simp at ha; omega
        · cases ha
theorem Occ.lt {p t : List Int} {a : Nat} (h : Occ p t a) : a < t.length := by have := h.le; omega
theorem occs_at {p t : List Int} {i : Nat} (h : Occ p t i) : ∃ r, occs p t = occN p t i ++ i :: r ∧ ∀ a ∈ r, i < a := by
  obtain ⟨r, h1, h2⟩ := occN_split p t (n := i + 1) (m := t.length) h.lt
  refine ⟨r, ?_, fun a ha => h2 a ha⟩
  show occN p t t.length = _
  rw [h1, occN_succ, if_pos h, List.append_assoc]
  rfl
theorem firstE_some {p t : List Int} {from_ : Int} {i : Nat} (h : Occ p t i) (hf : from_ ≤ i) (hn : ∀ a, a < i → from_ ≤ (a : Int) → ¬ Occ p t a) : firstE p t from_ = i := by
  obtain ⟨r, h1, _⟩ := occs_at h
  unfold firstE
  rw [h1, List.find?_append]
  have h2 : (occN p t i).find? (fun (a : Nat) => decide (from_ ≤ (a : Int))) = none := by
    rw [List.find?_eq_none]
    intro a ha
    have := occN_mem.1 ha
    simp only [decide_eq_true_eq]
    exact fun h => hn a this.1 h this.2
  rw [h2]
  simp [hf]
theorem firstE_none {p t : List Int} {from_ : Int} (hn : ∀ a : Nat, from_ ≤ (a : Int) → ¬ Occ p t a) : firstE p t from_ = -1 := by
  unfold firstE
  have h2 : (occs p t).find? (fun (a : Nat) => decide (from_ ≤ (a : Int))) = none := by
    rw [List.find?_eq_none]
    intro a ha
    have := occN_mem.1 ha
    simp only [decide_eq_true_eq]
    exact fun h => hn a h this.2
  rw [h2]
theorem lastE_some {p t : List Int} {before : Int} {i : Nat} (h : Occ p t i) (hb : (i : Int) < before) (hn : ∀ a : Nat, i < a → (a : Int) < before → ¬ Occ p t a) : lastE p t before = i := by
  obtain ⟨r, h1, h3⟩ := occs_at h
  have hr : ∀ a ∈ r, Occ p t a := fun a ha => (occN_mem.1 (show a ∈ occs p t by rw [h1]; simp [ha])).2
  unfold lastE
  rw [h1, List.filter_append, List.filter_cons_of_pos (by simpa using hb)]
  have h2 : r.filter (fun (a : Nat) => decide ((a : Int) < before)) = [] := by
    rw [List.filter_eq_nil_iff]
    intro a ha
    simp only [decide_eq_true_eq]
    exact fun h => hn a (h3 a ha) h (hr a ha)
  rw [h2]
  simp
theorem lastE_none {p t : List Int} {before : Int} (hn : ∀ a : Nat, (a : Int) < before → ¬ Occ p t a) : lastE p t before = -1 := by
  unfold lastE
  have h2 : (occs p t).filter (fun (a : Nat) => decide ((a : Int) < before)) = [] := by
    rw [List.filter_eq_nil_iff]
    intro a ha
    simp only [decide_eq_true_eq]
    exact fun h => hn a h (occN_mem.1 ha).2
  rw [h2]
  rfl
/-- The last of a list, or -1. -/
def lastN (l : List Nat) : Int := match l.getLast? with
  | some a => a
  | none => -1
theorem lastE_of {p t : List Int} {before : Int} {ys r : List Nat} (h : occs p t = ys ++ r) (h1 : ∀ a ∈ ys, (a : Int) < before) (h2 : ∀ a ∈ r, before ≤ (a : Int)) : lastE p t before = lastN ys := by
  unfold lastE lastN
  have e1 : ys.filter (fun (a : Nat) => decide ((a : Int) < before)) = ys := List.filter_eq_self.2 fun a ha => by simpa using h1 a ha
  have e2 : r.filter (fun (a : Nat) => decide ((a : Int) < before)) = [] := List.filter_eq_nil_iff.2 fun a ha => by have := h2 a ha; simp; omega
  rw [h, List.filter_append, e1, e2, List.append_nil]
theorem firstE_of {p t : List Int} {from_ : Int} {ys r : List Nat} {a : Nat} (h : occs p t = ys ++ a :: r) (h1 : ∀ a ∈ ys, ¬ from_ ≤ (a : Int)) (h2 : from_ ≤ (a : Int)) : firstE p t from_ = a := by
  unfold firstE
  rw [h, List.find?_append]
  have e1 : ys.find? (fun (a : Nat) => decide (from_ ≤ (a : Int))) = none := by
    rw [List.find?_eq_none]; intro a ha; simpa using h1 a ha
  rw [e1]
  simp [h2]
theorem firstE_of_none {p t : List Int} {from_ : Int} (h1 : ∀ a ∈ occs p t, ¬ from_ ≤ (a : Int)) : firstE p t from_ = -1 := by
  unfold firstE
  have e1 : (occs p t).find? (fun (a : Nat) => decide (from_ ≤ (a : Int))) = none := by
    rw [List.find?_eq_none]; intro a ha; simpa using h1 a ha
  rw [e1]
end Go.Vc
