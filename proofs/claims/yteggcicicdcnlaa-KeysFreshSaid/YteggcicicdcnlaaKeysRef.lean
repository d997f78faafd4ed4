/-
  Keys: what each function of the reference does: its parts.
-/
import Derived.Test.YteggcicicdcnlaaKeysCalls2
namespace Go.Vc
open Go.RowKit
theorem Ints.rd {w : World} {ok : Nat → Prop} {p : Option Addr} {xs : List Int} (hx : Ints .u8 w ok p xs) {l : Nat} (hl : l = xs.length) {z : Int} {i : Nat} (hz : z = i) (hi : i < xs.length) {K : Int → Prop} (hk : K xs[i]) :
    ((0 : Int) ≤ z ∧ z < (l : Int)) ∧ ∃ b o, p = some ⟨b, o, none⟩ ∧ ∃ n : Int, w.cell? ⟨b, o + z.toNat, none⟩ = some (.int .u8 n) ∧ K n := by
  obtain ⟨b, o, e, h⟩ := hx.at i hi
  subst hl
  refine ⟨by omega, b, o, e, _, ?_, hk⟩
  rw [hz, Int.toNat_natCast]; exact h
theorem Ints.tail {w : World} {ok : Nat → Prop} {p : Option Addr} {xs : List Int} (hx : Ints .u8 w ok p xs) {l c : Nat} (hl : l = xs.length) (hc : l ≤ c) {i : Nat} (hi : i < xs.length) :
    Ints .u8 w ok (subp p (((i : Int) + 1).toNat) c 1) (xs.drop (i + 1)) ∧ l - ((i : Int) + 1).toNat = (xs.drop (i + 1)).length := by
  have e1 : ((i : Int) + 1).toNat = i + 1 := by omega
  have := hx.sub (i + 1) xs.length c (by omega)
  rw [List.take_length] at this
  exact ⟨by rw [e1]; exact this, by rw [e1, hl, List.length_drop]⟩
theorem br_or0 {p q : Bool} {A C : Prop} (ha : (p || q) = true → A) (hc : (p || q) = false → C) : Br p A (Br q A C) :=
  ⟨fun h => ha (by rw [h, Bool.true_or]), fun h => ⟨fun k => ha (by rw [k, Bool.or_true]), fun k => hc (by rw [h, k]; rfl)⟩⟩
/-! ### What is read, case by case -/
theorem motR_mots {k : Int} (r : List Int) (h : k ∈ mots) : motionR (k :: r) = ([k], [], 1) := by unfold motionR; simp [h]
theorem motR_g1 : motionR [103] = ([], [], 0) := by decide
theorem motR_gg (r : List Int) : motionR (103 :: 103 :: r) = ([103, 103], [], 1) := by unfold motionR; simp [show (103 : Int) ∉ mots by decide]
theorem motR_gx {x : Int} (r : List Int) (h : x ≠ 103) : motionR (103 :: x :: r) = ([], [], 2) := by unfold motionR; simp [show (103 : Int) ∉ mots by decide, h]
theorem motR_f0 {k : Int} (h : k ∈ finds) : motionR [k] = ([], [], 0) := by unfold motionR; simp [(finds_not k h).1, (finds_not k h).2.1, h]
theorem motR_f {k x : Int} (r : List Int) (h : k ∈ finds) : motionR (k :: x :: r) = if ((x :: r).length : Int) < longK x then ([], [], 0) else ([k], x :: r, 1) := by unfold motionR; simp [(finds_not k h).1, (finds_not k h).2.1, h]
theorem motR_m0 {k : Int} (h : k = 39 ∨ k = 96) : motionR [k] = ([], [], 0) := by rcases h with rfl | rfl <;> decide
theorem motR_m {k x : Int} (r : List Int) (h : k = 39 ∨ k = 96) : motionR (k :: x :: r) = if smallK x = true then ([k], x :: r, 1) else ([], [], 2) := by
  rcases h with rfl | rfl
  · unfold motionR; simp [show (39 : Int) ∉ mots by decide, show (39 : Int) ∉ finds by decide]
  · unfold motionR; simp [show (96 : Int) ∉ mots by decide, show (96 : Int) ∉ finds by decide]
theorem motR_no {k : Int} (r : List Int) (h1 : k ∉ mots) (h2 : k ≠ 103) (h3 : k ∉ finds) (h4 : ¬ (k = 39 ∨ k = 96)) : motionR (k :: r) = ([], [], 2) := by unfold motionR; simp [h1, h2, h3, h4]
theorem opR_op {k : Int} (r : List Int) (h : k ∈ opers) : operR (k :: r) = ([k], r, 1) := by unfold operR; simp [h]
theorem opR_no {k : Int} (r : List Int) (h : k ∉ opers) (h1 : k ≠ 103) : operR (k :: r) = ([], k :: r, 2) := by unfold operR; simp [h, h1]
theorem opR_g1 : operR [103] = ([], [103], 0) := by decide
theorem opR_g {x : Int} (r : List Int) : operR (103 :: x :: r) = if x ∈ opers2 then ([103, x], r, 1) else ([], 103 :: x :: r, 2) := by unfold operR; simp [show (103 : Int) ∉ opers by decide]
theorem drop_at {s : ByteArray} {xs : List Int} (hs : L s = xs) {j : Nat} (h : j < xs.length) : xs.drop j = sb s j :: xs.drop (j + 1) := by
  subst hs
  rw [List.drop_eq_getElem_cons h, L_sb h]
end Go.Vc
namespace Go.Proofs.Yteggcicicdcnlaa
open Go.RowKit Go.Vc
section
variable {w : World}
theorem one_str {b : Nat} {w' : World} {n : Int} (h : NewBlk w b [.int .u8 n] 5 w') (hk : InK .u8 n) {K : ByteArray → World → Prop} (k : ∀ s, L s = [n] → K s w') :
    ∃ s, ∃ w'', (convert 27 9 (.slice (some ⟨b, 0, none⟩) 1 1)).run Try.prog w' = .ok (.string s) w'' ∧ K s w'' :=
  ⟨_, w', conv_str Try.underlying27 Try.underlying5 Try.underlying9 (h.ints (k := .u8) [n] rfl (by simpa using hk)) rfl 1, k _ (L_nums (by simpa using hk))⟩
theorem rhas_does {s : ByteArray} (hl : (L s).length ≤ 1000000000) (c : Int) : Does Try.prog 30 #[.string s, .int .u8 c] w fun e w' => e = .returned (.bool (decide (c ∈ L s))) ∧ w' = w := by
  apply f30_does
  have hsz := L_len s
  refine ⟨fun x nl wl => ∃ j : Nat, x = j ∧ nl = (L s).length - j ∧ j ≤ (L s).length ∧ (c ∈ (L s).drop j ↔ c ∈ L s) ∧ wl = w, ⟨_, 0, rfl, rfl, Nat.zero_le _, by simp, rfl⟩, ?_⟩
  rintro _ _ wl ⟨j, rfl, rfl, hj, he, rfl⟩
  refine brr (fun q => ?_) fun q => ?_
  · have q := of_decide_eq_true q
    have hlt : j < (L s).length := by omega
    have hd := drop_at rfl hlt
    refine ⟨⟨by omega, by omega⟩, brr (fun q1 => ?_) fun q1 => ⟨inI64 (by omega) (by omega), _, ?_, j + 1, by omega, rfl, hlt, ?_, rfl⟩⟩
    · rw [hd, show sb s j = c by simpa using q1] at he
      rw [decide_eq_true (he.1 List.mem_cons_self)]
      exact ⟨rfl, rfl⟩
    · omega
    · rw [hd, List.mem_cons] at he
      have hne : c ≠ sb s j := fun e => by rw [e] at q1; simp at q1
      rw [← he]
      exact ⟨.inr, fun h => h.elim (fun e => absurd e hne) id⟩
  · have q := of_decide_eq_false q
    obtain rfl : j = (L s).length := by omega
    rw [List.drop_length] at he
    rw [decide_eq_false (fun h => by have := he.2 h; simp at this)]
    exact ⟨rfl, rfl⟩
/-- The same, for a list that one knows. -/
theorem has_does {s : ByteArray} {xs : List Int} (hs : L s = xs) (hl : xs.length ≤ 100) (c : Int) : Does Try.prog 30 #[.string s, .int .u8 c] w fun e w' => e = .returned (.bool (decide (c ∈ xs))) ∧ w' = w := by
  subst hs
  exact rhas_does (by omega) c
theorem rsmall_does (c : Int) : Does Try.prog 29 #[.int .u8 c] w fun e w' => e = .returned (.bool (smallK c)) ∧ w' = w := by
  apply f29_does
  unfold smallK
  refine brr (fun q => ?_) fun q => ?_
  · have q := of_decide_eq_true q
    exact ⟨by rw [decide_eq_decide.2 (show (c ≤ 122) ↔ (97 ≤ c ∧ c ≤ 122) by omega)], rfl⟩
  · have q := of_decide_eq_false q
    exact ⟨by rw [decide_eq_false (by omega)], rfl⟩
theorem rletter_does (c : Int) : Does Try.prog 31 #[.int .u8 c] w fun e w' => e = .returned (.int .i64 (longK c)) ∧ w' = w := by
  apply f31_does
  have r : ∀ n : Int, longK c = n → (Ending.returned (.int .i64 n) = .returned (.int .i64 (longK c)) ∧ w = w) := fun n h => by rw [h]; exact ⟨rfl, rfl⟩
  unfold longK at r
  repeat' first
    | (refine brr (fun q => ?_) fun q => ?_) <;> simp only [decide_eq_true_eq, decide_eq_false_iff_not] at *
    | exact r _ (by (repeat' split) <;> omega)
theorem rname_does (k : Int) : Does Try.prog 20 #[.int .u8 k] w fun e w' => e = .returned (.bool (nameK k)) ∧ w' = w := by
  apply f20_does
  refine (rsmall_does k).imp ?_
  rintro e w4 ⟨rfl, rfl⟩
  have yes : ∀ b : Bool, (b = true ↔ (97 ≤ k ∧ k ≤ 122 ∨ 65 ≤ k ∧ k ≤ 90 ∨ 48 ≤ k ∧ k ≤ 57 ∨ k = 61 ∨ k = 34)) → (Ending.returned (.bool b) = .returned (.bool (nameK k)) ∧ w4 = w4) := fun b h => by
    refine ⟨?_, rfl⟩
    unfold nameK
    rw [show b = decide (97 ≤ k ∧ k ≤ 122 ∨ 65 ≤ k ∧ k ≤ 90 ∨ 48 ≤ k ∧ k ≤ 57 ∨ k = 61 ∨ k = 34) by cases hb : b <;> simp [hb] at h ⊢ <;> omega]
  refine ⟨_, rfl, brr (fun q => yes _ ?_) fun q => ?_⟩
  · have q := of_decide_eq_true q
    exact ⟨fun _ => .inl q, fun _ => rfl⟩
  have q : ¬ (97 ≤ k ∧ k ≤ 122) := of_decide_eq_false q
  have fin : ¬ (65 ≤ k ∧ k ≤ 90) → Br (decide (k ≥ 48)) (Br (decide (k ≤ 57)) (Ending.returned (.bool true) = .returned (.bool (nameK k)) ∧ w4 = w4) (Br (k == 61) (Ending.returned (.bool true) = .returned (.bool (nameK k)) ∧ w4 = w4) (Ending.returned (.bool (k == 34)) = .returned (.bool (nameK k)) ∧ w4 = w4)))
      (Br (k == 61) (Ending.returned (.bool true) = .returned (.bool (nameK k)) ∧ w4 = w4) (Ending.returned (.bool (k == 34)) = .returned (.bool (nameK k)) ∧ w4 = w4)) := fun h => by
    have fin2 : ¬ (48 ≤ k ∧ k ≤ 57) → Br (k == 61) (Ending.returned (.bool true) = .returned (.bool (nameK k)) ∧ w4 = w4) (Ending.returned (.bool (k == 34)) = .returned (.bool (nameK k)) ∧ w4 = w4) := fun h2 => by
      refine brr (fun q1 => yes _ ?_) fun q1 => yes _ ?_
      · have q1 : k = 61 := by simpa using q1
        exact ⟨fun _ => by omega, fun _ => rfl⟩
      · have q1 : k ≠ 61 := by simpa using q1
        rw [beq_iff_eq]
        omega
    refine brr (fun q1 => brr (fun q2 => yes _ ⟨fun _ => ?_, fun _ => rfl⟩) fun q2 => fin2 ?_) fun q1 => fin2 ?_
    · have q1 := of_decide_eq_true q1
      have q2 := of_decide_eq_true q2
      omega
    · have q2 := of_decide_eq_false q2
      omega
    · have q1 := of_decide_eq_false q1
      omega
  refine brr (fun q1 => brr (fun q2 => yes _ ⟨fun _ => ?_, fun _ => rfl⟩) fun q2 => fin ?_) fun q1 => fin ?_
  · have q1 := of_decide_eq_true q1
    have q2 := of_decide_eq_true q2
    omega
  · have q2 := of_decide_eq_false q2
    omega
  · have q1 := of_decide_eq_false q1
    omega
theorem countG_ge : ∀ (t : List Int) (n : Int), 0 ≤ n → n ≤ 99 → 0 ≤ (countG n t).1 ∧ (countG n t).1 ≤ 99
  | [], n, h, h' => ⟨h, h'⟩
  | x :: r, n, h, h' => by
    unfold countG
    split
    · have := min99_le (n := n * 10 + (x - 48)) (by omega)
      exact countG_ge r _ this.1 this.2
    · exact ⟨h, h'⟩
theorem countR_ge (t : List Int) : 0 ≤ (countR t).1 ∧ (countR t).1 ≤ 99 := by
  unfold countR
  split
  · simp
  · exact countG_ge t 0 (by decide) (by decide)
end
section
variable {w : World} {ok : Nat → Prop} {p : Option Addr} {xs : List Int} {l c : Nat}
theorem rcount_does (hx : Ints .u8 w ok p xs) (hl : l = xs.length) {i : Nat} (hi : i ≤ xs.length) (hs : xs.length ≤ 1000001) :
    Does Try.prog 21 #[.slice p l c, .int .i64 i] w fun e w' => (∃ k : Nat, e = .returned (.tuple #[.int .i64 (countR (xs.drop i)).1, .int .i64 k]) ∧ k ≤ xs.length ∧ xs.drop k = (countR (xs.drop i)).2) ∧ w' = w := by
  apply f21_does
  have hr : ∀ {z : Int}, z ≥ 0 → z ≤ 99 → ∀ y, InK .u8 y → 48 ≤ y → y ≤ 57 → InK .i64 (z * 10) ∧ IntKind.wrap .u8 (y - 48) = y - 48 ∧ InK .i64 (z * 10 + (y - 48)) := fun h0 h9 y hy h1 h2 =>
    ⟨inI64 (by omega) (by omega), wrap_in ⟨by show (0 : Int) ≤ _; omega, by show _ ≤ (255 : Int); omega⟩, inI64 (by omega) (by omega)⟩
  -- the loop, from the place on
  have loop : (xs.drop i).head? ≠ some 48 → ∃ I4 : Int → Int → Nat → World → Prop, (∃ nl4, I4 i 0 nl4 w) ∧ ∀ x1 : Int, ∀ x6 : Int, ∀ (nl4 : Nat) (wl4 : World), I4 x1 x6 nl4 wl4 →
      Br (decide (x1 < ((l : Int))))
      (((0 : Int) ≤ x1 ∧ x1 < (l : Int)) ∧ ∃ b26 o26, p = some ⟨b26, o26, none⟩ ∧ ∃ n27 : Int, wl4.cell? ⟨b26, o26 + (x1).toNat, none⟩ = some (.int .u8 n27) ∧ Br (decide (n27 ≥ 48))
      (((0 : Int) ≤ x1 ∧ x1 < (l : Int)) ∧ ∃ b33 o33, p = some ⟨b33, o33, none⟩ ∧ ∃ n34 : Int, wl4.cell? ⟨b33, o33 + (x1).toNat, none⟩ = some (.int .u8 n34) ∧ Br (decide (n34 ≤ 57))
      (InK .i64 (x6 * 10) ∧ ((0 : Int) ≤ x1 ∧ x1 < (l : Int)) ∧ ∃ b41 o41, p = some ⟨b41, o41, none⟩ ∧ ∃ n42 : Int, wl4.cell? ⟨b41, o41 + (x1).toNat, none⟩ = some (.int .u8 n42) ∧ InK .i64 (IntKind.wrap .u8 (n42 - 48)) ∧ InK .i64 ((x6 * 10) + (IntKind.wrap .u8 (n42 - 48))) ∧ InK .i64 (x1 + 1) ∧ ∃ ml4, ml4 < nl4 ∧ I4 (x1 + 1) (if 99 < (x6 * 10) + (IntKind.wrap .u8 (n42 - 48)) then 99 else (x6 * 10) + (IntKind.wrap .u8 (n42 - 48))) ml4 wl4)
      ((∃ k : Nat, Ending.returned (.tuple #[.int .i64 x6, .int .i64 x1]) = .returned (.tuple #[.int .i64 (countR (xs.drop i)).1, .int .i64 k]) ∧ k ≤ xs.length ∧ xs.drop k = (countR (xs.drop i)).2) ∧ wl4 = w))
      ((∃ k : Nat, Ending.returned (.tuple #[.int .i64 x6, .int .i64 x1]) = .returned (.tuple #[.int .i64 (countR (xs.drop i)).1, .int .i64 k]) ∧ k ≤ xs.length ∧ xs.drop k = (countR (xs.drop i)).2) ∧ wl4 = w))
      ((∃ k : Nat, Ending.returned (.tuple #[.int .i64 x6, .int .i64 x1]) = .returned (.tuple #[.int .i64 (countR (xs.drop i)).1, .int .i64 k]) ∧ k ≤ xs.length ∧ xs.drop k = (countR (xs.drop i)).2) ∧ wl4 = w) := fun hh => by
    have hcr : countR (xs.drop i) = countG 0 (xs.drop i) := by unfold countR; rw [if_neg hh]
    rw [hcr]
    refine ⟨fun x1 x6 nl wl => ∃ j : Nat, x1 = j ∧ nl = xs.length - j ∧ j ≤ xs.length ∧ 0 ≤ x6 ∧ x6 ≤ 99 ∧ countG x6 (xs.drop j) = countG 0 (xs.drop i) ∧ wl = w, ⟨_, i, rfl, rfl, hi, by decide, by decide, rfl, rfl⟩, ?_⟩
    rintro _ n _ wl ⟨j, rfl, rfl, hj, hn0, hn9, he, rfl⟩
    have out : (countG 0 (xs.drop i)) = (n, xs.drop j) → (∃ k : Nat, Ending.returned (.tuple #[.int .i64 n, .int .i64 j]) = .returned (.tuple #[.int .i64 (countG 0 (xs.drop i)).1, .int .i64 k]) ∧ k ≤ xs.length ∧ xs.drop k = (countG 0 (xs.drop i)).2) ∧ wl = wl := fun h => by
      rw [h]; exact ⟨⟨j, rfl, hj, rfl⟩, rfl⟩
    refine brr (fun q => ?_) fun q => ?_
    · have q := of_decide_eq_true q
      have hlt : j < xs.length := by omega
      have hd := List.drop_eq_getElem_cons hlt
      have hk := hx.inK xs[j] (List.getElem_mem hlt)
      refine hx.rd hl rfl hlt (brr (fun q1 => hx.rd hl rfl hlt (brr (fun q2 => ?_) fun q2 => ?_)) fun q1 => ?_)
      · have q1 := of_decide_eq_true q1
        have q2 := of_decide_eq_true q2
        obtain ⟨a1, a2, a3⟩ := hr hn0 hn9 xs[j] hk q1 q2
        refine ⟨a1, hx.rd hl rfl hlt ?_⟩
        rw [a2]
        refine ⟨inI64 (by omega) (by omega), a3, inI64 (by omega) (by omega), _, ?_, j + 1, by omega, rfl, hlt, ?_, ?_, ?_, rfl⟩
        · omega
        · split <;> omega
        · split <;> omega
        · rw [← he, hd]
          show countG (min99 (n * 10 + (xs[j] - 48))) _ = (if 48 ≤ xs[j] ∧ xs[j] ≤ 57 then countG (min99 (n * 10 + (xs[j] - 48))) _ else _)
          rw [if_pos ⟨q1, q2⟩]
      · have q2 := of_decide_eq_false q2
        refine out ?_
        rw [← he, hd]
        show (if _ then _ else _) = _
        rw [if_neg (by omega)]
      · have q1 := of_decide_eq_false q1
        refine out ?_
        rw [← he, hd]
        show (if _ then _ else _) = _
        rw [if_neg (by omega)]
    · have q := of_decide_eq_false q
      obtain rfl : j = xs.length := by omega
      refine out ?_
      rw [← he, List.drop_length]; rfl
  refine brr (fun q => ?_) fun q => ?_
  · have q := of_decide_eq_true q
    have hlt : i < xs.length := by omega
    have hd := List.drop_eq_getElem_cons hlt
    refine hx.rd hl rfl hlt (brr (fun q1 => ?_) fun q1 => loop ?_)
    · have q1 : xs[i] = 48 := by simpa using q1
      have : countR (xs.drop i) = (0, xs.drop i) := by unfold countR; rw [if_pos (by rw [hd, q1]; rfl)]
      rw [this]
      exact ⟨⟨i, rfl, hi, rfl⟩, rfl⟩
    · rw [hd]
      show ¬ (some xs[i] = some 48)
      have q1 : xs[i] ≠ 48 := by simpa using q1
      exact fun e => q1 (Option.some.inj e)
  · have q := of_decide_eq_false q
    refine loop ?_
    rw [List.drop_of_length_le (by omega)]
    simp
/-- What is read, with what is behind. -/
def RdQ (w : World) (ok : Nat → Prop) (r : List Int × List Int × Int) (e : Ending) (w' : World) : Prop :=
  ∃ s p' l' c', e = .returned (.tuple #[.string s, .slice p' l' c', .int .i64 r.2.2]) ∧ L s = r.1 ∧ l' = r.2.1.length ∧ Ints .u8 w' ok p' r.2.1 ∧ Ext w w'
theorem rdq_none {s : ByteArray} {n : Int} {w' : World} {xs : List Int} (hs : L s = xs) (x : Ext w w') : RdQ w ok (xs, [], n) (.returned (.tuple #[.string s, .slice none 0 0, .int .i64 n])) w' := ⟨_, _, _, _, rfl, hs, rfl, RS.nil, x⟩
theorem rmotion_does (hx : Ints .u8 w ok p xs) (hl : l = xs.length) (hc : l ≤ c) {i : Nat} (hi : i ≤ xs.length) (hs : xs.length ≤ 1000001) :
    Does Try.prog 24 #[.slice p l c, .int .i64 i] w (RdQ w ok (motionR (xs.drop i))) := by
  apply f24_does
  refine brr (fun q => ?_) fun q => ?_
  · have q := of_decide_eq_true q
    rw [List.drop_of_length_le (by omega)]
    exact rdq_none rfl (Upd.refl _ _)
  have q := of_decide_eq_false q
  have hlt : i < xs.length := by omega
  rw [List.drop_eq_getElem_cons hlt]
  obtain ⟨hr, hrl⟩ := hx.tail hl hc hlt
  have hk := hx.inK xs[i] (List.getElem_mem hlt)
  refine hx.rd hl rfl hlt ?_
  generalize xs[i] = k at hk ⊢
  have hb : (((0 : Int) ≤ (i : Int) + 1) ∧ ((i : Int) + 1) ≤ (l : Int)) := by omega
  generalize xs.drop (i + 1) = r at hr hrl ⊢
  refine ⟨inI64 (by omega) (by omega), hb, fun _ wc => wc = w ∧ motionR (k :: r) = ([], [], 2), (has_does (xs := mots) (by decide) (by decide) k).imp ?_, ?_⟩
  · rintro e w23 ⟨rfl, rfl⟩
    refine ⟨_, rfl, brr (fun q1 b25 w25 hb25 => one_str hb25 hk fun s hs => ?_) fun q1 => ?_⟩
    · rw [motR_mots r (of_decide_eq_true q1)]
      exact rdq_none hs hb25.ext
    have q1 := of_decide_eq_false q1
    refine brr (fun q2 => ?_) fun q2 => ?_
    · obtain rfl : k = 103 := by simpa using q2
      cases r with
      | nil =>
        rw [motR_g1]
        exact tru (by rw [hrl]; rfl) (rdq_none rfl (Upd.refl _ _))
      | cons x r' =>
        refine fls (by rw [hrl]; simp; omega) (hr.rd hrl rfl (Nat.zero_lt_succ _) (brr (fun q3 => ?_) fun q3 => ?_))
        · obtain rfl : x = 103 := by simpa using q3
          rw [motR_gg]
          exact rdq_none rfl (Upd.refl _ _)
        · have q3 : x ≠ 103 := by simpa using q3
          exact ⟨0, rfl, motR_gx r' q3⟩
    have q2 : k ≠ 103 := by simpa using q2
    refine (has_does (xs := finds) (by decide) (by decide) k).imp ?_
    rintro e w39 ⟨rfl, rfl⟩
    refine ⟨_, rfl, brr (fun q3 => ?_) fun q3 => ?_⟩
    · have q3 := of_decide_eq_true q3
      cases r with
      | nil =>
        rw [motR_f0 q3]
        exact tru (by rw [hrl]; rfl) (rdq_none rfl (Upd.refl _ _))
      | cons x r' =>
        refine fls (by rw [hrl]; simp; omega) (hr.rd hrl rfl (Nat.zero_lt_succ _) ((rletter_does x).imp ?_))
        rintro e w49 ⟨rfl, rfl⟩
        rw [motR_f r' q3]
        refine ⟨_, rfl, brr (fun q4 => ?_) fun q4 b53 w53 hb53 => one_str hb53 hk fun s hs => ?_⟩
        · have q4 := of_decide_eq_true q4
          rw [hrl] at q4
          rw [if_pos q4]
          exact rdq_none rfl (Upd.refl _ _)
        · have q4 := of_decide_eq_false q4
          rw [hrl] at q4
          rw [if_neg q4]
          exact ⟨_, _, _, _, rfl, hs, hrl, hr.ext hb53.ext, hb53.ext⟩
    have q3 := of_decide_eq_false q3
    refine br_or0 (fun q4 => ?_) fun q4 => ?_
    · have q4 : k = 39 ∨ k = 96 := by simpa using q4
      cases r with
      | nil =>
        rw [motR_m0 q4]
        exact tru (by rw [hrl]; rfl) (rdq_none rfl (Upd.refl _ _))
      | cons x r' =>
        refine fls (by rw [hrl]; simp; omega) (hr.rd hrl rfl (Nat.zero_lt_succ _) ((rsmall_does x).imp ?_))
        rintro e w49 ⟨rfl, rfl⟩
        rw [motR_m r' q4]
        refine ⟨_, rfl, brr (fun q4 b53 w53 hb53 => one_str hb53 hk fun s hs => ?_) fun q4 => ⟨0, rfl, ?_⟩⟩
        · rw [if_pos q4]
          exact ⟨_, _, _, _, rfl, hs, hrl, hr.ext hb53.ext, hb53.ext⟩
        · rw [if_neg (by rw [show smallK x = false from q4]; decide)]
    · have q4 : ¬ (k = 39 ∨ k = 96) := by simpa using q4
      exact ⟨0, rfl, motR_no r q1 q2 q3 q4⟩
  · rintro _ wc ⟨rfl, h⟩
    rw [h]
    exact rdq_none rfl (Upd.refl _ _)
/-- An operator that is read. -/
def OpQ (w : World) (xs : List Int) (r : List Int × List Int × Int) (e : Ending) (w' : World) : Prop :=
  ∃ s, ∃ k : Nat, e = .returned (.tuple #[.string s, .int .i64 k, .int .i64 r.2.2]) ∧ L s = r.1 ∧ k ≤ xs.length ∧ xs.drop k = r.2.1 ∧ Ext w w'
theorem roperator_does (hx : Ints .u8 w ok p xs) (hl : l = xs.length) {i : Nat} (hi : i < xs.length) (hs : xs.length ≤ 1000001) :
    Does Try.prog 22 #[.slice p l c, .int .i64 i] w (OpQ w xs (operR (xs.drop i))) := by
  apply f22_does
  have hd := List.drop_eq_getElem_cons hi
  have hk := hx.inK xs[i] (List.getElem_mem hi)
  refine hx.rd hl rfl hi ((has_does (xs := opers) (by decide) (by decide) _).imp ?_)
  rintro e w12 ⟨rfl, rfl⟩
  refine ⟨_, rfl, brr (fun q => hx.rd hl rfl hi fun b17 w17 hb17 => one_str hb17 hk fun s hs => ⟨inI64 (by omega) (by omega), ?_⟩) fun q => hx.rd hl rfl hi ?_⟩
  · rw [hd, opR_op _ (of_decide_eq_true q)]
    exact ⟨s, i + 1, rfl, hs, hi, rfl, hb17.ext⟩
  have q := of_decide_eq_false q
  refine brr (fun q1 => ?_) fun q1 => ⟨inI64 (by omega) (by omega), ?_⟩
  · have q1 : xs[i] ≠ 103 := by simpa using q1
    have e1 : operR (xs.drop i) = ([], xs.drop i, 2) := by rw [hd, opR_no _ q q1]
    rw [e1]
    exact ⟨_, i, rfl, rfl, Nat.le_of_lt hi, rfl, Upd.refl _ _⟩
  have q1 : xs[i] = 103 := by simpa using q1
  rw [q1] at hd
  refine brr (fun q2 => ?_) fun q2 => ⟨inI64 (by omega) (by omega), ?_⟩
  · have q2 := of_decide_eq_true q2
    have hn : xs.drop (i + 1) = [] := List.drop_of_length_le (by omega)
    rw [hn] at hd
    have e1 : operR (xs.drop i) = ([], xs.drop i, 0) := by rw [hd, opR_g1]
    rw [e1]
    exact ⟨_, i, rfl, rfl, Nat.le_of_lt hi, rfl, Upd.refl _ _⟩
  · have q2 := of_decide_eq_false q2
    have hi1 : i + 1 < xs.length := by omega
    have hd1 := List.drop_eq_getElem_cons hi1
    have hk1 := hx.inK xs[i + 1] (List.getElem_mem hi1)
    refine hx.rd hl (i := i + 1) (by omega) hi1 ((has_does (xs := opers2) (by decide) (by decide) _).imp ?_)
    rintro e w41 ⟨rfl, rfl⟩
    rw [hd1] at hd
    refine ⟨_, rfl, brr (fun q3 => ⟨inI64 (by omega) (by omega), hx.rd hl (i := i + 1) (by omega) hi1 fun b47 w47 hb47 => ?_⟩) fun q3 => ?_⟩
    · have hb : ∀ x ∈ [103, xs[i + 1]], InK .u8 x := by
        intro x hx
        rcases List.mem_cons.1 hx with rfl | hx
        · exact ⟨by decide, by decide⟩
        · rw [List.mem_singleton.1 hx]; exact hk1
      have hI := hb47.ints (k := .u8) [103, xs[i + 1]] rfl hb
      refine ⟨_, w47, conv_str Try.underlying27 Try.underlying5 Try.underlying9 hI rfl 2, inI64 (by omega) (by omega), ?_⟩
      have e1 : operR (xs.drop i) = ([103, xs[i + 1]], xs.drop (i + 2), 1) := by rw [hd, opR_g, if_pos (of_decide_eq_true q3)]
      rw [e1]
      exact ⟨_, i + 2, rfl, L_nums hb, hi1, rfl, hb47.ext⟩
    · have e1 : operR (xs.drop i) = ([], xs.drop i, 2) := by rw [hd, opR_g, if_neg (of_decide_eq_false q3)]
      rw [e1]
      exact ⟨_, i, rfl, rfl, Nat.le_of_lt hi, rfl, Upd.refl _ _⟩
end
end Go.Proofs.Yteggcicicdcnlaa
