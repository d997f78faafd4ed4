/-
  Numbers shown: any number.
-/
import Derived.Test.YtffhlgejfgmpiaaGreatDoorShowCalls
namespace Go.Vc
theorem neg_word {x : Nat} (hx : Wd x) : rung (Op.negFloat .f64 x) = rung x ∧ sgn (Op.negFloat .f64 x) = !sgn x ∧ (sgn x = true → Op.negFloat .f64 x = rung x) := by
  have e : Op.negFloat .f64 x = x ^^^ 2 ^ 63 := by
    unfold Op.negFloat
    simp [FloatKind.format, Ieee.Format.signWeight, Ieee.double]
  have h1 : (x ^^^ 2 ^ 63) % 2 ^ 63 = x % 2 ^ 63 := by rw [Nat.xor_mod_two_pow, Nat.mod_self, Nat.xor_zero]
  have h2 : (x ^^^ 2 ^ 63) / 2 ^ 63 = x / 2 ^ 63 ^^^ 1 := by rw [Nat.xor_div_two_pow, Nat.div_self (by decide)]
  have p : (2 ^ 63 : Nat) = 9223372036854775808 := by decide
  rw [e]
  rw [p] at *
  unfold Wd at hx
  have h3 : x / 9223372036854775808 = 0 ∨ x / 9223372036854775808 = 1 := by omega
  have r1 : rung (x ^^^ 9223372036854775808) = rung x := by unfold rung; exact h1
  refine ⟨r1, ?_, ?_⟩
  · unfold sgn
    rw [h2]
    rcases h3 with h3 | h3 <;> rw [h3] <;> rfl
  · intro hs
    unfold sgn at hs
    have h4 : x / 9223372036854775808 = 1 := by
      rcases h3 with h3 | h3
      · rw [h3] at hs; cases hs
      · exact h3
    rw [h4] at h2
    have h5 : (1 ^^^ 1 : Nat) = 0 := by decide
    rw [h5] at h2
    have h6 := Nat.div_add_mod (x ^^^ 9223372036854775808) 9223372036854775808
    rw [h2, h1] at h6
    unfold rung; omega
theorem fval_neg {x : Nat} (hx : Wd x) : fval (Op.negFloat .f64 x) = -(fval x) := by
  obtain ⟨h1, h2, _⟩ := neg_word hx
  unfold fval
  rw [h1, h2]
  cases sgn x <;> simp
theorem W15 : MM 4831355200913801216 = 1000000000000000 * 2 ^ BB := by
  unfold MM
  rw [show mg 4831355200913801216 = 8000000000000000 by decide, show ex 4831355200913801216 = BB - 3 by decide, show (8000000000000000 : Nat) = 1000000000000000 * 2 ^ 3 by decide, Nat.mul_assoc, ← Nat.pow_add, pw (show 3 + (BB - 3) = BB by decide)]
theorem whole_zero : wholeB 0 = true := by
  have e := MM_zero
  have key : ∀ B : Nat, (decide (0 % 2 ^ B = 0) && decide (0 / 2 ^ B < 1000000000000000)) = true := fun B => by simp
  unfold wholeB
  rw [e]
  exact key 1074
theorem flr_of (r : Nat) : MM r / 2 ^ 1074 = flr BB r := by unfold flr BB; exact rfl
/-- What is shown by its digits. -/
theorem whole_iff {r : Nat} : wholeB r = true ↔ r < 4831355200913801216 ∧ r = RR BB (flr BB r * 2 ^ (2 * BB)) := by
  have rep := floor_rep BB_eq r
  have key : MM r = flr BB r * 2 ^ BB ↔ r = RR BB (flr BB r * 2 ^ (2 * BB)) := by
    constructor
    · intro h; exact MM_inj (h.trans rep.symm)
    · intro h; rw [← h] at rep; exact rep
  have hw := W15
  have hb : (1074 : Nat) = BB := rfl
  unfold wholeB
  rw [hb]
  simp only [Bool.and_eq_true, decide_eq_true_eq]
  rw [← key]
  have hd := Nat.div_add_mod (MM r) (2 ^ BB)
  have hp := Nat.two_pow_pos BB
  rw [← MM_iff (r := r), hw]
  unfold flr
  rw [Nat.div_lt_iff_lt_mul hp]
  constructor
  · rintro ⟨a, b⟩
    refine ⟨b, ?_⟩
    rw [a, Nat.add_zero, Nat.mul_comm] at hd
    exact hd.symm
  · rintro ⟨a, b⟩
    refine ⟨?_, a⟩
    rw [Nat.mul_comm] at b
    omega
theorem flr_whole {r : Nat} (h : r < 4831355200913801216) : flr BB r < 1000000000000000 := by
  unfold flr
  rw [Nat.div_lt_iff_lt_mul (Nat.two_pow_pos _), ← W15]
  exact MM_iff.2 h
end Go.Vc
namespace Go.Proofs.YtffhlgejfgmpiaaGreatDoor
open Go.RowKit Go.Vc
variable {w : World} {R : Ending → World → Prop}
theorem isinf1_does {x : Nat} (h : R (.returned (.bool (!nan x && decide (9218868437227405312 ≤ fval x)))) w) : Does Tryz.prog 19 #[.float .f64 x, .int .i64 1] w R := by
  have e : (FloatKind.f64.format.order x 9218868437227405311 == some Ordering.gt) = (!nan x && decide (9218868437227405312 ≤ fval x)) := by
    rw [order_gt, show nan 9218868437227405311 = false by decide, show fval 9218868437227405311 = 9218868437227405311 by decide]
    simp only [Bool.not_false, Bool.and_true]
    congr 1
  refine f19_does _ _ (fls (by decide) (fls (by decide) ?_))
  rw [e]; exact h
theorem isinf2_does {x : Nat} (hx : Wd x) (h : R (.returned (.bool (!nan x && decide (fval x ≤ -9218868437227405312)))) w) : Does Tryz.prog 19 #[.float .f64 x, .int .i64 (-1)] w R := by
  have e : (FloatKind.f64.format.order (Op.negFloat .f64 x) 9218868437227405311 == some Ordering.gt) = (!nan x && decide (fval x ≤ -9218868437227405312)) := by
    have hn : nan (Op.negFloat .f64 x) = nan x := by unfold nan; rw [(neg_word hx).1]
    rw [order_gt, hn, fval_neg hx, show nan 9218868437227405311 = false by decide, show fval 9218868437227405311 = 9218868437227405311 by decide]
    simp only [Bool.not_false, Bool.and_true]
    congr 1
    rw [decide_eq_decide]
    omega
  refine f19_does _ _ (fls (by decide) (tru (by decide) ?_))
  rw [e]; exact h
theorem ptL_len (X : Nat) : (ptL (frL 13 X)).length ≤ 14 := by
  have l1 := frL_len 13 X
  generalize frL 13 X = l at *
  unfold ptL; split
  · simp
  · rw [List.length_cons]; omega
theorem expL_len {e : Int} (h1 : -1074 ≤ e) (h2 : e ≤ 1023) : (expL e).length ≤ 6 := by
  unfold expL
  split
  · have := decL_len_le (n := e.toNat) (k := 4) (by decide) (by omega)
    simp only [List.length_cons]; omega
  · have := decL_len_le (n := (-e).toNat) (k := 4) (by decide) (by omega)
    simp only [List.length_cons]; omega
theorem hexX_len (X : Nat) {e : Int} (h1 : -1074 ≤ e) (h2 : e ≤ 1023) : (hexX X e).length ≤ 30 := by
  have l3 := expL_len h1 h2
  have l2 := ptL_len X
  unfold hexX
  simp only [List.length_cons, List.length_append]; omega
theorem hex_len {r : Nat} (h0 : 0 < r) (h : r < 9218868437227405312) : (hexS r).length ≤ 30 := by
  obtain ⟨e1, e2⟩ := nE_bounds h0 h
  unfold hexS
  exact hexX_len _ e1 e2
theorem showR_hex {r : Nat} (h : r < 9218868437227405312) (hw : wholeB r = false) : showR r = hexS r := by
  unfold showR
  rw [if_neg (by omega), hw, if_neg (by decide)]
theorem showR_whole {r : Nat} (h : r < 9218868437227405312) (hw : wholeB r = true) : showR r = decL (flr BB r) := by
  unfold showR
  rw [if_neg (by omega), hw, if_pos rfl, flr_of]
theorem pts_does (hT : Laid2 w) {r : Nat} (h : r < 9218868437227405312) (m : ByteArray) (hm : m.size ≤ 1) (hw : wholeB r = false) {R : Ending → World → Prop} (hR : ∀ s w', L s = L m ++ showR r → Ext w w' → R (.returned (.string s)) w') :
    Does Tryz.prog 23 #[.float .f64 r] w fun e33 w33 => ∃ s33 : ByteArray, e33 = .returned (.string s33) ∧ ((m.size + s33.size : Nat) : Int) ≤ 9223372036854775807 ∧ R (.returned (.string (m ++ s33))) w33 := by
  have h0 : 0 < r := by
    rcases Nat.eq_zero_or_pos r with rfl | h'
    · rw [whole_zero] at hw; cases hw
    · exact h'
  refine (parts_does hT h0 h).imp ?_
  rintro e w33 ⟨s, rfl, hs, x⟩
  have hz := L_len s
  have hlen := hex_len h0 h
  rw [← hs] at hlen
  refine ⟨s, rfl, by omega, hR _ _ ?_ x⟩
  rw [L_append, hs, showR_hex h hw]
/-- A number from 0 on, with what stands ahead. -/
theorem tail_does (hT : Laid2 w) {r : Nat} (h : r < 9218868437227405312) (m : ByteArray) (hm : m.size ≤ 1) {R : Ending → World → Prop} (hR : ∀ s w', L s = L m ++ showR r → Ext w w' → R (.returned (.string s)) w') :
    Br (FloatKind.f64.format.order r 4831355200913801216 == some Ordering.lt)
    (Does Tryz.prog 21 #[.float .f64 r] w fun e23 w23 =>
    ∃ f23 : Nat, e23 = .returned (.float .f64 f23) ∧ Br (FloatKind.f64.format.order r f23 == some Ordering.eq)
    (∃ n28 : Int, ∃ w28, (convert 22 2 (.float .f64 r)).run Tryz.prog w23 = .ok (.int .i64 n28) w28 ∧ Does Tryz.prog 22 #[.int .i64 n28, .int .i64 10] w28 fun e29 w29 =>
    ∃ s29 : ByteArray, e29 = .returned (.string s29) ∧ ((m.size + s29.size : Nat) : Int) ≤ 9223372036854775807 ∧ R (.returned (.string (m ++ s29))) w29)
    (Does Tryz.prog 23 #[.float .f64 r] w23 fun e33 w33 =>
    ∃ s33 : ByteArray, e33 = .returned (.string s33) ∧ ((m.size + s33.size : Nat) : Int) ≤ 9223372036854775807 ∧ R (.returned (.string (m ++ s33))) w33))
    (Does Tryz.prog 23 #[.float .f64 r] w fun e33 w33 =>
    ∃ s33 : ByteArray, e33 = .returned (.string s33) ∧ ((m.size + s33.size : Nat) : Int) ≤ 9223372036854775807 ∧ R (.returned (.string (m ++ s33))) w33) := by
  have hn := nan_pos (r := r) (by omega)
  have hv := fval_pos (r := r) (by omega)
  have pts := fun (hw : wholeB r = false) => pts_does hT h m hm hw hR
  refine brr (fun q => ?_) fun q => ?_
  · have q : r < 4831355200913801216 := by
      rw [order_lt, hn, hv, show nan 4831355200913801216 = false by decide, show fval 4831355200913801216 = 4831355200913801216 by decide] at q
      simp at q; omega
    have hf := flr_whole q
    have htop := Nat.lt_of_le_of_lt (foi_top BB_eq (N := flr BB r) (by omega)) (show 4890909195324358656 < 9218868437227405312 by decide)
    refine trunc_does h (by omega) ⟨_, rfl, ?_⟩
    have hn2 := nan_pos (r := RR BB (flr BB r * 2 ^ (2 * BB))) (by omega)
    have hv2 := fval_pos (r := RR BB (flr BB r * 2 ^ (2 * BB))) (by omega)
    rw [order_eq, hn, hn2, hv, hv2]
    simp only [Bool.not_false, Bool.true_and]
    refine brr (fun c => ?_) fun c => pts ?_
    · have c : r = RR BB (flr BB r * 2 ^ (2 * BB)) := by have := of_decide_eq_true c; omega
      refine ⟨_, w, f2i64 w (toint_pos BB_eq h (by omega)), (formati_does hT (N := flr BB r) (by omega)).imp ?_⟩
      rintro e w29 ⟨s, rfl, hs, x⟩
      have hz := L_len s
      have := decL_len_le (n := flr BB r) (k := 15) (by decide) (by omega)
      rw [← hs] at this
      refine ⟨s, rfl, by omega, hR _ _ ?_ x⟩
      rw [L_append, hs]
      rw [showR_whole h (whole_iff.2 ⟨q, c⟩)]
    · have c : ¬ r = RR BB (flr BB r * 2 ^ (2 * BB)) := by have := of_decide_eq_false c; omega
      rw [Bool.eq_false_iff]
      intro k
      exact c (whole_iff.1 k).2
  · have q : ¬ r < 4831355200913801216 := by
      rw [order_lt, hn, hv, show nan 4831355200913801216 = false by decide, show fval 4831355200913801216 = 4831355200913801216 by decide] at q
      simp at q; omega
    refine pts ?_
    rw [Bool.eq_false_iff]
    intro k
    exact q (whole_iff.1 k).1
/-- Any number, shown. -/
theorem show_does (hT : Laid2 w) {x : Nat} (hx : Wd x) : Does Tryz.prog 8 #[.float .f64 x] w fun e w' => ∃ s, e = .returned (.string s) ∧ L s = showS x ∧ Ext w w' := by
  refine f8_does _ ?_
  unfold f8_vc
  rw [order_self]
  have m45 : L ({ data := #[45] } : ByteArray) = [45] := by decide
  refine brr (fun hn => ⟨_, rfl, ?_, Upd.refl _ _⟩) fun hn => isinf1_does ⟨_, rfl, ?_⟩
  · unfold showS; rw [hn, if_pos rfl]; decide
  have hr : rung x ≤ 9218868437227405312 := by unfold nan at hn; have := of_decide_eq_false hn; omega
  rw [hn]
  simp only [Bool.not_false, Bool.true_and]
  have hfv : fval x = if sgn x then -(rung x : Int) else (rung x : Int) := rfl
  refine brr (fun q => ⟨_, rfl, ?_, Upd.refl _ _⟩) fun q => isinf2_does hx ⟨_, rfl, ?_⟩
  · have q := of_decide_eq_true q
    rw [hfv] at q
    cases hs : sgn x with
    | true => rw [hs] at q; simp at q; omega
    | false =>
      rw [hs] at q
      simp only [Bool.false_eq_true, if_false] at q
      unfold showS showR
      rw [hn, hs, if_neg (by decide), if_neg (by decide), if_pos (by omega)]
      decide
  rw [hn]
  simp only [Bool.not_false, Bool.true_and]
  refine brr (fun q2 => ⟨_, rfl, ?_, Upd.refl _ _⟩) fun q2 => signbit_does hx ⟨_, rfl, ?_⟩
  · have q2 := of_decide_eq_true q2
    rw [hfv] at q2
    cases hs : sgn x with
    | false => rw [hs] at q2; simp at q2; omega
    | true =>
      rw [hs] at q2
      simp only [if_true] at q2
      unfold showS showR
      rw [hn, hs, if_neg (by decide), if_pos rfl, if_pos (by omega)]
      decide
  have q := of_decide_eq_false q
  have q2 := of_decide_eq_false q2
  have hfin : rung x < 9218868437227405312 := by
    rw [hfv] at q q2
    cases hs : sgn x <;> rw [hs] at q q2 <;> simp at q q2 <;> omega
  have ss : showS x = (if sgn x then [45] else []) ++ showR (rung x) := by unfold showS; rw [hn]; rfl
  refine brr (fun hs => ?_) fun hs => ?_
  · rw [(neg_word hx).2.2 hs]
    refine tail_does hT hfin ({ data := #[45] } : ByteArray) (by decide) (R := fun e w' => ∃ s, e = .returned (.string s) ∧ L s = showS x ∧ Ext w w') ?_
    intro s w' h x'
    exact ⟨s, rfl, by rw [h, ss, hs, m45]; rfl, x'⟩
  · have hxr : x = rung x := by
      rcases sgn_pos hx with ⟨_, b, _⟩ | ⟨b, _⟩
      · exact b.symm
      · rw [hs] at b; cases b
    have hs2 : sgn (rung x) = false := by rw [← hxr]; exact hs
    have hr2 : rung (rung x) = rung x := congrArg rung hxr.symm
    have ss2 : showS (rung x) = [] ++ showR (rung x) := by rw [← hxr] at ss ⊢; rw [ss, hs]; rfl
    rw [hxr]
    refine tail_does hT hfin ({ data := #[] } : ByteArray) (by decide) (R := fun e w' => ∃ s, e = .returned (.string s) ∧ L s = showS (rung x) ∧ Ext w w') ?_
    intro s w' h x'
    exact ⟨s, rfl, by rw [h, ss2]; rfl, x'⟩
end Go.Proofs.YtffhlgejfgmpiaaGreatDoor
