/-
  Numbers with a point: whole parts; a place.
-/
import Derived.Test.YtffhlgejfgmpiaaGreatDoorVX
import Derived.Test.YtffhlgejfgmpiaaGreatDoorFltRnd2
import Derived.Test.YtffhlgejfgmpiaaGreatDoorFltCalls
import Derived.Test.YtffhlgejfgmpiaaGreatDoorFltOps
import Derived.Laws.Externs
namespace Go.Vc
open Go.RowKit
def BB : Nat := 1074
theorem BB_eq : BB = 1074 := rfl
/-- A whole number as one with a point; a share of it. -/
def wholeR (n : Nat) : Nat := RR BB (n * 2 ^ (2 * BB))
def partR (n x : Nat) : Nat := RR BB (MM (wholeR n) * MM x)
/-- A place. -/
def placeN (x : Nat) (n : Int) : Int :=
  if nan x = true ∨ n < 0 then 0 else if fval x ≤ 0 then 0 else if 4607182418800017408 ≤ fval x then n else (flr BB (partR n.toNat x) : Nat)
theorem le_zero {x : Nat} (h : nan x = false) : ((FloatKind.f64.format.order x 0 == some Ordering.lt) || (FloatKind.f64.format.order x 0 == some Ordering.eq)) = decide (fval x ≤ 0) := by
  have z0 : nan 0 = false := by decide
  have v0 : fval 0 = 0 := by decide
  rw [order_lt, order_eq, h, z0, v0]
  simp only [Bool.not_false, Bool.true_and]
  rw [Bool.eq_iff_iff]; simp; omega
theorem ge_one {x : Nat} (h : nan x = false) : ((FloatKind.f64.format.order x 4607182418800017408 == some Ordering.gt) || (FloatKind.f64.format.order x 4607182418800017408 == some Ordering.eq)) = decide (4607182418800017408 ≤ fval x) := by
  have z0 : nan 4607182418800017408 = false := by decide
  have v0 : fval 4607182418800017408 = 4607182418800017408 := by decide
  rw [order_gt, order_eq, h, z0, v0]
  simp only [Bool.not_false, Bool.true_and]
  rw [Bool.eq_iff_iff]; simp; omega
theorem mid_word {x : Nat} (hx : Wd x) (h0 : 0 < fval x) (h1 : fval x < 4607182418800017408) : x < 4607182418800017408 ∧ fval x = x := by
  unfold fval at h0 h1 ⊢
  rcases sgn_pos hx with ⟨s, r, b⟩ | ⟨s, r, b⟩ <;> rw [s] at h0 h1 ⊢ <;> simp only [Bool.false_eq_true, if_true, if_false] at h0 h1 ⊢ <;> omega
theorem RR_zero (B : Nat) : RR B 0 = 0 := by
  have := RR_sub B (m := 0) (by decide)
  rwa [Nat.zero_mul] at this
theorem MM_zero : MM 0 = 0 := by decide
/-- What the steps to a place give. -/
theorem mid_steps {n : Nat} (h : n < 9223372036854775808) {x : Nat} (hx : x < 4607182418800017408) :
    wholeR n < 9218868437227405312 ∧ partR n x < 9218868437227405312 ∧ flr BB (partR n x) ≤ n ∧ floatOfInt .f64 (n : Int) = wholeR n ∧ floatBits .mul .f64 (wholeR n) x = some (partR n x) ∧
      floatToIntVal .f64 (partR n x) .i64 = some (flr BB (partR n x) : Int) ∧ ((n = 0 ∧ wholeR n = 0 ∧ partR n x = 0) ∨ partR n x < wholeR n) := by
  have hr : wholeR n < 9218868437227405312 := Nat.lt_of_le_of_lt (foi_top BB_eq h) (by decide)
  have key : partR n x < 9218868437227405312 ∧ flr BB (partR n x) ≤ n ∧ ((n = 0 ∧ wholeR n = 0 ∧ partR n x = 0) ∨ partR n x < wholeR n) := by
    by_cases h0 : n = 0
    · subst h0
      have e1 : wholeR 0 = 0 := by unfold wholeR; rw [Nat.zero_mul, RR_zero]
      have e2 : partR 0 x = 0 := by unfold partR; rw [e1, MM_zero, Nat.zero_mul, RR_zero]
      rw [e1, e2]
      refine ⟨by decide, ?_, .inl ⟨rfl, rfl, rfl⟩⟩
      unfold flr; rw [MM_zero, Nat.zero_div]; exact Nat.le_refl _
    · obtain ⟨h1, h2⟩ := share BB_eq (N := n) (by omega) h hx
      have h1 : partR n x < wholeR n := h1
      exact ⟨by omega, Nat.le_of_lt h2, .inr h1⟩
  obtain ⟨k1, k2, k3⟩ := key
  exact ⟨hr, k1, k2, foi_val BB_eq h, mul_pos' BB_eq hr (by omega) k1, toint_pos BB_eq k1 (by omega), k3⟩
theorem floor_steps {t n : Nat} (hn : n < 9223372036854775808) (hf : flr BB t ≤ n) : RR BB (flr BB t * 2 ^ (2 * BB)) < 9218868437227405312 ∧ floatToIntVal .f64 (RR BB (flr BB t * 2 ^ (2 * BB))) .i64 = some (flr BB t : Int) := by
  have h1 := Nat.lt_of_le_of_lt (foi_top BB_eq (N := flr BB t) (by omega)) (show 4890909195324358656 < 9218868437227405312 by decide)
  refine ⟨h1, ?_⟩
  rw [toint_pos BB_eq h1 (by rw [floor_flr BB_eq]; omega), floor_flr BB_eq]
theorem placeN_bounds {x : Nat} (hx : Wd x) {n : Int} (h0 : 0 ≤ n) (h1 : n < 9223372036854775808) : 0 ≤ placeN x n ∧ placeN x n ≤ n := by
  unfold placeN
  split
  · omega
  · split
    · omega
    · split
      · omega
      · rename_i a b c
        obtain ⟨k, rfl⟩ : ∃ k : Nat, n = k := ⟨n.toNat, by omega⟩
        have := (mid_steps (n := k) (by omega) (mid_word hx (by omega) (by omega)).1).2.2.1
        rw [Int.toNat_natCast]
        omega
theorem placeN_mono {x y : Nat} (hx : Wd x) (hy : Wd y) (nx : nan x = false) (ny : nan y = false) {n : Int} (h0 : 0 ≤ n) (h1 : n < 9223372036854775808) (h : ¬ fcmp x y > 0) : placeN x n ≤ placeN y n := by
  have hv : fval x ≤ fval y := by
    unfold fcmp at h
    rw [nx, ny] at h
    simp only [Bool.or_self, Bool.false_eq_true, if_false] at h
    split at h
    · omega
    · unfold cmpK at h
      (repeat' split at h) <;> omega
  have bx := placeN_bounds hx h0 h1
  have by' := placeN_bounds hy h0 h1
  have c : ¬ (nan x = true ∨ n < 0) := by rw [nx]; simp; exact h0
  have d : ¬ (nan y = true ∨ n < 0) := by rw [ny]; simp; exact h0
  by_cases a1 : fval x ≤ 0
  · have e : placeN x n = 0 := by unfold placeN; rw [if_neg c, if_pos a1]
    rw [e]; exact by'.1
  · by_cases a2 : 4607182418800017408 ≤ fval y
    · have e : placeN y n = n := by unfold placeN; rw [if_neg d, if_neg (by omega), if_pos a2]
      rw [e]; exact bx.2
    · have e1 : placeN x n = (flr BB (partR n.toNat x) : Nat) := by unfold placeN; rw [if_neg c, if_neg a1, if_neg (by omega)]
      have e2 : placeN y n = (flr BB (partR n.toNat y) : Nat) := by unfold placeN; rw [if_neg d, if_neg (by omega), if_neg a2]
      rw [e1, e2]
      have m1 := mid_word hx (by omega) (by omega)
      have m2 := mid_word hy (by omega) (by omega)
      have hxy : x ≤ y := by omega
      have : flr BB (partR n.toNat x) ≤ flr BB (partR n.toNat y) := by
        refine flr_mono BB (RR_mono BB (Nat.mul_le_mul_left _ ?_))
        rcases Nat.lt_or_ge x y with h' | h'
        · exact Nat.le_of_lt (MM_lt h')
        · rw [show x = y by omega]; exact Nat.le_refl _
      omega
theorem encode_num (s : Bool) (m : Nat) (i : Int) : FloatKind.f64.encode (.number s m i) = Ieee.double.nearest s m i := by
  unfold FloatKind.encode FloatKind.format Ieee.Format.write
  rfl
theorem toIntegral_num {name : String} {way : Ieee.Toward} {t : Nat} {s : Bool} {m : Nat} {i : Int} (e : FloatKind.f64.decode t = .number s m i) : Extern.MathFloor.toIntegral name way #[.float .f64 t] = pure (.float .f64 (FloatKind.f64.encode ((Ieee.Datum.number s m i).integral way))) := by
  show (match FloatKind.f64.decode t with | .nan s' t' => _ | d => pure (Value.float .f64 (FloatKind.f64.encode (d.integral way)))) = _
  rw [e]
theorem floor_extern {t : Nat} (h : t < 9218868437227405312) (hf : flr BB t < 9223372036854775808) : Extern.MathFloor.toIntegral "math.archFloor" .down #[.float .f64 t] = pure (.float .f64 (RR BB (flr BB t * 2 ^ (2 * BB)))) := by
  have e : (FloatKind.f64.encode (((Ieee.Datum.number false (mg t) (-(BB : Int) + (ex t : Int)))).integral .down)) = RR BB (flr BB t * 2 ^ (2 * BB)) := by
    rw [integral_num, cut_flr BB_eq (.inr rfl), encode_num, near_eq BB_eq _ _ _ (by omega), show ((0 : Int) + 2 * BB).toNat = 2 * BB by omega, Nat.min_eq_left (Nat.le_trans (foi_top BB_eq hf) (by decide)), word_false]
  have e2 : FloatKind.f64.decode t = .number false (mg t) (-(BB : Int) + (ex t : Int)) := by rw [decode_f64, read_pos BB_eq h]
  rw [toIntegral_num e2, e]
theorem trunc_extern {t : Nat} (h : t < 9218868437227405312) (hf : flr BB t < 9223372036854775808) : Extern.MathFloor.toIntegral "math.archTrunc" .zero #[.float .f64 t] = pure (.float .f64 (RR BB (flr BB t * 2 ^ (2 * BB)))) := by
  have e : (FloatKind.f64.encode (((Ieee.Datum.number false (mg t) (-(BB : Int) + (ex t : Int)))).integral .zero)) = RR BB (flr BB t * 2 ^ (2 * BB)) := by
    rw [integral_num, cut_flr BB_eq (.inl rfl), encode_num, near_eq BB_eq _ _ _ (by omega), show ((0 : Int) + 2 * BB).toNat = 2 * BB by omega, Nat.min_eq_left (Nat.le_trans (foi_top BB_eq hf) (by decide)), word_false]
  have e2 : FloatKind.f64.decode t = .number false (mg t) (-(BB : Int) + (ex t : Int)) := by rw [decode_f64, read_pos BB_eq h]
  rw [toIntegral_num e2, e]
end Go.Vc
namespace Go.Proofs.YtffhlgejfgmpiaaGreatDoor
open Go.RowKit Go.Vc
variable {w : World} {R : Ending → World → Prop}
theorem trunc_does {t : Nat} (ht : t < 9218868437227405312) (hf : flr BB t < 9223372036854775808) (h : R (.returned (.float .f64 (RR BB (flr BB t * 2 ^ (2 * BB))))) w) : Does Tryz.prog 21 #[.float .f64 t] w R := by
  refine f21_does _ ?_
  refine .inr ⟨by kernel_rfl, _, w, ?_, ⟨_, rfl, h⟩⟩
  rw [run_callFunc_extern Tryz.func39 (by kernel_rfl) (by kernel_rfl) (by kernel_rfl) (e := Extern.MathFloor.toIntegral "math.archTrunc" .zero) (by kernel_rfl)]
  rw [trunc_extern ht hf]
  rfl
theorem ci2f {n : Int} (w : World) : (convert 3 22 (.int .i64 n)).run Tryz.prog w = .ok (.float .f64 (floatOfInt .f64 n)) w := run_convert_int_float w _ _ _ _ _ (by kernel_rfl) Tryz.underlying22
theorem cf2i {t : Nat} {n : Int} (w : World) (h : floatToIntVal .f64 t .i64 = some n) : (convert 22 3 (.float .f64 t)).run Tryz.prog w = .ok (.int .i64 n) w := run_convert_float_int w _ _ _ _ _ _ (by kernel_rfl) Tryz.underlying3 h
theorem place_does {x : Nat} (hx : Wd x) {n : Int} (hn : InK .i64 n) (h : R (.returned (.tuple #[.int .i64 (placeN x n), .bool (!nan x && decide (0 ≤ n))])) w) : Does Tryz.prog 15 #[.float .f64 x, .int .i64 n] w R := by
  have hmax : n < 9223372036854775808 := by have : n ≤ (9223372036854775807 : Int) := hn.2; omega
  refine f15_does _ _ ?_
  unfold f15_vc
  rw [order_self]
  unfold placeN at h
  refine brr (fun e => ?_) fun e => brr (fun e2 => ?_) fun e2 => ?_
  · rw [if_pos (.inl e), e] at h; exact h
  · have e2 := of_decide_eq_true e2
    rw [if_pos (.inr e2), e, decide_eq_false (by omega)] at h; exact h
  · have e2 := of_decide_eq_false e2
    rw [if_neg (by rw [e]; simp; omega), e, decide_eq_true (by omega)] at h
    rw [le_zero e, ge_one e]
    refine brr (fun e3 => ?_) fun e3 => brr (fun e4 => ?_) fun e4 => ?_
    · rw [if_pos (of_decide_eq_true e3)] at h; exact h
    · rw [if_neg (of_decide_eq_false e3), if_pos (of_decide_eq_true e4)] at h; exact h
    · have e3 := of_decide_eq_false e3
      have e4 := of_decide_eq_false e4
      rw [if_neg e3, if_neg e4] at h
      obtain ⟨k, rfl⟩ : ∃ k : Nat, n = k := ⟨n.toNat, by omega⟩
      rw [Int.toNat_natCast] at h
      obtain ⟨_, _, _, h4, h5, h6, _⟩ := mid_steps (n := k) (by omega) (mid_word hx (by omega) (by omega)).1
      exact ⟨_, w, ci2f w, _, w, by rw [h4]; exact run_float_arith w .mul _ .f64 _ _ _ h5, _, w, cf2i w h6, h⟩
end Go.Proofs.YtffhlgejfgmpiaaGreatDoor
