/-
  Numbers with a point: what the common functions do.
-/
import Derived.Test.YtffhlgejfgmpiaaGreatDoorV
import Derived.Test.YtffhlgejfgmpiaaGreatDoorFltPure
import Derived.Test.YtffhlgejfgmpiaaGreatDoorLocal
import Derived.Laws.Externs
import Derived.Laws.FloatArith
namespace Go.Vc
open Go.RowKit
theorem brr {b : Bool} {A B : Prop} (h1 : b = true → A) (h2 : b = false → B) : Br b A B := ⟨h1, h2⟩
/-- A word of a number. -/
def Wd (x : Nat) : Prop := x < 18446744073709551616
theorem order_eq {x y : Nat} : (FloatKind.f64.format.order x y == some Ordering.eq) = (!nan x && !nan y && decide (fval x = fval y)) := by
  show (Ieee.double.order x y == some Ordering.eq) = _
  rw [forder]
  cases nan x <;> cases nan y <;> simp only [Bool.or_false, Bool.or_true, Bool.false_eq_true, if_true, if_false, Bool.not_false, Bool.not_true, Bool.and_true, Bool.and_false, Bool.true_and, Bool.false_and]
  all_goals first
    | rfl
    | (rcases Int.lt_trichotomy (fval x) (fval y) with h | h | h
       · rw [cmp_lt h, decide_eq_false (by omega)]; rfl
       · rw [cmp_eq h, decide_eq_true h]; rfl
       · rw [cmp_gt h, decide_eq_false (by omega)]; rfl)
theorem order_lt {x y : Nat} : (FloatKind.f64.format.order x y == some Ordering.lt) = (!nan x && !nan y && decide (fval x < fval y)) := by
  show (Ieee.double.order x y == some Ordering.lt) = _
  rw [forder]
  cases nan x <;> cases nan y <;> simp only [Bool.or_false, Bool.or_true, Bool.false_eq_true, if_true, if_false, Bool.not_false, Bool.not_true, Bool.and_true, Bool.and_false, Bool.true_and, Bool.false_and]
  all_goals first
    | rfl
    | (rcases Int.lt_trichotomy (fval x) (fval y) with h | h | h
       · rw [cmp_lt h, decide_eq_true h]; rfl
       · rw [cmp_eq h, decide_eq_false (by omega)]; rfl
       · rw [cmp_gt h, decide_eq_false (by omega)]; rfl)
theorem order_gt {x y : Nat} : (FloatKind.f64.format.order x y == some Ordering.gt) = (!nan x && !nan y && decide (fval y < fval x)) := by
  show (Ieee.double.order x y == some Ordering.gt) = _
  rw [forder]
  cases nan x <;> cases nan y <;> simp only [Bool.or_false, Bool.or_true, Bool.false_eq_true, if_true, if_false, Bool.not_false, Bool.not_true, Bool.and_true, Bool.and_false, Bool.true_and, Bool.false_and]
  all_goals first
    | rfl
    | (rcases Int.lt_trichotomy (fval x) (fval y) with h | h | h
       · rw [cmp_lt h, decide_eq_false (by omega)]; rfl
       · rw [cmp_eq h, decide_eq_false (by omega)]; rfl
       · rw [cmp_gt h, decide_eq_true h]; rfl)
theorem order_self {x : Nat} : (FloatKind.f64.format.order x x != some Ordering.eq) = nan x := by
  show (!(FloatKind.f64.format.order x x == some Ordering.eq)) = _
  rw [order_eq, decide_eq_true rfl]
  cases nan x <;> rfl
/-- The bits that are told: of NaN always the same. -/
def fbits (x : Nat) : Int := if nan x then 9221120237041090561 else (x : Int)
/-- What orders all numbers. -/
def fkey (x : Nat) : Int := if nan x then 18446744073709551615 else if sgn x then 18446744073709551615 - (x : Int) else (x : Int) + 9223372036854775808
def cmpK (a b : Int) : Int := if a < b then -1 else if b < a then 1 else 0
/-- How two stand, as the program tells it. -/
def fcmp (x y : Nat) : Int :=
  if nan x || nan y then cmpK (if nan x then 1 else 0) (if nan y then 1 else 0)
  else if fval x = 0 ∧ fval y = 0 then cmpK (if sgn y then 1 else 0) (if sgn x then 1 else 0)
  else cmpK (fval x) (fval y)
theorem sgn_pos {x : Nat} (hx : Wd x) : (sgn x = false ∧ rung x = x ∧ x < 9223372036854775808) ∨ (sgn x = true ∧ x = rung x + 9223372036854775808 ∧ rung x < 9223372036854775808) := by
  unfold Wd at hx
  unfold sgn rung
  by_cases h : x < 9223372036854775808
  · left
    have h1 : x / 9223372036854775808 = 0 := by omega
    rw [h1]; exact ⟨rfl, by omega, h⟩
  · right
    have h1 : x / 9223372036854775808 = 1 := by omega
    rw [h1]; exact ⟨rfl, by omega, by omega⟩
theorem nan_rung {x : Nat} : nan x = true ↔ 9218868437227405312 < rung x := by unfold nan; simp
theorem fcmp_key {x y : Nat} (hx : Wd x) (hy : Wd y) : fcmp x y = cmpK (fkey x) (fkey y) := by
  have nx := nan_rung (x := x)
  have ny := nan_rung (x := y)
  unfold fcmp fkey fval
  rcases sgn_pos hx with ⟨s1, r1, b1⟩ | ⟨s1, r1, b1⟩ <;> rcases sgn_pos hy with ⟨s2, r2, b2⟩ | ⟨s2, r2, b2⟩ <;> rw [s1, s2] <;> cases h1 : nan x <;> cases h2 : nan y <;> rw [h1] at nx <;> rw [h2] at ny <;>
    simp only [Bool.or_false, Bool.or_true, Bool.false_eq_true, if_true, if_false, false_iff, true_iff, Nat.not_lt] at nx ny ⊢ <;> unfold cmpK <;> (repeat' split) <;> omega
theorem fkey_bits {x y : Nat} (hx : Wd x) (hy : Wd y) : fkey x = fkey y ↔ fbits x = fbits y := by
  have nx := nan_rung (x := x)
  have ny := nan_rung (x := y)
  unfold fkey fbits
  rcases sgn_pos hx with ⟨s1, r1, b1⟩ | ⟨s1, r1, b1⟩ <;> rcases sgn_pos hy with ⟨s2, r2, b2⟩ | ⟨s2, r2, b2⟩ <;> rw [s1, s2] <;> cases h1 : nan x <;> cases h2 : nan y <;> rw [h1] at nx <;> rw [h2] at ny <;>
    simp only [Bool.false_eq_true, if_true, if_false, false_iff, true_iff, Nat.not_lt] at nx ny ⊢ <;> omega
end Go.Vc
namespace Go.Proofs.YtffhlgejfgmpiaaGreatDoor
open Go.RowKit Go.Vc
variable {w : World} {R : Ending → World → Prop}
theorem f64bits_does (x : Nat) (h : R (.returned (.int .u64 x)) w) : Does Tryz.prog 30 #[.float .f64 x] w R := by
  refine .inr ⟨by kernel_rfl, .int .u64 x, w, ?_, h⟩
  rw [run_callFunc_extern Tryz.func30 (by kernel_rfl) (by kernel_rfl) (by kernel_rfl) (e := Extern.MathFloatBits.float64bits) (by kernel_rfl)]
  rfl
theorem frombits_does (x : Nat) (h : R (.returned (.float .f64 x)) w) : Does Tryz.prog 47 #[.int .u64 x] w R := by
  refine .inr ⟨by kernel_rfl, .float .f64 x, w, ?_, h⟩
  rw [run_callFunc_extern Tryz.func47 (by kernel_rfl) (by kernel_rfl) (by kernel_rfl) (e := Extern.MathFloatBits.float64frombits) (by kernel_rfl)]
  show Result.andThen (.ok (Value.float .f64 ((x : Int)).toNat) w) _ = _
  rw [Int.toNat_natCast]; rfl
theorem bits_does (x : Nat) (h : R (.returned (.int .u64 (fbits x))) w) : Does Tryz.prog 11 #[.float .f64 x] w R := by
  refine f11_does _ ?_
  unfold f11_vc
  rw [order_self]
  unfold fbits at h
  exact brr (fun e => by rw [e] at h; exact h) fun e => by rw [e] at h; exact f64bits_does x ⟨_, rfl, h⟩
theorem rbits_does (x : Nat) (h : R (.returned (.int .u64 (fbits x))) w) : Does Tryz.prog 13 #[.float .f64 x] w R := by
  refine f13_does _ ?_
  unfold f13_vc
  rw [order_self]
  unfold fbits at h
  exact brr (fun e => by rw [e] at h; exact h) fun e => by rw [e] at h; exact f64bits_does x ⟨_, rfl, h⟩
theorem cmpi_does (a b : Int) (h : R (.returned (.int .i64 (cmpK a b))) w) : Does Tryz.prog 34 #[.int .i64 a, .int .i64 b] w R := by
  refine f34_does _ _ (f56_does _ ⟨_, rfl, f56_does _ ⟨_, rfl, fls (by simp) (fls (by simp) ?_)⟩⟩)
  unfold cmpK at h
  refine brr (fun e => ?_) fun e => brr (fun e' => ?_) fun e' => ?_
  · rw [if_pos (of_decide_eq_true e)] at h; exact h
  · rw [if_neg (of_decide_eq_false e), if_pos (of_decide_eq_true e')] at h; exact h
  · rw [if_neg (of_decide_eq_false e), if_neg (of_decide_eq_false e')] at h; exact h
theorem cmpf_does {x y : Nat} (hx : nan x = false) (hy : nan y = false) (h : R (.returned (.int .i64 (cmpK (fval x) (fval y)))) w) : Does Tryz.prog 37 #[.float .f64 x, .float .f64 y] w R := by
  refine f37_does _ _ (f57_does _ ⟨_, rfl, f57_does _ ⟨_, rfl, ?_⟩⟩)
  rw [order_self, order_self, order_lt, order_gt, hx, hy]
  simp only [Bool.not_false, Bool.true_and]
  refine fls rfl (fls rfl ?_)
  unfold cmpK at h
  refine brr (fun e => ?_) fun e => brr (fun e' => ?_) fun e' => ?_
  · rw [if_pos (of_decide_eq_true e)] at h; exact h
  · rw [if_neg (of_decide_eq_false e), if_pos (of_decide_eq_true e')] at h; exact h
  · rw [if_neg (of_decide_eq_false e), if_neg (of_decide_eq_false e')] at h; exact h
theorem odd_does (x : Nat) (h : R (.returned (.int .i64 (if nan x then 1 else 0))) w) : Does Tryz.prog 35 #[.float .f64 x] w R := by
  refine f35_does _ ?_
  unfold f35_vc
  rw [order_self]
  exact brr (fun e => by rw [e] at h; exact h) fun e => by rw [e] at h; exact h
theorem signbit_does {x : Nat} (hx : Wd x) (h : R (.returned (.bool (sgn x))) w) : Does Tryz.prog 20 #[.float .f64 x] w R := by
  refine f20_does _ (f64bits_does x ⟨_, rfl, ?_⟩)
  have e : decide (IntKind.i64.wrap (x : Int) < 0) = sgn x := by
    have hw : IntKind.i64.wrap (x : Int) = if 9223372036854775808 ≤ (x : Int) then (x : Int) - 18446744073709551616 else (x : Int) := by
      unfold Wd at hx
      unfold IntKind.wrap
      simp [IntKind.signed, IntKind.bits]
      (repeat' split) <;> omega
    rw [hw]
    unfold Wd at hx
    rcases sgn_pos hx with ⟨s, r, b⟩ | ⟨s, r, b⟩ <;> rw [s]
    · rw [if_neg (by omega)]; exact decide_eq_false (by omega)
    · rw [if_pos (by omega)]; exact decide_eq_true (by omega)
  rw [e]
  exact h
theorem sign_does {x : Nat} (hx : Wd x) (h : R (.returned (.int .i64 (if sgn x then 1 else 0))) w) : Does Tryz.prog 36 #[.float .f64 x] w R := by
  refine f36_does _ (signbit_does hx ⟨_, rfl, ?_⟩)
  exact brr (fun e => by rw [e] at h; exact h) fun e => by rw [e] at h; exact h
/-- Compare. -/
theorem compare_does {x y : Nat} (hx : Wd x) (hy : Wd y) (h : R (.returned (.int .i64 (fcmp x y))) w) : Does Tryz.prog 16 #[.float .f64 x, .float .f64 y] w R := by
  refine f16_does _ _ ?_
  unfold f16_vc
  rw [order_self, order_self]
  unfold fcmp at h
  have z0 : nan 0 = false := by decide
  have v0 : fval 0 = 0 := by decide
  refine brr (fun e => ?_) fun e => brr (fun e' => ?_) fun e' => ?_
  · rw [e] at h
    exact odd_does x ⟨_, rfl, odd_does y ⟨_, rfl, cmpi_does _ _ ⟨_, rfl, by rw [e]; exact h⟩⟩⟩
  · rw [e, e'] at h
    exact odd_does x ⟨_, rfl, odd_does y ⟨_, rfl, cmpi_does _ _ ⟨_, rfl, by rw [e, e']; exact h⟩⟩⟩
  · rw [e, e'] at h
    simp only [Bool.or_self, Bool.false_eq_true, if_false] at h
    rw [order_eq, order_eq, e, e', z0, v0]
    simp only [Bool.not_false, Bool.true_and]
    refine brr (fun g => brr (fun g' => ?_) fun g' => ?_) fun g => ?_
    · rw [if_pos ⟨of_decide_eq_true g, of_decide_eq_true g'⟩] at h
      exact sign_does hy ⟨_, rfl, sign_does hx ⟨_, rfl, cmpi_does _ _ ⟨_, rfl, h⟩⟩⟩
    · rw [if_neg fun k => of_decide_eq_false g' k.2] at h
      exact cmpf_does e e' ⟨_, rfl, h⟩
    · rw [if_neg fun k => of_decide_eq_false g k.1] at h
      exact cmpf_does e e' ⟨_, rfl, h⟩
theorem or_top {n : Nat} (h : n < 9223372036854775808) : bits .or .u64 (n : Int) 9223372036854775808 = (n : Int) + 9223372036854775808 := by
  show IntKind.u64.wrap (((BitVec.ofInt 64 (n : Int)) ||| (BitVec.ofInt 64 ((9223372036854775808 : Nat) : Int))).toNat : Int) = _
  rw [BitVec.toNat_or, BitVec.ofInt_natCast, BitVec.ofInt_natCast, BitVec.toNat_ofNat, BitVec.toNat_ofNat, Nat.mod_eq_of_lt (by omega), Nat.mod_eq_of_lt (by omega)]
  have := Nat.shiftLeft_add_eq_or_of_lt (i := 63) (b := n) (by omega) 1
  rw [Nat.shiftLeft_eq] at this
  have e : n ||| 9223372036854775808 = 9223372036854775808 + n := by rw [Nat.or_comm]; exact this.symm
  rw [e, wrap_in ⟨by show (0 : Int) ≤ _; omega, by show _ ≤ (18446744073709551615 : Int); omega⟩]
  omega
theorem xor_all {n : Nat} (h : n < 18446744073709551616) : bits .xor .u64 (IntKind.max .u64) (n : Int) = 18446744073709551615 - (n : Int) := by
  have e1 : (BitVec.ofInt 64 (IntKind.max .u64)) = BitVec.allOnes 64 := by decide
  show IntKind.u64.wrap (((BitVec.ofInt 64 (IntKind.max .u64)) ^^^ (BitVec.ofInt 64 (n : Int))).toNat : Int) = _
  rw [e1, BitVec.allOnes_xor, BitVec.toNat_not, BitVec.ofInt_natCast, BitVec.toNat_ofNat, Nat.mod_eq_of_lt (by omega), wrap_in ⟨by show (0 : Int) ≤ _; omega, by show _ ≤ (18446744073709551615 : Int); omega⟩]
  omega
end Go.Proofs.YtffhlgejfgmpiaaGreatDoor
