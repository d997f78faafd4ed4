/-
  Numbers shown: a number's parts; its text.
-/
import Derived.Test.YtffhlgejfgmpiaaGreatDoorShowTrim
import Derived.Test.YtffhlgejfgmpiaaGreatDoorShowFlt
import Derived.Test.YtffhlgejfgmpiaaGreatDoorFltOps
import Derived.Test.YtffhlgejfgmpiaaGreatDoorFltPl
namespace Go.Vc
theorem fval_pos {r : Nat} (h : r < 9223372036854775808) : fval r = (r : Int) := by
  obtain ⟨h1, h2⟩ := rung_small h
  unfold fval; rw [h1, h2]; rfl
theorem nan_pos {r : Nat} (h : r ≤ 9218868437227405312) : nan r = false := by
  unfold nan; rw [(rung_small (t := r) (by omega)).1]; exact decide_eq_false (by omega)
theorem and_low {y n : Nat} (K : Nat) (h : y < 2 ^ n) : y &&& K = y &&& (K % 2 ^ n) := by
  have h1 : (y &&& K) % 2 ^ n = y &&& K := Nat.mod_eq_of_lt (Nat.lt_of_le_of_lt Nat.and_le_left h)
  rw [← h1, Nat.and_mod_two_pow, Nat.mod_eq_of_lt h]
theorem andnot_exp {y : Nat} (h : y < 9223372036854775808) : bits .andNot .u64 (y : Int) 9218868437227405312 = ((y % 4503599627370496 : Nat) : Int) := by
  show IntKind.u64.wrap (((BitVec.ofInt 64 (y : Int)) &&& ~~~(BitVec.ofInt 64 ((9218868437227405312 : Nat) : Int))).toNat : Int) = _
  have e2 : ~~~(BitVec.ofInt 64 ((9218868437227405312 : Nat) : Int)) = BitVec.ofNat 64 9227875636482146303 := by decide
  rw [e2, BitVec.ofInt_natCast, BitVec.toNat_and, BitVec.toNat_ofNat, BitVec.toNat_ofNat, Nat.mod_eq_of_lt (a := y) (by omega), Nat.mod_eq_of_lt (a := 9227875636482146303) (by decide)]
  rw [and_low (n := 63) _ (by simpa using h), show 9227875636482146303 % 2 ^ 63 = 2 ^ 52 - 1 by decide, Nat.and_two_pow_sub_one_eq_mod, show (2 ^ 52 : Nat) = 4503599627370496 by decide, w64 (by omega)]
theorem and_exp {y : Nat} (h : y < 18446744073709551616) : bits .and .u64 ((y : Int).fdiv (2 ^ 52)) 2047 = ((y / 4503599627370496 % 2048 : Nat) : Int) := by
  have p52 : (2 : Int) ^ 52 = ((4503599627370496 : Nat) : Int) := by decide
  rw [p52, fd]
  show IntKind.u64.wrap (((BitVec.ofInt 64 ((y / 4503599627370496 : Nat) : Int)) &&& (BitVec.ofInt 64 ((2047 : Nat) : Int))).toNat : Int) = _
  rw [BitVec.toNat_and, BitVec.ofInt_natCast, BitVec.ofInt_natCast, BitVec.toNat_ofNat, BitVec.toNat_ofNat, Nat.mod_eq_of_lt (a := y / 4503599627370496) (by omega), Nat.mod_eq_of_lt (a := 2047) (by decide)]
  rw [show (2047 : Nat) = 2 ^ 11 - 1 by decide, Nat.and_two_pow_sub_one_eq_mod, show (2 ^ 11 : Nat) = 2048 by decide, w64 (by omega)]
theorem or_half {F : Nat} (h : F < 4503599627370496) : bits .or .u64 (F : Int) 4602678819172646912 = ((4602678819172646912 + F : Nat) : Int) := by
  show IntKind.u64.wrap (((BitVec.ofInt 64 (F : Int)) ||| (BitVec.ofInt 64 ((4602678819172646912 : Nat) : Int))).toNat : Int) = _
  rw [BitVec.toNat_or, BitVec.ofInt_natCast, BitVec.ofInt_natCast, BitVec.toNat_ofNat, BitVec.toNat_ofNat, Nat.mod_eq_of_lt (a := F) (by omega), Nat.mod_eq_of_lt (a := 4602678819172646912) (by decide)]
  have := Nat.shiftLeft_add_eq_or_of_lt (i := 52) (b := F) (by simpa using h) 1022
  rw [Nat.shiftLeft_eq, show 1022 * 2 ^ 52 = 4602678819172646912 by decide] at this
  rw [Nat.or_comm, ← this, w64 (by omega)]
theorem andnot_top {M : Nat} (h1 : 4503599627370496 ≤ M) (h2 : M < 9007199254740992) : bits .andNot .u64 (M : Int) 4503599627370496 = ((M - 4503599627370496 : Nat) : Int) := by
  show IntKind.u64.wrap (((BitVec.ofInt 64 (M : Int)) &&& ~~~(BitVec.ofInt 64 ((4503599627370496 : Nat) : Int))).toNat : Int) = _
  have e2 : ~~~(BitVec.ofInt 64 ((4503599627370496 : Nat) : Int)) = BitVec.ofNat 64 18442240474082181119 := by decide
  rw [e2, BitVec.ofInt_natCast, BitVec.toNat_and, BitVec.toNat_ofNat, BitVec.toNat_ofNat, Nat.mod_eq_of_lt (a := M) (by omega), Nat.mod_eq_of_lt (a := 18442240474082181119) (by decide)]
  rw [and_low (n := 53) _ (by simpa using h2), show 18442240474082181119 % 2 ^ 53 = 2 ^ 52 - 1 by decide, Nat.and_two_pow_sub_one_eq_mod, show (2 ^ 52 : Nat) = 4503599627370496 by decide, w64 (by omega), show M % 4503599627370496 = M - 4503599627370496 by omega]
/-- A number less than the least one of 53 digits, times 2 to the power of 52. -/
theorem sub_times {r : Nat} (h0 : 0 < r) (h : r < 4503599627370496) : floatBits .mul .f64 r 4841369599423283200 = some ((52 - mgk r) * 4503599627370496 + nM r) := by
  obtain ⟨e1, e2⟩ := mg_sub h
  obtain ⟨b1, b2⟩ := nM_bounds h0
  have hc : MM 4841369599423283200 = 4503599627370496 * 2 ^ BB := by
    unfold MM
    rw [show mg 4841369599423283200 = 4503599627370496 by decide, show ex 4841369599423283200 = BB by decide]
  have hr : MM r = r := by unfold MM; rw [e1, e2]; simp
  have hl := mlog h0
  have hk : mgk r ≤ 52 := by unfold mgk; omega
  have hn : nM r = r * 2 ^ mgk r := by unfold nM; rw [e1]
  have key : RR BB (MM r * MM 4841369599423283200) = (52 - mgk r) * 4503599627370496 + nM r := by
    have e : MM r * MM 4841369599423283200 = nM r * 2 ^ (BB + (52 - mgk r)) := by
      rw [hr, hc, hn, Nat.mul_assoc, ← Nat.pow_add, show (4503599627370496 : Nat) = 2 ^ 52 by decide, ← Nat.pow_add, pw (show 52 + BB = mgk r + (BB + (52 - mgk r)) by omega)]
    rw [e, RR_norm BB b1 b2 (by omega), show BB + (52 - mgk r) - BB = 52 - mgk r by omega]
  rw [mul_pos' BB_eq (by omega) (by decide) (by rw [key]; omega), key]
/-- From a half to one, times 2 to the power of 53. -/
theorem half_times {M : Nat} (h1 : 4503599627370496 ≤ M) (h2 : M < 9007199254740992) : floatBits .mul .f64 (4602678819172646912 + (M - 4503599627370496)) 4845873199050653696 = some (BB * 4503599627370496 + M) := by
  have hc : MM 4845873199050653696 = 4503599627370496 * 2 ^ (BB + 1) := by
    unfold MM
    rw [show mg 4845873199050653696 = 4503599627370496 by decide, show ex 4845873199050653696 = BB + 1 by decide]
  have hm : MM (4602678819172646912 + (M - 4503599627370496)) = M * 2 ^ (BB - 53) := by
    unfold MM mg ex
    have hb : BB = 1074 := rfl
    rw [if_neg (by omega), if_neg (by omega), show (4602678819172646912 + (M - 4503599627370496)) / 4503599627370496 - 1 = BB - 53 by omega, show 4503599627370496 + (4602678819172646912 + (M - 4503599627370496)) % 4503599627370496 = M by omega]
  have key : RR BB (MM (4602678819172646912 + (M - 4503599627370496)) * MM 4845873199050653696) = BB * 4503599627370496 + M := by
    have hb : BB = 1074 := rfl
    have e : MM (4602678819172646912 + (M - 4503599627370496)) * MM 4845873199050653696 = M * 2 ^ (2 * BB) := by
      rw [hm, hc, Nat.mul_assoc, ← Nat.mul_assoc (2 ^ (BB - 53)), Nat.mul_comm (2 ^ (BB - 53)), show (4503599627370496 : Nat) = 2 ^ 52 by decide, ← Nat.pow_add, ← Nat.pow_add]
      congr 2
    rw [e]; exact (norm_word BB_eq h1 h2).1
  have hb : BB = 1074 := rfl
  rw [mul_pos' BB_eq (by omega) (by decide) (by rw [key]; omega), key]
theorem toint_u64 {t : Nat} (h : t < 9218868437227405312) (hf : flr BB t ≤ 18446744073709551615) : floatToIntVal .f64 t .u64 = some (flr BB t : Int) := by
  have e : (FloatKind.f64.decode t).toInt .zero = some ((flr BB t : Nat) : Int) := by
    rw [decode_f64, read_pos BB_eq h, toint_num, cut_flr BB_eq (.inl rfl)]
    simp [Ieee.signed]
  unfold floatToIntVal
  rw [e]
  have : IntKind.min .u64 ≤ ((flr BB t : Nat) : Int) ∧ ((flr BB t : Nat) : Int) ≤ IntKind.max .u64 := ⟨by show (0 : Int) ≤ _; omega, by show _ ≤ (18446744073709551615 : Int); omega⟩
  simp only [this, and_self, if_true]
end Go.Vc
namespace Go.Proofs.YtffhlgejfgmpiaaGreatDoor
open Go.RowKit Go.Vc
variable {w : World} {R : Ending → World → Prop}
/-- A number without its sign. -/
theorem mabs_does {f : Nat} (hf : Wd f) (h : R (.returned (.float .f64 (rung f))) w) : Does Tryz.prog 38 #[.float .f64 f] w R := by
  refine f38_does _ (f64bits_does f ⟨_, rfl, ?_⟩)
  have e : bits .andNot .u64 (f : Int) 9223372036854775808 = ((f % 9223372036854775808 : Nat) : Int) := by
    show IntKind.u64.wrap (((BitVec.ofInt 64 (f : Int)) &&& ~~~(BitVec.ofInt 64 ((9223372036854775808 : Nat) : Int))).toNat : Int) = _
    have e2 : ~~~(BitVec.ofInt 64 ((9223372036854775808 : Nat) : Int)) = BitVec.ofNat 64 (2 ^ 63 - 1) := by decide
    rw [e2, BitVec.ofInt_natCast, BitVec.toNat_and, BitVec.toNat_ofNat, BitVec.toNat_ofNat, Nat.mod_eq_of_lt (a := f) (by unfold Wd at hf; omega), Nat.mod_eq_of_lt (a := 2 ^ 63 - 1) (by decide), Nat.and_two_pow_sub_one_eq_mod, wrap_in ⟨by show (0 : Int) ≤ _; omega, by show _ ≤ (18446744073709551615 : Int); have := Nat.mod_lt f (show 0 < 2 ^ 63 by decide); omega⟩]
  rw [e]
  exact frombits_does _ ⟨_, rfl, h⟩
theorem f2u {t : Nat} {n : Int} (w : World) (h : floatToIntVal .f64 t .u64 = some n) : (convert 22 27 (.float .f64 t)).run Tryz.prog w = .ok (.int .u64 n) w := run_convert_float_int w _ _ _ _ _ _ (by kernel_rfl) Tryz.underlying27 h
theorem f2i64 {t : Nat} {n : Int} (w : World) (h : floatToIntVal .f64 t .i64 = some n) : (convert 22 2 (.float .f64 t)).run Tryz.prog w = .ok (.int .i64 n) w := run_convert_float_int w _ _ _ _ _ _ (by kernel_rfl) Tryz.underlying2 h
/-- A number's parts. -/
theorem frexp_does {r : Nat} (h0 : 0 < r) (h : r < 9218868437227405312) (k : R (.returned (.tuple #[.float .f64 (4602678819172646912 + (nM r - 4503599627370496)), .int .i64 (nE r + 1)])) w) : Does Tryz.prog 42 #[.float .f64 r] w R := by
  have hn := nan_pos (r := r) (by omega)
  have hv := fval_pos (r := r) (by omega)
  have v0 : fval 0 = 0 := by decide
  have n0 : nan 0 = false := by decide
  have hrg := (rung_small (t := r) (by omega)).1
  obtain ⟨b1, b2⟩ := nM_bounds h0
  have hk2 : mgk r ≤ 52 := by have := mlog h0; unfold mgk; omega
  refine f42_does _ (f63_does _ (fls ?_ (f19_does _ _ (tru (by decide) (mabs_does (by unfold Wd; omega) ⟨_, rfl, _, rfl, fls ?_ (f86_does _ ⟨_, rfl, fls ?_ (f87_does _ (mabs_does (by unfold Wd; omega) ⟨_, rfl, ?_⟩))⟩)⟩)))))
  · rw [order_eq, hn, n0, hv, v0]
    simp only [Bool.not_false, Bool.true_and]
    exact decide_eq_false (by omega)
  · rw [hrg, order_gt, hn, show nan 9218868437227405311 = false by decide, hv, show fval 9218868437227405311 = 9218868437227405311 by decide]
    simp only [Bool.not_false, Bool.true_and]
    exact decide_eq_false (by omega)
  · rw [order_self]; exact hn
  rw [hrg, order_lt, hn, show nan 4503599627370496 = false by decide, hv, show fval 4503599627370496 = 4503599627370496 by decide]
  simp only [Bool.not_false, Bool.true_and]
  have tail : ∀ (y : Nat) (n19 : Int), y < 9223372036854775808 → y % 4503599627370496 = nM r - 4503599627370496 → -60 ≤ n19 → n19 ≤ 60 → n19 + ((y / 4503599627370496 : Nat) : Int) - 1022 = nE r + 1 → y / 4503599627370496 < 2048 → ∀ w' : World, w' = w →
      Does Tryz.prog 30 #[.float .f64 y] w' fun e23 w23 => ∃ n23 : Int, e23 = .returned (.int .u64 n23) ∧ (0 : Int) ≤ 52 ∧ InK .i64 (bits .and .u64 (n23.fdiv (2 ^ 52)) 2047) ∧ InK .i64 ((bits .and .u64 (n23.fdiv (2 ^ 52)) 2047) - 1023) ∧ InK .i64 (((bits .and .u64 (n23.fdiv (2 ^ 52)) 2047) - 1023) + 1) ∧ InK .i64 (n19 + (((bits .and .u64 (n23.fdiv (2 ^ 52)) 2047) - 1023) + 1)) ∧ Does Tryz.prog 47 #[.int .u64 (bits .or .u64 (bits .andNot .u64 n23 9218868437227405312) 4602678819172646912)] w23 fun e37 w37 =>
        ∃ f37 : Nat, e37 = .returned (.float .f64 f37) ∧ ∃ f9 : Nat, ∃ n9 : Int, Ending.returned (.tuple #[.float .f64 f37, .int .i64 (n19 + (((bits .and .u64 (n23.fdiv (2 ^ 52)) 2047) - 1023) + 1))]) = .returned (.tuple #[.float .f64 f9, .int .i64 n9]) ∧ R (.returned (.tuple #[.float .f64 f9, .int .i64 n9])) w37 := fun y n19 hy hm hn1 hn2 hE hy2 w' hw => by
    subst hw
    refine f64bits_does _ ⟨_, rfl, ?_⟩
    rw [and_exp (by omega), andnot_exp hy, hm, or_half (by omega), Nat.mod_eq_of_lt hy2]
    refine ⟨by decide, inI64 (by omega) (by omega), inI64 (by omega) (by omega), inI64 (by omega) (by omega), inI64 (by omega) (by omega), frombits_does _ ⟨_, rfl, _, _, rfl, ?_⟩⟩
    rw [show n19 + (((y / 4503599627370496 : Nat) : Int) - 1023 + 1) = nE r + 1 by omega]
    exact k
  refine brr (fun q => ?_) fun q => ?_
  · have q : r < 4503599627370496 := by have := of_decide_eq_true q; omega
    refine ⟨_, w, run_float_arith w .mul _ .f64 _ _ _ (sub_times h0 q), _, _, rfl, tail _ _ (by omega) (by omega) (by decide) (by decide) ?_ (by omega) w rfl⟩
    have e2 := (mg_sub q).2
    unfold nE
    rw [e2]; omega
  · have q : 4503599627370496 ≤ r := by have := of_decide_eq_false q; omega
    obtain ⟨e1, e2, e3, e4⟩ := mgk_norm q
    refine ⟨_, _, rfl, tail _ _ (by omega) (by omega) (by decide) (by decide) ?_ (by omega) w rfl⟩
    unfold nE
    rw [e1, e4]; omega
theorem m48 : L ({ data := #[48] } : ByteArray) = [48] := by decide
theorem m46 : L ({ data := #[46] } : ByteArray) = [46] := by decide
theorem m0x1 : L ({ data := #[48, 120, 49] } : ByteArray) = [48, 120, 49] := by decide
theorem mpp : L ({ data := #[112, 43] } : ByteArray) = [112, 43] := by decide
theorem mpm : L ({ data := #[112, 45] } : ByteArray) = [112, 45] := by decide
/-- The text by its parts. -/
theorem parts_does (hT : Laid2 w) {r : Nat} (h0 : 0 < r) (h : r < 9218868437227405312) : Does Tryz.prog 23 #[.float .f64 r] w fun e w' => ∃ s, e = .returned (.string s) ∧ L s = hexS r ∧ Ext w w' := by
  obtain ⟨b1, b2⟩ := nM_bounds h0
  obtain ⟨e1, e2⟩ := nE_bounds h0 h
  have hw := norm_word BB_eq b1 b2
  have hfl : flr BB (BB * 4503599627370496 + nM r) = nM r := by
    unfold flr; rw [hw.2, Nat.mul_div_cancel _ (Nat.two_pow_pos _)]
  have hb : BB = 1074 := rfl
  have hF : nM r - 4503599627370496 < 4503599627370496 := by omega
  have p13 : (16 : Nat) ^ 13 = 4503599627370496 := by decide
  refine f23_does _ (frexp_does h0 h ⟨_, _, rfl, _, w, run_float_arith w .mul _ .f64 _ _ _ (half_times b1 b2), (nM r : Int), w, f2u w ?_, ?_⟩)
  · rw [toint_u64 (by omega) (by rw [hfl]; omega), hfl]
  rw [andnot_top b1 b2]
  refine (formatu_does hT hF).imp ?_
  rintro e w17 ⟨s17, rfl, hs17, x17⟩
  obtain ⟨l1, l2⟩ := hexL_len (n := nM r - 4503599627370496) (k := 13) (by decide) (by omega)
  have z17 := L_len s17
  rw [hs17] at z17
  refine ⟨s17, rfl, inI64 (by omega) (by omega), ?_⟩
  rw [show (13 : Int) - (s17.size : Int) = ((13 - s17.size : Nat) : Int) by omega]
  refine repeat_does (by omega) fun s21 hs21 => ?_
  have z21 := L_len s21
  rw [hs21, List.length_replicate] at z21
  have hpad : L (s21 ++ s17) = padL 13 (nM r - 4503599627370496) := by
    rw [L_append, hs21, hs17, ← z17]
    exact pad_hex (by omega) (by decide)
  have zpad := L_len (s21 ++ s17)
  rw [hpad, padL_len] at zpad
  refine ⟨s21, rfl, by omega, trimr_does _ (by omega) fun s24 hs24 => ⟨s24, rfl, ?_⟩⟩
  rw [hpad, trim_pad (by omega)] at hs24
  have z24 := L_len s24
  have l24 := frL_len 13 (nM r - 4503599627370496)
  rw [← hs24] at l24
  rw [L_eq, L_nil]
  have x17' := x17
  have szz : ∀ a b : ByteArray, (a ++ b).size = a.size + b.size := fun a b => by rw [← L_len, L_append, List.length_append, L_len, L_len]
  have z3 : ({ data := #[48, 120, 49] } : ByteArray).size = 3 := rfl
  have z2 : ({ data := #[112, 43] } : ByteArray).size = 2 := rfl
  have z2' : ({ data := #[112, 45] } : ByteArray).size = 2 := rfl
  have z1 : ({ data := #[46] } : ByteArray).size = 1 := rfl
  have pt : ptL (L s24) = ptL (frL 13 (nM r - 4503599627370496)) := by rw [hs24]
  have ite : ∀ {N : Nat}, N < 2000 → Does Tryz.prog 46 #[.int .i64 (N : Int)] w17 fun e w' => ∃ s, e = .returned (.string s) ∧ L s = decL N ∧ s.size ≤ 4 ∧ Ext w w' := fun {N} hN => by
    refine (itoa_does (hT.ext x17) (N := N) (by omega)).imp ?_
    rintro e w' ⟨s, rfl, hs, x⟩
    refine ⟨s, rfl, hs, ?_, Ext.then x17 x⟩
    rw [← L_len, hs]
    exact decL_len_le (by decide) (by omega)
  refine brr (fun q => ?_) fun q => ?_
  · have q : L s24 ≠ [] := by simpa using q
    have hp : ptL (frL 13 (nM r - 4503599627370496)) = 46 :: L s24 := by rw [← pt]; unfold ptL; rw [if_neg q]
    refine ⟨by rw [z1]; omega, inI64 (by omega) (by omega), brr (fun c => ?_) fun c => ?_⟩
    · have c : 0 ≤ nE r := by have := of_decide_eq_true c; omega
      refine ⟨by rw [z3, szz, z1]; omega, by rw [szz, szz, z3, z1, z2]; omega, ?_⟩
      rw [show nE r + 1 - 1 = ((nE r).toNat : Int) by omega]
      refine (ite (by omega)).imp ?_
      rintro e w' ⟨s, rfl, hs, hz, x⟩
      refine ⟨s, rfl, by rw [szz, szz, szz, z3, z1, z2]; omega, _, rfl, ?_, x⟩
      rw [L_append, L_append, L_append, L_append, m0x1, m46, mpp, hs]
      unfold hexS hexX expL
      rw [hp, if_pos c]
      simp
    · have c : nE r < 0 := by have := of_decide_eq_false c; omega
      refine ⟨by rw [z3, szz, z1]; omega, by rw [szz, szz, z3, z1, z2']; omega, inI64 (by omega) (by omega), ?_⟩
      rw [show 0 - (nE r + 1 - 1) = ((-(nE r)).toNat : Int) by omega]
      refine (ite (by omega)).imp ?_
      rintro e w' ⟨s, rfl, hs, hz, x⟩
      refine ⟨s, rfl, by rw [szz, szz, szz, z3, z1, z2']; omega, _, rfl, ?_, x⟩
      rw [L_append, L_append, L_append, L_append, m0x1, m46, mpm, hs]
      unfold hexS hexX expL
      rw [hp, if_neg (by omega)]
      simp
  · have q : L s24 = [] := by simpa using q
    have hp : ptL (frL 13 (nM r - 4503599627370496)) = [] := by rw [← pt]; unfold ptL; rw [if_pos q]
    refine ⟨inI64 (by omega) (by omega), brr (fun c => ?_) fun c => ?_⟩
    · have c : 0 ≤ nE r := by have := of_decide_eq_true c; omega
      refine ⟨by rw [z3]; omega, by rw [szz, z3, z2]; omega, ?_⟩
      rw [show nE r + 1 - 1 = ((nE r).toNat : Int) by omega]
      refine (ite (by omega)).imp ?_
      rintro e w' ⟨s, rfl, hs, hz, x⟩
      refine ⟨s, rfl, by rw [szz, szz, z3, z2]; omega, _, rfl, ?_, x⟩
      rw [L_append, L_append, L_append, m0x1, mpp, hs, q]
      unfold hexS hexX expL
      rw [hp, if_pos c]
      simp
    · have c : nE r < 0 := by have := of_decide_eq_false c; omega
      refine ⟨by rw [z3]; omega, by rw [szz, z3, z2']; omega, inI64 (by omega) (by omega), ?_⟩
      rw [show 0 - (nE r + 1 - 1) = ((-(nE r)).toNat : Int) by omega]
      refine (ite (by omega)).imp ?_
      rintro e w' ⟨s, rfl, hs, hz, x⟩
      refine ⟨s, rfl, by rw [szz, szz, z3, z2']; omega, _, rfl, ?_, x⟩
      rw [L_append, L_append, L_append, m0x1, mpm, hs, q]
      unfold hexS hexX expL
      rw [hp, if_neg (by omega)]
      simp
end Go.Proofs.YtffhlgejfgmpiaaGreatDoor
