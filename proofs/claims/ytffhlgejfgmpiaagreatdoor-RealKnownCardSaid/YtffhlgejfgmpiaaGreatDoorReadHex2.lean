/-
  Numbers read: base 16, the number itself.
-/
import Derived.Test.YtffhlgejfgmpiaaGreatDoorVW
import Derived.Test.YtffhlgejfgmpiaaGreatDoorReadHex
import Derived.Test.YtffhlgejfgmpiaaGreatDoorLaidOpen3
import Derived.LaidEqlPtr
namespace Go.Vc
open Go.RowKit
theorem band {a b : Nat} (ha : a < 18446744073709551616) (hb : b < 18446744073709551616) : bits .and .u64 (a : Int) (b : Int) = ((a &&& b : Nat) : Int) := by
  show IntKind.u64.wrap (((BitVec.ofInt 64 (a : Int)) &&& (BitVec.ofInt 64 (b : Int))).toNat : Int) = _
  rw [BitVec.toNat_and, BitVec.ofInt_natCast, BitVec.ofInt_natCast, BitVec.toNat_ofNat, BitVec.toNat_ofNat, Nat.mod_eq_of_lt (a := a) (by omega), Nat.mod_eq_of_lt (a := b) (by omega)]
  exact w64 (Nat.lt_of_le_of_lt Nat.and_le_left ha)
theorem bor {a b : Nat} (ha : a < 18446744073709551616) (hb : b < 18446744073709551616) : bits .or .u64 (a : Int) (b : Int) = ((a ||| b : Nat) : Int) := by
  show IntKind.u64.wrap (((BitVec.ofInt 64 (a : Int)) ||| (BitVec.ofInt 64 (b : Int))).toNat : Int) = _
  rw [BitVec.toNat_or, BitVec.ofInt_natCast, BitVec.ofInt_natCast, BitVec.toNat_ofNat, BitVec.toNat_ofNat, Nat.mod_eq_of_lt (a := a) (by omega), Nat.mod_eq_of_lt (a := b) (by omega)]
  exact w64 (Nat.or_lt_two_pow (n := 64) (by simpa using ha) (by simpa using hb))
theorem band_i {a b : Nat} (ha : a < 9223372036854775808) (hb : b < 9223372036854775808) : bits .and .i64 (a : Int) (b : Int) = ((a &&& b : Nat) : Int) := by
  show IntKind.i64.wrap (((BitVec.ofInt 64 (a : Int)) &&& (BitVec.ofInt 64 (b : Int))).toNat : Int) = _
  rw [BitVec.toNat_and, BitVec.ofInt_natCast, BitVec.ofInt_natCast, BitVec.toNat_ofNat, BitVec.toNat_ofNat, Nat.mod_eq_of_lt (a := a) (by omega), Nat.mod_eq_of_lt (a := b) (by omega)]
  have : a &&& b ≤ a := Nat.and_le_left
  exact wrap_in (inI64 (by omega) (by omega))
theorem sticky {Y : Nat} (h : Y < 9007199254740992) : bits .or .u64 ((((2 * Y : Nat) : Int)).fdiv (2 ^ 1)) (bits .and .u64 ((2 * Y : Nat) : Int) 1) = (Y : Int) := by
  have e1 : (((2 * Y : Nat) : Int)).fdiv (2 ^ 1) = (Y : Int) := by
    show (((2 * Y : Nat) : Int)).fdiv ((2 : Nat) : Int) = _
    rw [fd]; omega
  have e2 : bits .and .u64 ((2 * Y : Nat) : Int) ((1 : Nat) : Int) = ((0 : Nat) : Int) := by
    rw [band (by omega) (by decide), Nat.and_one_is_mod]; omega
  have e2 : bits .and .u64 ((2 * Y : Nat) : Int) 1 = ((0 : Nat) : Int) := e2
  rw [e1, e2, bor (by omega) (by decide), Nat.or_zero]
theorem round_bits {m : Nat} (h : m < 9007199254740992) : (((4 * m : Nat) : Int)).fdiv (2 ^ 2) = (m : Int) ∧ bits .or .u64 (bits .and .u64 ((4 * m : Nat) : Int) 3) (bits .and .u64 (m : Int) 1) = ((m % 2 : Nat) : Int) := by
  have e1 : (((4 * m : Nat) : Int)).fdiv (2 ^ 2) = (m : Int) := by
    show (((4 * m : Nat) : Int)).fdiv ((4 : Nat) : Int) = _
    rw [fd]; omega
  have e2 : bits .and .u64 ((4 * m : Nat) : Int) ((3 : Nat) : Int) = ((0 : Nat) : Int) := by
    rw [band (by omega) (by decide), show (3 : Nat) = 2 ^ 2 - 1 by decide, Nat.and_two_pow_sub_one_eq_mod]; omega
  have e2 : bits .and .u64 ((4 * m : Nat) : Int) 3 = ((0 : Nat) : Int) := e2
  have e3 : bits .and .u64 (m : Int) ((1 : Nat) : Int) = ((m % 2 : Nat) : Int) := by
    rw [band (by omega) (by decide), Nat.and_one_is_mod]
  have e3 : bits .and .u64 (m : Int) 1 = ((m % 2 : Nat) : Int) := e3
  exact ⟨e1, by rw [e2, e3, bor (by decide) (by omega), Nat.zero_or]⟩
/-- A word, put together. -/
theorem word_bits {r : Nat} (h : r < 9218868437227405312) : bits .or .u64 (bits .and .u64 ((mg r : Nat) : Int) 4503599627370495) (IntKind.wrap .u64 ((IntKind.wrap .u64 (bits .and .i64 ((r / 4503599627370496 : Nat) : Int) 2047)) * 4503599627370496)) = (r : Int) := by
  have hm := mg_lt r
  have hm2 : mg r % 4503599627370496 = r % 4503599627370496 := by unfold mg; split <;> omega
  have e1 : bits .and .u64 ((mg r : Nat) : Int) ((4503599627370495 : Nat) : Int) = ((r % 4503599627370496 : Nat) : Int) := by
    rw [band (by omega) (by decide), show (4503599627370495 : Nat) = 2 ^ 52 - 1 by decide, Nat.and_two_pow_sub_one_eq_mod, ← hm2]
  have e1 : bits .and .u64 ((mg r : Nat) : Int) 4503599627370495 = ((r % 4503599627370496 : Nat) : Int) := e1
  have e2 : bits .and .i64 ((r / 4503599627370496 : Nat) : Int) ((2047 : Nat) : Int) = ((r / 4503599627370496 : Nat) : Int) := by
    rw [band_i (by omega) (by decide), show (2047 : Nat) = 2 ^ 11 - 1 by decide, Nat.and_two_pow_sub_one_eq_mod]
    have : r / 4503599627370496 < 2 ^ 11 := by omega
    rw [Nat.mod_eq_of_lt this]
  have e2 : bits .and .i64 ((r / 4503599627370496 : Nat) : Int) 2047 = ((r / 4503599627370496 : Nat) : Int) := e2
  rw [e1, e2, w64 (by omega), show ((r / 4503599627370496 : Nat) : Int) * 4503599627370496 = ((r / 4503599627370496 * 4503599627370496 : Nat) : Int) by omega, w64 (by omega), bor (by omega) (by omega)]
  have := Nat.shiftLeft_add_eq_or_of_lt (i := 52) (b := r % 4503599627370496) (by omega) (r / 4503599627370496)
  rw [Nat.shiftLeft_eq, show (2 : Nat) ^ 52 = 4503599627370496 by decide] at this
  rw [Nat.or_comm, ← this]; omega
theorem up_eq {M0 n N t : Nat} (hn : n ≤ 13) (hM : M0 * 16 ^ (13 - n) = N) (ht : t ≤ 54 - 4 * n) : M0 * 2 ^ t * 2 ^ (54 - 4 * n - t) = 4 * N := by
  rw [Nat.mul_assoc, ← Nat.pow_add, show t + (54 - 4 * n - t) = 4 * (13 - n) + 2 by omega, Nat.pow_add, Nat.pow_mul, show (2 : Nat) ^ 4 = 16 by decide, ← Nat.mul_assoc, hM]; omega
def sgW (neg : Bool) (r : Nat) : Nat := if neg then r + 9223372036854775808 else r
end Go.Vc
namespace Go.Proofs.YtffhlgejfgmpiaaGreatDoor
open Go.RowKit Go.Vc
variable {w : World} {R : Ending → World → Prop}
theorem p54 : (2 : Int) ^ (min (IntKind.wrap .u64 (52 + 2)).toNat 64) = ((18014398509481984 : Nat) : Int) := by decide
theorem p55 : (2 : Int) ^ (min (IntKind.wrap .u64 ((IntKind.wrap .u64 (1 + 52)) + 2)).toNat 64) = ((36028797018963968 : Nat) : Int) := by decide
theorem p52 : (2 : Int) ^ (min (52 : Int).toNat 64) = ((4503599627370496 : Nat) : Int) := by decide
theorem p11 : (1 : Int) * 2 ^ (min (11 : Int).toNat 64) = 2048 := by decide
theorem pm : IntKind.wrap .u64 ((IntKind.wrap .u64 (1 * 2 ^ (min (52 : Int).toNat 64))) - 1) = 4503599627370495 := by decide
theorem ps : IntKind.wrap .u64 ((IntKind.wrap .u64 (1 * 2 ^ (min (52 : Int).toNat 64))) * 2 ^ (min (11 : Int).toNat 64)) = 9223372036854775808 := by decide
theorem info_other {w : World} (h : Laid3 w) : (binOp .eql 128 (.pointer (some ⟨7, 0, none⟩)) (.pointer (some ⟨5, 0, none⟩))).run Tryz.prog w = .ok (.bool false) w := by
  obtain ⟨c1, t1, h1⟩ := h.h64
  obtain ⟨c2, t2, h2⟩ := h.h32
  have hi : ((Tryz.prog.info? 130).any fun j => j.size != 0) = true := by kernel_rfl
  obtain ⟨j, hj, hs⟩ : ∃ j, Tryz.prog.info? 130 = some j ∧ j.size ≠ 0 := by
    cases hq : Tryz.prog.info? 130 with
    | none => rw [hq] at hi; cases hi
    | some j => rw [hq] at hi; exact ⟨j, rfl, by simpa using hi⟩
  exact run_eql_ptr_other w Tryz.underlying128 hj hs (by decide) h1 h2
/-- A number in base 16 that the machine holds. -/
theorem atofhex_does (hT : Laid w) (hT3 : Laid3 w) {s : ByteArray} {M0 n r : Nat} {neg : Bool} (hn : n ≤ 13) (hM : M0 * 16 ^ (13 - n) = nM r) (h0 : 0 < r) (h1 : r < 9218868437227405312) :
    Does Tryz.prog 113 #[.string s, .pointer (some ⟨7, 0, none⟩), .int .u64 (M0 : Int), .int .i64 (nE r - 4 * (n : Int)), .bool neg, .bool false] w fun e w' => e = .returned (.tuple #[.float .f64 (sgW neg r), .nilIface]) ∧ Ext w w' := by
  obtain ⟨b1, b2⟩ := nM_bounds h0
  obtain ⟨e1, e2⟩ := nE_bounds h0 h1
  have hx := ex_le h1
  have hmp := mg_pos h0
  have hml := mg_lt r
  have hNE : nE r = (ex r : Int) - 1022 - (mgk r : Int) := rfl
  have hNM : nM r = mg r * 2 ^ mgk r := rfl
  have hW := word_bits h1
  have hup := fun {t : Nat} (ht : t ≤ 54 - 4 * n) => up_eq (t := t) hn hM ht
  have hcase : mgk r = 0 ∨ ex r = 0 := by
    rcases Nat.lt_or_ge r 4503599627370496 with h | h
    · exact .inr (mg_sub h).2
    · exact .inl (mgk_norm h).1
  have hq : (mg r < 4503599627370496 → r / 4503599627370496 = 0) ∧ (4503599627370496 ≤ mg r → r / 4503599627370496 = ex r + 1) := by
    unfold mg ex
    split <;> constructor <;> intro <;> omega
  generalize hE : nE r = E at *
  generalize hN : nM r = N at *
  refine f113_does _ _ _ _ _ _ ?_
  unfold f113_vc
  intro wd dr
  have xd := dr.ext
  have c0 := xd.cell hT.info
  have c1 := xd.cell hT3.i1
  have c2 := xd.cell hT3.i2
  refine ⟨7, 0, rfl, 11, c1, by decide, inI64 (by decide) (by decide), 7, 0, rfl, -1023, c2, inI64 (by decide) (by decide), inI64 (by decide) (by decide), 7, 0, rfl, -1023, c2, inI64 (by decide) (by decide), 7, 0, rfl, 52, c0, inI64 (by decide) (by decide),
    fun x2 x3 k wl => ∃ t, t ≤ 54 - 4 * n ∧ k = 54 - 4 * n - t ∧ x2 = ((M0 * 2 ^ t : Nat) : Int) ∧ x3 = E - 4 * (n : Int) + 52 - (t : Int) ∧ wd = wl, ⟨_, 0, Nat.zero_le _, rfl, by rw [Nat.pow_zero, Nat.mul_one], by rw [wrap_in (inI64 (by omega) (by omega))]; omega, rfl⟩, ?_⟩
  rintro _ _ _ _ ⟨t, ht, rfl, rfl, rfl, rfl⟩
  have hu := hup ht
  have hX0 : M0 * 2 ^ t ≠ 0 := fun h => by rw [h] at hu; omega
  refine tru (by rw [bne_iff_ne]; omega) ⟨7, 0, rfl, 52, c0, by decide, ?_⟩
  rw [p54, fd]
  rcases Nat.lt_or_ge t (54 - 4 * n) with htl | htl
  · have hu1 := hup (t := t + 1) htl
    have hX1 : M0 * 2 ^ (t + 1) = M0 * 2 ^ t * 2 := by rw [Nat.pow_succ, Nat.mul_assoc]
    have hle : M0 * 2 ^ (t + 1) ≤ 4 * N := by
      have := Nat.mul_le_mul_left (M0 * 2 ^ (t + 1)) (Nat.two_pow_pos (54 - 4 * n - (t + 1)))
      omega
    refine tru (by rw [beq_iff_eq]; omega) ⟨by decide, 54 - 4 * n - (t + 1), by omega, t + 1, htl, rfl, ?_, ?_, rfl⟩
    · rw [show ((M0 * 2 ^ t : Nat) : Int) * 2 ^ 1 = ((M0 * 2 ^ (t + 1) : Nat) : Int) by rw [hX1]; omega]
      exact w64 (by omega)
    · rw [wrap_in (inI64 (by omega) (by omega))]; omega
  have htn : t = 54 - 4 * n := by omega
  have hX4 : M0 * 2 ^ t = 4 * N := by rw [← hu, htn, Nat.sub_self, Nat.pow_zero, Nat.mul_one]
  rw [hX4, show E - 4 * (n : Int) + 52 - (t : Int) = E - 2 by omega]
  refine fls (by rw [beq_eq_false_iff_ne]; omega) ⟨fun x k wc => x = ((4 * N : Nat) : Int) ∧ wd = wc, fls rfl ⟨0, rfl, rfl⟩, ?_⟩
  rintro _ _ _ ⟨rfl, rfl⟩
  refine ⟨fun x y k wl => x = ((4 * N : Nat) : Int) ∧ y = E - 2 ∧ wd = wl, ⟨0, rfl, rfl, rfl⟩, ?_⟩
  rintro _ _ _ _ ⟨rfl, rfl, rfl⟩
  refine ⟨7, 0, rfl, 52, c0, by decide, ?_⟩
  rw [p55, fd]
  refine fls (by rw [bne_eq_false_iff_eq]; omega) ⟨fun x y k wc => x = ((4 * mg r : Nat) : Int) ∧ y = (ex r : Int) - 1024 ∧ wd = wc, ⟨fun x y k wl => ∃ j : Nat, j ≤ mgk r ∧ k = mgk r - j ∧ x = ((4 * (mg r * 2 ^ (mgk r - j)) : Nat) : Int) ∧ y = (ex r : Int) - 1024 - (mgk r : Int) + (j : Int) ∧ wd = wl, ⟨_, 0, Nat.zero_le _, rfl, by rw [Nat.sub_zero, ← hNM], by omega, rfl⟩, ?_⟩, ?_⟩
  · rintro _ _ _ _ ⟨j, hj, rfl, rfl, rfl, rfl⟩
    have hpp := Nat.mul_le_mul_left (mg r) (Nat.two_pow_pos (mgk r - j))
    have hle2 : mg r * 2 ^ (mgk r - j) ≤ N := by
      rw [hNM]; exact Nat.mul_le_mul_left _ (Nat.pow_le_pow_right (by decide) (by omega))
    refine tru (decide_eq_true (by omega)) ⟨inI64 (by decide) (by decide), ?_⟩
    rcases Nat.lt_or_ge j (mgk r) with hjl | hjl
    · have hex0 : ex r = 0 := by rcases hcase with h | h <;> omega
      have hhalf : mg r * 2 ^ (mgk r - j) = 2 * (mg r * 2 ^ (mgk r - (j + 1))) := by
        rw [show mgk r - j = mgk r - (j + 1) + 1 by omega, Nat.pow_succ, ← Nat.mul_assoc]; omega
      refine tru (decide_eq_true (by omega)) ⟨by decide, mgk r - (j + 1), by omega, j + 1, hjl, rfl, ?_, ?_, rfl⟩
      · rw [hhalf, show 4 * (2 * (mg r * 2 ^ (mgk r - (j + 1)))) = 2 * (4 * (mg r * 2 ^ (mgk r - (j + 1)))) by omega]
        generalize mg r * 2 ^ (mgk r - (j + 1)) = Y at *
        have hY : 4 * Y < 9223372036854775808 := by omega
        have f1 : (((2 * (4 * Y) : Nat) : Int)).fdiv (2 ^ 1) = ((4 * Y : Nat) : Int) := by
          show (((2 * (4 * Y) : Nat) : Int)).fdiv ((2 : Nat) : Int) = _
          rw [fd]; omega
        have f2 : bits .and .u64 ((2 * (4 * Y) : Nat) : Int) ((1 : Nat) : Int) = ((0 : Nat) : Int) := by
          rw [band (by omega) (by decide), Nat.and_one_is_mod]; omega
        have f2 : bits .and .u64 ((2 * (4 * Y) : Nat) : Int) 1 = ((0 : Nat) : Int) := f2
        rw [f1, f2, bor (by omega) (by decide), Nat.or_zero]
      · rw [wrap_in (inI64 (by omega) (by omega))]; omega
    · have hjk : j = mgk r := by omega
      refine fls (decide_eq_false (by omega)) ⟨0, ?_, by omega, rfl⟩
      rw [hjk, Nat.sub_self, Nat.pow_zero, Nat.mul_one]
  rintro _ _ _ _ ⟨rfl, rfl, rfl⟩
  obtain ⟨r1, r2⟩ := round_bits hml
  rw [r1, r2]
  refine ⟨by decide, fun x y k wc => x = ((mg r : Nat) : Int) ∧ y = (ex r : Int) - 1022 ∧ wd = wc, fls (by rw [beq_eq_false_iff_ne]; omega) ⟨0, rfl, by rw [wrap_in (inI64 (by omega) (by omega))]; omega, rfl⟩, ?_⟩
  rintro _ _ _ _ ⟨rfl, rfl, rfl⟩
  refine ⟨fun y k wc => y = ((r / 4503599627370496 : Nat) : Int) - 1023 ∧ wd = wc, ⟨7, 0, rfl, 52, c0, by decide, ?_⟩, ?_⟩
  · rw [p52, fd]
    rcases Nat.lt_or_ge (mg r) 4503599627370496 with hlt | hlt
    · have := hq.1 hlt
      exact tru (by rw [beq_iff_eq]; omega) ⟨7, 0, rfl, -1023, c2, 0, by omega, rfl⟩
    · have := hq.2 hlt
      exact fls (by rw [beq_eq_false_iff_ne]; omega) ⟨0, by omega, rfl⟩
  rintro _ _ _ ⟨rfl, rfl⟩
  have hrq : r / 4503599627370496 ≤ 2046 := by omega
  rw [p11]
  refine ⟨fun x y v k wc => x = ((mg r : Nat) : Int) ∧ y = ((r / 4503599627370496 : Nat) : Int) - 1023 ∧ v = .nilIface ∧ wd = wc, fls (decide_eq_false (by omega)) ⟨0, rfl, rfl, rfl, rfl⟩, ?_⟩
  rintro _ _ _ _ _ ⟨rfl, rfl, rfl, rfl⟩
  refine ⟨7, 0, rfl, 52, c0, by decide, fun w3 d3 => ?_⟩
  have x3 := d3.ext
  have x03 := Ext.then xd x3
  refine ⟨7, 0, rfl, -1023, x3.cell c2, 7, 0, rfl, 11, x3.cell c1, by decide, inI64 (by decide) (by decide), inI64 (by decide) (by decide), 7, 0, rfl, 52, x3.cell c0, by decide, ?_⟩
  rw [p11, pm, p52, show IntKind.wrap .i64 (((r / 4503599627370496 : Nat) : Int) - 1023 - -1023) = ((r / 4503599627370496 : Nat) : Int) by rw [wrap_in (inI64 (by omega) (by omega))]; omega]
  have hW' : bits .or .u64 (bits .and .u64 ((mg r : Nat) : Int) 4503599627370495) (IntKind.wrap .u64 ((IntKind.wrap .u64 (bits .and .i64 ((r / 4503599627370496 : Nat) : Int) (2048 - 1))) * ((4503599627370496 : Nat) : Int))) = (r : Int) := hW
  rw [hW']
  refine ⟨fun x k wc => x = ((sgW neg r : Nat) : Int) ∧ Ext wd wc, ?_, ?_⟩
  · cases neg with
    | true =>
      refine tru rfl fun w4 d4 => ⟨7, 0, rfl, 52, Ext.cell (Ext.then x3 d4.ext) c0, by decide, 7, 0, rfl, 11, Ext.cell (Ext.then x3 d4.ext) c1, by decide, 0, ?_, Ext.then x3 d4.ext⟩
      rw [ps, or_top (by omega)]
      show _ = ((r + 9223372036854775808 : Nat) : Int)
      omega
    | false => exact fls rfl ⟨0, rfl, x3⟩
  rintro _ _ wc ⟨rfl, xc⟩
  refine ⟨.inl ⟨_, rfl⟩, false, wc, info_other (hT3.ext (Ext.then xd xc)), fls rfl (frombi_does ⟨_, rfl, ?_, Ext.then xd xc⟩)⟩
  rw [Int.toNat_natCast]
end Go.Proofs.YtffhlgejfgmpiaaGreatDoor
