/-
  Letters: bits.
-/
import Derived.Test.YtgfdgopmbfljeaaRange
namespace Go.Vc
open Go.RowKit
theorem bits_nat (op : BinOp) (x y z : Nat) (hx : x < 9223372036854775808) (hy : y < 9223372036854775808) (hz : z < 9223372036854775808)
    (h : op = .and ∧ x &&& y = z ∨ op = .or ∧ x ||| y = z) : bits op .i64 (x : Int) (y : Int) = (z : Int) := by
  have ex : (BitVec.ofInt 64 (x : Int)).toNat = x := by rw [BitVec.ofInt_natCast, BitVec.toNat_ofNat]; exact Nat.mod_eq_of_lt (by omega)
  have ey : (BitVec.ofInt 64 (y : Int)).toNat = y := by rw [BitVec.ofInt_natCast, BitVec.toNat_ofNat]; exact Nat.mod_eq_of_lt (by omega)
  have hw : IntKind.wrap .i64 ((z : Nat) : Int) = (z : Int) := wrap_in ⟨by show (-9223372036854775808 : Int) ≤ _; omega, by show _ ≤ (9223372036854775807 : Int); omega⟩
  rcases h with ⟨rfl, h⟩ | ⟨rfl, h⟩
  · show IntKind.wrap .i64 (((BitVec.ofInt 64 (x : Int)) &&& (BitVec.ofInt 64 (y : Int))).toNat : Int) = _
    rw [BitVec.toNat_and, ex, ey, h, hw]
  · show IntKind.wrap .i64 (((BitVec.ofInt 64 (x : Int)) ||| (BitVec.ofInt 64 (y : Int))).toNat : Int) = _
    rw [BitVec.toNat_or, ex, ey, h, hw]
theorem and_mask (x k : Nat) (hx : x < 9223372036854775808) (hk : k ≤ 60) : bits .and .i64 (x : Int) ((2 ^ k - 1 : Nat) : Int) = ((x % 2 ^ k : Nat) : Int) := by
  have h2 : (2 : Nat) ^ k ≤ 2 ^ 60 := Nat.pow_le_pow_right (by decide) hk
  have h3 : x % 2 ^ k ≤ x := Nat.mod_le _ _
  exact bits_nat .and x _ _ hx (by have : (2 : Nat) ^ 60 = 1152921504606846976 := by decide
                                   omega) (by omega) (.inl ⟨rfl, Nat.and_two_pow_sub_one_eq_mod x k⟩)
theorem or_six (m y : Nat) (hm : m < 100000000) (hy : y < 64) : bits .or .i64 ((m : Int) * 2 ^ 6) (y : Int) = ((m * 64 + y : Nat) : Int) := by
  have : ((m : Int) * 2 ^ 6) = ((m * 64 : Nat) : Int) := by omega
  rw [this]
  refine bits_nat .or (m * 64) y _ (by omega) (by omega) (by omega) (.inr ⟨rfl, ?_⟩)
  have := Nat.shiftLeft_add_eq_or_of_lt (i := 6) (b := y) (by omega) m
  rw [Nat.shiftLeft_eq] at this
  exact this.symm
theorem u8_63 : ∀ c : Fin 256, bits .and .u8 (c.val : Int) 63 = ((c.val % 64 : Nat) : Int) := by decide +kernel
theorem u8_192 : ∀ c : Fin 256, (bits .and .u8 (c.val : Int) 192 == 128) = decide (128 ≤ c.val ∧ c.val < 192) := by decide +kernel
theorem u8_31 : ∀ c : Fin 256, bits .and .u8 (c.val : Int) 31 = ((c.val % 32 : Nat) : Int) := by decide +kernel
theorem u8_15 : ∀ c : Fin 256, bits .and .u8 (c.val : Int) 15 = ((c.val % 16 : Nat) : Int) := by decide +kernel
theorem u8_7 : ∀ c : Fin 256, bits .and .u8 (c.val : Int) 7 = ((c.val % 8 : Nat) : Int) := by decide +kernel
theorem u8_tail : ∀ c : Fin 64, bits .or .u8 128 (c.val : Int) = ((128 + c.val : Nat) : Int) := by decide +kernel
theorem u8_c0 : ∀ c : Fin 32, bits .or .u8 192 (c.val : Int) = ((192 + c.val : Nat) : Int) := by decide +kernel
theorem u8_e0 : ∀ c : Fin 16, bits .or .u8 224 (c.val : Int) = ((224 + c.val : Nat) : Int) := by decide +kernel
theorem u8_f0 : ∀ c : Fin 8, bits .or .u8 240 (c.val : Int) = ((240 + c.val : Nat) : Int) := by decide +kernel
end Go.Vc
