/-
  Of each function of the code: its verification condition, and that it suffices.
-/
import Derived.Test.YteggcicicdcnlaaVcDoes
import Derived.Test.YteggcicicdcnlaaProg
set_option maxRecDepth 100000
namespace Go.Proofs.Yteggcicicdcnlaa
open Go.RowKit Go.Vc
def bodyOf (fn : Func) : Code := match fn.body with | some c => c | none => .skip
theorem mixed : Try.prog.follows .mixedOrders = true := by kernel_rfl
theorem call3 : callableB Try.prog 3 = true := by kernel_rfl
theorem call4 : callableB Try.prog 4 = true := by kernel_rfl
theorem call5 : callableB Try.prog 5 = true := by kernel_rfl
theorem call6 : callableB Try.prog 6 = true := by kernel_rfl
theorem call7 : callableB Try.prog 7 = true := by kernel_rfl
theorem call8 : callableB Try.prog 8 = true := by kernel_rfl
theorem call9 : callableB Try.prog 9 = true := by kernel_rfl
theorem call10 : callableB Try.prog 10 = true := by kernel_rfl
theorem call11 : callableB Try.prog 11 = true := by kernel_rfl
theorem call12 : callableB Try.prog 12 = true := by kernel_rfl
theorem call13 : callableB Try.prog 13 = true := by kernel_rfl
theorem call14 : callableB Try.prog 14 = true := by kernel_rfl
theorem call15 : callableB Try.prog 15 = true := by kernel_rfl
theorem call16 : callableB Try.prog 16 = true := by kernel_rfl
theorem call17 : callableB Try.prog 17 = true := by kernel_rfl
theorem call18 : callableB Try.prog 18 = true := by kernel_rfl
theorem call19 : callableB Try.prog 19 = true := by kernel_rfl
theorem call20 : callableB Try.prog 20 = true := by kernel_rfl
theorem call21 : callableB Try.prog 21 = true := by kernel_rfl
theorem call22 : callableB Try.prog 22 = true := by kernel_rfl
theorem call23 : callableB Try.prog 23 = true := by kernel_rfl
theorem call24 : callableB Try.prog 24 = true := by kernel_rfl
theorem call25 : callableB Try.prog 25 = true := by kernel_rfl
theorem call26 : callableB Try.prog 26 = true := by kernel_rfl
theorem call27 : callableB Try.prog 27 = true := by kernel_rfl
theorem call28 : callableB Try.prog 28 = true := by kernel_rfl
theorem call29 : callableB Try.prog 29 = true := by kernel_rfl
theorem call30 : callableB Try.prog 30 = true := by kernel_rfl
theorem call31 : callableB Try.prog 31 = true := by kernel_rfl
theorem call32 : callableB Try.prog 32 = true := by kernel_rfl
theorem call33 : callableB Try.prog 33 = true := by kernel_rfl
theorem call34 : callableB Try.prog 34 = true := by kernel_rfl
theorem call35 : callableB Try.prog 35 = true := by kernel_rfl
theorem call36 : callableB Try.prog 36 = true := by kernel_rfl
theorem call37 : callableB Try.prog 37 = true := by kernel_rfl
theorem call38 : callableB Try.prog 38 = true := by kernel_rfl
theorem call39 : callableB Try.prog 39 = true := by kernel_rfl
theorem call40 : callableB Try.prog 40 = true := by kernel_rfl
theorem call41 : callableB Try.prog 41 = true := by kernel_rfl
theorem call42 : callableB Try.prog 42 = true := by kernel_rfl
theorem call43 : callableB Try.prog 43 = true := by kernel_rfl
theorem call44 : callableB Try.prog 44 = true := by kernel_rfl
/-- Of escritoire/escritoirelaw24.KeysCounts (function 3): the condition. -/
def f3_vc (a0 : Int) (a1 : Int) (a2 : Int) (w : World) (R : Ending → World → Prop) : Prop :=
  Does Try.prog 7 #[] w fun e16 w16 =>
  ∃ b16 : Bool, e16 = .returned (.bool b16) ∧ Br (!b16)
  (R (.returned (.bool false)) w16)
  (Does Try.prog 8 #[.bool false] w16 fun e18 w18 =>
  ∃ p18 : Option Addr, e18 = .returned (.pointer p18) ∧ Br p18.isNone
  (R (.returned (.bool false)) w18)
  (InK .i64 (a0) ∧ (300 : Int) ≠ 0 ∧ InK .i64 (a1) ∧ (300 : Int) ≠ 0 ∧ ∀ b27 w27, NewBlk w18 b27 [.string (({ data := #[100] } : ByteArray)), .string (({ data := #[99] } : ByteArray)), .string (({ data := #[121] } : ByteArray)), .string (({ data := #[62] } : ByteArray)), .string (({ data := #[60] } : ByteArray)), .string (({ data := #[103, 117] } : ByteArray)), .string (({ data := #[103, 85] } : ByteArray)), .string (({ data := #[103, 126] } : ByteArray))] 9 w27 →
  InK .i64 (a2) ∧ (8 : Int) ≠ 0 ∧ ((0 : Int) ≤ (a2.tmod 8) ∧ (a2.tmod 8) < (8 : Int)) ∧ ∃ b31 o31, (some ⟨b27, 0, none⟩ : Option Addr) = some ⟨b31, o31, none⟩ ∧ ∃ s32 : ByteArray, w27.cell? ⟨b31, o31 + (a2.tmod 8).toNat, none⟩ = some (.string s32) ∧ Does Try.prog 10 #[.int .i64 (a0.tmod 300)] w27 fun e36 w36 =>
  ∃ s36 : ByteArray, e36 = .returned (.string s36) ∧ ((s36.size + s32.size : Nat) : Int) ≤ 9223372036854775807 ∧ Does Try.prog 10 #[.int .i64 (a1.tmod 300)] w36 fun e40 w40 =>
  ∃ s40 : ByteArray, e40 = .returned (.string s40) ∧ (((s36 ++ s32).size + s40.size : Nat) : Int) ≤ 9223372036854775807 ∧ ((((s36 ++ s32) ++ s40).size + (({ data := #[119] } : ByteArray)).size : Nat) : Int) ≤ 9223372036854775807 ∧ Does Try.prog 9 #[.pointer p18, .string (((s36 ++ s32) ++ s40) ++ (({ data := #[119] } : ByteArray)))] w40 fun e43 w43 =>
  ∃ n43 : Int, ∃ n43_1 : Int, ∃ s43 : ByteArray, ∃ s43_1 : ByteArray, ∃ (p43 : Option Addr) (l43 c43 : Nat), ∃ n43_2 : Int, e43 = .returned (.tuple #[.agg #[.int .u8 n43, .int .i64 n43_1, .string s43, .string s43_1, .slice p43 l43 c43], .int .i64 n43_2]) ∧ ∀ b11 w11, NewBlk w43 b11 [.int .u8 0, .int .i64 0, .string (({ data := #[] } : ByteArray)), .string (({ data := #[] } : ByteArray)), .slice none 0 0] 29 w11 →
  CanStore w11 b11 0 ∧ ∀ ws, Stored w11 b11 0 (.int .u8 n43) ws →
  CanStore ws b11 1 ∧ ∀ ws_1, Stored ws b11 1 (.int .i64 n43_1) ws_1 →
  CanStore ws_1 b11 2 ∧ ∀ ws_2, Stored ws_1 b11 2 (.string s43) ws_2 →
  CanStore ws_2 b11 3 ∧ ∀ ws_3, Stored ws_2 b11 3 (.string s43_1) ws_3 →
  CanStore ws_3 b11 4 ∧ ∀ ws_4, Stored ws_3 b11 4 (.slice p43 l43 c43) ws_4 →
  ∃ J12 : Int → Nat → World → Prop, (Br (decide ((a0.tmod 300) > 0))
  (InK .i64 ((if 99 < if a0.tmod 300 < 1 then 1 else a0.tmod 300 then 99 else if a0.tmod 300 < 1 then 1 else a0.tmod 300) * (if 99 < if a1.tmod 300 < 1 then 1 else a1.tmod 300 then 99 else if a1.tmod 300 < 1 then 1 else a1.tmod 300)) ∧ ∃ nc12, J12 (if 99 < (if 99 < if a0.tmod 300 < 1 then 1 else a0.tmod 300 then 99 else if a0.tmod 300 < 1 then 1 else a0.tmod 300) * (if 99 < if a1.tmod 300 < 1 then 1 else a1.tmod 300 then 99 else if a1.tmod 300 < 1 then 1 else a1.tmod 300) then 99 else (if 99 < if a0.tmod 300 < 1 then 1 else a0.tmod 300 then 99 else if a0.tmod 300 < 1 then 1 else a0.tmod 300) * (if 99 < if a1.tmod 300 < 1 then 1 else a1.tmod 300 then 99 else if a1.tmod 300 < 1 then 1 else a1.tmod 300)) nc12 ws_4)
  (Br (decide ((a1.tmod 300) > 0))
  (InK .i64 ((if 99 < if a0.tmod 300 < 1 then 1 else a0.tmod 300 then 99 else if a0.tmod 300 < 1 then 1 else a0.tmod 300) * (if 99 < if a1.tmod 300 < 1 then 1 else a1.tmod 300 then 99 else if a1.tmod 300 < 1 then 1 else a1.tmod 300)) ∧ ∃ nc12, J12 (if 99 < (if 99 < if a0.tmod 300 < 1 then 1 else a0.tmod 300 then 99 else if a0.tmod 300 < 1 then 1 else a0.tmod 300) * (if 99 < if a1.tmod 300 < 1 then 1 else a1.tmod 300 then 99 else if a1.tmod 300 < 1 then 1 else a1.tmod 300) then 99 else (if 99 < if a0.tmod 300 < 1 then 1 else a0.tmod 300 then 99 else if a0.tmod 300 < 1 then 1 else a0.tmod 300) * (if 99 < if a1.tmod 300 < 1 then 1 else a1.tmod 300 then 99 else if a1.tmod 300 < 1 then 1 else a1.tmod 300)) nc12 ws_4)
  (∃ nc12, J12 0 nc12 ws_4))) ∧ ∀ x13 : Int, ∀ (nc12 : Nat) (wc12 : World), J12 x13 nc12 wc12 →
  Does Try.prog 10 #[.int .i64 (a0.tmod 300)] wc12 fun e63 w63 =>
  ∃ s63 : ByteArray, e63 = .returned (.string s63) ∧ ((s63.size + (({ data := #[120] } : ByteArray)).size : Nat) : Int) ≤ 9223372036854775807 ∧ Does Try.prog 9 #[.pointer p18, .string (s63 ++ (({ data := #[120] } : ByteArray)))] w63 fun e65 w65 =>
  ∃ n65 : Int, ∃ n65_1 : Int, ∃ s65 : ByteArray, ∃ s65_1 : ByteArray, ∃ (p65 : Option Addr) (l65 c65 : Nat), ∃ n65_2 : Int, e65 = .returned (.tuple #[.agg #[.int .u8 n65, .int .i64 n65_1, .string s65, .string s65_1, .slice p65 l65 c65], .int .i64 n65_2]) ∧ ∀ b14 w14, NewBlk w65 b14 [.int .u8 0, .int .i64 0, .string (({ data := #[] } : ByteArray)), .string (({ data := #[] } : ByteArray)), .slice none 0 0] 29 w14 →
  CanStore w14 b14 0 ∧ ∀ ws_5, Stored w14 b14 0 (.int .u8 n65) ws_5 →
  CanStore ws_5 b14 1 ∧ ∀ ws_6, Stored ws_5 b14 1 (.int .i64 n65_1) ws_6 →
  CanStore ws_6 b14 2 ∧ ∀ ws_7, Stored ws_6 b14 2 (.string s65) ws_7 →
  CanStore ws_7 b14 3 ∧ ∀ ws_8, Stored ws_7 b14 3 (.string s65_1) ws_8 →
  CanStore ws_8 b14 4 ∧ ∀ ws_9, Stored ws_8 b14 4 (.slice p65 l65 c65) ws_9 →
  Br (n43_2 == 1)
  (∃ s72 : ByteArray, ws_9.cell? ⟨b11, 2, none⟩ = some (.string s72) ∧ Br (s72.toList == s32.toList)
  (∃ s78 : ByteArray, ws_9.cell? ⟨b11, 3, none⟩ = some (.string s78) ∧ Br (s78.toList == (({ data := #[119] } : ByteArray)).toList)
  (∃ n83 : Int, ws_9.cell? ⟨b11, 1, none⟩ = some (.int .i64 n83) ∧ Br (n83 == x13)
  (Br (n65_2 == 1)
  (∃ s93 : ByteArray, ws_9.cell? ⟨b14, 2, none⟩ = some (.string s93) ∧ Br (s93.toList == (({ data := #[120] } : ByteArray)).toList)
  (∃ n98 : Int, ws_9.cell? ⟨b14, 1, none⟩ = some (.int .i64 n98) ∧ R (.returned (.bool (n98 == (if 99 < a0.tmod 300 then 99 else a0.tmod 300)))) ws_9)
  (R (.returned (.bool false)) ws_9))
  (R (.returned (.bool false)) ws_9))
  (R (.returned (.bool false)) ws_9))
  (R (.returned (.bool false)) ws_9))
  (R (.returned (.bool false)) ws_9))
  (R (.returned (.bool false)) ws_9)))
def f3_ann : Ann := { loops := [], cuts := [(12, [(13, .int .i64)])], flip := [], throws := [] }
theorem f3_eq (a0 : Int) (a1 : Int) (a2 : Int) (w : World) (R : Ending → World → Prop) : vc Try.prog f3_ann (bodyOf Try.f3) (retQ Try.prog Try.f3 R) (envOf Try.f3.ntmps [.v (.int .u16 a0), .v (.int .u16 a1), .v (.int .u8 a2)]) [] w = f3_vc a0 a1 a2 w R := by kernel_rfl
theorem f3_does (a0 : Int) (a1 : Int) (a2 : Int) {w : World} {R : Ending → World → Prop} (h : f3_vc a0 a1 a2 w R) : Does Try.prog 3 #[.int .u16 a0, .int .u16 a1, .int .u8 a2] w R :=
  does_of_vc (ss := [.v (.int .u16 a0), .v (.int .u16 a1), .v (.int .u8 a2)]) f3_ann mixed call3 Try.func3 rfl rfl (show 3 ≤ Try.f3.ntmps by decide) ((f3_eq a0 a1 a2 w R).symm ▸ h)
/-- Of escritoire/escritoirelaw24.KeysKnown (function 4): the condition. -/
def f4_vc  (w : World) (R : Ending → World → Prop) : Prop :=
  Does Try.prog 7 #[] w fun e14 w14 =>
  ∃ b14 : Bool, e14 = .returned (.bool b14) ∧ Br (!b14)
  (R (.returned (.bool false)) w14)
  (Does Try.prog 8 #[.bool false] w14 fun e16 w16 =>
  ∃ p16 : Option Addr, e16 = .returned (.pointer p16) ∧ Br p16.isNone
  (R (.returned (.bool false)) w16)
  (Does Try.prog 9 #[.pointer p16, .string (({ data := #[34, 97, 121, 121] } : ByteArray))] w16 fun e21 w21 =>
  ∃ n21 : Int, ∃ n21_1 : Int, ∃ s21 : ByteArray, ∃ s21_1 : ByteArray, ∃ (p21 : Option Addr) (l21 c21 : Nat), ∃ n21_2 : Int, e21 = .returned (.tuple #[.agg #[.int .u8 n21, .int .i64 n21_1, .string s21, .string s21_1, .slice p21 l21 c21], .int .i64 n21_2]) ∧ ∀ b2 w2, NewBlk w21 b2 [.int .u8 0, .int .i64 0, .string (({ data := #[] } : ByteArray)), .string (({ data := #[] } : ByteArray)), .slice none 0 0] 29 w2 →
  CanStore w2 b2 0 ∧ ∀ ws, Stored w2 b2 0 (.int .u8 n21) ws →
  CanStore ws b2 1 ∧ ∀ ws_1, Stored ws b2 1 (.int .i64 n21_1) ws_1 →
  CanStore ws_1 b2 2 ∧ ∀ ws_2, Stored ws_1 b2 2 (.string s21) ws_2 →
  CanStore ws_2 b2 3 ∧ ∀ ws_3, Stored ws_2 b2 3 (.string s21_1) ws_3 →
  CanStore ws_3 b2 4 ∧ ∀ ws_4, Stored ws_3 b2 4 (.slice p21 l21 c21) ws_4 →
  Does Try.prog 9 #[.pointer p16, .string (({ data := #[103, 85, 85] } : ByteArray))] ws_4 fun e26 w26 =>
  ∃ n26 : Int, ∃ n26_1 : Int, ∃ s26 : ByteArray, ∃ s26_1 : ByteArray, ∃ (p26 : Option Addr) (l26 c26 : Nat), ∃ n26_2 : Int, e26 = .returned (.tuple #[.agg #[.int .u8 n26, .int .i64 n26_1, .string s26, .string s26_1, .slice p26 l26 c26], .int .i64 n26_2]) ∧ ∀ b4 w4, NewBlk w26 b4 [.int .u8 0, .int .i64 0, .string (({ data := #[] } : ByteArray)), .string (({ data := #[] } : ByteArray)), .slice none 0 0] 29 w4 →
  CanStore w4 b4 0 ∧ ∀ ws_5, Stored w4 b4 0 (.int .u8 n26) ws_5 →
  CanStore ws_5 b4 1 ∧ ∀ ws_6, Stored ws_5 b4 1 (.int .i64 n26_1) ws_6 →
  CanStore ws_6 b4 2 ∧ ∀ ws_7, Stored ws_6 b4 2 (.string s26) ws_7 →
  CanStore ws_7 b4 3 ∧ ∀ ws_8, Stored ws_7 b4 3 (.string s26_1) ws_8 →
  CanStore ws_8 b4 4 ∧ ∀ ws_9, Stored ws_8 b4 4 (.slice p26 l26 c26) ws_9 →
  Does Try.prog 9 #[.pointer p16, .string (({ data := #[48] } : ByteArray))] ws_9 fun e31 w31 =>
  ∃ n31 : Int, ∃ n31_1 : Int, ∃ s31 : ByteArray, ∃ s31_1 : ByteArray, ∃ (p31 : Option Addr) (l31 c31 : Nat), ∃ n31_2 : Int, e31 = .returned (.tuple #[.agg #[.int .u8 n31, .int .i64 n31_1, .string s31, .string s31_1, .slice p31 l31 c31], .int .i64 n31_2]) ∧ ∀ b6 w6, NewBlk w31 b6 [.int .u8 0, .int .i64 0, .string (({ data := #[] } : ByteArray)), .string (({ data := #[] } : ByteArray)), .slice none 0 0] 29 w6 →
  CanStore w6 b6 0 ∧ ∀ ws_10, Stored w6 b6 0 (.int .u8 n31) ws_10 →
  CanStore ws_10 b6 1 ∧ ∀ ws_11, Stored ws_10 b6 1 (.int .i64 n31_1) ws_11 →
  CanStore ws_11 b6 2 ∧ ∀ ws_12, Stored ws_11 b6 2 (.string s31) ws_12 →
  CanStore ws_12 b6 3 ∧ ∀ ws_13, Stored ws_12 b6 3 (.string s31_1) ws_13 →
  CanStore ws_13 b6 4 ∧ ∀ ws_14, Stored ws_13 b6 4 (.slice p31 l31 c31) ws_14 →
  Does Try.prog 9 #[.pointer p16, .string (({ data := #[120] } : ByteArray))] ws_14 fun e36 w36 =>
  ∃ n36 : Int, ∃ n36_1 : Int, ∃ s36 : ByteArray, ∃ s36_1 : ByteArray, ∃ (p36 : Option Addr) (l36 c36 : Nat), ∃ n36_2 : Int, e36 = .returned (.tuple #[.agg #[.int .u8 n36, .int .i64 n36_1, .string s36, .string s36_1, .slice p36 l36 c36], .int .i64 n36_2]) ∧ ∀ b8 w8, NewBlk w36 b8 [.int .u8 0, .int .i64 0, .string (({ data := #[] } : ByteArray)), .string (({ data := #[] } : ByteArray)), .slice none 0 0] 29 w8 →
  CanStore w8 b8 0 ∧ ∀ ws_15, Stored w8 b8 0 (.int .u8 n36) ws_15 →
  CanStore ws_15 b8 1 ∧ ∀ ws_16, Stored ws_15 b8 1 (.int .i64 n36_1) ws_16 →
  CanStore ws_16 b8 2 ∧ ∀ ws_17, Stored ws_16 b8 2 (.string s36) ws_17 →
  CanStore ws_17 b8 3 ∧ ∀ ws_18, Stored ws_17 b8 3 (.string s36_1) ws_18 →
  CanStore ws_18 b8 4 ∧ ∀ ws_19, Stored ws_18 b8 4 (.slice p36 l36 c36) ws_19 →
  Does Try.prog 9 #[.pointer p16, .string (({ data := #[122] } : ByteArray))] ws_19 fun e41 w41 =>
  ∃ n41 : Int, ∃ n41_1 : Int, ∃ s41 : ByteArray, ∃ s41_1 : ByteArray, ∃ (p41 : Option Addr) (l41 c41 : Nat), ∃ n41_2 : Int, e41 = .returned (.tuple #[.agg #[.int .u8 n41, .int .i64 n41_1, .string s41, .string s41_1, .slice p41 l41 c41], .int .i64 n41_2]) ∧ ∀ b10 w10, NewBlk w41 b10 [.int .u8 0, .int .i64 0, .string (({ data := #[] } : ByteArray)), .string (({ data := #[] } : ByteArray)), .slice none 0 0] 29 w10 →
  CanStore w10 b10 0 ∧ ∀ ws_20, Stored w10 b10 0 (.int .u8 n41) ws_20 →
  CanStore ws_20 b10 1 ∧ ∀ ws_21, Stored ws_20 b10 1 (.int .i64 n41_1) ws_21 →
  CanStore ws_21 b10 2 ∧ ∀ ws_22, Stored ws_21 b10 2 (.string s41) ws_22 →
  CanStore ws_22 b10 3 ∧ ∀ ws_23, Stored ws_22 b10 3 (.string s41_1) ws_23 →
  CanStore ws_23 b10 4 ∧ ∀ ws_24, Stored ws_23 b10 4 (.slice p41 l41 c41) ws_24 →
  Does Try.prog 9 #[.pointer p16, .string (({ data := #[100, 27] } : ByteArray))] ws_24 fun e46 w46 =>
  ∃ n46 : Int, ∃ n46_1 : Int, ∃ s46 : ByteArray, ∃ s46_1 : ByteArray, ∃ (p46 : Option Addr) (l46 c46 : Nat), ∃ n46_2 : Int, e46 = .returned (.tuple #[.agg #[.int .u8 n46, .int .i64 n46_1, .string s46, .string s46_1, .slice p46 l46 c46], .int .i64 n46_2]) ∧ ∀ b12 w12, NewBlk w46 b12 [.int .u8 0, .int .i64 0, .string (({ data := #[] } : ByteArray)), .string (({ data := #[] } : ByteArray)), .slice none 0 0] 29 w12 →
  CanStore w12 b12 0 ∧ ∀ ws_25, Stored w12 b12 0 (.int .u8 n46) ws_25 →
  CanStore ws_25 b12 1 ∧ ∀ ws_26, Stored ws_25 b12 1 (.int .i64 n46_1) ws_26 →
  CanStore ws_26 b12 2 ∧ ∀ ws_27, Stored ws_26 b12 2 (.string s46) ws_27 →
  CanStore ws_27 b12 3 ∧ ∀ ws_28, Stored ws_27 b12 3 (.string s46_1) ws_28 →
  CanStore ws_28 b12 4 ∧ ∀ ws_29, Stored ws_28 b12 4 (.slice p46 l46 c46) ws_29 →
  ∃ n50 : Int, ws_29.cell? ⟨b2, 0, none⟩ = some (.int .u8 n50) ∧ Br (n50 == 97)
  (∃ s54 : ByteArray, ws_29.cell? ⟨b2, 2, none⟩ = some (.string s54) ∧ Br (s54.toList == (({ data := #[121] } : ByteArray)).toList)
  (∃ s59 : ByteArray, ws_29.cell? ⟨b2, 3, none⟩ = some (.string s59) ∧ Br (s59.toList == (({ data := #[95] } : ByteArray)).toList)
  (∃ s64 : ByteArray, ws_29.cell? ⟨b4, 2, none⟩ = some (.string s64) ∧ Br (s64.toList == (({ data := #[103, 85] } : ByteArray)).toList)
  (∃ s69 : ByteArray, ws_29.cell? ⟨b4, 3, none⟩ = some (.string s69) ∧ Br (s69.toList == (({ data := #[95] } : ByteArray)).toList)
  (∃ s74 : ByteArray, ws_29.cell? ⟨b6, 3, none⟩ = some (.string s74) ∧ Br (s74.toList == (({ data := #[48] } : ByteArray)).toList)
  (∃ s79 : ByteArray, ws_29.cell? ⟨b6, 2, none⟩ = some (.string s79) ∧ Br (s79.toList == (({ data := #[] } : ByteArray)).toList)
  (∃ s84 : ByteArray, ws_29.cell? ⟨b8, 2, none⟩ = some (.string s84) ∧ Br (s84.toList == (({ data := #[120] } : ByteArray)).toList)
  (Br (n41_2 == 2)
  (Br (n46_2 == 2)
  (Does Try.prog 11 #[.pointer p16] ws_29 fun e97 w97 =>
  ∃ s97 : ByteArray, e97 = .returned (.string s97) ∧ R (.returned (.bool (s97.toList == (({ data := #[] } : ByteArray)).toList))) w97)
  (R (.returned (.bool false)) ws_29))
  (R (.returned (.bool false)) ws_29))
  (R (.returned (.bool false)) ws_29))
  (R (.returned (.bool false)) ws_29))
  (R (.returned (.bool false)) ws_29))
  (R (.returned (.bool false)) ws_29))
  (R (.returned (.bool false)) ws_29))
  (R (.returned (.bool false)) ws_29))
  (R (.returned (.bool false)) ws_29))
  (R (.returned (.bool false)) ws_29)))
def f4_ann : Ann := { loops := [], cuts := [], flip := [], throws := [] }
theorem f4_eq  (w : World) (R : Ending → World → Prop) : vc Try.prog f4_ann (bodyOf Try.f4) (retQ Try.prog Try.f4 R) (envOf Try.f4.ntmps []) [] w = f4_vc  w R := by kernel_rfl
theorem f4_does  {w : World} {R : Ending → World → Prop} (h : f4_vc  w R) : Does Try.prog 4 #[] w R :=
  does_of_vc (ss := []) f4_ann mixed call4 Try.func4 rfl rfl (show 0 ≤ Try.f4.ntmps by decide) ((f4_eq  w R).symm ▸ h)
/-- Of escritoire/escritoirelaw24.KeysFeeds (function 5): the condition. -/
def f5_vc (a0 : Bool) (p1 : Option Addr) (l1 c1 : Nat) (w : World) (R : Ending → World → Prop) : Prop :=
  Does Try.prog 7 #[] w fun e12 w12 =>
  ∃ b12 : Bool, e12 = .returned (.bool b12) ∧ Br (!b12)
  (R (.returned (.bool false)) w12)
  (Br (decide (((l1 : Int)) > 500))
  (R (.returned (.bool true)) w12)
  (Does Try.prog 8 #[.bool a0] w12 fun e18 w18 =>
  ∃ p18 : Option Addr, e18 = .returned (.pointer p18) ∧ ∀ b21 w21, NewBlk w18 b21 [.bool a0, .slice none 0 0] 37 w21 →
  Br p18.isNone
  (R (.returned (.bool false)) w21)
  (∃ I10 : Int → Nat → World → Prop, (∃ nl10, I10 0 nl10 w21) ∧ ∀ x7 : Int, ∀ (nl10 : Nat) (wl10 : World), I10 x7 nl10 wl10 →
  Br (decide (x7 < ((l1 : Int))))
  (((0 : Int) ≤ x7 ∧ x7 < (l1 : Int)) ∧ ∃ b34 o34, p1 = some ⟨b34, o34, none⟩ ∧ ∃ n35 : Int, wl10.cell? ⟨b34, o34 + (x7).toNat, none⟩ = some (.int .u8 n35) ∧ Does Try.prog 12 #[.pointer p18, .int .u8 n35] wl10 fun e36 w36 =>
  ∃ n36 : Int, ∃ n36_1 : Int, ∃ s36 : ByteArray, ∃ s36_1 : ByteArray, ∃ (p36 : Option Addr) (l36 c36 : Nat), ∃ n36_2 : Int, e36 = .returned (.tuple #[.agg #[.int .u8 n36, .int .i64 n36_1, .string s36, .string s36_1, .slice p36 l36 c36], .int .i64 n36_2]) ∧ ∀ b8 w8, NewBlk w36 b8 [.int .u8 0, .int .i64 0, .string (({ data := #[] } : ByteArray)), .string (({ data := #[] } : ByteArray)), .slice none 0 0] 29 w8 →
  CanStore w8 b8 0 ∧ ∀ ws, Stored w8 b8 0 (.int .u8 n36) ws →
  CanStore ws b8 1 ∧ ∀ ws_1, Stored ws b8 1 (.int .i64 n36_1) ws_1 →
  CanStore ws_1 b8 2 ∧ ∀ ws_2, Stored ws_1 b8 2 (.string s36) ws_2 →
  CanStore ws_2 b8 3 ∧ ∀ ws_3, Stored ws_2 b8 3 (.string s36_1) ws_3 →
  CanStore ws_3 b8 4 ∧ ∀ ws_4, Stored ws_3 b8 4 (.slice p36 l36 c36) ws_4 →
  ((0 : Int) ≤ x7 ∧ x7 < (l1 : Int)) ∧ ∃ b43 o43, p1 = some ⟨b43, o43, none⟩ ∧ ∃ n44 : Int, ws_4.cell? ⟨b43, o43 + (x7).toNat, none⟩ = some (.int .u8 n44) ∧ Does Try.prog 13 #[.pointer (some ⟨b21, 0, none⟩), .int .u8 n44] ws_4 fun e45 w45 =>
  ∃ n45 : Int, ∃ n45_1 : Int, ∃ s45 : ByteArray, ∃ s45_1 : ByteArray, ∃ (p45 : Option Addr) (l45 c45 : Nat), ∃ n45_2 : Int, e45 = .returned (.tuple #[.agg #[.int .u8 n45, .int .i64 n45_1, .string s45, .string s45_1, .slice p45 l45 c45], .int .i64 n45_2]) ∧ ∀ b10 w10, NewBlk w45 b10 [.int .u8 0, .int .i64 0, .string (({ data := #[] } : ByteArray)), .string (({ data := #[] } : ByteArray)), .slice none 0 0] 39 w10 →
  CanStore w10 b10 0 ∧ ∀ ws_5, Stored w10 b10 0 (.int .u8 n45) ws_5 →
  CanStore ws_5 b10 1 ∧ ∀ ws_6, Stored ws_5 b10 1 (.int .i64 n45_1) ws_6 →
  CanStore ws_6 b10 2 ∧ ∀ ws_7, Stored ws_6 b10 2 (.string s45) ws_7 →
  CanStore ws_7 b10 3 ∧ ∀ ws_8, Stored ws_7 b10 3 (.string s45_1) ws_8 →
  CanStore ws_8 b10 4 ∧ ∀ ws_9, Stored ws_8 b10 4 (.slice p45 l45 c45) ws_9 →
  ∀ wd14, Drew ws_9 wd14 →
  ∃ S14 : World → Prop, S14 wd14 ∧ Br (n36_2 != n45_2)
  ((R (.returned (.bool false)) wd14) ∧
  (R (.returned (.bool false)) wd14))
  (∃ n52 : Int, (∀ w, S14 w → w.cell? ⟨b8, 0, none⟩ = some (.int .u8 n52)) ∧ ∃ n52_1 : Int, (∀ w, S14 w → w.cell? ⟨b8, 1, none⟩ = some (.int .i64 n52_1)) ∧ ∃ s52 : ByteArray, (∀ w, S14 w → w.cell? ⟨b8, 2, none⟩ = some (.string s52)) ∧ ∃ s52_1 : ByteArray, (∀ w, S14 w → w.cell? ⟨b8, 3, none⟩ = some (.string s52_1)) ∧ ∃ (p52 : Option Addr) (l52 c52 : Nat), (∀ w, S14 w → w.cell? ⟨b8, 4, none⟩ = some (.slice p52 l52 c52)) ∧ ∃ n54 : Int, (∀ w, S14 w → w.cell? ⟨b10, 0, none⟩ = some (.int .u8 n54)) ∧ ∃ n54_1 : Int, (∀ w, S14 w → w.cell? ⟨b10, 1, none⟩ = some (.int .i64 n54_1)) ∧ ∃ s54 : ByteArray, (∀ w, S14 w → w.cell? ⟨b10, 2, none⟩ = some (.string s54)) ∧ ∃ s54_1 : ByteArray, (∀ w, S14 w → w.cell? ⟨b10, 3, none⟩ = some (.string s54_1)) ∧ ∃ (p54 : Option Addr) (l54 c54 : Nat), (∀ w, S14 w → w.cell? ⟨b10, 4, none⟩ = some (.slice p54 l54 c54)) ∧ Does Try.prog 15 #[.agg #[.int .u8 n52, .int .i64 n52_1, .string s52, .string s52_1, .slice p52 l52 c52]] wd14 fun e53 w53 =>
  ∃ n53 : Int, ∃ n53_1 : Int, ∃ s53 : ByteArray, ∃ s53_1 : ByteArray, ∃ (p53 : Option Addr) (l53 c53 : Nat), e53 = .returned (.agg #[.int .u8 n53, .int .i64 n53_1, .string s53, .string s53_1, .slice p53 l53 c53]) ∧ S14 w53 ∧ Does Try.prog 14 #[.agg #[.int .u8 n53, .int .i64 n53_1, .string s53, .string s53_1, .slice p53 l53 c53], .agg #[.int .u8 n54, .int .i64 n54_1, .string s54, .string s54_1, .slice p54 l54 c54]] w53 fun e55 w55 =>
  ∃ b55 : Bool, e55 = .returned (.bool b55) ∧ S14 w55 ∧ Br (!b55)
  ((R (.returned (.bool false)) w55) ∧
  (R (.returned (.bool false)) w55))
  (∃ (p64 : Option Addr) (l64 c64 : Nat), (∀ w, S14 w → w.cell? ⟨b21, 1, none⟩ = some (.slice p64 l64 c64)) ∧ (Does Try.prog 11 #[.pointer p18] w55 fun e60 w60 =>
  ∃ s60 : ByteArray, e60 = .returned (.string s60) ∧ S14 w60 ∧ ∃ s65 : ByteArray, ∃ w65, (convert 27 9 (.slice p64 l64 c64)).run Try.prog w60 = .ok (.string s65) w65 ∧ S14 w65 ∧ Br (!(s60.toList == s65.toList))
  (R (.returned (.bool false)) w65)
  (InK .i64 (x7 + 1) ∧ ∃ ml10, ml10 < nl10 ∧ I10 (x7 + 1) ml10 w65)) ∧
  (∃ s65_1 : ByteArray, ∃ w65_1, (convert 27 9 (.slice p64 l64 c64)).run Try.prog w55 = .ok (.string s65_1) w65_1 ∧ S14 w65_1 ∧ Does Try.prog 11 #[.pointer p18] w65_1 fun e60_1 w60_1 =>
  ∃ s60_1 : ByteArray, e60_1 = .returned (.string s60_1) ∧ S14 w60_1 ∧ Br (!(s60_1.toList == s65_1.toList))
  (R (.returned (.bool false)) w60_1)
  (InK .i64 (x7 + 1) ∧ ∃ ml10, ml10 < nl10 ∧ I10 (x7 + 1) ml10 w60_1)))))
  (Does Try.prog 16 #[.pointer p18] wl10 fun e69 w69 =>
  e69 = .returned (.tuple #[]) ∧ Does Try.prog 11 #[.pointer p18] w69 fun e71 w71 =>
  ∃ s71 : ByteArray, e71 = .returned (.string s71) ∧ R (.returned (.bool (s71.toList == (({ data := #[] } : ByteArray)).toList))) w71))))
def f5_ann : Ann := { loops := [(10, [(7, .int .i64)])], cuts := [], flip := [], throws := [] }
theorem f5_eq (a0 : Bool) (p1 : Option Addr) (l1 c1 : Nat) (w : World) (R : Ending → World → Prop) : vc Try.prog f5_ann (bodyOf Try.f5) (retQ Try.prog Try.f5 R) (envOf Try.f5.ntmps [.v (.bool a0), .v (.slice p1 l1 c1)]) [] w = f5_vc a0 p1 l1 c1 w R := by kernel_rfl
theorem f5_does (a0 : Bool) (p1 : Option Addr) (l1 c1 : Nat) {w : World} {R : Ending → World → Prop} (h : f5_vc a0 p1 l1 c1 w R) : Does Try.prog 5 #[.bool a0, .slice p1 l1 c1] w R :=
  does_of_vc (ss := [.v (.bool a0), .v (.slice p1 l1 c1)]) f5_ann mixed call5 Try.func5 rfl rfl (show 2 ≤ Try.f5.ntmps by decide) ((f5_eq a0 p1 l1 c1 w R).symm ▸ h)
/-- Of escritoire/escritoirelaw24.KeysFresh (function 6): the condition. -/
def f6_vc (a0 : Bool) (p1 : Option Addr) (l1 c1 : Nat) (p2 : Option Addr) (l2 c2 : Nat) (w : World) (R : Ending → World → Prop) : Prop :=
  Does Try.prog 7 #[] w fun e17 w17 =>
  ∃ b17 : Bool, e17 = .returned (.bool b17) ∧ Br (!b17)
  (R (.returned (.bool false)) w17)
  (Br (decide (((l1 : Int)) > 300))
  (R (.returned (.bool true)) w17)
  (Br (decide (((l2 : Int)) > 300))
  (R (.returned (.bool true)) w17)
  (Does Try.prog 8 #[.bool a0] w17 fun e28 w28 =>
  ∃ p28 : Option Addr, e28 = .returned (.pointer p28) ∧ Does Try.prog 8 #[.bool a0] w28 fun e30 w30 =>
  ∃ p30 : Option Addr, e30 = .returned (.pointer p30) ∧ Br p28.isNone
  (R (.returned (.bool false)) w30)
  (Br p30.isNone
  (R (.returned (.bool false)) w30)
  (∃ I10 : Int → Nat → World → Prop, (∃ nl10, I10 0 nl10 w30) ∧ ∀ x9 : Int, ∀ (nl10 : Nat) (wl10 : World), I10 x9 nl10 wl10 →
  Br (decide (x9 < ((l1 : Int))))
  (((0 : Int) ≤ x9 ∧ x9 < (l1 : Int)) ∧ ∃ b47 o47, p1 = some ⟨b47, o47, none⟩ ∧ ∃ n48 : Int, wl10.cell? ⟨b47, o47 + (x9).toNat, none⟩ = some (.int .u8 n48) ∧ Does Try.prog 12 #[.pointer p28, .int .u8 n48] wl10 fun e49 w49 =>
  ∃ n49 : Int, ∃ n49_1 : Int, ∃ s49 : ByteArray, ∃ s49_1 : ByteArray, ∃ (p49 : Option Addr) (l49 c49 : Nat), ∃ n49_2 : Int, e49 = .returned (.tuple #[.agg #[.int .u8 n49, .int .i64 n49_1, .string s49, .string s49_1, .slice p49 l49 c49], .int .i64 n49_2]) ∧ ∀ b10 w10, NewBlk w49 b10 [.int .u8 0, .int .i64 0, .string (({ data := #[] } : ByteArray)), .string (({ data := #[] } : ByteArray)), .slice none 0 0] 29 w10 →
  CanStore w10 b10 0 ∧ ∀ ws, Stored w10 b10 0 (.int .u8 n49) ws →
  CanStore ws b10 1 ∧ ∀ ws_1, Stored ws b10 1 (.int .i64 n49_1) ws_1 →
  CanStore ws_1 b10 2 ∧ ∀ ws_2, Stored ws_1 b10 2 (.string s49) ws_2 →
  CanStore ws_2 b10 3 ∧ ∀ ws_3, Stored ws_2 b10 3 (.string s49_1) ws_3 →
  CanStore ws_3 b10 4 ∧ ∀ ws_4, Stored ws_3 b10 4 (.slice p49 l49 c49) ws_4 →
  Br (n49_2 != 0)
  (Does Try.prog 11 #[.pointer p28] ws_4 fun e56 w56 =>
  ∃ s56 : ByteArray, e56 = .returned (.string s56) ∧ Br (!(s56.toList == (({ data := #[] } : ByteArray)).toList))
  (R (.returned (.bool false)) w56)
  (InK .i64 (x9 + 1) ∧ ∃ ml10, ml10 < nl10 ∧ I10 (x9 + 1) ml10 w56))
  (InK .i64 (x9 + 1) ∧ ∃ ml10, ml10 < nl10 ∧ I10 (x9 + 1) ml10 ws_4))
  (Does Try.prog 16 #[.pointer p28] wl10 fun e60 w60 =>
  e60 = .returned (.tuple #[]) ∧ ∃ I17 : Int → Nat → World → Prop, (∃ nl17, I17 0 nl17 w60) ∧ ∀ x12 : Int, ∀ (nl17 : Nat) (wl17 : World), I17 x12 nl17 wl17 →
  Br (decide (x12 < ((l2 : Int))))
  (((0 : Int) ≤ x12 ∧ x12 < (l2 : Int)) ∧ ∃ b71 o71, p2 = some ⟨b71, o71, none⟩ ∧ ∃ n72 : Int, wl17.cell? ⟨b71, o71 + (x12).toNat, none⟩ = some (.int .u8 n72) ∧ Does Try.prog 12 #[.pointer p28, .int .u8 n72] wl17 fun e73 w73 =>
  ∃ n73 : Int, ∃ n73_1 : Int, ∃ s73 : ByteArray, ∃ s73_1 : ByteArray, ∃ (p73 : Option Addr) (l73 c73 : Nat), ∃ n73_2 : Int, e73 = .returned (.tuple #[.agg #[.int .u8 n73, .int .i64 n73_1, .string s73, .string s73_1, .slice p73 l73 c73], .int .i64 n73_2]) ∧ ∀ b13 w13, NewBlk w73 b13 [.int .u8 0, .int .i64 0, .string (({ data := #[] } : ByteArray)), .string (({ data := #[] } : ByteArray)), .slice none 0 0] 29 w13 →
  CanStore w13 b13 0 ∧ ∀ ws_5, Stored w13 b13 0 (.int .u8 n73) ws_5 →
  CanStore ws_5 b13 1 ∧ ∀ ws_6, Stored ws_5 b13 1 (.int .i64 n73_1) ws_6 →
  CanStore ws_6 b13 2 ∧ ∀ ws_7, Stored ws_6 b13 2 (.string s73) ws_7 →
  CanStore ws_7 b13 3 ∧ ∀ ws_8, Stored ws_7 b13 3 (.string s73_1) ws_8 →
  CanStore ws_8 b13 4 ∧ ∀ ws_9, Stored ws_8 b13 4 (.slice p73 l73 c73) ws_9 →
  ((0 : Int) ≤ x12 ∧ x12 < (l2 : Int)) ∧ ∃ b80 o80, p2 = some ⟨b80, o80, none⟩ ∧ ∃ n81 : Int, ws_9.cell? ⟨b80, o80 + (x12).toNat, none⟩ = some (.int .u8 n81) ∧ Does Try.prog 12 #[.pointer p30, .int .u8 n81] ws_9 fun e82 w82 =>
  ∃ n82 : Int, ∃ n82_1 : Int, ∃ s82 : ByteArray, ∃ s82_1 : ByteArray, ∃ (p82 : Option Addr) (l82 c82 : Nat), ∃ n82_2 : Int, e82 = .returned (.tuple #[.agg #[.int .u8 n82, .int .i64 n82_1, .string s82, .string s82_1, .slice p82 l82 c82], .int .i64 n82_2]) ∧ ∀ b15 w15, NewBlk w82 b15 [.int .u8 0, .int .i64 0, .string (({ data := #[] } : ByteArray)), .string (({ data := #[] } : ByteArray)), .slice none 0 0] 29 w15 →
  CanStore w15 b15 0 ∧ ∀ ws_10, Stored w15 b15 0 (.int .u8 n82) ws_10 →
  CanStore ws_10 b15 1 ∧ ∀ ws_11, Stored ws_10 b15 1 (.int .i64 n82_1) ws_11 →
  CanStore ws_11 b15 2 ∧ ∀ ws_12, Stored ws_11 b15 2 (.string s82) ws_12 →
  CanStore ws_12 b15 3 ∧ ∀ ws_13, Stored ws_12 b15 3 (.string s82_1) ws_13 →
  CanStore ws_13 b15 4 ∧ ∀ ws_14, Stored ws_13 b15 4 (.slice p82 l82 c82) ws_14 →
  ∀ wd21, Drew ws_14 wd21 →
  ∃ S21 : World → Prop, S21 wd21 ∧ Br (n73_2 != n82_2)
  (R (.returned (.bool false)) wd21)
  (∃ n89 : Int, wd21.cell? ⟨b13, 0, none⟩ = some (.int .u8 n89) ∧ ∃ n89_1 : Int, wd21.cell? ⟨b13, 1, none⟩ = some (.int .i64 n89_1) ∧ ∃ s89 : ByteArray, wd21.cell? ⟨b13, 2, none⟩ = some (.string s89) ∧ ∃ s89_1 : ByteArray, wd21.cell? ⟨b13, 3, none⟩ = some (.string s89_1) ∧ ∃ (p89 : Option Addr) (l89 c89 : Nat), wd21.cell? ⟨b13, 4, none⟩ = some (.slice p89 l89 c89) ∧ Does Try.prog 15 #[.agg #[.int .u8 n89, .int .i64 n89_1, .string s89, .string s89_1, .slice p89 l89 c89]] wd21 fun e90 w90 =>
  ∃ n90 : Int, ∃ n90_1 : Int, ∃ s90 : ByteArray, ∃ s90_1 : ByteArray, ∃ (p90 : Option Addr) (l90 c90 : Nat), e90 = .returned (.agg #[.int .u8 n90, .int .i64 n90_1, .string s90, .string s90_1, .slice p90 l90 c90]) ∧ S21 w90 ∧ ∃ n91 : Int, (∀ w, S21 w → w.cell? ⟨b15, 0, none⟩ = some (.int .u8 n91)) ∧ ∃ n91_1 : Int, (∀ w, S21 w → w.cell? ⟨b15, 1, none⟩ = some (.int .i64 n91_1)) ∧ ∃ s91 : ByteArray, (∀ w, S21 w → w.cell? ⟨b15, 2, none⟩ = some (.string s91)) ∧ ∃ s91_1 : ByteArray, (∀ w, S21 w → w.cell? ⟨b15, 3, none⟩ = some (.string s91_1)) ∧ ∃ (p91 : Option Addr) (l91 c91 : Nat), (∀ w, S21 w → w.cell? ⟨b15, 4, none⟩ = some (.slice p91 l91 c91)) ∧ Does Try.prog 15 #[.agg #[.int .u8 n91, .int .i64 n91_1, .string s91, .string s91_1, .slice p91 l91 c91]] w90 fun e92 w92 =>
  ∃ n92 : Int, ∃ n92_1 : Int, ∃ s92 : ByteArray, ∃ s92_1 : ByteArray, ∃ (p92 : Option Addr) (l92 c92 : Nat), e92 = .returned (.agg #[.int .u8 n92, .int .i64 n92_1, .string s92, .string s92_1, .slice p92 l92 c92]) ∧ Does Try.prog 14 #[.agg #[.int .u8 n90, .int .i64 n90_1, .string s90, .string s90_1, .slice p90 l90 c90], .agg #[.int .u8 n92, .int .i64 n92_1, .string s92, .string s92_1, .slice p92 l92 c92]] w92 fun e93 w93 =>
  ∃ b93 : Bool, e93 = .returned (.bool b93) ∧ Br (!b93)
  (R (.returned (.bool false)) w93)
  (InK .i64 (x12 + 1) ∧ ∃ ml17, ml17 < nl17 ∧ I17 (x12 + 1) ml17 w93)))
  (R (.returned (.bool true)) wl17)))))))
def f6_ann : Ann := { loops := [(10, [(9, .int .i64)]), (17, [(12, .int .i64)])], cuts := [], flip := [], throws := [] }
theorem f6_eq (a0 : Bool) (p1 : Option Addr) (l1 c1 : Nat) (p2 : Option Addr) (l2 c2 : Nat) (w : World) (R : Ending → World → Prop) : vc Try.prog f6_ann (bodyOf Try.f6) (retQ Try.prog Try.f6 R) (envOf Try.f6.ntmps [.v (.bool a0), .v (.slice p1 l1 c1), .v (.slice p2 l2 c2)]) [] w = f6_vc a0 p1 l1 c1 p2 l2 c2 w R := by kernel_rfl
theorem f6_does (a0 : Bool) (p1 : Option Addr) (l1 c1 : Nat) (p2 : Option Addr) (l2 c2 : Nat) {w : World} {R : Ending → World → Prop} (h : f6_vc a0 p1 l1 c1 p2 l2 c2 w R) : Does Try.prog 6 #[.bool a0, .slice p1 l1 c1, .slice p2 l2 c2] w R :=
  does_of_vc (ss := [.v (.bool a0), .v (.slice p1 l1 c1), .v (.slice p2 l2 c2)]) f6_ann mixed call6 Try.func6 rfl rfl (show 3 ≤ Try.f6.ntmps by decide) ((f6_eq a0 p1 l1 c1 p2 l2 c2 w R).symm ▸ h)
/-- Of escritoire/escritoirelaw24.awake (function 7): the condition. -/
def f7_vc  (w : World) (R : Ending → World → Prop) : Prop :=
  Does Try.prog 8 #[.bool false] w fun e4 w4 =>
  ∃ p4 : Option Addr, e4 = .returned (.pointer p4) ∧ Br p4.isNone
  (R (.returned (.bool false)) w4)
  (Does Try.prog 9 #[.pointer p4, .string (({ data := #[50, 100, 51, 119] } : ByteArray))] w4 fun e9 w9 =>
  ∃ n9 : Int, ∃ n9_1 : Int, ∃ s9 : ByteArray, ∃ s9_1 : ByteArray, ∃ (p9 : Option Addr) (l9 c9 : Nat), ∃ n9_2 : Int, e9 = .returned (.tuple #[.agg #[.int .u8 n9, .int .i64 n9_1, .string s9, .string s9_1, .slice p9 l9 c9], .int .i64 n9_2]) ∧ ∀ b2 w2, NewBlk w9 b2 [.int .u8 0, .int .i64 0, .string (({ data := #[] } : ByteArray)), .string (({ data := #[] } : ByteArray)), .slice none 0 0] 29 w2 →
  CanStore w2 b2 0 ∧ ∀ ws, Stored w2 b2 0 (.int .u8 n9) ws →
  CanStore ws b2 1 ∧ ∀ ws_1, Stored ws b2 1 (.int .i64 n9_1) ws_1 →
  CanStore ws_1 b2 2 ∧ ∀ ws_2, Stored ws_1 b2 2 (.string s9) ws_2 →
  CanStore ws_2 b2 3 ∧ ∀ ws_3, Stored ws_2 b2 3 (.string s9_1) ws_3 →
  CanStore ws_3 b2 4 ∧ ∀ ws_4, Stored ws_3 b2 4 (.slice p9 l9 c9) ws_4 →
  Br (n9_2 == 1)
  (∃ s16 : ByteArray, ws_4.cell? ⟨b2, 2, none⟩ = some (.string s16) ∧ Br (s16.toList == (({ data := #[100] } : ByteArray)).toList)
  (∃ s21 : ByteArray, ws_4.cell? ⟨b2, 3, none⟩ = some (.string s21) ∧ Br (s21.toList == (({ data := #[119] } : ByteArray)).toList)
  (∃ n26 : Int, ws_4.cell? ⟨b2, 1, none⟩ = some (.int .i64 n26) ∧ R (.returned (.bool (n26 == 6))) ws_4)
  (R (.returned (.bool false)) ws_4))
  (R (.returned (.bool false)) ws_4))
  (R (.returned (.bool false)) ws_4))
def f7_ann : Ann := { loops := [], cuts := [], flip := [], throws := [] }
theorem f7_eq  (w : World) (R : Ending → World → Prop) : vc Try.prog f7_ann (bodyOf Try.f7) (retQ Try.prog Try.f7 R) (envOf Try.f7.ntmps []) [] w = f7_vc  w R := by kernel_rfl
theorem f7_does  {w : World} {R : Ending → World → Prop} (h : f7_vc  w R) : Does Try.prog 7 #[] w R :=
  does_of_vc (ss := []) f7_ann mixed call7 Try.func7 rfl rfl (show 0 ≤ Try.f7.ntmps by decide) ((f7_eq  w R).symm ▸ h)
/-- Of escritoire/keys.New (function 8): the condition. -/
def f8_vc (a0 : Bool) (w : World) (R : Ending → World → Prop) : Prop :=
  ∀ b6 w6, NewBlk w b6 [.bool true, .bool a0, .nilFunc, .slice none 0 0, .int .u8 0, .int .i64 0, .string (({ data := #[] } : ByteArray)), .string (({ data := #[] } : ByteArray)), .slice none 0 0, .int .i64 0, .int .i64 0, .int .i64 0, .int .i64 0] 50 w6 →
  Does Try.prog 16 #[.pointer (some ⟨b6, 0, none⟩)] w6 fun e8 w8 =>
  e8 = .returned (.tuple #[]) ∧ R (.returned (.pointer (some ⟨b6, 0, none⟩))) w8
def f8_ann : Ann := { loops := [], cuts := [], flip := [], throws := [] }
theorem f8_eq (a0 : Bool) (w : World) (R : Ending → World → Prop) : vc Try.prog f8_ann (bodyOf Try.f8) (retQ Try.prog Try.f8 R) (envOf Try.f8.ntmps [.v (.bool a0)]) [] w = f8_vc a0 w R := by kernel_rfl
theorem f8_does (a0 : Bool) {w : World} {R : Ending → World → Prop} (h : f8_vc a0 w R) : Does Try.prog 8 #[.bool a0] w R :=
  does_of_vc (ss := [.v (.bool a0)]) f8_ann mixed call8 Try.func8 rfl rfl (show 1 ≤ Try.f8.ntmps by decide) ((f8_eq a0 w R).symm ▸ h)
/-- Of escritoire/escritoirelaw24.feed (function 9): the condition. -/
def f9_vc (a0 : Option Addr) (a1 : ByteArray) (w : World) (R : Ending → World → Prop) : Prop :=
  ∀ b4 w4, NewBlk w b4 [.int .u8 0, .int .i64 0, .string (({ data := #[] } : ByteArray)), .string (({ data := #[] } : ByteArray)), .slice none 0 0] 29 w4 →
  ∀ b6 w6, NewBlk w4 b6 [.int .u8 0, .int .i64 0, .string (({ data := #[] } : ByteArray)), .string (({ data := #[] } : ByteArray)), .slice none 0 0] 29 w6 →
  CanStore w6 b6 0 ∧ ∀ ws, Stored w6 b6 0 (.int .u8 0) ws →
  CanStore ws b6 1 ∧ ∀ ws_1, Stored ws b6 1 (.int .i64 0) ws_1 →
  CanStore ws_1 b6 2 ∧ ∀ ws_2, Stored ws_1 b6 2 (.string (({ data := #[] } : ByteArray))) ws_2 →
  CanStore ws_2 b6 3 ∧ ∀ ws_3, Stored ws_2 b6 3 (.string (({ data := #[] } : ByteArray))) ws_3 →
  CanStore ws_3 b6 4 ∧ ∀ ws_4, Stored ws_3 b6 4 (.slice none 0 0) ws_4 →
  ∃ I3 : Int → Int → Nat → World → Prop, (∃ nl3, I3 0 0 nl3 ws_4) ∧ ∀ x7 : Int, ∀ x8 : Int, ∀ (nl3 : Nat) (wl3 : World), I3 x7 x8 nl3 wl3 →
  Br (decide (x8 < ((a1.size : Int))))
  (((0 : Int) ≤ x8 ∧ x8 < (a1.size : Int)) ∧ Does Try.prog 12 #[.pointer a0, .int .u8 (sb a1 x8)] wl3 fun e21 w21 =>
  ∃ n21 : Int, ∃ n21_1 : Int, ∃ s21 : ByteArray, ∃ s21_1 : ByteArray, ∃ (p21 : Option Addr) (l21 c21 : Nat), ∃ n21_2 : Int, e21 = .returned (.tuple #[.agg #[.int .u8 n21, .int .i64 n21_1, .string s21, .string s21_1, .slice p21 l21 c21], .int .i64 n21_2]) ∧ CanStore w21 b6 0 ∧ ∀ ws_5, Stored w21 b6 0 (.int .u8 n21) ws_5 →
  CanStore ws_5 b6 1 ∧ ∀ ws_6, Stored ws_5 b6 1 (.int .i64 n21_1) ws_6 →
  CanStore ws_6 b6 2 ∧ ∀ ws_7, Stored ws_6 b6 2 (.string s21) ws_7 →
  CanStore ws_7 b6 3 ∧ ∀ ws_8, Stored ws_7 b6 3 (.string s21_1) ws_8 →
  CanStore ws_8 b6 4 ∧ ∀ ws_9, Stored ws_8 b6 4 (.slice p21 l21 c21) ws_9 →
  InK .i64 (x8 + 1) ∧ ∃ ml3, ml3 < nl3 ∧ I3 n21_2 (x8 + 1) ml3 ws_9)
  (∃ n24 : Int, wl3.cell? ⟨b6, 0, none⟩ = some (.int .u8 n24) ∧ ∃ n24_1 : Int, wl3.cell? ⟨b6, 1, none⟩ = some (.int .i64 n24_1) ∧ ∃ s24 : ByteArray, wl3.cell? ⟨b6, 2, none⟩ = some (.string s24) ∧ ∃ s24_1 : ByteArray, wl3.cell? ⟨b6, 3, none⟩ = some (.string s24_1) ∧ ∃ (p24 : Option Addr) (l24 c24 : Nat), wl3.cell? ⟨b6, 4, none⟩ = some (.slice p24 l24 c24) ∧ CanStore wl3 b4 0 ∧ ∀ ws_10, Stored wl3 b4 0 (.int .u8 n24) ws_10 →
  CanStore ws_10 b4 1 ∧ ∀ ws_11, Stored ws_10 b4 1 (.int .i64 n24_1) ws_11 →
  CanStore ws_11 b4 2 ∧ ∀ ws_12, Stored ws_11 b4 2 (.string s24) ws_12 →
  CanStore ws_12 b4 3 ∧ ∀ ws_13, Stored ws_12 b4 3 (.string s24_1) ws_13 →
  CanStore ws_13 b4 4 ∧ ∀ ws_14, Stored ws_13 b4 4 (.slice p24 l24 c24) ws_14 →
  ∃ n4 : Int, ws_14.cell? ⟨b4, 0, none⟩ = some (.int .u8 n4) ∧ ∃ n4_1 : Int, ws_14.cell? ⟨b4, 1, none⟩ = some (.int .i64 n4_1) ∧ ∃ s4 : ByteArray, ws_14.cell? ⟨b4, 2, none⟩ = some (.string s4) ∧ ∃ s4_1 : ByteArray, ws_14.cell? ⟨b4, 3, none⟩ = some (.string s4_1) ∧ ∃ (p4 : Option Addr) (l4 c4 : Nat), ws_14.cell? ⟨b4, 4, none⟩ = some (.slice p4 l4 c4) ∧ R (.returned (.tuple #[.agg #[.int .u8 n4, .int .i64 n4_1, .string s4, .string s4_1, .slice p4 l4 c4], .int .i64 x7])) ws_14)
def f9_ann : Ann := { loops := [(3, [(7, .int .i64), (8, .int .i64)])], cuts := [], flip := [], throws := [] }
theorem f9_eq (a0 : Option Addr) (a1 : ByteArray) (w : World) (R : Ending → World → Prop) : vc Try.prog f9_ann (bodyOf Try.f9) (retQ Try.prog Try.f9 R) (envOf Try.f9.ntmps [.v (.pointer a0), .v (.string a1)]) [] w = f9_vc a0 a1 w R := by kernel_rfl
theorem f9_does (a0 : Option Addr) (a1 : ByteArray) {w : World} {R : Ending → World → Prop} (h : f9_vc a0 a1 w R) : Does Try.prog 9 #[.pointer a0, .string a1] w R :=
  does_of_vc (ss := [.v (.pointer a0), .v (.string a1)]) f9_ann mixed call9 Try.func9 rfl rfl (show 2 ≤ Try.f9.ntmps by decide) ((f9_eq a0 a1 w R).symm ▸ h)
/-- Of escritoire/escritoirelaw24.number (function 10): the condition. -/
def f10_vc (a0 : Int) (w : World) (R : Ending → World → Prop) : Prop :=
  ∃ I2 : Int → ByteArray → Nat → World → Prop, (∃ nl2, I2 a0 (({ data := #[] } : ByteArray)) nl2 w) ∧ ∀ x0 : Int, ∀ s3 : ByteArray, ∀ (nl2 : Nat) (wl2 : World), I2 x0 s3 nl2 wl2 →
  Br (decide (x0 > 0))
  ((10 : Int) ≠ 0 ∧ InK .i64 (48 + (x0.tmod 10)) ∧ ∀ b10 w10, NewBlk wl2 b10 [.int .u8 (IntKind.wrap .u8 (48 + (x0.tmod 10)))] 5 w10 →
  ∃ s11 : ByteArray, ∃ w11, (convert 27 9 (.slice (some ⟨b10, 0, none⟩) 1 1)).run Try.prog w10 = .ok (.string s11) w11 ∧ ((s11.size + s3.size : Nat) : Int) ≤ 9223372036854775807 ∧ (10 : Int) ≠ 0 ∧ InK .i64 (x0.tdiv 10) ∧ ∃ ml2, ml2 < nl2 ∧ I2 (x0.tdiv 10) (s11 ++ s3) ml2 w11)
  (R (.returned (.string s3)) wl2)
def f10_ann : Ann := { loops := [(2, [(0, .int .i64), (3, .str)])], cuts := [], flip := [], throws := [] }
theorem f10_eq (a0 : Int) (w : World) (R : Ending → World → Prop) : vc Try.prog f10_ann (bodyOf Try.f10) (retQ Try.prog Try.f10 R) (envOf Try.f10.ntmps [.v (.int .i64 a0)]) [] w = f10_vc a0 w R := by kernel_rfl
theorem f10_does (a0 : Int) {w : World} {R : Ending → World → Prop} (h : f10_vc a0 w R) : Does Try.prog 10 #[.int .i64 a0] w R :=
  does_of_vc (ss := [.v (.int .i64 a0)]) f10_ann mixed call10 Try.func10 rfl rfl (show 1 ≤ Try.f10.ntmps by decide) ((f10_eq a0 w R).symm ▸ h)
/-- Of (*escritoire/keys.Parser).Pending (function 11): the condition. -/
def f11_vc (a0 : Option Addr) (w : World) (R : Ending → World → Prop) : Prop :=
  Br a0.isNone
  (R (.returned (.string (({ data := #[] } : ByteArray)))) w)
  (∃ b6 o6, a0 = some ⟨b6, o6, none⟩ ∧ ∃ (p8 : Option Addr) (l8 c8 : Nat), w.cell? ⟨b6, o6 + 3, none⟩ = some (.slice p8 l8 c8) ∧ ∃ s9 : ByteArray, ∃ w9, (convert 27 9 (.slice p8 l8 c8)).run Try.prog w = .ok (.string s9) w9 ∧ R (.returned (.string s9)) w9)
def f11_ann : Ann := { loops := [], cuts := [], flip := [], throws := [] }
theorem f11_eq (a0 : Option Addr) (w : World) (R : Ending → World → Prop) : vc Try.prog f11_ann (bodyOf Try.f11) (retQ Try.prog Try.f11 R) (envOf Try.f11.ntmps [.v (.pointer a0)]) [] w = f11_vc a0 w R := by kernel_rfl
theorem f11_does (a0 : Option Addr) {w : World} {R : Ending → World → Prop} (h : f11_vc a0 w R) : Does Try.prog 11 #[.pointer a0] w R :=
  does_of_vc (ss := [.v (.pointer a0)]) f11_ann mixed call11 Try.func11 rfl rfl (show 1 ≤ Try.f11.ntmps by decide) ((f11_eq a0 w R).symm ▸ h)
/-- Of (*escritoire/keys.Parser).Feed (function 12): the condition. -/
def f12_vc (a0 : Option Addr) (a1 : Int) (w : World) (R : Ending → World → Prop) : Prop :=
  ∀ b4 w4, NewBlk w b4 [.int .u8 0, .int .i64 0, .string (({ data := #[] } : ByteArray)), .string (({ data := #[] } : ByteArray)), .slice none 0 0] 29 w4 →
  Br a0.isNone
  (CanStore w4 b4 0 ∧ ∀ ws, Stored w4 b4 0 (.int .u8 0) ws →
  CanStore ws b4 1 ∧ ∀ ws_1, Stored ws b4 1 (.int .i64 0) ws_1 →
  CanStore ws_1 b4 2 ∧ ∀ ws_2, Stored ws_1 b4 2 (.string (({ data := #[] } : ByteArray))) ws_2 →
  CanStore ws_2 b4 3 ∧ ∀ ws_3, Stored ws_2 b4 3 (.string (({ data := #[] } : ByteArray))) ws_3 →
  CanStore ws_3 b4 4 ∧ ∀ ws_4, Stored ws_3 b4 4 (.slice none 0 0) ws_4 →
  ∃ n4 : Int, ws_4.cell? ⟨b4, 0, none⟩ = some (.int .u8 n4) ∧ ∃ n4_1 : Int, ws_4.cell? ⟨b4, 1, none⟩ = some (.int .i64 n4_1) ∧ ∃ s4 : ByteArray, ws_4.cell? ⟨b4, 2, none⟩ = some (.string s4) ∧ ∃ s4_1 : ByteArray, ws_4.cell? ⟨b4, 3, none⟩ = some (.string s4_1) ∧ ∃ (p4 : Option Addr) (l4 c4 : Nat), ws_4.cell? ⟨b4, 4, none⟩ = some (.slice p4 l4 c4) ∧ R (.returned (.tuple #[.agg #[.int .u8 n4, .int .i64 n4_1, .string s4, .string s4_1, .slice p4 l4 c4], .int .i64 0])) ws_4)
  (∃ b12 o12, a0 = some ⟨b12, o12, none⟩ ∧ ∃ b14 : Bool, w4.cell? ⟨b12, o12, none⟩ = some (.bool b14) ∧ Br (!b14)
  (CanStore w4 b4 0 ∧ ∀ ws_5, Stored w4 b4 0 (.int .u8 0) ws_5 →
  CanStore ws_5 b4 1 ∧ ∀ ws_6, Stored ws_5 b4 1 (.int .i64 0) ws_6 →
  CanStore ws_6 b4 2 ∧ ∀ ws_7, Stored ws_6 b4 2 (.string (({ data := #[] } : ByteArray))) ws_7 →
  CanStore ws_7 b4 3 ∧ ∀ ws_8, Stored ws_7 b4 3 (.string (({ data := #[] } : ByteArray))) ws_8 →
  CanStore ws_8 b4 4 ∧ ∀ ws_9, Stored ws_8 b4 4 (.slice none 0 0) ws_9 →
  ∃ n4_2 : Int, ws_9.cell? ⟨b4, 0, none⟩ = some (.int .u8 n4_2) ∧ ∃ n4_3 : Int, ws_9.cell? ⟨b4, 1, none⟩ = some (.int .i64 n4_3) ∧ ∃ s4_2 : ByteArray, ws_9.cell? ⟨b4, 2, none⟩ = some (.string s4_2) ∧ ∃ s4_3 : ByteArray, ws_9.cell? ⟨b4, 3, none⟩ = some (.string s4_3) ∧ ∃ (p4_1 : Option Addr) (l4_1 c4_1 : Nat), ws_9.cell? ⟨b4, 4, none⟩ = some (.slice p4_1 l4_1 c4_1) ∧ R (.returned (.tuple #[.agg #[.int .u8 n4_2, .int .i64 n4_3, .string s4_2, .string s4_3, .slice p4_1 l4_1 c4_1], .int .i64 0])) ws_9)
  (∃ b20 o20, a0 = some ⟨b20, o20, none⟩ ∧ ∃ (p22 : Option Addr) (l22 c22 : Nat), w4.cell? ⟨b20, o20 + 3, none⟩ = some (.slice p22 l22 c22) ∧ ∀ b24 w24, NewBlk w4 b24 [.int .u8 a1] 5 w24 →
  ∃ (p25 : Option Addr) (l25 c25 : Nat) (w25 : World), (Builtin.append_ #[27, 27] 27 #[.slice p22 l22 c22, .slice (some ⟨b24, 0, none⟩) 1 1]).run Try.prog w24 = .ok (.slice p25 l25 c25) w25 ∧
  ∃ b26 o26, a0 = some ⟨b26, o26, none⟩ ∧ CanStore w25 b26 (o26 + 3) ∧ ∀ ws_10, Stored w25 b26 (o26 + 3) (.slice p25 l25 c25) ws_10 →
  ∃ J7 : Int → Nat → World → Prop, (Br (a1 != 27)
  (∃ b31 o31, a0 = some ⟨b31, o31, none⟩ ∧ ∃ (g33 : Go.Fn) (fs33 cs33 : Array Value), ws_10.cell? ⟨b31, o31 + 2, none⟩ = some (.func g33 fs33 cs33) ∧ DoesV Try.prog g33 fs33 #[.int .u8 a1] cs33 ws_10 fun e35 w35 =>
  ∃ n35 : Int, e35 = .returned (.int .i64 n35) ∧ ∃ nc7, J7 n35 nc7 w35)
  (∃ nc7, J7 2 nc7 ws_10)) ∧ ∀ x6 : Int, ∀ (nc7 : Nat) (wc7 : World), J7 x6 nc7 wc7 →
  Br (x6 == 0)
  (CanStore wc7 b4 0 ∧ ∀ ws_11, Stored wc7 b4 0 (.int .u8 0) ws_11 →
  CanStore ws_11 b4 1 ∧ ∀ ws_12, Stored ws_11 b4 1 (.int .i64 0) ws_12 →
  CanStore ws_12 b4 2 ∧ ∀ ws_13, Stored ws_12 b4 2 (.string (({ data := #[] } : ByteArray))) ws_13 →
  CanStore ws_13 b4 3 ∧ ∀ ws_14, Stored ws_13 b4 3 (.string (({ data := #[] } : ByteArray))) ws_14 →
  CanStore ws_14 b4 4 ∧ ∀ ws_15, Stored ws_14 b4 4 (.slice none 0 0) ws_15 →
  ∃ n4_4 : Int, ws_15.cell? ⟨b4, 0, none⟩ = some (.int .u8 n4_4) ∧ ∃ n4_5 : Int, ws_15.cell? ⟨b4, 1, none⟩ = some (.int .i64 n4_5) ∧ ∃ s4_4 : ByteArray, ws_15.cell? ⟨b4, 2, none⟩ = some (.string s4_4) ∧ ∃ s4_5 : ByteArray, ws_15.cell? ⟨b4, 3, none⟩ = some (.string s4_5) ∧ ∃ (p4_2 : Option Addr) (l4_2 c4_2 : Nat), ws_15.cell? ⟨b4, 4, none⟩ = some (.slice p4_2 l4_2 c4_2) ∧ R (.returned (.tuple #[.agg #[.int .u8 n4_4, .int .i64 n4_5, .string s4_4, .string s4_5, .slice p4_2 l4_2 c4_2], .int .i64 0])) ws_15)
  (∃ b40 o40, a0 = some ⟨b40, o40, none⟩ ∧ ∃ n42 : Int, wc7.cell? ⟨b40, o40 + 4, none⟩ = some (.int .u8 n42) ∧ ∃ n42_1 : Int, wc7.cell? ⟨b40, o40 + 5, none⟩ = some (.int .i64 n42_1) ∧ ∃ s42 : ByteArray, wc7.cell? ⟨b40, o40 + 6, none⟩ = some (.string s42) ∧ ∃ s42_1 : ByteArray, wc7.cell? ⟨b40, o40 + 7, none⟩ = some (.string s42_1) ∧ ∃ (p42 : Option Addr) (l42 c42 : Nat), wc7.cell? ⟨b40, o40 + 8, none⟩ = some (.slice p42 l42 c42) ∧ ∀ b7 w7, NewBlk wc7 b7 [.int .u8 0, .int .i64 0, .string (({ data := #[] } : ByteArray)), .string (({ data := #[] } : ByteArray)), .slice none 0 0] 29 w7 →
  CanStore w7 b7 0 ∧ ∀ ws_16, Stored w7 b7 0 (.int .u8 n42) ws_16 →
  CanStore ws_16 b7 1 ∧ ∀ ws_17, Stored ws_16 b7 1 (.int .i64 n42_1) ws_17 →
  CanStore ws_17 b7 2 ∧ ∀ ws_18, Stored ws_17 b7 2 (.string s42) ws_18 →
  CanStore ws_18 b7 3 ∧ ∀ ws_19, Stored ws_18 b7 3 (.string s42_1) ws_19 →
  CanStore ws_19 b7 4 ∧ ∀ ws_20, Stored ws_19 b7 4 (.slice p42 l42 c42) ws_20 →
  Does Try.prog 17 #[.pointer a0] ws_20 fun e44 w44 =>
  ∃ n44 : Int, e44 = .returned (.int .i64 n44) ∧ CanStore w44 b7 1 ∧ ∀ ws_21, Stored w44 b7 1 (.int .i64 n44) ws_21 →
  Does Try.prog 16 #[.pointer a0] ws_21 fun e47 w47 =>
  e47 = .returned (.tuple #[]) ∧ ∃ J14 : Nat → World → Prop, (Br (x6 == 2)
  (CanStore w47 b7 0 ∧ ∀ ws_22, Stored w47 b7 0 (.int .u8 0) ws_22 →
  CanStore ws_22 b7 1 ∧ ∀ ws_23, Stored ws_22 b7 1 (.int .i64 0) ws_23 →
  CanStore ws_23 b7 2 ∧ ∀ ws_24, Stored ws_23 b7 2 (.string (({ data := #[] } : ByteArray))) ws_24 →
  CanStore ws_24 b7 3 ∧ ∀ ws_25, Stored ws_24 b7 3 (.string (({ data := #[] } : ByteArray))) ws_25 →
  CanStore ws_25 b7 4 ∧ ∀ ws_26, Stored ws_25 b7 4 (.slice none 0 0) ws_26 →
  ∃ nc14, J14  nc14 ws_26)
  (∃ nc14, J14  nc14 w47)) ∧ ∀ (nc14 : Nat) (wc14 : World), J14  nc14 wc14 →
  ∃ n51 : Int, wc14.cell? ⟨b7, 0, none⟩ = some (.int .u8 n51) ∧ ∃ n51_1 : Int, wc14.cell? ⟨b7, 1, none⟩ = some (.int .i64 n51_1) ∧ ∃ s51 : ByteArray, wc14.cell? ⟨b7, 2, none⟩ = some (.string s51) ∧ ∃ s51_1 : ByteArray, wc14.cell? ⟨b7, 3, none⟩ = some (.string s51_1) ∧ ∃ (p51 : Option Addr) (l51 c51 : Nat), wc14.cell? ⟨b7, 4, none⟩ = some (.slice p51 l51 c51) ∧ CanStore wc14 b4 0 ∧ ∀ ws_27, Stored wc14 b4 0 (.int .u8 n51) ws_27 →
  CanStore ws_27 b4 1 ∧ ∀ ws_28, Stored ws_27 b4 1 (.int .i64 n51_1) ws_28 →
  CanStore ws_28 b4 2 ∧ ∀ ws_29, Stored ws_28 b4 2 (.string s51) ws_29 →
  CanStore ws_29 b4 3 ∧ ∀ ws_30, Stored ws_29 b4 3 (.string s51_1) ws_30 →
  CanStore ws_30 b4 4 ∧ ∀ ws_31, Stored ws_30 b4 4 (.slice p51 l51 c51) ws_31 →
  ∃ n4_6 : Int, ws_31.cell? ⟨b4, 0, none⟩ = some (.int .u8 n4_6) ∧ ∃ n4_7 : Int, ws_31.cell? ⟨b4, 1, none⟩ = some (.int .i64 n4_7) ∧ ∃ s4_6 : ByteArray, ws_31.cell? ⟨b4, 2, none⟩ = some (.string s4_6) ∧ ∃ s4_7 : ByteArray, ws_31.cell? ⟨b4, 3, none⟩ = some (.string s4_7) ∧ ∃ (p4_3 : Option Addr) (l4_3 c4_3 : Nat), ws_31.cell? ⟨b4, 4, none⟩ = some (.slice p4_3 l4_3 c4_3) ∧ R (.returned (.tuple #[.agg #[.int .u8 n4_6, .int .i64 n4_7, .string s4_6, .string s4_7, .slice p4_3 l4_3 c4_3], .int .i64 x6])) ws_31)))
def f12_ann : Ann := { loops := [], cuts := [(7, [(6, .int .i64)]), (14, [])], flip := [], throws := [] }
theorem f12_eq (a0 : Option Addr) (a1 : Int) (w : World) (R : Ending → World → Prop) : vc Try.prog f12_ann (bodyOf Try.f12) (retQ Try.prog Try.f12 R) (envOf Try.f12.ntmps [.v (.pointer a0), .v (.int .u8 a1)]) [] w = f12_vc a0 a1 w R := by kernel_rfl
theorem f12_does (a0 : Option Addr) (a1 : Int) {w : World} {R : Ending → World → Prop} (h : f12_vc a0 a1 w R) : Does Try.prog 12 #[.pointer a0, .int .u8 a1] w R :=
  does_of_vc (ss := [.v (.pointer a0), .v (.int .u8 a1)]) f12_ann mixed call12 Try.func12 rfl rfl (show 2 ≤ Try.f12.ntmps by decide) ((f12_eq a0 a1 w R).symm ▸ h)
/-- Of (*escritoire/escritoireref24.Parser).Feed (function 13): the condition. -/
def f13_vc (a0 : Option Addr) (a1 : Int) (w : World) (R : Ending → World → Prop) : Prop :=
  ∀ b4 w4, NewBlk w b4 [.int .u8 0, .int .i64 0, .string (({ data := #[] } : ByteArray)), .string (({ data := #[] } : ByteArray)), .slice none 0 0] 39 w4 →
  Br (a1 == 27)
  (∃ b11 o11, a0 = some ⟨b11, o11, none⟩ ∧ CanStore w4 b11 (o11 + 1) ∧ ∀ ws, Stored w4 b11 (o11 + 1) (.slice none 0 0) ws →
  CanStore ws b4 0 ∧ ∀ ws_1, Stored ws b4 0 (.int .u8 0) ws_1 →
  CanStore ws_1 b4 1 ∧ ∀ ws_2, Stored ws_1 b4 1 (.int .i64 0) ws_2 →
  CanStore ws_2 b4 2 ∧ ∀ ws_3, Stored ws_2 b4 2 (.string (({ data := #[] } : ByteArray))) ws_3 →
  CanStore ws_3 b4 3 ∧ ∀ ws_4, Stored ws_3 b4 3 (.string (({ data := #[] } : ByteArray))) ws_4 →
  CanStore ws_4 b4 4 ∧ ∀ ws_5, Stored ws_4 b4 4 (.slice none 0 0) ws_5 →
  ∃ n4 : Int, ws_5.cell? ⟨b4, 0, none⟩ = some (.int .u8 n4) ∧ ∃ n4_1 : Int, ws_5.cell? ⟨b4, 1, none⟩ = some (.int .i64 n4_1) ∧ ∃ s4 : ByteArray, ws_5.cell? ⟨b4, 2, none⟩ = some (.string s4) ∧ ∃ s4_1 : ByteArray, ws_5.cell? ⟨b4, 3, none⟩ = some (.string s4_1) ∧ ∃ (p4 : Option Addr) (l4 c4 : Nat), ws_5.cell? ⟨b4, 4, none⟩ = some (.slice p4 l4 c4) ∧ R (.returned (.tuple #[.agg #[.int .u8 n4, .int .i64 n4_1, .string s4, .string s4_1, .slice p4 l4 c4], .int .i64 2])) ws_5)
  (∃ b16 o16, a0 = some ⟨b16, o16, none⟩ ∧ ∃ (p18 : Option Addr) (l18 c18 : Nat), w4.cell? ⟨b16, o16 + 1, none⟩ = some (.slice p18 l18 c18) ∧ ∀ b20 w20, NewBlk w4 b20 [.int .u8 a1] 5 w20 →
  ∃ (p21 : Option Addr) (l21 c21 : Nat) (w21 : World), (Builtin.append_ #[27, 27] 27 #[.slice p18 l18 c18, .slice (some ⟨b20, 0, none⟩) 1 1]).run Try.prog w20 = .ok (.slice p21 l21 c21) w21 ∧
  ∃ b22 o22, a0 = some ⟨b22, o22, none⟩ ∧ CanStore w21 b22 (o22 + 1) ∧ ∀ ws_6, Stored w21 b22 (o22 + 1) (.slice p21 l21 c21) ws_6 →
  ∃ b27 o27, a0 = some ⟨b27, o27, none⟩ ∧ ∃ (p29 : Option Addr) (l29 c29 : Nat), ws_6.cell? ⟨b27, o27 + 1, none⟩ = some (.slice p29 l29 c29) ∧ Does Try.prog 18 #[.pointer a0, .slice p29 l29 c29] ws_6 fun e30 w30 =>
  ∃ n30 : Int, ∃ n30_1 : Int, ∃ s30 : ByteArray, ∃ s30_1 : ByteArray, ∃ (p30 : Option Addr) (l30 c30 : Nat), ∃ n30_2 : Int, e30 = .returned (.tuple #[.agg #[.int .u8 n30, .int .i64 n30_1, .string s30, .string s30_1, .slice p30 l30 c30], .int .i64 n30_2]) ∧ ∀ b6 w6, NewBlk w30 b6 [.int .u8 0, .int .i64 0, .string (({ data := #[] } : ByteArray)), .string (({ data := #[] } : ByteArray)), .slice none 0 0] 39 w6 →
  CanStore w6 b6 0 ∧ ∀ ws_7, Stored w6 b6 0 (.int .u8 n30) ws_7 →
  CanStore ws_7 b6 1 ∧ ∀ ws_8, Stored ws_7 b6 1 (.int .i64 n30_1) ws_8 →
  CanStore ws_8 b6 2 ∧ ∀ ws_9, Stored ws_8 b6 2 (.string s30) ws_9 →
  CanStore ws_9 b6 3 ∧ ∀ ws_10, Stored ws_9 b6 3 (.string s30_1) ws_10 →
  CanStore ws_10 b6 4 ∧ ∀ ws_11, Stored ws_10 b6 4 (.slice p30 l30 c30) ws_11 →
  Br (n30_2 == 0)
  (CanStore ws_11 b4 0 ∧ ∀ ws_12, Stored ws_11 b4 0 (.int .u8 0) ws_12 →
  CanStore ws_12 b4 1 ∧ ∀ ws_13, Stored ws_12 b4 1 (.int .i64 0) ws_13 →
  CanStore ws_13 b4 2 ∧ ∀ ws_14, Stored ws_13 b4 2 (.string (({ data := #[] } : ByteArray))) ws_14 →
  CanStore ws_14 b4 3 ∧ ∀ ws_15, Stored ws_14 b4 3 (.string (({ data := #[] } : ByteArray))) ws_15 →
  CanStore ws_15 b4 4 ∧ ∀ ws_16, Stored ws_15 b4 4 (.slice none 0 0) ws_16 →
  ∃ n4_2 : Int, ws_16.cell? ⟨b4, 0, none⟩ = some (.int .u8 n4_2) ∧ ∃ n4_3 : Int, ws_16.cell? ⟨b4, 1, none⟩ = some (.int .i64 n4_3) ∧ ∃ s4_2 : ByteArray, ws_16.cell? ⟨b4, 2, none⟩ = some (.string s4_2) ∧ ∃ s4_3 : ByteArray, ws_16.cell? ⟨b4, 3, none⟩ = some (.string s4_3) ∧ ∃ (p4_1 : Option Addr) (l4_1 c4_1 : Nat), ws_16.cell? ⟨b4, 4, none⟩ = some (.slice p4_1 l4_1 c4_1) ∧ R (.returned (.tuple #[.agg #[.int .u8 n4_2, .int .i64 n4_3, .string s4_2, .string s4_3, .slice p4_1 l4_1 c4_1], .int .i64 0])) ws_16)
  (∀ b36 w36, NewBlk ws_11 b36 [] 5 w36 →
  ∃ (p38 : Option Addr) (l38 c38 : Nat), w36.cell? ⟨b6, 4, none⟩ = some (.slice p38 l38 c38) ∧ ∃ (p39 : Option Addr) (l39 c39 : Nat) (w39 : World), (Builtin.append_ #[27, 27] 27 #[.slice (some ⟨b36, 0, none⟩) 0 0, .slice p38 l38 c38]).run Try.prog w36 = .ok (.slice p39 l39 c39) w39 ∧
  CanStore w39 b6 4 ∧ ∀ ws_17, Stored w39 b6 4 (.slice p39 l39 c39) ws_17 →
  ∃ b42 o42, a0 = some ⟨b42, o42, none⟩ ∧ CanStore ws_17 b42 (o42 + 1) ∧ ∀ ws_18, Stored ws_17 b42 (o42 + 1) (.slice none 0 0) ws_18 →
  Br (n30_2 == 2)
  (CanStore ws_18 b4 0 ∧ ∀ ws_19, Stored ws_18 b4 0 (.int .u8 0) ws_19 →
  CanStore ws_19 b4 1 ∧ ∀ ws_20, Stored ws_19 b4 1 (.int .i64 0) ws_20 →
  CanStore ws_20 b4 2 ∧ ∀ ws_21, Stored ws_20 b4 2 (.string (({ data := #[] } : ByteArray))) ws_21 →
  CanStore ws_21 b4 3 ∧ ∀ ws_22, Stored ws_21 b4 3 (.string (({ data := #[] } : ByteArray))) ws_22 →
  CanStore ws_22 b4 4 ∧ ∀ ws_23, Stored ws_22 b4 4 (.slice none 0 0) ws_23 →
  ∃ n4_4 : Int, ws_23.cell? ⟨b4, 0, none⟩ = some (.int .u8 n4_4) ∧ ∃ n4_5 : Int, ws_23.cell? ⟨b4, 1, none⟩ = some (.int .i64 n4_5) ∧ ∃ s4_4 : ByteArray, ws_23.cell? ⟨b4, 2, none⟩ = some (.string s4_4) ∧ ∃ s4_5 : ByteArray, ws_23.cell? ⟨b4, 3, none⟩ = some (.string s4_5) ∧ ∃ (p4_2 : Option Addr) (l4_2 c4_2 : Nat), ws_23.cell? ⟨b4, 4, none⟩ = some (.slice p4_2 l4_2 c4_2) ∧ R (.returned (.tuple #[.agg #[.int .u8 n4_4, .int .i64 n4_5, .string s4_4, .string s4_5, .slice p4_2 l4_2 c4_2], .int .i64 2])) ws_23)
  (∃ n47 : Int, ws_18.cell? ⟨b6, 0, none⟩ = some (.int .u8 n47) ∧ ∃ n47_1 : Int, ws_18.cell? ⟨b6, 1, none⟩ = some (.int .i64 n47_1) ∧ ∃ s47 : ByteArray, ws_18.cell? ⟨b6, 2, none⟩ = some (.string s47) ∧ ∃ s47_1 : ByteArray, ws_18.cell? ⟨b6, 3, none⟩ = some (.string s47_1) ∧ ∃ (p47 : Option Addr) (l47 c47 : Nat), ws_18.cell? ⟨b6, 4, none⟩ = some (.slice p47 l47 c47) ∧ CanStore ws_18 b4 0 ∧ ∀ ws_24, Stored ws_18 b4 0 (.int .u8 n47) ws_24 →
  CanStore ws_24 b4 1 ∧ ∀ ws_25, Stored ws_24 b4 1 (.int .i64 n47_1) ws_25 →
  CanStore ws_25 b4 2 ∧ ∀ ws_26, Stored ws_25 b4 2 (.string s47) ws_26 →
  CanStore ws_26 b4 3 ∧ ∀ ws_27, Stored ws_26 b4 3 (.string s47_1) ws_27 →
  CanStore ws_27 b4 4 ∧ ∀ ws_28, Stored ws_27 b4 4 (.slice p47 l47 c47) ws_28 →
  ∃ n4_6 : Int, ws_28.cell? ⟨b4, 0, none⟩ = some (.int .u8 n4_6) ∧ ∃ n4_7 : Int, ws_28.cell? ⟨b4, 1, none⟩ = some (.int .i64 n4_7) ∧ ∃ s4_6 : ByteArray, ws_28.cell? ⟨b4, 2, none⟩ = some (.string s4_6) ∧ ∃ s4_7 : ByteArray, ws_28.cell? ⟨b4, 3, none⟩ = some (.string s4_7) ∧ ∃ (p4_3 : Option Addr) (l4_3 c4_3 : Nat), ws_28.cell? ⟨b4, 4, none⟩ = some (.slice p4_3 l4_3 c4_3) ∧ R (.returned (.tuple #[.agg #[.int .u8 n4_6, .int .i64 n4_7, .string s4_6, .string s4_7, .slice p4_3 l4_3 c4_3], .int .i64 1])) ws_28)))
def f13_ann : Ann := { loops := [], cuts := [], flip := [], throws := [] }
theorem f13_eq (a0 : Option Addr) (a1 : Int) (w : World) (R : Ending → World → Prop) : vc Try.prog f13_ann (bodyOf Try.f13) (retQ Try.prog Try.f13 R) (envOf Try.f13.ntmps [.v (.pointer a0), .v (.int .u8 a1)]) [] w = f13_vc a0 a1 w R := by kernel_rfl
theorem f13_does (a0 : Option Addr) (a1 : Int) {w : World} {R : Ending → World → Prop} (h : f13_vc a0 a1 w R) : Does Try.prog 13 #[.pointer a0, .int .u8 a1] w R :=
  does_of_vc (ss := [.v (.pointer a0), .v (.int .u8 a1)]) f13_ann mixed call13 Try.func13 rfl rfl (show 2 ≤ Try.f13.ntmps by decide) ((f13_eq a0 a1 w R).symm ▸ h)
/-- Of escritoire/escritoireref24.SameCommand (function 14): the condition. -/
def f14_vc (a0_0 : Int) (a0_1 : Int) (a0_2 : ByteArray) (a0_3 : ByteArray) (p0_4 : Option Addr) (l0_4 c0_4 : Nat) (a1_0 : Int) (a1_1 : Int) (a1_2 : ByteArray) (a1_3 : ByteArray) (p1_4 : Option Addr) (l1_4 c1_4 : Nat) (w : World) (R : Ending → World → Prop) : Prop :=
  ∀ b2 w2, NewBlk w b2 [.int .u8 a0_0, .int .i64 a0_1, .string a0_2, .string a0_3, .slice p0_4 l0_4 c0_4] 39 w2 →
  ∀ b3 w3, NewBlk w2 b3 [.int .u8 a1_0, .int .i64 a1_1, .string a1_2, .string a1_3, .slice p1_4 l1_4 c1_4] 39 w3 →
  ∃ n6 : Int, w3.cell? ⟨b2, 0, none⟩ = some (.int .u8 n6) ∧ ∃ n8 : Int, w3.cell? ⟨b3, 0, none⟩ = some (.int .u8 n8) ∧ Br (n6 == n8)
  (∃ n12 : Int, w3.cell? ⟨b2, 1, none⟩ = some (.int .i64 n12) ∧ ∃ n14 : Int, w3.cell? ⟨b3, 1, none⟩ = some (.int .i64 n14) ∧ Br (n12 == n14)
  (∃ s19 : ByteArray, w3.cell? ⟨b2, 2, none⟩ = some (.string s19) ∧ ∃ s21 : ByteArray, w3.cell? ⟨b3, 2, none⟩ = some (.string s21) ∧ Br (s19.toList == s21.toList)
  (∃ s26 : ByteArray, w3.cell? ⟨b2, 3, none⟩ = some (.string s26) ∧ ∃ s28 : ByteArray, w3.cell? ⟨b3, 3, none⟩ = some (.string s28) ∧ Br (s26.toList == s28.toList)
  (∃ (p33 : Option Addr) (l33 c33 : Nat), w3.cell? ⟨b2, 4, none⟩ = some (.slice p33 l33 c33) ∧ ∃ s34 : ByteArray, ∃ w34, (convert 27 9 (.slice p33 l33 c33)).run Try.prog w3 = .ok (.string s34) w34 ∧ ∃ (p36 : Option Addr) (l36 c36 : Nat), w34.cell? ⟨b3, 4, none⟩ = some (.slice p36 l36 c36) ∧ ∃ s37 : ByteArray, ∃ w37, (convert 27 9 (.slice p36 l36 c36)).run Try.prog w34 = .ok (.string s37) w37 ∧ R (.returned (.bool (s34.toList == s37.toList))) w37)
  (R (.returned (.bool false)) w3))
  (R (.returned (.bool false)) w3))
  (R (.returned (.bool false)) w3))
  (R (.returned (.bool false)) w3)
def f14_ann : Ann := { loops := [], cuts := [], flip := [], throws := [] }
theorem f14_eq (a0_0 : Int) (a0_1 : Int) (a0_2 : ByteArray) (a0_3 : ByteArray) (p0_4 : Option Addr) (l0_4 c0_4 : Nat) (a1_0 : Int) (a1_1 : Int) (a1_2 : ByteArray) (a1_3 : ByteArray) (p1_4 : Option Addr) (l1_4 c1_4 : Nat) (w : World) (R : Ending → World → Prop) : vc Try.prog f14_ann (bodyOf Try.f14) (retQ Try.prog Try.f14 R) (envOf Try.f14.ntmps [.v (.agg #[.int .u8 a0_0, .int .i64 a0_1, .string a0_2, .string a0_3, .slice p0_4 l0_4 c0_4]), .v (.agg #[.int .u8 a1_0, .int .i64 a1_1, .string a1_2, .string a1_3, .slice p1_4 l1_4 c1_4])]) [] w = f14_vc a0_0 a0_1 a0_2 a0_3 p0_4 l0_4 c0_4 a1_0 a1_1 a1_2 a1_3 p1_4 l1_4 c1_4 w R := by kernel_rfl
theorem f14_does (a0_0 : Int) (a0_1 : Int) (a0_2 : ByteArray) (a0_3 : ByteArray) (p0_4 : Option Addr) (l0_4 c0_4 : Nat) (a1_0 : Int) (a1_1 : Int) (a1_2 : ByteArray) (a1_3 : ByteArray) (p1_4 : Option Addr) (l1_4 c1_4 : Nat) {w : World} {R : Ending → World → Prop} (h : f14_vc a0_0 a0_1 a0_2 a0_3 p0_4 l0_4 c0_4 a1_0 a1_1 a1_2 a1_3 p1_4 l1_4 c1_4 w R) : Does Try.prog 14 #[.agg #[.int .u8 a0_0, .int .i64 a0_1, .string a0_2, .string a0_3, .slice p0_4 l0_4 c0_4], .agg #[.int .u8 a1_0, .int .i64 a1_1, .string a1_2, .string a1_3, .slice p1_4 l1_4 c1_4]] w R :=
  does_of_vc (ss := [.v (.agg #[.int .u8 a0_0, .int .i64 a0_1, .string a0_2, .string a0_3, .slice p0_4 l0_4 c0_4]), .v (.agg #[.int .u8 a1_0, .int .i64 a1_1, .string a1_2, .string a1_3, .slice p1_4 l1_4 c1_4])]) f14_ann mixed call14 Try.func14 rfl rfl (show 2 ≤ Try.f14.ntmps by decide) ((f14_eq a0_0 a0_1 a0_2 a0_3 p0_4 l0_4 c0_4 a1_0 a1_1 a1_2 a1_3 p1_4 l1_4 c1_4 w R).symm ▸ h)
/-- Of escritoire/escritoirelaw24.model (function 15): the condition. -/
def f15_vc (a0_0 : Int) (a0_1 : Int) (a0_2 : ByteArray) (a0_3 : ByteArray) (p0_4 : Option Addr) (l0_4 c0_4 : Nat) (w : World) (R : Ending → World → Prop) : Prop :=
  ∀ b1 w1, NewBlk w b1 [.int .u8 a0_0, .int .i64 a0_1, .string a0_2, .string a0_3, .slice p0_4 l0_4 c0_4] 29 w1 →
  ∀ b2 w2, NewBlk w1 b2 [.int .u8 0, .int .i64 0, .string (({ data := #[] } : ByteArray)), .string (({ data := #[] } : ByteArray)), .slice none 0 0] 39 w2 →
  ∃ n4 : Int, w2.cell? ⟨b1, 0, none⟩ = some (.int .u8 n4) ∧ ∃ n6 : Int, w2.cell? ⟨b1, 1, none⟩ = some (.int .i64 n6) ∧ ∃ s8 : ByteArray, w2.cell? ⟨b1, 2, none⟩ = some (.string s8) ∧ ∃ s10 : ByteArray, w2.cell? ⟨b1, 3, none⟩ = some (.string s10) ∧ ∃ (p12 : Option Addr) (l12 c12 : Nat), w2.cell? ⟨b1, 4, none⟩ = some (.slice p12 l12 c12) ∧ CanStore w2 b2 0 ∧ ∀ ws, Stored w2 b2 0 (.int .u8 n4) ws →
  CanStore ws b2 1 ∧ ∀ ws_1, Stored ws b2 1 (.int .i64 n6) ws_1 →
  CanStore ws_1 b2 2 ∧ ∀ ws_2, Stored ws_1 b2 2 (.string s8) ws_2 →
  CanStore ws_2 b2 3 ∧ ∀ ws_3, Stored ws_2 b2 3 (.string s10) ws_3 →
  CanStore ws_3 b2 4 ∧ ∀ ws_4, Stored ws_3 b2 4 (.slice p12 l12 c12) ws_4 →
  ∃ n2 : Int, ws_4.cell? ⟨b2, 0, none⟩ = some (.int .u8 n2) ∧ ∃ n2_1 : Int, ws_4.cell? ⟨b2, 1, none⟩ = some (.int .i64 n2_1) ∧ ∃ s2 : ByteArray, ws_4.cell? ⟨b2, 2, none⟩ = some (.string s2) ∧ ∃ s2_1 : ByteArray, ws_4.cell? ⟨b2, 3, none⟩ = some (.string s2_1) ∧ ∃ (p2 : Option Addr) (l2 c2 : Nat), ws_4.cell? ⟨b2, 4, none⟩ = some (.slice p2 l2 c2) ∧ R (.returned (.agg #[.int .u8 n2, .int .i64 n2_1, .string s2, .string s2_1, .slice p2 l2 c2])) ws_4
def f15_ann : Ann := { loops := [], cuts := [], flip := [], throws := [] }
theorem f15_eq (a0_0 : Int) (a0_1 : Int) (a0_2 : ByteArray) (a0_3 : ByteArray) (p0_4 : Option Addr) (l0_4 c0_4 : Nat) (w : World) (R : Ending → World → Prop) : vc Try.prog f15_ann (bodyOf Try.f15) (retQ Try.prog Try.f15 R) (envOf Try.f15.ntmps [.v (.agg #[.int .u8 a0_0, .int .i64 a0_1, .string a0_2, .string a0_3, .slice p0_4 l0_4 c0_4])]) [] w = f15_vc a0_0 a0_1 a0_2 a0_3 p0_4 l0_4 c0_4 w R := by kernel_rfl
theorem f15_does (a0_0 : Int) (a0_1 : Int) (a0_2 : ByteArray) (a0_3 : ByteArray) (p0_4 : Option Addr) (l0_4 c0_4 : Nat) {w : World} {R : Ending → World → Prop} (h : f15_vc a0_0 a0_1 a0_2 a0_3 p0_4 l0_4 c0_4 w R) : Does Try.prog 15 #[.agg #[.int .u8 a0_0, .int .i64 a0_1, .string a0_2, .string a0_3, .slice p0_4 l0_4 c0_4]] w R :=
  does_of_vc (ss := [.v (.agg #[.int .u8 a0_0, .int .i64 a0_1, .string a0_2, .string a0_3, .slice p0_4 l0_4 c0_4])]) f15_ann mixed call15 Try.func15 rfl rfl (show 1 ≤ Try.f15.ntmps by decide) ((f15_eq a0_0 a0_1 a0_2 a0_3 p0_4 l0_4 c0_4 w R).symm ▸ h)
/-- Of (*escritoire/keys.Parser).Reset (function 16): the condition. -/
def f16_vc (a0 : Option Addr) (w : World) (R : Ending → World → Prop) : Prop :=
  Br a0.isNone
  (R (.returned (.tuple #[])) w)
  (∃ b6 o6, a0 = some ⟨b6, o6, none⟩ ∧ ∃ b8 : Bool, w.cell? ⟨b6, o6, none⟩ = some (.bool b8) ∧ Br (!b8)
  (R (.returned (.tuple #[])) w)
  (∃ b13 o13, a0 = some ⟨b13, o13, none⟩ ∧ ∃ b15 : Bool, w.cell? ⟨b13, o13 + 1, none⟩ = some (.bool b15) ∧ ∃ b17 o17, a0 = some ⟨b17, o17, none⟩ ∧ CanStore w b17 o17 ∧ ∀ ws, Stored w b17 o17 (.bool true) ws →
  CanStore ws b17 (o17 + 1) ∧ ∀ ws_1, Stored ws b17 (o17 + 1) (.bool b15) ws_1 →
  CanStore ws_1 b17 (o17 + 2) ∧ ∀ ws_2, Stored ws_1 b17 (o17 + 2) (.nilFunc) ws_2 →
  CanStore ws_2 b17 (o17 + 3) ∧ ∀ ws_3, Stored ws_2 b17 (o17 + 3) (.slice none 0 0) ws_3 →
  CanStore ws_3 b17 (o17 + 4) ∧ ∀ ws_4, Stored ws_3 b17 (o17 + 4) (.int .u8 0) ws_4 →
  CanStore ws_4 b17 (o17 + 5) ∧ ∀ ws_5, Stored ws_4 b17 (o17 + 5) (.int .i64 0) ws_5 →
  CanStore ws_5 b17 (o17 + 6) ∧ ∀ ws_6, Stored ws_5 b17 (o17 + 6) (.string (({ data := #[] } : ByteArray))) ws_6 →
  CanStore ws_6 b17 (o17 + 7) ∧ ∀ ws_7, Stored ws_6 b17 (o17 + 7) (.string (({ data := #[] } : ByteArray))) ws_7 →
  CanStore ws_7 b17 (o17 + 8) ∧ ∀ ws_8, Stored ws_7 b17 (o17 + 8) (.slice none 0 0) ws_8 →
  CanStore ws_8 b17 (o17 + 9) ∧ ∀ ws_9, Stored ws_8 b17 (o17 + 9) (.int .i64 0) ws_9 →
  CanStore ws_9 b17 (o17 + 10) ∧ ∀ ws_10, Stored ws_9 b17 (o17 + 10) (.int .i64 0) ws_10 →
  CanStore ws_10 b17 (o17 + 11) ∧ ∀ ws_11, Stored ws_10 b17 (o17 + 11) (.int .i64 0) ws_11 →
  CanStore ws_11 b17 (o17 + 12) ∧ ∀ ws_12, Stored ws_11 b17 (o17 + 12) (.int .i64 0) ws_12 →
  ∃ b21 o21, a0 = some ⟨b21, o21, none⟩ ∧ CanStore ws_12 b21 (o21 + 2) ∧ ∀ ws_13, Stored ws_12 b21 (o21 + 2) (.func (.func 19) #[.pointer a0] #[]) ws_13 →
  R (.returned (.tuple #[])) ws_13))
def f16_ann : Ann := { loops := [], cuts := [], flip := [], throws := [] }
theorem f16_eq (a0 : Option Addr) (w : World) (R : Ending → World → Prop) : vc Try.prog f16_ann (bodyOf Try.f16) (retQ Try.prog Try.f16 R) (envOf Try.f16.ntmps [.v (.pointer a0)]) [] w = f16_vc a0 w R := by kernel_rfl
theorem f16_does (a0 : Option Addr) {w : World} {R : Ending → World → Prop} (h : f16_vc a0 w R) : Does Try.prog 16 #[.pointer a0] w R :=
  does_of_vc (ss := [.v (.pointer a0)]) f16_ann mixed call16 Try.func16 rfl rfl (show 1 ≤ Try.f16.ntmps by decide) ((f16_eq a0 w R).symm ▸ h)
/-- Of (*escritoire/keys.Parser).count (function 17): the condition. -/
def f17_vc (a0 : Option Addr) (w : World) (R : Ending → World → Prop) : Prop :=
  ∀ wd1, Drew w wd1 →
  ∃ b6 o6, a0 = some ⟨b6, o6, none⟩ ∧ ((0 : Int) ≤ 0 ∧ 0 < ((2 : Nat) : Int)) ∧ ∃ n9 : Int, wd1.cell? ⟨b6, o6 + 9 + (0 : Int).toNat, none⟩ = some (.int .i64 n9) ∧ ∃ b11 o11, a0 = some ⟨b11, o11, none⟩ ∧ ((0 : Int) ≤ 1 ∧ 1 < ((2 : Nat) : Int)) ∧ ∃ n14 : Int, wd1.cell? ⟨b11, o11 + 9 + (1 : Int).toNat, none⟩ = some (.int .i64 n14) ∧ Br (n9 == 0)
  (InK .i64 (n9 + n14) ∧ R (.returned (.int .i64 (n9 + n14))) wd1)
  (Br (n14 == 0)
  (InK .i64 (n9 + n14) ∧ R (.returned (.int .i64 (n9 + n14))) wd1)
  (InK .i64 (n9 * n14) ∧ R (.returned (.int .i64 (if 99 < n9 * n14 then 99 else n9 * n14))) wd1))
def f17_ann : Ann := { loops := [], cuts := [], flip := [], throws := [] }
theorem f17_eq (a0 : Option Addr) (w : World) (R : Ending → World → Prop) : vc Try.prog f17_ann (bodyOf Try.f17) (retQ Try.prog Try.f17 R) (envOf Try.f17.ntmps [.v (.pointer a0)]) [] w = f17_vc a0 w R := by kernel_rfl
theorem f17_does (a0 : Option Addr) {w : World} {R : Ending → World → Prop} (h : f17_vc a0 w R) : Does Try.prog 17 #[.pointer a0] w R :=
  does_of_vc (ss := [.v (.pointer a0)]) f17_ann mixed call17 Try.func17 rfl rfl (show 1 ≤ Try.f17.ntmps by decide) ((f17_eq a0 w R).symm ▸ h)
/-- Of (*escritoire/escritoireref24.Parser).read (function 18): the condition. -/
def f18_vc (a0 : Option Addr) (p1 : Option Addr) (l1 c1 : Nat) (w : World) (R : Ending → World → Prop) : Prop :=
  ∀ b4 w4, NewBlk w b4 [.int .u8 0, .int .i64 0, .string (({ data := #[] } : ByteArray)), .string (({ data := #[] } : ByteArray)), .slice none 0 0] 39 w4 →
  ∀ b6 w6, NewBlk w4 b6 [.int .u8 0, .int .i64 0, .string (({ data := #[] } : ByteArray)), .string (({ data := #[] } : ByteArray)), .slice none 0 0] 39 w6 →
  CanStore w6 b6 0 ∧ ∀ ws, Stored w6 b6 0 (.int .u8 0) ws →
  CanStore ws b6 1 ∧ ∀ ws_1, Stored ws b6 1 (.int .i64 0) ws_1 →
  CanStore ws_1 b6 2 ∧ ∀ ws_2, Stored ws_1 b6 2 (.string (({ data := #[] } : ByteArray))) ws_2 →
  CanStore ws_2 b6 3 ∧ ∀ ws_3, Stored ws_2 b6 3 (.string (({ data := #[] } : ByteArray))) ws_3 →
  CanStore ws_3 b6 4 ∧ ∀ ws_4, Stored ws_3 b6 4 (.slice none 0 0) ws_4 →
  ∃ J10 : Int → Nat → World → Prop, (((0 : Int) ≤ 0 ∧ 0 < (l1 : Int)) ∧ ∃ b18 o18, p1 = some ⟨b18, o18, none⟩ ∧ ∃ n19 : Int, ws_4.cell? ⟨b18, o18 + (0 : Int).toNat, none⟩ = some (.int .u8 n19) ∧ Br (n19 == 34)
  (Br (((l1 : Int)) == 1)
  (∃ n24 : Int, ws_4.cell? ⟨b6, 0, none⟩ = some (.int .u8 n24) ∧ ∃ n24_1 : Int, ws_4.cell? ⟨b6, 1, none⟩ = some (.int .i64 n24_1) ∧ ∃ s24 : ByteArray, ws_4.cell? ⟨b6, 2, none⟩ = some (.string s24) ∧ ∃ s24_1 : ByteArray, ws_4.cell? ⟨b6, 3, none⟩ = some (.string s24_1) ∧ ∃ (p24 : Option Addr) (l24 c24 : Nat), ws_4.cell? ⟨b6, 4, none⟩ = some (.slice p24 l24 c24) ∧ CanStore ws_4 b4 0 ∧ ∀ ws_5, Stored ws_4 b4 0 (.int .u8 n24) ws_5 →
  CanStore ws_5 b4 1 ∧ ∀ ws_6, Stored ws_5 b4 1 (.int .i64 n24_1) ws_6 →
  CanStore ws_6 b4 2 ∧ ∀ ws_7, Stored ws_6 b4 2 (.string s24) ws_7 →
  CanStore ws_7 b4 3 ∧ ∀ ws_8, Stored ws_7 b4 3 (.string s24_1) ws_8 →
  CanStore ws_8 b4 4 ∧ ∀ ws_9, Stored ws_8 b4 4 (.slice p24 l24 c24) ws_9 →
  ∃ n4 : Int, ws_9.cell? ⟨b4, 0, none⟩ = some (.int .u8 n4) ∧ ∃ n4_1 : Int, ws_9.cell? ⟨b4, 1, none⟩ = some (.int .i64 n4_1) ∧ ∃ s4 : ByteArray, ws_9.cell? ⟨b4, 2, none⟩ = some (.string s4) ∧ ∃ s4_1 : ByteArray, ws_9.cell? ⟨b4, 3, none⟩ = some (.string s4_1) ∧ ∃ (p4 : Option Addr) (l4 c4 : Nat), ws_9.cell? ⟨b4, 4, none⟩ = some (.slice p4 l4 c4) ∧ R (.returned (.tuple #[.agg #[.int .u8 n4, .int .i64 n4_1, .string s4, .string s4_1, .slice p4 l4 c4], .int .i64 0])) ws_9)
  (((0 : Int) ≤ 1 ∧ 1 < (l1 : Int)) ∧ ∃ b26 o26, p1 = some ⟨b26, o26, none⟩ ∧ ∃ n27 : Int, ws_4.cell? ⟨b26, o26 + (1 : Int).toNat, none⟩ = some (.int .u8 n27) ∧ Does Try.prog 20 #[.int .u8 n27] ws_4 fun e28 w28 =>
  ∃ b28 : Bool, e28 = .returned (.bool b28) ∧ Br (!b28)
  (∃ n30 : Int, w28.cell? ⟨b6, 0, none⟩ = some (.int .u8 n30) ∧ ∃ n30_1 : Int, w28.cell? ⟨b6, 1, none⟩ = some (.int .i64 n30_1) ∧ ∃ s30 : ByteArray, w28.cell? ⟨b6, 2, none⟩ = some (.string s30) ∧ ∃ s30_1 : ByteArray, w28.cell? ⟨b6, 3, none⟩ = some (.string s30_1) ∧ ∃ (p30 : Option Addr) (l30 c30 : Nat), w28.cell? ⟨b6, 4, none⟩ = some (.slice p30 l30 c30) ∧ CanStore w28 b4 0 ∧ ∀ ws_10, Stored w28 b4 0 (.int .u8 n30) ws_10 →
  CanStore ws_10 b4 1 ∧ ∀ ws_11, Stored ws_10 b4 1 (.int .i64 n30_1) ws_11 →
  CanStore ws_11 b4 2 ∧ ∀ ws_12, Stored ws_11 b4 2 (.string s30) ws_12 →
  CanStore ws_12 b4 3 ∧ ∀ ws_13, Stored ws_12 b4 3 (.string s30_1) ws_13 →
  CanStore ws_13 b4 4 ∧ ∀ ws_14, Stored ws_13 b4 4 (.slice p30 l30 c30) ws_14 →
  ∃ n4_2 : Int, ws_14.cell? ⟨b4, 0, none⟩ = some (.int .u8 n4_2) ∧ ∃ n4_3 : Int, ws_14.cell? ⟨b4, 1, none⟩ = some (.int .i64 n4_3) ∧ ∃ s4_2 : ByteArray, ws_14.cell? ⟨b4, 2, none⟩ = some (.string s4_2) ∧ ∃ s4_3 : ByteArray, ws_14.cell? ⟨b4, 3, none⟩ = some (.string s4_3) ∧ ∃ (p4_1 : Option Addr) (l4_1 c4_1 : Nat), ws_14.cell? ⟨b4, 4, none⟩ = some (.slice p4_1 l4_1 c4_1) ∧ R (.returned (.tuple #[.agg #[.int .u8 n4_2, .int .i64 n4_3, .string s4_2, .string s4_3, .slice p4_1 l4_1 c4_1], .int .i64 2])) ws_14)
  (((0 : Int) ≤ 1 ∧ 1 < (l1 : Int)) ∧ ∃ b32 o32, p1 = some ⟨b32, o32, none⟩ ∧ ∃ n33 : Int, w28.cell? ⟨b32, o32 + (1 : Int).toNat, none⟩ = some (.int .u8 n33) ∧ CanStore w28 b6 0 ∧ ∀ ws_15, Stored w28 b6 0 (.int .u8 n33) ws_15 →
  ∃ nc10, J10 2 nc10 ws_15)))
  (∃ nc10, J10 0 nc10 ws_4)) ∧ ∀ x7 : Int, ∀ (nc10 : Nat) (wc10 : World), J10 x7 nc10 wc10 →
  Does Try.prog 21 #[.slice p1 l1 c1, .int .i64 x7] wc10 fun e38 w38 =>
  ∃ n38 : Int, ∃ n38_1 : Int, e38 = .returned (.tuple #[.int .i64 n38, .int .i64 n38_1]) ∧ CanStore w38 b6 1 ∧ ∀ ws_16, Stored w38 b6 1 (.int .i64 n38) ws_16 →
  Br (decide (n38_1 ≥ ((l1 : Int))))
  (∃ n46 : Int, ws_16.cell? ⟨b6, 0, none⟩ = some (.int .u8 n46) ∧ ∃ n46_1 : Int, ws_16.cell? ⟨b6, 1, none⟩ = some (.int .i64 n46_1) ∧ ∃ s46 : ByteArray, ws_16.cell? ⟨b6, 2, none⟩ = some (.string s46) ∧ ∃ s46_1 : ByteArray, ws_16.cell? ⟨b6, 3, none⟩ = some (.string s46_1) ∧ ∃ (p46 : Option Addr) (l46 c46 : Nat), ws_16.cell? ⟨b6, 4, none⟩ = some (.slice p46 l46 c46) ∧ CanStore ws_16 b4 0 ∧ ∀ ws_17, Stored ws_16 b4 0 (.int .u8 n46) ws_17 →
  CanStore ws_17 b4 1 ∧ ∀ ws_18, Stored ws_17 b4 1 (.int .i64 n46_1) ws_18 →
  CanStore ws_18 b4 2 ∧ ∀ ws_19, Stored ws_18 b4 2 (.string s46) ws_19 →
  CanStore ws_19 b4 3 ∧ ∀ ws_20, Stored ws_19 b4 3 (.string s46_1) ws_20 →
  CanStore ws_20 b4 4 ∧ ∀ ws_21, Stored ws_20 b4 4 (.slice p46 l46 c46) ws_21 →
  ∃ n4_4 : Int, ws_21.cell? ⟨b4, 0, none⟩ = some (.int .u8 n4_4) ∧ ∃ n4_5 : Int, ws_21.cell? ⟨b4, 1, none⟩ = some (.int .i64 n4_5) ∧ ∃ s4_4 : ByteArray, ws_21.cell? ⟨b4, 2, none⟩ = some (.string s4_4) ∧ ∃ s4_5 : ByteArray, ws_21.cell? ⟨b4, 3, none⟩ = some (.string s4_5) ∧ ∃ (p4_2 : Option Addr) (l4_2 c4_2 : Nat), ws_21.cell? ⟨b4, 4, none⟩ = some (.slice p4_2 l4_2 c4_2) ∧ R (.returned (.tuple #[.agg #[.int .u8 n4_4, .int .i64 n4_5, .string s4_4, .string s4_5, .slice p4_2 l4_2 c4_2], .int .i64 0])) ws_21)
  (∃ J20 : Nat → World → Prop, (∃ b48 o48, a0 = some ⟨b48, o48, none⟩ ∧ ∃ b50 : Bool, ws_16.cell? ⟨b48, o48, none⟩ = some (.bool b50) ∧ Br (!b50)
  (Does Try.prog 22 #[.slice p1 l1 c1, .int .i64 n38_1] ws_16 fun e55 w55 =>
  ∃ s55 : ByteArray, ∃ n55 : Int, ∃ n55_1 : Int, e55 = .returned (.tuple #[.string s55, .int .i64 n55, .int .i64 n55_1]) ∧ Br (n55_1 == 0)
  (∃ n61 : Int, w55.cell? ⟨b6, 0, none⟩ = some (.int .u8 n61) ∧ ∃ n61_1 : Int, w55.cell? ⟨b6, 1, none⟩ = some (.int .i64 n61_1) ∧ ∃ s61 : ByteArray, w55.cell? ⟨b6, 2, none⟩ = some (.string s61) ∧ ∃ s61_1 : ByteArray, w55.cell? ⟨b6, 3, none⟩ = some (.string s61_1) ∧ ∃ (p61 : Option Addr) (l61 c61 : Nat), w55.cell? ⟨b6, 4, none⟩ = some (.slice p61 l61 c61) ∧ CanStore w55 b4 0 ∧ ∀ ws_22, Stored w55 b4 0 (.int .u8 n61) ws_22 →
  CanStore ws_22 b4 1 ∧ ∀ ws_23, Stored ws_22 b4 1 (.int .i64 n61_1) ws_23 →
  CanStore ws_23 b4 2 ∧ ∀ ws_24, Stored ws_23 b4 2 (.string s61) ws_24 →
  CanStore ws_24 b4 3 ∧ ∀ ws_25, Stored ws_24 b4 3 (.string s61_1) ws_25 →
  CanStore ws_25 b4 4 ∧ ∀ ws_26, Stored ws_25 b4 4 (.slice p61 l61 c61) ws_26 →
  ∃ n4_6 : Int, ws_26.cell? ⟨b4, 0, none⟩ = some (.int .u8 n4_6) ∧ ∃ n4_7 : Int, ws_26.cell? ⟨b4, 1, none⟩ = some (.int .i64 n4_7) ∧ ∃ s4_6 : ByteArray, ws_26.cell? ⟨b4, 2, none⟩ = some (.string s4_6) ∧ ∃ s4_7 : ByteArray, ws_26.cell? ⟨b4, 3, none⟩ = some (.string s4_7) ∧ ∃ (p4_3 : Option Addr) (l4_3 c4_3 : Nat), ws_26.cell? ⟨b4, 4, none⟩ = some (.slice p4_3 l4_3 c4_3) ∧ R (.returned (.tuple #[.agg #[.int .u8 n4_6, .int .i64 n4_7, .string s4_6, .string s4_7, .slice p4_3 l4_3 c4_3], .int .i64 0])) ws_26)
  (Br (n55_1 == 1)
  (CanStore w55 b6 2 ∧ ∀ ws_27, Stored w55 b6 2 (.string s55) ws_27 →
  ∃ n67 : Int, ws_27.cell? ⟨b6, 0, none⟩ = some (.int .u8 n67) ∧ ∃ n67_1 : Int, ws_27.cell? ⟨b6, 1, none⟩ = some (.int .i64 n67_1) ∧ ∃ s67 : ByteArray, ws_27.cell? ⟨b6, 2, none⟩ = some (.string s67) ∧ ∃ s67_1 : ByteArray, ws_27.cell? ⟨b6, 3, none⟩ = some (.string s67_1) ∧ ∃ (p67 : Option Addr) (l67 c67 : Nat), ws_27.cell? ⟨b6, 4, none⟩ = some (.slice p67 l67 c67) ∧ Does Try.prog 23 #[.pointer a0, .agg #[.int .u8 n67, .int .i64 n67_1, .string s67, .string s67_1, .slice p67 l67 c67], .slice p1 l1 c1, .int .i64 n55] ws_27 fun e70 w70 =>
  ∃ n70 : Int, ∃ n70_1 : Int, ∃ s70 : ByteArray, ∃ s70_1 : ByteArray, ∃ (p70 : Option Addr) (l70 c70 : Nat), ∃ n70_2 : Int, e70 = .returned (.tuple #[.agg #[.int .u8 n70, .int .i64 n70_1, .string s70, .string s70_1, .slice p70 l70 c70], .int .i64 n70_2]) ∧ CanStore w70 b4 0 ∧ ∀ ws_28, Stored w70 b4 0 (.int .u8 n70) ws_28 →
  CanStore ws_28 b4 1 ∧ ∀ ws_29, Stored ws_28 b4 1 (.int .i64 n70_1) ws_29 →
  CanStore ws_29 b4 2 ∧ ∀ ws_30, Stored ws_29 b4 2 (.string s70) ws_30 →
  CanStore ws_30 b4 3 ∧ ∀ ws_31, Stored ws_30 b4 3 (.string s70_1) ws_31 →
  CanStore ws_31 b4 4 ∧ ∀ ws_32, Stored ws_31 b4 4 (.slice p70 l70 c70) ws_32 →
  ∃ n4_8 : Int, ws_32.cell? ⟨b4, 0, none⟩ = some (.int .u8 n4_8) ∧ ∃ n4_9 : Int, ws_32.cell? ⟨b4, 1, none⟩ = some (.int .i64 n4_9) ∧ ∃ s4_8 : ByteArray, ws_32.cell? ⟨b4, 2, none⟩ = some (.string s4_8) ∧ ∃ s4_9 : ByteArray, ws_32.cell? ⟨b4, 3, none⟩ = some (.string s4_9) ∧ ∃ (p4_4 : Option Addr) (l4_4 c4_4 : Nat), ws_32.cell? ⟨b4, 4, none⟩ = some (.slice p4_4 l4_4 c4_4) ∧ R (.returned (.tuple #[.agg #[.int .u8 n4_8, .int .i64 n4_9, .string s4_8, .string s4_9, .slice p4_4 l4_4 c4_4], .int .i64 n70_2])) ws_32)
  (∃ nc20, J20  nc20 w55)))
  (∃ nc20, J20  nc20 ws_16)) ∧ ∀ (nc20 : Nat) (wc20 : World), J20  nc20 wc20 →
  Does Try.prog 24 #[.slice p1 l1 c1, .int .i64 n38_1] wc20 fun e76 w76 =>
  ∃ s76 : ByteArray, ∃ (p76 : Option Addr) (l76 c76 : Nat), ∃ n76 : Int, e76 = .returned (.tuple #[.string s76, .slice p76 l76 c76, .int .i64 n76]) ∧ Br (n76 == 1)
  (CanStore w76 b6 3 ∧ ∀ ws_33, Stored w76 b6 3 (.string s76) ws_33 →
  CanStore ws_33 b6 4 ∧ ∀ ws_34, Stored ws_33 b6 4 (.slice p76 l76 c76) ws_34 →
  ∃ n86 : Int, ws_34.cell? ⟨b6, 0, none⟩ = some (.int .u8 n86) ∧ ∃ n86_1 : Int, ws_34.cell? ⟨b6, 1, none⟩ = some (.int .i64 n86_1) ∧ ∃ s86 : ByteArray, ws_34.cell? ⟨b6, 2, none⟩ = some (.string s86) ∧ ∃ s86_1 : ByteArray, ws_34.cell? ⟨b6, 3, none⟩ = some (.string s86_1) ∧ ∃ (p86 : Option Addr) (l86 c86 : Nat), ws_34.cell? ⟨b6, 4, none⟩ = some (.slice p86 l86 c86) ∧ CanStore ws_34 b4 0 ∧ ∀ ws_35, Stored ws_34 b4 0 (.int .u8 n86) ws_35 →
  CanStore ws_35 b4 1 ∧ ∀ ws_36, Stored ws_35 b4 1 (.int .i64 n86_1) ws_36 →
  CanStore ws_36 b4 2 ∧ ∀ ws_37, Stored ws_36 b4 2 (.string s86) ws_37 →
  CanStore ws_37 b4 3 ∧ ∀ ws_38, Stored ws_37 b4 3 (.string s86_1) ws_38 →
  CanStore ws_38 b4 4 ∧ ∀ ws_39, Stored ws_38 b4 4 (.slice p86 l86 c86) ws_39 →
  ∃ n4_10 : Int, ws_39.cell? ⟨b4, 0, none⟩ = some (.int .u8 n4_10) ∧ ∃ n4_11 : Int, ws_39.cell? ⟨b4, 1, none⟩ = some (.int .i64 n4_11) ∧ ∃ s4_10 : ByteArray, ws_39.cell? ⟨b4, 2, none⟩ = some (.string s4_10) ∧ ∃ s4_11 : ByteArray, ws_39.cell? ⟨b4, 3, none⟩ = some (.string s4_11) ∧ ∃ (p4_5 : Option Addr) (l4_5 c4_5 : Nat), ws_39.cell? ⟨b4, 4, none⟩ = some (.slice p4_5 l4_5 c4_5) ∧ R (.returned (.tuple #[.agg #[.int .u8 n4_10, .int .i64 n4_11, .string s4_10, .string s4_11, .slice p4_5 l4_5 c4_5], .int .i64 1])) ws_39)
  (Does Try.prog 25 #[.pointer a0, .slice p1 l1 c1, .int .i64 n38_1] w76 fun e91 w91 =>
  ∃ s91 : ByteArray, ∃ (p91 : Option Addr) (l91 c91 : Nat), ∃ n91 : Int, e91 = .returned (.tuple #[.string s91, .slice p91 l91 c91, .int .i64 n91]) ∧ Br (n91 == 1)
  (CanStore w91 b6 2 ∧ ∀ ws_40, Stored w91 b6 2 (.string s91) ws_40 →
  CanStore ws_40 b6 4 ∧ ∀ ws_41, Stored ws_40 b6 4 (.slice p91 l91 c91) ws_41 →
  ∃ n101 : Int, ws_41.cell? ⟨b6, 0, none⟩ = some (.int .u8 n101) ∧ ∃ n101_1 : Int, ws_41.cell? ⟨b6, 1, none⟩ = some (.int .i64 n101_1) ∧ ∃ s101 : ByteArray, ws_41.cell? ⟨b6, 2, none⟩ = some (.string s101) ∧ ∃ s101_1 : ByteArray, ws_41.cell? ⟨b6, 3, none⟩ = some (.string s101_1) ∧ ∃ (p101 : Option Addr) (l101 c101 : Nat), ws_41.cell? ⟨b6, 4, none⟩ = some (.slice p101 l101 c101) ∧ CanStore ws_41 b4 0 ∧ ∀ ws_42, Stored ws_41 b4 0 (.int .u8 n101) ws_42 →
  CanStore ws_42 b4 1 ∧ ∀ ws_43, Stored ws_42 b4 1 (.int .i64 n101_1) ws_43 →
  CanStore ws_43 b4 2 ∧ ∀ ws_44, Stored ws_43 b4 2 (.string s101) ws_44 →
  CanStore ws_44 b4 3 ∧ ∀ ws_45, Stored ws_44 b4 3 (.string s101_1) ws_45 →
  CanStore ws_45 b4 4 ∧ ∀ ws_46, Stored ws_45 b4 4 (.slice p101 l101 c101) ws_46 →
  ∃ n4_12 : Int, ws_46.cell? ⟨b4, 0, none⟩ = some (.int .u8 n4_12) ∧ ∃ n4_13 : Int, ws_46.cell? ⟨b4, 1, none⟩ = some (.int .i64 n4_13) ∧ ∃ s4_12 : ByteArray, ws_46.cell? ⟨b4, 2, none⟩ = some (.string s4_12) ∧ ∃ s4_13 : ByteArray, ws_46.cell? ⟨b4, 3, none⟩ = some (.string s4_13) ∧ ∃ (p4_6 : Option Addr) (l4_6 c4_6 : Nat), ws_46.cell? ⟨b4, 4, none⟩ = some (.slice p4_6 l4_6 c4_6) ∧ R (.returned (.tuple #[.agg #[.int .u8 n4_12, .int .i64 n4_13, .string s4_12, .string s4_13, .slice p4_6 l4_6 c4_6], .int .i64 1])) ws_46)
  (∃ n102 : Int, w91.cell? ⟨b6, 0, none⟩ = some (.int .u8 n102) ∧ ∃ n102_1 : Int, w91.cell? ⟨b6, 1, none⟩ = some (.int .i64 n102_1) ∧ ∃ s102 : ByteArray, w91.cell? ⟨b6, 2, none⟩ = some (.string s102) ∧ ∃ s102_1 : ByteArray, w91.cell? ⟨b6, 3, none⟩ = some (.string s102_1) ∧ ∃ (p102 : Option Addr) (l102 c102 : Nat), w91.cell? ⟨b6, 4, none⟩ = some (.slice p102 l102 c102) ∧ CanStore w91 b4 0 ∧ ∀ ws_47, Stored w91 b4 0 (.int .u8 n102) ws_47 →
  CanStore ws_47 b4 1 ∧ ∀ ws_48, Stored ws_47 b4 1 (.int .i64 n102_1) ws_48 →
  CanStore ws_48 b4 2 ∧ ∀ ws_49, Stored ws_48 b4 2 (.string s102) ws_49 →
  CanStore ws_49 b4 3 ∧ ∀ ws_50, Stored ws_49 b4 3 (.string s102_1) ws_50 →
  CanStore ws_50 b4 4 ∧ ∀ ws_51, Stored ws_50 b4 4 (.slice p102 l102 c102) ws_51 →
  ∃ n4_14 : Int, ws_51.cell? ⟨b4, 0, none⟩ = some (.int .u8 n4_14) ∧ ∃ n4_15 : Int, ws_51.cell? ⟨b4, 1, none⟩ = some (.int .i64 n4_15) ∧ ∃ s4_14 : ByteArray, ws_51.cell? ⟨b4, 2, none⟩ = some (.string s4_14) ∧ ∃ s4_15 : ByteArray, ws_51.cell? ⟨b4, 3, none⟩ = some (.string s4_15) ∧ ∃ (p4_7 : Option Addr) (l4_7 c4_7 : Nat), ws_51.cell? ⟨b4, 4, none⟩ = some (.slice p4_7 l4_7 c4_7) ∧ R (.returned (.tuple #[.agg #[.int .u8 n4_14, .int .i64 n4_15, .string s4_14, .string s4_15, .slice p4_7 l4_7 c4_7], .int .i64 (if n91 < n76 then n91 else n76)])) ws_51)))
def f18_ann : Ann := { loops := [], cuts := [(10, [(7, .int .i64)]), (20, [])], flip := [], throws := [] }
theorem f18_eq (a0 : Option Addr) (p1 : Option Addr) (l1 c1 : Nat) (w : World) (R : Ending → World → Prop) : vc Try.prog f18_ann (bodyOf Try.f18) (retQ Try.prog Try.f18 R) (envOf Try.f18.ntmps [.v (.pointer a0), .v (.slice p1 l1 c1)]) [] w = f18_vc a0 p1 l1 c1 w R := by kernel_rfl
theorem f18_does (a0 : Option Addr) (p1 : Option Addr) (l1 c1 : Nat) {w : World} {R : Ending → World → Prop} (h : f18_vc a0 p1 l1 c1 w R) : Does Try.prog 18 #[.pointer a0, .slice p1 l1 c1] w R :=
  does_of_vc (ss := [.v (.pointer a0), .v (.slice p1 l1 c1)]) f18_ann mixed call18 Try.func18 rfl rfl (show 2 ≤ Try.f18.ntmps by decide) ((f18_eq a0 p1 l1 c1 w R).symm ▸ h)
/-- Of (*escritoire/keys.Parser).begin (function 19): the condition. -/
def f19_vc (a0 : Option Addr) (a1 : Int) (w : World) (R : Ending → World → Prop) : Prop :=
  Br (a1 == 34)
  (Does Try.prog 26 #[.pointer a0, .func (.func 27) #[.pointer a0] #[]] w fun e10 w10 =>
  ∃ n10 : Int, e10 = .returned (.int .i64 n10) ∧ R (.returned (.int .i64 n10)) w10)
  (Does Try.prog 28 #[.pointer a0, .int .u8 a1] w fun e13 w13 =>
  ∃ n13 : Int, e13 = .returned (.int .i64 n13) ∧ R (.returned (.int .i64 n13)) w13)
def f19_ann : Ann := { loops := [], cuts := [], flip := [], throws := [] }
theorem f19_eq (a0 : Option Addr) (a1 : Int) (w : World) (R : Ending → World → Prop) : vc Try.prog f19_ann (bodyOf Try.f19) (retQ Try.prog Try.f19 R) (envOf Try.f19.ntmps [.v (.pointer a0), .v (.int .u8 a1)]) [] w = f19_vc a0 a1 w R := by kernel_rfl
theorem f19_does (a0 : Option Addr) (a1 : Int) {w : World} {R : Ending → World → Prop} (h : f19_vc a0 a1 w R) : Does Try.prog 19 #[.pointer a0, .int .u8 a1] w R :=
  does_of_vc (ss := [.v (.pointer a0), .v (.int .u8 a1)]) f19_ann mixed call19 Try.func19 rfl rfl (show 2 ≤ Try.f19.ntmps by decide) ((f19_eq a0 a1 w R).symm ▸ h)
/-- Of escritoire/escritoireref24.name (function 20): the condition. -/
def f20_vc (a0 : Int) (w : World) (R : Ending → World → Prop) : Prop :=
  Does Try.prog 29 #[.int .u8 a0] w fun e4 w4 =>
  ∃ b4 : Bool, e4 = .returned (.bool b4) ∧ Br b4
  (R (.returned (.bool true)) w4)
  (Br (decide (a0 ≥ 65))
  (Br (decide (a0 ≤ 90))
  (R (.returned (.bool true)) w4)
  (Br (decide (a0 ≥ 48))
  (Br (decide (a0 ≤ 57))
  (R (.returned (.bool true)) w4)
  (Br (a0 == 61)
  (R (.returned (.bool true)) w4)
  (R (.returned (.bool (a0 == 34))) w4)))
  (Br (a0 == 61)
  (R (.returned (.bool true)) w4)
  (R (.returned (.bool (a0 == 34))) w4))))
  (Br (decide (a0 ≥ 48))
  (Br (decide (a0 ≤ 57))
  (R (.returned (.bool true)) w4)
  (Br (a0 == 61)
  (R (.returned (.bool true)) w4)
  (R (.returned (.bool (a0 == 34))) w4)))
  (Br (a0 == 61)
  (R (.returned (.bool true)) w4)
  (R (.returned (.bool (a0 == 34))) w4))))
def f20_ann : Ann := { loops := [], cuts := [], flip := [], throws := [] }
theorem f20_eq (a0 : Int) (w : World) (R : Ending → World → Prop) : vc Try.prog f20_ann (bodyOf Try.f20) (retQ Try.prog Try.f20 R) (envOf Try.f20.ntmps [.v (.int .u8 a0)]) [] w = f20_vc a0 w R := by kernel_rfl
theorem f20_does (a0 : Int) {w : World} {R : Ending → World → Prop} (h : f20_vc a0 w R) : Does Try.prog 20 #[.int .u8 a0] w R :=
  does_of_vc (ss := [.v (.int .u8 a0)]) f20_ann mixed call20 Try.func20 rfl rfl (show 1 ≤ Try.f20.ntmps by decide) ((f20_eq a0 w R).symm ▸ h)
/-- Of escritoire/escritoireref24.count (function 21): the condition. -/
def f21_vc (p0 : Option Addr) (l0 c0 : Nat) (a1 : Int) (w : World) (R : Ending → World → Prop) : Prop :=
  Br (decide (a1 < ((l0 : Int))))
  (((0 : Int) ≤ a1 ∧ a1 < (l0 : Int)) ∧ ∃ b14 o14, p0 = some ⟨b14, o14, none⟩ ∧ ∃ n15 : Int, w.cell? ⟨b14, o14 + (a1).toNat, none⟩ = some (.int .u8 n15) ∧ Br (n15 == 48)
  (R (.returned (.tuple #[.int .i64 0, .int .i64 a1])) w)
  (∃ I4 : Int → Int → Nat → World → Prop, (∃ nl4, I4 a1 0 nl4 w) ∧ ∀ x1 : Int, ∀ x6 : Int, ∀ (nl4 : Nat) (wl4 : World), I4 x1 x6 nl4 wl4 →
  Br (decide (x1 < ((l0 : Int))))
  (((0 : Int) ≤ x1 ∧ x1 < (l0 : Int)) ∧ ∃ b26 o26, p0 = some ⟨b26, o26, none⟩ ∧ ∃ n27 : Int, wl4.cell? ⟨b26, o26 + (x1).toNat, none⟩ = some (.int .u8 n27) ∧ Br (decide (n27 ≥ 48))
  (((0 : Int) ≤ x1 ∧ x1 < (l0 : Int)) ∧ ∃ b33 o33, p0 = some ⟨b33, o33, none⟩ ∧ ∃ n34 : Int, wl4.cell? ⟨b33, o33 + (x1).toNat, none⟩ = some (.int .u8 n34) ∧ Br (decide (n34 ≤ 57))
  (InK .i64 (x6 * 10) ∧ ((0 : Int) ≤ x1 ∧ x1 < (l0 : Int)) ∧ ∃ b41 o41, p0 = some ⟨b41, o41, none⟩ ∧ ∃ n42 : Int, wl4.cell? ⟨b41, o41 + (x1).toNat, none⟩ = some (.int .u8 n42) ∧ InK .i64 (IntKind.wrap .u8 (n42 - 48)) ∧ InK .i64 ((x6 * 10) + (IntKind.wrap .u8 (n42 - 48))) ∧ InK .i64 (x1 + 1) ∧ ∃ ml4, ml4 < nl4 ∧ I4 (x1 + 1) (if 99 < (x6 * 10) + (IntKind.wrap .u8 (n42 - 48)) then 99 else (x6 * 10) + (IntKind.wrap .u8 (n42 - 48))) ml4 wl4)
  (R (.returned (.tuple #[.int .i64 x6, .int .i64 x1])) wl4))
  (R (.returned (.tuple #[.int .i64 x6, .int .i64 x1])) wl4))
  (R (.returned (.tuple #[.int .i64 x6, .int .i64 x1])) wl4)))
  (∃ I4_1 : Int → Int → Nat → World → Prop, (∃ nl4_1, I4_1 a1 0 nl4_1 w) ∧ ∀ x1_1 : Int, ∀ x6_1 : Int, ∀ (nl4_1 : Nat) (wl4_1 : World), I4_1 x1_1 x6_1 nl4_1 wl4_1 →
  Br (decide (x1_1 < ((l0 : Int))))
  (((0 : Int) ≤ x1_1 ∧ x1_1 < (l0 : Int)) ∧ ∃ b26_1 o26_1, p0 = some ⟨b26_1, o26_1, none⟩ ∧ ∃ n27_1 : Int, wl4_1.cell? ⟨b26_1, o26_1 + (x1_1).toNat, none⟩ = some (.int .u8 n27_1) ∧ Br (decide (n27_1 ≥ 48))
  (((0 : Int) ≤ x1_1 ∧ x1_1 < (l0 : Int)) ∧ ∃ b33_1 o33_1, p0 = some ⟨b33_1, o33_1, none⟩ ∧ ∃ n34_1 : Int, wl4_1.cell? ⟨b33_1, o33_1 + (x1_1).toNat, none⟩ = some (.int .u8 n34_1) ∧ Br (decide (n34_1 ≤ 57))
  (InK .i64 (x6_1 * 10) ∧ ((0 : Int) ≤ x1_1 ∧ x1_1 < (l0 : Int)) ∧ ∃ b41_1 o41_1, p0 = some ⟨b41_1, o41_1, none⟩ ∧ ∃ n42_1 : Int, wl4_1.cell? ⟨b41_1, o41_1 + (x1_1).toNat, none⟩ = some (.int .u8 n42_1) ∧ InK .i64 (IntKind.wrap .u8 (n42_1 - 48)) ∧ InK .i64 ((x6_1 * 10) + (IntKind.wrap .u8 (n42_1 - 48))) ∧ InK .i64 (x1_1 + 1) ∧ ∃ ml4_1, ml4_1 < nl4_1 ∧ I4_1 (x1_1 + 1) (if 99 < (x6_1 * 10) + (IntKind.wrap .u8 (n42_1 - 48)) then 99 else (x6_1 * 10) + (IntKind.wrap .u8 (n42_1 - 48))) ml4_1 wl4_1)
  (R (.returned (.tuple #[.int .i64 x6_1, .int .i64 x1_1])) wl4_1))
  (R (.returned (.tuple #[.int .i64 x6_1, .int .i64 x1_1])) wl4_1))
  (R (.returned (.tuple #[.int .i64 x6_1, .int .i64 x1_1])) wl4_1))
def f21_ann : Ann := { loops := [(4, [(1, .int .i64), (6, .int .i64)])], cuts := [], flip := [], throws := [] }
theorem f21_eq (p0 : Option Addr) (l0 c0 : Nat) (a1 : Int) (w : World) (R : Ending → World → Prop) : vc Try.prog f21_ann (bodyOf Try.f21) (retQ Try.prog Try.f21 R) (envOf Try.f21.ntmps [.v (.slice p0 l0 c0), .v (.int .i64 a1)]) [] w = f21_vc p0 l0 c0 a1 w R := by kernel_rfl
theorem f21_does (p0 : Option Addr) (l0 c0 : Nat) (a1 : Int) {w : World} {R : Ending → World → Prop} (h : f21_vc p0 l0 c0 a1 w R) : Does Try.prog 21 #[.slice p0 l0 c0, .int .i64 a1] w R :=
  does_of_vc (ss := [.v (.slice p0 l0 c0), .v (.int .i64 a1)]) f21_ann mixed call21 Try.func21 rfl rfl (show 2 ≤ Try.f21.ntmps by decide) ((f21_eq p0 l0 c0 a1 w R).symm ▸ h)
/-- Of escritoire/escritoireref24.operator (function 22): the condition. -/
def f22_vc (p0 : Option Addr) (l0 c0 : Nat) (a1 : Int) (w : World) (R : Ending → World → Prop) : Prop :=
  ((0 : Int) ≤ a1 ∧ a1 < (l0 : Int)) ∧ ∃ b10 o10, p0 = some ⟨b10, o10, none⟩ ∧ ∃ n11 : Int, w.cell? ⟨b10, o10 + (a1).toNat, none⟩ = some (.int .u8 n11) ∧ Does Try.prog 30 #[.string (({ data := #[100, 99, 121, 62, 60] } : ByteArray)), .int .u8 n11] w fun e12 w12 =>
  ∃ b12 : Bool, e12 = .returned (.bool b12) ∧ Br b12
  (((0 : Int) ≤ a1 ∧ a1 < (l0 : Int)) ∧ ∃ b15 o15, p0 = some ⟨b15, o15, none⟩ ∧ ∃ n16 : Int, w12.cell? ⟨b15, o15 + (a1).toNat, none⟩ = some (.int .u8 n16) ∧ ∀ b17 w17, NewBlk w12 b17 [.int .u8 n16] 5 w17 →
  ∃ s18 : ByteArray, ∃ w18, (convert 27 9 (.slice (some ⟨b17, 0, none⟩) 1 1)).run Try.prog w17 = .ok (.string s18) w18 ∧ InK .i64 (a1 + 1) ∧ R (.returned (.tuple #[.string s18, .int .i64 (a1 + 1), .int .i64 1])) w18)
  (((0 : Int) ≤ a1 ∧ a1 < (l0 : Int)) ∧ ∃ b24 o24, p0 = some ⟨b24, o24, none⟩ ∧ ∃ n25 : Int, w12.cell? ⟨b24, o24 + (a1).toNat, none⟩ = some (.int .u8 n25) ∧ Br (n25 != 103)
  (R (.returned (.tuple #[.string (({ data := #[] } : ByteArray)), .int .i64 a1, .int .i64 2])) w12)
  (InK .i64 (a1 + 1) ∧ Br (decide ((a1 + 1) ≥ ((l0 : Int))))
  (R (.returned (.tuple #[.string (({ data := #[] } : ByteArray)), .int .i64 a1, .int .i64 0])) w12)
  (InK .i64 (a1 + 1) ∧ ((0 : Int) ≤ (a1 + 1) ∧ (a1 + 1) < (l0 : Int)) ∧ ∃ b39 o39, p0 = some ⟨b39, o39, none⟩ ∧ ∃ n40 : Int, w12.cell? ⟨b39, o39 + (a1 + 1).toNat, none⟩ = some (.int .u8 n40) ∧ Does Try.prog 30 #[.string (({ data := #[117, 85, 126] } : ByteArray)), .int .u8 n40] w12 fun e41 w41 =>
  ∃ b41 : Bool, e41 = .returned (.bool b41) ∧ Br b41
  (InK .i64 (a1 + 1) ∧ ((0 : Int) ≤ (a1 + 1) ∧ (a1 + 1) < (l0 : Int)) ∧ ∃ b45 o45, p0 = some ⟨b45, o45, none⟩ ∧ ∃ n46 : Int, w41.cell? ⟨b45, o45 + (a1 + 1).toNat, none⟩ = some (.int .u8 n46) ∧ ∀ b47 w47, NewBlk w41 b47 [.int .u8 103, .int .u8 n46] 5 w47 →
  ∃ s48 : ByteArray, ∃ w48, (convert 27 9 (.slice (some ⟨b47, 0, none⟩) 2 2)).run Try.prog w47 = .ok (.string s48) w48 ∧ InK .i64 (a1 + 2) ∧ R (.returned (.tuple #[.string s48, .int .i64 (a1 + 2), .int .i64 1])) w48)
  (R (.returned (.tuple #[.string (({ data := #[] } : ByteArray)), .int .i64 a1, .int .i64 2])) w41))))
def f22_ann : Ann := { loops := [], cuts := [], flip := [], throws := [] }
theorem f22_eq (p0 : Option Addr) (l0 c0 : Nat) (a1 : Int) (w : World) (R : Ending → World → Prop) : vc Try.prog f22_ann (bodyOf Try.f22) (retQ Try.prog Try.f22 R) (envOf Try.f22.ntmps [.v (.slice p0 l0 c0), .v (.int .i64 a1)]) [] w = f22_vc p0 l0 c0 a1 w R := by kernel_rfl
theorem f22_does (p0 : Option Addr) (l0 c0 : Nat) (a1 : Int) {w : World} {R : Ending → World → Prop} (h : f22_vc p0 l0 c0 a1 w R) : Does Try.prog 22 #[.slice p0 l0 c0, .int .i64 a1] w R :=
  does_of_vc (ss := [.v (.slice p0 l0 c0), .v (.int .i64 a1)]) f22_ann mixed call22 Try.func22 rfl rfl (show 2 ≤ Try.f22.ntmps by decide) ((f22_eq p0 l0 c0 a1 w R).symm ▸ h)
/-- Of (*escritoire/escritoireref24.Parser).operated (function 23): the condition. -/
def f23_vc (a0 : Option Addr) (a1_0 : Int) (a1_1 : Int) (a1_2 : ByteArray) (a1_3 : ByteArray) (p1_4 : Option Addr) (l1_4 c1_4 : Nat) (p2 : Option Addr) (l2 c2 : Nat) (a3 : Int) (w : World) (R : Ending → World → Prop) : Prop :=
  ∀ b5 w5, NewBlk w b5 [.int .u8 a1_0, .int .i64 a1_1, .string a1_2, .string a1_3, .slice p1_4 l1_4 c1_4] 39 w5 →
  ∀ b8 w8, NewBlk w5 b8 [.int .u8 0, .int .i64 0, .string (({ data := #[] } : ByteArray)), .string (({ data := #[] } : ByteArray)), .slice none 0 0] 39 w8 →
  Does Try.prog 21 #[.slice p2 l2 c2, .int .i64 a3] w8 fun e17 w17 =>
  ∃ n17 : Int, ∃ n17_1 : Int, e17 = .returned (.tuple #[.int .i64 n17, .int .i64 n17_1]) ∧ ∃ J4 : Nat → World → Prop, (Br (decide (n17 > 0))
  (∃ n23 : Int, w17.cell? ⟨b5, 1, none⟩ = some (.int .i64 n23) ∧ InK .i64 ((if n23 < 1 then 1 else n23) * n17) ∧ CanStore w17 b5 1 ∧ ∀ ws, Stored w17 b5 1 (.int .i64 (if 99 < (if n23 < 1 then 1 else n23) * n17 then 99 else (if n23 < 1 then 1 else n23) * n17)) ws →
  ∃ nc4, J4  nc4 ws)
  (∃ nc4, J4  nc4 w17)) ∧ ∀ (nc4 : Nat) (wc4 : World), J4  nc4 wc4 →
  Br (decide (n17_1 ≥ ((l2 : Int))))
  (∃ n33 : Int, wc4.cell? ⟨b5, 0, none⟩ = some (.int .u8 n33) ∧ ∃ n33_1 : Int, wc4.cell? ⟨b5, 1, none⟩ = some (.int .i64 n33_1) ∧ ∃ s33 : ByteArray, wc4.cell? ⟨b5, 2, none⟩ = some (.string s33) ∧ ∃ s33_1 : ByteArray, wc4.cell? ⟨b5, 3, none⟩ = some (.string s33_1) ∧ ∃ (p33 : Option Addr) (l33 c33 : Nat), wc4.cell? ⟨b5, 4, none⟩ = some (.slice p33 l33 c33) ∧ CanStore wc4 b8 0 ∧ ∀ ws_1, Stored wc4 b8 0 (.int .u8 n33) ws_1 →
  CanStore ws_1 b8 1 ∧ ∀ ws_2, Stored ws_1 b8 1 (.int .i64 n33_1) ws_2 →
  CanStore ws_2 b8 2 ∧ ∀ ws_3, Stored ws_2 b8 2 (.string s33) ws_3 →
  CanStore ws_3 b8 3 ∧ ∀ ws_4, Stored ws_3 b8 3 (.string s33_1) ws_4 →
  CanStore ws_4 b8 4 ∧ ∀ ws_5, Stored ws_4 b8 4 (.slice p33 l33 c33) ws_5 →
  ∃ n8 : Int, ws_5.cell? ⟨b8, 0, none⟩ = some (.int .u8 n8) ∧ ∃ n8_1 : Int, ws_5.cell? ⟨b8, 1, none⟩ = some (.int .i64 n8_1) ∧ ∃ s8 : ByteArray, ws_5.cell? ⟨b8, 2, none⟩ = some (.string s8) ∧ ∃ s8_1 : ByteArray, ws_5.cell? ⟨b8, 3, none⟩ = some (.string s8_1) ∧ ∃ (p8 : Option Addr) (l8 c8 : Nat), ws_5.cell? ⟨b8, 4, none⟩ = some (.slice p8 l8 c8) ∧ R (.returned (.tuple #[.agg #[.int .u8 n8, .int .i64 n8_1, .string s8, .string s8_1, .slice p8 l8 c8], .int .i64 0])) ws_5)
  (∃ J9 : Nat → World → Prop, (∀ wd6, Drew wc4 wd6 →
  ((0 : Int) ≤ n17_1 ∧ n17_1 < (l2 : Int)) ∧ ∃ b36 o36, p2 = some ⟨b36, o36, none⟩ ∧ ∃ n37 : Int, wd6.cell? ⟨b36, o36 + (n17_1).toNat, none⟩ = some (.int .u8 n37) ∧ ∃ s39 : ByteArray, wd6.cell? ⟨b5, 2, none⟩ = some (.string s39) ∧ ∃ s41 : ByteArray, wd6.cell? ⟨b5, 2, none⟩ = some (.string s41) ∧ InK .i64 (((s41.size : Int)) - 1) ∧ ((0 : Int) ≤ (((s41.size : Int)) - 1) ∧ (((s41.size : Int)) - 1) < (s39.size : Int)) ∧ Br (n37 == (sb s39 (((s41.size : Int)) - 1)))
  (InK .i64 (((l2 : Int)) - 1) ∧ Br (n17_1 == (((l2 : Int)) - 1))
  (CanStore wd6 b5 3 ∧ ∀ ws_6, Stored wd6 b5 3 (.string (({ data := #[95] } : ByteArray))) ws_6 →
  ∃ n54 : Int, ws_6.cell? ⟨b5, 0, none⟩ = some (.int .u8 n54) ∧ ∃ n54_1 : Int, ws_6.cell? ⟨b5, 1, none⟩ = some (.int .i64 n54_1) ∧ ∃ s54 : ByteArray, ws_6.cell? ⟨b5, 2, none⟩ = some (.string s54) ∧ ∃ s54_1 : ByteArray, ws_6.cell? ⟨b5, 3, none⟩ = some (.string s54_1) ∧ ∃ (p54 : Option Addr) (l54 c54 : Nat), ws_6.cell? ⟨b5, 4, none⟩ = some (.slice p54 l54 c54) ∧ CanStore ws_6 b8 0 ∧ ∀ ws_7, Stored ws_6 b8 0 (.int .u8 n54) ws_7 →
  CanStore ws_7 b8 1 ∧ ∀ ws_8, Stored ws_7 b8 1 (.int .i64 n54_1) ws_8 →
  CanStore ws_8 b8 2 ∧ ∀ ws_9, Stored ws_8 b8 2 (.string s54) ws_9 →
  CanStore ws_9 b8 3 ∧ ∀ ws_10, Stored ws_9 b8 3 (.string s54_1) ws_10 →
  CanStore ws_10 b8 4 ∧ ∀ ws_11, Stored ws_10 b8 4 (.slice p54 l54 c54) ws_11 →
  ∃ n8_2 : Int, ws_11.cell? ⟨b8, 0, none⟩ = some (.int .u8 n8_2) ∧ ∃ n8_3 : Int, ws_11.cell? ⟨b8, 1, none⟩ = some (.int .i64 n8_3) ∧ ∃ s8_2 : ByteArray, ws_11.cell? ⟨b8, 2, none⟩ = some (.string s8_2) ∧ ∃ s8_3 : ByteArray, ws_11.cell? ⟨b8, 3, none⟩ = some (.string s8_3) ∧ ∃ (p8_1 : Option Addr) (l8_1 c8_1 : Nat), ws_11.cell? ⟨b8, 4, none⟩ = some (.slice p8_1 l8_1 c8_1) ∧ R (.returned (.tuple #[.agg #[.int .u8 n8_2, .int .i64 n8_3, .string s8_2, .string s8_3, .slice p8_1 l8_1 c8_1], .int .i64 1])) ws_11)
  (∃ nc9, J9  nc9 wd6))
  (∃ nc9, J9  nc9 wd6)) ∧ ∀ (nc9 : Nat) (wc9 : World), J9  nc9 wc9 →
  Does Try.prog 24 #[.slice p2 l2 c2, .int .i64 n17_1] wc9 fun e58 w58 =>
  ∃ s58 : ByteArray, ∃ (p58 : Option Addr) (l58 c58 : Nat), ∃ n58 : Int, e58 = .returned (.tuple #[.string s58, .slice p58 l58 c58, .int .i64 n58]) ∧ CanStore w58 b5 3 ∧ ∀ ws_12, Stored w58 b5 3 (.string s58) ws_12 →
  CanStore ws_12 b5 4 ∧ ∀ ws_13, Stored ws_12 b5 4 (.slice p58 l58 c58) ws_13 →
  ∃ n66 : Int, ws_13.cell? ⟨b5, 0, none⟩ = some (.int .u8 n66) ∧ ∃ n66_1 : Int, ws_13.cell? ⟨b5, 1, none⟩ = some (.int .i64 n66_1) ∧ ∃ s66 : ByteArray, ws_13.cell? ⟨b5, 2, none⟩ = some (.string s66) ∧ ∃ s66_1 : ByteArray, ws_13.cell? ⟨b5, 3, none⟩ = some (.string s66_1) ∧ ∃ (p66 : Option Addr) (l66 c66 : Nat), ws_13.cell? ⟨b5, 4, none⟩ = some (.slice p66 l66 c66) ∧ CanStore ws_13 b8 0 ∧ ∀ ws_14, Stored ws_13 b8 0 (.int .u8 n66) ws_14 →
  CanStore ws_14 b8 1 ∧ ∀ ws_15, Stored ws_14 b8 1 (.int .i64 n66_1) ws_15 →
  CanStore ws_15 b8 2 ∧ ∀ ws_16, Stored ws_15 b8 2 (.string s66) ws_16 →
  CanStore ws_16 b8 3 ∧ ∀ ws_17, Stored ws_16 b8 3 (.string s66_1) ws_17 →
  CanStore ws_17 b8 4 ∧ ∀ ws_18, Stored ws_17 b8 4 (.slice p66 l66 c66) ws_18 →
  ∃ n8_4 : Int, ws_18.cell? ⟨b8, 0, none⟩ = some (.int .u8 n8_4) ∧ ∃ n8_5 : Int, ws_18.cell? ⟨b8, 1, none⟩ = some (.int .i64 n8_5) ∧ ∃ s8_4 : ByteArray, ws_18.cell? ⟨b8, 2, none⟩ = some (.string s8_4) ∧ ∃ s8_5 : ByteArray, ws_18.cell? ⟨b8, 3, none⟩ = some (.string s8_5) ∧ ∃ (p8_2 : Option Addr) (l8_2 c8_2 : Nat), ws_18.cell? ⟨b8, 4, none⟩ = some (.slice p8_2 l8_2 c8_2) ∧ R (.returned (.tuple #[.agg #[.int .u8 n8_4, .int .i64 n8_5, .string s8_4, .string s8_5, .slice p8_2 l8_2 c8_2], .int .i64 n58])) ws_18)
def f23_ann : Ann := { loops := [], cuts := [(4, []), (9, [])], flip := [], throws := [] }
theorem f23_eq (a0 : Option Addr) (a1_0 : Int) (a1_1 : Int) (a1_2 : ByteArray) (a1_3 : ByteArray) (p1_4 : Option Addr) (l1_4 c1_4 : Nat) (p2 : Option Addr) (l2 c2 : Nat) (a3 : Int) (w : World) (R : Ending → World → Prop) : vc Try.prog f23_ann (bodyOf Try.f23) (retQ Try.prog Try.f23 R) (envOf Try.f23.ntmps [.v (.pointer a0), .v (.agg #[.int .u8 a1_0, .int .i64 a1_1, .string a1_2, .string a1_3, .slice p1_4 l1_4 c1_4]), .v (.slice p2 l2 c2), .v (.int .i64 a3)]) [] w = f23_vc a0 a1_0 a1_1 a1_2 a1_3 p1_4 l1_4 c1_4 p2 l2 c2 a3 w R := by kernel_rfl
theorem f23_does (a0 : Option Addr) (a1_0 : Int) (a1_1 : Int) (a1_2 : ByteArray) (a1_3 : ByteArray) (p1_4 : Option Addr) (l1_4 c1_4 : Nat) (p2 : Option Addr) (l2 c2 : Nat) (a3 : Int) {w : World} {R : Ending → World → Prop} (h : f23_vc a0 a1_0 a1_1 a1_2 a1_3 p1_4 l1_4 c1_4 p2 l2 c2 a3 w R) : Does Try.prog 23 #[.pointer a0, .agg #[.int .u8 a1_0, .int .i64 a1_1, .string a1_2, .string a1_3, .slice p1_4 l1_4 c1_4], .slice p2 l2 c2, .int .i64 a3] w R :=
  does_of_vc (ss := [.v (.pointer a0), .v (.agg #[.int .u8 a1_0, .int .i64 a1_1, .string a1_2, .string a1_3, .slice p1_4 l1_4 c1_4]), .v (.slice p2 l2 c2), .v (.int .i64 a3)]) f23_ann mixed call23 Try.func23 rfl rfl (show 4 ≤ Try.f23.ntmps by decide) ((f23_eq a0 a1_0 a1_1 a1_2 a1_3 p1_4 l1_4 c1_4 p2 l2 c2 a3 w R).symm ▸ h)
/-- Of escritoire/escritoireref24.motion (function 24): the condition. -/
def f24_vc (p0 : Option Addr) (l0 c0 : Nat) (a1 : Int) (w : World) (R : Ending → World → Prop) : Prop :=
  Br (decide (a1 ≥ ((l0 : Int))))
  (R (.returned (.tuple #[.string (({ data := #[] } : ByteArray)), .slice none 0 0, .int .i64 0])) w)
  (((0 : Int) ≤ a1 ∧ a1 < (l0 : Int)) ∧ ∃ b15 o15, p0 = some ⟨b15, o15, none⟩ ∧ ∃ n16 : Int, w.cell? ⟨b15, o15 + (a1).toNat, none⟩ = some (.int .u8 n16) ∧ InK .i64 (a1 + 1) ∧ ((0 : Int) ≤ (a1 + 1) ∧ (a1 + 1) ≤ (l0 : Int)) ∧ ∃ J21 : Nat → World → Prop, (Does Try.prog 30 #[.string (({ data := #[104, 108, 106, 107, 48, 94, 36, 119, 98, 101, 71, 123, 125, 37, 124, 110, 78, 42, 59, 44] } : ByteArray)), .int .u8 n16] w fun e23 w23 =>
  ∃ b23 : Bool, e23 = .returned (.bool b23) ∧ Br b23
  (∀ b25 w25, NewBlk w23 b25 [.int .u8 n16] 5 w25 →
  ∃ s26 : ByteArray, ∃ w26, (convert 27 9 (.slice (some ⟨b25, 0, none⟩) 1 1)).run Try.prog w25 = .ok (.string s26) w26 ∧ R (.returned (.tuple #[.string s26, .slice none 0 0, .int .i64 1])) w26)
  (Br (n16 == 103)
  (Br ((((l0 - ((a1 + 1).toNat) : Nat) : Int)) == 0)
  (R (.returned (.tuple #[.string (({ data := #[] } : ByteArray)), .slice none 0 0, .int .i64 0])) w23)
  (((0 : Int) ≤ 0 ∧ 0 < ((l0 - ((a1 + 1).toNat) : Nat) : Int)) ∧ ∃ b34 o34, subp p0 ((a1 + 1).toNat) c0 1 = some ⟨b34, o34, none⟩ ∧ ∃ n35 : Int, w23.cell? ⟨b34, o34 + (0 : Int).toNat, none⟩ = some (.int .u8 n35) ∧ Br (n35 == 103)
  (R (.returned (.tuple #[.string (({ data := #[103, 103] } : ByteArray)), .slice none 0 0, .int .i64 1])) w23)
  (∃ nc21, J21  nc21 w23)))
  (Does Try.prog 30 #[.string (({ data := #[102, 70, 116, 84] } : ByteArray)), .int .u8 n16] w23 fun e39 w39 =>
  ∃ b39 : Bool, e39 = .returned (.bool b39) ∧ Br b39
  (Br ((((l0 - ((a1 + 1).toNat) : Nat) : Int)) == 0)
  (R (.returned (.tuple #[.string (({ data := #[] } : ByteArray)), .slice none 0 0, .int .i64 0])) w39)
  (((0 : Int) ≤ 0 ∧ 0 < ((l0 - ((a1 + 1).toNat) : Nat) : Int)) ∧ ∃ b47 o47, subp p0 ((a1 + 1).toNat) c0 1 = some ⟨b47, o47, none⟩ ∧ ∃ n48 : Int, w39.cell? ⟨b47, o47 + (0 : Int).toNat, none⟩ = some (.int .u8 n48) ∧ Does Try.prog 31 #[.int .u8 n48] w39 fun e49 w49 =>
  ∃ n49 : Int, e49 = .returned (.int .i64 n49) ∧ Br (decide ((((l0 - ((a1 + 1).toNat) : Nat) : Int)) < n49))
  (R (.returned (.tuple #[.string (({ data := #[] } : ByteArray)), .slice none 0 0, .int .i64 0])) w49)
  (∀ b53 w53, NewBlk w49 b53 [.int .u8 n16] 5 w53 →
  ∃ s54 : ByteArray, ∃ w54, (convert 27 9 (.slice (some ⟨b53, 0, none⟩) 1 1)).run Try.prog w53 = .ok (.string s54) w54 ∧ R (.returned (.tuple #[.string s54, .slice (subp p0 ((a1 + 1).toNat) c0 1) (l0 - ((a1 + 1).toNat)) (c0 - ((a1 + 1).toNat)), .int .i64 1])) w54)))
  (Br (n16 == 39)
  (Br ((((l0 - ((a1 + 1).toNat) : Nat) : Int)) == 0)
  (R (.returned (.tuple #[.string (({ data := #[] } : ByteArray)), .slice none 0 0, .int .i64 0])) w39)
  (((0 : Int) ≤ 0 ∧ 0 < ((l0 - ((a1 + 1).toNat) : Nat) : Int)) ∧ ∃ b67 o67, subp p0 ((a1 + 1).toNat) c0 1 = some ⟨b67, o67, none⟩ ∧ ∃ n68 : Int, w39.cell? ⟨b67, o67 + (0 : Int).toNat, none⟩ = some (.int .u8 n68) ∧ Does Try.prog 29 #[.int .u8 n68] w39 fun e69 w69 =>
  ∃ b69 : Bool, e69 = .returned (.bool b69) ∧ Br b69
  (∀ b71 w71, NewBlk w69 b71 [.int .u8 n16] 5 w71 →
  ∃ s72 : ByteArray, ∃ w72, (convert 27 9 (.slice (some ⟨b71, 0, none⟩) 1 1)).run Try.prog w71 = .ok (.string s72) w72 ∧ R (.returned (.tuple #[.string s72, .slice (subp p0 ((a1 + 1).toNat) c0 1) (l0 - ((a1 + 1).toNat)) (c0 - ((a1 + 1).toNat)), .int .i64 1])) w72)
  (∃ nc21, J21  nc21 w69)))
  (Br (n16 == 96)
  (Br ((((l0 - ((a1 + 1).toNat) : Nat) : Int)) == 0)
  (R (.returned (.tuple #[.string (({ data := #[] } : ByteArray)), .slice none 0 0, .int .i64 0])) w39)
  (((0 : Int) ≤ 0 ∧ 0 < ((l0 - ((a1 + 1).toNat) : Nat) : Int)) ∧ ∃ b67_1 o67_1, subp p0 ((a1 + 1).toNat) c0 1 = some ⟨b67_1, o67_1, none⟩ ∧ ∃ n68_1 : Int, w39.cell? ⟨b67_1, o67_1 + (0 : Int).toNat, none⟩ = some (.int .u8 n68_1) ∧ Does Try.prog 29 #[.int .u8 n68_1] w39 fun e69_1 w69_1 =>
  ∃ b69_1 : Bool, e69_1 = .returned (.bool b69_1) ∧ Br b69_1
  (∀ b71_1 w71_1, NewBlk w69_1 b71_1 [.int .u8 n16] 5 w71_1 →
  ∃ s72_1 : ByteArray, ∃ w72_1, (convert 27 9 (.slice (some ⟨b71_1, 0, none⟩) 1 1)).run Try.prog w71_1 = .ok (.string s72_1) w72_1 ∧ R (.returned (.tuple #[.string s72_1, .slice (subp p0 ((a1 + 1).toNat) c0 1) (l0 - ((a1 + 1).toNat)) (c0 - ((a1 + 1).toNat)), .int .i64 1])) w72_1)
  (∃ nc21, J21  nc21 w69_1)))
  (∃ nc21, J21  nc21 w39)))))) ∧ ∀ (nc21 : Nat) (wc21 : World), J21  nc21 wc21 →
  R (.returned (.tuple #[.string (({ data := #[] } : ByteArray)), .slice none 0 0, .int .i64 2])) wc21)
def f24_ann : Ann := { loops := [], cuts := [(21, [])], flip := [], throws := [] }
theorem f24_eq (p0 : Option Addr) (l0 c0 : Nat) (a1 : Int) (w : World) (R : Ending → World → Prop) : vc Try.prog f24_ann (bodyOf Try.f24) (retQ Try.prog Try.f24 R) (envOf Try.f24.ntmps [.v (.slice p0 l0 c0), .v (.int .i64 a1)]) [] w = f24_vc p0 l0 c0 a1 w R := by kernel_rfl
theorem f24_does (p0 : Option Addr) (l0 c0 : Nat) (a1 : Int) {w : World} {R : Ending → World → Prop} (h : f24_vc p0 l0 c0 a1 w R) : Does Try.prog 24 #[.slice p0 l0 c0, .int .i64 a1] w R :=
  does_of_vc (ss := [.v (.slice p0 l0 c0), .v (.int .i64 a1)]) f24_ann mixed call24 Try.func24 rfl rfl (show 2 ≤ Try.f24.ntmps by decide) ((f24_eq p0 l0 c0 a1 w R).symm ▸ h)
/-- Of (*escritoire/escritoireref24.Parser).plain (function 25): the condition. -/
def f25_vc (a0 : Option Addr) (p1 : Option Addr) (l1 c1 : Nat) (a2 : Int) (w : World) (R : Ending → World → Prop) : Prop :=
  ((0 : Int) ≤ a2 ∧ a2 < (l1 : Int)) ∧ ∃ b14 o14, p1 = some ⟨b14, o14, none⟩ ∧ ∃ n15 : Int, w.cell? ⟨b14, o14 + (a2).toNat, none⟩ = some (.int .u8 n15) ∧ InK .i64 (a2 + 1) ∧ ((0 : Int) ≤ (a2 + 1) ∧ (a2 + 1) ≤ (l1 : Int)) ∧ ∃ J6 : ByteArray → Nat → World → Prop, (∃ b21 o21, a0 = some ⟨b21, o21, none⟩ ∧ ∃ b23 : Bool, w.cell? ⟨b21, o21, none⟩ = some (.bool b23) ∧ Br b23
  (∃ nc6, J6 (({ data := #[100, 120, 121, 99, 62, 60, 117, 85, 126, 74, 111, 118, 86, 112, 58] } : ByteArray)) nc6 w)
  (∃ nc6, J6 (({ data := #[105, 97, 73, 65, 111, 79, 120, 88, 68, 67, 89, 112, 80, 74, 126, 117, 118, 86, 46, 58, 47, 63] } : ByteArray)) nc6 w)) ∧ ∀ s11 : ByteArray, ∀ (nc6 : Nat) (wc6 : World), J6 s11 nc6 wc6 →
  ∃ J23 : Nat → World → Prop, (Does Try.prog 30 #[.string s11, .int .u8 n15] wc6 fun e27 w27 =>
  ∃ b27 : Bool, e27 = .returned (.bool b27) ∧ Br b27
  (∀ b29 w29, NewBlk w27 b29 [.int .u8 n15] 5 w29 →
  ∃ s30 : ByteArray, ∃ w30, (convert 27 9 (.slice (some ⟨b29, 0, none⟩) 1 1)).run Try.prog w29 = .ok (.string s30) w30 ∧ R (.returned (.tuple #[.string s30, .slice none 0 0, .int .i64 1])) w30)
  (Br (n15 == 18)
  (∃ b36 o36, a0 = some ⟨b36, o36, none⟩ ∧ ∃ b38 : Bool, w27.cell? ⟨b36, o36, none⟩ = some (.bool b38) ∧ Br (!b38)
  (R (.returned (.tuple #[.string (({ data := #[94, 82] } : ByteArray)), .slice none 0 0, .int .i64 1])) w27)
  (Br (n15 == 114)
  (Br ((((l1 - ((a2 + 1).toNat) : Nat) : Int)) == 0)
  (R (.returned (.tuple #[.string (({ data := #[] } : ByteArray)), .slice none 0 0, .int .i64 0])) w27)
  (((0 : Int) ≤ 0 ∧ 0 < ((l1 - ((a2 + 1).toNat) : Nat) : Int)) ∧ ∃ b51 o51, subp p1 ((a2 + 1).toNat) c1 1 = some ⟨b51, o51, none⟩ ∧ ∃ n52 : Int, w27.cell? ⟨b51, o51 + (0 : Int).toNat, none⟩ = some (.int .u8 n52) ∧ Does Try.prog 31 #[.int .u8 n52] w27 fun e53 w53 =>
  ∃ n53 : Int, e53 = .returned (.int .i64 n53) ∧ Br (decide ((((l1 - ((a2 + 1).toNat) : Nat) : Int)) < n53))
  (R (.returned (.tuple #[.string (({ data := #[] } : ByteArray)), .slice none 0 0, .int .i64 0])) w53)
  (R (.returned (.tuple #[.string (({ data := #[114] } : ByteArray)), .slice (subp p1 ((a2 + 1).toNat) c1 1) (l1 - ((a2 + 1).toNat)) (c1 - ((a2 + 1).toNat)), .int .i64 1])) w53)))
  (Br (n15 == 109)
  (Br ((((l1 - ((a2 + 1).toNat) : Nat) : Int)) == 0)
  (R (.returned (.tuple #[.string (({ data := #[] } : ByteArray)), .slice none 0 0, .int .i64 0])) w27)
  (((0 : Int) ≤ 0 ∧ 0 < ((l1 - ((a2 + 1).toNat) : Nat) : Int)) ∧ ∃ b64 o64, subp p1 ((a2 + 1).toNat) c1 1 = some ⟨b64, o64, none⟩ ∧ ∃ n65 : Int, w27.cell? ⟨b64, o64 + (0 : Int).toNat, none⟩ = some (.int .u8 n65) ∧ Does Try.prog 29 #[.int .u8 n65] w27 fun e66 w66 =>
  ∃ b66 : Bool, e66 = .returned (.bool b66) ∧ Br b66
  (R (.returned (.tuple #[.string (({ data := #[109] } : ByteArray)), .slice (subp p1 ((a2 + 1).toNat) c1 1) (l1 - ((a2 + 1).toNat)) (c1 - ((a2 + 1).toNat)), .int .i64 1])) w66)
  (∃ nc23, J23  nc23 w66)))
  (Br (n15 == 103)
  (∃ b73 o73, a0 = some ⟨b73, o73, none⟩ ∧ ∃ b75 : Bool, w27.cell? ⟨b73, o73, none⟩ = some (.bool b75) ∧ Br (!b75)
  (Br (decide ((((l1 - ((a2 + 1).toNat) : Nat) : Int)) > 0))
  (((0 : Int) ≤ 0 ∧ 0 < ((l1 - ((a2 + 1).toNat) : Nat) : Int)) ∧ ∃ b85 o85, subp p1 ((a2 + 1).toNat) c1 1 = some ⟨b85, o85, none⟩ ∧ ∃ n86 : Int, w27.cell? ⟨b85, o85 + (0 : Int).toNat, none⟩ = some (.int .u8 n86) ∧ Does Try.prog 30 #[.string (({ data := #[45, 43] } : ByteArray)), .int .u8 n86] w27 fun e87 w87 =>
  ∃ b87 : Bool, e87 = .returned (.bool b87) ∧ Br b87
  (∃ s90 : ByteArray, ∃ w90, (convert 27 9 (.slice (subp p1 ((a2 + 1).toNat) c1 1) (l1 - ((a2 + 1).toNat)) (c1 - ((a2 + 1).toNat)))).run Try.prog w87 = .ok (.string s90) w90 ∧ (((({ data := #[103] } : ByteArray)).size + s90.size : Nat) : Int) ≤ 9223372036854775807 ∧ R (.returned (.tuple #[.string ((({ data := #[103] } : ByteArray)) ++ s90), .slice none 0 0, .int .i64 1])) w90)
  (Br (n15 == 103)
  (Br ((((l1 - ((a2 + 1).toNat) : Nat) : Int)) == 0)
  (R (.returned (.tuple #[.string (({ data := #[] } : ByteArray)), .slice none 0 0, .int .i64 0])) w87)
  (∃ nc23, J23  nc23 w87))
  (∃ nc23, J23  nc23 w87)))
  (Br (n15 == 103)
  (Br ((((l1 - ((a2 + 1).toNat) : Nat) : Int)) == 0)
  (R (.returned (.tuple #[.string (({ data := #[] } : ByteArray)), .slice none 0 0, .int .i64 0])) w27)
  (∃ nc23, J23  nc23 w27))
  (∃ nc23, J23  nc23 w27)))
  (Br (n15 == 103)
  (Br ((((l1 - ((a2 + 1).toNat) : Nat) : Int)) == 0)
  (R (.returned (.tuple #[.string (({ data := #[] } : ByteArray)), .slice none 0 0, .int .i64 0])) w27)
  (∃ nc23, J23  nc23 w27))
  (∃ nc23, J23  nc23 w27)))
  (Br (n15 == 103)
  (Br ((((l1 - ((a2 + 1).toNat) : Nat) : Int)) == 0)
  (R (.returned (.tuple #[.string (({ data := #[] } : ByteArray)), .slice none 0 0, .int .i64 0])) w27)
  (∃ nc23, J23  nc23 w27))
  (∃ nc23, J23  nc23 w27))))))
  (Br (n15 == 114)
  (Br ((((l1 - ((a2 + 1).toNat) : Nat) : Int)) == 0)
  (R (.returned (.tuple #[.string (({ data := #[] } : ByteArray)), .slice none 0 0, .int .i64 0])) w27)
  (((0 : Int) ≤ 0 ∧ 0 < ((l1 - ((a2 + 1).toNat) : Nat) : Int)) ∧ ∃ b51_1 o51_1, subp p1 ((a2 + 1).toNat) c1 1 = some ⟨b51_1, o51_1, none⟩ ∧ ∃ n52_1 : Int, w27.cell? ⟨b51_1, o51_1 + (0 : Int).toNat, none⟩ = some (.int .u8 n52_1) ∧ Does Try.prog 31 #[.int .u8 n52_1] w27 fun e53_1 w53_1 =>
  ∃ n53_1 : Int, e53_1 = .returned (.int .i64 n53_1) ∧ Br (decide ((((l1 - ((a2 + 1).toNat) : Nat) : Int)) < n53_1))
  (R (.returned (.tuple #[.string (({ data := #[] } : ByteArray)), .slice none 0 0, .int .i64 0])) w53_1)
  (R (.returned (.tuple #[.string (({ data := #[114] } : ByteArray)), .slice (subp p1 ((a2 + 1).toNat) c1 1) (l1 - ((a2 + 1).toNat)) (c1 - ((a2 + 1).toNat)), .int .i64 1])) w53_1)))
  (Br (n15 == 109)
  (Br ((((l1 - ((a2 + 1).toNat) : Nat) : Int)) == 0)
  (R (.returned (.tuple #[.string (({ data := #[] } : ByteArray)), .slice none 0 0, .int .i64 0])) w27)
  (((0 : Int) ≤ 0 ∧ 0 < ((l1 - ((a2 + 1).toNat) : Nat) : Int)) ∧ ∃ b64_1 o64_1, subp p1 ((a2 + 1).toNat) c1 1 = some ⟨b64_1, o64_1, none⟩ ∧ ∃ n65_1 : Int, w27.cell? ⟨b64_1, o64_1 + (0 : Int).toNat, none⟩ = some (.int .u8 n65_1) ∧ Does Try.prog 29 #[.int .u8 n65_1] w27 fun e66_1 w66_1 =>
  ∃ b66_1 : Bool, e66_1 = .returned (.bool b66_1) ∧ Br b66_1
  (R (.returned (.tuple #[.string (({ data := #[109] } : ByteArray)), .slice (subp p1 ((a2 + 1).toNat) c1 1) (l1 - ((a2 + 1).toNat)) (c1 - ((a2 + 1).toNat)), .int .i64 1])) w66_1)
  (∃ nc23, J23  nc23 w66_1)))
  (Br (n15 == 103)
  (∃ b73_1 o73_1, a0 = some ⟨b73_1, o73_1, none⟩ ∧ ∃ b75_1 : Bool, w27.cell? ⟨b73_1, o73_1, none⟩ = some (.bool b75_1) ∧ Br (!b75_1)
  (Br (decide ((((l1 - ((a2 + 1).toNat) : Nat) : Int)) > 0))
  (((0 : Int) ≤ 0 ∧ 0 < ((l1 - ((a2 + 1).toNat) : Nat) : Int)) ∧ ∃ b85_1 o85_1, subp p1 ((a2 + 1).toNat) c1 1 = some ⟨b85_1, o85_1, none⟩ ∧ ∃ n86_1 : Int, w27.cell? ⟨b85_1, o85_1 + (0 : Int).toNat, none⟩ = some (.int .u8 n86_1) ∧ Does Try.prog 30 #[.string (({ data := #[45, 43] } : ByteArray)), .int .u8 n86_1] w27 fun e87_1 w87_1 =>
  ∃ b87_1 : Bool, e87_1 = .returned (.bool b87_1) ∧ Br b87_1
  (∃ s90_1 : ByteArray, ∃ w90_1, (convert 27 9 (.slice (subp p1 ((a2 + 1).toNat) c1 1) (l1 - ((a2 + 1).toNat)) (c1 - ((a2 + 1).toNat)))).run Try.prog w87_1 = .ok (.string s90_1) w90_1 ∧ (((({ data := #[103] } : ByteArray)).size + s90_1.size : Nat) : Int) ≤ 9223372036854775807 ∧ R (.returned (.tuple #[.string ((({ data := #[103] } : ByteArray)) ++ s90_1), .slice none 0 0, .int .i64 1])) w90_1)
  (Br (n15 == 103)
  (Br ((((l1 - ((a2 + 1).toNat) : Nat) : Int)) == 0)
  (R (.returned (.tuple #[.string (({ data := #[] } : ByteArray)), .slice none 0 0, .int .i64 0])) w87_1)
  (∃ nc23, J23  nc23 w87_1))
  (∃ nc23, J23  nc23 w87_1)))
  (Br (n15 == 103)
  (Br ((((l1 - ((a2 + 1).toNat) : Nat) : Int)) == 0)
  (R (.returned (.tuple #[.string (({ data := #[] } : ByteArray)), .slice none 0 0, .int .i64 0])) w27)
  (∃ nc23, J23  nc23 w27))
  (∃ nc23, J23  nc23 w27)))
  (Br (n15 == 103)
  (Br ((((l1 - ((a2 + 1).toNat) : Nat) : Int)) == 0)
  (R (.returned (.tuple #[.string (({ data := #[] } : ByteArray)), .slice none 0 0, .int .i64 0])) w27)
  (∃ nc23, J23  nc23 w27))
  (∃ nc23, J23  nc23 w27)))
  (Br (n15 == 103)
  (Br ((((l1 - ((a2 + 1).toNat) : Nat) : Int)) == 0)
  (R (.returned (.tuple #[.string (({ data := #[] } : ByteArray)), .slice none 0 0, .int .i64 0])) w27)
  (∃ nc23, J23  nc23 w27))
  (∃ nc23, J23  nc23 w27))))))) ∧ ∀ (nc23 : Nat) (wc23 : World), J23  nc23 wc23 →
  R (.returned (.tuple #[.string (({ data := #[] } : ByteArray)), .slice none 0 0, .int .i64 2])) wc23
def f25_ann : Ann := { loops := [], cuts := [(6, [(11, .str)]), (23, [])], flip := [], throws := [] }
theorem f25_eq (a0 : Option Addr) (p1 : Option Addr) (l1 c1 : Nat) (a2 : Int) (w : World) (R : Ending → World → Prop) : vc Try.prog f25_ann (bodyOf Try.f25) (retQ Try.prog Try.f25 R) (envOf Try.f25.ntmps [.v (.pointer a0), .v (.slice p1 l1 c1), .v (.int .i64 a2)]) [] w = f25_vc a0 p1 l1 c1 a2 w R := by kernel_rfl
theorem f25_does (a0 : Option Addr) (p1 : Option Addr) (l1 c1 : Nat) (a2 : Int) {w : World} {R : Ending → World → Prop} (h : f25_vc a0 p1 l1 c1 a2 w R) : Does Try.prog 25 #[.pointer a0, .slice p1 l1 c1, .int .i64 a2] w R :=
  does_of_vc (ss := [.v (.pointer a0), .v (.slice p1 l1 c1), .v (.int .i64 a2)]) f25_ann mixed call25 Try.func25 rfl rfl (show 3 ≤ Try.f25.ntmps by decide) ((f25_eq a0 p1 l1 c1 a2 w R).symm ▸ h)
/-- Of (*escritoire/keys.Parser).goOn (function 26): the condition. -/
def f26_vc (a0 : Option Addr) (g1 : Go.Fn) (fs1 cs1 : Array Value) (w : World) (R : Ending → World → Prop) : Prop :=
  ∃ b7 o7, a0 = some ⟨b7, o7, none⟩ ∧ CanStore w b7 (o7 + 2) ∧ ∀ ws, Stored w b7 (o7 + 2) (.func g1 fs1 cs1) ws →
  R (.returned (.int .i64 0)) ws
def f26_ann : Ann := { loops := [], cuts := [], flip := [], throws := [] }
theorem f26_eq (a0 : Option Addr) (g1 : Go.Fn) (fs1 cs1 : Array Value) (w : World) (R : Ending → World → Prop) : vc Try.prog f26_ann (bodyOf Try.f26) (retQ Try.prog Try.f26 R) (envOf Try.f26.ntmps [.v (.pointer a0), .v (.func g1 fs1 cs1)]) [] w = f26_vc a0 g1 fs1 cs1 w R := by kernel_rfl
theorem f26_does (a0 : Option Addr) (g1 : Go.Fn) (fs1 cs1 : Array Value) {w : World} {R : Ending → World → Prop} (h : f26_vc a0 g1 fs1 cs1 w R) : Does Try.prog 26 #[.pointer a0, .func g1 fs1 cs1] w R :=
  does_of_vc (ss := [.v (.pointer a0), .v (.func g1 fs1 cs1)]) f26_ann mixed call26 Try.func26 rfl rfl (show 2 ≤ Try.f26.ntmps by decide) ((f26_eq a0 g1 fs1 cs1 w R).symm ▸ h)
/-- Of (*escritoire/keys.Parser).register (function 27): the condition. -/
def f27_vc (a0 : Option Addr) (a1 : Int) (w : World) (R : Ending → World → Prop) : Prop :=
  ∃ J3 : Nat → World → Prop, (Does Try.prog 32 #[.int .u8 a1, .int .u8 97, .int .u8 122] w fun e6 w6 =>
  ∃ b6 : Bool, e6 = .returned (.bool b6) ∧ Br (!b6)
  (Does Try.prog 32 #[.int .u8 a1, .int .u8 65, .int .u8 90] w6 fun e10 w10 =>
  ∃ b10 : Bool, e10 = .returned (.bool b10) ∧ Br (!b10)
  (Does Try.prog 32 #[.int .u8 a1, .int .u8 48, .int .u8 57] w10 fun e15 w15 =>
  ∃ b15 : Bool, e15 = .returned (.bool b15) ∧ Br (!b15)
  (Br (a1 != 61)
  (Br (a1 != 34)
  (R (.returned (.int .i64 2)) w15)
  (∃ nc3, J3  nc3 w15))
  (∃ nc3, J3  nc3 w15))
  (∃ nc3, J3  nc3 w15))
  (∃ nc3, J3  nc3 w10))
  (∃ nc3, J3  nc3 w6)) ∧ ∀ (nc3 : Nat) (wc3 : World), J3  nc3 wc3 →
  ∃ b28 o28, a0 = some ⟨b28, o28, none⟩ ∧ CanStore wc3 b28 (o28 + 4) ∧ ∀ ws, Stored wc3 b28 (o28 + 4) (.int .u8 a1) ws →
  Does Try.prog 26 #[.pointer a0, .func (.func 28) #[.pointer a0] #[]] ws fun e34 w34 =>
  ∃ n34 : Int, e34 = .returned (.int .i64 n34) ∧ R (.returned (.int .i64 n34)) w34
def f27_ann : Ann := { loops := [], cuts := [(3, [])], flip := [], throws := [] }
theorem f27_eq (a0 : Option Addr) (a1 : Int) (w : World) (R : Ending → World → Prop) : vc Try.prog f27_ann (bodyOf Try.f27) (retQ Try.prog Try.f27 R) (envOf Try.f27.ntmps [.v (.pointer a0), .v (.int .u8 a1)]) [] w = f27_vc a0 a1 w R := by kernel_rfl
theorem f27_does (a0 : Option Addr) (a1 : Int) {w : World} {R : Ending → World → Prop} (h : f27_vc a0 a1 w R) : Does Try.prog 27 #[.pointer a0, .int .u8 a1] w R :=
  does_of_vc (ss := [.v (.pointer a0), .v (.int .u8 a1)]) f27_ann mixed call27 Try.func27 rfl rfl (show 2 ≤ Try.f27.ntmps by decide) ((f27_eq a0 a1 w R).symm ▸ h)
/-- Of (*escritoire/keys.Parser).counted (function 28): the condition. -/
def f28_vc (a0 : Option Addr) (a1 : Int) (w : World) (R : Ending → World → Prop) : Prop :=
  ∀ wd1, Drew w wd1 →
  ∃ b8 o8, a0 = some ⟨b8, o8, none⟩ ∧ ∃ n10 : Int, wd1.cell? ⟨b8, o8 + 11, none⟩ = some (.int .i64 n10) ∧ ∃ b11 o11, a0 = some ⟨b11, o11, none⟩ ∧ ((0 : Int) ≤ n10 ∧ n10 < ((2 : Nat) : Int)) ∧ ∃ J5 : Nat → World → Prop, (Does Try.prog 32 #[.int .u8 a1, .int .u8 49, .int .u8 57] wd1 fun e15 w15 =>
  ∃ b15 : Bool, e15 = .returned (.bool b15) ∧ Br b15
  (∃ n29 : Int, w15.cell? ⟨b11, o11 + 9 + (n10).toNat, none⟩ = some (.int .i64 n29) ∧ InK .i64 (10 * n29) ∧ InK .i64 (IntKind.wrap .u8 (a1 - 48)) ∧ InK .i64 ((10 * n29) + (IntKind.wrap .u8 (a1 - 48))) ∧ CanStore w15 b11 (o11 + 9 + (n10).toNat) ∧ ∀ ws, Stored w15 b11 (o11 + 9 + (n10).toNat) (.int .i64 (if 99 < (10 * n29) + (IntKind.wrap .u8 (a1 - 48)) then 99 else (10 * n29) + (IntKind.wrap .u8 (a1 - 48)))) ws →
  Does Try.prog 26 #[.pointer a0, .func (.func 28) #[.pointer a0] #[]] ws fun e40 w40 =>
  ∃ n40 : Int, e40 = .returned (.int .i64 n40) ∧ R (.returned (.int .i64 n40)) w40)
  (Br (a1 == 48)
  (∃ n22 : Int, w15.cell? ⟨b11, o11 + 9 + (n10).toNat, none⟩ = some (.int .i64 n22) ∧ Br (decide (n22 > 0))
  (∃ n29_1 : Int, w15.cell? ⟨b11, o11 + 9 + (n10).toNat, none⟩ = some (.int .i64 n29_1) ∧ InK .i64 (10 * n29_1) ∧ InK .i64 (IntKind.wrap .u8 (a1 - 48)) ∧ InK .i64 ((10 * n29_1) + (IntKind.wrap .u8 (a1 - 48))) ∧ CanStore w15 b11 (o11 + 9 + (n10).toNat) ∧ ∀ ws_1, Stored w15 b11 (o11 + 9 + (n10).toNat) (.int .i64 (if 99 < (10 * n29_1) + (IntKind.wrap .u8 (a1 - 48)) then 99 else (10 * n29_1) + (IntKind.wrap .u8 (a1 - 48)))) ws_1 →
  Does Try.prog 26 #[.pointer a0, .func (.func 28) #[.pointer a0] #[]] ws_1 fun e40_1 w40_1 =>
  ∃ n40_1 : Int, e40_1 = .returned (.int .i64 n40_1) ∧ R (.returned (.int .i64 n40_1)) w40_1)
  (∃ nc5, J5  nc5 w15))
  (∃ nc5, J5  nc5 w15))) ∧ ∀ (nc5 : Nat) (wc5 : World), J5  nc5 wc5 →
  ∃ b42 o42, a0 = some ⟨b42, o42, none⟩ ∧ ∃ n44 : Int, wc5.cell? ⟨b42, o42 + 11, none⟩ = some (.int .i64 n44) ∧ Br (decide (n44 > 0))
  (Does Try.prog 33 #[.pointer a0, .int .u8 a1] wc5 fun e48 w48 =>
  ∃ n48 : Int, e48 = .returned (.int .i64 n48) ∧ R (.returned (.int .i64 n48)) w48)
  (Does Try.prog 34 #[.pointer a0, .int .u8 a1] wc5 fun e51 w51 =>
  ∃ n51 : Int, e51 = .returned (.int .i64 n51) ∧ R (.returned (.int .i64 n51)) w51)
def f28_ann : Ann := { loops := [], cuts := [(5, [])], flip := [], throws := [] }
theorem f28_eq (a0 : Option Addr) (a1 : Int) (w : World) (R : Ending → World → Prop) : vc Try.prog f28_ann (bodyOf Try.f28) (retQ Try.prog Try.f28 R) (envOf Try.f28.ntmps [.v (.pointer a0), .v (.int .u8 a1)]) [] w = f28_vc a0 a1 w R := by kernel_rfl
theorem f28_does (a0 : Option Addr) (a1 : Int) {w : World} {R : Ending → World → Prop} (h : f28_vc a0 a1 w R) : Does Try.prog 28 #[.pointer a0, .int .u8 a1] w R :=
  does_of_vc (ss := [.v (.pointer a0), .v (.int .u8 a1)]) f28_ann mixed call28 Try.func28 rfl rfl (show 2 ≤ Try.f28.ntmps by decide) ((f28_eq a0 a1 w R).symm ▸ h)
/-- Of escritoire/escritoireref24.small (function 29): the condition. -/
def f29_vc (a0 : Int) (w : World) (R : Ending → World → Prop) : Prop :=
  Br (decide (a0 ≥ 97))
  (R (.returned (.bool (decide (a0 ≤ 122)))) w)
  (R (.returned (.bool false)) w)
def f29_ann : Ann := { loops := [], cuts := [], flip := [], throws := [] }
theorem f29_eq (a0 : Int) (w : World) (R : Ending → World → Prop) : vc Try.prog f29_ann (bodyOf Try.f29) (retQ Try.prog Try.f29 R) (envOf Try.f29.ntmps [.v (.int .u8 a0)]) [] w = f29_vc a0 w R := by kernel_rfl
theorem f29_does (a0 : Int) {w : World} {R : Ending → World → Prop} (h : f29_vc a0 w R) : Does Try.prog 29 #[.int .u8 a0] w R :=
  does_of_vc (ss := [.v (.int .u8 a0)]) f29_ann mixed call29 Try.func29 rfl rfl (show 1 ≤ Try.f29.ntmps by decide) ((f29_eq a0 w R).symm ▸ h)
/-- Of escritoire/escritoireref24.has (function 30): the condition. -/
def f30_vc (a0 : ByteArray) (a1 : Int) (w : World) (R : Ending → World → Prop) : Prop :=
  ∃ I2 : Int → Nat → World → Prop, (∃ nl2, I2 0 nl2 w) ∧ ∀ x5 : Int, ∀ (nl2 : Nat) (wl2 : World), I2 x5 nl2 wl2 →
  Br (decide (x5 < ((a0.size : Int))))
  (((0 : Int) ≤ x5 ∧ x5 < (a0.size : Int)) ∧ Br ((sb a0 x5) == a1)
  (R (.returned (.bool true)) wl2)
  (InK .i64 (x5 + 1) ∧ ∃ ml2, ml2 < nl2 ∧ I2 (x5 + 1) ml2 wl2))
  (R (.returned (.bool false)) wl2)
def f30_ann : Ann := { loops := [(2, [(5, .int .i64)])], cuts := [], flip := [], throws := [] }
theorem f30_eq (a0 : ByteArray) (a1 : Int) (w : World) (R : Ending → World → Prop) : vc Try.prog f30_ann (bodyOf Try.f30) (retQ Try.prog Try.f30 R) (envOf Try.f30.ntmps [.v (.string a0), .v (.int .u8 a1)]) [] w = f30_vc a0 a1 w R := by kernel_rfl
theorem f30_does (a0 : ByteArray) (a1 : Int) {w : World} {R : Ending → World → Prop} (h : f30_vc a0 a1 w R) : Does Try.prog 30 #[.string a0, .int .u8 a1] w R :=
  does_of_vc (ss := [.v (.string a0), .v (.int .u8 a1)]) f30_ann mixed call30 Try.func30 rfl rfl (show 2 ≤ Try.f30.ntmps by decide) ((f30_eq a0 a1 w R).symm ▸ h)
/-- Of escritoire/escritoireref24.letter (function 31): the condition. -/
def f31_vc (a0 : Int) (w : World) (R : Ending → World → Prop) : Prop :=
  Br (decide (a0 ≥ 194))
  (Br (decide (a0 ≤ 223))
  (R (.returned (.int .i64 2)) w)
  (Br (decide (a0 ≥ 224))
  (Br (decide (a0 ≤ 239))
  (R (.returned (.int .i64 3)) w)
  (Br (decide (a0 ≥ 240))
  (Br (decide (a0 ≤ 244))
  (R (.returned (.int .i64 4)) w)
  (R (.returned (.int .i64 1)) w))
  (R (.returned (.int .i64 1)) w)))
  (Br (decide (a0 ≥ 240))
  (Br (decide (a0 ≤ 244))
  (R (.returned (.int .i64 4)) w)
  (R (.returned (.int .i64 1)) w))
  (R (.returned (.int .i64 1)) w))))
  (Br (decide (a0 ≥ 224))
  (Br (decide (a0 ≤ 239))
  (R (.returned (.int .i64 3)) w)
  (Br (decide (a0 ≥ 240))
  (Br (decide (a0 ≤ 244))
  (R (.returned (.int .i64 4)) w)
  (R (.returned (.int .i64 1)) w))
  (R (.returned (.int .i64 1)) w)))
  (Br (decide (a0 ≥ 240))
  (Br (decide (a0 ≤ 244))
  (R (.returned (.int .i64 4)) w)
  (R (.returned (.int .i64 1)) w))
  (R (.returned (.int .i64 1)) w)))
def f31_ann : Ann := { loops := [], cuts := [], flip := [], throws := [] }
theorem f31_eq (a0 : Int) (w : World) (R : Ending → World → Prop) : vc Try.prog f31_ann (bodyOf Try.f31) (retQ Try.prog Try.f31 R) (envOf Try.f31.ntmps [.v (.int .u8 a0)]) [] w = f31_vc a0 w R := by kernel_rfl
theorem f31_does (a0 : Int) {w : World} {R : Ending → World → Prop} (h : f31_vc a0 w R) : Does Try.prog 31 #[.int .u8 a0] w R :=
  does_of_vc (ss := [.v (.int .u8 a0)]) f31_ann mixed call31 Try.func31 rfl rfl (show 1 ≤ Try.f31.ntmps by decide) ((f31_eq a0 w R).symm ▸ h)
/-- Of escritoire/keys.between (function 32): the condition. -/
def f32_vc (a0 : Int) (a1 : Int) (a2 : Int) (w : World) (R : Ending → World → Prop) : Prop :=
  Br (decide (a0 ≥ a1))
  (R (.returned (.bool (decide (a0 ≤ a2)))) w)
  (R (.returned (.bool false)) w)
def f32_ann : Ann := { loops := [], cuts := [], flip := [], throws := [] }
theorem f32_eq (a0 : Int) (a1 : Int) (a2 : Int) (w : World) (R : Ending → World → Prop) : vc Try.prog f32_ann (bodyOf Try.f32) (retQ Try.prog Try.f32 R) (envOf Try.f32.ntmps [.v (.int .u8 a0), .v (.int .u8 a1), .v (.int .u8 a2)]) [] w = f32_vc a0 a1 a2 w R := by kernel_rfl
theorem f32_does (a0 : Int) (a1 : Int) (a2 : Int) {w : World} {R : Ending → World → Prop} (h : f32_vc a0 a1 a2 w R) : Does Try.prog 32 #[.int .u8 a0, .int .u8 a1, .int .u8 a2] w R :=
  does_of_vc (ss := [.v (.int .u8 a0), .v (.int .u8 a1), .v (.int .u8 a2)]) f32_ann mixed call32 Try.func32 rfl rfl (show 3 ≤ Try.f32.ntmps by decide) ((f32_eq a0 a1 a2 w R).symm ▸ h)
/-- Of (*escritoire/keys.Parser).motion (function 33): the condition. -/
def f33_vc (a0 : Option Addr) (a1 : Int) (w : World) (R : Ending → World → Prop) : Prop :=
  ∀ b7 w7, NewBlk w b7 [.int .u8 a1] 5 w7 →
  ∃ s8 : ByteArray, ∃ w8, (convert 27 9 (.slice (some ⟨b7, 0, none⟩) 1 1)).run Try.prog w7 = .ok (.string s8) w8 ∧ ∀ wd2, Drew w8 wd2 →
  ∃ b11 o11, a0 = some ⟨b11, o11, none⟩ ∧ ∃ n13 : Int, wd2.cell? ⟨b11, o11 + 11, none⟩ = some (.int .i64 n13) ∧ Br (decide (n13 > 0))
  (∃ b18 o18, a0 = some ⟨b18, o18, none⟩ ∧ ∃ s21 : ByteArray, wd2.cell? ⟨b18, o18 + 6, none⟩ = some (.string s21) ∧ ∃ b23 o23, a0 = some ⟨b23, o23, none⟩ ∧ ∃ s26 : ByteArray, wd2.cell? ⟨b23, o23 + 6, none⟩ = some (.string s26) ∧ InK .i64 (((s26.size : Int)) - 1) ∧ ((0 : Int) ≤ (((s26.size : Int)) - 1) ∧ (((s26.size : Int)) - 1) < (s21.size : Int)) ∧ Br (a1 == (sb s21 (((s26.size : Int)) - 1)))
  (Does Try.prog 35 #[.pointer a0, .string (({ data := #[95] } : ByteArray))] wd2 fun e33 w33 =>
  ∃ n33 : Int, e33 = .returned (.int .i64 n33) ∧ R (.returned (.int .i64 n33)) w33)
  (Does Try.prog 36 #[.string (({ data := #[104, 108, 106, 107, 48, 94, 36, 119, 98, 101, 71, 123, 125, 37, 124, 110, 78, 42, 59, 44] } : ByteArray)), .int .u8 a1] wd2 fun e36 w36 =>
  ∃ n36 : Int, e36 = .returned (.int .i64 n36) ∧ Br (decide (n36 ≥ 0))
  (Does Try.prog 35 #[.pointer a0, .string s8] w36 fun e40 w40 =>
  ∃ n40 : Int, e40 = .returned (.int .i64 n40) ∧ R (.returned (.int .i64 n40)) w40)
  (Does Try.prog 36 #[.string (({ data := #[102, 70, 116, 84] } : ByteArray)), .int .u8 a1] w36 fun e43 w43 =>
  ∃ n43 : Int, e43 = .returned (.int .i64 n43) ∧ Br (decide (n43 ≥ 0))
  (∃ b47 o47, a0 = some ⟨b47, o47, none⟩ ∧ CanStore w43 b47 (o47 + 7) ∧ ∀ ws, Stored w43 b47 (o47 + 7) (.string s8) ws →
  Does Try.prog 26 #[.pointer a0, .func (.func 37) #[.pointer a0] #[]] ws fun e53 w53 =>
  ∃ n53 : Int, e53 = .returned (.int .i64 n53) ∧ R (.returned (.int .i64 n53)) w53)
  (Br (a1 == 39)
  (∃ b63 o63, a0 = some ⟨b63, o63, none⟩ ∧ CanStore w43 b63 (o63 + 7) ∧ ∀ ws_1, Stored w43 b63 (o63 + 7) (.string s8) ws_1 →
  Does Try.prog 26 #[.pointer a0, .func (.func 38) #[.pointer a0] #[]] ws_1 fun e69 w69 =>
  ∃ n69 : Int, e69 = .returned (.int .i64 n69) ∧ R (.returned (.int .i64 n69)) w69)
  (Br (a1 == 96)
  (∃ b63_1 o63_1, a0 = some ⟨b63_1, o63_1, none⟩ ∧ CanStore w43 b63_1 (o63_1 + 7) ∧ ∀ ws_2, Stored w43 b63_1 (o63_1 + 7) (.string s8) ws_2 →
  Does Try.prog 26 #[.pointer a0, .func (.func 38) #[.pointer a0] #[]] ws_2 fun e69_1 w69_1 =>
  ∃ n69_1 : Int, e69_1 = .returned (.int .i64 n69_1) ∧ R (.returned (.int .i64 n69_1)) w69_1)
  (Br (a1 == 103)
  (∃ b75 o75, a0 = some ⟨b75, o75, none⟩ ∧ ∃ n77 : Int, w43.cell? ⟨b75, o75 + 11, none⟩ = some (.int .i64 n77) ∧ Br (decide (n77 > 0))
  (Does Try.prog 26 #[.pointer a0, .func (.func 39) #[.pointer a0] #[]] w43 fun e83 w83 =>
  ∃ n83 : Int, e83 = .returned (.int .i64 n83) ∧ R (.returned (.int .i64 n83)) w83)
  (R (.returned (.int .i64 2)) w43))
  (R (.returned (.int .i64 2)) w43)))))))
  (Does Try.prog 36 #[.string (({ data := #[104, 108, 106, 107, 48, 94, 36, 119, 98, 101, 71, 123, 125, 37, 124, 110, 78, 42, 59, 44] } : ByteArray)), .int .u8 a1] wd2 fun e36_1 w36_1 =>
  ∃ n36_1 : Int, e36_1 = .returned (.int .i64 n36_1) ∧ Br (decide (n36_1 ≥ 0))
  (Does Try.prog 35 #[.pointer a0, .string s8] w36_1 fun e40_1 w40_1 =>
  ∃ n40_1 : Int, e40_1 = .returned (.int .i64 n40_1) ∧ R (.returned (.int .i64 n40_1)) w40_1)
  (Does Try.prog 36 #[.string (({ data := #[102, 70, 116, 84] } : ByteArray)), .int .u8 a1] w36_1 fun e43_1 w43_1 =>
  ∃ n43_1 : Int, e43_1 = .returned (.int .i64 n43_1) ∧ Br (decide (n43_1 ≥ 0))
  (∃ b47_1 o47_1, a0 = some ⟨b47_1, o47_1, none⟩ ∧ CanStore w43_1 b47_1 (o47_1 + 7) ∧ ∀ ws_3, Stored w43_1 b47_1 (o47_1 + 7) (.string s8) ws_3 →
  Does Try.prog 26 #[.pointer a0, .func (.func 37) #[.pointer a0] #[]] ws_3 fun e53_1 w53_1 =>
  ∃ n53_1 : Int, e53_1 = .returned (.int .i64 n53_1) ∧ R (.returned (.int .i64 n53_1)) w53_1)
  (Br (a1 == 39)
  (∃ b63_2 o63_2, a0 = some ⟨b63_2, o63_2, none⟩ ∧ CanStore w43_1 b63_2 (o63_2 + 7) ∧ ∀ ws_4, Stored w43_1 b63_2 (o63_2 + 7) (.string s8) ws_4 →
  Does Try.prog 26 #[.pointer a0, .func (.func 38) #[.pointer a0] #[]] ws_4 fun e69_2 w69_2 =>
  ∃ n69_2 : Int, e69_2 = .returned (.int .i64 n69_2) ∧ R (.returned (.int .i64 n69_2)) w69_2)
  (Br (a1 == 96)
  (∃ b63_3 o63_3, a0 = some ⟨b63_3, o63_3, none⟩ ∧ CanStore w43_1 b63_3 (o63_3 + 7) ∧ ∀ ws_5, Stored w43_1 b63_3 (o63_3 + 7) (.string s8) ws_5 →
  Does Try.prog 26 #[.pointer a0, .func (.func 38) #[.pointer a0] #[]] ws_5 fun e69_3 w69_3 =>
  ∃ n69_3 : Int, e69_3 = .returned (.int .i64 n69_3) ∧ R (.returned (.int .i64 n69_3)) w69_3)
  (Br (a1 == 103)
  (∃ b75_1 o75_1, a0 = some ⟨b75_1, o75_1, none⟩ ∧ ∃ n77_1 : Int, w43_1.cell? ⟨b75_1, o75_1 + 11, none⟩ = some (.int .i64 n77_1) ∧ Br (decide (n77_1 > 0))
  (Does Try.prog 26 #[.pointer a0, .func (.func 39) #[.pointer a0] #[]] w43_1 fun e83_1 w83_1 =>
  ∃ n83_1 : Int, e83_1 = .returned (.int .i64 n83_1) ∧ R (.returned (.int .i64 n83_1)) w83_1)
  (R (.returned (.int .i64 2)) w43_1))
  (R (.returned (.int .i64 2)) w43_1))))))
def f33_ann : Ann := { loops := [], cuts := [], flip := [], throws := [] }
theorem f33_eq (a0 : Option Addr) (a1 : Int) (w : World) (R : Ending → World → Prop) : vc Try.prog f33_ann (bodyOf Try.f33) (retQ Try.prog Try.f33 R) (envOf Try.f33.ntmps [.v (.pointer a0), .v (.int .u8 a1)]) [] w = f33_vc a0 a1 w R := by kernel_rfl
theorem f33_does (a0 : Option Addr) (a1 : Int) {w : World} {R : Ending → World → Prop} (h : f33_vc a0 a1 w R) : Does Try.prog 33 #[.pointer a0, .int .u8 a1] w R :=
  does_of_vc (ss := [.v (.pointer a0), .v (.int .u8 a1)]) f33_ann mixed call33 Try.func33 rfl rfl (show 2 ≤ Try.f33.ntmps by decide) ((f33_eq a0 a1 w R).symm ▸ h)
/-- Of (*escritoire/keys.Parser).command (function 34): the condition. -/
def f34_vc (a0 : Option Addr) (a1 : Int) (w : World) (R : Ending → World → Prop) : Prop :=
  ∃ J4 : ByteArray → Nat → World → Prop, (∃ b7 o7, a0 = some ⟨b7, o7, none⟩ ∧ ∃ b9 : Bool, w.cell? ⟨b7, o7 + 1, none⟩ = some (.bool b9) ∧ Br b9
  (∃ nc4, J4 (({ data := #[100, 120, 121, 99, 62, 60, 117, 85, 126, 74, 111, 118, 86, 112, 58] } : ByteArray)) nc4 w)
  (∃ nc4, J4 (({ data := #[105, 97, 73, 65, 111, 79, 120, 88, 68, 67, 89, 112, 80, 74, 126, 117, 118, 86, 46, 58, 47, 63] } : ByteArray)) nc4 w)) ∧ ∀ s5 : ByteArray, ∀ (nc4 : Nat) (wc4 : World), J4 s5 nc4 wc4 →
  ∃ b12 o12, a0 = some ⟨b12, o12, none⟩ ∧ ∃ b14 : Bool, wc4.cell? ⟨b12, o12 + 1, none⟩ = some (.bool b14) ∧ Br (!b14)
  (Does Try.prog 36 #[.string (({ data := #[100, 99, 121, 62, 60] } : ByteArray)), .int .u8 a1] wc4 fun e18 w18 =>
  ∃ n18 : Int, e18 = .returned (.int .i64 n18) ∧ Br (decide (n18 ≥ 0))
  (∀ b23 w23, NewBlk w18 b23 [.int .u8 a1] 5 w23 →
  ∃ s24 : ByteArray, ∃ w24, (convert 27 9 (.slice (some ⟨b23, 0, none⟩) 1 1)).run Try.prog w23 = .ok (.string s24) w24 ∧ Does Try.prog 40 #[.pointer a0, .string s24] w24 fun e25 w25 =>
  ∃ n25 : Int, e25 = .returned (.int .i64 n25) ∧ R (.returned (.int .i64 n25)) w25)
  (Does Try.prog 36 #[.string s5, .int .u8 a1] w18 fun e29 w29 =>
  ∃ n29 : Int, e29 = .returned (.int .i64 n29) ∧ Br (decide (n29 ≥ 0))
  (∀ b33 w33, NewBlk w29 b33 [.int .u8 a1] 5 w33 →
  ∃ s34 : ByteArray, ∃ w34, (convert 27 9 (.slice (some ⟨b33, 0, none⟩) 1 1)).run Try.prog w33 = .ok (.string s34) w34 ∧ Does Try.prog 41 #[.pointer a0, .string s34] w34 fun e35 w35 =>
  ∃ n35 : Int, e35 = .returned (.int .i64 n35) ∧ R (.returned (.int .i64 n35)) w35)
  (∃ b38 o38, a0 = some ⟨b38, o38, none⟩ ∧ ∃ b40 : Bool, w29.cell? ⟨b38, o38 + 1, none⟩ = some (.bool b40) ∧ Br (!b40)
  (Br (a1 == 18)
  (Does Try.prog 41 #[.pointer a0, .string (({ data := #[94, 82] } : ByteArray))] w29 fun e47 w47 =>
  ∃ n47 : Int, e47 = .returned (.int .i64 n47) ∧ R (.returned (.int .i64 n47)) w47)
  (Br (a1 == 114)
  (∃ b52 o52, a0 = some ⟨b52, o52, none⟩ ∧ CanStore w29 b52 (o52 + 6) ∧ ∀ ws, Stored w29 b52 (o52 + 6) (.string (({ data := #[114] } : ByteArray))) ws →
  Does Try.prog 26 #[.pointer a0, .func (.func 37) #[.pointer a0] #[]] ws fun e58 w58 =>
  ∃ n58 : Int, e58 = .returned (.int .i64 n58) ∧ R (.returned (.int .i64 n58)) w58)
  (Br (a1 == 109)
  (∃ b63 o63, a0 = some ⟨b63, o63, none⟩ ∧ CanStore w29 b63 (o63 + 6) ∧ ∀ ws_1, Stored w29 b63 (o63 + 6) (.string (({ data := #[109] } : ByteArray))) ws_1 →
  Does Try.prog 26 #[.pointer a0, .func (.func 38) #[.pointer a0] #[]] ws_1 fun e69 w69 =>
  ∃ n69 : Int, e69 = .returned (.int .i64 n69) ∧ R (.returned (.int .i64 n69)) w69)
  (Br (a1 == 103)
  (Does Try.prog 26 #[.pointer a0, .func (.func 42) #[.pointer a0] #[]] w29 fun e76 w76 =>
  ∃ n76 : Int, e76 = .returned (.int .i64 n76) ∧ R (.returned (.int .i64 n76)) w76)
  (Does Try.prog 33 #[.pointer a0, .int .u8 a1] w29 fun e79 w79 =>
  ∃ n79 : Int, e79 = .returned (.int .i64 n79) ∧ R (.returned (.int .i64 n79)) w79)))))
  (Br (a1 == 114)
  (∃ b52_1 o52_1, a0 = some ⟨b52_1, o52_1, none⟩ ∧ CanStore w29 b52_1 (o52_1 + 6) ∧ ∀ ws_2, Stored w29 b52_1 (o52_1 + 6) (.string (({ data := #[114] } : ByteArray))) ws_2 →
  Does Try.prog 26 #[.pointer a0, .func (.func 37) #[.pointer a0] #[]] ws_2 fun e58_1 w58_1 =>
  ∃ n58_1 : Int, e58_1 = .returned (.int .i64 n58_1) ∧ R (.returned (.int .i64 n58_1)) w58_1)
  (Br (a1 == 109)
  (∃ b63_1 o63_1, a0 = some ⟨b63_1, o63_1, none⟩ ∧ CanStore w29 b63_1 (o63_1 + 6) ∧ ∀ ws_3, Stored w29 b63_1 (o63_1 + 6) (.string (({ data := #[109] } : ByteArray))) ws_3 →
  Does Try.prog 26 #[.pointer a0, .func (.func 38) #[.pointer a0] #[]] ws_3 fun e69_1 w69_1 =>
  ∃ n69_1 : Int, e69_1 = .returned (.int .i64 n69_1) ∧ R (.returned (.int .i64 n69_1)) w69_1)
  (Br (a1 == 103)
  (Does Try.prog 26 #[.pointer a0, .func (.func 42) #[.pointer a0] #[]] w29 fun e76_1 w76_1 =>
  ∃ n76_1 : Int, e76_1 = .returned (.int .i64 n76_1) ∧ R (.returned (.int .i64 n76_1)) w76_1)
  (Does Try.prog 33 #[.pointer a0, .int .u8 a1] w29 fun e79_1 w79_1 =>
  ∃ n79_1 : Int, e79_1 = .returned (.int .i64 n79_1) ∧ R (.returned (.int .i64 n79_1)) w79_1)))))))
  (Does Try.prog 36 #[.string s5, .int .u8 a1] wc4 fun e29_1 w29_1 =>
  ∃ n29_1 : Int, e29_1 = .returned (.int .i64 n29_1) ∧ Br (decide (n29_1 ≥ 0))
  (∀ b33_1 w33_1, NewBlk w29_1 b33_1 [.int .u8 a1] 5 w33_1 →
  ∃ s34_1 : ByteArray, ∃ w34_1, (convert 27 9 (.slice (some ⟨b33_1, 0, none⟩) 1 1)).run Try.prog w33_1 = .ok (.string s34_1) w34_1 ∧ Does Try.prog 41 #[.pointer a0, .string s34_1] w34_1 fun e35_1 w35_1 =>
  ∃ n35_1 : Int, e35_1 = .returned (.int .i64 n35_1) ∧ R (.returned (.int .i64 n35_1)) w35_1)
  (∃ b38_1 o38_1, a0 = some ⟨b38_1, o38_1, none⟩ ∧ ∃ b40_1 : Bool, w29_1.cell? ⟨b38_1, o38_1 + 1, none⟩ = some (.bool b40_1) ∧ Br (!b40_1)
  (Br (a1 == 18)
  (Does Try.prog 41 #[.pointer a0, .string (({ data := #[94, 82] } : ByteArray))] w29_1 fun e47_1 w47_1 =>
  ∃ n47_1 : Int, e47_1 = .returned (.int .i64 n47_1) ∧ R (.returned (.int .i64 n47_1)) w47_1)
  (Br (a1 == 114)
  (∃ b52_2 o52_2, a0 = some ⟨b52_2, o52_2, none⟩ ∧ CanStore w29_1 b52_2 (o52_2 + 6) ∧ ∀ ws_4, Stored w29_1 b52_2 (o52_2 + 6) (.string (({ data := #[114] } : ByteArray))) ws_4 →
  Does Try.prog 26 #[.pointer a0, .func (.func 37) #[.pointer a0] #[]] ws_4 fun e58_2 w58_2 =>
  ∃ n58_2 : Int, e58_2 = .returned (.int .i64 n58_2) ∧ R (.returned (.int .i64 n58_2)) w58_2)
  (Br (a1 == 109)
  (∃ b63_2 o63_2, a0 = some ⟨b63_2, o63_2, none⟩ ∧ CanStore w29_1 b63_2 (o63_2 + 6) ∧ ∀ ws_5, Stored w29_1 b63_2 (o63_2 + 6) (.string (({ data := #[109] } : ByteArray))) ws_5 →
  Does Try.prog 26 #[.pointer a0, .func (.func 38) #[.pointer a0] #[]] ws_5 fun e69_2 w69_2 =>
  ∃ n69_2 : Int, e69_2 = .returned (.int .i64 n69_2) ∧ R (.returned (.int .i64 n69_2)) w69_2)
  (Br (a1 == 103)
  (Does Try.prog 26 #[.pointer a0, .func (.func 42) #[.pointer a0] #[]] w29_1 fun e76_2 w76_2 =>
  ∃ n76_2 : Int, e76_2 = .returned (.int .i64 n76_2) ∧ R (.returned (.int .i64 n76_2)) w76_2)
  (Does Try.prog 33 #[.pointer a0, .int .u8 a1] w29_1 fun e79_2 w79_2 =>
  ∃ n79_2 : Int, e79_2 = .returned (.int .i64 n79_2) ∧ R (.returned (.int .i64 n79_2)) w79_2)))))
  (Br (a1 == 114)
  (∃ b52_3 o52_3, a0 = some ⟨b52_3, o52_3, none⟩ ∧ CanStore w29_1 b52_3 (o52_3 + 6) ∧ ∀ ws_6, Stored w29_1 b52_3 (o52_3 + 6) (.string (({ data := #[114] } : ByteArray))) ws_6 →
  Does Try.prog 26 #[.pointer a0, .func (.func 37) #[.pointer a0] #[]] ws_6 fun e58_3 w58_3 =>
  ∃ n58_3 : Int, e58_3 = .returned (.int .i64 n58_3) ∧ R (.returned (.int .i64 n58_3)) w58_3)
  (Br (a1 == 109)
  (∃ b63_3 o63_3, a0 = some ⟨b63_3, o63_3, none⟩ ∧ CanStore w29_1 b63_3 (o63_3 + 6) ∧ ∀ ws_7, Stored w29_1 b63_3 (o63_3 + 6) (.string (({ data := #[109] } : ByteArray))) ws_7 →
  Does Try.prog 26 #[.pointer a0, .func (.func 38) #[.pointer a0] #[]] ws_7 fun e69_3 w69_3 =>
  ∃ n69_3 : Int, e69_3 = .returned (.int .i64 n69_3) ∧ R (.returned (.int .i64 n69_3)) w69_3)
  (Br (a1 == 103)
  (Does Try.prog 26 #[.pointer a0, .func (.func 42) #[.pointer a0] #[]] w29_1 fun e76_3 w76_3 =>
  ∃ n76_3 : Int, e76_3 = .returned (.int .i64 n76_3) ∧ R (.returned (.int .i64 n76_3)) w76_3)
  (Does Try.prog 33 #[.pointer a0, .int .u8 a1] w29_1 fun e79_3 w79_3 =>
  ∃ n79_3 : Int, e79_3 = .returned (.int .i64 n79_3) ∧ R (.returned (.int .i64 n79_3)) w79_3))))))
def f34_ann : Ann := { loops := [], cuts := [(4, [(5, .str)])], flip := [], throws := [] }
theorem f34_eq (a0 : Option Addr) (a1 : Int) (w : World) (R : Ending → World → Prop) : vc Try.prog f34_ann (bodyOf Try.f34) (retQ Try.prog Try.f34 R) (envOf Try.f34.ntmps [.v (.pointer a0), .v (.int .u8 a1)]) [] w = f34_vc a0 a1 w R := by kernel_rfl
theorem f34_does (a0 : Option Addr) (a1 : Int) {w : World} {R : Ending → World → Prop} (h : f34_vc a0 a1 w R) : Does Try.prog 34 #[.pointer a0, .int .u8 a1] w R :=
  does_of_vc (ss := [.v (.pointer a0), .v (.int .u8 a1)]) f34_ann mixed call34 Try.func34 rfl rfl (show 2 ≤ Try.f34.ntmps by decide) ((f34_eq a0 a1 w R).symm ▸ h)
/-- Of (*escritoire/keys.Parser).moves (function 35): the condition. -/
def f35_vc (a0 : Option Addr) (a1 : ByteArray) (w : World) (R : Ending → World → Prop) : Prop :=
  ∃ b7 o7, a0 = some ⟨b7, o7, none⟩ ∧ CanStore w b7 (o7 + 7) ∧ ∀ ws, Stored w b7 (o7 + 7) (.string a1) ws →
  R (.returned (.int .i64 1)) ws
def f35_ann : Ann := { loops := [], cuts := [], flip := [], throws := [] }
theorem f35_eq (a0 : Option Addr) (a1 : ByteArray) (w : World) (R : Ending → World → Prop) : vc Try.prog f35_ann (bodyOf Try.f35) (retQ Try.prog Try.f35 R) (envOf Try.f35.ntmps [.v (.pointer a0), .v (.string a1)]) [] w = f35_vc a0 a1 w R := by kernel_rfl
theorem f35_does (a0 : Option Addr) (a1 : ByteArray) {w : World} {R : Ending → World → Prop} (h : f35_vc a0 a1 w R) : Does Try.prog 35 #[.pointer a0, .string a1] w R :=
  does_of_vc (ss := [.v (.pointer a0), .v (.string a1)]) f35_ann mixed call35 Try.func35 rfl rfl (show 2 ≤ Try.f35.ntmps by decide) ((f35_eq a0 a1 w R).symm ▸ h)
/-- Of strings.IndexByte (function 36): the condition. -/
def f36_vc (a0 : ByteArray) (a1 : Int) (w : World) (R : Ending → World → Prop) : Prop :=
  Does Try.prog 43 #[.string a0, .int .u8 a1] w fun e7 w7 =>
  ∃ n7 : Int, e7 = .returned (.int .i64 n7) ∧ R (.returned (.int .i64 n7)) w7
def f36_ann : Ann := { loops := [], cuts := [], flip := [], throws := [] }
theorem f36_eq (a0 : ByteArray) (a1 : Int) (w : World) (R : Ending → World → Prop) : vc Try.prog f36_ann (bodyOf Try.f36) (retQ Try.prog Try.f36 R) (envOf Try.f36.ntmps [.v (.string a0), .v (.int .u8 a1)]) [] w = f36_vc a0 a1 w R := by kernel_rfl
theorem f36_does (a0 : ByteArray) (a1 : Int) {w : World} {R : Ending → World → Prop} (h : f36_vc a0 a1 w R) : Does Try.prog 36 #[.string a0, .int .u8 a1] w R :=
  does_of_vc (ss := [.v (.string a0), .v (.int .u8 a1)]) f36_ann mixed call36 Try.func36 rfl rfl (show 2 ≤ Try.f36.ntmps by decide) ((f36_eq a0 a1 w R).symm ▸ h)
/-- Of (*escritoire/keys.Parser).letter (function 37): the condition. -/
def f37_vc (a0 : Option Addr) (a1 : Int) (w : World) (R : Ending → World → Prop) : Prop :=
  ∃ J3 : Nat → World → Prop, (∃ b6 o6, a0 = some ⟨b6, o6, none⟩ ∧ ∃ n8 : Int, w.cell? ⟨b6, o6 + 12, none⟩ = some (.int .i64 n8) ∧ Br (n8 == 0)
  (Does Try.prog 44 #[.int .u8 a1] w fun e12 w12 =>
  ∃ n12 : Int, e12 = .returned (.int .i64 n12) ∧ ∃ b13 o13, a0 = some ⟨b13, o13, none⟩ ∧ CanStore w12 b13 (o13 + 12) ∧ ∀ ws, Stored w12 b13 (o13 + 12) (.int .i64 n12) ws →
  ∃ nc3, J3  nc3 ws)
  (∃ nc3, J3  nc3 w)) ∧ ∀ (nc3 : Nat) (wc3 : World), J3  nc3 wc3 →
  ∃ b17 o17, a0 = some ⟨b17, o17, none⟩ ∧ ∃ (p20 : Option Addr) (l20 c20 : Nat), wc3.cell? ⟨b17, o17 + 8, none⟩ = some (.slice p20 l20 c20) ∧ ∀ b22 w22, NewBlk wc3 b22 [.int .u8 a1] 5 w22 →
  ∃ (p23 : Option Addr) (l23 c23 : Nat) (w23 : World), (Builtin.append_ #[27, 27] 27 #[.slice p20 l20 c20, .slice (some ⟨b22, 0, none⟩) 1 1]).run Try.prog w22 = .ok (.slice p23 l23 c23) w23 ∧
  ∃ b24 o24, a0 = some ⟨b24, o24, none⟩ ∧ CanStore w23 b24 (o24 + 8) ∧ ∀ ws_1, Stored w23 b24 (o24 + 8) (.slice p23 l23 c23) ws_1 →
  ∃ b28 o28, a0 = some ⟨b28, o28, none⟩ ∧ ∃ n30 : Int, ws_1.cell? ⟨b28, o28 + 12, none⟩ = some (.int .i64 n30) ∧ InK .i64 (n30 - 1) ∧ ∃ b32 o32, a0 = some ⟨b32, o32, none⟩ ∧ CanStore ws_1 b32 (o32 + 12) ∧ ∀ ws_2, Stored ws_1 b32 (o32 + 12) (.int .i64 (n30 - 1)) ws_2 →
  ∃ b35 o35, a0 = some ⟨b35, o35, none⟩ ∧ ∃ n37 : Int, ws_2.cell? ⟨b35, o35 + 12, none⟩ = some (.int .i64 n37) ∧ Br (decide (n37 > 0))
  (R (.returned (.int .i64 0)) ws_2)
  (R (.returned (.int .i64 1)) ws_2)
def f37_ann : Ann := { loops := [], cuts := [(3, [])], flip := [], throws := [] }
theorem f37_eq (a0 : Option Addr) (a1 : Int) (w : World) (R : Ending → World → Prop) : vc Try.prog f37_ann (bodyOf Try.f37) (retQ Try.prog Try.f37 R) (envOf Try.f37.ntmps [.v (.pointer a0), .v (.int .u8 a1)]) [] w = f37_vc a0 a1 w R := by kernel_rfl
theorem f37_does (a0 : Option Addr) (a1 : Int) {w : World} {R : Ending → World → Prop} (h : f37_vc a0 a1 w R) : Does Try.prog 37 #[.pointer a0, .int .u8 a1] w R :=
  does_of_vc (ss := [.v (.pointer a0), .v (.int .u8 a1)]) f37_ann mixed call37 Try.func37 rfl rfl (show 2 ≤ Try.f37.ntmps by decide) ((f37_eq a0 a1 w R).symm ▸ h)
/-- Of (*escritoire/keys.Parser).name (function 38): the condition. -/
def f38_vc (a0 : Option Addr) (a1 : Int) (w : World) (R : Ending → World → Prop) : Prop :=
  Does Try.prog 32 #[.int .u8 a1, .int .u8 97, .int .u8 122] w fun e6 w6 =>
  ∃ b6 : Bool, e6 = .returned (.bool b6) ∧ Br (!b6)
  (R (.returned (.int .i64 2)) w6)
  (∀ b10 w10, NewBlk w6 b10 [.int .u8 a1] 5 w10 →
  ∃ b11 o11, a0 = some ⟨b11, o11, none⟩ ∧ CanStore w10 b11 (o11 + 8) ∧ ∀ ws, Stored w10 b11 (o11 + 8) (.slice (some ⟨b10, 0, none⟩) 1 1) ws →
  R (.returned (.int .i64 1)) ws)
def f38_ann : Ann := { loops := [], cuts := [], flip := [], throws := [] }
theorem f38_eq (a0 : Option Addr) (a1 : Int) (w : World) (R : Ending → World → Prop) : vc Try.prog f38_ann (bodyOf Try.f38) (retQ Try.prog Try.f38 R) (envOf Try.f38.ntmps [.v (.pointer a0), .v (.int .u8 a1)]) [] w = f38_vc a0 a1 w R := by kernel_rfl
theorem f38_does (a0 : Option Addr) (a1 : Int) {w : World} {R : Ending → World → Prop} (h : f38_vc a0 a1 w R) : Does Try.prog 38 #[.pointer a0, .int .u8 a1] w R :=
  does_of_vc (ss := [.v (.pointer a0), .v (.int .u8 a1)]) f38_ann mixed call38 Try.func38 rfl rfl (show 2 ≤ Try.f38.ntmps by decide) ((f38_eq a0 a1 w R).symm ▸ h)
/-- Of (*escritoire/keys.Parser).again (function 39): the condition. -/
def f39_vc (a0 : Option Addr) (a1 : Int) (w : World) (R : Ending → World → Prop) : Prop :=
  Br (a1 != 103)
  (R (.returned (.int .i64 2)) w)
  (Does Try.prog 35 #[.pointer a0, .string (({ data := #[103, 103] } : ByteArray))] w fun e8 w8 =>
  ∃ n8 : Int, e8 = .returned (.int .i64 n8) ∧ R (.returned (.int .i64 n8)) w8)
def f39_ann : Ann := { loops := [], cuts := [], flip := [], throws := [] }
theorem f39_eq (a0 : Option Addr) (a1 : Int) (w : World) (R : Ending → World → Prop) : vc Try.prog f39_ann (bodyOf Try.f39) (retQ Try.prog Try.f39 R) (envOf Try.f39.ntmps [.v (.pointer a0), .v (.int .u8 a1)]) [] w = f39_vc a0 a1 w R := by kernel_rfl
theorem f39_does (a0 : Option Addr) (a1 : Int) {w : World} {R : Ending → World → Prop} (h : f39_vc a0 a1 w R) : Does Try.prog 39 #[.pointer a0, .int .u8 a1] w R :=
  does_of_vc (ss := [.v (.pointer a0), .v (.int .u8 a1)]) f39_ann mixed call39 Try.func39 rfl rfl (show 2 ≤ Try.f39.ntmps by decide) ((f39_eq a0 a1 w R).symm ▸ h)
/-- Of (*escritoire/keys.Parser).operator (function 40): the condition. -/
def f40_vc (a0 : Option Addr) (a1 : ByteArray) (w : World) (R : Ending → World → Prop) : Prop :=
  ∃ b8 o8, a0 = some ⟨b8, o8, none⟩ ∧ CanStore w b8 (o8 + 6) ∧ ∀ ws, Stored w b8 (o8 + 6) (.string a1) ws →
  ∃ b11 o11, a0 = some ⟨b11, o11, none⟩ ∧ CanStore ws b11 (o11 + 11) ∧ ∀ ws_1, Stored ws b11 (o11 + 11) (.int .i64 1) ws_1 →
  Does Try.prog 26 #[.pointer a0, .func (.func 28) #[.pointer a0] #[]] ws_1 fun e16 w16 =>
  ∃ n16 : Int, e16 = .returned (.int .i64 n16) ∧ R (.returned (.int .i64 n16)) w16
def f40_ann : Ann := { loops := [], cuts := [], flip := [], throws := [] }
theorem f40_eq (a0 : Option Addr) (a1 : ByteArray) (w : World) (R : Ending → World → Prop) : vc Try.prog f40_ann (bodyOf Try.f40) (retQ Try.prog Try.f40 R) (envOf Try.f40.ntmps [.v (.pointer a0), .v (.string a1)]) [] w = f40_vc a0 a1 w R := by kernel_rfl
theorem f40_does (a0 : Option Addr) (a1 : ByteArray) {w : World} {R : Ending → World → Prop} (h : f40_vc a0 a1 w R) : Does Try.prog 40 #[.pointer a0, .string a1] w R :=
  does_of_vc (ss := [.v (.pointer a0), .v (.string a1)]) f40_ann mixed call40 Try.func40 rfl rfl (show 2 ≤ Try.f40.ntmps by decide) ((f40_eq a0 a1 w R).symm ▸ h)
/-- Of (*escritoire/keys.Parser).plain (function 41): the condition. -/
def f41_vc (a0 : Option Addr) (a1 : ByteArray) (w : World) (R : Ending → World → Prop) : Prop :=
  ∃ b7 o7, a0 = some ⟨b7, o7, none⟩ ∧ CanStore w b7 (o7 + 6) ∧ ∀ ws, Stored w b7 (o7 + 6) (.string a1) ws →
  R (.returned (.int .i64 1)) ws
def f41_ann : Ann := { loops := [], cuts := [], flip := [], throws := [] }
theorem f41_eq (a0 : Option Addr) (a1 : ByteArray) (w : World) (R : Ending → World → Prop) : vc Try.prog f41_ann (bodyOf Try.f41) (retQ Try.prog Try.f41 R) (envOf Try.f41.ntmps [.v (.pointer a0), .v (.string a1)]) [] w = f41_vc a0 a1 w R := by kernel_rfl
theorem f41_does (a0 : Option Addr) (a1 : ByteArray) {w : World} {R : Ending → World → Prop} (h : f41_vc a0 a1 w R) : Does Try.prog 41 #[.pointer a0, .string a1] w R :=
  does_of_vc (ss := [.v (.pointer a0), .v (.string a1)]) f41_ann mixed call41 Try.func41 rfl rfl (show 2 ≤ Try.f41.ntmps by decide) ((f41_eq a0 a1 w R).symm ▸ h)
/-- Of (*escritoire/keys.Parser).second (function 42): the condition. -/
def f42_vc (a0 : Option Addr) (a1 : Int) (w : World) (R : Ending → World → Prop) : Prop :=
  ∀ b7 w7, NewBlk w b7 [.int .u8 a1] 5 w7 →
  ∃ s8 : ByteArray, ∃ w8, (convert 27 9 (.slice (some ⟨b7, 0, none⟩) 1 1)).run Try.prog w7 = .ok (.string s8) w8 ∧ (((({ data := #[103] } : ByteArray)).size + s8.size : Nat) : Int) ≤ 9223372036854775807 ∧ Br (a1 == 103)
  (Does Try.prog 35 #[.pointer a0, .string ((({ data := #[103] } : ByteArray)) ++ s8)] w8 fun e15 w15 =>
  ∃ n15 : Int, e15 = .returned (.int .i64 n15) ∧ R (.returned (.int .i64 n15)) w15)
  (∃ b18 o18, a0 = some ⟨b18, o18, none⟩ ∧ ∃ b20 : Bool, w8.cell? ⟨b18, o18 + 1, none⟩ = some (.bool b20) ∧ Br b20
  (R (.returned (.int .i64 2)) w8)
  (Br (a1 == 117)
  (Does Try.prog 40 #[.pointer a0, .string ((({ data := #[103] } : ByteArray)) ++ s8)] w8 fun e34 w34 =>
  ∃ n34 : Int, e34 = .returned (.int .i64 n34) ∧ R (.returned (.int .i64 n34)) w34)
  (Br (a1 == 85)
  (Does Try.prog 40 #[.pointer a0, .string ((({ data := #[103] } : ByteArray)) ++ s8)] w8 fun e34_1 w34_1 =>
  ∃ n34_1 : Int, e34_1 = .returned (.int .i64 n34_1) ∧ R (.returned (.int .i64 n34_1)) w34_1)
  (Br (a1 == 126)
  (Does Try.prog 40 #[.pointer a0, .string ((({ data := #[103] } : ByteArray)) ++ s8)] w8 fun e34_2 w34_2 =>
  ∃ n34_2 : Int, e34_2 = .returned (.int .i64 n34_2) ∧ R (.returned (.int .i64 n34_2)) w34_2)
  (Br (a1 == 45)
  (Does Try.prog 41 #[.pointer a0, .string ((({ data := #[103] } : ByteArray)) ++ s8)] w8 fun e44 w44 =>
  ∃ n44 : Int, e44 = .returned (.int .i64 n44) ∧ R (.returned (.int .i64 n44)) w44)
  (Br (a1 == 43)
  (Does Try.prog 41 #[.pointer a0, .string ((({ data := #[103] } : ByteArray)) ++ s8)] w8 fun e44_1 w44_1 =>
  ∃ n44_1 : Int, e44_1 = .returned (.int .i64 n44_1) ∧ R (.returned (.int .i64 n44_1)) w44_1)
  (R (.returned (.int .i64 2)) w8)))))))
def f42_ann : Ann := { loops := [], cuts := [], flip := [], throws := [] }
theorem f42_eq (a0 : Option Addr) (a1 : Int) (w : World) (R : Ending → World → Prop) : vc Try.prog f42_ann (bodyOf Try.f42) (retQ Try.prog Try.f42 R) (envOf Try.f42.ntmps [.v (.pointer a0), .v (.int .u8 a1)]) [] w = f42_vc a0 a1 w R := by kernel_rfl
theorem f42_does (a0 : Option Addr) (a1 : Int) {w : World} {R : Ending → World → Prop} (h : f42_vc a0 a1 w R) : Does Try.prog 42 #[.pointer a0, .int .u8 a1] w R :=
  does_of_vc (ss := [.v (.pointer a0), .v (.int .u8 a1)]) f42_ann mixed call42 Try.func42 rfl rfl (show 2 ≤ Try.f42.ntmps by decide) ((f42_eq a0 a1 w R).symm ▸ h)
/-- Of internal/stringslite.IndexByte (function 43): the condition. -/
def f43_vc (a0 : ByteArray) (a1 : Int) (w : World) (R : Ending → World → Prop) : Prop :=
  Does Try.prog 45 #[.string a0, .int .u8 a1] w fun e7 w7 =>
  ∃ n7 : Int, e7 = .returned (.int .i64 n7) ∧ R (.returned (.int .i64 n7)) w7
def f43_ann : Ann := { loops := [], cuts := [], flip := [], throws := [] }
theorem f43_eq (a0 : ByteArray) (a1 : Int) (w : World) (R : Ending → World → Prop) : vc Try.prog f43_ann (bodyOf Try.f43) (retQ Try.prog Try.f43 R) (envOf Try.f43.ntmps [.v (.string a0), .v (.int .u8 a1)]) [] w = f43_vc a0 a1 w R := by kernel_rfl
theorem f43_does (a0 : ByteArray) (a1 : Int) {w : World} {R : Ending → World → Prop} (h : f43_vc a0 a1 w R) : Does Try.prog 43 #[.string a0, .int .u8 a1] w R :=
  does_of_vc (ss := [.v (.string a0), .v (.int .u8 a1)]) f43_ann mixed call43 Try.func43 rfl rfl (show 2 ≤ Try.f43.ntmps by decide) ((f43_eq a0 a1 w R).symm ▸ h)
/-- Of escritoire/keys.long (function 44): the condition. -/
def f44_vc (a0 : Int) (w : World) (R : Ending → World → Prop) : Prop :=
  Does Try.prog 32 #[.int .u8 a0, .int .u8 194, .int .u8 223] w fun e5 w5 =>
  ∃ b5 : Bool, e5 = .returned (.bool b5) ∧ Br b5
  (R (.returned (.int .i64 2)) w5)
  (Does Try.prog 32 #[.int .u8 a0, .int .u8 224, .int .u8 239] w5 fun e8 w8 =>
  ∃ b8 : Bool, e8 = .returned (.bool b8) ∧ Br b8
  (R (.returned (.int .i64 3)) w8)
  (Does Try.prog 32 #[.int .u8 a0, .int .u8 240, .int .u8 244] w8 fun e11 w11 =>
  ∃ b11 : Bool, e11 = .returned (.bool b11) ∧ Br b11
  (R (.returned (.int .i64 4)) w11)
  (R (.returned (.int .i64 1)) w11)))
def f44_ann : Ann := { loops := [], cuts := [], flip := [], throws := [] }
theorem f44_eq (a0 : Int) (w : World) (R : Ending → World → Prop) : vc Try.prog f44_ann (bodyOf Try.f44) (retQ Try.prog Try.f44 R) (envOf Try.f44.ntmps [.v (.int .u8 a0)]) [] w = f44_vc a0 w R := by kernel_rfl
theorem f44_does (a0 : Int) {w : World} {R : Ending → World → Prop} (h : f44_vc a0 w R) : Does Try.prog 44 #[.int .u8 a0] w R :=
  does_of_vc (ss := [.v (.int .u8 a0)]) f44_ann mixed call44 Try.func44 rfl rfl (show 1 ≤ Try.f44.ntmps by decide) ((f44_eq a0 w R).symm ▸ h)
end Go.Proofs.Yteggcicicdcnlaa
