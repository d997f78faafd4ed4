/-
  Of each function of the code: its verification condition, and that it suffices.
-/
import Derived.Test.YtffhlgejfgmpiaaGreatDoorVcDoes
import Derived.Test.YtffhlgejfgmpiaaGreatDoorProg
set_option maxRecDepth 100000
namespace Go.Proofs.YtffhlgejfgmpiaaGreatDoor
open Go.RowKit Go.Vc
def bodyOf (fn : Func) : Code := match fn.body with | some c => c | none => .skip
theorem mixed : Tryz.prog.follows .mixedOrders = true := by kernel_rfl
theorem call7 : callableB Tryz.prog 7 = true := by kernel_rfl
theorem call8 : callableB Tryz.prog 8 = true := by kernel_rfl
theorem call9 : callableB Tryz.prog 9 = true := by kernel_rfl
theorem call11 : callableB Tryz.prog 11 = true := by kernel_rfl
theorem call12 : callableB Tryz.prog 12 = true := by kernel_rfl
theorem call13 : callableB Tryz.prog 13 = true := by kernel_rfl
theorem call15 : callableB Tryz.prog 15 = true := by kernel_rfl
theorem call16 : callableB Tryz.prog 16 = true := by kernel_rfl
theorem call17 : callableB Tryz.prog 17 = true := by kernel_rfl
theorem call18 : callableB Tryz.prog 18 = true := by kernel_rfl
theorem call19 : callableB Tryz.prog 19 = true := by kernel_rfl
theorem call20 : callableB Tryz.prog 20 = true := by kernel_rfl
theorem call22 : callableB Tryz.prog 22 = true := by kernel_rfl
theorem call23 : callableB Tryz.prog 23 = true := by kernel_rfl
theorem call24 : callableB Tryz.prog 24 = true := by kernel_rfl
theorem call25 : callableB Tryz.prog 25 = true := by kernel_rfl
theorem call26 : callableB Tryz.prog 26 = true := by kernel_rfl
theorem call28 : callableB Tryz.prog 28 = true := by kernel_rfl
theorem call29 : callableB Tryz.prog 29 = true := by kernel_rfl
theorem call34 : callableB Tryz.prog 34 = true := by kernel_rfl
theorem call35 : callableB Tryz.prog 35 = true := by kernel_rfl
theorem call36 : callableB Tryz.prog 36 = true := by kernel_rfl
theorem call37 : callableB Tryz.prog 37 = true := by kernel_rfl
theorem call38 : callableB Tryz.prog 38 = true := by kernel_rfl
theorem call41 : callableB Tryz.prog 41 = true := by kernel_rfl
theorem call42 : callableB Tryz.prog 42 = true := by kernel_rfl
theorem call43 : callableB Tryz.prog 43 = true := by kernel_rfl
theorem call45 : callableB Tryz.prog 45 = true := by kernel_rfl
theorem call46 : callableB Tryz.prog 46 = true := by kernel_rfl
theorem call48 : callableB Tryz.prog 48 = true := by kernel_rfl
theorem call51 : callableB Tryz.prog 51 = true := by kernel_rfl
theorem call56 : callableB Tryz.prog 56 = true := by kernel_rfl
theorem call57 : callableB Tryz.prog 57 = true := by kernel_rfl
theorem call58 : callableB Tryz.prog 58 = true := by kernel_rfl
theorem call59 : callableB Tryz.prog 59 = true := by kernel_rfl
theorem call60 : callableB Tryz.prog 60 = true := by kernel_rfl
theorem call61 : callableB Tryz.prog 61 = true := by kernel_rfl
theorem call63 : callableB Tryz.prog 63 = true := by kernel_rfl
theorem call64 : callableB Tryz.prog 64 = true := by kernel_rfl
theorem call65 : callableB Tryz.prog 65 = true := by kernel_rfl
theorem call74 : callableB Tryz.prog 74 = true := by kernel_rfl
theorem call81 : callableB Tryz.prog 81 = true := by kernel_rfl
theorem call82 : callableB Tryz.prog 82 = true := by kernel_rfl
theorem call83 : callableB Tryz.prog 83 = true := by kernel_rfl
theorem call84 : callableB Tryz.prog 84 = true := by kernel_rfl
theorem call85 : callableB Tryz.prog 85 = true := by kernel_rfl
theorem call86 : callableB Tryz.prog 86 = true := by kernel_rfl
theorem call87 : callableB Tryz.prog 87 = true := by kernel_rfl
theorem call101 : callableB Tryz.prog 101 = true := by kernel_rfl
def txt128_32_32 : ByteArray := { data := (([32, 32, 32, 32, 32, 32, 32, 32, 32, 32, 32, 32, 32, 32, 32, 32, 32, 32, 32, 32, 32, 32, 32, 32, 32, 32, 32, 32, 32, 32, 32, 32, 32, 32, 32, 32, 32, 32, 32, 32, 32, 32, 32, 32, 32, 32, 32, 32, 32, 32] : List UInt8) ++ ([32, 32, 32, 32, 32, 32, 32, 32, 32, 32, 32, 32, 32, 32, 32, 32, 32, 32, 32, 32, 32, 32, 32, 32, 32, 32, 32, 32, 32, 32, 32, 32, 32, 32, 32, 32, 32, 32, 32, 32, 32, 32, 32, 32, 32, 32, 32, 32, 32, 32] : List UInt8) ++ ([32, 32, 32, 32, 32, 32, 32, 32, 32, 32, 32, 32, 32, 32, 32, 32, 32, 32, 32, 32, 32, 32, 32, 32, 32, 32, 32, 32] : List UInt8)).toArray }
def txt128_45_45 : ByteArray := { data := (([45, 45, 45, 45, 45, 45, 45, 45, 45, 45, 45, 45, 45, 45, 45, 45, 45, 45, 45, 45, 45, 45, 45, 45, 45, 45, 45, 45, 45, 45, 45, 45, 45, 45, 45, 45, 45, 45, 45, 45, 45, 45, 45, 45, 45, 45, 45, 45, 45, 45] : List UInt8) ++ ([45, 45, 45, 45, 45, 45, 45, 45, 45, 45, 45, 45, 45, 45, 45, 45, 45, 45, 45, 45, 45, 45, 45, 45, 45, 45, 45, 45, 45, 45, 45, 45, 45, 45, 45, 45, 45, 45, 45, 45, 45, 45, 45, 45, 45, 45, 45, 45, 45, 45] : List UInt8) ++ ([45, 45, 45, 45, 45, 45, 45, 45, 45, 45, 45, 45, 45, 45, 45, 45, 45, 45, 45, 45, 45, 45, 45, 45, 45, 45, 45, 45] : List UInt8)).toArray }
def txt64_48_48 : ByteArray := { data := (([48, 48, 48, 48, 48, 48, 48, 48, 48, 48, 48, 48, 48, 48, 48, 48, 48, 48, 48, 48, 48, 48, 48, 48, 48, 48, 48, 48, 48, 48, 48, 48, 48, 48, 48, 48, 48, 48, 48, 48, 48, 48, 48, 48, 48, 48, 48, 48, 48, 48] : List UInt8) ++ ([48, 48, 48, 48, 48, 48, 48, 48, 48, 48, 48, 48, 48, 48] : List UInt8)).toArray }
def txt128_61_61 : ByteArray := { data := (([61, 61, 61, 61, 61, 61, 61, 61, 61, 61, 61, 61, 61, 61, 61, 61, 61, 61, 61, 61, 61, 61, 61, 61, 61, 61, 61, 61, 61, 61, 61, 61, 61, 61, 61, 61, 61, 61, 61, 61, 61, 61, 61, 61, 61, 61, 61, 61, 61, 61] : List UInt8) ++ ([61, 61, 61, 61, 61, 61, 61, 61, 61, 61, 61, 61, 61, 61, 61, 61, 61, 61, 61, 61, 61, 61, 61, 61, 61, 61, 61, 61, 61, 61, 61, 61, 61, 61, 61, 61, 61, 61, 61, 61, 61, 61, 61, 61, 61, 61, 61, 61, 61, 61] : List UInt8) ++ ([61, 61, 61, 61, 61, 61, 61, 61, 61, 61, 61, 61, 61, 61, 61, 61, 61, 61, 61, 61, 61, 61, 61, 61, 61, 61, 61, 61] : List UInt8)).toArray }
def txt64_9_9 : ByteArray := { data := (([9, 9, 9, 9, 9, 9, 9, 9, 9, 9, 9, 9, 9, 9, 9, 9, 9, 9, 9, 9, 9, 9, 9, 9, 9, 9, 9, 9, 9, 9, 9, 9, 9, 9, 9, 9, 9, 9, 9, 9, 9, 9, 9, 9, 9, 9, 9, 9, 9, 9] : List UInt8) ++ ([9, 9, 9, 9, 9, 9, 9, 9, 9, 9, 9, 9, 9, 9] : List UInt8)).toArray }
def txt200_48_57 : ByteArray := { data := (([48, 48, 48, 49, 48, 50, 48, 51, 48, 52, 48, 53, 48, 54, 48, 55, 48, 56, 48, 57, 49, 48, 49, 49, 49, 50, 49, 51, 49, 52, 49, 53, 49, 54, 49, 55, 49, 56, 49, 57, 50, 48, 50, 49, 50, 50, 50, 51, 50, 52] : List UInt8) ++ ([50, 53, 50, 54, 50, 55, 50, 56, 50, 57, 51, 48, 51, 49, 51, 50, 51, 51, 51, 52, 51, 53, 51, 54, 51, 55, 51, 56, 51, 57, 52, 48, 52, 49, 52, 50, 52, 51, 52, 52, 52, 53, 52, 54, 52, 55, 52, 56, 52, 57] : List UInt8) ++ ([53, 48, 53, 49, 53, 50, 53, 51, 53, 52, 53, 53, 53, 54, 53, 55, 53, 56, 53, 57, 54, 48, 54, 49, 54, 50, 54, 51, 54, 52, 54, 53, 54, 54, 54, 55, 54, 56, 54, 57, 55, 48, 55, 49, 55, 50, 55, 51, 55, 52] : List UInt8) ++ ([55, 53, 55, 54, 55, 55, 55, 56, 55, 57, 56, 48, 56, 49, 56, 50, 56, 51, 56, 52, 56, 53, 56, 54, 56, 55, 56, 56, 56, 57, 57, 48, 57, 49, 57, 50, 57, 51, 57, 52, 57, 53, 57, 54, 57, 55, 57, 56, 57, 57] : List UInt8)).toArray }
def txt41_115_101 : ByteArray := { data := (([115, 116, 114, 99, 111, 110, 118, 58, 32, 105, 108, 108, 101, 103, 97, 108, 32, 65, 112, 112, 101, 110, 100, 73, 110, 116, 47, 70, 111, 114, 109, 97, 116, 73, 110, 116, 32, 98, 97, 115, 101] : List UInt8)).toArray }
def txt256_0_8 : ByteArray := { data := (([0, 1, 2, 2, 3, 3, 3, 3, 4, 4, 4, 4, 4, 4, 4, 4, 5, 5, 5, 5, 5, 5, 5, 5, 5, 5, 5, 5, 5, 5, 5, 5, 6, 6, 6, 6, 6, 6, 6, 6, 6, 6, 6, 6, 6, 6, 6, 6, 6, 6] : List UInt8) ++ ([6, 6, 6, 6, 6, 6, 6, 6, 6, 6, 6, 6, 6, 6, 7, 7, 7, 7, 7, 7, 7, 7, 7, 7, 7, 7, 7, 7, 7, 7, 7, 7, 7, 7, 7, 7, 7, 7, 7, 7, 7, 7, 7, 7, 7, 7, 7, 7, 7, 7] : List UInt8) ++ ([7, 7, 7, 7, 7, 7, 7, 7, 7, 7, 7, 7, 7, 7, 7, 7, 7, 7, 7, 7, 7, 7, 7, 7, 7, 7, 7, 7, 8, 8, 8, 8, 8, 8, 8, 8, 8, 8, 8, 8, 8, 8, 8, 8, 8, 8, 8, 8, 8, 8] : List UInt8) ++ ([8, 8, 8, 8, 8, 8, 8, 8, 8, 8, 8, 8, 8, 8, 8, 8, 8, 8, 8, 8, 8, 8, 8, 8, 8, 8, 8, 8, 8, 8, 8, 8, 8, 8, 8, 8, 8, 8, 8, 8, 8, 8, 8, 8, 8, 8, 8, 8, 8, 8] : List UInt8) ++ ([8, 8, 8, 8, 8, 8, 8, 8, 8, 8, 8, 8, 8, 8, 8, 8, 8, 8, 8, 8, 8, 8, 8, 8, 8, 8, 8, 8, 8, 8, 8, 8, 8, 8, 8, 8, 8, 8, 8, 8, 8, 8, 8, 8, 8, 8, 8, 8, 8, 8] : List UInt8) ++ ([8, 8, 8, 8, 8, 8] : List UInt8)).toArray }
/-- Of escritoire/escritoirelaw3.awake (function 7): the condition. -/
def f7_vc  (w : World) (R : Ending → World → Prop) : Prop :=
  Does Tryz.prog 16 #[.float .f64 0, .float .f64 0] w fun e4 w4 =>
  ∃ n4 : Int, e4 = .returned (.int .i64 n4) ∧ Br (n4 == 0)
  (∃ f8 : Nat, ∃ w8, (binOp .quo 22 (.float .f64 4607182418800017408) (.float .f64 0)).run Tryz.prog w4 = .ok (.float .f64 f8) w8 ∧ Does Tryz.prog 16 #[.float .f64 f8, .float .f64 4607182418800017408] w8 fun e9 w9 =>
  ∃ n9 : Int, e9 = .returned (.int .i64 n9) ∧ Br (n9 == 1)
  (∃ f15 : Nat, ∃ w15, (binOp .quo 22 (.float .f64 0) (.float .f64 0)).run Tryz.prog w9 = .ok (.float .f64 f15) w15 ∧ Does Tryz.prog 8 #[.float .f64 f15] w15 fun e16 w16 =>
  ∃ s16 : ByteArray, e16 = .returned (.string s16) ∧ Br (s16.toList == (({ data := #[110, 97, 110] } : ByteArray)).toList)
  (∃ f21 : Nat, ∃ w21, (binOp .quo 22 (.float .f64 13830554455654793216) (.float .f64 0)).run Tryz.prog w16 = .ok (.float .f64 f21) w21 ∧ Does Tryz.prog 8 #[.float .f64 f21] w21 fun e22 w22 =>
  ∃ s22 : ByteArray, e22 = .returned (.string s22) ∧ R (.returned (.bool (s22.toList == (({ data := #[45, 105, 110, 102] } : ByteArray)).toList))) w22)
  (R (.returned (.bool false)) w16))
  (R (.returned (.bool false)) w9))
  (R (.returned (.bool false)) w4)
def f7_ann : Ann := { loops := [], cuts := [], flip := [], throws := [] }
theorem f7_eq  (w : World) (R : Ending → World → Prop) : vc Tryz.prog f7_ann (bodyOf Tryz.f7) (retQ Tryz.prog Tryz.f7 R) (envOf Tryz.f7.ntmps []) [] w = f7_vc  w R := by kernel_rfl
theorem f7_does  {w : World} {R : Ending → World → Prop} (h : f7_vc  w R) : Does Tryz.prog 7 #[] w R :=
  does_of_vc (ss := []) f7_ann mixed call7 Tryz.func7 rfl rfl (show 0 ≤ Tryz.f7.ntmps by decide) ((f7_eq  w R).symm ▸ h)
/-- Of escritoire/real.Show (function 8): the condition. -/
def f8_vc (a0 : Nat) (w : World) (R : Ending → World → Prop) : Prop :=
  Br ((FloatKind.f64.format.order a0 a0 != some Ordering.eq))
  (R (.returned (.string (({ data := #[110, 97, 110] } : ByteArray)))) w)
  (Does Tryz.prog 19 #[.float .f64 a0, .int .i64 1] w fun e10 w10 =>
  ∃ b10 : Bool, e10 = .returned (.bool b10) ∧ Br b10
  (R (.returned (.string (({ data := #[105, 110, 102] } : ByteArray)))) w10)
  (Does Tryz.prog 19 #[.float .f64 a0, .int .i64 (-1)] w10 fun e13 w13 =>
  ∃ b13 : Bool, e13 = .returned (.bool b13) ∧ Br b13
  (R (.returned (.string (({ data := #[45, 105, 110, 102] } : ByteArray)))) w13)
  (Does Tryz.prog 20 #[.float .f64 a0] w13 fun e15 w15 =>
  ∃ b15 : Bool, e15 = .returned (.bool b15) ∧ Br b15
  (Br ((FloatKind.f64.format.order (Op.negFloat .f64 a0) 4831355200913801216 == some Ordering.lt))
  (Does Tryz.prog 21 #[.float .f64 (Op.negFloat .f64 a0)] w15 fun e23 w23 =>
  ∃ f23 : Nat, e23 = .returned (.float .f64 f23) ∧ Br ((FloatKind.f64.format.order (Op.negFloat .f64 a0) f23 == some Ordering.eq))
  (∃ n28 : Int, ∃ w28, (convert 22 2 (.float .f64 (Op.negFloat .f64 a0))).run Tryz.prog w23 = .ok (.int .i64 n28) w28 ∧ Does Tryz.prog 22 #[.int .i64 n28, .int .i64 10] w28 fun e29 w29 =>
  ∃ s29 : ByteArray, e29 = .returned (.string s29) ∧ (((({ data := #[45] } : ByteArray)).size + s29.size : Nat) : Int) ≤ 9223372036854775807 ∧ R (.returned (.string ((({ data := #[45] } : ByteArray)) ++ s29))) w29)
  (Does Tryz.prog 23 #[.float .f64 (Op.negFloat .f64 a0)] w23 fun e33 w33 =>
  ∃ s33 : ByteArray, e33 = .returned (.string s33) ∧ (((({ data := #[45] } : ByteArray)).size + s33.size : Nat) : Int) ≤ 9223372036854775807 ∧ R (.returned (.string ((({ data := #[45] } : ByteArray)) ++ s33))) w33))
  (Does Tryz.prog 23 #[.float .f64 (Op.negFloat .f64 a0)] w15 fun e33_1 w33_1 =>
  ∃ s33_1 : ByteArray, e33_1 = .returned (.string s33_1) ∧ (((({ data := #[45] } : ByteArray)).size + s33_1.size : Nat) : Int) ≤ 9223372036854775807 ∧ R (.returned (.string ((({ data := #[45] } : ByteArray)) ++ s33_1))) w33_1))
  (Br ((FloatKind.f64.format.order a0 4831355200913801216 == some Ordering.lt))
  (Does Tryz.prog 21 #[.float .f64 a0] w15 fun e23_1 w23_1 =>
  ∃ f23_1 : Nat, e23_1 = .returned (.float .f64 f23_1) ∧ Br ((FloatKind.f64.format.order a0 f23_1 == some Ordering.eq))
  (∃ n28_1 : Int, ∃ w28_1, (convert 22 2 (.float .f64 a0)).run Tryz.prog w23_1 = .ok (.int .i64 n28_1) w28_1 ∧ Does Tryz.prog 22 #[.int .i64 n28_1, .int .i64 10] w28_1 fun e29_1 w29_1 =>
  ∃ s29_1 : ByteArray, e29_1 = .returned (.string s29_1) ∧ (((({ data := #[] } : ByteArray)).size + s29_1.size : Nat) : Int) ≤ 9223372036854775807 ∧ R (.returned (.string ((({ data := #[] } : ByteArray)) ++ s29_1))) w29_1)
  (Does Tryz.prog 23 #[.float .f64 a0] w23_1 fun e33_2 w33_2 =>
  ∃ s33_2 : ByteArray, e33_2 = .returned (.string s33_2) ∧ (((({ data := #[] } : ByteArray)).size + s33_2.size : Nat) : Int) ≤ 9223372036854775807 ∧ R (.returned (.string ((({ data := #[] } : ByteArray)) ++ s33_2))) w33_2))
  (Does Tryz.prog 23 #[.float .f64 a0] w15 fun e33_3 w33_3 =>
  ∃ s33_3 : ByteArray, e33_3 = .returned (.string s33_3) ∧ (((({ data := #[] } : ByteArray)).size + s33_3.size : Nat) : Int) ≤ 9223372036854775807 ∧ R (.returned (.string ((({ data := #[] } : ByteArray)) ++ s33_3))) w33_3)))))
def f8_ann : Ann := { loops := [], cuts := [], flip := [], throws := [] }
theorem f8_eq (a0 : Nat) (w : World) (R : Ending → World → Prop) : vc Tryz.prog f8_ann (bodyOf Tryz.f8) (retQ Tryz.prog Tryz.f8 R) (envOf Tryz.f8.ntmps [.v (.float .f64 a0)]) [] w = f8_vc a0 w R := by kernel_rfl
theorem f8_does (a0 : Nat) {w : World} {R : Ending → World → Prop} (h : f8_vc a0 w R) : Does Tryz.prog 8 #[.float .f64 a0] w R :=
  does_of_vc (ss := [.v (.float .f64 a0)]) f8_ann mixed call8 Tryz.func8 rfl rfl (show 1 ≤ Tryz.f8.ntmps by decide) ((f8_eq a0 w R).symm ▸ h)
/-- Of escritoire/real.Read (function 9): the condition. -/
def f9_vc (a0 : ByteArray) (w : World) (R : Ending → World → Prop) : Prop :=
  Br (a0.toList == (({ data := #[110, 97, 110] } : ByteArray)).toList)
  (Does Tryz.prog 24 #[] w fun e10 w10 =>
  ∃ f10 : Nat, e10 = .returned (.float .f64 f10) ∧ R (.returned (.tuple #[.float .f64 f10, .bool true])) w10)
  (Br (a0.toList == (({ data := #[105, 110, 102] } : ByteArray)).toList)
  (Does Tryz.prog 25 #[.int .i64 1] w fun e13 w13 =>
  ∃ f13 : Nat, e13 = .returned (.float .f64 f13) ∧ R (.returned (.tuple #[.float .f64 f13, .bool true])) w13)
  (Br (a0.toList == (({ data := #[45, 105, 110, 102] } : ByteArray)).toList)
  (Does Tryz.prog 25 #[.int .i64 (-1)] w fun e16 w16 =>
  ∃ f16 : Nat, e16 = .returned (.float .f64 f16) ∧ R (.returned (.tuple #[.float .f64 f16, .bool true])) w16)
  (Does Tryz.prog 26 #[.string a0, .string (({ data := #[45] } : ByteArray))] w fun e18 w18 =>
  ∃ s18 : ByteArray, e18 = .returned (.string s18) ∧ Does Tryz.prog 27 #[.string s18] w18 fun e20 w20 =>
  ∃ b20 : Bool, e20 = .returned (.bool b20) ∧ Br (!b20)
  (Does Tryz.prog 28 #[.string s18, .string (({ data := #[48, 120, 49] } : ByteArray))] w20 fun e24 w24 =>
  ∃ b24 : Bool, e24 = .returned (.bool b24) ∧ Br (!b24)
  (R (.returned (.tuple #[.float .f64 0, .bool false])) w24)
  (Does Tryz.prog 29 #[.string a0, .int .i64 64] w24 fun e29 w29 =>
  ∃ f29 : Nat, ∃ x29 : Value, e29 = .returned (.tuple #[.float .f64 f29, x29]) ∧ ∃ b33 : Bool, IfNil x29 b33 ∧ Br (!b33)
  (R (.returned (.tuple #[.float .f64 0, .bool false])) w29)
  (Does Tryz.prog 27 #[.string s18] w29 fun e36 w36 =>
  ∃ b36 : Bool, e36 = .returned (.bool b36) ∧ Br (!b36)
  (Does Tryz.prog 8 #[.float .f64 f29] w36 fun e40 w40 =>
  ∃ s40 : ByteArray, e40 = .returned (.string s40) ∧ Br (!(s40.toList == a0.toList))
  (R (.returned (.tuple #[.float .f64 0, .bool false])) w40)
  (R (.returned (.tuple #[.float .f64 f29, .bool true])) w40))
  (R (.returned (.tuple #[.float .f64 f29, .bool true])) w36))))
  (Does Tryz.prog 29 #[.string a0, .int .i64 64] w20 fun e29_1 w29_1 =>
  ∃ f29_1 : Nat, ∃ x29_1 : Value, e29_1 = .returned (.tuple #[.float .f64 f29_1, x29_1]) ∧ ∃ b33_1 : Bool, IfNil x29_1 b33_1 ∧ Br (!b33_1)
  (R (.returned (.tuple #[.float .f64 0, .bool false])) w29_1)
  (Does Tryz.prog 27 #[.string s18] w29_1 fun e36_1 w36_1 =>
  ∃ b36_1 : Bool, e36_1 = .returned (.bool b36_1) ∧ Br (!b36_1)
  (Does Tryz.prog 8 #[.float .f64 f29_1] w36_1 fun e40_1 w40_1 =>
  ∃ s40_1 : ByteArray, e40_1 = .returned (.string s40_1) ∧ Br (!(s40_1.toList == a0.toList))
  (R (.returned (.tuple #[.float .f64 0, .bool false])) w40_1)
  (R (.returned (.tuple #[.float .f64 f29_1, .bool true])) w40_1))
  (R (.returned (.tuple #[.float .f64 f29_1, .bool true])) w36_1))))))
def f9_ann : Ann := { loops := [], cuts := [], flip := [], throws := [] }
theorem f9_eq (a0 : ByteArray) (w : World) (R : Ending → World → Prop) : vc Tryz.prog f9_ann (bodyOf Tryz.f9) (retQ Tryz.prog Tryz.f9 R) (envOf Tryz.f9.ntmps [.v (.string a0)]) [] w = f9_vc a0 w R := by kernel_rfl
theorem f9_does (a0 : ByteArray) {w : World} {R : Ending → World → Prop} (h : f9_vc a0 w R) : Does Tryz.prog 9 #[.string a0] w R :=
  does_of_vc (ss := [.v (.string a0)]) f9_ann mixed call9 Tryz.func9 rfl rfl (show 1 ≤ Tryz.f9.ntmps by decide) ((f9_eq a0 w R).symm ▸ h)
/-- Of escritoire/real.Bits (function 11): the condition. -/
def f11_vc (a0 : Nat) (w : World) (R : Ending → World → Prop) : Prop :=
  Br ((FloatKind.f64.format.order a0 a0 != some Ordering.eq))
  (R (.returned (.int .u64 9221120237041090561)) w)
  (Does Tryz.prog 30 #[.float .f64 a0] w fun e7 w7 =>
  ∃ n7 : Int, e7 = .returned (.int .u64 n7) ∧ R (.returned (.int .u64 n7)) w7)
def f11_ann : Ann := { loops := [], cuts := [], flip := [], throws := [] }
theorem f11_eq (a0 : Nat) (w : World) (R : Ending → World → Prop) : vc Tryz.prog f11_ann (bodyOf Tryz.f11) (retQ Tryz.prog Tryz.f11 R) (envOf Tryz.f11.ntmps [.v (.float .f64 a0)]) [] w = f11_vc a0 w R := by kernel_rfl
theorem f11_does (a0 : Nat) {w : World} {R : Ending → World → Prop} (h : f11_vc a0 w R) : Does Tryz.prog 11 #[.float .f64 a0] w R :=
  does_of_vc (ss := [.v (.float .f64 a0)]) f11_ann mixed call11 Tryz.func11 rfl rfl (show 1 ≤ Tryz.f11.ntmps by decide) ((f11_eq a0 w R).symm ▸ h)
/-- Of escritoire/escritoireref3.Read (function 12): the condition. -/
def f12_vc (a0 : ByteArray) (w : World) (R : Ending → World → Prop) : Prop :=
  Br (a0.toList == (({ data := #[110, 97, 110] } : ByteArray)).toList)
  (Does Tryz.prog 24 #[] w fun e13 w13 =>
  ∃ f13 : Nat, e13 = .returned (.float .f64 f13) ∧ R (.returned (.tuple #[.float .f64 f13, .bool true])) w13)
  (Br (a0.toList == (({ data := #[105, 110, 102] } : ByteArray)).toList)
  (Does Tryz.prog 25 #[.int .i64 1] w fun e16 w16 =>
  ∃ f16 : Nat, e16 = .returned (.float .f64 f16) ∧ R (.returned (.tuple #[.float .f64 f16, .bool true])) w16)
  (Br (a0.toList == (({ data := #[45, 105, 110, 102] } : ByteArray)).toList)
  (Does Tryz.prog 25 #[.int .i64 (-1)] w fun e19 w19 =>
  ∃ f19 : Nat, e19 = .returned (.float .f64 f19) ∧ R (.returned (.tuple #[.float .f64 f19, .bool true])) w19)
  (∃ J13 : ByteArray → Nat → Nat → World → Prop, (Br (decide (((a0.size : Int)) > 0))
  (((0 : Int) ≤ 0 ∧ 0 < (a0.size : Int)) ∧ Br ((sb a0 0) == 45)
  (((0 : Int) ≤ 1 ∧ 1 ≤ (a0.size : Int)) ∧ ∃ nc13, J13 (a0.extract ((1 : Int).toNat) a0.size) 13830554455654793216 nc13 w)
  (∃ nc13, J13 a0 4607182418800017408 nc13 w))
  (∃ nc13, J13 a0 4607182418800017408 nc13 w)) ∧ ∀ s4 : ByteArray, ∀ f5 : Nat, ∀ (nc13 : Nat) (wc13 : World), J13 s4 f5 nc13 wc13 →
  ∃ J19 : Nat → World → Prop, (Br (decide (((s4.size : Int)) > 3))
  (Br (decide (((s4.size : Int)) < 40))
  (((0 : Int) ≤ 3 ∧ 3 ≤ (s4.size : Int)) ∧ Br ((s4.extract 0 ((3 : Int).toNat)).toList == (({ data := #[48, 120, 49] } : ByteArray)).toList)
  (Does Tryz.prog 31 #[.string s4] wc13 fun e46 w46 =>
  ∃ f46 : Nat, ∃ b46 : Bool, e46 = .returned (.tuple #[.float .f64 f46, .bool b46]) ∧ Does Tryz.prog 32 #[.float .f64 f46, .float .f64 f5] w46 fun e51 w51 =>
  ∃ f51 : Nat, e51 = .returned (.float .f64 f51) ∧ Br (!b46)
  (R (.returned (.tuple #[.float .f64 0, .bool false])) w51)
  (Does Tryz.prog 10 #[.float .f64 f51] w51 fun e56 w56 =>
  ∃ s56 : ByteArray, e56 = .returned (.string s56) ∧ Br (!(s56.toList == a0.toList))
  (R (.returned (.tuple #[.float .f64 0, .bool false])) w56)
  (R (.returned (.tuple #[.float .f64 f51, .bool true])) w56)))
  (∃ nc19, J19  nc19 wc13))
  (∃ nc19, J19  nc19 wc13))
  (∃ nc19, J19  nc19 wc13)) ∧ ∀ (nc19 : Nat) (wc19 : World), J19  nc19 wc19 →
  Does Tryz.prog 33 #[.string s4] wc19 fun e63 w63 =>
  ∃ f63 : Nat, ∃ b63 : Bool, e63 = .returned (.tuple #[.float .f64 f63, .bool b63]) ∧ Br (!b63)
  (R (.returned (.tuple #[.float .f64 0, .bool false])) w63)
  (Does Tryz.prog 32 #[.float .f64 f63, .float .f64 f5] w63 fun e70 w70 =>
  ∃ f70 : Nat, e70 = .returned (.float .f64 f70) ∧ R (.returned (.tuple #[.float .f64 f70, .bool true])) w70))))
def f12_ann : Ann := { loops := [], cuts := [(13, [(4, .str), (5, .flt .f64)]), (19, [])], flip := [], throws := [] }
theorem f12_eq (a0 : ByteArray) (w : World) (R : Ending → World → Prop) : vc Tryz.prog f12_ann (bodyOf Tryz.f12) (retQ Tryz.prog Tryz.f12 R) (envOf Tryz.f12.ntmps [.v (.string a0)]) [] w = f12_vc a0 w R := by kernel_rfl
theorem f12_does (a0 : ByteArray) {w : World} {R : Ending → World → Prop} (h : f12_vc a0 w R) : Does Tryz.prog 12 #[.string a0] w R :=
  does_of_vc (ss := [.v (.string a0)]) f12_ann mixed call12 Tryz.func12 rfl rfl (show 1 ≤ Tryz.f12.ntmps by decide) ((f12_eq a0 w R).symm ▸ h)
/-- Of escritoire/escritoireref3.Bits (function 13): the condition. -/
def f13_vc (a0 : Nat) (w : World) (R : Ending → World → Prop) : Prop :=
  Br ((FloatKind.f64.format.order a0 a0 != some Ordering.eq))
  (R (.returned (.int .u64 9221120237041090561)) w)
  (Does Tryz.prog 30 #[.float .f64 a0] w fun e7 w7 =>
  ∃ n7 : Int, e7 = .returned (.int .u64 n7) ∧ R (.returned (.int .u64 n7)) w7)
def f13_ann : Ann := { loops := [], cuts := [], flip := [], throws := [] }
theorem f13_eq (a0 : Nat) (w : World) (R : Ending → World → Prop) : vc Tryz.prog f13_ann (bodyOf Tryz.f13) (retQ Tryz.prog Tryz.f13 R) (envOf Tryz.f13.ntmps [.v (.float .f64 a0)]) [] w = f13_vc a0 w R := by kernel_rfl
theorem f13_does (a0 : Nat) {w : World} {R : Ending → World → Prop} (h : f13_vc a0 w R) : Does Tryz.prog 13 #[.float .f64 a0] w R :=
  does_of_vc (ss := [.v (.float .f64 a0)]) f13_ann mixed call13 Tryz.func13 rfl rfl (show 1 ≤ Tryz.f13.ntmps by decide) ((f13_eq a0 w R).symm ▸ h)
/-- Of escritoire/real.Place (function 15): the condition. -/
def f15_vc (a0 : Nat) (a1 : Int) (w : World) (R : Ending → World → Prop) : Prop :=
  Br ((FloatKind.f64.format.order a0 a0 != some Ordering.eq))
  (R (.returned (.tuple #[.int .i64 0, .bool false])) w)
  (Br (decide (a1 < 0))
  (R (.returned (.tuple #[.int .i64 0, .bool false])) w)
  (Br ((FloatKind.f64.format.order a0 0 == some Ordering.lt) || (FloatKind.f64.format.order a0 0 == some Ordering.eq))
  (R (.returned (.tuple #[.int .i64 0, .bool true])) w)
  (Br ((FloatKind.f64.format.order a0 4607182418800017408 == some Ordering.gt) || (FloatKind.f64.format.order a0 4607182418800017408 == some Ordering.eq))
  (R (.returned (.tuple #[.int .i64 a1, .bool true])) w)
  (∃ f22 : Nat, ∃ w22, (convert 3 22 (.int .i64 a1)).run Tryz.prog w = .ok (.float .f64 f22) w22 ∧ ∃ f24 : Nat, ∃ w24, (binOp .mul 22 (.float .f64 f22) (.float .f64 a0)).run Tryz.prog w22 = .ok (.float .f64 f24) w24 ∧ ∃ n25 : Int, ∃ w25, (convert 22 3 (.float .f64 f24)).run Tryz.prog w24 = .ok (.int .i64 n25) w25 ∧ R (.returned (.tuple #[.int .i64 n25, .bool true])) w25))))
def f15_ann : Ann := { loops := [], cuts := [], flip := [], throws := [] }
theorem f15_eq (a0 : Nat) (a1 : Int) (w : World) (R : Ending → World → Prop) : vc Tryz.prog f15_ann (bodyOf Tryz.f15) (retQ Tryz.prog Tryz.f15 R) (envOf Tryz.f15.ntmps [.v (.float .f64 a0), .v (.int .i64 a1)]) [] w = f15_vc a0 a1 w R := by kernel_rfl
theorem f15_does (a0 : Nat) (a1 : Int) {w : World} {R : Ending → World → Prop} (h : f15_vc a0 a1 w R) : Does Tryz.prog 15 #[.float .f64 a0, .int .i64 a1] w R :=
  does_of_vc (ss := [.v (.float .f64 a0), .v (.int .i64 a1)]) f15_ann mixed call15 Tryz.func15 rfl rfl (show 2 ≤ Tryz.f15.ntmps by decide) ((f15_eq a0 a1 w R).symm ▸ h)
/-- Of escritoire/real.Compare (function 16): the condition. -/
def f16_vc (a0 : Nat) (a1 : Nat) (w : World) (R : Ending → World → Prop) : Prop :=
  Br ((FloatKind.f64.format.order a0 a0 != some Ordering.eq))
  (Does Tryz.prog 35 #[.float .f64 a0] w fun e15 w15 =>
  ∃ n15 : Int, e15 = .returned (.int .i64 n15) ∧ Does Tryz.prog 35 #[.float .f64 a1] w15 fun e17 w17 =>
  ∃ n17 : Int, e17 = .returned (.int .i64 n17) ∧ Does Tryz.prog 34 #[.int .i64 n15, .int .i64 n17] w17 fun e18 w18 =>
  ∃ n18 : Int, e18 = .returned (.int .i64 n18) ∧ R (.returned (.int .i64 n18)) w18)
  (Br ((FloatKind.f64.format.order a1 a1 != some Ordering.eq))
  (Does Tryz.prog 35 #[.float .f64 a0] w fun e15_1 w15_1 =>
  ∃ n15_1 : Int, e15_1 = .returned (.int .i64 n15_1) ∧ Does Tryz.prog 35 #[.float .f64 a1] w15_1 fun e17_1 w17_1 =>
  ∃ n17_1 : Int, e17_1 = .returned (.int .i64 n17_1) ∧ Does Tryz.prog 34 #[.int .i64 n15_1, .int .i64 n17_1] w17_1 fun e18_1 w18_1 =>
  ∃ n18_1 : Int, e18_1 = .returned (.int .i64 n18_1) ∧ R (.returned (.int .i64 n18_1)) w18_1)
  (Br ((FloatKind.f64.format.order a0 0 == some Ordering.eq))
  (Br ((FloatKind.f64.format.order a1 0 == some Ordering.eq))
  (Does Tryz.prog 36 #[.float .f64 a1] w fun e27 w27 =>
  ∃ n27 : Int, e27 = .returned (.int .i64 n27) ∧ Does Tryz.prog 36 #[.float .f64 a0] w27 fun e29 w29 =>
  ∃ n29 : Int, e29 = .returned (.int .i64 n29) ∧ Does Tryz.prog 34 #[.int .i64 n27, .int .i64 n29] w29 fun e30 w30 =>
  ∃ n30 : Int, e30 = .returned (.int .i64 n30) ∧ R (.returned (.int .i64 n30)) w30)
  (Does Tryz.prog 37 #[.float .f64 a0, .float .f64 a1] w fun e33 w33 =>
  ∃ n33 : Int, e33 = .returned (.int .i64 n33) ∧ R (.returned (.int .i64 n33)) w33))
  (Does Tryz.prog 37 #[.float .f64 a0, .float .f64 a1] w fun e33_1 w33_1 =>
  ∃ n33_1 : Int, e33_1 = .returned (.int .i64 n33_1) ∧ R (.returned (.int .i64 n33_1)) w33_1)))
def f16_ann : Ann := { loops := [], cuts := [], flip := [], throws := [] }
theorem f16_eq (a0 : Nat) (a1 : Nat) (w : World) (R : Ending → World → Prop) : vc Tryz.prog f16_ann (bodyOf Tryz.f16) (retQ Tryz.prog Tryz.f16 R) (envOf Tryz.f16.ntmps [.v (.float .f64 a0), .v (.float .f64 a1)]) [] w = f16_vc a0 a1 w R := by kernel_rfl
theorem f16_does (a0 : Nat) (a1 : Nat) {w : World} {R : Ending → World → Prop} (h : f16_vc a0 a1 w R) : Does Tryz.prog 16 #[.float .f64 a0, .float .f64 a1] w R :=
  does_of_vc (ss := [.v (.float .f64 a0), .v (.float .f64 a1)]) f16_ann mixed call16 Tryz.func16 rfl rfl (show 2 ≤ Tryz.f16.ntmps by decide) ((f16_eq a0 a1 w R).symm ▸ h)
/-- Of escritoire/escritoirelaw3.minus (function 17): the condition. -/
def f17_vc  (w : World) (R : Ending → World → Prop) : Prop :=
  ∃ f3 : Nat, ∃ w3, (binOp .quo 22 (.float .f64 4607182418800017408) (.float .f64 0)).run Tryz.prog w = .ok (.float .f64 f3) w3 ∧ ∃ f4 : Nat, ∃ w4, (binOp .quo 22 (.float .f64 13830554455654793216) (.float .f64 f3)).run Tryz.prog w3 = .ok (.float .f64 f4) w4 ∧ R (.returned (.float .f64 f4)) w4
def f17_ann : Ann := { loops := [], cuts := [], flip := [], throws := [] }
theorem f17_eq  (w : World) (R : Ending → World → Prop) : vc Tryz.prog f17_ann (bodyOf Tryz.f17) (retQ Tryz.prog Tryz.f17 R) (envOf Tryz.f17.ntmps []) [] w = f17_vc  w R := by kernel_rfl
theorem f17_does  {w : World} {R : Ending → World → Prop} (h : f17_vc  w R) : Does Tryz.prog 17 #[] w R :=
  does_of_vc (ss := []) f17_ann mixed call17 Tryz.func17 rfl rfl (show 0 ≤ Tryz.f17.ntmps by decide) ((f17_eq  w R).symm ▸ h)
/-- Of escritoire/real.Share (function 18): the condition. -/
def f18_vc (a0 : Int) (a1 : Int) (w : World) (R : Ending → World → Prop) : Prop :=
  ∃ f6 : Nat, ∃ w6, (convert 3 22 (.int .i64 a0)).run Tryz.prog w = .ok (.float .f64 f6) w6 ∧ ∃ f8 : Nat, ∃ w8, (convert 3 22 (.int .i64 a1)).run Tryz.prog w6 = .ok (.float .f64 f8) w8 ∧ ∃ f9 : Nat, ∃ w9, (binOp .quo 22 (.float .f64 f6) (.float .f64 f8)).run Tryz.prog w8 = .ok (.float .f64 f9) w9 ∧ R (.returned (.float .f64 f9)) w9
def f18_ann : Ann := { loops := [], cuts := [], flip := [], throws := [] }
theorem f18_eq (a0 : Int) (a1 : Int) (w : World) (R : Ending → World → Prop) : vc Tryz.prog f18_ann (bodyOf Tryz.f18) (retQ Tryz.prog Tryz.f18 R) (envOf Tryz.f18.ntmps [.v (.int .i64 a0), .v (.int .i64 a1)]) [] w = f18_vc a0 a1 w R := by kernel_rfl
theorem f18_does (a0 : Int) (a1 : Int) {w : World} {R : Ending → World → Prop} (h : f18_vc a0 a1 w R) : Does Tryz.prog 18 #[.int .i64 a0, .int .i64 a1] w R :=
  does_of_vc (ss := [.v (.int .i64 a0), .v (.int .i64 a1)]) f18_ann mixed call18 Tryz.func18 rfl rfl (show 2 ≤ Tryz.f18.ntmps by decide) ((f18_eq a0 a1 w R).symm ▸ h)
/-- Of math.IsInf (function 19): the condition. -/
def f19_vc (a0 : Nat) (a1 : Int) (w : World) (R : Ending → World → Prop) : Prop :=
  Br (a1 == 0)
  (Does Tryz.prog 38 #[.float .f64 a0] w fun e8 w8 =>
  ∃ f8 : Nat, e8 = .returned (.float .f64 f8) ∧ R (.returned (.bool ((FloatKind.f64.format.order f8 9218868437227405311 == some Ordering.gt)))) w8)
  (Br (decide (a1 < 0))
  (R (.returned (.bool ((FloatKind.f64.format.order (Op.negFloat .f64 a0) 9218868437227405311 == some Ordering.gt)))) w)
  (R (.returned (.bool ((FloatKind.f64.format.order a0 9218868437227405311 == some Ordering.gt)))) w))
def f19_ann : Ann := { loops := [], cuts := [], flip := [], throws := [] }
theorem f19_eq (a0 : Nat) (a1 : Int) (w : World) (R : Ending → World → Prop) : vc Tryz.prog f19_ann (bodyOf Tryz.f19) (retQ Tryz.prog Tryz.f19 R) (envOf Tryz.f19.ntmps [.v (.float .f64 a0), .v (.int .i64 a1)]) [] w = f19_vc a0 a1 w R := by kernel_rfl
theorem f19_does (a0 : Nat) (a1 : Int) {w : World} {R : Ending → World → Prop} (h : f19_vc a0 a1 w R) : Does Tryz.prog 19 #[.float .f64 a0, .int .i64 a1] w R :=
  does_of_vc (ss := [.v (.float .f64 a0), .v (.int .i64 a1)]) f19_ann mixed call19 Tryz.func19 rfl rfl (show 2 ≤ Tryz.f19.ntmps by decide) ((f19_eq a0 a1 w R).symm ▸ h)
/-- Of math.Signbit (function 20): the condition. -/
def f20_vc (a0 : Nat) (w : World) (R : Ending → World → Prop) : Prop :=
  Does Tryz.prog 30 #[.float .f64 a0] w fun e4 w4 =>
  ∃ n4 : Int, e4 = .returned (.int .u64 n4) ∧ R (.returned (.bool (decide ((IntKind.wrap .i64 (n4)) < 0)))) w4
def f20_ann : Ann := { loops := [], cuts := [], flip := [5], throws := [] }
theorem f20_eq (a0 : Nat) (w : World) (R : Ending → World → Prop) : vc Tryz.prog f20_ann (bodyOf Tryz.f20) (retQ Tryz.prog Tryz.f20 R) (envOf Tryz.f20.ntmps [.v (.float .f64 a0)]) [] w = f20_vc a0 w R := by kernel_rfl
theorem f20_does (a0 : Nat) {w : World} {R : Ending → World → Prop} (h : f20_vc a0 w R) : Does Tryz.prog 20 #[.float .f64 a0] w R :=
  does_of_vc (ss := [.v (.float .f64 a0)]) f20_ann mixed call20 Tryz.func20 rfl rfl (show 1 ≤ Tryz.f20.ntmps by decide) ((f20_eq a0 w R).symm ▸ h)
/-- Of strconv.FormatInt (function 22): the condition. -/
def f22_vc (a0 : Int) (a1 : Int) (w : World) (R : Ending → World → Prop) : Prop :=
  Does Tryz.prog 41 #[.int .i64 a0, .int .i64 a1] w fun e7 w7 =>
  ∃ s7 : ByteArray, e7 = .returned (.string s7) ∧ R (.returned (.string s7)) w7
def f22_ann : Ann := { loops := [], cuts := [], flip := [], throws := [] }
theorem f22_eq (a0 : Int) (a1 : Int) (w : World) (R : Ending → World → Prop) : vc Tryz.prog f22_ann (bodyOf Tryz.f22) (retQ Tryz.prog Tryz.f22 R) (envOf Tryz.f22.ntmps [.v (.int .i64 a0), .v (.int .i64 a1)]) [] w = f22_vc a0 a1 w R := by kernel_rfl
theorem f22_does (a0 : Int) (a1 : Int) {w : World} {R : Ending → World → Prop} (h : f22_vc a0 a1 w R) : Does Tryz.prog 22 #[.int .i64 a0, .int .i64 a1] w R :=
  does_of_vc (ss := [.v (.int .i64 a0), .v (.int .i64 a1)]) f22_ann mixed call22 Tryz.func22 rfl rfl (show 2 ≤ Tryz.f22.ntmps by decide) ((f22_eq a0 a1 w R).symm ▸ h)
/-- Of escritoire/real.parts (function 23): the condition. -/
def f23_vc (a0 : Nat) (w : World) (R : Ending → World → Prop) : Prop :=
  Does Tryz.prog 42 #[.float .f64 a0] w fun e9 w9 =>
  ∃ f9 : Nat, ∃ n9 : Int, e9 = .returned (.tuple #[.float .f64 f9, .int .i64 n9]) ∧ ∃ f13 : Nat, ∃ w13, (binOp .mul 22 (.float .f64 f9) (.float .f64 4845873199050653696)).run Tryz.prog w9 = .ok (.float .f64 f13) w13 ∧ ∃ n14 : Int, ∃ w14, (convert 22 27 (.float .f64 f13)).run Tryz.prog w13 = .ok (.int .u64 n14) w14 ∧ Does Tryz.prog 43 #[.int .u64 (bits .andNot .u64 n14 4503599627370496), .int .i64 16] w14 fun e17 w17 =>
  ∃ s17 : ByteArray, e17 = .returned (.string s17) ∧ InK .i64 (13 - ((s17.size : Int))) ∧ Does Tryz.prog 45 #[.string (({ data := #[48] } : ByteArray)), .int .i64 (13 - ((s17.size : Int)))] w17 fun e21 w21 =>
  ∃ s21 : ByteArray, e21 = .returned (.string s21) ∧ ((s21.size + s17.size : Nat) : Int) ≤ 9223372036854775807 ∧ Does Tryz.prog 44 #[.string (s21 ++ s17), .string (({ data := #[48] } : ByteArray))] w21 fun e24 w24 =>
  ∃ s24 : ByteArray, e24 = .returned (.string s24) ∧ Br (!(s24.toList == (({ data := #[] } : ByteArray)).toList))
  ((((({ data := #[46] } : ByteArray)).size + s24.size : Nat) : Int) ≤ 9223372036854775807 ∧ InK .i64 (n9 - 1) ∧ Br (decide ((n9 - 1) ≥ 0))
  ((((({ data := #[48, 120, 49] } : ByteArray)).size + ((({ data := #[46] } : ByteArray)) ++ s24).size : Nat) : Int) ≤ 9223372036854775807 ∧ ((((({ data := #[48, 120, 49] } : ByteArray)) ++ ((({ data := #[46] } : ByteArray)) ++ s24)).size + (({ data := #[112, 43] } : ByteArray)).size : Nat) : Int) ≤ 9223372036854775807 ∧ Does Tryz.prog 46 #[.int .i64 (n9 - 1)] w24 fun e37 w37 =>
  ∃ s37 : ByteArray, e37 = .returned (.string s37) ∧ (((((({ data := #[48, 120, 49] } : ByteArray)) ++ ((({ data := #[46] } : ByteArray)) ++ s24)) ++ (({ data := #[112, 43] } : ByteArray))).size + s37.size : Nat) : Int) ≤ 9223372036854775807 ∧ R (.returned (.string ((((({ data := #[48, 120, 49] } : ByteArray)) ++ ((({ data := #[46] } : ByteArray)) ++ s24)) ++ (({ data := #[112, 43] } : ByteArray))) ++ s37))) w37)
  ((((({ data := #[48, 120, 49] } : ByteArray)).size + ((({ data := #[46] } : ByteArray)) ++ s24).size : Nat) : Int) ≤ 9223372036854775807 ∧ ((((({ data := #[48, 120, 49] } : ByteArray)) ++ ((({ data := #[46] } : ByteArray)) ++ s24)).size + (({ data := #[112, 45] } : ByteArray)).size : Nat) : Int) ≤ 9223372036854775807 ∧ InK .i64 (0 - (n9 - 1)) ∧ Does Tryz.prog 46 #[.int .i64 (0 - (n9 - 1))] w24 fun e44 w44 =>
  ∃ s44 : ByteArray, e44 = .returned (.string s44) ∧ (((((({ data := #[48, 120, 49] } : ByteArray)) ++ ((({ data := #[46] } : ByteArray)) ++ s24)) ++ (({ data := #[112, 45] } : ByteArray))).size + s44.size : Nat) : Int) ≤ 9223372036854775807 ∧ R (.returned (.string ((((({ data := #[48, 120, 49] } : ByteArray)) ++ ((({ data := #[46] } : ByteArray)) ++ s24)) ++ (({ data := #[112, 45] } : ByteArray))) ++ s44))) w44))
  (InK .i64 (n9 - 1) ∧ Br (decide ((n9 - 1) ≥ 0))
  ((((({ data := #[48, 120, 49] } : ByteArray)).size + s24.size : Nat) : Int) ≤ 9223372036854775807 ∧ ((((({ data := #[48, 120, 49] } : ByteArray)) ++ s24).size + (({ data := #[112, 43] } : ByteArray)).size : Nat) : Int) ≤ 9223372036854775807 ∧ Does Tryz.prog 46 #[.int .i64 (n9 - 1)] w24 fun e37_1 w37_1 =>
  ∃ s37_1 : ByteArray, e37_1 = .returned (.string s37_1) ∧ (((((({ data := #[48, 120, 49] } : ByteArray)) ++ s24) ++ (({ data := #[112, 43] } : ByteArray))).size + s37_1.size : Nat) : Int) ≤ 9223372036854775807 ∧ R (.returned (.string ((((({ data := #[48, 120, 49] } : ByteArray)) ++ s24) ++ (({ data := #[112, 43] } : ByteArray))) ++ s37_1))) w37_1)
  ((((({ data := #[48, 120, 49] } : ByteArray)).size + s24.size : Nat) : Int) ≤ 9223372036854775807 ∧ ((((({ data := #[48, 120, 49] } : ByteArray)) ++ s24).size + (({ data := #[112, 45] } : ByteArray)).size : Nat) : Int) ≤ 9223372036854775807 ∧ InK .i64 (0 - (n9 - 1)) ∧ Does Tryz.prog 46 #[.int .i64 (0 - (n9 - 1))] w24 fun e44_1 w44_1 =>
  ∃ s44_1 : ByteArray, e44_1 = .returned (.string s44_1) ∧ (((((({ data := #[48, 120, 49] } : ByteArray)) ++ s24) ++ (({ data := #[112, 45] } : ByteArray))).size + s44_1.size : Nat) : Int) ≤ 9223372036854775807 ∧ R (.returned (.string ((((({ data := #[48, 120, 49] } : ByteArray)) ++ s24) ++ (({ data := #[112, 45] } : ByteArray))) ++ s44_1))) w44_1))
def f23_ann : Ann := { loops := [], cuts := [], flip := [], throws := [] }
theorem f23_eq (a0 : Nat) (w : World) (R : Ending → World → Prop) : vc Tryz.prog f23_ann (bodyOf Tryz.f23) (retQ Tryz.prog Tryz.f23 R) (envOf Tryz.f23.ntmps [.v (.float .f64 a0)]) [] w = f23_vc a0 w R := by kernel_rfl
theorem f23_does (a0 : Nat) {w : World} {R : Ending → World → Prop} (h : f23_vc a0 w R) : Does Tryz.prog 23 #[.float .f64 a0] w R :=
  does_of_vc (ss := [.v (.float .f64 a0)]) f23_ann mixed call23 Tryz.func23 rfl rfl (show 1 ≤ Tryz.f23.ntmps by decide) ((f23_eq a0 w R).symm ▸ h)
/-- Of math.NaN (function 24): the condition. -/
def f24_vc  (w : World) (R : Ending → World → Prop) : Prop :=
  Does Tryz.prog 47 #[.int .u64 9221120237041090561] w fun e1 w1 =>
  ∃ f1 : Nat, e1 = .returned (.float .f64 f1) ∧ R (.returned (.float .f64 f1)) w1
def f24_ann : Ann := { loops := [], cuts := [], flip := [], throws := [] }
theorem f24_eq  (w : World) (R : Ending → World → Prop) : vc Tryz.prog f24_ann (bodyOf Tryz.f24) (retQ Tryz.prog Tryz.f24 R) (envOf Tryz.f24.ntmps []) [] w = f24_vc  w R := by kernel_rfl
theorem f24_does  {w : World} {R : Ending → World → Prop} (h : f24_vc  w R) : Does Tryz.prog 24 #[] w R :=
  does_of_vc (ss := []) f24_ann mixed call24 Tryz.func24 rfl rfl (show 0 ≤ Tryz.f24.ntmps by decide) ((f24_eq  w R).symm ▸ h)
/-- Of math.Inf (function 25): the condition. -/
def f25_vc (a0 : Int) (w : World) (R : Ending → World → Prop) : Prop :=
  Br (decide (a0 ≥ 0))
  (Does Tryz.prog 47 #[.int .u64 9218868437227405312] w fun e7 w7 =>
  ∃ f7 : Nat, e7 = .returned (.float .f64 f7) ∧ R (.returned (.float .f64 f7)) w7)
  (Does Tryz.prog 47 #[.int .u64 18442240474082181120] w fun e7_1 w7_1 =>
  ∃ f7_1 : Nat, e7_1 = .returned (.float .f64 f7_1) ∧ R (.returned (.float .f64 f7_1)) w7_1)
def f25_ann : Ann := { loops := [], cuts := [], flip := [], throws := [] }
theorem f25_eq (a0 : Int) (w : World) (R : Ending → World → Prop) : vc Tryz.prog f25_ann (bodyOf Tryz.f25) (retQ Tryz.prog Tryz.f25 R) (envOf Tryz.f25.ntmps [.v (.int .i64 a0)]) [] w = f25_vc a0 w R := by kernel_rfl
theorem f25_does (a0 : Int) {w : World} {R : Ending → World → Prop} (h : f25_vc a0 w R) : Does Tryz.prog 25 #[.int .i64 a0] w R :=
  does_of_vc (ss := [.v (.int .i64 a0)]) f25_ann mixed call25 Tryz.func25 rfl rfl (show 1 ≤ Tryz.f25.ntmps by decide) ((f25_eq a0 w R).symm ▸ h)
/-- Of strings.TrimPrefix (function 26): the condition. -/
def f26_vc (a0 : ByteArray) (a1 : ByteArray) (w : World) (R : Ending → World → Prop) : Prop :=
  Does Tryz.prog 48 #[.string a0, .string a1] w fun e7 w7 =>
  ∃ s7 : ByteArray, e7 = .returned (.string s7) ∧ R (.returned (.string s7)) w7
def f26_ann : Ann := { loops := [], cuts := [], flip := [], throws := [] }
theorem f26_eq (a0 : ByteArray) (a1 : ByteArray) (w : World) (R : Ending → World → Prop) : vc Tryz.prog f26_ann (bodyOf Tryz.f26) (retQ Tryz.prog Tryz.f26 R) (envOf Tryz.f26.ntmps [.v (.string a0), .v (.string a1)]) [] w = f26_vc a0 a1 w R := by kernel_rfl
theorem f26_does (a0 : ByteArray) (a1 : ByteArray) {w : World} {R : Ending → World → Prop} (h : f26_vc a0 a1 w R) : Does Tryz.prog 26 #[.string a0, .string a1] w R :=
  does_of_vc (ss := [.v (.string a0), .v (.string a1)]) f26_ann mixed call26 Tryz.func26 rfl rfl (show 2 ≤ Tryz.f26.ntmps by decide) ((f26_eq a0 a1 w R).symm ▸ h)
/-- Of strings.HasPrefix (function 28): the condition. -/
def f28_vc (a0 : ByteArray) (a1 : ByteArray) (w : World) (R : Ending → World → Prop) : Prop :=
  Does Tryz.prog 51 #[.string a0, .string a1] w fun e7 w7 =>
  ∃ b7 : Bool, e7 = .returned (.bool b7) ∧ R (.returned (.bool b7)) w7
def f28_ann : Ann := { loops := [], cuts := [], flip := [], throws := [] }
theorem f28_eq (a0 : ByteArray) (a1 : ByteArray) (w : World) (R : Ending → World → Prop) : vc Tryz.prog f28_ann (bodyOf Tryz.f28) (retQ Tryz.prog Tryz.f28 R) (envOf Tryz.f28.ntmps [.v (.string a0), .v (.string a1)]) [] w = f28_vc a0 a1 w R := by kernel_rfl
theorem f28_does (a0 : ByteArray) (a1 : ByteArray) {w : World} {R : Ending → World → Prop} (h : f28_vc a0 a1 w R) : Does Tryz.prog 28 #[.string a0, .string a1] w R :=
  does_of_vc (ss := [.v (.string a0), .v (.string a1)]) f28_ann mixed call28 Tryz.func28 rfl rfl (show 2 ≤ Tryz.f28.ntmps by decide) ((f28_eq a0 a1 w R).symm ▸ h)
/-- Of strconv.ParseFloat (function 29): the condition. -/
def f29_vc (a0 : ByteArray) (a1 : Int) (w : World) (R : Ending → World → Prop) : Prop :=
  Does Tryz.prog 52 #[.string a0, .int .i64 a1] w fun e11 w11 =>
  ∃ f11 : Nat, ∃ x11 : Value, e11 = .returned (.tuple #[.float .f64 f11, x11]) ∧ ∃ b15 : Bool, IfNil x11 b15 ∧ Br (!b15)
  (Does Tryz.prog 53 #[.string (({ data := #[80, 97, 114, 115, 101, 70, 108, 111, 97, 116] } : ByteArray)), .string a0, .int .i64 0, .int .i64 a1, x11] w11 fun e20 w20 =>
  ∃ x20 : Value, e20 = .returned (x20) ∧ R (.returned (.tuple #[.float .f64 f11, x20])) w20)
  (R (.returned (.tuple #[.float .f64 f11, .nilIface])) w11)
def f29_ann : Ann := { loops := [], cuts := [], flip := [], throws := [] }
theorem f29_eq (a0 : ByteArray) (a1 : Int) (w : World) (R : Ending → World → Prop) : vc Tryz.prog f29_ann (bodyOf Tryz.f29) (retQ Tryz.prog Tryz.f29 R) (envOf Tryz.f29.ntmps [.v (.string a0), .v (.int .i64 a1)]) [] w = f29_vc a0 a1 w R := by kernel_rfl
theorem f29_does (a0 : ByteArray) (a1 : Int) {w : World} {R : Ending → World → Prop} (h : f29_vc a0 a1 w R) : Does Tryz.prog 29 #[.string a0, .int .i64 a1] w R :=
  does_of_vc (ss := [.v (.string a0), .v (.int .i64 a1)]) f29_ann mixed call29 Tryz.func29 rfl rfl (show 2 ≤ Tryz.f29.ntmps by decide) ((f29_eq a0 a1 w R).symm ▸ h)
/-- Of cmp.Compare[int] (function 34): the condition. -/
def f34_vc (a0 : Int) (a1 : Int) (w : World) (R : Ending → World → Prop) : Prop :=
  Does Tryz.prog 56 #[.int .i64 a0] w fun e8 w8 =>
  ∃ b8 : Bool, e8 = .returned (.bool b8) ∧ Does Tryz.prog 56 #[.int .i64 a1] w8 fun e10 w10 =>
  ∃ b10 : Bool, e10 = .returned (.bool b10) ∧ Br b8
  (Br b10
  (R (.returned (.int .i64 0)) w10)
  (R (.returned (.int .i64 (-1))) w10))
  (Br b10
  (R (.returned (.int .i64 1)) w10)
  (Br (decide (a0 < a1))
  (R (.returned (.int .i64 (-1))) w10)
  (Br (decide (a0 > a1))
  (R (.returned (.int .i64 1)) w10)
  (R (.returned (.int .i64 0)) w10))))
def f34_ann : Ann := { loops := [], cuts := [], flip := [], throws := [] }
theorem f34_eq (a0 : Int) (a1 : Int) (w : World) (R : Ending → World → Prop) : vc Tryz.prog f34_ann (bodyOf Tryz.f34) (retQ Tryz.prog Tryz.f34 R) (envOf Tryz.f34.ntmps [.v (.int .i64 a0), .v (.int .i64 a1)]) [] w = f34_vc a0 a1 w R := by kernel_rfl
theorem f34_does (a0 : Int) (a1 : Int) {w : World} {R : Ending → World → Prop} (h : f34_vc a0 a1 w R) : Does Tryz.prog 34 #[.int .i64 a0, .int .i64 a1] w R :=
  does_of_vc (ss := [.v (.int .i64 a0), .v (.int .i64 a1)]) f34_ann mixed call34 Tryz.func34 rfl rfl (show 2 ≤ Tryz.f34.ntmps by decide) ((f34_eq a0 a1 w R).symm ▸ h)
/-- Of escritoire/real.odd (function 35): the condition. -/
def f35_vc (a0 : Nat) (w : World) (R : Ending → World → Prop) : Prop :=
  Br ((FloatKind.f64.format.order a0 a0 != some Ordering.eq))
  (R (.returned (.int .i64 1)) w)
  (R (.returned (.int .i64 0)) w)
def f35_ann : Ann := { loops := [], cuts := [], flip := [], throws := [] }
theorem f35_eq (a0 : Nat) (w : World) (R : Ending → World → Prop) : vc Tryz.prog f35_ann (bodyOf Tryz.f35) (retQ Tryz.prog Tryz.f35 R) (envOf Tryz.f35.ntmps [.v (.float .f64 a0)]) [] w = f35_vc a0 w R := by kernel_rfl
theorem f35_does (a0 : Nat) {w : World} {R : Ending → World → Prop} (h : f35_vc a0 w R) : Does Tryz.prog 35 #[.float .f64 a0] w R :=
  does_of_vc (ss := [.v (.float .f64 a0)]) f35_ann mixed call35 Tryz.func35 rfl rfl (show 1 ≤ Tryz.f35.ntmps by decide) ((f35_eq a0 w R).symm ▸ h)
/-- Of escritoire/real.sign (function 36): the condition. -/
def f36_vc (a0 : Nat) (w : World) (R : Ending → World → Prop) : Prop :=
  Does Tryz.prog 20 #[.float .f64 a0] w fun e4 w4 =>
  ∃ b4 : Bool, e4 = .returned (.bool b4) ∧ Br b4
  (R (.returned (.int .i64 1)) w4)
  (R (.returned (.int .i64 0)) w4)
def f36_ann : Ann := { loops := [], cuts := [], flip := [], throws := [] }
theorem f36_eq (a0 : Nat) (w : World) (R : Ending → World → Prop) : vc Tryz.prog f36_ann (bodyOf Tryz.f36) (retQ Tryz.prog Tryz.f36 R) (envOf Tryz.f36.ntmps [.v (.float .f64 a0)]) [] w = f36_vc a0 w R := by kernel_rfl
theorem f36_does (a0 : Nat) {w : World} {R : Ending → World → Prop} (h : f36_vc a0 w R) : Does Tryz.prog 36 #[.float .f64 a0] w R :=
  does_of_vc (ss := [.v (.float .f64 a0)]) f36_ann mixed call36 Tryz.func36 rfl rfl (show 1 ≤ Tryz.f36.ntmps by decide) ((f36_eq a0 w R).symm ▸ h)
/-- Of cmp.Compare[float64] (function 37): the condition. -/
def f37_vc (a0 : Nat) (a1 : Nat) (w : World) (R : Ending → World → Prop) : Prop :=
  Does Tryz.prog 57 #[.float .f64 a0] w fun e8 w8 =>
  ∃ b8 : Bool, e8 = .returned (.bool b8) ∧ Does Tryz.prog 57 #[.float .f64 a1] w8 fun e10 w10 =>
  ∃ b10 : Bool, e10 = .returned (.bool b10) ∧ Br b8
  (Br b10
  (R (.returned (.int .i64 0)) w10)
  (R (.returned (.int .i64 (-1))) w10))
  (Br b10
  (R (.returned (.int .i64 1)) w10)
  (Br ((FloatKind.f64.format.order a0 a1 == some Ordering.lt))
  (R (.returned (.int .i64 (-1))) w10)
  (Br ((FloatKind.f64.format.order a0 a1 == some Ordering.gt))
  (R (.returned (.int .i64 1)) w10)
  (R (.returned (.int .i64 0)) w10))))
def f37_ann : Ann := { loops := [], cuts := [], flip := [], throws := [] }
theorem f37_eq (a0 : Nat) (a1 : Nat) (w : World) (R : Ending → World → Prop) : vc Tryz.prog f37_ann (bodyOf Tryz.f37) (retQ Tryz.prog Tryz.f37 R) (envOf Tryz.f37.ntmps [.v (.float .f64 a0), .v (.float .f64 a1)]) [] w = f37_vc a0 a1 w R := by kernel_rfl
theorem f37_does (a0 : Nat) (a1 : Nat) {w : World} {R : Ending → World → Prop} (h : f37_vc a0 a1 w R) : Does Tryz.prog 37 #[.float .f64 a0, .float .f64 a1] w R :=
  does_of_vc (ss := [.v (.float .f64 a0), .v (.float .f64 a1)]) f37_ann mixed call37 Tryz.func37 rfl rfl (show 2 ≤ Tryz.f37.ntmps by decide) ((f37_eq a0 a1 w R).symm ▸ h)
/-- Of math.Abs (function 38): the condition. -/
def f38_vc (a0 : Nat) (w : World) (R : Ending → World → Prop) : Prop :=
  Does Tryz.prog 30 #[.float .f64 a0] w fun e4 w4 =>
  ∃ n4 : Int, e4 = .returned (.int .u64 n4) ∧ Does Tryz.prog 47 #[.int .u64 (bits .andNot .u64 n4 9223372036854775808)] w4 fun e6 w6 =>
  ∃ f6 : Nat, e6 = .returned (.float .f64 f6) ∧ R (.returned (.float .f64 f6)) w6
def f38_ann : Ann := { loops := [], cuts := [], flip := [], throws := [] }
theorem f38_eq (a0 : Nat) (w : World) (R : Ending → World → Prop) : vc Tryz.prog f38_ann (bodyOf Tryz.f38) (retQ Tryz.prog Tryz.f38 R) (envOf Tryz.f38.ntmps [.v (.float .f64 a0)]) [] w = f38_vc a0 w R := by kernel_rfl
theorem f38_does (a0 : Nat) {w : World} {R : Ending → World → Prop} (h : f38_vc a0 w R) : Does Tryz.prog 38 #[.float .f64 a0] w R :=
  does_of_vc (ss := [.v (.float .f64 a0)]) f38_ann mixed call38 Tryz.func38 rfl rfl (show 1 ≤ Tryz.f38.ntmps by decide) ((f38_eq a0 w R).symm ▸ h)
/-- Of internal/strconv.FormatInt (function 41): the condition. -/
def f41_vc (a0 : Int) (a1 : Int) (w : World) (R : Ending → World → Prop) : Prop :=
  Br (a1 == 10)
  (Br (decide ((0 : Int) ≤ a0))
  (Br (decide (a0 < 100))
  (Does Tryz.prog 58 #[.int .i64 a0] w fun e19 w19 =>
  ∃ s19 : ByteArray, e19 = .returned (.string s19) ∧ R (.returned (.string s19)) w19)
  (∀ b5 w5, NewBlk w b5 [.int .u8 0, .int .u8 0, .int .u8 0, .int .u8 0, .int .u8 0, .int .u8 0, .int .u8 0, .int .u8 0, .int .u8 0, .int .u8 0, .int .u8 0, .int .u8 0, .int .u8 0, .int .u8 0, .int .u8 0, .int .u8 0, .int .u8 0, .int .u8 0, .int .u8 0, .int .u8 0, .int .u8 0, .int .u8 0, .int .u8 0, .int .u8 0] 66 w5 →
  Br (decide (a0 < 0))
  (Does Tryz.prog 59 #[.int .u64 (IntKind.wrap .u64 (0 - (IntKind.wrap .u64 (a0))))] w5 fun e27 w27 =>
  ∃ n27 : Int, e27 = .returned (.int .i64 n27) ∧ InK .i64 (1 + n27) ∧ ((0 : Int) ≤ (1 + n27) ∧ (1 + n27) ≤ (24 : Int)) ∧ ((0 : Int) ≤ 1 ∧ 1 ≤ (1 + n27)) ∧ Does Tryz.prog 60 #[.slice (subp (some ⟨b5, 0, none⟩) ((1 : Int).toNat) 24 1) (((1 + n27).toNat) - ((1 : Int).toNat)) (24 - ((1 : Int).toNat)), .int .u64 (IntKind.wrap .u64 (0 - (IntKind.wrap .u64 (a0))))] w27 fun e32 w32 =>
  e32 = .returned (.tuple #[]) ∧ Br (decide (a0 < 0))
  (((0 : Int) ≤ 0 ∧ 0 < ((24 : Nat) : Int)) ∧ CanStore w32 b5 (0 + (0 : Int).toNat) ∧ ∀ ws, Stored w32 b5 (0 + (0 : Int).toNat) (.int .u8 45) ws →
  InK .i64 (1 + n27) ∧ ((0 : Int) ≤ (1 + n27) ∧ (1 + n27) ≤ (24 : Int)) ∧ ∃ s39 : ByteArray, ∃ w39, (convert 50 9 (.slice (subp (some ⟨b5, 0, none⟩) 0 24 1) (((1 + n27).toNat) - 0) (24 - 0))).run Tryz.prog ws = .ok (.string s39) w39 ∧ R (.returned (.string s39)) w39)
  (InK .i64 (1 + n27) ∧ ((0 : Int) ≤ (1 + n27) ∧ (1 + n27) ≤ (24 : Int)) ∧ ((0 : Int) ≤ 1 ∧ 1 ≤ (1 + n27)) ∧ ∃ s43 : ByteArray, ∃ w43, (convert 50 9 (.slice (subp (some ⟨b5, 0, none⟩) ((1 : Int).toNat) 24 1) (((1 + n27).toNat) - ((1 : Int).toNat)) (24 - ((1 : Int).toNat)))).run Tryz.prog w32 = .ok (.string s43) w43 ∧ R (.returned (.string s43)) w43))
  (Does Tryz.prog 59 #[.int .u64 (IntKind.wrap .u64 (a0))] w5 fun e27_1 w27_1 =>
  ∃ n27_1 : Int, e27_1 = .returned (.int .i64 n27_1) ∧ InK .i64 (1 + n27_1) ∧ ((0 : Int) ≤ (1 + n27_1) ∧ (1 + n27_1) ≤ (24 : Int)) ∧ ((0 : Int) ≤ 1 ∧ 1 ≤ (1 + n27_1)) ∧ Does Tryz.prog 60 #[.slice (subp (some ⟨b5, 0, none⟩) ((1 : Int).toNat) 24 1) (((1 + n27_1).toNat) - ((1 : Int).toNat)) (24 - ((1 : Int).toNat)), .int .u64 (IntKind.wrap .u64 (a0))] w27_1 fun e32_1 w32_1 =>
  e32_1 = .returned (.tuple #[]) ∧ Br (decide (a0 < 0))
  (((0 : Int) ≤ 0 ∧ 0 < ((24 : Nat) : Int)) ∧ CanStore w32_1 b5 (0 + (0 : Int).toNat) ∧ ∀ ws_1, Stored w32_1 b5 (0 + (0 : Int).toNat) (.int .u8 45) ws_1 →
  InK .i64 (1 + n27_1) ∧ ((0 : Int) ≤ (1 + n27_1) ∧ (1 + n27_1) ≤ (24 : Int)) ∧ ∃ s39_1 : ByteArray, ∃ w39_1, (convert 50 9 (.slice (subp (some ⟨b5, 0, none⟩) 0 24 1) (((1 + n27_1).toNat) - 0) (24 - 0))).run Tryz.prog ws_1 = .ok (.string s39_1) w39_1 ∧ R (.returned (.string s39_1)) w39_1)
  (InK .i64 (1 + n27_1) ∧ ((0 : Int) ≤ (1 + n27_1) ∧ (1 + n27_1) ≤ (24 : Int)) ∧ ((0 : Int) ≤ 1 ∧ 1 ≤ (1 + n27_1)) ∧ ∃ s43_1 : ByteArray, ∃ w43_1, (convert 50 9 (.slice (subp (some ⟨b5, 0, none⟩) ((1 : Int).toNat) 24 1) (((1 + n27_1).toNat) - ((1 : Int).toNat)) (24 - ((1 : Int).toNat)))).run Tryz.prog w32_1 = .ok (.string s43_1) w43_1 ∧ R (.returned (.string s43_1)) w43_1))))
  (∀ b5_1 w5_1, NewBlk w b5_1 [.int .u8 0, .int .u8 0, .int .u8 0, .int .u8 0, .int .u8 0, .int .u8 0, .int .u8 0, .int .u8 0, .int .u8 0, .int .u8 0, .int .u8 0, .int .u8 0, .int .u8 0, .int .u8 0, .int .u8 0, .int .u8 0, .int .u8 0, .int .u8 0, .int .u8 0, .int .u8 0, .int .u8 0, .int .u8 0, .int .u8 0, .int .u8 0] 66 w5_1 →
  Br (decide (a0 < 0))
  (Does Tryz.prog 59 #[.int .u64 (IntKind.wrap .u64 (0 - (IntKind.wrap .u64 (a0))))] w5_1 fun e27_2 w27_2 =>
  ∃ n27_2 : Int, e27_2 = .returned (.int .i64 n27_2) ∧ InK .i64 (1 + n27_2) ∧ ((0 : Int) ≤ (1 + n27_2) ∧ (1 + n27_2) ≤ (24 : Int)) ∧ ((0 : Int) ≤ 1 ∧ 1 ≤ (1 + n27_2)) ∧ Does Tryz.prog 60 #[.slice (subp (some ⟨b5_1, 0, none⟩) ((1 : Int).toNat) 24 1) (((1 + n27_2).toNat) - ((1 : Int).toNat)) (24 - ((1 : Int).toNat)), .int .u64 (IntKind.wrap .u64 (0 - (IntKind.wrap .u64 (a0))))] w27_2 fun e32_2 w32_2 =>
  e32_2 = .returned (.tuple #[]) ∧ Br (decide (a0 < 0))
  (((0 : Int) ≤ 0 ∧ 0 < ((24 : Nat) : Int)) ∧ CanStore w32_2 b5_1 (0 + (0 : Int).toNat) ∧ ∀ ws_2, Stored w32_2 b5_1 (0 + (0 : Int).toNat) (.int .u8 45) ws_2 →
  InK .i64 (1 + n27_2) ∧ ((0 : Int) ≤ (1 + n27_2) ∧ (1 + n27_2) ≤ (24 : Int)) ∧ ∃ s39_2 : ByteArray, ∃ w39_2, (convert 50 9 (.slice (subp (some ⟨b5_1, 0, none⟩) 0 24 1) (((1 + n27_2).toNat) - 0) (24 - 0))).run Tryz.prog ws_2 = .ok (.string s39_2) w39_2 ∧ R (.returned (.string s39_2)) w39_2)
  (InK .i64 (1 + n27_2) ∧ ((0 : Int) ≤ (1 + n27_2) ∧ (1 + n27_2) ≤ (24 : Int)) ∧ ((0 : Int) ≤ 1 ∧ 1 ≤ (1 + n27_2)) ∧ ∃ s43_2 : ByteArray, ∃ w43_2, (convert 50 9 (.slice (subp (some ⟨b5_1, 0, none⟩) ((1 : Int).toNat) 24 1) (((1 + n27_2).toNat) - ((1 : Int).toNat)) (24 - ((1 : Int).toNat)))).run Tryz.prog w32_2 = .ok (.string s43_2) w43_2 ∧ R (.returned (.string s43_2)) w43_2))
  (Does Tryz.prog 59 #[.int .u64 (IntKind.wrap .u64 (a0))] w5_1 fun e27_3 w27_3 =>
  ∃ n27_3 : Int, e27_3 = .returned (.int .i64 n27_3) ∧ InK .i64 (1 + n27_3) ∧ ((0 : Int) ≤ (1 + n27_3) ∧ (1 + n27_3) ≤ (24 : Int)) ∧ ((0 : Int) ≤ 1 ∧ 1 ≤ (1 + n27_3)) ∧ Does Tryz.prog 60 #[.slice (subp (some ⟨b5_1, 0, none⟩) ((1 : Int).toNat) 24 1) (((1 + n27_3).toNat) - ((1 : Int).toNat)) (24 - ((1 : Int).toNat)), .int .u64 (IntKind.wrap .u64 (a0))] w27_3 fun e32_3 w32_3 =>
  e32_3 = .returned (.tuple #[]) ∧ Br (decide (a0 < 0))
  (((0 : Int) ≤ 0 ∧ 0 < ((24 : Nat) : Int)) ∧ CanStore w32_3 b5_1 (0 + (0 : Int).toNat) ∧ ∀ ws_3, Stored w32_3 b5_1 (0 + (0 : Int).toNat) (.int .u8 45) ws_3 →
  InK .i64 (1 + n27_3) ∧ ((0 : Int) ≤ (1 + n27_3) ∧ (1 + n27_3) ≤ (24 : Int)) ∧ ∃ s39_3 : ByteArray, ∃ w39_3, (convert 50 9 (.slice (subp (some ⟨b5_1, 0, none⟩) 0 24 1) (((1 + n27_3).toNat) - 0) (24 - 0))).run Tryz.prog ws_3 = .ok (.string s39_3) w39_3 ∧ R (.returned (.string s39_3)) w39_3)
  (InK .i64 (1 + n27_3) ∧ ((0 : Int) ≤ (1 + n27_3) ∧ (1 + n27_3) ≤ (24 : Int)) ∧ ((0 : Int) ≤ 1 ∧ 1 ≤ (1 + n27_3)) ∧ ∃ s43_3 : ByteArray, ∃ w43_3, (convert 50 9 (.slice (subp (some ⟨b5_1, 0, none⟩) ((1 : Int).toNat) 24 1) (((1 + n27_3).toNat) - ((1 : Int).toNat)) (24 - ((1 : Int).toNat)))).run Tryz.prog w32_3 = .ok (.string s43_3) w43_3 ∧ R (.returned (.string s43_3)) w43_3))))
  (Does Tryz.prog 61 #[.slice none 0 0, .int .u64 (IntKind.wrap .u64 (a0)), .int .i64 a1, .bool (decide (a0 < 0)), .bool false] w fun e50 w50 =>
  ∃ (p50 : Option Addr) (l50 c50 : Nat), ∃ s50 : ByteArray, e50 = .returned (.tuple #[.slice p50 l50 c50, .string s50]) ∧ R (.returned (.string s50)) w50)
def f41_ann : Ann := { loops := [], cuts := [], flip := [], throws := [] }
theorem f41_eq (a0 : Int) (a1 : Int) (w : World) (R : Ending → World → Prop) : vc Tryz.prog f41_ann (bodyOf Tryz.f41) (retQ Tryz.prog Tryz.f41 R) (envOf Tryz.f41.ntmps [.v (.int .i64 a0), .v (.int .i64 a1)]) [] w = f41_vc a0 a1 w R := by kernel_rfl
theorem f41_does (a0 : Int) (a1 : Int) {w : World} {R : Ending → World → Prop} (h : f41_vc a0 a1 w R) : Does Tryz.prog 41 #[.int .i64 a0, .int .i64 a1] w R :=
  does_of_vc (ss := [.v (.int .i64 a0), .v (.int .i64 a1)]) f41_ann mixed call41 Tryz.func41 rfl rfl (show 2 ≤ Tryz.f41.ntmps by decide) ((f41_eq a0 a1 w R).symm ▸ h)
/-- Of math.Frexp (function 42): the condition. -/
def f42_vc (a0 : Nat) (w : World) (R : Ending → World → Prop) : Prop :=
  Does Tryz.prog 63 #[.float .f64 a0] w fun e9 w9 =>
  ∃ f9 : Nat, ∃ n9 : Int, e9 = .returned (.tuple #[.float .f64 f9, .int .i64 n9]) ∧ R (.returned (.tuple #[.float .f64 f9, .int .i64 n9])) w9
def f42_ann : Ann := { loops := [], cuts := [], flip := [], throws := [] }
theorem f42_eq (a0 : Nat) (w : World) (R : Ending → World → Prop) : vc Tryz.prog f42_ann (bodyOf Tryz.f42) (retQ Tryz.prog Tryz.f42 R) (envOf Tryz.f42.ntmps [.v (.float .f64 a0)]) [] w = f42_vc a0 w R := by kernel_rfl
theorem f42_does (a0 : Nat) {w : World} {R : Ending → World → Prop} (h : f42_vc a0 w R) : Does Tryz.prog 42 #[.float .f64 a0] w R :=
  does_of_vc (ss := [.v (.float .f64 a0)]) f42_ann mixed call42 Tryz.func42 rfl rfl (show 1 ≤ Tryz.f42.ntmps by decide) ((f42_eq a0 w R).symm ▸ h)
/-- Of strconv.FormatUint (function 43): the condition. -/
def f43_vc (a0 : Int) (a1 : Int) (w : World) (R : Ending → World → Prop) : Prop :=
  Does Tryz.prog 64 #[.int .u64 a0, .int .i64 a1] w fun e7 w7 =>
  ∃ s7 : ByteArray, e7 = .returned (.string s7) ∧ R (.returned (.string s7)) w7
def f43_ann : Ann := { loops := [], cuts := [], flip := [], throws := [] }
theorem f43_eq (a0 : Int) (a1 : Int) (w : World) (R : Ending → World → Prop) : vc Tryz.prog f43_ann (bodyOf Tryz.f43) (retQ Tryz.prog Tryz.f43 R) (envOf Tryz.f43.ntmps [.v (.int .u64 a0), .v (.int .i64 a1)]) [] w = f43_vc a0 a1 w R := by kernel_rfl
theorem f43_does (a0 : Int) (a1 : Int) {w : World} {R : Ending → World → Prop} (h : f43_vc a0 a1 w R) : Does Tryz.prog 43 #[.int .u64 a0, .int .i64 a1] w R :=
  does_of_vc (ss := [.v (.int .u64 a0), .v (.int .i64 a1)]) f43_ann mixed call43 Tryz.func43 rfl rfl (show 2 ≤ Tryz.f43.ntmps by decide) ((f43_eq a0 a1 w R).symm ▸ h)
/-- Of strings.Repeat (function 45): the condition. -/
def f45_vc (a0 : ByteArray) (a1 : Int) (w : World) (R : Ending → World → Prop) : Prop :=
  Br (a1 == 0)
  (R (.returned (.string (({ data := #[] } : ByteArray)))) w)
  (Br (a1 == 1)
  (R (.returned (.string a0)) w)
  (Br (decide (a1 < 0))
  (R (.panicked [{ v := .iface 9 (.string (({ data := #[115, 116, 114, 105, 110, 103, 115, 58, 32, 110, 101, 103, 97, 116, 105, 118, 101, 32, 82, 101, 112, 101, 97, 116, 32, 99, 111, 117, 110, 116] } : ByteArray))), recovered := false }]) w)
  (Does Tryz.prog 69 #[.int .u64 (IntKind.wrap .u64 ((a0.size : Int))), .int .u64 (IntKind.wrap .u64 (a1))] w fun e26 w26 =>
  ∃ n26 : Int, ∃ n26_1 : Int, e26 = .returned (.tuple #[.int .u64 n26, .int .u64 n26_1]) ∧ Br (decide (n26 > 0))
  (R (.panicked [{ v := .iface 9 (.string (({ data := #[115, 116, 114, 105, 110, 103, 115, 58, 32, 82, 101, 112, 101, 97, 116, 32, 111, 117, 116, 112, 117, 116, 32, 108, 101, 110, 103, 116, 104, 32, 111, 118, 101, 114, 102, 108, 111, 119] } : ByteArray))), recovered := false }]) w26)
  (Br (decide (n26_1 > 9223372036854775807))
  (R (.panicked [{ v := .iface 9 (.string (({ data := #[115, 116, 114, 105, 110, 103, 115, 58, 32, 82, 101, 112, 101, 97, 116, 32, 111, 117, 116, 112, 117, 116, 32, 108, 101, 110, 103, 116, 104, 32, 111, 118, 101, 114, 102, 108, 111, 119] } : ByteArray))), recovered := false }]) w26)
  (InK .i64 (n26_1) ∧ Br (((a0.size : Int)) == 0)
  (R (.returned (.string (({ data := #[] } : ByteArray)))) w26)
  (∃ J30 : Nat → World → Prop, (((0 : Int) ≤ 0 ∧ 0 < (a0.size : Int)) ∧ Br ((sb a0 0) == 32)
  (Br (decide (n26_1 ≤ 128))
  (Does Tryz.prog 28 #[.string txt128_32_32, .string a0] w26 fun e54 w54 =>
  ∃ b54 : Bool, e54 = .returned (.bool b54) ∧ Br b54
  (((0 : Int) ≤ n26_1 ∧ n26_1 ≤ (txt128_32_32.size : Int)) ∧ R (.returned (.string (txt128_32_32.extract 0 ((n26_1).toNat)))) w54)
  (Br (decide (n26_1 ≤ 128))
  (Does Tryz.prog 28 #[.string txt128_45_45, .string a0] w54 fun e63 w63 =>
  ∃ b63 : Bool, e63 = .returned (.bool b63) ∧ Br b63
  (((0 : Int) ≤ n26_1 ∧ n26_1 ≤ (txt128_45_45.size : Int)) ∧ R (.returned (.string (txt128_45_45.extract 0 ((n26_1).toNat)))) w63)
  (Br (decide (n26_1 ≤ 64))
  (Does Tryz.prog 28 #[.string txt64_48_48, .string a0] w63 fun e72 w72 =>
  ∃ b72 : Bool, e72 = .returned (.bool b72) ∧ Br b72
  (((0 : Int) ≤ n26_1 ∧ n26_1 ≤ (txt64_48_48.size : Int)) ∧ R (.returned (.string (txt64_48_48.extract 0 ((n26_1).toNat)))) w72)
  (Br (decide (n26_1 ≤ 128))
  (Does Tryz.prog 28 #[.string txt128_61_61, .string a0] w72 fun e81 w81 =>
  ∃ b81 : Bool, e81 = .returned (.bool b81) ∧ Br b81
  (((0 : Int) ≤ n26_1 ∧ n26_1 ≤ (txt128_61_61.size : Int)) ∧ R (.returned (.string (txt128_61_61.extract 0 ((n26_1).toNat)))) w81)
  (Br (decide (n26_1 ≤ 64))
  (Does Tryz.prog 28 #[.string txt64_9_9, .string a0] w81 fun e90 w90 =>
  ∃ b90 : Bool, e90 = .returned (.bool b90) ∧ Br b90
  (((0 : Int) ≤ n26_1 ∧ n26_1 ≤ (txt64_9_9.size : Int)) ∧ R (.returned (.string (txt64_9_9.extract 0 ((n26_1).toNat)))) w90)
  (∃ nc30, J30  nc30 w90))
  (∃ nc30, J30  nc30 w81)))
  (Br (decide (n26_1 ≤ 64))
  (Does Tryz.prog 28 #[.string txt64_9_9, .string a0] w72 fun e90_1 w90_1 =>
  ∃ b90_1 : Bool, e90_1 = .returned (.bool b90_1) ∧ Br b90_1
  (((0 : Int) ≤ n26_1 ∧ n26_1 ≤ (txt64_9_9.size : Int)) ∧ R (.returned (.string (txt64_9_9.extract 0 ((n26_1).toNat)))) w90_1)
  (∃ nc30, J30  nc30 w90_1))
  (∃ nc30, J30  nc30 w72))))
  (Br (decide (n26_1 ≤ 128))
  (Does Tryz.prog 28 #[.string txt128_61_61, .string a0] w63 fun e81_1 w81_1 =>
  ∃ b81_1 : Bool, e81_1 = .returned (.bool b81_1) ∧ Br b81_1
  (((0 : Int) ≤ n26_1 ∧ n26_1 ≤ (txt128_61_61.size : Int)) ∧ R (.returned (.string (txt128_61_61.extract 0 ((n26_1).toNat)))) w81_1)
  (Br (decide (n26_1 ≤ 64))
  (Does Tryz.prog 28 #[.string txt64_9_9, .string a0] w81_1 fun e90_2 w90_2 =>
  ∃ b90_2 : Bool, e90_2 = .returned (.bool b90_2) ∧ Br b90_2
  (((0 : Int) ≤ n26_1 ∧ n26_1 ≤ (txt64_9_9.size : Int)) ∧ R (.returned (.string (txt64_9_9.extract 0 ((n26_1).toNat)))) w90_2)
  (∃ nc30, J30  nc30 w90_2))
  (∃ nc30, J30  nc30 w81_1)))
  (Br (decide (n26_1 ≤ 64))
  (Does Tryz.prog 28 #[.string txt64_9_9, .string a0] w63 fun e90_3 w90_3 =>
  ∃ b90_3 : Bool, e90_3 = .returned (.bool b90_3) ∧ Br b90_3
  (((0 : Int) ≤ n26_1 ∧ n26_1 ≤ (txt64_9_9.size : Int)) ∧ R (.returned (.string (txt64_9_9.extract 0 ((n26_1).toNat)))) w90_3)
  (∃ nc30, J30  nc30 w90_3))
  (∃ nc30, J30  nc30 w63)))))
  (Br (decide (n26_1 ≤ 64))
  (Does Tryz.prog 28 #[.string txt64_48_48, .string a0] w54 fun e72_1 w72_1 =>
  ∃ b72_1 : Bool, e72_1 = .returned (.bool b72_1) ∧ Br b72_1
  (((0 : Int) ≤ n26_1 ∧ n26_1 ≤ (txt64_48_48.size : Int)) ∧ R (.returned (.string (txt64_48_48.extract 0 ((n26_1).toNat)))) w72_1)
  (Br (decide (n26_1 ≤ 128))
  (Does Tryz.prog 28 #[.string txt128_61_61, .string a0] w72_1 fun e81_2 w81_2 =>
  ∃ b81_2 : Bool, e81_2 = .returned (.bool b81_2) ∧ Br b81_2
  (((0 : Int) ≤ n26_1 ∧ n26_1 ≤ (txt128_61_61.size : Int)) ∧ R (.returned (.string (txt128_61_61.extract 0 ((n26_1).toNat)))) w81_2)
  (Br (decide (n26_1 ≤ 64))
  (Does Tryz.prog 28 #[.string txt64_9_9, .string a0] w81_2 fun e90_4 w90_4 =>
  ∃ b90_4 : Bool, e90_4 = .returned (.bool b90_4) ∧ Br b90_4
  (((0 : Int) ≤ n26_1 ∧ n26_1 ≤ (txt64_9_9.size : Int)) ∧ R (.returned (.string (txt64_9_9.extract 0 ((n26_1).toNat)))) w90_4)
  (∃ nc30, J30  nc30 w90_4))
  (∃ nc30, J30  nc30 w81_2)))
  (Br (decide (n26_1 ≤ 64))
  (Does Tryz.prog 28 #[.string txt64_9_9, .string a0] w72_1 fun e90_5 w90_5 =>
  ∃ b90_5 : Bool, e90_5 = .returned (.bool b90_5) ∧ Br b90_5
  (((0 : Int) ≤ n26_1 ∧ n26_1 ≤ (txt64_9_9.size : Int)) ∧ R (.returned (.string (txt64_9_9.extract 0 ((n26_1).toNat)))) w90_5)
  (∃ nc30, J30  nc30 w90_5))
  (∃ nc30, J30  nc30 w72_1))))
  (Br (decide (n26_1 ≤ 128))
  (Does Tryz.prog 28 #[.string txt128_61_61, .string a0] w54 fun e81_3 w81_3 =>
  ∃ b81_3 : Bool, e81_3 = .returned (.bool b81_3) ∧ Br b81_3
  (((0 : Int) ≤ n26_1 ∧ n26_1 ≤ (txt128_61_61.size : Int)) ∧ R (.returned (.string (txt128_61_61.extract 0 ((n26_1).toNat)))) w81_3)
  (Br (decide (n26_1 ≤ 64))
  (Does Tryz.prog 28 #[.string txt64_9_9, .string a0] w81_3 fun e90_6 w90_6 =>
  ∃ b90_6 : Bool, e90_6 = .returned (.bool b90_6) ∧ Br b90_6
  (((0 : Int) ≤ n26_1 ∧ n26_1 ≤ (txt64_9_9.size : Int)) ∧ R (.returned (.string (txt64_9_9.extract 0 ((n26_1).toNat)))) w90_6)
  (∃ nc30, J30  nc30 w90_6))
  (∃ nc30, J30  nc30 w81_3)))
  (Br (decide (n26_1 ≤ 64))
  (Does Tryz.prog 28 #[.string txt64_9_9, .string a0] w54 fun e90_7 w90_7 =>
  ∃ b90_7 : Bool, e90_7 = .returned (.bool b90_7) ∧ Br b90_7
  (((0 : Int) ≤ n26_1 ∧ n26_1 ≤ (txt64_9_9.size : Int)) ∧ R (.returned (.string (txt64_9_9.extract 0 ((n26_1).toNat)))) w90_7)
  (∃ nc30, J30  nc30 w90_7))
  (∃ nc30, J30  nc30 w54))))))
  (Br (decide (n26_1 ≤ 128))
  (Does Tryz.prog 28 #[.string txt128_45_45, .string a0] w26 fun e63_1 w63_1 =>
  ∃ b63_1 : Bool, e63_1 = .returned (.bool b63_1) ∧ Br b63_1
  (((0 : Int) ≤ n26_1 ∧ n26_1 ≤ (txt128_45_45.size : Int)) ∧ R (.returned (.string (txt128_45_45.extract 0 ((n26_1).toNat)))) w63_1)
  (Br (decide (n26_1 ≤ 64))
  (Does Tryz.prog 28 #[.string txt64_48_48, .string a0] w63_1 fun e72_2 w72_2 =>
  ∃ b72_2 : Bool, e72_2 = .returned (.bool b72_2) ∧ Br b72_2
  (((0 : Int) ≤ n26_1 ∧ n26_1 ≤ (txt64_48_48.size : Int)) ∧ R (.returned (.string (txt64_48_48.extract 0 ((n26_1).toNat)))) w72_2)
  (Br (decide (n26_1 ≤ 128))
  (Does Tryz.prog 28 #[.string txt128_61_61, .string a0] w72_2 fun e81_4 w81_4 =>
  ∃ b81_4 : Bool, e81_4 = .returned (.bool b81_4) ∧ Br b81_4
  (((0 : Int) ≤ n26_1 ∧ n26_1 ≤ (txt128_61_61.size : Int)) ∧ R (.returned (.string (txt128_61_61.extract 0 ((n26_1).toNat)))) w81_4)
  (Br (decide (n26_1 ≤ 64))
  (Does Tryz.prog 28 #[.string txt64_9_9, .string a0] w81_4 fun e90_8 w90_8 =>
  ∃ b90_8 : Bool, e90_8 = .returned (.bool b90_8) ∧ Br b90_8
  (((0 : Int) ≤ n26_1 ∧ n26_1 ≤ (txt64_9_9.size : Int)) ∧ R (.returned (.string (txt64_9_9.extract 0 ((n26_1).toNat)))) w90_8)
  (∃ nc30, J30  nc30 w90_8))
  (∃ nc30, J30  nc30 w81_4)))
  (Br (decide (n26_1 ≤ 64))
  (Does Tryz.prog 28 #[.string txt64_9_9, .string a0] w72_2 fun e90_9 w90_9 =>
  ∃ b90_9 : Bool, e90_9 = .returned (.bool b90_9) ∧ Br b90_9
  (((0 : Int) ≤ n26_1 ∧ n26_1 ≤ (txt64_9_9.size : Int)) ∧ R (.returned (.string (txt64_9_9.extract 0 ((n26_1).toNat)))) w90_9)
  (∃ nc30, J30  nc30 w90_9))
  (∃ nc30, J30  nc30 w72_2))))
  (Br (decide (n26_1 ≤ 128))
  (Does Tryz.prog 28 #[.string txt128_61_61, .string a0] w63_1 fun e81_5 w81_5 =>
  ∃ b81_5 : Bool, e81_5 = .returned (.bool b81_5) ∧ Br b81_5
  (((0 : Int) ≤ n26_1 ∧ n26_1 ≤ (txt128_61_61.size : Int)) ∧ R (.returned (.string (txt128_61_61.extract 0 ((n26_1).toNat)))) w81_5)
  (Br (decide (n26_1 ≤ 64))
  (Does Tryz.prog 28 #[.string txt64_9_9, .string a0] w81_5 fun e90_10 w90_10 =>
  ∃ b90_10 : Bool, e90_10 = .returned (.bool b90_10) ∧ Br b90_10
  (((0 : Int) ≤ n26_1 ∧ n26_1 ≤ (txt64_9_9.size : Int)) ∧ R (.returned (.string (txt64_9_9.extract 0 ((n26_1).toNat)))) w90_10)
  (∃ nc30, J30  nc30 w90_10))
  (∃ nc30, J30  nc30 w81_5)))
  (Br (decide (n26_1 ≤ 64))
  (Does Tryz.prog 28 #[.string txt64_9_9, .string a0] w63_1 fun e90_11 w90_11 =>
  ∃ b90_11 : Bool, e90_11 = .returned (.bool b90_11) ∧ Br b90_11
  (((0 : Int) ≤ n26_1 ∧ n26_1 ≤ (txt64_9_9.size : Int)) ∧ R (.returned (.string (txt64_9_9.extract 0 ((n26_1).toNat)))) w90_11)
  (∃ nc30, J30  nc30 w90_11))
  (∃ nc30, J30  nc30 w63_1)))))
  (Br (decide (n26_1 ≤ 64))
  (Does Tryz.prog 28 #[.string txt64_48_48, .string a0] w26 fun e72_3 w72_3 =>
  ∃ b72_3 : Bool, e72_3 = .returned (.bool b72_3) ∧ Br b72_3
  (((0 : Int) ≤ n26_1 ∧ n26_1 ≤ (txt64_48_48.size : Int)) ∧ R (.returned (.string (txt64_48_48.extract 0 ((n26_1).toNat)))) w72_3)
  (Br (decide (n26_1 ≤ 128))
  (Does Tryz.prog 28 #[.string txt128_61_61, .string a0] w72_3 fun e81_6 w81_6 =>
  ∃ b81_6 : Bool, e81_6 = .returned (.bool b81_6) ∧ Br b81_6
  (((0 : Int) ≤ n26_1 ∧ n26_1 ≤ (txt128_61_61.size : Int)) ∧ R (.returned (.string (txt128_61_61.extract 0 ((n26_1).toNat)))) w81_6)
  (Br (decide (n26_1 ≤ 64))
  (Does Tryz.prog 28 #[.string txt64_9_9, .string a0] w81_6 fun e90_12 w90_12 =>
  ∃ b90_12 : Bool, e90_12 = .returned (.bool b90_12) ∧ Br b90_12
  (((0 : Int) ≤ n26_1 ∧ n26_1 ≤ (txt64_9_9.size : Int)) ∧ R (.returned (.string (txt64_9_9.extract 0 ((n26_1).toNat)))) w90_12)
  (∃ nc30, J30  nc30 w90_12))
  (∃ nc30, J30  nc30 w81_6)))
  (Br (decide (n26_1 ≤ 64))
  (Does Tryz.prog 28 #[.string txt64_9_9, .string a0] w72_3 fun e90_13 w90_13 =>
  ∃ b90_13 : Bool, e90_13 = .returned (.bool b90_13) ∧ Br b90_13
  (((0 : Int) ≤ n26_1 ∧ n26_1 ≤ (txt64_9_9.size : Int)) ∧ R (.returned (.string (txt64_9_9.extract 0 ((n26_1).toNat)))) w90_13)
  (∃ nc30, J30  nc30 w90_13))
  (∃ nc30, J30  nc30 w72_3))))
  (Br (decide (n26_1 ≤ 128))
  (Does Tryz.prog 28 #[.string txt128_61_61, .string a0] w26 fun e81_7 w81_7 =>
  ∃ b81_7 : Bool, e81_7 = .returned (.bool b81_7) ∧ Br b81_7
  (((0 : Int) ≤ n26_1 ∧ n26_1 ≤ (txt128_61_61.size : Int)) ∧ R (.returned (.string (txt128_61_61.extract 0 ((n26_1).toNat)))) w81_7)
  (Br (decide (n26_1 ≤ 64))
  (Does Tryz.prog 28 #[.string txt64_9_9, .string a0] w81_7 fun e90_14 w90_14 =>
  ∃ b90_14 : Bool, e90_14 = .returned (.bool b90_14) ∧ Br b90_14
  (((0 : Int) ≤ n26_1 ∧ n26_1 ≤ (txt64_9_9.size : Int)) ∧ R (.returned (.string (txt64_9_9.extract 0 ((n26_1).toNat)))) w90_14)
  (∃ nc30, J30  nc30 w90_14))
  (∃ nc30, J30  nc30 w81_7)))
  (Br (decide (n26_1 ≤ 64))
  (Does Tryz.prog 28 #[.string txt64_9_9, .string a0] w26 fun e90_15 w90_15 =>
  ∃ b90_15 : Bool, e90_15 = .returned (.bool b90_15) ∧ Br b90_15
  (((0 : Int) ≤ n26_1 ∧ n26_1 ≤ (txt64_9_9.size : Int)) ∧ R (.returned (.string (txt64_9_9.extract 0 ((n26_1).toNat)))) w90_15)
  (∃ nc30, J30  nc30 w90_15))
  (∃ nc30, J30  nc30 w26))))))
  (Br ((sb a0 0) == 45)
  (Br (decide (n26_1 ≤ 128))
  (Does Tryz.prog 28 #[.string txt128_32_32, .string a0] w26 fun e54_1 w54_1 =>
  ∃ b54_1 : Bool, e54_1 = .returned (.bool b54_1) ∧ Br b54_1
  (((0 : Int) ≤ n26_1 ∧ n26_1 ≤ (txt128_32_32.size : Int)) ∧ R (.returned (.string (txt128_32_32.extract 0 ((n26_1).toNat)))) w54_1)
  (Br (decide (n26_1 ≤ 128))
  (Does Tryz.prog 28 #[.string txt128_45_45, .string a0] w54_1 fun e63_2 w63_2 =>
  ∃ b63_2 : Bool, e63_2 = .returned (.bool b63_2) ∧ Br b63_2
  (((0 : Int) ≤ n26_1 ∧ n26_1 ≤ (txt128_45_45.size : Int)) ∧ R (.returned (.string (txt128_45_45.extract 0 ((n26_1).toNat)))) w63_2)
  (Br (decide (n26_1 ≤ 64))
  (Does Tryz.prog 28 #[.string txt64_48_48, .string a0] w63_2 fun e72_4 w72_4 =>
  ∃ b72_4 : Bool, e72_4 = .returned (.bool b72_4) ∧ Br b72_4
  (((0 : Int) ≤ n26_1 ∧ n26_1 ≤ (txt64_48_48.size : Int)) ∧ R (.returned (.string (txt64_48_48.extract 0 ((n26_1).toNat)))) w72_4)
  (Br (decide (n26_1 ≤ 128))
  (Does Tryz.prog 28 #[.string txt128_61_61, .string a0] w72_4 fun e81_8 w81_8 =>
  ∃ b81_8 : Bool, e81_8 = .returned (.bool b81_8) ∧ Br b81_8
  (((0 : Int) ≤ n26_1 ∧ n26_1 ≤ (txt128_61_61.size : Int)) ∧ R (.returned (.string (txt128_61_61.extract 0 ((n26_1).toNat)))) w81_8)
  (Br (decide (n26_1 ≤ 64))
  (Does Tryz.prog 28 #[.string txt64_9_9, .string a0] w81_8 fun e90_16 w90_16 =>
  ∃ b90_16 : Bool, e90_16 = .returned (.bool b90_16) ∧ Br b90_16
  (((0 : Int) ≤ n26_1 ∧ n26_1 ≤ (txt64_9_9.size : Int)) ∧ R (.returned (.string (txt64_9_9.extract 0 ((n26_1).toNat)))) w90_16)
  (∃ nc30, J30  nc30 w90_16))
  (∃ nc30, J30  nc30 w81_8)))
  (Br (decide (n26_1 ≤ 64))
  (Does Tryz.prog 28 #[.string txt64_9_9, .string a0] w72_4 fun e90_17 w90_17 =>
  ∃ b90_17 : Bool, e90_17 = .returned (.bool b90_17) ∧ Br b90_17
  (((0 : Int) ≤ n26_1 ∧ n26_1 ≤ (txt64_9_9.size : Int)) ∧ R (.returned (.string (txt64_9_9.extract 0 ((n26_1).toNat)))) w90_17)
  (∃ nc30, J30  nc30 w90_17))
  (∃ nc30, J30  nc30 w72_4))))
  (Br (decide (n26_1 ≤ 128))
  (Does Tryz.prog 28 #[.string txt128_61_61, .string a0] w63_2 fun e81_9 w81_9 =>
  ∃ b81_9 : Bool, e81_9 = .returned (.bool b81_9) ∧ Br b81_9
  (((0 : Int) ≤ n26_1 ∧ n26_1 ≤ (txt128_61_61.size : Int)) ∧ R (.returned (.string (txt128_61_61.extract 0 ((n26_1).toNat)))) w81_9)
  (Br (decide (n26_1 ≤ 64))
  (Does Tryz.prog 28 #[.string txt64_9_9, .string a0] w81_9 fun e90_18 w90_18 =>
  ∃ b90_18 : Bool, e90_18 = .returned (.bool b90_18) ∧ Br b90_18
  (((0 : Int) ≤ n26_1 ∧ n26_1 ≤ (txt64_9_9.size : Int)) ∧ R (.returned (.string (txt64_9_9.extract 0 ((n26_1).toNat)))) w90_18)
  (∃ nc30, J30  nc30 w90_18))
  (∃ nc30, J30  nc30 w81_9)))
  (Br (decide (n26_1 ≤ 64))
  (Does Tryz.prog 28 #[.string txt64_9_9, .string a0] w63_2 fun e90_19 w90_19 =>
  ∃ b90_19 : Bool, e90_19 = .returned (.bool b90_19) ∧ Br b90_19
  (((0 : Int) ≤ n26_1 ∧ n26_1 ≤ (txt64_9_9.size : Int)) ∧ R (.returned (.string (txt64_9_9.extract 0 ((n26_1).toNat)))) w90_19)
  (∃ nc30, J30  nc30 w90_19))
  (∃ nc30, J30  nc30 w63_2)))))
  (Br (decide (n26_1 ≤ 64))
  (Does Tryz.prog 28 #[.string txt64_48_48, .string a0] w54_1 fun e72_5 w72_5 =>
  ∃ b72_5 : Bool, e72_5 = .returned (.bool b72_5) ∧ Br b72_5
  (((0 : Int) ≤ n26_1 ∧ n26_1 ≤ (txt64_48_48.size : Int)) ∧ R (.returned (.string (txt64_48_48.extract 0 ((n26_1).toNat)))) w72_5)
  (Br (decide (n26_1 ≤ 128))
  (Does Tryz.prog 28 #[.string txt128_61_61, .string a0] w72_5 fun e81_10 w81_10 =>
  ∃ b81_10 : Bool, e81_10 = .returned (.bool b81_10) ∧ Br b81_10
  (((0 : Int) ≤ n26_1 ∧ n26_1 ≤ (txt128_61_61.size : Int)) ∧ R (.returned (.string (txt128_61_61.extract 0 ((n26_1).toNat)))) w81_10)
  (Br (decide (n26_1 ≤ 64))
  (Does Tryz.prog 28 #[.string txt64_9_9, .string a0] w81_10 fun e90_20 w90_20 =>
  ∃ b90_20 : Bool, e90_20 = .returned (.bool b90_20) ∧ Br b90_20
  (((0 : Int) ≤ n26_1 ∧ n26_1 ≤ (txt64_9_9.size : Int)) ∧ R (.returned (.string (txt64_9_9.extract 0 ((n26_1).toNat)))) w90_20)
  (∃ nc30, J30  nc30 w90_20))
  (∃ nc30, J30  nc30 w81_10)))
  (Br (decide (n26_1 ≤ 64))
  (Does Tryz.prog 28 #[.string txt64_9_9, .string a0] w72_5 fun e90_21 w90_21 =>
  ∃ b90_21 : Bool, e90_21 = .returned (.bool b90_21) ∧ Br b90_21
  (((0 : Int) ≤ n26_1 ∧ n26_1 ≤ (txt64_9_9.size : Int)) ∧ R (.returned (.string (txt64_9_9.extract 0 ((n26_1).toNat)))) w90_21)
  (∃ nc30, J30  nc30 w90_21))
  (∃ nc30, J30  nc30 w72_5))))
  (Br (decide (n26_1 ≤ 128))
  (Does Tryz.prog 28 #[.string txt128_61_61, .string a0] w54_1 fun e81_11 w81_11 =>
  ∃ b81_11 : Bool, e81_11 = .returned (.bool b81_11) ∧ Br b81_11
  (((0 : Int) ≤ n26_1 ∧ n26_1 ≤ (txt128_61_61.size : Int)) ∧ R (.returned (.string (txt128_61_61.extract 0 ((n26_1).toNat)))) w81_11)
  (Br (decide (n26_1 ≤ 64))
  (Does Tryz.prog 28 #[.string txt64_9_9, .string a0] w81_11 fun e90_22 w90_22 =>
  ∃ b90_22 : Bool, e90_22 = .returned (.bool b90_22) ∧ Br b90_22
  (((0 : Int) ≤ n26_1 ∧ n26_1 ≤ (txt64_9_9.size : Int)) ∧ R (.returned (.string (txt64_9_9.extract 0 ((n26_1).toNat)))) w90_22)
  (∃ nc30, J30  nc30 w90_22))
  (∃ nc30, J30  nc30 w81_11)))
  (Br (decide (n26_1 ≤ 64))
  (Does Tryz.prog 28 #[.string txt64_9_9, .string a0] w54_1 fun e90_23 w90_23 =>
  ∃ b90_23 : Bool, e90_23 = .returned (.bool b90_23) ∧ Br b90_23
  (((0 : Int) ≤ n26_1 ∧ n26_1 ≤ (txt64_9_9.size : Int)) ∧ R (.returned (.string (txt64_9_9.extract 0 ((n26_1).toNat)))) w90_23)
  (∃ nc30, J30  nc30 w90_23))
  (∃ nc30, J30  nc30 w54_1))))))
  (Br (decide (n26_1 ≤ 128))
  (Does Tryz.prog 28 #[.string txt128_45_45, .string a0] w26 fun e63_3 w63_3 =>
  ∃ b63_3 : Bool, e63_3 = .returned (.bool b63_3) ∧ Br b63_3
  (((0 : Int) ≤ n26_1 ∧ n26_1 ≤ (txt128_45_45.size : Int)) ∧ R (.returned (.string (txt128_45_45.extract 0 ((n26_1).toNat)))) w63_3)
  (Br (decide (n26_1 ≤ 64))
  (Does Tryz.prog 28 #[.string txt64_48_48, .string a0] w63_3 fun e72_6 w72_6 =>
  ∃ b72_6 : Bool, e72_6 = .returned (.bool b72_6) ∧ Br b72_6
  (((0 : Int) ≤ n26_1 ∧ n26_1 ≤ (txt64_48_48.size : Int)) ∧ R (.returned (.string (txt64_48_48.extract 0 ((n26_1).toNat)))) w72_6)
  (Br (decide (n26_1 ≤ 128))
  (Does Tryz.prog 28 #[.string txt128_61_61, .string a0] w72_6 fun e81_12 w81_12 =>
  ∃ b81_12 : Bool, e81_12 = .returned (.bool b81_12) ∧ Br b81_12
  (((0 : Int) ≤ n26_1 ∧ n26_1 ≤ (txt128_61_61.size : Int)) ∧ R (.returned (.string (txt128_61_61.extract 0 ((n26_1).toNat)))) w81_12)
  (Br (decide (n26_1 ≤ 64))
  (Does Tryz.prog 28 #[.string txt64_9_9, .string a0] w81_12 fun e90_24 w90_24 =>
  ∃ b90_24 : Bool, e90_24 = .returned (.bool b90_24) ∧ Br b90_24
  (((0 : Int) ≤ n26_1 ∧ n26_1 ≤ (txt64_9_9.size : Int)) ∧ R (.returned (.string (txt64_9_9.extract 0 ((n26_1).toNat)))) w90_24)
  (∃ nc30, J30  nc30 w90_24))
  (∃ nc30, J30  nc30 w81_12)))
  (Br (decide (n26_1 ≤ 64))
  (Does Tryz.prog 28 #[.string txt64_9_9, .string a0] w72_6 fun e90_25 w90_25 =>
  ∃ b90_25 : Bool, e90_25 = .returned (.bool b90_25) ∧ Br b90_25
  (((0 : Int) ≤ n26_1 ∧ n26_1 ≤ (txt64_9_9.size : Int)) ∧ R (.returned (.string (txt64_9_9.extract 0 ((n26_1).toNat)))) w90_25)
  (∃ nc30, J30  nc30 w90_25))
  (∃ nc30, J30  nc30 w72_6))))
  (Br (decide (n26_1 ≤ 128))
  (Does Tryz.prog 28 #[.string txt128_61_61, .string a0] w63_3 fun e81_13 w81_13 =>
  ∃ b81_13 : Bool, e81_13 = .returned (.bool b81_13) ∧ Br b81_13
  (((0 : Int) ≤ n26_1 ∧ n26_1 ≤ (txt128_61_61.size : Int)) ∧ R (.returned (.string (txt128_61_61.extract 0 ((n26_1).toNat)))) w81_13)
  (Br (decide (n26_1 ≤ 64))
  (Does Tryz.prog 28 #[.string txt64_9_9, .string a0] w81_13 fun e90_26 w90_26 =>
  ∃ b90_26 : Bool, e90_26 = .returned (.bool b90_26) ∧ Br b90_26
  (((0 : Int) ≤ n26_1 ∧ n26_1 ≤ (txt64_9_9.size : Int)) ∧ R (.returned (.string (txt64_9_9.extract 0 ((n26_1).toNat)))) w90_26)
  (∃ nc30, J30  nc30 w90_26))
  (∃ nc30, J30  nc30 w81_13)))
  (Br (decide (n26_1 ≤ 64))
  (Does Tryz.prog 28 #[.string txt64_9_9, .string a0] w63_3 fun e90_27 w90_27 =>
  ∃ b90_27 : Bool, e90_27 = .returned (.bool b90_27) ∧ Br b90_27
  (((0 : Int) ≤ n26_1 ∧ n26_1 ≤ (txt64_9_9.size : Int)) ∧ R (.returned (.string (txt64_9_9.extract 0 ((n26_1).toNat)))) w90_27)
  (∃ nc30, J30  nc30 w90_27))
  (∃ nc30, J30  nc30 w63_3)))))
  (Br (decide (n26_1 ≤ 64))
  (Does Tryz.prog 28 #[.string txt64_48_48, .string a0] w26 fun e72_7 w72_7 =>
  ∃ b72_7 : Bool, e72_7 = .returned (.bool b72_7) ∧ Br b72_7
  (((0 : Int) ≤ n26_1 ∧ n26_1 ≤ (txt64_48_48.size : Int)) ∧ R (.returned (.string (txt64_48_48.extract 0 ((n26_1).toNat)))) w72_7)
  (Br (decide (n26_1 ≤ 128))
  (Does Tryz.prog 28 #[.string txt128_61_61, .string a0] w72_7 fun e81_14 w81_14 =>
  ∃ b81_14 : Bool, e81_14 = .returned (.bool b81_14) ∧ Br b81_14
  (((0 : Int) ≤ n26_1 ∧ n26_1 ≤ (txt128_61_61.size : Int)) ∧ R (.returned (.string (txt128_61_61.extract 0 ((n26_1).toNat)))) w81_14)
  (Br (decide (n26_1 ≤ 64))
  (Does Tryz.prog 28 #[.string txt64_9_9, .string a0] w81_14 fun e90_28 w90_28 =>
  ∃ b90_28 : Bool, e90_28 = .returned (.bool b90_28) ∧ Br b90_28
  (((0 : Int) ≤ n26_1 ∧ n26_1 ≤ (txt64_9_9.size : Int)) ∧ R (.returned (.string (txt64_9_9.extract 0 ((n26_1).toNat)))) w90_28)
  (∃ nc30, J30  nc30 w90_28))
  (∃ nc30, J30  nc30 w81_14)))
  (Br (decide (n26_1 ≤ 64))
  (Does Tryz.prog 28 #[.string txt64_9_9, .string a0] w72_7 fun e90_29 w90_29 =>
  ∃ b90_29 : Bool, e90_29 = .returned (.bool b90_29) ∧ Br b90_29
  (((0 : Int) ≤ n26_1 ∧ n26_1 ≤ (txt64_9_9.size : Int)) ∧ R (.returned (.string (txt64_9_9.extract 0 ((n26_1).toNat)))) w90_29)
  (∃ nc30, J30  nc30 w90_29))
  (∃ nc30, J30  nc30 w72_7))))
  (Br (decide (n26_1 ≤ 128))
  (Does Tryz.prog 28 #[.string txt128_61_61, .string a0] w26 fun e81_15 w81_15 =>
  ∃ b81_15 : Bool, e81_15 = .returned (.bool b81_15) ∧ Br b81_15
  (((0 : Int) ≤ n26_1 ∧ n26_1 ≤ (txt128_61_61.size : Int)) ∧ R (.returned (.string (txt128_61_61.extract 0 ((n26_1).toNat)))) w81_15)
  (Br (decide (n26_1 ≤ 64))
  (Does Tryz.prog 28 #[.string txt64_9_9, .string a0] w81_15 fun e90_30 w90_30 =>
  ∃ b90_30 : Bool, e90_30 = .returned (.bool b90_30) ∧ Br b90_30
  (((0 : Int) ≤ n26_1 ∧ n26_1 ≤ (txt64_9_9.size : Int)) ∧ R (.returned (.string (txt64_9_9.extract 0 ((n26_1).toNat)))) w90_30)
  (∃ nc30, J30  nc30 w90_30))
  (∃ nc30, J30  nc30 w81_15)))
  (Br (decide (n26_1 ≤ 64))
  (Does Tryz.prog 28 #[.string txt64_9_9, .string a0] w26 fun e90_31 w90_31 =>
  ∃ b90_31 : Bool, e90_31 = .returned (.bool b90_31) ∧ Br b90_31
  (((0 : Int) ≤ n26_1 ∧ n26_1 ≤ (txt64_9_9.size : Int)) ∧ R (.returned (.string (txt64_9_9.extract 0 ((n26_1).toNat)))) w90_31)
  (∃ nc30, J30  nc30 w90_31))
  (∃ nc30, J30  nc30 w26))))))
  (Br ((sb a0 0) == 48)
  (Br (decide (n26_1 ≤ 128))
  (Does Tryz.prog 28 #[.string txt128_32_32, .string a0] w26 fun e54_2 w54_2 =>
  ∃ b54_2 : Bool, e54_2 = .returned (.bool b54_2) ∧ Br b54_2
  (((0 : Int) ≤ n26_1 ∧ n26_1 ≤ (txt128_32_32.size : Int)) ∧ R (.returned (.string (txt128_32_32.extract 0 ((n26_1).toNat)))) w54_2)
  (Br (decide (n26_1 ≤ 128))
  (Does Tryz.prog 28 #[.string txt128_45_45, .string a0] w54_2 fun e63_4 w63_4 =>
  ∃ b63_4 : Bool, e63_4 = .returned (.bool b63_4) ∧ Br b63_4
  (((0 : Int) ≤ n26_1 ∧ n26_1 ≤ (txt128_45_45.size : Int)) ∧ R (.returned (.string (txt128_45_45.extract 0 ((n26_1).toNat)))) w63_4)
  (Br (decide (n26_1 ≤ 64))
  (Does Tryz.prog 28 #[.string txt64_48_48, .string a0] w63_4 fun e72_8 w72_8 =>
  ∃ b72_8 : Bool, e72_8 = .returned (.bool b72_8) ∧ Br b72_8
  (((0 : Int) ≤ n26_1 ∧ n26_1 ≤ (txt64_48_48.size : Int)) ∧ R (.returned (.string (txt64_48_48.extract 0 ((n26_1).toNat)))) w72_8)
  (Br (decide (n26_1 ≤ 128))
  (Does Tryz.prog 28 #[.string txt128_61_61, .string a0] w72_8 fun e81_16 w81_16 =>
  ∃ b81_16 : Bool, e81_16 = .returned (.bool b81_16) ∧ Br b81_16
  (((0 : Int) ≤ n26_1 ∧ n26_1 ≤ (txt128_61_61.size : Int)) ∧ R (.returned (.string (txt128_61_61.extract 0 ((n26_1).toNat)))) w81_16)
  (Br (decide (n26_1 ≤ 64))
  (Does Tryz.prog 28 #[.string txt64_9_9, .string a0] w81_16 fun e90_32 w90_32 =>
  ∃ b90_32 : Bool, e90_32 = .returned (.bool b90_32) ∧ Br b90_32
  (((0 : Int) ≤ n26_1 ∧ n26_1 ≤ (txt64_9_9.size : Int)) ∧ R (.returned (.string (txt64_9_9.extract 0 ((n26_1).toNat)))) w90_32)
  (∃ nc30, J30  nc30 w90_32))
  (∃ nc30, J30  nc30 w81_16)))
  (Br (decide (n26_1 ≤ 64))
  (Does Tryz.prog 28 #[.string txt64_9_9, .string a0] w72_8 fun e90_33 w90_33 =>
  ∃ b90_33 : Bool, e90_33 = .returned (.bool b90_33) ∧ Br b90_33
  (((0 : Int) ≤ n26_1 ∧ n26_1 ≤ (txt64_9_9.size : Int)) ∧ R (.returned (.string (txt64_9_9.extract 0 ((n26_1).toNat)))) w90_33)
  (∃ nc30, J30  nc30 w90_33))
  (∃ nc30, J30  nc30 w72_8))))
  (Br (decide (n26_1 ≤ 128))
  (Does Tryz.prog 28 #[.string txt128_61_61, .string a0] w63_4 fun e81_17 w81_17 =>
  ∃ b81_17 : Bool, e81_17 = .returned (.bool b81_17) ∧ Br b81_17
  (((0 : Int) ≤ n26_1 ∧ n26_1 ≤ (txt128_61_61.size : Int)) ∧ R (.returned (.string (txt128_61_61.extract 0 ((n26_1).toNat)))) w81_17)
  (Br (decide (n26_1 ≤ 64))
  (Does Tryz.prog 28 #[.string txt64_9_9, .string a0] w81_17 fun e90_34 w90_34 =>
  ∃ b90_34 : Bool, e90_34 = .returned (.bool b90_34) ∧ Br b90_34
  (((0 : Int) ≤ n26_1 ∧ n26_1 ≤ (txt64_9_9.size : Int)) ∧ R (.returned (.string (txt64_9_9.extract 0 ((n26_1).toNat)))) w90_34)
  (∃ nc30, J30  nc30 w90_34))
  (∃ nc30, J30  nc30 w81_17)))
  (Br (decide (n26_1 ≤ 64))
  (Does Tryz.prog 28 #[.string txt64_9_9, .string a0] w63_4 fun e90_35 w90_35 =>
  ∃ b90_35 : Bool, e90_35 = .returned (.bool b90_35) ∧ Br b90_35
  (((0 : Int) ≤ n26_1 ∧ n26_1 ≤ (txt64_9_9.size : Int)) ∧ R (.returned (.string (txt64_9_9.extract 0 ((n26_1).toNat)))) w90_35)
  (∃ nc30, J30  nc30 w90_35))
  (∃ nc30, J30  nc30 w63_4)))))
  (Br (decide (n26_1 ≤ 64))
  (Does Tryz.prog 28 #[.string txt64_48_48, .string a0] w54_2 fun e72_9 w72_9 =>
  ∃ b72_9 : Bool, e72_9 = .returned (.bool b72_9) ∧ Br b72_9
  (((0 : Int) ≤ n26_1 ∧ n26_1 ≤ (txt64_48_48.size : Int)) ∧ R (.returned (.string (txt64_48_48.extract 0 ((n26_1).toNat)))) w72_9)
  (Br (decide (n26_1 ≤ 128))
  (Does Tryz.prog 28 #[.string txt128_61_61, .string a0] w72_9 fun e81_18 w81_18 =>
  ∃ b81_18 : Bool, e81_18 = .returned (.bool b81_18) ∧ Br b81_18
  (((0 : Int) ≤ n26_1 ∧ n26_1 ≤ (txt128_61_61.size : Int)) ∧ R (.returned (.string (txt128_61_61.extract 0 ((n26_1).toNat)))) w81_18)
  (Br (decide (n26_1 ≤ 64))
  (Does Tryz.prog 28 #[.string txt64_9_9, .string a0] w81_18 fun e90_36 w90_36 =>
  ∃ b90_36 : Bool, e90_36 = .returned (.bool b90_36) ∧ Br b90_36
  (((0 : Int) ≤ n26_1 ∧ n26_1 ≤ (txt64_9_9.size : Int)) ∧ R (.returned (.string (txt64_9_9.extract 0 ((n26_1).toNat)))) w90_36)
  (∃ nc30, J30  nc30 w90_36))
  (∃ nc30, J30  nc30 w81_18)))
  (Br (decide (n26_1 ≤ 64))
  (Does Tryz.prog 28 #[.string txt64_9_9, .string a0] w72_9 fun e90_37 w90_37 =>
  ∃ b90_37 : Bool, e90_37 = .returned (.bool b90_37) ∧ Br b90_37
  (((0 : Int) ≤ n26_1 ∧ n26_1 ≤ (txt64_9_9.size : Int)) ∧ R (.returned (.string (txt64_9_9.extract 0 ((n26_1).toNat)))) w90_37)
  (∃ nc30, J30  nc30 w90_37))
  (∃ nc30, J30  nc30 w72_9))))
  (Br (decide (n26_1 ≤ 128))
  (Does Tryz.prog 28 #[.string txt128_61_61, .string a0] w54_2 fun e81_19 w81_19 =>
  ∃ b81_19 : Bool, e81_19 = .returned (.bool b81_19) ∧ Br b81_19
  (((0 : Int) ≤ n26_1 ∧ n26_1 ≤ (txt128_61_61.size : Int)) ∧ R (.returned (.string (txt128_61_61.extract 0 ((n26_1).toNat)))) w81_19)
  (Br (decide (n26_1 ≤ 64))
  (Does Tryz.prog 28 #[.string txt64_9_9, .string a0] w81_19 fun e90_38 w90_38 =>
  ∃ b90_38 : Bool, e90_38 = .returned (.bool b90_38) ∧ Br b90_38
  (((0 : Int) ≤ n26_1 ∧ n26_1 ≤ (txt64_9_9.size : Int)) ∧ R (.returned (.string (txt64_9_9.extract 0 ((n26_1).toNat)))) w90_38)
  (∃ nc30, J30  nc30 w90_38))
  (∃ nc30, J30  nc30 w81_19)))
  (Br (decide (n26_1 ≤ 64))
  (Does Tryz.prog 28 #[.string txt64_9_9, .string a0] w54_2 fun e90_39 w90_39 =>
  ∃ b90_39 : Bool, e90_39 = .returned (.bool b90_39) ∧ Br b90_39
  (((0 : Int) ≤ n26_1 ∧ n26_1 ≤ (txt64_9_9.size : Int)) ∧ R (.returned (.string (txt64_9_9.extract 0 ((n26_1).toNat)))) w90_39)
  (∃ nc30, J30  nc30 w90_39))
  (∃ nc30, J30  nc30 w54_2))))))
  (Br (decide (n26_1 ≤ 128))
  (Does Tryz.prog 28 #[.string txt128_45_45, .string a0] w26 fun e63_5 w63_5 =>
  ∃ b63_5 : Bool, e63_5 = .returned (.bool b63_5) ∧ Br b63_5
  (((0 : Int) ≤ n26_1 ∧ n26_1 ≤ (txt128_45_45.size : Int)) ∧ R (.returned (.string (txt128_45_45.extract 0 ((n26_1).toNat)))) w63_5)
  (Br (decide (n26_1 ≤ 64))
  (Does Tryz.prog 28 #[.string txt64_48_48, .string a0] w63_5 fun e72_10 w72_10 =>
  ∃ b72_10 : Bool, e72_10 = .returned (.bool b72_10) ∧ Br b72_10
  (((0 : Int) ≤ n26_1 ∧ n26_1 ≤ (txt64_48_48.size : Int)) ∧ R (.returned (.string (txt64_48_48.extract 0 ((n26_1).toNat)))) w72_10)
  (Br (decide (n26_1 ≤ 128))
  (Does Tryz.prog 28 #[.string txt128_61_61, .string a0] w72_10 fun e81_20 w81_20 =>
  ∃ b81_20 : Bool, e81_20 = .returned (.bool b81_20) ∧ Br b81_20
  (((0 : Int) ≤ n26_1 ∧ n26_1 ≤ (txt128_61_61.size : Int)) ∧ R (.returned (.string (txt128_61_61.extract 0 ((n26_1).toNat)))) w81_20)
  (Br (decide (n26_1 ≤ 64))
  (Does Tryz.prog 28 #[.string txt64_9_9, .string a0] w81_20 fun e90_40 w90_40 =>
  ∃ b90_40 : Bool, e90_40 = .returned (.bool b90_40) ∧ Br b90_40
  (((0 : Int) ≤ n26_1 ∧ n26_1 ≤ (txt64_9_9.size : Int)) ∧ R (.returned (.string (txt64_9_9.extract 0 ((n26_1).toNat)))) w90_40)
  (∃ nc30, J30  nc30 w90_40))
  (∃ nc30, J30  nc30 w81_20)))
  (Br (decide (n26_1 ≤ 64))
  (Does Tryz.prog 28 #[.string txt64_9_9, .string a0] w72_10 fun e90_41 w90_41 =>
  ∃ b90_41 : Bool, e90_41 = .returned (.bool b90_41) ∧ Br b90_41
  (((0 : Int) ≤ n26_1 ∧ n26_1 ≤ (txt64_9_9.size : Int)) ∧ R (.returned (.string (txt64_9_9.extract 0 ((n26_1).toNat)))) w90_41)
  (∃ nc30, J30  nc30 w90_41))
  (∃ nc30, J30  nc30 w72_10))))
  (Br (decide (n26_1 ≤ 128))
  (Does Tryz.prog 28 #[.string txt128_61_61, .string a0] w63_5 fun e81_21 w81_21 =>
  ∃ b81_21 : Bool, e81_21 = .returned (.bool b81_21) ∧ Br b81_21
  (((0 : Int) ≤ n26_1 ∧ n26_1 ≤ (txt128_61_61.size : Int)) ∧ R (.returned (.string (txt128_61_61.extract 0 ((n26_1).toNat)))) w81_21)
  (Br (decide (n26_1 ≤ 64))
  (Does Tryz.prog 28 #[.string txt64_9_9, .string a0] w81_21 fun e90_42 w90_42 =>
  ∃ b90_42 : Bool, e90_42 = .returned (.bool b90_42) ∧ Br b90_42
  (((0 : Int) ≤ n26_1 ∧ n26_1 ≤ (txt64_9_9.size : Int)) ∧ R (.returned (.string (txt64_9_9.extract 0 ((n26_1).toNat)))) w90_42)
  (∃ nc30, J30  nc30 w90_42))
  (∃ nc30, J30  nc30 w81_21)))
  (Br (decide (n26_1 ≤ 64))
  (Does Tryz.prog 28 #[.string txt64_9_9, .string a0] w63_5 fun e90_43 w90_43 =>
  ∃ b90_43 : Bool, e90_43 = .returned (.bool b90_43) ∧ Br b90_43
  (((0 : Int) ≤ n26_1 ∧ n26_1 ≤ (txt64_9_9.size : Int)) ∧ R (.returned (.string (txt64_9_9.extract 0 ((n26_1).toNat)))) w90_43)
  (∃ nc30, J30  nc30 w90_43))
  (∃ nc30, J30  nc30 w63_5)))))
  (Br (decide (n26_1 ≤ 64))
  (Does Tryz.prog 28 #[.string txt64_48_48, .string a0] w26 fun e72_11 w72_11 =>
  ∃ b72_11 : Bool, e72_11 = .returned (.bool b72_11) ∧ Br b72_11
  (((0 : Int) ≤ n26_1 ∧ n26_1 ≤ (txt64_48_48.size : Int)) ∧ R (.returned (.string (txt64_48_48.extract 0 ((n26_1).toNat)))) w72_11)
  (Br (decide (n26_1 ≤ 128))
  (Does Tryz.prog 28 #[.string txt128_61_61, .string a0] w72_11 fun e81_22 w81_22 =>
  ∃ b81_22 : Bool, e81_22 = .returned (.bool b81_22) ∧ Br b81_22
  (((0 : Int) ≤ n26_1 ∧ n26_1 ≤ (txt128_61_61.size : Int)) ∧ R (.returned (.string (txt128_61_61.extract 0 ((n26_1).toNat)))) w81_22)
  (Br (decide (n26_1 ≤ 64))
  (Does Tryz.prog 28 #[.string txt64_9_9, .string a0] w81_22 fun e90_44 w90_44 =>
  ∃ b90_44 : Bool, e90_44 = .returned (.bool b90_44) ∧ Br b90_44
  (((0 : Int) ≤ n26_1 ∧ n26_1 ≤ (txt64_9_9.size : Int)) ∧ R (.returned (.string (txt64_9_9.extract 0 ((n26_1).toNat)))) w90_44)
  (∃ nc30, J30  nc30 w90_44))
  (∃ nc30, J30  nc30 w81_22)))
  (Br (decide (n26_1 ≤ 64))
  (Does Tryz.prog 28 #[.string txt64_9_9, .string a0] w72_11 fun e90_45 w90_45 =>
  ∃ b90_45 : Bool, e90_45 = .returned (.bool b90_45) ∧ Br b90_45
  (((0 : Int) ≤ n26_1 ∧ n26_1 ≤ (txt64_9_9.size : Int)) ∧ R (.returned (.string (txt64_9_9.extract 0 ((n26_1).toNat)))) w90_45)
  (∃ nc30, J30  nc30 w90_45))
  (∃ nc30, J30  nc30 w72_11))))
  (Br (decide (n26_1 ≤ 128))
  (Does Tryz.prog 28 #[.string txt128_61_61, .string a0] w26 fun e81_23 w81_23 =>
  ∃ b81_23 : Bool, e81_23 = .returned (.bool b81_23) ∧ Br b81_23
  (((0 : Int) ≤ n26_1 ∧ n26_1 ≤ (txt128_61_61.size : Int)) ∧ R (.returned (.string (txt128_61_61.extract 0 ((n26_1).toNat)))) w81_23)
  (Br (decide (n26_1 ≤ 64))
  (Does Tryz.prog 28 #[.string txt64_9_9, .string a0] w81_23 fun e90_46 w90_46 =>
  ∃ b90_46 : Bool, e90_46 = .returned (.bool b90_46) ∧ Br b90_46
  (((0 : Int) ≤ n26_1 ∧ n26_1 ≤ (txt64_9_9.size : Int)) ∧ R (.returned (.string (txt64_9_9.extract 0 ((n26_1).toNat)))) w90_46)
  (∃ nc30, J30  nc30 w90_46))
  (∃ nc30, J30  nc30 w81_23)))
  (Br (decide (n26_1 ≤ 64))
  (Does Tryz.prog 28 #[.string txt64_9_9, .string a0] w26 fun e90_47 w90_47 =>
  ∃ b90_47 : Bool, e90_47 = .returned (.bool b90_47) ∧ Br b90_47
  (((0 : Int) ≤ n26_1 ∧ n26_1 ≤ (txt64_9_9.size : Int)) ∧ R (.returned (.string (txt64_9_9.extract 0 ((n26_1).toNat)))) w90_47)
  (∃ nc30, J30  nc30 w90_47))
  (∃ nc30, J30  nc30 w26))))))
  (Br ((sb a0 0) == 61)
  (Br (decide (n26_1 ≤ 128))
  (Does Tryz.prog 28 #[.string txt128_32_32, .string a0] w26 fun e54_3 w54_3 =>
  ∃ b54_3 : Bool, e54_3 = .returned (.bool b54_3) ∧ Br b54_3
  (((0 : Int) ≤ n26_1 ∧ n26_1 ≤ (txt128_32_32.size : Int)) ∧ R (.returned (.string (txt128_32_32.extract 0 ((n26_1).toNat)))) w54_3)
  (Br (decide (n26_1 ≤ 128))
  (Does Tryz.prog 28 #[.string txt128_45_45, .string a0] w54_3 fun e63_6 w63_6 =>
  ∃ b63_6 : Bool, e63_6 = .returned (.bool b63_6) ∧ Br b63_6
  (((0 : Int) ≤ n26_1 ∧ n26_1 ≤ (txt128_45_45.size : Int)) ∧ R (.returned (.string (txt128_45_45.extract 0 ((n26_1).toNat)))) w63_6)
  (Br (decide (n26_1 ≤ 64))
  (Does Tryz.prog 28 #[.string txt64_48_48, .string a0] w63_6 fun e72_12 w72_12 =>
  ∃ b72_12 : Bool, e72_12 = .returned (.bool b72_12) ∧ Br b72_12
  (((0 : Int) ≤ n26_1 ∧ n26_1 ≤ (txt64_48_48.size : Int)) ∧ R (.returned (.string (txt64_48_48.extract 0 ((n26_1).toNat)))) w72_12)
  (Br (decide (n26_1 ≤ 128))
  (Does Tryz.prog 28 #[.string txt128_61_61, .string a0] w72_12 fun e81_24 w81_24 =>
  ∃ b81_24 : Bool, e81_24 = .returned (.bool b81_24) ∧ Br b81_24
  (((0 : Int) ≤ n26_1 ∧ n26_1 ≤ (txt128_61_61.size : Int)) ∧ R (.returned (.string (txt128_61_61.extract 0 ((n26_1).toNat)))) w81_24)
  (Br (decide (n26_1 ≤ 64))
  (Does Tryz.prog 28 #[.string txt64_9_9, .string a0] w81_24 fun e90_48 w90_48 =>
  ∃ b90_48 : Bool, e90_48 = .returned (.bool b90_48) ∧ Br b90_48
  (((0 : Int) ≤ n26_1 ∧ n26_1 ≤ (txt64_9_9.size : Int)) ∧ R (.returned (.string (txt64_9_9.extract 0 ((n26_1).toNat)))) w90_48)
  (∃ nc30, J30  nc30 w90_48))
  (∃ nc30, J30  nc30 w81_24)))
  (Br (decide (n26_1 ≤ 64))
  (Does Tryz.prog 28 #[.string txt64_9_9, .string a0] w72_12 fun e90_49 w90_49 =>
  ∃ b90_49 : Bool, e90_49 = .returned (.bool b90_49) ∧ Br b90_49
  (((0 : Int) ≤ n26_1 ∧ n26_1 ≤ (txt64_9_9.size : Int)) ∧ R (.returned (.string (txt64_9_9.extract 0 ((n26_1).toNat)))) w90_49)
  (∃ nc30, J30  nc30 w90_49))
  (∃ nc30, J30  nc30 w72_12))))
  (Br (decide (n26_1 ≤ 128))
  (Does Tryz.prog 28 #[.string txt128_61_61, .string a0] w63_6 fun e81_25 w81_25 =>
  ∃ b81_25 : Bool, e81_25 = .returned (.bool b81_25) ∧ Br b81_25
  (((0 : Int) ≤ n26_1 ∧ n26_1 ≤ (txt128_61_61.size : Int)) ∧ R (.returned (.string (txt128_61_61.extract 0 ((n26_1).toNat)))) w81_25)
  (Br (decide (n26_1 ≤ 64))
  (Does Tryz.prog 28 #[.string txt64_9_9, .string a0] w81_25 fun e90_50 w90_50 =>
  ∃ b90_50 : Bool, e90_50 = .returned (.bool b90_50) ∧ Br b90_50
  (((0 : Int) ≤ n26_1 ∧ n26_1 ≤ (txt64_9_9.size : Int)) ∧ R (.returned (.string (txt64_9_9.extract 0 ((n26_1).toNat)))) w90_50)
  (∃ nc30, J30  nc30 w90_50))
  (∃ nc30, J30  nc30 w81_25)))
  (Br (decide (n26_1 ≤ 64))
  (Does Tryz.prog 28 #[.string txt64_9_9, .string a0] w63_6 fun e90_51 w90_51 =>
  ∃ b90_51 : Bool, e90_51 = .returned (.bool b90_51) ∧ Br b90_51
  (((0 : Int) ≤ n26_1 ∧ n26_1 ≤ (txt64_9_9.size : Int)) ∧ R (.returned (.string (txt64_9_9.extract 0 ((n26_1).toNat)))) w90_51)
  (∃ nc30, J30  nc30 w90_51))
  (∃ nc30, J30  nc30 w63_6)))))
  (Br (decide (n26_1 ≤ 64))
  (Does Tryz.prog 28 #[.string txt64_48_48, .string a0] w54_3 fun e72_13 w72_13 =>
  ∃ b72_13 : Bool, e72_13 = .returned (.bool b72_13) ∧ Br b72_13
  (((0 : Int) ≤ n26_1 ∧ n26_1 ≤ (txt64_48_48.size : Int)) ∧ R (.returned (.string (txt64_48_48.extract 0 ((n26_1).toNat)))) w72_13)
  (Br (decide (n26_1 ≤ 128))
  (Does Tryz.prog 28 #[.string txt128_61_61, .string a0] w72_13 fun e81_26 w81_26 =>
  ∃ b81_26 : Bool, e81_26 = .returned (.bool b81_26) ∧ Br b81_26
  (((0 : Int) ≤ n26_1 ∧ n26_1 ≤ (txt128_61_61.size : Int)) ∧ R (.returned (.string (txt128_61_61.extract 0 ((n26_1).toNat)))) w81_26)
  (Br (decide (n26_1 ≤ 64))
  (Does Tryz.prog 28 #[.string txt64_9_9, .string a0] w81_26 fun e90_52 w90_52 =>
  ∃ b90_52 : Bool, e90_52 = .returned (.bool b90_52) ∧ Br b90_52
  (((0 : Int) ≤ n26_1 ∧ n26_1 ≤ (txt64_9_9.size : Int)) ∧ R (.returned (.string (txt64_9_9.extract 0 ((n26_1).toNat)))) w90_52)
  (∃ nc30, J30  nc30 w90_52))
  (∃ nc30, J30  nc30 w81_26)))
  (Br (decide (n26_1 ≤ 64))
  (Does Tryz.prog 28 #[.string txt64_9_9, .string a0] w72_13 fun e90_53 w90_53 =>
  ∃ b90_53 : Bool, e90_53 = .returned (.bool b90_53) ∧ Br b90_53
  (((0 : Int) ≤ n26_1 ∧ n26_1 ≤ (txt64_9_9.size : Int)) ∧ R (.returned (.string (txt64_9_9.extract 0 ((n26_1).toNat)))) w90_53)
  (∃ nc30, J30  nc30 w90_53))
  (∃ nc30, J30  nc30 w72_13))))
  (Br (decide (n26_1 ≤ 128))
  (Does Tryz.prog 28 #[.string txt128_61_61, .string a0] w54_3 fun e81_27 w81_27 =>
  ∃ b81_27 : Bool, e81_27 = .returned (.bool b81_27) ∧ Br b81_27
  (((0 : Int) ≤ n26_1 ∧ n26_1 ≤ (txt128_61_61.size : Int)) ∧ R (.returned (.string (txt128_61_61.extract 0 ((n26_1).toNat)))) w81_27)
  (Br (decide (n26_1 ≤ 64))
  (Does Tryz.prog 28 #[.string txt64_9_9, .string a0] w81_27 fun e90_54 w90_54 =>
  ∃ b90_54 : Bool, e90_54 = .returned (.bool b90_54) ∧ Br b90_54
  (((0 : Int) ≤ n26_1 ∧ n26_1 ≤ (txt64_9_9.size : Int)) ∧ R (.returned (.string (txt64_9_9.extract 0 ((n26_1).toNat)))) w90_54)
  (∃ nc30, J30  nc30 w90_54))
  (∃ nc30, J30  nc30 w81_27)))
  (Br (decide (n26_1 ≤ 64))
  (Does Tryz.prog 28 #[.string txt64_9_9, .string a0] w54_3 fun e90_55 w90_55 =>
  ∃ b90_55 : Bool, e90_55 = .returned (.bool b90_55) ∧ Br b90_55
  (((0 : Int) ≤ n26_1 ∧ n26_1 ≤ (txt64_9_9.size : Int)) ∧ R (.returned (.string (txt64_9_9.extract 0 ((n26_1).toNat)))) w90_55)
  (∃ nc30, J30  nc30 w90_55))
  (∃ nc30, J30  nc30 w54_3))))))
  (Br (decide (n26_1 ≤ 128))
  (Does Tryz.prog 28 #[.string txt128_45_45, .string a0] w26 fun e63_7 w63_7 =>
  ∃ b63_7 : Bool, e63_7 = .returned (.bool b63_7) ∧ Br b63_7
  (((0 : Int) ≤ n26_1 ∧ n26_1 ≤ (txt128_45_45.size : Int)) ∧ R (.returned (.string (txt128_45_45.extract 0 ((n26_1).toNat)))) w63_7)
  (Br (decide (n26_1 ≤ 64))
  (Does Tryz.prog 28 #[.string txt64_48_48, .string a0] w63_7 fun e72_14 w72_14 =>
  ∃ b72_14 : Bool, e72_14 = .returned (.bool b72_14) ∧ Br b72_14
  (((0 : Int) ≤ n26_1 ∧ n26_1 ≤ (txt64_48_48.size : Int)) ∧ R (.returned (.string (txt64_48_48.extract 0 ((n26_1).toNat)))) w72_14)
  (Br (decide (n26_1 ≤ 128))
  (Does Tryz.prog 28 #[.string txt128_61_61, .string a0] w72_14 fun e81_28 w81_28 =>
  ∃ b81_28 : Bool, e81_28 = .returned (.bool b81_28) ∧ Br b81_28
  (((0 : Int) ≤ n26_1 ∧ n26_1 ≤ (txt128_61_61.size : Int)) ∧ R (.returned (.string (txt128_61_61.extract 0 ((n26_1).toNat)))) w81_28)
  (Br (decide (n26_1 ≤ 64))
  (Does Tryz.prog 28 #[.string txt64_9_9, .string a0] w81_28 fun e90_56 w90_56 =>
  ∃ b90_56 : Bool, e90_56 = .returned (.bool b90_56) ∧ Br b90_56
  (((0 : Int) ≤ n26_1 ∧ n26_1 ≤ (txt64_9_9.size : Int)) ∧ R (.returned (.string (txt64_9_9.extract 0 ((n26_1).toNat)))) w90_56)
  (∃ nc30, J30  nc30 w90_56))
  (∃ nc30, J30  nc30 w81_28)))
  (Br (decide (n26_1 ≤ 64))
  (Does Tryz.prog 28 #[.string txt64_9_9, .string a0] w72_14 fun e90_57 w90_57 =>
  ∃ b90_57 : Bool, e90_57 = .returned (.bool b90_57) ∧ Br b90_57
  (((0 : Int) ≤ n26_1 ∧ n26_1 ≤ (txt64_9_9.size : Int)) ∧ R (.returned (.string (txt64_9_9.extract 0 ((n26_1).toNat)))) w90_57)
  (∃ nc30, J30  nc30 w90_57))
  (∃ nc30, J30  nc30 w72_14))))
  (Br (decide (n26_1 ≤ 128))
  (Does Tryz.prog 28 #[.string txt128_61_61, .string a0] w63_7 fun e81_29 w81_29 =>
  ∃ b81_29 : Bool, e81_29 = .returned (.bool b81_29) ∧ Br b81_29
  (((0 : Int) ≤ n26_1 ∧ n26_1 ≤ (txt128_61_61.size : Int)) ∧ R (.returned (.string (txt128_61_61.extract 0 ((n26_1).toNat)))) w81_29)
  (Br (decide (n26_1 ≤ 64))
  (Does Tryz.prog 28 #[.string txt64_9_9, .string a0] w81_29 fun e90_58 w90_58 =>
  ∃ b90_58 : Bool, e90_58 = .returned (.bool b90_58) ∧ Br b90_58
  (((0 : Int) ≤ n26_1 ∧ n26_1 ≤ (txt64_9_9.size : Int)) ∧ R (.returned (.string (txt64_9_9.extract 0 ((n26_1).toNat)))) w90_58)
  (∃ nc30, J30  nc30 w90_58))
  (∃ nc30, J30  nc30 w81_29)))
  (Br (decide (n26_1 ≤ 64))
  (Does Tryz.prog 28 #[.string txt64_9_9, .string a0] w63_7 fun e90_59 w90_59 =>
  ∃ b90_59 : Bool, e90_59 = .returned (.bool b90_59) ∧ Br b90_59
  (((0 : Int) ≤ n26_1 ∧ n26_1 ≤ (txt64_9_9.size : Int)) ∧ R (.returned (.string (txt64_9_9.extract 0 ((n26_1).toNat)))) w90_59)
  (∃ nc30, J30  nc30 w90_59))
  (∃ nc30, J30  nc30 w63_7)))))
  (Br (decide (n26_1 ≤ 64))
  (Does Tryz.prog 28 #[.string txt64_48_48, .string a0] w26 fun e72_15 w72_15 =>
  ∃ b72_15 : Bool, e72_15 = .returned (.bool b72_15) ∧ Br b72_15
  (((0 : Int) ≤ n26_1 ∧ n26_1 ≤ (txt64_48_48.size : Int)) ∧ R (.returned (.string (txt64_48_48.extract 0 ((n26_1).toNat)))) w72_15)
  (Br (decide (n26_1 ≤ 128))
  (Does Tryz.prog 28 #[.string txt128_61_61, .string a0] w72_15 fun e81_30 w81_30 =>
  ∃ b81_30 : Bool, e81_30 = .returned (.bool b81_30) ∧ Br b81_30
  (((0 : Int) ≤ n26_1 ∧ n26_1 ≤ (txt128_61_61.size : Int)) ∧ R (.returned (.string (txt128_61_61.extract 0 ((n26_1).toNat)))) w81_30)
  (Br (decide (n26_1 ≤ 64))
  (Does Tryz.prog 28 #[.string txt64_9_9, .string a0] w81_30 fun e90_60 w90_60 =>
  ∃ b90_60 : Bool, e90_60 = .returned (.bool b90_60) ∧ Br b90_60
  (((0 : Int) ≤ n26_1 ∧ n26_1 ≤ (txt64_9_9.size : Int)) ∧ R (.returned (.string (txt64_9_9.extract 0 ((n26_1).toNat)))) w90_60)
  (∃ nc30, J30  nc30 w90_60))
  (∃ nc30, J30  nc30 w81_30)))
  (Br (decide (n26_1 ≤ 64))
  (Does Tryz.prog 28 #[.string txt64_9_9, .string a0] w72_15 fun e90_61 w90_61 =>
  ∃ b90_61 : Bool, e90_61 = .returned (.bool b90_61) ∧ Br b90_61
  (((0 : Int) ≤ n26_1 ∧ n26_1 ≤ (txt64_9_9.size : Int)) ∧ R (.returned (.string (txt64_9_9.extract 0 ((n26_1).toNat)))) w90_61)
  (∃ nc30, J30  nc30 w90_61))
  (∃ nc30, J30  nc30 w72_15))))
  (Br (decide (n26_1 ≤ 128))
  (Does Tryz.prog 28 #[.string txt128_61_61, .string a0] w26 fun e81_31 w81_31 =>
  ∃ b81_31 : Bool, e81_31 = .returned (.bool b81_31) ∧ Br b81_31
  (((0 : Int) ≤ n26_1 ∧ n26_1 ≤ (txt128_61_61.size : Int)) ∧ R (.returned (.string (txt128_61_61.extract 0 ((n26_1).toNat)))) w81_31)
  (Br (decide (n26_1 ≤ 64))
  (Does Tryz.prog 28 #[.string txt64_9_9, .string a0] w81_31 fun e90_62 w90_62 =>
  ∃ b90_62 : Bool, e90_62 = .returned (.bool b90_62) ∧ Br b90_62
  (((0 : Int) ≤ n26_1 ∧ n26_1 ≤ (txt64_9_9.size : Int)) ∧ R (.returned (.string (txt64_9_9.extract 0 ((n26_1).toNat)))) w90_62)
  (∃ nc30, J30  nc30 w90_62))
  (∃ nc30, J30  nc30 w81_31)))
  (Br (decide (n26_1 ≤ 64))
  (Does Tryz.prog 28 #[.string txt64_9_9, .string a0] w26 fun e90_63 w90_63 =>
  ∃ b90_63 : Bool, e90_63 = .returned (.bool b90_63) ∧ Br b90_63
  (((0 : Int) ≤ n26_1 ∧ n26_1 ≤ (txt64_9_9.size : Int)) ∧ R (.returned (.string (txt64_9_9.extract 0 ((n26_1).toNat)))) w90_63)
  (∃ nc30, J30  nc30 w90_63))
  (∃ nc30, J30  nc30 w26))))))
  (Br ((sb a0 0) == 9)
  (Br (decide (n26_1 ≤ 128))
  (Does Tryz.prog 28 #[.string txt128_32_32, .string a0] w26 fun e54_4 w54_4 =>
  ∃ b54_4 : Bool, e54_4 = .returned (.bool b54_4) ∧ Br b54_4
  (((0 : Int) ≤ n26_1 ∧ n26_1 ≤ (txt128_32_32.size : Int)) ∧ R (.returned (.string (txt128_32_32.extract 0 ((n26_1).toNat)))) w54_4)
  (Br (decide (n26_1 ≤ 128))
  (Does Tryz.prog 28 #[.string txt128_45_45, .string a0] w54_4 fun e63_8 w63_8 =>
  ∃ b63_8 : Bool, e63_8 = .returned (.bool b63_8) ∧ Br b63_8
  (((0 : Int) ≤ n26_1 ∧ n26_1 ≤ (txt128_45_45.size : Int)) ∧ R (.returned (.string (txt128_45_45.extract 0 ((n26_1).toNat)))) w63_8)
  (Br (decide (n26_1 ≤ 64))
  (Does Tryz.prog 28 #[.string txt64_48_48, .string a0] w63_8 fun e72_16 w72_16 =>
  ∃ b72_16 : Bool, e72_16 = .returned (.bool b72_16) ∧ Br b72_16
  (((0 : Int) ≤ n26_1 ∧ n26_1 ≤ (txt64_48_48.size : Int)) ∧ R (.returned (.string (txt64_48_48.extract 0 ((n26_1).toNat)))) w72_16)
  (Br (decide (n26_1 ≤ 128))
  (Does Tryz.prog 28 #[.string txt128_61_61, .string a0] w72_16 fun e81_32 w81_32 =>
  ∃ b81_32 : Bool, e81_32 = .returned (.bool b81_32) ∧ Br b81_32
  (((0 : Int) ≤ n26_1 ∧ n26_1 ≤ (txt128_61_61.size : Int)) ∧ R (.returned (.string (txt128_61_61.extract 0 ((n26_1).toNat)))) w81_32)
  (Br (decide (n26_1 ≤ 64))
  (Does Tryz.prog 28 #[.string txt64_9_9, .string a0] w81_32 fun e90_64 w90_64 =>
  ∃ b90_64 : Bool, e90_64 = .returned (.bool b90_64) ∧ Br b90_64
  (((0 : Int) ≤ n26_1 ∧ n26_1 ≤ (txt64_9_9.size : Int)) ∧ R (.returned (.string (txt64_9_9.extract 0 ((n26_1).toNat)))) w90_64)
  (∃ nc30, J30  nc30 w90_64))
  (∃ nc30, J30  nc30 w81_32)))
  (Br (decide (n26_1 ≤ 64))
  (Does Tryz.prog 28 #[.string txt64_9_9, .string a0] w72_16 fun e90_65 w90_65 =>
  ∃ b90_65 : Bool, e90_65 = .returned (.bool b90_65) ∧ Br b90_65
  (((0 : Int) ≤ n26_1 ∧ n26_1 ≤ (txt64_9_9.size : Int)) ∧ R (.returned (.string (txt64_9_9.extract 0 ((n26_1).toNat)))) w90_65)
  (∃ nc30, J30  nc30 w90_65))
  (∃ nc30, J30  nc30 w72_16))))
  (Br (decide (n26_1 ≤ 128))
  (Does Tryz.prog 28 #[.string txt128_61_61, .string a0] w63_8 fun e81_33 w81_33 =>
  ∃ b81_33 : Bool, e81_33 = .returned (.bool b81_33) ∧ Br b81_33
  (((0 : Int) ≤ n26_1 ∧ n26_1 ≤ (txt128_61_61.size : Int)) ∧ R (.returned (.string (txt128_61_61.extract 0 ((n26_1).toNat)))) w81_33)
  (Br (decide (n26_1 ≤ 64))
  (Does Tryz.prog 28 #[.string txt64_9_9, .string a0] w81_33 fun e90_66 w90_66 =>
  ∃ b90_66 : Bool, e90_66 = .returned (.bool b90_66) ∧ Br b90_66
  (((0 : Int) ≤ n26_1 ∧ n26_1 ≤ (txt64_9_9.size : Int)) ∧ R (.returned (.string (txt64_9_9.extract 0 ((n26_1).toNat)))) w90_66)
  (∃ nc30, J30  nc30 w90_66))
  (∃ nc30, J30  nc30 w81_33)))
  (Br (decide (n26_1 ≤ 64))
  (Does Tryz.prog 28 #[.string txt64_9_9, .string a0] w63_8 fun e90_67 w90_67 =>
  ∃ b90_67 : Bool, e90_67 = .returned (.bool b90_67) ∧ Br b90_67
  (((0 : Int) ≤ n26_1 ∧ n26_1 ≤ (txt64_9_9.size : Int)) ∧ R (.returned (.string (txt64_9_9.extract 0 ((n26_1).toNat)))) w90_67)
  (∃ nc30, J30  nc30 w90_67))
  (∃ nc30, J30  nc30 w63_8)))))
  (Br (decide (n26_1 ≤ 64))
  (Does Tryz.prog 28 #[.string txt64_48_48, .string a0] w54_4 fun e72_17 w72_17 =>
  ∃ b72_17 : Bool, e72_17 = .returned (.bool b72_17) ∧ Br b72_17
  (((0 : Int) ≤ n26_1 ∧ n26_1 ≤ (txt64_48_48.size : Int)) ∧ R (.returned (.string (txt64_48_48.extract 0 ((n26_1).toNat)))) w72_17)
  (Br (decide (n26_1 ≤ 128))
  (Does Tryz.prog 28 #[.string txt128_61_61, .string a0] w72_17 fun e81_34 w81_34 =>
  ∃ b81_34 : Bool, e81_34 = .returned (.bool b81_34) ∧ Br b81_34
  (((0 : Int) ≤ n26_1 ∧ n26_1 ≤ (txt128_61_61.size : Int)) ∧ R (.returned (.string (txt128_61_61.extract 0 ((n26_1).toNat)))) w81_34)
  (Br (decide (n26_1 ≤ 64))
  (Does Tryz.prog 28 #[.string txt64_9_9, .string a0] w81_34 fun e90_68 w90_68 =>
  ∃ b90_68 : Bool, e90_68 = .returned (.bool b90_68) ∧ Br b90_68
  (((0 : Int) ≤ n26_1 ∧ n26_1 ≤ (txt64_9_9.size : Int)) ∧ R (.returned (.string (txt64_9_9.extract 0 ((n26_1).toNat)))) w90_68)
  (∃ nc30, J30  nc30 w90_68))
  (∃ nc30, J30  nc30 w81_34)))
  (Br (decide (n26_1 ≤ 64))
  (Does Tryz.prog 28 #[.string txt64_9_9, .string a0] w72_17 fun e90_69 w90_69 =>
  ∃ b90_69 : Bool, e90_69 = .returned (.bool b90_69) ∧ Br b90_69
  (((0 : Int) ≤ n26_1 ∧ n26_1 ≤ (txt64_9_9.size : Int)) ∧ R (.returned (.string (txt64_9_9.extract 0 ((n26_1).toNat)))) w90_69)
  (∃ nc30, J30  nc30 w90_69))
  (∃ nc30, J30  nc30 w72_17))))
  (Br (decide (n26_1 ≤ 128))
  (Does Tryz.prog 28 #[.string txt128_61_61, .string a0] w54_4 fun e81_35 w81_35 =>
  ∃ b81_35 : Bool, e81_35 = .returned (.bool b81_35) ∧ Br b81_35
  (((0 : Int) ≤ n26_1 ∧ n26_1 ≤ (txt128_61_61.size : Int)) ∧ R (.returned (.string (txt128_61_61.extract 0 ((n26_1).toNat)))) w81_35)
  (Br (decide (n26_1 ≤ 64))
  (Does Tryz.prog 28 #[.string txt64_9_9, .string a0] w81_35 fun e90_70 w90_70 =>
  ∃ b90_70 : Bool, e90_70 = .returned (.bool b90_70) ∧ Br b90_70
  (((0 : Int) ≤ n26_1 ∧ n26_1 ≤ (txt64_9_9.size : Int)) ∧ R (.returned (.string (txt64_9_9.extract 0 ((n26_1).toNat)))) w90_70)
  (∃ nc30, J30  nc30 w90_70))
  (∃ nc30, J30  nc30 w81_35)))
  (Br (decide (n26_1 ≤ 64))
  (Does Tryz.prog 28 #[.string txt64_9_9, .string a0] w54_4 fun e90_71 w90_71 =>
  ∃ b90_71 : Bool, e90_71 = .returned (.bool b90_71) ∧ Br b90_71
  (((0 : Int) ≤ n26_1 ∧ n26_1 ≤ (txt64_9_9.size : Int)) ∧ R (.returned (.string (txt64_9_9.extract 0 ((n26_1).toNat)))) w90_71)
  (∃ nc30, J30  nc30 w90_71))
  (∃ nc30, J30  nc30 w54_4))))))
  (Br (decide (n26_1 ≤ 128))
  (Does Tryz.prog 28 #[.string txt128_45_45, .string a0] w26 fun e63_9 w63_9 =>
  ∃ b63_9 : Bool, e63_9 = .returned (.bool b63_9) ∧ Br b63_9
  (((0 : Int) ≤ n26_1 ∧ n26_1 ≤ (txt128_45_45.size : Int)) ∧ R (.returned (.string (txt128_45_45.extract 0 ((n26_1).toNat)))) w63_9)
  (Br (decide (n26_1 ≤ 64))
  (Does Tryz.prog 28 #[.string txt64_48_48, .string a0] w63_9 fun e72_18 w72_18 =>
  ∃ b72_18 : Bool, e72_18 = .returned (.bool b72_18) ∧ Br b72_18
  (((0 : Int) ≤ n26_1 ∧ n26_1 ≤ (txt64_48_48.size : Int)) ∧ R (.returned (.string (txt64_48_48.extract 0 ((n26_1).toNat)))) w72_18)
  (Br (decide (n26_1 ≤ 128))
  (Does Tryz.prog 28 #[.string txt128_61_61, .string a0] w72_18 fun e81_36 w81_36 =>
  ∃ b81_36 : Bool, e81_36 = .returned (.bool b81_36) ∧ Br b81_36
  (((0 : Int) ≤ n26_1 ∧ n26_1 ≤ (txt128_61_61.size : Int)) ∧ R (.returned (.string (txt128_61_61.extract 0 ((n26_1).toNat)))) w81_36)
  (Br (decide (n26_1 ≤ 64))
  (Does Tryz.prog 28 #[.string txt64_9_9, .string a0] w81_36 fun e90_72 w90_72 =>
  ∃ b90_72 : Bool, e90_72 = .returned (.bool b90_72) ∧ Br b90_72
  (((0 : Int) ≤ n26_1 ∧ n26_1 ≤ (txt64_9_9.size : Int)) ∧ R (.returned (.string (txt64_9_9.extract 0 ((n26_1).toNat)))) w90_72)
  (∃ nc30, J30  nc30 w90_72))
  (∃ nc30, J30  nc30 w81_36)))
  (Br (decide (n26_1 ≤ 64))
  (Does Tryz.prog 28 #[.string txt64_9_9, .string a0] w72_18 fun e90_73 w90_73 =>
  ∃ b90_73 : Bool, e90_73 = .returned (.bool b90_73) ∧ Br b90_73
  (((0 : Int) ≤ n26_1 ∧ n26_1 ≤ (txt64_9_9.size : Int)) ∧ R (.returned (.string (txt64_9_9.extract 0 ((n26_1).toNat)))) w90_73)
  (∃ nc30, J30  nc30 w90_73))
  (∃ nc30, J30  nc30 w72_18))))
  (Br (decide (n26_1 ≤ 128))
  (Does Tryz.prog 28 #[.string txt128_61_61, .string a0] w63_9 fun e81_37 w81_37 =>
  ∃ b81_37 : Bool, e81_37 = .returned (.bool b81_37) ∧ Br b81_37
  (((0 : Int) ≤ n26_1 ∧ n26_1 ≤ (txt128_61_61.size : Int)) ∧ R (.returned (.string (txt128_61_61.extract 0 ((n26_1).toNat)))) w81_37)
  (Br (decide (n26_1 ≤ 64))
  (Does Tryz.prog 28 #[.string txt64_9_9, .string a0] w81_37 fun e90_74 w90_74 =>
  ∃ b90_74 : Bool, e90_74 = .returned (.bool b90_74) ∧ Br b90_74
  (((0 : Int) ≤ n26_1 ∧ n26_1 ≤ (txt64_9_9.size : Int)) ∧ R (.returned (.string (txt64_9_9.extract 0 ((n26_1).toNat)))) w90_74)
  (∃ nc30, J30  nc30 w90_74))
  (∃ nc30, J30  nc30 w81_37)))
  (Br (decide (n26_1 ≤ 64))
  (Does Tryz.prog 28 #[.string txt64_9_9, .string a0] w63_9 fun e90_75 w90_75 =>
  ∃ b90_75 : Bool, e90_75 = .returned (.bool b90_75) ∧ Br b90_75
  (((0 : Int) ≤ n26_1 ∧ n26_1 ≤ (txt64_9_9.size : Int)) ∧ R (.returned (.string (txt64_9_9.extract 0 ((n26_1).toNat)))) w90_75)
  (∃ nc30, J30  nc30 w90_75))
  (∃ nc30, J30  nc30 w63_9)))))
  (Br (decide (n26_1 ≤ 64))
  (Does Tryz.prog 28 #[.string txt64_48_48, .string a0] w26 fun e72_19 w72_19 =>
  ∃ b72_19 : Bool, e72_19 = .returned (.bool b72_19) ∧ Br b72_19
  (((0 : Int) ≤ n26_1 ∧ n26_1 ≤ (txt64_48_48.size : Int)) ∧ R (.returned (.string (txt64_48_48.extract 0 ((n26_1).toNat)))) w72_19)
  (Br (decide (n26_1 ≤ 128))
  (Does Tryz.prog 28 #[.string txt128_61_61, .string a0] w72_19 fun e81_38 w81_38 =>
  ∃ b81_38 : Bool, e81_38 = .returned (.bool b81_38) ∧ Br b81_38
  (((0 : Int) ≤ n26_1 ∧ n26_1 ≤ (txt128_61_61.size : Int)) ∧ R (.returned (.string (txt128_61_61.extract 0 ((n26_1).toNat)))) w81_38)
  (Br (decide (n26_1 ≤ 64))
  (Does Tryz.prog 28 #[.string txt64_9_9, .string a0] w81_38 fun e90_76 w90_76 =>
  ∃ b90_76 : Bool, e90_76 = .returned (.bool b90_76) ∧ Br b90_76
  (((0 : Int) ≤ n26_1 ∧ n26_1 ≤ (txt64_9_9.size : Int)) ∧ R (.returned (.string (txt64_9_9.extract 0 ((n26_1).toNat)))) w90_76)
  (∃ nc30, J30  nc30 w90_76))
  (∃ nc30, J30  nc30 w81_38)))
  (Br (decide (n26_1 ≤ 64))
  (Does Tryz.prog 28 #[.string txt64_9_9, .string a0] w72_19 fun e90_77 w90_77 =>
  ∃ b90_77 : Bool, e90_77 = .returned (.bool b90_77) ∧ Br b90_77
  (((0 : Int) ≤ n26_1 ∧ n26_1 ≤ (txt64_9_9.size : Int)) ∧ R (.returned (.string (txt64_9_9.extract 0 ((n26_1).toNat)))) w90_77)
  (∃ nc30, J30  nc30 w90_77))
  (∃ nc30, J30  nc30 w72_19))))
  (Br (decide (n26_1 ≤ 128))
  (Does Tryz.prog 28 #[.string txt128_61_61, .string a0] w26 fun e81_39 w81_39 =>
  ∃ b81_39 : Bool, e81_39 = .returned (.bool b81_39) ∧ Br b81_39
  (((0 : Int) ≤ n26_1 ∧ n26_1 ≤ (txt128_61_61.size : Int)) ∧ R (.returned (.string (txt128_61_61.extract 0 ((n26_1).toNat)))) w81_39)
  (Br (decide (n26_1 ≤ 64))
  (Does Tryz.prog 28 #[.string txt64_9_9, .string a0] w81_39 fun e90_78 w90_78 =>
  ∃ b90_78 : Bool, e90_78 = .returned (.bool b90_78) ∧ Br b90_78
  (((0 : Int) ≤ n26_1 ∧ n26_1 ≤ (txt64_9_9.size : Int)) ∧ R (.returned (.string (txt64_9_9.extract 0 ((n26_1).toNat)))) w90_78)
  (∃ nc30, J30  nc30 w90_78))
  (∃ nc30, J30  nc30 w81_39)))
  (Br (decide (n26_1 ≤ 64))
  (Does Tryz.prog 28 #[.string txt64_9_9, .string a0] w26 fun e90_79 w90_79 =>
  ∃ b90_79 : Bool, e90_79 = .returned (.bool b90_79) ∧ Br b90_79
  (((0 : Int) ≤ n26_1 ∧ n26_1 ≤ (txt64_9_9.size : Int)) ∧ R (.returned (.string (txt64_9_9.extract 0 ((n26_1).toNat)))) w90_79)
  (∃ nc30, J30  nc30 w90_79))
  (∃ nc30, J30  nc30 w26))))))
  (∃ nc30, J30  nc30 w26)))))) ∧ ∀ (nc30 : Nat) (wc30 : World), J30  nc30 wc30 →
  Br (decide (n26_1 > 8192))
  ((((a0.size : Int)) : Int) ≠ 0 ∧ InK .i64 ((8192 : Int).tdiv ((a0.size : Int))) ∧ InK .i64 (((8192 : Int).tdiv ((a0.size : Int))) * ((a0.size : Int))) ∧ Br ((((8192 : Int).tdiv ((a0.size : Int))) * ((a0.size : Int))) == 0)
  (∀ b9 w9, NewBlk wc30 b9 [.pointer none, .slice none 0 0] 82 w9 →
  Does Tryz.prog 70 #[.pointer (some ⟨b9, 0, none⟩), .int .i64 n26_1] w9 fun e108 w108 =>
  e108 = .returned (.tuple #[]) ∧ Does Tryz.prog 71 #[.pointer (some ⟨b9, 0, none⟩), .string a0] w108 fun e110 w110 =>
  ∃ n110 : Int, ∃ x110 : Value, e110 = .returned (.tuple #[.int .i64 n110, x110]) ∧ ∃ I38 : Nat → World → Prop, (∃ nl38, I38  nl38 w110) ∧ ∀ (nl38 : Nat) (wl38 : World), I38  nl38 wl38 →
  Does Tryz.prog 72 #[.pointer (some ⟨b9, 0, none⟩)] wl38 fun e111 w111 =>
  ∃ n111 : Int, e111 = .returned (.int .i64 n111) ∧ Br (decide (n111 < n26_1))
  (Does Tryz.prog 72 #[.pointer (some ⟨b9, 0, none⟩)] w111 fun e115 w115 =>
  ∃ n115 : Int, e115 = .returned (.int .i64 n115) ∧ InK .i64 (n26_1 - n115) ∧ Does Tryz.prog 72 #[.pointer (some ⟨b9, 0, none⟩)] w115 fun e117 w117 =>
  ∃ n117 : Int, e117 = .returned (.int .i64 n117) ∧ Does Tryz.prog 73 #[.pointer (some ⟨b9, 0, none⟩)] w117 fun e120 w120 =>
  ∃ s120 : ByteArray, e120 = .returned (.string s120) ∧ ((0 : Int) ≤ (if (a0.size : Int) < (if n117 < n26_1 - n115 then n117 else n26_1 - n115) then (a0.size : Int) else (if n117 < n26_1 - n115 then n117 else n26_1 - n115)) ∧ (if (a0.size : Int) < (if n117 < n26_1 - n115 then n117 else n26_1 - n115) then (a0.size : Int) else (if n117 < n26_1 - n115 then n117 else n26_1 - n115)) ≤ (s120.size : Int)) ∧ Does Tryz.prog 71 #[.pointer (some ⟨b9, 0, none⟩), .string (s120.extract 0 ((if (a0.size : Int) < (if n117 < n26_1 - n115 then n117 else n26_1 - n115) then (a0.size : Int) else (if n117 < n26_1 - n115 then n117 else n26_1 - n115)).toNat))] w120 fun e123 w123 =>
  ∃ n123 : Int, ∃ x123 : Value, e123 = .returned (.tuple #[.int .i64 n123, x123]) ∧ ∃ ml38, ml38 < nl38 ∧ I38  ml38 w123)
  (Does Tryz.prog 73 #[.pointer (some ⟨b9, 0, none⟩)] w111 fun e124 w124 =>
  ∃ s124 : ByteArray, e124 = .returned (.string s124) ∧ R (.returned (.string s124)) w124))
  (∀ b9_1 w9_1, NewBlk wc30 b9_1 [.pointer none, .slice none 0 0] 82 w9_1 →
  Does Tryz.prog 70 #[.pointer (some ⟨b9_1, 0, none⟩), .int .i64 n26_1] w9_1 fun e108_1 w108_1 =>
  e108_1 = .returned (.tuple #[]) ∧ Does Tryz.prog 71 #[.pointer (some ⟨b9_1, 0, none⟩), .string a0] w108_1 fun e110_1 w110_1 =>
  ∃ n110_1 : Int, ∃ x110_1 : Value, e110_1 = .returned (.tuple #[.int .i64 n110_1, x110_1]) ∧ ∃ I38_1 : Nat → World → Prop, (∃ nl38_1, I38_1  nl38_1 w110_1) ∧ ∀ (nl38_1 : Nat) (wl38_1 : World), I38_1  nl38_1 wl38_1 →
  Does Tryz.prog 72 #[.pointer (some ⟨b9_1, 0, none⟩)] wl38_1 fun e111_1 w111_1 =>
  ∃ n111_1 : Int, e111_1 = .returned (.int .i64 n111_1) ∧ Br (decide (n111_1 < n26_1))
  (Does Tryz.prog 72 #[.pointer (some ⟨b9_1, 0, none⟩)] w111_1 fun e115_1 w115_1 =>
  ∃ n115_1 : Int, e115_1 = .returned (.int .i64 n115_1) ∧ InK .i64 (n26_1 - n115_1) ∧ Does Tryz.prog 72 #[.pointer (some ⟨b9_1, 0, none⟩)] w115_1 fun e117_1 w117_1 =>
  ∃ n117_1 : Int, e117_1 = .returned (.int .i64 n117_1) ∧ Does Tryz.prog 73 #[.pointer (some ⟨b9_1, 0, none⟩)] w117_1 fun e120_1 w120_1 =>
  ∃ s120_1 : ByteArray, e120_1 = .returned (.string s120_1) ∧ ((0 : Int) ≤ (if ((8192 : Int).tdiv ((a0.size : Int))) * ((a0.size : Int)) < (if n117_1 < n26_1 - n115_1 then n117_1 else n26_1 - n115_1) then ((8192 : Int).tdiv ((a0.size : Int))) * ((a0.size : Int)) else (if n117_1 < n26_1 - n115_1 then n117_1 else n26_1 - n115_1)) ∧ (if ((8192 : Int).tdiv ((a0.size : Int))) * ((a0.size : Int)) < (if n117_1 < n26_1 - n115_1 then n117_1 else n26_1 - n115_1) then ((8192 : Int).tdiv ((a0.size : Int))) * ((a0.size : Int)) else (if n117_1 < n26_1 - n115_1 then n117_1 else n26_1 - n115_1)) ≤ (s120_1.size : Int)) ∧ Does Tryz.prog 71 #[.pointer (some ⟨b9_1, 0, none⟩), .string (s120_1.extract 0 ((if ((8192 : Int).tdiv ((a0.size : Int))) * ((a0.size : Int)) < (if n117_1 < n26_1 - n115_1 then n117_1 else n26_1 - n115_1) then ((8192 : Int).tdiv ((a0.size : Int))) * ((a0.size : Int)) else (if n117_1 < n26_1 - n115_1 then n117_1 else n26_1 - n115_1)).toNat))] w120_1 fun e123_1 w123_1 =>
  ∃ n123_1 : Int, ∃ x123_1 : Value, e123_1 = .returned (.tuple #[.int .i64 n123_1, x123_1]) ∧ ∃ ml38_1, ml38_1 < nl38_1 ∧ I38_1  ml38_1 w123_1)
  (Does Tryz.prog 73 #[.pointer (some ⟨b9_1, 0, none⟩)] w111_1 fun e124_1 w124_1 =>
  ∃ s124_1 : ByteArray, e124_1 = .returned (.string s124_1) ∧ R (.returned (.string s124_1)) w124_1)))
  (∀ b9_2 w9_2, NewBlk wc30 b9_2 [.pointer none, .slice none 0 0] 82 w9_2 →
  Does Tryz.prog 70 #[.pointer (some ⟨b9_2, 0, none⟩), .int .i64 n26_1] w9_2 fun e108_2 w108_2 =>
  e108_2 = .returned (.tuple #[]) ∧ Does Tryz.prog 71 #[.pointer (some ⟨b9_2, 0, none⟩), .string a0] w108_2 fun e110_2 w110_2 =>
  ∃ n110_2 : Int, ∃ x110_2 : Value, e110_2 = .returned (.tuple #[.int .i64 n110_2, x110_2]) ∧ ∃ I38_2 : Nat → World → Prop, (∃ nl38_2, I38_2  nl38_2 w110_2) ∧ ∀ (nl38_2 : Nat) (wl38_2 : World), I38_2  nl38_2 wl38_2 →
  Does Tryz.prog 72 #[.pointer (some ⟨b9_2, 0, none⟩)] wl38_2 fun e111_2 w111_2 =>
  ∃ n111_2 : Int, e111_2 = .returned (.int .i64 n111_2) ∧ Br (decide (n111_2 < n26_1))
  (Does Tryz.prog 72 #[.pointer (some ⟨b9_2, 0, none⟩)] w111_2 fun e115_2 w115_2 =>
  ∃ n115_2 : Int, e115_2 = .returned (.int .i64 n115_2) ∧ InK .i64 (n26_1 - n115_2) ∧ Does Tryz.prog 72 #[.pointer (some ⟨b9_2, 0, none⟩)] w115_2 fun e117_2 w117_2 =>
  ∃ n117_2 : Int, e117_2 = .returned (.int .i64 n117_2) ∧ Does Tryz.prog 73 #[.pointer (some ⟨b9_2, 0, none⟩)] w117_2 fun e120_2 w120_2 =>
  ∃ s120_2 : ByteArray, e120_2 = .returned (.string s120_2) ∧ ((0 : Int) ≤ (if n26_1 < (if n117_2 < n26_1 - n115_2 then n117_2 else n26_1 - n115_2) then n26_1 else (if n117_2 < n26_1 - n115_2 then n117_2 else n26_1 - n115_2)) ∧ (if n26_1 < (if n117_2 < n26_1 - n115_2 then n117_2 else n26_1 - n115_2) then n26_1 else (if n117_2 < n26_1 - n115_2 then n117_2 else n26_1 - n115_2)) ≤ (s120_2.size : Int)) ∧ Does Tryz.prog 71 #[.pointer (some ⟨b9_2, 0, none⟩), .string (s120_2.extract 0 ((if n26_1 < (if n117_2 < n26_1 - n115_2 then n117_2 else n26_1 - n115_2) then n26_1 else (if n117_2 < n26_1 - n115_2 then n117_2 else n26_1 - n115_2)).toNat))] w120_2 fun e123_2 w123_2 =>
  ∃ n123_2 : Int, ∃ x123_2 : Value, e123_2 = .returned (.tuple #[.int .i64 n123_2, x123_2]) ∧ ∃ ml38_2, ml38_2 < nl38_2 ∧ I38_2  ml38_2 w123_2)
  (Does Tryz.prog 73 #[.pointer (some ⟨b9_2, 0, none⟩)] w111_2 fun e124_2 w124_2 =>
  ∃ s124_2 : ByteArray, e124_2 = .returned (.string s124_2) ∧ R (.returned (.string s124_2)) w124_2))))))))
def f45_ann : Ann := { loops := [(38, [])], cuts := [(30, [])], flip := [], throws := [] }
theorem f45_eq (a0 : ByteArray) (a1 : Int) (w : World) (R : Ending → World → Prop) : vc Tryz.prog f45_ann (bodyOf Tryz.f45) (retQ Tryz.prog Tryz.f45 R) (envOf Tryz.f45.ntmps [.v (.string a0), .v (.int .i64 a1)]) [] w = f45_vc a0 a1 w R := by kernel_rfl
theorem f45_does (a0 : ByteArray) (a1 : Int) {w : World} {R : Ending → World → Prop} (h : f45_vc a0 a1 w R) : Does Tryz.prog 45 #[.string a0, .int .i64 a1] w R :=
  does_of_vc (ss := [.v (.string a0), .v (.int .i64 a1)]) f45_ann mixed call45 Tryz.func45 rfl rfl (show 2 ≤ Tryz.f45.ntmps by decide) ((f45_eq a0 a1 w R).symm ▸ h)
/-- Of strconv.Itoa (function 46): the condition. -/
def f46_vc (a0 : Int) (w : World) (R : Ending → World → Prop) : Prop :=
  Does Tryz.prog 74 #[.int .i64 a0] w fun e4 w4 =>
  ∃ s4 : ByteArray, e4 = .returned (.string s4) ∧ R (.returned (.string s4)) w4
def f46_ann : Ann := { loops := [], cuts := [], flip := [], throws := [] }
theorem f46_eq (a0 : Int) (w : World) (R : Ending → World → Prop) : vc Tryz.prog f46_ann (bodyOf Tryz.f46) (retQ Tryz.prog Tryz.f46 R) (envOf Tryz.f46.ntmps [.v (.int .i64 a0)]) [] w = f46_vc a0 w R := by kernel_rfl
theorem f46_does (a0 : Int) {w : World} {R : Ending → World → Prop} (h : f46_vc a0 w R) : Does Tryz.prog 46 #[.int .i64 a0] w R :=
  does_of_vc (ss := [.v (.int .i64 a0)]) f46_ann mixed call46 Tryz.func46 rfl rfl (show 1 ≤ Tryz.f46.ntmps by decide) ((f46_eq a0 w R).symm ▸ h)
/-- Of internal/stringslite.TrimPrefix (function 48): the condition. -/
def f48_vc (a0 : ByteArray) (a1 : ByteArray) (w : World) (R : Ending → World → Prop) : Prop :=
  Does Tryz.prog 51 #[.string a0, .string a1] w fun e7 w7 =>
  ∃ b7 : Bool, e7 = .returned (.bool b7) ∧ Br b7
  (((0 : Int) ≤ ((a1.size : Int)) ∧ ((a1.size : Int)) ≤ (a0.size : Int)) ∧ R (.returned (.string (a0.extract (((a1.size : Int)).toNat) a0.size))) w7)
  (R (.returned (.string a0)) w7)
def f48_ann : Ann := { loops := [], cuts := [], flip := [], throws := [] }
theorem f48_eq (a0 : ByteArray) (a1 : ByteArray) (w : World) (R : Ending → World → Prop) : vc Tryz.prog f48_ann (bodyOf Tryz.f48) (retQ Tryz.prog Tryz.f48 R) (envOf Tryz.f48.ntmps [.v (.string a0), .v (.string a1)]) [] w = f48_vc a0 a1 w R := by kernel_rfl
theorem f48_does (a0 : ByteArray) (a1 : ByteArray) {w : World} {R : Ending → World → Prop} (h : f48_vc a0 a1 w R) : Does Tryz.prog 48 #[.string a0, .string a1] w R :=
  does_of_vc (ss := [.v (.string a0), .v (.string a1)]) f48_ann mixed call48 Tryz.func48 rfl rfl (show 2 ≤ Tryz.f48.ntmps by decide) ((f48_eq a0 a1 w R).symm ▸ h)
/-- Of internal/stringslite.HasPrefix (function 51): the condition. -/
def f51_vc (a0 : ByteArray) (a1 : ByteArray) (w : World) (R : Ending → World → Prop) : Prop :=
  Br (decide (((a0.size : Int)) ≥ ((a1.size : Int))))
  (((0 : Int) ≤ ((a1.size : Int)) ∧ ((a1.size : Int)) ≤ (a0.size : Int)) ∧ R (.returned (.bool ((a0.extract 0 (((a1.size : Int)).toNat)).toList == a1.toList))) w)
  (R (.returned (.bool false)) w)
def f51_ann : Ann := { loops := [], cuts := [], flip := [], throws := [] }
theorem f51_eq (a0 : ByteArray) (a1 : ByteArray) (w : World) (R : Ending → World → Prop) : vc Tryz.prog f51_ann (bodyOf Tryz.f51) (retQ Tryz.prog Tryz.f51 R) (envOf Tryz.f51.ntmps [.v (.string a0), .v (.string a1)]) [] w = f51_vc a0 a1 w R := by kernel_rfl
theorem f51_does (a0 : ByteArray) (a1 : ByteArray) {w : World} {R : Ending → World → Prop} (h : f51_vc a0 a1 w R) : Does Tryz.prog 51 #[.string a0, .string a1] w R :=
  does_of_vc (ss := [.v (.string a0), .v (.string a1)]) f51_ann mixed call51 Tryz.func51 rfl rfl (show 2 ≤ Tryz.f51.ntmps by decide) ((f51_eq a0 a1 w R).symm ▸ h)
/-- Of cmp.isNaN[int] (function 56): the condition. -/
def f56_vc (a0 : Int) (w : World) (R : Ending → World → Prop) : Prop :=
  R (.returned (.bool (a0 != a0))) w
def f56_ann : Ann := { loops := [], cuts := [], flip := [], throws := [] }
theorem f56_eq (a0 : Int) (w : World) (R : Ending → World → Prop) : vc Tryz.prog f56_ann (bodyOf Tryz.f56) (retQ Tryz.prog Tryz.f56 R) (envOf Tryz.f56.ntmps [.v (.int .i64 a0)]) [] w = f56_vc a0 w R := by kernel_rfl
theorem f56_does (a0 : Int) {w : World} {R : Ending → World → Prop} (h : f56_vc a0 w R) : Does Tryz.prog 56 #[.int .i64 a0] w R :=
  does_of_vc (ss := [.v (.int .i64 a0)]) f56_ann mixed call56 Tryz.func56 rfl rfl (show 1 ≤ Tryz.f56.ntmps by decide) ((f56_eq a0 w R).symm ▸ h)
/-- Of cmp.isNaN[float64] (function 57): the condition. -/
def f57_vc (a0 : Nat) (w : World) (R : Ending → World → Prop) : Prop :=
  R (.returned (.bool ((FloatKind.f64.format.order a0 a0 != some Ordering.eq)))) w
def f57_ann : Ann := { loops := [], cuts := [], flip := [], throws := [] }
theorem f57_eq (a0 : Nat) (w : World) (R : Ending → World → Prop) : vc Tryz.prog f57_ann (bodyOf Tryz.f57) (retQ Tryz.prog Tryz.f57 R) (envOf Tryz.f57.ntmps [.v (.float .f64 a0)]) [] w = f57_vc a0 w R := by kernel_rfl
theorem f57_does (a0 : Nat) {w : World} {R : Ending → World → Prop} (h : f57_vc a0 w R) : Does Tryz.prog 57 #[.float .f64 a0] w R :=
  does_of_vc (ss := [.v (.float .f64 a0)]) f57_ann mixed call57 Tryz.func57 rfl rfl (show 1 ≤ Tryz.f57.ntmps by decide) ((f57_eq a0 w R).symm ▸ h)
/-- Of internal/strconv.small (function 58): the condition. -/
def f58_vc (a0 : Int) (w : World) (R : Ending → World → Prop) : Prop :=
  Br (decide (a0 < 10))
  (InK .i64 (a0 + 1) ∧ ((0 : Int) ≤ (a0 + 1) ∧ (a0 + 1) ≤ (((({ data := #[48, 49, 50, 51, 52, 53, 54, 55, 56, 57, 97, 98, 99, 100, 101, 102, 103, 104, 105, 106, 107, 108, 109, 110, 111, 112, 113, 114, 115, 116, 117, 118, 119, 120, 121, 122] } : ByteArray)).size : Nat) : Int)) ∧ ((0 : Int) ≤ a0 ∧ a0 ≤ (a0 + 1)) ∧ R (.returned (.string ((({ data := #[48, 49, 50, 51, 52, 53, 54, 55, 56, 57, 97, 98, 99, 100, 101, 102, 103, 104, 105, 106, 107, 108, 109, 110, 111, 112, 113, 114, 115, 116, 117, 118, 119, 120, 121, 122] } : ByteArray)).extract ((a0).toNat) ((a0 + 1).toNat)))) w)
  (InK .i64 (a0 * 2) ∧ InK .i64 (a0 * 2) ∧ InK .i64 ((a0 * 2) + 2) ∧ ((0 : Int) ≤ ((a0 * 2) + 2) ∧ ((a0 * 2) + 2) ≤ (txt200_48_57.size : Int)) ∧ ((0 : Int) ≤ (a0 * 2) ∧ (a0 * 2) ≤ ((a0 * 2) + 2)) ∧ R (.returned (.string (txt200_48_57.extract ((a0 * 2).toNat) (((a0 * 2) + 2).toNat)))) w)
def f58_ann : Ann := { loops := [], cuts := [], flip := [], throws := [] }
theorem f58_eq (a0 : Int) (w : World) (R : Ending → World → Prop) : vc Tryz.prog f58_ann (bodyOf Tryz.f58) (retQ Tryz.prog Tryz.f58 R) (envOf Tryz.f58.ntmps [.v (.int .i64 a0)]) [] w = f58_vc a0 w R := by kernel_rfl
theorem f58_does (a0 : Int) {w : World} {R : Ending → World → Prop} (h : f58_vc a0 w R) : Does Tryz.prog 58 #[.int .i64 a0] w R :=
  does_of_vc (ss := [.v (.int .i64 a0)]) f58_ann mixed call58 Tryz.func58 rfl rfl (show 1 ≤ Tryz.f58.ntmps by decide) ((f58_eq a0 w R).symm ▸ h)
/-- Of internal/strconv.numDigits (function 59): the condition. -/
def f59_vc (a0 : Int) (w : World) (R : Ending → World → Prop) : Prop :=
  Does Tryz.prog 82 #[.int .u64 a0] w fun e5 w5 =>
  ∃ n5 : Int, e5 = .returned (.int .i64 n5) ∧ Does Tryz.prog 81 #[.int .i64 n5] w5 fun e6 w6 =>
  ∃ n6 : Int, e6 = .returned (.int .i64 n6) ∧ ((0 : Int) ≤ n6 ∧ n6 < ((20 : Nat) : Int)) ∧ ∃ n11 : Int, w6.cell? ⟨1, 0 + (n6).toNat, none⟩ = some (.int .u64 n11) ∧ Does Tryz.prog 83 #[.bool (decide (a0 ≥ n11))] w6 fun e13 w13 =>
  ∃ n13 : Int, e13 = .returned (.int .i64 n13) ∧ InK .i64 (n6 + n13) ∧ R (.returned (.int .i64 (n6 + n13))) w13
def f59_ann : Ann := { loops := [], cuts := [], flip := [], throws := [] }
theorem f59_eq (a0 : Int) (w : World) (R : Ending → World → Prop) : vc Tryz.prog f59_ann (bodyOf Tryz.f59) (retQ Tryz.prog Tryz.f59 R) (envOf Tryz.f59.ntmps [.v (.int .u64 a0)]) [] w = f59_vc a0 w R := by kernel_rfl
theorem f59_does (a0 : Int) {w : World} {R : Ending → World → Prop} (h : f59_vc a0 w R) : Does Tryz.prog 59 #[.int .u64 a0] w R :=
  does_of_vc (ss := [.v (.int .u64 a0)]) f59_ann mixed call59 Tryz.func59 rfl rfl (show 1 ≤ Tryz.f59.ntmps by decide) ((f59_eq a0 w R).symm ▸ h)
/-- Of internal/strconv.formatBase10 (function 60): the condition. -/
def f60_vc (p0 : Option Addr) (l0 _c0 : Nat) (a1 : Int) (w : World) (R : Ending → World → Prop) : Prop :=
  ∃ I1 : Int → Int → Nat → World → Prop, (∃ nl1, I1 a1 ((l0 : Int)) nl1 w) ∧ ∀ x1 : Int, ∀ x4 : Int, ∀ (nl1 : Nat) (wl1 : World), I1 x1 x4 nl1 wl1 →
  Br (decide (x4 ≥ 8))
  ((100000000 : Int) ≠ 0 ∧ (100000000 : Int) ≠ 0 ∧ (10000 : Int) ≠ 0 ∧ (10000 : Int) ≠ 0 ∧ (100 : Int) ≠ 0 ∧ (100 : Int) ≠ 0 ∧ (100 : Int) ≠ 0 ∧ (100 : Int) ≠ 0 ∧ ∀ wd7, Drew wl1 wd7 →
  InK .i64 (x4 - 1) ∧ InK .i64 (x4 - 2) ∧ ((0 : Int) ≤ (IntKind.wrap .u32 ((IntKind.wrap .u32 ((((IntKind.wrap .u32 (x1.tmod 100000000)).tmod 10000).tmod 100) * 2)) + 1)) ∧ (IntKind.wrap .u32 ((IntKind.wrap .u32 ((((IntKind.wrap .u32 (x1.tmod 100000000)).tmod 10000).tmod 100) * 2)) + 1)) < (txt200_48_57.size : Int)) ∧ ((0 : Int) ≤ (IntKind.wrap .u32 ((((IntKind.wrap .u32 (x1.tmod 100000000)).tmod 10000).tmod 100) * 2)) ∧ (IntKind.wrap .u32 ((((IntKind.wrap .u32 (x1.tmod 100000000)).tmod 10000).tmod 100) * 2)) < (txt200_48_57.size : Int)) ∧ ((0 : Int) ≤ (x4 - 1) ∧ (x4 - 1) < (l0 : Int)) ∧ ∃ b53 o53, p0 = some ⟨b53, o53, none⟩ ∧ CanStore wd7 b53 (o53 + (x4 - 1).toNat) ∧ ∀ ws, Stored wd7 b53 (o53 + (x4 - 1).toNat) (.int .u8 (sb txt200_48_57 (IntKind.wrap .u32 ((IntKind.wrap .u32 ((((IntKind.wrap .u32 (x1.tmod 100000000)).tmod 10000).tmod 100) * 2)) + 1)))) ws →
  ((0 : Int) ≤ (x4 - 2) ∧ (x4 - 2) < (l0 : Int)) ∧ ∃ b54 o54, p0 = some ⟨b54, o54, none⟩ ∧ CanStore ws b54 (o54 + (x4 - 2).toNat) ∧ ∀ ws_1, Stored ws b54 (o54 + (x4 - 2).toNat) (.int .u8 (sb txt200_48_57 (IntKind.wrap .u32 ((((IntKind.wrap .u32 (x1.tmod 100000000)).tmod 10000).tmod 100) * 2)))) ws_1 →
  ∀ wd8, Drew ws_1 wd8 →
  InK .i64 (x4 - 3) ∧ InK .i64 (x4 - 4) ∧ ((0 : Int) ≤ (IntKind.wrap .u32 ((IntKind.wrap .u32 ((IntKind.wrap .u32 (((IntKind.wrap .u32 (x1.tmod 100000000)).tmod 10000).tdiv 100)) * 2)) + 1)) ∧ (IntKind.wrap .u32 ((IntKind.wrap .u32 ((IntKind.wrap .u32 (((IntKind.wrap .u32 (x1.tmod 100000000)).tmod 10000).tdiv 100)) * 2)) + 1)) < (txt200_48_57.size : Int)) ∧ ((0 : Int) ≤ (IntKind.wrap .u32 ((IntKind.wrap .u32 (((IntKind.wrap .u32 (x1.tmod 100000000)).tmod 10000).tdiv 100)) * 2)) ∧ (IntKind.wrap .u32 ((IntKind.wrap .u32 (((IntKind.wrap .u32 (x1.tmod 100000000)).tmod 10000).tdiv 100)) * 2)) < (txt200_48_57.size : Int)) ∧ ((0 : Int) ≤ (x4 - 3) ∧ (x4 - 3) < (l0 : Int)) ∧ ∃ b66 o66, p0 = some ⟨b66, o66, none⟩ ∧ CanStore wd8 b66 (o66 + (x4 - 3).toNat) ∧ ∀ ws_2, Stored wd8 b66 (o66 + (x4 - 3).toNat) (.int .u8 (sb txt200_48_57 (IntKind.wrap .u32 ((IntKind.wrap .u32 ((IntKind.wrap .u32 (((IntKind.wrap .u32 (x1.tmod 100000000)).tmod 10000).tdiv 100)) * 2)) + 1)))) ws_2 →
  ((0 : Int) ≤ (x4 - 4) ∧ (x4 - 4) < (l0 : Int)) ∧ ∃ b67 o67, p0 = some ⟨b67, o67, none⟩ ∧ CanStore ws_2 b67 (o67 + (x4 - 4).toNat) ∧ ∀ ws_3, Stored ws_2 b67 (o67 + (x4 - 4).toNat) (.int .u8 (sb txt200_48_57 (IntKind.wrap .u32 ((IntKind.wrap .u32 (((IntKind.wrap .u32 (x1.tmod 100000000)).tmod 10000).tdiv 100)) * 2)))) ws_3 →
  ∀ wd9, Drew ws_3 wd9 →
  InK .i64 (x4 - 5) ∧ InK .i64 (x4 - 6) ∧ ((0 : Int) ≤ (IntKind.wrap .u32 ((IntKind.wrap .u32 (((IntKind.wrap .u32 ((IntKind.wrap .u32 (x1.tmod 100000000)).tdiv 10000)).tmod 100) * 2)) + 1)) ∧ (IntKind.wrap .u32 ((IntKind.wrap .u32 (((IntKind.wrap .u32 ((IntKind.wrap .u32 (x1.tmod 100000000)).tdiv 10000)).tmod 100) * 2)) + 1)) < (txt200_48_57.size : Int)) ∧ ((0 : Int) ≤ (IntKind.wrap .u32 (((IntKind.wrap .u32 ((IntKind.wrap .u32 (x1.tmod 100000000)).tdiv 10000)).tmod 100) * 2)) ∧ (IntKind.wrap .u32 (((IntKind.wrap .u32 ((IntKind.wrap .u32 (x1.tmod 100000000)).tdiv 10000)).tmod 100) * 2)) < (txt200_48_57.size : Int)) ∧ ((0 : Int) ≤ (x4 - 5) ∧ (x4 - 5) < (l0 : Int)) ∧ ∃ b79 o79, p0 = some ⟨b79, o79, none⟩ ∧ CanStore wd9 b79 (o79 + (x4 - 5).toNat) ∧ ∀ ws_4, Stored wd9 b79 (o79 + (x4 - 5).toNat) (.int .u8 (sb txt200_48_57 (IntKind.wrap .u32 ((IntKind.wrap .u32 (((IntKind.wrap .u32 ((IntKind.wrap .u32 (x1.tmod 100000000)).tdiv 10000)).tmod 100) * 2)) + 1)))) ws_4 →
  ((0 : Int) ≤ (x4 - 6) ∧ (x4 - 6) < (l0 : Int)) ∧ ∃ b80 o80, p0 = some ⟨b80, o80, none⟩ ∧ CanStore ws_4 b80 (o80 + (x4 - 6).toNat) ∧ ∀ ws_5, Stored ws_4 b80 (o80 + (x4 - 6).toNat) (.int .u8 (sb txt200_48_57 (IntKind.wrap .u32 (((IntKind.wrap .u32 ((IntKind.wrap .u32 (x1.tmod 100000000)).tdiv 10000)).tmod 100) * 2)))) ws_5 →
  ∀ wd10, Drew ws_5 wd10 →
  InK .i64 (x4 - 7) ∧ InK .i64 (x4 - 8) ∧ ((0 : Int) ≤ (IntKind.wrap .u32 ((IntKind.wrap .u32 ((IntKind.wrap .u32 ((IntKind.wrap .u32 ((IntKind.wrap .u32 (x1.tmod 100000000)).tdiv 10000)).tdiv 100)) * 2)) + 1)) ∧ (IntKind.wrap .u32 ((IntKind.wrap .u32 ((IntKind.wrap .u32 ((IntKind.wrap .u32 ((IntKind.wrap .u32 (x1.tmod 100000000)).tdiv 10000)).tdiv 100)) * 2)) + 1)) < (txt200_48_57.size : Int)) ∧ ((0 : Int) ≤ (IntKind.wrap .u32 ((IntKind.wrap .u32 ((IntKind.wrap .u32 ((IntKind.wrap .u32 (x1.tmod 100000000)).tdiv 10000)).tdiv 100)) * 2)) ∧ (IntKind.wrap .u32 ((IntKind.wrap .u32 ((IntKind.wrap .u32 ((IntKind.wrap .u32 (x1.tmod 100000000)).tdiv 10000)).tdiv 100)) * 2)) < (txt200_48_57.size : Int)) ∧ ((0 : Int) ≤ (x4 - 7) ∧ (x4 - 7) < (l0 : Int)) ∧ ∃ b92 o92, p0 = some ⟨b92, o92, none⟩ ∧ CanStore wd10 b92 (o92 + (x4 - 7).toNat) ∧ ∀ ws_6, Stored wd10 b92 (o92 + (x4 - 7).toNat) (.int .u8 (sb txt200_48_57 (IntKind.wrap .u32 ((IntKind.wrap .u32 ((IntKind.wrap .u32 ((IntKind.wrap .u32 ((IntKind.wrap .u32 (x1.tmod 100000000)).tdiv 10000)).tdiv 100)) * 2)) + 1)))) ws_6 →
  ((0 : Int) ≤ (x4 - 8) ∧ (x4 - 8) < (l0 : Int)) ∧ ∃ b93 o93, p0 = some ⟨b93, o93, none⟩ ∧ CanStore ws_6 b93 (o93 + (x4 - 8).toNat) ∧ ∀ ws_7, Stored ws_6 b93 (o93 + (x4 - 8).toNat) (.int .u8 (sb txt200_48_57 (IntKind.wrap .u32 ((IntKind.wrap .u32 ((IntKind.wrap .u32 ((IntKind.wrap .u32 (x1.tmod 100000000)).tdiv 10000)).tdiv 100)) * 2)))) ws_7 →
  InK .i64 (x4 - 8) ∧ ∃ ml1, ml1 < nl1 ∧ I1 (IntKind.wrap .u64 (x1.tdiv 100000000)) (x4 - 8) ml1 ws_7)
  (Br (decide (x4 ≥ 4))
  ((10000 : Int) ≠ 0 ∧ (10000 : Int) ≠ 0 ∧ (100 : Int) ≠ 0 ∧ (100 : Int) ≠ 0 ∧ ∀ wd17, Drew wl1 wd17 →
  InK .i64 (x4 - 1) ∧ InK .i64 (x4 - 2) ∧ ((0 : Int) ≤ (IntKind.wrap .u32 ((IntKind.wrap .u32 ((((IntKind.wrap .u32 (x1)).tmod 10000).tmod 100) * 2)) + 1)) ∧ (IntKind.wrap .u32 ((IntKind.wrap .u32 ((((IntKind.wrap .u32 (x1)).tmod 10000).tmod 100) * 2)) + 1)) < (txt200_48_57.size : Int)) ∧ ((0 : Int) ≤ (IntKind.wrap .u32 ((((IntKind.wrap .u32 (x1)).tmod 10000).tmod 100) * 2)) ∧ (IntKind.wrap .u32 ((((IntKind.wrap .u32 (x1)).tmod 10000).tmod 100) * 2)) < (txt200_48_57.size : Int)) ∧ ((0 : Int) ≤ (x4 - 1) ∧ (x4 - 1) < (l0 : Int)) ∧ ∃ b121 o121, p0 = some ⟨b121, o121, none⟩ ∧ CanStore wd17 b121 (o121 + (x4 - 1).toNat) ∧ ∀ ws_8, Stored wd17 b121 (o121 + (x4 - 1).toNat) (.int .u8 (sb txt200_48_57 (IntKind.wrap .u32 ((IntKind.wrap .u32 ((((IntKind.wrap .u32 (x1)).tmod 10000).tmod 100) * 2)) + 1)))) ws_8 →
  ((0 : Int) ≤ (x4 - 2) ∧ (x4 - 2) < (l0 : Int)) ∧ ∃ b122 o122, p0 = some ⟨b122, o122, none⟩ ∧ CanStore ws_8 b122 (o122 + (x4 - 2).toNat) ∧ ∀ ws_9, Stored ws_8 b122 (o122 + (x4 - 2).toNat) (.int .u8 (sb txt200_48_57 (IntKind.wrap .u32 ((((IntKind.wrap .u32 (x1)).tmod 10000).tmod 100) * 2)))) ws_9 →
  ∀ wd18, Drew ws_9 wd18 →
  InK .i64 (x4 - 3) ∧ InK .i64 (x4 - 4) ∧ ((0 : Int) ≤ (IntKind.wrap .u32 ((IntKind.wrap .u32 ((IntKind.wrap .u32 (((IntKind.wrap .u32 (x1)).tmod 10000).tdiv 100)) * 2)) + 1)) ∧ (IntKind.wrap .u32 ((IntKind.wrap .u32 ((IntKind.wrap .u32 (((IntKind.wrap .u32 (x1)).tmod 10000).tdiv 100)) * 2)) + 1)) < (txt200_48_57.size : Int)) ∧ ((0 : Int) ≤ (IntKind.wrap .u32 ((IntKind.wrap .u32 (((IntKind.wrap .u32 (x1)).tmod 10000).tdiv 100)) * 2)) ∧ (IntKind.wrap .u32 ((IntKind.wrap .u32 (((IntKind.wrap .u32 (x1)).tmod 10000).tdiv 100)) * 2)) < (txt200_48_57.size : Int)) ∧ ((0 : Int) ≤ (x4 - 3) ∧ (x4 - 3) < (l0 : Int)) ∧ ∃ b134 o134, p0 = some ⟨b134, o134, none⟩ ∧ CanStore wd18 b134 (o134 + (x4 - 3).toNat) ∧ ∀ ws_10, Stored wd18 b134 (o134 + (x4 - 3).toNat) (.int .u8 (sb txt200_48_57 (IntKind.wrap .u32 ((IntKind.wrap .u32 ((IntKind.wrap .u32 (((IntKind.wrap .u32 (x1)).tmod 10000).tdiv 100)) * 2)) + 1)))) ws_10 →
  ((0 : Int) ≤ (x4 - 4) ∧ (x4 - 4) < (l0 : Int)) ∧ ∃ b135 o135, p0 = some ⟨b135, o135, none⟩ ∧ CanStore ws_10 b135 (o135 + (x4 - 4).toNat) ∧ ∀ ws_11, Stored ws_10 b135 (o135 + (x4 - 4).toNat) (.int .u8 (sb txt200_48_57 (IntKind.wrap .u32 ((IntKind.wrap .u32 (((IntKind.wrap .u32 (x1)).tmod 10000).tdiv 100)) * 2)))) ws_11 →
  InK .i64 (x4 - 4) ∧ Br (decide ((x4 - 4) ≥ 2))
  ((100 : Int) ≠ 0 ∧ (100 : Int) ≠ 0 ∧ ∀ wd23, Drew ws_11 wd23 →
  InK .i64 ((x4 - 4) - 1) ∧ InK .i64 ((x4 - 4) - 2) ∧ ((0 : Int) ≤ (IntKind.wrap .u32 ((IntKind.wrap .u32 (((IntKind.wrap .u32 ((IntKind.wrap .u32 (x1)).tdiv 10000)).tmod 100) * 2)) + 1)) ∧ (IntKind.wrap .u32 ((IntKind.wrap .u32 (((IntKind.wrap .u32 ((IntKind.wrap .u32 (x1)).tdiv 10000)).tmod 100) * 2)) + 1)) < (txt200_48_57.size : Int)) ∧ ((0 : Int) ≤ (IntKind.wrap .u32 (((IntKind.wrap .u32 ((IntKind.wrap .u32 (x1)).tdiv 10000)).tmod 100) * 2)) ∧ (IntKind.wrap .u32 (((IntKind.wrap .u32 ((IntKind.wrap .u32 (x1)).tdiv 10000)).tmod 100) * 2)) < (txt200_48_57.size : Int)) ∧ ((0 : Int) ≤ ((x4 - 4) - 1) ∧ ((x4 - 4) - 1) < (l0 : Int)) ∧ ∃ b156 o156, p0 = some ⟨b156, o156, none⟩ ∧ CanStore wd23 b156 (o156 + ((x4 - 4) - 1).toNat) ∧ ∀ ws_12, Stored wd23 b156 (o156 + ((x4 - 4) - 1).toNat) (.int .u8 (sb txt200_48_57 (IntKind.wrap .u32 ((IntKind.wrap .u32 (((IntKind.wrap .u32 ((IntKind.wrap .u32 (x1)).tdiv 10000)).tmod 100) * 2)) + 1)))) ws_12 →
  ((0 : Int) ≤ ((x4 - 4) - 2) ∧ ((x4 - 4) - 2) < (l0 : Int)) ∧ ∃ b157 o157, p0 = some ⟨b157, o157, none⟩ ∧ CanStore ws_12 b157 (o157 + ((x4 - 4) - 2).toNat) ∧ ∀ ws_13, Stored ws_12 b157 (o157 + ((x4 - 4) - 2).toNat) (.int .u8 (sb txt200_48_57 (IntKind.wrap .u32 (((IntKind.wrap .u32 ((IntKind.wrap .u32 (x1)).tdiv 10000)).tmod 100) * 2)))) ws_13 →
  InK .i64 ((x4 - 4) - 2) ∧ Br (decide (((x4 - 4) - 2) > 0))
  (((0 : Int) ≤ 0 ∧ 0 < (l0 : Int)) ∧ ∃ b166 o166, p0 = some ⟨b166, o166, none⟩ ∧ CanStore ws_13 b166 (o166 + (0 : Int).toNat) ∧ ∀ ws_14, Stored ws_13 b166 (o166 + (0 : Int).toNat) (.int .u8 (IntKind.wrap .u8 (IntKind.wrap .u32 (48 + (IntKind.wrap .u32 ((IntKind.wrap .u32 ((IntKind.wrap .u32 (x1)).tdiv 10000)).tdiv 100)))))) ws_14 →
  R (.returned (.tuple #[])) ws_14)
  (R (.returned (.tuple #[])) ws_13))
  (Br (decide ((x4 - 4) > 0))
  (((0 : Int) ≤ 0 ∧ 0 < (l0 : Int)) ∧ ∃ b166_1 o166_1, p0 = some ⟨b166_1, o166_1, none⟩ ∧ CanStore ws_11 b166_1 (o166_1 + (0 : Int).toNat) ∧ ∀ ws_15, Stored ws_11 b166_1 (o166_1 + (0 : Int).toNat) (.int .u8 (IntKind.wrap .u8 (IntKind.wrap .u32 (48 + (IntKind.wrap .u32 ((IntKind.wrap .u32 (x1)).tdiv 10000)))))) ws_15 →
  R (.returned (.tuple #[])) ws_15)
  (R (.returned (.tuple #[])) ws_11)))
  (Br (decide (x4 ≥ 2))
  ((100 : Int) ≠ 0 ∧ (100 : Int) ≠ 0 ∧ ∀ wd23_1, Drew wl1 wd23_1 →
  InK .i64 (x4 - 1) ∧ InK .i64 (x4 - 2) ∧ ((0 : Int) ≤ (IntKind.wrap .u32 ((IntKind.wrap .u32 (((IntKind.wrap .u32 (x1)).tmod 100) * 2)) + 1)) ∧ (IntKind.wrap .u32 ((IntKind.wrap .u32 (((IntKind.wrap .u32 (x1)).tmod 100) * 2)) + 1)) < (txt200_48_57.size : Int)) ∧ ((0 : Int) ≤ (IntKind.wrap .u32 (((IntKind.wrap .u32 (x1)).tmod 100) * 2)) ∧ (IntKind.wrap .u32 (((IntKind.wrap .u32 (x1)).tmod 100) * 2)) < (txt200_48_57.size : Int)) ∧ ((0 : Int) ≤ (x4 - 1) ∧ (x4 - 1) < (l0 : Int)) ∧ ∃ b156_1 o156_1, p0 = some ⟨b156_1, o156_1, none⟩ ∧ CanStore wd23_1 b156_1 (o156_1 + (x4 - 1).toNat) ∧ ∀ ws_16, Stored wd23_1 b156_1 (o156_1 + (x4 - 1).toNat) (.int .u8 (sb txt200_48_57 (IntKind.wrap .u32 ((IntKind.wrap .u32 (((IntKind.wrap .u32 (x1)).tmod 100) * 2)) + 1)))) ws_16 →
  ((0 : Int) ≤ (x4 - 2) ∧ (x4 - 2) < (l0 : Int)) ∧ ∃ b157_1 o157_1, p0 = some ⟨b157_1, o157_1, none⟩ ∧ CanStore ws_16 b157_1 (o157_1 + (x4 - 2).toNat) ∧ ∀ ws_17, Stored ws_16 b157_1 (o157_1 + (x4 - 2).toNat) (.int .u8 (sb txt200_48_57 (IntKind.wrap .u32 (((IntKind.wrap .u32 (x1)).tmod 100) * 2)))) ws_17 →
  InK .i64 (x4 - 2) ∧ Br (decide ((x4 - 2) > 0))
  (((0 : Int) ≤ 0 ∧ 0 < (l0 : Int)) ∧ ∃ b166_2 o166_2, p0 = some ⟨b166_2, o166_2, none⟩ ∧ CanStore ws_17 b166_2 (o166_2 + (0 : Int).toNat) ∧ ∀ ws_18, Stored ws_17 b166_2 (o166_2 + (0 : Int).toNat) (.int .u8 (IntKind.wrap .u8 (IntKind.wrap .u32 (48 + (IntKind.wrap .u32 ((IntKind.wrap .u32 (x1)).tdiv 100)))))) ws_18 →
  R (.returned (.tuple #[])) ws_18)
  (R (.returned (.tuple #[])) ws_17))
  (Br (decide (x4 > 0))
  (((0 : Int) ≤ 0 ∧ 0 < (l0 : Int)) ∧ ∃ b166_3 o166_3, p0 = some ⟨b166_3, o166_3, none⟩ ∧ CanStore wl1 b166_3 (o166_3 + (0 : Int).toNat) ∧ ∀ ws_19, Stored wl1 b166_3 (o166_3 + (0 : Int).toNat) (.int .u8 (IntKind.wrap .u8 (IntKind.wrap .u32 (48 + (IntKind.wrap .u32 (x1)))))) ws_19 →
  R (.returned (.tuple #[])) ws_19)
  (R (.returned (.tuple #[])) wl1))))
def f60_ann : Ann := { loops := [(1, [(1, .int .u64), (4, .int .i64)])], cuts := [], flip := [], throws := [] }
theorem f60_eq (p0 : Option Addr) (l0 c0 : Nat) (a1 : Int) (w : World) (R : Ending → World → Prop) : vc Tryz.prog f60_ann (bodyOf Tryz.f60) (retQ Tryz.prog Tryz.f60 R) (envOf Tryz.f60.ntmps [.v (.slice p0 l0 c0), .v (.int .u64 a1)]) [] w = f60_vc p0 l0 c0 a1 w R := by kernel_rfl
theorem f60_does (p0 : Option Addr) (l0 c0 : Nat) (a1 : Int) {w : World} {R : Ending → World → Prop} (h : f60_vc p0 l0 c0 a1 w R) : Does Tryz.prog 60 #[.slice p0 l0 c0, .int .u64 a1] w R :=
  does_of_vc (ss := [.v (.slice p0 l0 c0), .v (.int .u64 a1)]) f60_ann mixed call60 Tryz.func60 rfl rfl (show 2 ≤ Tryz.f60.ntmps by decide) ((f60_eq p0 l0 c0 a1 w R).symm ▸ h)
/-- Of internal/strconv.formatBits (function 61): the condition. -/
def f61_vc (p0 : Option Addr) (l0 c0 : Nat) (a1 : Int) (a2 : Int) (a3 : Bool) (a4 : Bool) (w : World) (R : Ending → World → Prop) : Prop :=
  Br (decide (a2 < 2))
  (R (.panicked [{ v := .iface 9 (.string txt41_115_101), recovered := false }]) w)
  (Br (a2 == 10)
  (R (.panicked [{ v := .iface 9 (.string txt41_115_101), recovered := false }]) w)
  (Br (decide (a2 > 36))
  (R (.panicked [{ v := .iface 9 (.string txt41_115_101), recovered := false }]) w)
  (∀ b12 w12, NewBlk w b12 (List.replicate 65 (.int .u8 0) : List Value) 98 w12 →
  Br a3
  (Does Tryz.prog 84 #[.int .i64 a2] w12 fun e34 w34 =>
  ∃ b34 : Bool, e34 = .returned (.bool b34) ∧ Br b34
  (Does Tryz.prog 85 #[.int .u64 (IntKind.wrap .u64 (a2))] w34 fun e37 w37 =>
  ∃ n37 : Int, e37 = .returned (.int .i64 n37) ∧ ∃ I11 : Int → Int → Nat → World → Prop, (∃ nl11, I11 (IntKind.wrap .u64 (0 - a1)) 65 nl11 w37) ∧ ∀ x1 : Int, ∀ x13 : Int, ∀ (nl11 : Nat) (wl11 : World), I11 x1 x13 nl11 wl11 →
  Br (decide (x1 ≥ (IntKind.wrap .u64 (a2))))
  (InK .i64 (x13 - 1) ∧ ((0 : Int) ≤ (bits .and .u64 x1 (IntKind.wrap .u64 ((IntKind.wrap .u64 (a2)) - 1))) ∧ (bits .and .u64 x1 (IntKind.wrap .u64 ((IntKind.wrap .u64 (a2)) - 1))) < ((({ data := #[48, 49, 50, 51, 52, 53, 54, 55, 56, 57, 97, 98, 99, 100, 101, 102, 103, 104, 105, 106, 107, 108, 109, 110, 111, 112, 113, 114, 115, 116, 117, 118, 119, 120, 121, 122] } : ByteArray)).size : Int)) ∧ ((0 : Int) ≤ (x13 - 1) ∧ (x13 - 1) < ((65 : Nat) : Int)) ∧ CanStore wl11 b12 (0 + (x13 - 1).toNat) ∧ ∀ ws, Stored wl11 b12 (0 + (x13 - 1).toNat) (.int .u8 (sb (({ data := #[48, 49, 50, 51, 52, 53, 54, 55, 56, 57, 97, 98, 99, 100, 101, 102, 103, 104, 105, 106, 107, 108, 109, 110, 111, 112, 113, 114, 115, 116, 117, 118, 119, 120, 121, 122] } : ByteArray)) (bits .and .u64 x1 (IntKind.wrap .u64 ((IntKind.wrap .u64 (a2)) - 1))))) ws →
  (0 : Int) ≤ (IntKind.wrap .u64 (n37)) ∧ ∃ ml11, ml11 < nl11 ∧ I11 (x1.fdiv (2 ^ (min (IntKind.wrap .u64 (n37)).toNat 64))) (x13 - 1) ml11 ws)
  (InK .i64 (x13 - 1) ∧ ((0 : Int) ≤ x1 ∧ x1 < ((({ data := #[48, 49, 50, 51, 52, 53, 54, 55, 56, 57, 97, 98, 99, 100, 101, 102, 103, 104, 105, 106, 107, 108, 109, 110, 111, 112, 113, 114, 115, 116, 117, 118, 119, 120, 121, 122] } : ByteArray)).size : Int)) ∧ ((0 : Int) ≤ (x13 - 1) ∧ (x13 - 1) < ((65 : Nat) : Int)) ∧ CanStore wl11 b12 (0 + (x13 - 1).toNat) ∧ ∀ ws_1, Stored wl11 b12 (0 + (x13 - 1).toNat) (.int .u8 (sb (({ data := #[48, 49, 50, 51, 52, 53, 54, 55, 56, 57, 97, 98, 99, 100, 101, 102, 103, 104, 105, 106, 107, 108, 109, 110, 111, 112, 113, 114, 115, 116, 117, 118, 119, 120, 121, 122] } : ByteArray)) x1)) ws_1 →
  Br a3
  (InK .i64 ((x13 - 1) - 1) ∧ ((0 : Int) ≤ ((x13 - 1) - 1) ∧ ((x13 - 1) - 1) < ((65 : Nat) : Int)) ∧ CanStore ws_1 b12 (0 + ((x13 - 1) - 1).toNat) ∧ ∀ ws_2, Stored ws_1 b12 (0 + ((x13 - 1) - 1).toNat) (.int .u8 45) ws_2 →
  Br a4
  (((0 : Int) ≤ ((x13 - 1) - 1) ∧ ((x13 - 1) - 1) ≤ (65 : Int)) ∧ ∃ (p98 : Option Addr) (l98 c98 : Nat) (w98 : World), (Builtin.append_ #[50, 50] 50 #[.slice p0 l0 c0, .slice (subp (some ⟨b12, 0, none⟩) (((x13 - 1) - 1).toNat) 65 1) (65 - (((x13 - 1) - 1).toNat)) (65 - (((x13 - 1) - 1).toNat))]).run Tryz.prog ws_2 = .ok (.slice p98 l98 c98) w98 ∧
  R (.returned (.tuple #[.slice p98 l98 c98, .string (({ data := #[] } : ByteArray))])) w98)
  (((0 : Int) ≤ ((x13 - 1) - 1) ∧ ((x13 - 1) - 1) ≤ (65 : Int)) ∧ ∃ s101 : ByteArray, ∃ w101, (convert 50 9 (.slice (subp (some ⟨b12, 0, none⟩) (((x13 - 1) - 1).toNat) 65 1) (65 - (((x13 - 1) - 1).toNat)) (65 - (((x13 - 1) - 1).toNat)))).run Tryz.prog ws_2 = .ok (.string s101) w101 ∧ R (.returned (.tuple #[.slice none 0 0, .string s101])) w101))
  (Br a4
  (((0 : Int) ≤ (x13 - 1) ∧ (x13 - 1) ≤ (65 : Int)) ∧ ∃ (p98_1 : Option Addr) (l98_1 c98_1 : Nat) (w98_1 : World), (Builtin.append_ #[50, 50] 50 #[.slice p0 l0 c0, .slice (subp (some ⟨b12, 0, none⟩) ((x13 - 1).toNat) 65 1) (65 - ((x13 - 1).toNat)) (65 - ((x13 - 1).toNat))]).run Tryz.prog ws_1 = .ok (.slice p98_1 l98_1 c98_1) w98_1 ∧
  R (.returned (.tuple #[.slice p98_1 l98_1 c98_1, .string (({ data := #[] } : ByteArray))])) w98_1)
  (((0 : Int) ≤ (x13 - 1) ∧ (x13 - 1) ≤ (65 : Int)) ∧ ∃ s101_1 : ByteArray, ∃ w101_1, (convert 50 9 (.slice (subp (some ⟨b12, 0, none⟩) ((x13 - 1).toNat) 65 1) (65 - ((x13 - 1).toNat)) (65 - ((x13 - 1).toNat)))).run Tryz.prog ws_1 = .ok (.string s101_1) w101_1 ∧ R (.returned (.tuple #[.slice none 0 0, .string s101_1])) w101_1))))
  (∃ I18 : Int → Int → Nat → World → Prop, (∃ nl18, I18 (IntKind.wrap .u64 (0 - a1)) 65 nl18 w34) ∧ ∀ x1_1 : Int, ∀ x13_1 : Int, ∀ (nl18 : Nat) (wl18 : World), I18 x1_1 x13_1 nl18 wl18 →
  Br (decide (x1_1 ≥ (IntKind.wrap .u64 (a2))))
  (InK .i64 (x13_1 - 1) ∧ ((IntKind.wrap .u64 (a2)) : Int) ≠ 0 ∧ ((0 : Int) ≤ (IntKind.wrap .u64 (x1_1 - (IntKind.wrap .u64 ((IntKind.wrap .u64 (x1_1.tdiv (IntKind.wrap .u64 (a2)))) * (IntKind.wrap .u64 (a2)))))) ∧ (IntKind.wrap .u64 (x1_1 - (IntKind.wrap .u64 ((IntKind.wrap .u64 (x1_1.tdiv (IntKind.wrap .u64 (a2)))) * (IntKind.wrap .u64 (a2)))))) < ((({ data := #[48, 49, 50, 51, 52, 53, 54, 55, 56, 57, 97, 98, 99, 100, 101, 102, 103, 104, 105, 106, 107, 108, 109, 110, 111, 112, 113, 114, 115, 116, 117, 118, 119, 120, 121, 122] } : ByteArray)).size : Int)) ∧ ((0 : Int) ≤ (x13_1 - 1) ∧ (x13_1 - 1) < ((65 : Nat) : Int)) ∧ CanStore wl18 b12 (0 + (x13_1 - 1).toNat) ∧ ∀ ws_3, Stored wl18 b12 (0 + (x13_1 - 1).toNat) (.int .u8 (sb (({ data := #[48, 49, 50, 51, 52, 53, 54, 55, 56, 57, 97, 98, 99, 100, 101, 102, 103, 104, 105, 106, 107, 108, 109, 110, 111, 112, 113, 114, 115, 116, 117, 118, 119, 120, 121, 122] } : ByteArray)) (IntKind.wrap .u64 (x1_1 - (IntKind.wrap .u64 ((IntKind.wrap .u64 (x1_1.tdiv (IntKind.wrap .u64 (a2)))) * (IntKind.wrap .u64 (a2)))))))) ws_3 →
  ∃ ml18, ml18 < nl18 ∧ I18 (IntKind.wrap .u64 (x1_1.tdiv (IntKind.wrap .u64 (a2)))) (x13_1 - 1) ml18 ws_3)
  (InK .i64 (x13_1 - 1) ∧ ((0 : Int) ≤ x1_1 ∧ x1_1 < ((({ data := #[48, 49, 50, 51, 52, 53, 54, 55, 56, 57, 97, 98, 99, 100, 101, 102, 103, 104, 105, 106, 107, 108, 109, 110, 111, 112, 113, 114, 115, 116, 117, 118, 119, 120, 121, 122] } : ByteArray)).size : Int)) ∧ ((0 : Int) ≤ (x13_1 - 1) ∧ (x13_1 - 1) < ((65 : Nat) : Int)) ∧ CanStore wl18 b12 (0 + (x13_1 - 1).toNat) ∧ ∀ ws_4, Stored wl18 b12 (0 + (x13_1 - 1).toNat) (.int .u8 (sb (({ data := #[48, 49, 50, 51, 52, 53, 54, 55, 56, 57, 97, 98, 99, 100, 101, 102, 103, 104, 105, 106, 107, 108, 109, 110, 111, 112, 113, 114, 115, 116, 117, 118, 119, 120, 121, 122] } : ByteArray)) x1_1)) ws_4 →
  Br a3
  (InK .i64 ((x13_1 - 1) - 1) ∧ ((0 : Int) ≤ ((x13_1 - 1) - 1) ∧ ((x13_1 - 1) - 1) < ((65 : Nat) : Int)) ∧ CanStore ws_4 b12 (0 + ((x13_1 - 1) - 1).toNat) ∧ ∀ ws_5, Stored ws_4 b12 (0 + ((x13_1 - 1) - 1).toNat) (.int .u8 45) ws_5 →
  Br a4
  (((0 : Int) ≤ ((x13_1 - 1) - 1) ∧ ((x13_1 - 1) - 1) ≤ (65 : Int)) ∧ ∃ (p98_2 : Option Addr) (l98_2 c98_2 : Nat) (w98_2 : World), (Builtin.append_ #[50, 50] 50 #[.slice p0 l0 c0, .slice (subp (some ⟨b12, 0, none⟩) (((x13_1 - 1) - 1).toNat) 65 1) (65 - (((x13_1 - 1) - 1).toNat)) (65 - (((x13_1 - 1) - 1).toNat))]).run Tryz.prog ws_5 = .ok (.slice p98_2 l98_2 c98_2) w98_2 ∧
  R (.returned (.tuple #[.slice p98_2 l98_2 c98_2, .string (({ data := #[] } : ByteArray))])) w98_2)
  (((0 : Int) ≤ ((x13_1 - 1) - 1) ∧ ((x13_1 - 1) - 1) ≤ (65 : Int)) ∧ ∃ s101_2 : ByteArray, ∃ w101_2, (convert 50 9 (.slice (subp (some ⟨b12, 0, none⟩) (((x13_1 - 1) - 1).toNat) 65 1) (65 - (((x13_1 - 1) - 1).toNat)) (65 - (((x13_1 - 1) - 1).toNat)))).run Tryz.prog ws_5 = .ok (.string s101_2) w101_2 ∧ R (.returned (.tuple #[.slice none 0 0, .string s101_2])) w101_2))
  (Br a4
  (((0 : Int) ≤ (x13_1 - 1) ∧ (x13_1 - 1) ≤ (65 : Int)) ∧ ∃ (p98_3 : Option Addr) (l98_3 c98_3 : Nat) (w98_3 : World), (Builtin.append_ #[50, 50] 50 #[.slice p0 l0 c0, .slice (subp (some ⟨b12, 0, none⟩) ((x13_1 - 1).toNat) 65 1) (65 - ((x13_1 - 1).toNat)) (65 - ((x13_1 - 1).toNat))]).run Tryz.prog ws_4 = .ok (.slice p98_3 l98_3 c98_3) w98_3 ∧
  R (.returned (.tuple #[.slice p98_3 l98_3 c98_3, .string (({ data := #[] } : ByteArray))])) w98_3)
  (((0 : Int) ≤ (x13_1 - 1) ∧ (x13_1 - 1) ≤ (65 : Int)) ∧ ∃ s101_3 : ByteArray, ∃ w101_3, (convert 50 9 (.slice (subp (some ⟨b12, 0, none⟩) ((x13_1 - 1).toNat) 65 1) (65 - ((x13_1 - 1).toNat)) (65 - ((x13_1 - 1).toNat)))).run Tryz.prog ws_4 = .ok (.string s101_3) w101_3 ∧ R (.returned (.tuple #[.slice none 0 0, .string s101_3])) w101_3)))))
  (Does Tryz.prog 84 #[.int .i64 a2] w12 fun e34_1 w34_1 =>
  ∃ b34_1 : Bool, e34_1 = .returned (.bool b34_1) ∧ Br b34_1
  (Does Tryz.prog 85 #[.int .u64 (IntKind.wrap .u64 (a2))] w34_1 fun e37_1 w37_1 =>
  ∃ n37_1 : Int, e37_1 = .returned (.int .i64 n37_1) ∧ ∃ I11_1 : Int → Int → Nat → World → Prop, (∃ nl11_1, I11_1 a1 65 nl11_1 w37_1) ∧ ∀ x1_2 : Int, ∀ x13_2 : Int, ∀ (nl11_1 : Nat) (wl11_1 : World), I11_1 x1_2 x13_2 nl11_1 wl11_1 →
  Br (decide (x1_2 ≥ (IntKind.wrap .u64 (a2))))
  (InK .i64 (x13_2 - 1) ∧ ((0 : Int) ≤ (bits .and .u64 x1_2 (IntKind.wrap .u64 ((IntKind.wrap .u64 (a2)) - 1))) ∧ (bits .and .u64 x1_2 (IntKind.wrap .u64 ((IntKind.wrap .u64 (a2)) - 1))) < ((({ data := #[48, 49, 50, 51, 52, 53, 54, 55, 56, 57, 97, 98, 99, 100, 101, 102, 103, 104, 105, 106, 107, 108, 109, 110, 111, 112, 113, 114, 115, 116, 117, 118, 119, 120, 121, 122] } : ByteArray)).size : Int)) ∧ ((0 : Int) ≤ (x13_2 - 1) ∧ (x13_2 - 1) < ((65 : Nat) : Int)) ∧ CanStore wl11_1 b12 (0 + (x13_2 - 1).toNat) ∧ ∀ ws_6, Stored wl11_1 b12 (0 + (x13_2 - 1).toNat) (.int .u8 (sb (({ data := #[48, 49, 50, 51, 52, 53, 54, 55, 56, 57, 97, 98, 99, 100, 101, 102, 103, 104, 105, 106, 107, 108, 109, 110, 111, 112, 113, 114, 115, 116, 117, 118, 119, 120, 121, 122] } : ByteArray)) (bits .and .u64 x1_2 (IntKind.wrap .u64 ((IntKind.wrap .u64 (a2)) - 1))))) ws_6 →
  (0 : Int) ≤ (IntKind.wrap .u64 (n37_1)) ∧ ∃ ml11_1, ml11_1 < nl11_1 ∧ I11_1 (x1_2.fdiv (2 ^ (min (IntKind.wrap .u64 (n37_1)).toNat 64))) (x13_2 - 1) ml11_1 ws_6)
  (InK .i64 (x13_2 - 1) ∧ ((0 : Int) ≤ x1_2 ∧ x1_2 < ((({ data := #[48, 49, 50, 51, 52, 53, 54, 55, 56, 57, 97, 98, 99, 100, 101, 102, 103, 104, 105, 106, 107, 108, 109, 110, 111, 112, 113, 114, 115, 116, 117, 118, 119, 120, 121, 122] } : ByteArray)).size : Int)) ∧ ((0 : Int) ≤ (x13_2 - 1) ∧ (x13_2 - 1) < ((65 : Nat) : Int)) ∧ CanStore wl11_1 b12 (0 + (x13_2 - 1).toNat) ∧ ∀ ws_7, Stored wl11_1 b12 (0 + (x13_2 - 1).toNat) (.int .u8 (sb (({ data := #[48, 49, 50, 51, 52, 53, 54, 55, 56, 57, 97, 98, 99, 100, 101, 102, 103, 104, 105, 106, 107, 108, 109, 110, 111, 112, 113, 114, 115, 116, 117, 118, 119, 120, 121, 122] } : ByteArray)) x1_2)) ws_7 →
  Br a3
  (InK .i64 ((x13_2 - 1) - 1) ∧ ((0 : Int) ≤ ((x13_2 - 1) - 1) ∧ ((x13_2 - 1) - 1) < ((65 : Nat) : Int)) ∧ CanStore ws_7 b12 (0 + ((x13_2 - 1) - 1).toNat) ∧ ∀ ws_8, Stored ws_7 b12 (0 + ((x13_2 - 1) - 1).toNat) (.int .u8 45) ws_8 →
  Br a4
  (((0 : Int) ≤ ((x13_2 - 1) - 1) ∧ ((x13_2 - 1) - 1) ≤ (65 : Int)) ∧ ∃ (p98_4 : Option Addr) (l98_4 c98_4 : Nat) (w98_4 : World), (Builtin.append_ #[50, 50] 50 #[.slice p0 l0 c0, .slice (subp (some ⟨b12, 0, none⟩) (((x13_2 - 1) - 1).toNat) 65 1) (65 - (((x13_2 - 1) - 1).toNat)) (65 - (((x13_2 - 1) - 1).toNat))]).run Tryz.prog ws_8 = .ok (.slice p98_4 l98_4 c98_4) w98_4 ∧
  R (.returned (.tuple #[.slice p98_4 l98_4 c98_4, .string (({ data := #[] } : ByteArray))])) w98_4)
  (((0 : Int) ≤ ((x13_2 - 1) - 1) ∧ ((x13_2 - 1) - 1) ≤ (65 : Int)) ∧ ∃ s101_4 : ByteArray, ∃ w101_4, (convert 50 9 (.slice (subp (some ⟨b12, 0, none⟩) (((x13_2 - 1) - 1).toNat) 65 1) (65 - (((x13_2 - 1) - 1).toNat)) (65 - (((x13_2 - 1) - 1).toNat)))).run Tryz.prog ws_8 = .ok (.string s101_4) w101_4 ∧ R (.returned (.tuple #[.slice none 0 0, .string s101_4])) w101_4))
  (Br a4
  (((0 : Int) ≤ (x13_2 - 1) ∧ (x13_2 - 1) ≤ (65 : Int)) ∧ ∃ (p98_5 : Option Addr) (l98_5 c98_5 : Nat) (w98_5 : World), (Builtin.append_ #[50, 50] 50 #[.slice p0 l0 c0, .slice (subp (some ⟨b12, 0, none⟩) ((x13_2 - 1).toNat) 65 1) (65 - ((x13_2 - 1).toNat)) (65 - ((x13_2 - 1).toNat))]).run Tryz.prog ws_7 = .ok (.slice p98_5 l98_5 c98_5) w98_5 ∧
  R (.returned (.tuple #[.slice p98_5 l98_5 c98_5, .string (({ data := #[] } : ByteArray))])) w98_5)
  (((0 : Int) ≤ (x13_2 - 1) ∧ (x13_2 - 1) ≤ (65 : Int)) ∧ ∃ s101_5 : ByteArray, ∃ w101_5, (convert 50 9 (.slice (subp (some ⟨b12, 0, none⟩) ((x13_2 - 1).toNat) 65 1) (65 - ((x13_2 - 1).toNat)) (65 - ((x13_2 - 1).toNat)))).run Tryz.prog ws_7 = .ok (.string s101_5) w101_5 ∧ R (.returned (.tuple #[.slice none 0 0, .string s101_5])) w101_5))))
  (∃ I18_1 : Int → Int → Nat → World → Prop, (∃ nl18_1, I18_1 a1 65 nl18_1 w34_1) ∧ ∀ x1_3 : Int, ∀ x13_3 : Int, ∀ (nl18_1 : Nat) (wl18_1 : World), I18_1 x1_3 x13_3 nl18_1 wl18_1 →
  Br (decide (x1_3 ≥ (IntKind.wrap .u64 (a2))))
  (InK .i64 (x13_3 - 1) ∧ ((IntKind.wrap .u64 (a2)) : Int) ≠ 0 ∧ ((0 : Int) ≤ (IntKind.wrap .u64 (x1_3 - (IntKind.wrap .u64 ((IntKind.wrap .u64 (x1_3.tdiv (IntKind.wrap .u64 (a2)))) * (IntKind.wrap .u64 (a2)))))) ∧ (IntKind.wrap .u64 (x1_3 - (IntKind.wrap .u64 ((IntKind.wrap .u64 (x1_3.tdiv (IntKind.wrap .u64 (a2)))) * (IntKind.wrap .u64 (a2)))))) < ((({ data := #[48, 49, 50, 51, 52, 53, 54, 55, 56, 57, 97, 98, 99, 100, 101, 102, 103, 104, 105, 106, 107, 108, 109, 110, 111, 112, 113, 114, 115, 116, 117, 118, 119, 120, 121, 122] } : ByteArray)).size : Int)) ∧ ((0 : Int) ≤ (x13_3 - 1) ∧ (x13_3 - 1) < ((65 : Nat) : Int)) ∧ CanStore wl18_1 b12 (0 + (x13_3 - 1).toNat) ∧ ∀ ws_9, Stored wl18_1 b12 (0 + (x13_3 - 1).toNat) (.int .u8 (sb (({ data := #[48, 49, 50, 51, 52, 53, 54, 55, 56, 57, 97, 98, 99, 100, 101, 102, 103, 104, 105, 106, 107, 108, 109, 110, 111, 112, 113, 114, 115, 116, 117, 118, 119, 120, 121, 122] } : ByteArray)) (IntKind.wrap .u64 (x1_3 - (IntKind.wrap .u64 ((IntKind.wrap .u64 (x1_3.tdiv (IntKind.wrap .u64 (a2)))) * (IntKind.wrap .u64 (a2)))))))) ws_9 →
  ∃ ml18_1, ml18_1 < nl18_1 ∧ I18_1 (IntKind.wrap .u64 (x1_3.tdiv (IntKind.wrap .u64 (a2)))) (x13_3 - 1) ml18_1 ws_9)
  (InK .i64 (x13_3 - 1) ∧ ((0 : Int) ≤ x1_3 ∧ x1_3 < ((({ data := #[48, 49, 50, 51, 52, 53, 54, 55, 56, 57, 97, 98, 99, 100, 101, 102, 103, 104, 105, 106, 107, 108, 109, 110, 111, 112, 113, 114, 115, 116, 117, 118, 119, 120, 121, 122] } : ByteArray)).size : Int)) ∧ ((0 : Int) ≤ (x13_3 - 1) ∧ (x13_3 - 1) < ((65 : Nat) : Int)) ∧ CanStore wl18_1 b12 (0 + (x13_3 - 1).toNat) ∧ ∀ ws_10, Stored wl18_1 b12 (0 + (x13_3 - 1).toNat) (.int .u8 (sb (({ data := #[48, 49, 50, 51, 52, 53, 54, 55, 56, 57, 97, 98, 99, 100, 101, 102, 103, 104, 105, 106, 107, 108, 109, 110, 111, 112, 113, 114, 115, 116, 117, 118, 119, 120, 121, 122] } : ByteArray)) x1_3)) ws_10 →
  Br a3
  (InK .i64 ((x13_3 - 1) - 1) ∧ ((0 : Int) ≤ ((x13_3 - 1) - 1) ∧ ((x13_3 - 1) - 1) < ((65 : Nat) : Int)) ∧ CanStore ws_10 b12 (0 + ((x13_3 - 1) - 1).toNat) ∧ ∀ ws_11, Stored ws_10 b12 (0 + ((x13_3 - 1) - 1).toNat) (.int .u8 45) ws_11 →
  Br a4
  (((0 : Int) ≤ ((x13_3 - 1) - 1) ∧ ((x13_3 - 1) - 1) ≤ (65 : Int)) ∧ ∃ (p98_6 : Option Addr) (l98_6 c98_6 : Nat) (w98_6 : World), (Builtin.append_ #[50, 50] 50 #[.slice p0 l0 c0, .slice (subp (some ⟨b12, 0, none⟩) (((x13_3 - 1) - 1).toNat) 65 1) (65 - (((x13_3 - 1) - 1).toNat)) (65 - (((x13_3 - 1) - 1).toNat))]).run Tryz.prog ws_11 = .ok (.slice p98_6 l98_6 c98_6) w98_6 ∧
  R (.returned (.tuple #[.slice p98_6 l98_6 c98_6, .string (({ data := #[] } : ByteArray))])) w98_6)
  (((0 : Int) ≤ ((x13_3 - 1) - 1) ∧ ((x13_3 - 1) - 1) ≤ (65 : Int)) ∧ ∃ s101_6 : ByteArray, ∃ w101_6, (convert 50 9 (.slice (subp (some ⟨b12, 0, none⟩) (((x13_3 - 1) - 1).toNat) 65 1) (65 - (((x13_3 - 1) - 1).toNat)) (65 - (((x13_3 - 1) - 1).toNat)))).run Tryz.prog ws_11 = .ok (.string s101_6) w101_6 ∧ R (.returned (.tuple #[.slice none 0 0, .string s101_6])) w101_6))
  (Br a4
  (((0 : Int) ≤ (x13_3 - 1) ∧ (x13_3 - 1) ≤ (65 : Int)) ∧ ∃ (p98_7 : Option Addr) (l98_7 c98_7 : Nat) (w98_7 : World), (Builtin.append_ #[50, 50] 50 #[.slice p0 l0 c0, .slice (subp (some ⟨b12, 0, none⟩) ((x13_3 - 1).toNat) 65 1) (65 - ((x13_3 - 1).toNat)) (65 - ((x13_3 - 1).toNat))]).run Tryz.prog ws_10 = .ok (.slice p98_7 l98_7 c98_7) w98_7 ∧
  R (.returned (.tuple #[.slice p98_7 l98_7 c98_7, .string (({ data := #[] } : ByteArray))])) w98_7)
  (((0 : Int) ≤ (x13_3 - 1) ∧ (x13_3 - 1) ≤ (65 : Int)) ∧ ∃ s101_7 : ByteArray, ∃ w101_7, (convert 50 9 (.slice (subp (some ⟨b12, 0, none⟩) ((x13_3 - 1).toNat) 65 1) (65 - ((x13_3 - 1).toNat)) (65 - ((x13_3 - 1).toNat)))).run Tryz.prog ws_10 = .ok (.string s101_7) w101_7 ∧ R (.returned (.tuple #[.slice none 0 0, .string s101_7])) w101_7))))))))
def f61_ann : Ann := { loops := [(11, [(1, .int .u64), (13, .int .i64)]), (18, [(1, .int .u64), (13, .int .i64)])], cuts := [], flip := [], throws := [] }
theorem f61_eq (p0 : Option Addr) (l0 c0 : Nat) (a1 : Int) (a2 : Int) (a3 : Bool) (a4 : Bool) (w : World) (R : Ending → World → Prop) : vc Tryz.prog f61_ann (bodyOf Tryz.f61) (retQ Tryz.prog Tryz.f61 R) (envOf Tryz.f61.ntmps [.v (.slice p0 l0 c0), .v (.int .u64 a1), .v (.int .i64 a2), .v (.bool a3), .v (.bool a4)]) [] w = f61_vc p0 l0 c0 a1 a2 a3 a4 w R := by kernel_rfl
theorem f61_does (p0 : Option Addr) (l0 c0 : Nat) (a1 : Int) (a2 : Int) (a3 : Bool) (a4 : Bool) {w : World} {R : Ending → World → Prop} (h : f61_vc p0 l0 c0 a1 a2 a3 a4 w R) : Does Tryz.prog 61 #[.slice p0 l0 c0, .int .u64 a1, .int .i64 a2, .bool a3, .bool a4] w R :=
  does_of_vc (ss := [.v (.slice p0 l0 c0), .v (.int .u64 a1), .v (.int .i64 a2), .v (.bool a3), .v (.bool a4)]) f61_ann mixed call61 Tryz.func61 rfl rfl (show 5 ≤ Tryz.f61.ntmps by decide) ((f61_eq p0 l0 c0 a1 a2 a3 a4 w R).symm ▸ h)
/-- Of math.frexp (function 63): the condition. -/
def f63_vc (a0 : Nat) (w : World) (R : Ending → World → Prop) : Prop :=
  Br ((FloatKind.f64.format.order a0 0 == some Ordering.eq))
  (R (.returned (.tuple #[.float .f64 a0, .int .i64 0])) w)
  (Does Tryz.prog 19 #[.float .f64 a0, .int .i64 0] w fun e11 w11 =>
  ∃ b11 : Bool, e11 = .returned (.bool b11) ∧ Br b11
  (R (.returned (.tuple #[.float .f64 a0, .int .i64 0])) w11)
  (Does Tryz.prog 86 #[.float .f64 a0] w11 fun e14 w14 =>
  ∃ b14 : Bool, e14 = .returned (.bool b14) ∧ Br b14
  (R (.returned (.tuple #[.float .f64 a0, .int .i64 0])) w14)
  (Does Tryz.prog 87 #[.float .f64 a0] w14 fun e19 w19 =>
  ∃ f19 : Nat, ∃ n19 : Int, e19 = .returned (.tuple #[.float .f64 f19, .int .i64 n19]) ∧ Does Tryz.prog 30 #[.float .f64 f19] w19 fun e23 w23 =>
  ∃ n23 : Int, e23 = .returned (.int .u64 n23) ∧ (0 : Int) ≤ 52 ∧ InK .i64 (bits .and .u64 (n23.fdiv (2 ^ 52)) 2047) ∧ InK .i64 ((bits .and .u64 (n23.fdiv (2 ^ 52)) 2047) - 1023) ∧ InK .i64 (((bits .and .u64 (n23.fdiv (2 ^ 52)) 2047) - 1023) + 1) ∧ InK .i64 (n19 + (((bits .and .u64 (n23.fdiv (2 ^ 52)) 2047) - 1023) + 1)) ∧ Does Tryz.prog 47 #[.int .u64 (bits .or .u64 (bits .andNot .u64 n23 9218868437227405312) 4602678819172646912)] w23 fun e37 w37 =>
  ∃ f37 : Nat, e37 = .returned (.float .f64 f37) ∧ R (.returned (.tuple #[.float .f64 f37, .int .i64 (n19 + (((bits .and .u64 (n23.fdiv (2 ^ 52)) 2047) - 1023) + 1))])) w37)))
def f63_ann : Ann := { loops := [], cuts := [], flip := [], throws := [] }
theorem f63_eq (a0 : Nat) (w : World) (R : Ending → World → Prop) : vc Tryz.prog f63_ann (bodyOf Tryz.f63) (retQ Tryz.prog Tryz.f63 R) (envOf Tryz.f63.ntmps [.v (.float .f64 a0)]) [] w = f63_vc a0 w R := by kernel_rfl
theorem f63_does (a0 : Nat) {w : World} {R : Ending → World → Prop} (h : f63_vc a0 w R) : Does Tryz.prog 63 #[.float .f64 a0] w R :=
  does_of_vc (ss := [.v (.float .f64 a0)]) f63_ann mixed call63 Tryz.func63 rfl rfl (show 1 ≤ Tryz.f63.ntmps by decide) ((f63_eq a0 w R).symm ▸ h)
/-- Of internal/strconv.FormatUint (function 64): the condition. -/
def f64_vc (a0 : Int) (a1 : Int) (w : World) (R : Ending → World → Prop) : Prop :=
  Br (a1 == 10)
  (Br (decide (a0 < 100))
  (InK .i64 (a0) ∧ Does Tryz.prog 58 #[.int .i64 a0] w fun e15 w15 =>
  ∃ s15 : ByteArray, e15 = .returned (.string s15) ∧ R (.returned (.string s15)) w15)
  (∀ b5 w5, NewBlk w b5 [.int .u8 0, .int .u8 0, .int .u8 0, .int .u8 0, .int .u8 0, .int .u8 0, .int .u8 0, .int .u8 0, .int .u8 0, .int .u8 0, .int .u8 0, .int .u8 0, .int .u8 0, .int .u8 0, .int .u8 0, .int .u8 0, .int .u8 0, .int .u8 0, .int .u8 0, .int .u8 0, .int .u8 0, .int .u8 0, .int .u8 0, .int .u8 0] 66 w5 →
  Does Tryz.prog 59 #[.int .u64 a0] w5 fun e17 w17 =>
  ∃ n17 : Int, e17 = .returned (.int .i64 n17) ∧ ((0 : Int) ≤ n17 ∧ n17 ≤ (24 : Int)) ∧ Does Tryz.prog 60 #[.slice (subp (some ⟨b5, 0, none⟩) 0 24 1) (((n17).toNat) - 0) (24 - 0), .int .u64 a0] w17 fun e21 w21 =>
  e21 = .returned (.tuple #[]) ∧ ((0 : Int) ≤ n17 ∧ n17 ≤ (24 : Int)) ∧ ∃ s24 : ByteArray, ∃ w24, (convert 50 9 (.slice (subp (some ⟨b5, 0, none⟩) 0 24 1) (((n17).toNat) - 0) (24 - 0))).run Tryz.prog w21 = .ok (.string s24) w24 ∧ R (.returned (.string s24)) w24))
  (Does Tryz.prog 61 #[.slice none 0 0, .int .u64 a0, .int .i64 a1, .bool false, .bool false] w fun e28 w28 =>
  ∃ (p28 : Option Addr) (l28 c28 : Nat), ∃ s28 : ByteArray, e28 = .returned (.tuple #[.slice p28 l28 c28, .string s28]) ∧ R (.returned (.string s28)) w28)
def f64_ann : Ann := { loops := [], cuts := [], flip := [], throws := [] }
theorem f64_eq (a0 : Int) (a1 : Int) (w : World) (R : Ending → World → Prop) : vc Tryz.prog f64_ann (bodyOf Tryz.f64) (retQ Tryz.prog Tryz.f64 R) (envOf Tryz.f64.ntmps [.v (.int .u64 a0), .v (.int .i64 a1)]) [] w = f64_vc a0 a1 w R := by kernel_rfl
theorem f64_does (a0 : Int) (a1 : Int) {w : World} {R : Ending → World → Prop} (h : f64_vc a0 a1 w R) : Does Tryz.prog 64 #[.int .u64 a0, .int .i64 a1] w R :=
  does_of_vc (ss := [.v (.int .u64 a0), .v (.int .i64 a1)]) f64_ann mixed call64 Tryz.func64 rfl rfl (show 2 ≤ Tryz.f64.ntmps by decide) ((f64_eq a0 a1 w R).symm ▸ h)
/-- Of strings.trimRightByte (function 65): the condition. -/
def f65_vc (a0 : ByteArray) (a1 : Int) (w : World) (R : Ending → World → Prop) : Prop :=
  ∃ I1 : ByteArray → Nat → World → Prop, (∃ nl1, I1 a0 nl1 w) ∧ ∀ s0 : ByteArray, ∀ (nl1 : Nat) (wl1 : World), I1 s0 nl1 wl1 →
  Br (decide (((s0.size : Int)) > 0))
  (InK .i64 (((s0.size : Int)) - 1) ∧ ((0 : Int) ≤ (((s0.size : Int)) - 1) ∧ (((s0.size : Int)) - 1) < (s0.size : Int)) ∧ Br ((sb s0 (((s0.size : Int)) - 1)) == a1)
  (InK .i64 (((s0.size : Int)) - 1) ∧ ((0 : Int) ≤ (((s0.size : Int)) - 1) ∧ (((s0.size : Int)) - 1) ≤ (s0.size : Int)) ∧ ∃ ml1, ml1 < nl1 ∧ I1 (s0.extract 0 ((((s0.size : Int)) - 1).toNat)) ml1 wl1)
  (R (.returned (.string s0)) wl1))
  (R (.returned (.string s0)) wl1)
def f65_ann : Ann := { loops := [(1, [(0, .str)])], cuts := [], flip := [], throws := [] }
theorem f65_eq (a0 : ByteArray) (a1 : Int) (w : World) (R : Ending → World → Prop) : vc Tryz.prog f65_ann (bodyOf Tryz.f65) (retQ Tryz.prog Tryz.f65 R) (envOf Tryz.f65.ntmps [.v (.string a0), .v (.int .u8 a1)]) [] w = f65_vc a0 a1 w R := by kernel_rfl
theorem f65_does (a0 : ByteArray) (a1 : Int) {w : World} {R : Ending → World → Prop} (h : f65_vc a0 a1 w R) : Does Tryz.prog 65 #[.string a0, .int .u8 a1] w R :=
  does_of_vc (ss := [.v (.string a0), .v (.int .u8 a1)]) f65_ann mixed call65 Tryz.func65 rfl rfl (show 2 ≤ Tryz.f65.ntmps by decide) ((f65_eq a0 a1 w R).symm ▸ h)
/-- Of internal/strconv.Itoa (function 74): the condition. -/
def f74_vc (a0 : Int) (w : World) (R : Ending → World → Prop) : Prop :=
  Does Tryz.prog 41 #[.int .i64 a0, .int .i64 10] w fun e4 w4 =>
  ∃ s4 : ByteArray, e4 = .returned (.string s4) ∧ R (.returned (.string s4)) w4
def f74_ann : Ann := { loops := [], cuts := [], flip := [], throws := [] }
theorem f74_eq (a0 : Int) (w : World) (R : Ending → World → Prop) : vc Tryz.prog f74_ann (bodyOf Tryz.f74) (retQ Tryz.prog Tryz.f74 R) (envOf Tryz.f74.ntmps [.v (.int .i64 a0)]) [] w = f74_vc a0 w R := by kernel_rfl
theorem f74_does (a0 : Int) {w : World} {R : Ending → World → Prop} (h : f74_vc a0 w R) : Does Tryz.prog 74 #[.int .i64 a0] w R :=
  does_of_vc (ss := [.v (.int .i64 a0)]) f74_ann mixed call74 Tryz.func74 rfl rfl (show 1 ≤ Tryz.f74.ntmps by decide) ((f74_eq a0 w R).symm ▸ h)
/-- Of internal/strconv.log10Pow2 (function 81): the condition. -/
def f81_vc (a0 : Int) (w : World) (R : Ending → World → Prop) : Prop :=
  InK .i64 (a0 * 78913) ∧ (0 : Int) ≤ 18 ∧ R (.returned (.int .i64 ((a0 * 78913).fdiv (2 ^ 18)))) w
def f81_ann : Ann := { loops := [], cuts := [], flip := [], throws := [] }
theorem f81_eq (a0 : Int) (w : World) (R : Ending → World → Prop) : vc Tryz.prog f81_ann (bodyOf Tryz.f81) (retQ Tryz.prog Tryz.f81 R) (envOf Tryz.f81.ntmps [.v (.int .i64 a0)]) [] w = f81_vc a0 w R := by kernel_rfl
theorem f81_does (a0 : Int) {w : World} {R : Ending → World → Prop} (h : f81_vc a0 w R) : Does Tryz.prog 81 #[.int .i64 a0] w R :=
  does_of_vc (ss := [.v (.int .i64 a0)]) f81_ann mixed call81 Tryz.func81 rfl rfl (show 1 ≤ Tryz.f81.ntmps by decide) ((f81_eq a0 w R).symm ▸ h)
/-- Of math/bits.Len64 (function 82): the condition. -/
def f82_vc (a0 : Int) (w : World) (R : Ending → World → Prop) : Prop :=
  Br (decide (a0 ≥ 4294967296))
  ((0 : Int) ≤ 32 ∧ Br (decide ((a0.fdiv (2 ^ 32)) ≥ 65536))
  ((0 : Int) ≤ 16 ∧ InK .i64 (32 + 16) ∧ Br (decide (((a0.fdiv (2 ^ 32)).fdiv (2 ^ 16)) ≥ 256))
  ((0 : Int) ≤ 8 ∧ InK .i64 ((32 + 16) + 8) ∧ ((0 : Int) ≤ (IntKind.wrap .u8 (((a0.fdiv (2 ^ 32)).fdiv (2 ^ 16)).fdiv (2 ^ 8))) ∧ (IntKind.wrap .u8 (((a0.fdiv (2 ^ 32)).fdiv (2 ^ 16)).fdiv (2 ^ 8))) < (txt256_0_8.size : Int)) ∧ InK .i64 (sb txt256_0_8 (IntKind.wrap .u8 (((a0.fdiv (2 ^ 32)).fdiv (2 ^ 16)).fdiv (2 ^ 8)))) ∧ InK .i64 (((32 + 16) + 8) + (sb txt256_0_8 (IntKind.wrap .u8 (((a0.fdiv (2 ^ 32)).fdiv (2 ^ 16)).fdiv (2 ^ 8))))) ∧ R (.returned (.int .i64 (((32 + 16) + 8) + (sb txt256_0_8 (IntKind.wrap .u8 (((a0.fdiv (2 ^ 32)).fdiv (2 ^ 16)).fdiv (2 ^ 8))))))) w)
  (((0 : Int) ≤ (IntKind.wrap .u8 ((a0.fdiv (2 ^ 32)).fdiv (2 ^ 16))) ∧ (IntKind.wrap .u8 ((a0.fdiv (2 ^ 32)).fdiv (2 ^ 16))) < (txt256_0_8.size : Int)) ∧ InK .i64 (sb txt256_0_8 (IntKind.wrap .u8 ((a0.fdiv (2 ^ 32)).fdiv (2 ^ 16)))) ∧ InK .i64 ((32 + 16) + (sb txt256_0_8 (IntKind.wrap .u8 ((a0.fdiv (2 ^ 32)).fdiv (2 ^ 16))))) ∧ R (.returned (.int .i64 ((32 + 16) + (sb txt256_0_8 (IntKind.wrap .u8 ((a0.fdiv (2 ^ 32)).fdiv (2 ^ 16))))))) w))
  (Br (decide ((a0.fdiv (2 ^ 32)) ≥ 256))
  ((0 : Int) ≤ 8 ∧ InK .i64 (32 + 8) ∧ ((0 : Int) ≤ (IntKind.wrap .u8 ((a0.fdiv (2 ^ 32)).fdiv (2 ^ 8))) ∧ (IntKind.wrap .u8 ((a0.fdiv (2 ^ 32)).fdiv (2 ^ 8))) < (txt256_0_8.size : Int)) ∧ InK .i64 (sb txt256_0_8 (IntKind.wrap .u8 ((a0.fdiv (2 ^ 32)).fdiv (2 ^ 8)))) ∧ InK .i64 ((32 + 8) + (sb txt256_0_8 (IntKind.wrap .u8 ((a0.fdiv (2 ^ 32)).fdiv (2 ^ 8))))) ∧ R (.returned (.int .i64 ((32 + 8) + (sb txt256_0_8 (IntKind.wrap .u8 ((a0.fdiv (2 ^ 32)).fdiv (2 ^ 8))))))) w)
  (((0 : Int) ≤ (IntKind.wrap .u8 (a0.fdiv (2 ^ 32))) ∧ (IntKind.wrap .u8 (a0.fdiv (2 ^ 32))) < (txt256_0_8.size : Int)) ∧ InK .i64 (sb txt256_0_8 (IntKind.wrap .u8 (a0.fdiv (2 ^ 32)))) ∧ InK .i64 (32 + (sb txt256_0_8 (IntKind.wrap .u8 (a0.fdiv (2 ^ 32))))) ∧ R (.returned (.int .i64 (32 + (sb txt256_0_8 (IntKind.wrap .u8 (a0.fdiv (2 ^ 32))))))) w)))
  (Br (decide (a0 ≥ 65536))
  ((0 : Int) ≤ 16 ∧ InK .i64 (0 + 16) ∧ Br (decide ((a0.fdiv (2 ^ 16)) ≥ 256))
  ((0 : Int) ≤ 8 ∧ InK .i64 ((0 + 16) + 8) ∧ ((0 : Int) ≤ (IntKind.wrap .u8 ((a0.fdiv (2 ^ 16)).fdiv (2 ^ 8))) ∧ (IntKind.wrap .u8 ((a0.fdiv (2 ^ 16)).fdiv (2 ^ 8))) < (txt256_0_8.size : Int)) ∧ InK .i64 (sb txt256_0_8 (IntKind.wrap .u8 ((a0.fdiv (2 ^ 16)).fdiv (2 ^ 8)))) ∧ InK .i64 (((0 + 16) + 8) + (sb txt256_0_8 (IntKind.wrap .u8 ((a0.fdiv (2 ^ 16)).fdiv (2 ^ 8))))) ∧ R (.returned (.int .i64 (((0 + 16) + 8) + (sb txt256_0_8 (IntKind.wrap .u8 ((a0.fdiv (2 ^ 16)).fdiv (2 ^ 8))))))) w)
  (((0 : Int) ≤ (IntKind.wrap .u8 (a0.fdiv (2 ^ 16))) ∧ (IntKind.wrap .u8 (a0.fdiv (2 ^ 16))) < (txt256_0_8.size : Int)) ∧ InK .i64 (sb txt256_0_8 (IntKind.wrap .u8 (a0.fdiv (2 ^ 16)))) ∧ InK .i64 ((0 + 16) + (sb txt256_0_8 (IntKind.wrap .u8 (a0.fdiv (2 ^ 16))))) ∧ R (.returned (.int .i64 ((0 + 16) + (sb txt256_0_8 (IntKind.wrap .u8 (a0.fdiv (2 ^ 16))))))) w))
  (Br (decide (a0 ≥ 256))
  ((0 : Int) ≤ 8 ∧ InK .i64 (0 + 8) ∧ ((0 : Int) ≤ (IntKind.wrap .u8 (a0.fdiv (2 ^ 8))) ∧ (IntKind.wrap .u8 (a0.fdiv (2 ^ 8))) < (txt256_0_8.size : Int)) ∧ InK .i64 (sb txt256_0_8 (IntKind.wrap .u8 (a0.fdiv (2 ^ 8)))) ∧ InK .i64 ((0 + 8) + (sb txt256_0_8 (IntKind.wrap .u8 (a0.fdiv (2 ^ 8))))) ∧ R (.returned (.int .i64 ((0 + 8) + (sb txt256_0_8 (IntKind.wrap .u8 (a0.fdiv (2 ^ 8))))))) w)
  (((0 : Int) ≤ (IntKind.wrap .u8 (a0)) ∧ (IntKind.wrap .u8 (a0)) < (txt256_0_8.size : Int)) ∧ InK .i64 (sb txt256_0_8 (IntKind.wrap .u8 (a0))) ∧ InK .i64 (0 + (sb txt256_0_8 (IntKind.wrap .u8 (a0)))) ∧ R (.returned (.int .i64 (0 + (sb txt256_0_8 (IntKind.wrap .u8 (a0)))))) w)))
def f82_ann : Ann := { loops := [], cuts := [], flip := [], throws := [] }
theorem f82_eq (a0 : Int) (w : World) (R : Ending → World → Prop) : vc Tryz.prog f82_ann (bodyOf Tryz.f82) (retQ Tryz.prog Tryz.f82 R) (envOf Tryz.f82.ntmps [.v (.int .u64 a0)]) [] w = f82_vc a0 w R := by kernel_rfl
theorem f82_does (a0 : Int) {w : World} {R : Ending → World → Prop} (h : f82_vc a0 w R) : Does Tryz.prog 82 #[.int .u64 a0] w R :=
  does_of_vc (ss := [.v (.int .u64 a0)]) f82_ann mixed call82 Tryz.func82 rfl rfl (show 1 ≤ Tryz.f82.ntmps by decide) ((f82_eq a0 w R).symm ▸ h)
/-- Of internal/strconv.bool2[int] (function 83): the condition. -/
def f83_vc (a0 : Bool) (w : World) (R : Ending → World → Prop) : Prop :=
  Br a0
  (R (.returned (.int .i64 1)) w)
  (R (.returned (.int .i64 0)) w)
def f83_ann : Ann := { loops := [], cuts := [], flip := [], throws := [] }
theorem f83_eq (a0 : Bool) (w : World) (R : Ending → World → Prop) : vc Tryz.prog f83_ann (bodyOf Tryz.f83) (retQ Tryz.prog Tryz.f83 R) (envOf Tryz.f83.ntmps [.v (.bool a0)]) [] w = f83_vc a0 w R := by kernel_rfl
theorem f83_does (a0 : Bool) {w : World} {R : Ending → World → Prop} (h : f83_vc a0 w R) : Does Tryz.prog 83 #[.bool a0] w R :=
  does_of_vc (ss := [.v (.bool a0)]) f83_ann mixed call83 Tryz.func83 rfl rfl (show 1 ≤ Tryz.f83.ntmps by decide) ((f83_eq a0 w R).symm ▸ h)
/-- Of internal/strconv.isPowerOfTwo (function 84): the condition. -/
def f84_vc (a0 : Int) (w : World) (R : Ending → World → Prop) : Prop :=
  InK .i64 (a0 - 1) ∧ R (.returned (.bool ((bits .and .i64 a0 (a0 - 1)) == 0))) w
def f84_ann : Ann := { loops := [], cuts := [], flip := [], throws := [] }
theorem f84_eq (a0 : Int) (w : World) (R : Ending → World → Prop) : vc Tryz.prog f84_ann (bodyOf Tryz.f84) (retQ Tryz.prog Tryz.f84 R) (envOf Tryz.f84.ntmps [.v (.int .i64 a0)]) [] w = f84_vc a0 w R := by kernel_rfl
theorem f84_does (a0 : Int) {w : World} {R : Ending → World → Prop} (h : f84_vc a0 w R) : Does Tryz.prog 84 #[.int .i64 a0] w R :=
  does_of_vc (ss := [.v (.int .i64 a0)]) f84_ann mixed call84 Tryz.func84 rfl rfl (show 1 ≤ Tryz.f84.ntmps by decide) ((f84_eq a0 w R).symm ▸ h)
/-- Of math/bits.TrailingZeros (function 85): the condition. -/
def f85_vc (a0 : Int) (w : World) (R : Ending → World → Prop) : Prop :=
  Does Tryz.prog 101 #[.int .u64 a0] w fun e7 w7 =>
  ∃ n7 : Int, e7 = .returned (.int .i64 n7) ∧ R (.returned (.int .i64 n7)) w7
def f85_ann : Ann := { loops := [], cuts := [], flip := [], throws := [] }
theorem f85_eq (a0 : Int) (w : World) (R : Ending → World → Prop) : vc Tryz.prog f85_ann (bodyOf Tryz.f85) (retQ Tryz.prog Tryz.f85 R) (envOf Tryz.f85.ntmps [.v (.int .u64 a0)]) [] w = f85_vc a0 w R := by kernel_rfl
theorem f85_does (a0 : Int) {w : World} {R : Ending → World → Prop} (h : f85_vc a0 w R) : Does Tryz.prog 85 #[.int .u64 a0] w R :=
  does_of_vc (ss := [.v (.int .u64 a0)]) f85_ann mixed call85 Tryz.func85 rfl rfl (show 1 ≤ Tryz.f85.ntmps by decide) ((f85_eq a0 w R).symm ▸ h)
/-- Of math.IsNaN (function 86): the condition. -/
def f86_vc (a0 : Nat) (w : World) (R : Ending → World → Prop) : Prop :=
  R (.returned (.bool ((FloatKind.f64.format.order a0 a0 != some Ordering.eq)))) w
def f86_ann : Ann := { loops := [], cuts := [], flip := [], throws := [] }
theorem f86_eq (a0 : Nat) (w : World) (R : Ending → World → Prop) : vc Tryz.prog f86_ann (bodyOf Tryz.f86) (retQ Tryz.prog Tryz.f86 R) (envOf Tryz.f86.ntmps [.v (.float .f64 a0)]) [] w = f86_vc a0 w R := by kernel_rfl
theorem f86_does (a0 : Nat) {w : World} {R : Ending → World → Prop} (h : f86_vc a0 w R) : Does Tryz.prog 86 #[.float .f64 a0] w R :=
  does_of_vc (ss := [.v (.float .f64 a0)]) f86_ann mixed call86 Tryz.func86 rfl rfl (show 1 ≤ Tryz.f86.ntmps by decide) ((f86_eq a0 w R).symm ▸ h)
/-- Of math.normalize (function 87): the condition. -/
def f87_vc (a0 : Nat) (w : World) (R : Ending → World → Prop) : Prop :=
  Does Tryz.prog 38 #[.float .f64 a0] w fun e5 w5 =>
  ∃ f5 : Nat, e5 = .returned (.float .f64 f5) ∧ Br ((FloatKind.f64.format.order f5 4503599627370496 == some Ordering.lt))
  (∃ f8 : Nat, ∃ w8, (binOp .mul 22 (.float .f64 a0) (.float .f64 4841369599423283200)).run Tryz.prog w5 = .ok (.float .f64 f8) w8 ∧ R (.returned (.tuple #[.float .f64 f8, .int .i64 (-52)])) w8)
  (R (.returned (.tuple #[.float .f64 a0, .int .i64 0])) w5)
def f87_ann : Ann := { loops := [], cuts := [], flip := [], throws := [] }
theorem f87_eq (a0 : Nat) (w : World) (R : Ending → World → Prop) : vc Tryz.prog f87_ann (bodyOf Tryz.f87) (retQ Tryz.prog Tryz.f87 R) (envOf Tryz.f87.ntmps [.v (.float .f64 a0)]) [] w = f87_vc a0 w R := by kernel_rfl
theorem f87_does (a0 : Nat) {w : World} {R : Ending → World → Prop} (h : f87_vc a0 w R) : Does Tryz.prog 87 #[.float .f64 a0] w R :=
  does_of_vc (ss := [.v (.float .f64 a0)]) f87_ann mixed call87 Tryz.func87 rfl rfl (show 1 ≤ Tryz.f87.ntmps by decide) ((f87_eq a0 w R).symm ▸ h)
/-- Of math/bits.TrailingZeros64 (function 101): the condition. -/
def f101_vc  (w : World) (R : Ending → World → Prop) : Prop :=
  Br ((16 : Int) == 0)
  (R (.returned (.int .i64 64)) w)
  ((0 : Int) ≤ 58 ∧ ((0 : Int) ≤ ((IntKind.wrap .u64 ((bits .and .u64 16 (IntKind.wrap .u64 (0 - 16))) * 285870213051353865)).fdiv (2 ^ 58)) ∧ ((IntKind.wrap .u64 ((bits .and .u64 16 (IntKind.wrap .u64 (0 - 16))) * 285870213051353865)).fdiv (2 ^ 58)) < ((64 : Nat) : Int)) ∧ ∃ n12 : Int, w.cell? ⟨9, 0 + ((IntKind.wrap .u64 ((bits .and .u64 16 (IntKind.wrap .u64 (0 - 16))) * 285870213051353865)).fdiv (2 ^ 58)).toNat, none⟩ = some (.int .u8 n12) ∧ InK .i64 (n12) ∧ R (.returned (.int .i64 n12)) w)
def f101_ann : Ann := { loops := [], cuts := [], flip := [], throws := [] }
theorem f101_eq  (w : World) (R : Ending → World → Prop) : vc Tryz.prog f101_ann (bodyOf Tryz.f101) (retQ Tryz.prog Tryz.f101 R) (envOf Tryz.f101.ntmps [.v (.int .u64 16)]) [] w = f101_vc  w R := by kernel_rfl
theorem f101_does  {w : World} {R : Ending → World → Prop} (h : f101_vc  w R) : Does Tryz.prog 101 #[.int .u64 16] w R :=
  does_of_vc (ss := [.v (.int .u64 16)]) f101_ann mixed call101 Tryz.func101 rfl rfl (show 1 ≤ Tryz.f101.ntmps by decide) ((f101_eq  w R).symm ▸ h)
end Go.Proofs.YtffhlgejfgmpiaaGreatDoor
