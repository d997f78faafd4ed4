/-
  Of each function of the code: its verification condition, and that it suffices.
-/
import Derived.Test.YtffhlgejfgmpiaaGreatDoorVcDoes
import Derived.Test.YtffhlgejfgmpiaaGreatDoorProg
import Derived.Test.YtffhlgejfgmpiaaGreatDoorV
set_option maxRecDepth 100000
namespace Go.Proofs.YtffhlgejfgmpiaaGreatDoor
open Go.RowKit Go.Vc
theorem call3 : callableB Tryz.prog 3 = true := by kernel_rfl
theorem call4 : callableB Tryz.prog 4 = true := by kernel_rfl
theorem call5 : callableB Tryz.prog 5 = true := by kernel_rfl
theorem call6 : callableB Tryz.prog 6 = true := by kernel_rfl
theorem call10 : callableB Tryz.prog 10 = true := by kernel_rfl
theorem call14 : callableB Tryz.prog 14 = true := by kernel_rfl
theorem call21 : callableB Tryz.prog 21 = true := by kernel_rfl
theorem call31 : callableB Tryz.prog 31 = true := by kernel_rfl
theorem call32 : callableB Tryz.prog 32 = true := by kernel_rfl
theorem call33 : callableB Tryz.prog 33 = true := by kernel_rfl
theorem call54 : callableB Tryz.prog 54 = true := by kernel_rfl
theorem call55 : callableB Tryz.prog 55 = true := by kernel_rfl
theorem call69 : callableB Tryz.prog 69 = true := by kernel_rfl
theorem call91 : callableB Tryz.prog 91 = true := by kernel_rfl
theorem call92 : callableB Tryz.prog 92 = true := by kernel_rfl
/-- Of escritoire/escritoirelaw3.RealShows (function 3): the condition. -/
def f3_vc (a0 : Nat) (a1 : Nat) (w : World) (R : Ending → World → Prop) : Prop :=
  Does Tryz.prog 7 #[] w fun e8 w8 =>
  ∃ b8 : Bool, e8 = .returned (.bool b8) ∧ Br (!b8)
  (R (.returned (.bool false)) w8)
  (Does Tryz.prog 8 #[.float .f64 a0] w8 fun e11 w11 =>
  ∃ s11 : ByteArray, e11 = .returned (.string s11) ∧ Does Tryz.prog 9 #[.string s11] w11 fun e14 w14 =>
  ∃ f14 : Nat, ∃ b14 : Bool, e14 = .returned (.tuple #[.float .f64 f14, .bool b14]) ∧ Does Tryz.prog 10 #[.float .f64 a0] w14 fun e19 w19 =>
  ∃ s19 : ByteArray, e19 = .returned (.string s19) ∧ Br (s11.toList == s19.toList)
  (Br b14
  (Does Tryz.prog 11 #[.float .f64 f14] w19 fun e26 w26 =>
  ∃ n26 : Int, e26 = .returned (.int .u64 n26) ∧ Does Tryz.prog 11 #[.float .f64 a0] w26 fun e28 w28 =>
  ∃ n28 : Int, e28 = .returned (.int .u64 n28) ∧ Br (n26 == n28)
  (Does Tryz.prog 8 #[.float .f64 a1] w28 fun e34 w34 =>
  ∃ s34 : ByteArray, e34 = .returned (.string s34) ∧ Does Tryz.prog 11 #[.float .f64 a0] w34 fun e37 w37 =>
  ∃ n37 : Int, e37 = .returned (.int .u64 n37) ∧ Does Tryz.prog 11 #[.float .f64 a1] w37 fun e39 w39 =>
  ∃ n39 : Int, e39 = .returned (.int .u64 n39) ∧ R (.returned (.bool ((s11.toList == s34.toList) == (n37 == n39)))) w39)
  (R (.returned (.bool false)) w28))
  (R (.returned (.bool false)) w19))
  (R (.returned (.bool false)) w19))
def f3_ann : Ann := { loops := [], cuts := [], flip := [], throws := [] }
theorem f3_eq (a0 : Nat) (a1 : Nat) (w : World) (R : Ending → World → Prop) : vc Tryz.prog f3_ann (bodyOf Tryz.f3) (retQ Tryz.prog Tryz.f3 R) (envOf Tryz.f3.ntmps [.v (.float .f64 a0), .v (.float .f64 a1)]) [] w = f3_vc a0 a1 w R := by kernel_rfl
theorem f3_does (a0 : Nat) (a1 : Nat) {w : World} {R : Ending → World → Prop} (h : f3_vc a0 a1 w R) : Does Tryz.prog 3 #[.float .f64 a0, .float .f64 a1] w R :=
  does_of_vc (ss := [.v (.float .f64 a0), .v (.float .f64 a1)]) f3_ann mixed call3 Tryz.func3 rfl rfl (show 2 ≤ Tryz.f3.ntmps by decide) ((f3_eq a0 a1 w R).symm ▸ h)
/-- Of escritoire/escritoirelaw3.RealReads (function 4): the condition. -/
def f4_vc (a0 : ByteArray) (w : World) (R : Ending → World → Prop) : Prop :=
  Does Tryz.prog 7 #[] w fun e9 w9 =>
  ∃ b9 : Bool, e9 = .returned (.bool b9) ∧ Br (!b9)
  (R (.returned (.bool false)) w9)
  (Br (decide (((a0.size : Int)) > 5000))
  (Does Tryz.prog 9 #[.string a0] w9 fun e16 w16 =>
  ∃ f16 : Nat, ∃ b16 : Bool, e16 = .returned (.tuple #[.float .f64 f16, .bool b16]) ∧ R (.returned (.bool (!b16))) w16)
  (Does Tryz.prog 9 #[.string a0] w9 fun e23 w23 =>
  ∃ f23 : Nat, ∃ b23 : Bool, e23 = .returned (.tuple #[.float .f64 f23, .bool b23]) ∧ Does Tryz.prog 12 #[.string a0] w23 fun e28 w28 =>
  ∃ f28 : Nat, ∃ b28 : Bool, e28 = .returned (.tuple #[.float .f64 f28, .bool b28]) ∧ Br (b23 == b28)
  (Does Tryz.prog 11 #[.float .f64 f23] w28 fun e36 w36 =>
  ∃ n36 : Int, e36 = .returned (.int .u64 n36) ∧ Does Tryz.prog 13 #[.float .f64 f28] w36 fun e38 w38 =>
  ∃ n38 : Int, e38 = .returned (.int .u64 n38) ∧ R (.returned (.bool (n36 == n38))) w38)
  (R (.returned (.bool false)) w28)))
def f4_ann : Ann := { loops := [], cuts := [], flip := [], throws := [] }
theorem f4_eq (a0 : ByteArray) (w : World) (R : Ending → World → Prop) : vc Tryz.prog f4_ann (bodyOf Tryz.f4) (retQ Tryz.prog Tryz.f4 R) (envOf Tryz.f4.ntmps [.v (.string a0)]) [] w = f4_vc a0 w R := by kernel_rfl
theorem f4_does (a0 : ByteArray) {w : World} {R : Ending → World → Prop} (h : f4_vc a0 w R) : Does Tryz.prog 4 #[.string a0] w R :=
  does_of_vc (ss := [.v (.string a0)]) f4_ann mixed call4 Tryz.func4 rfl rfl (show 1 ≤ Tryz.f4.ntmps by decide) ((f4_eq a0 w R).symm ▸ h)
/-- Of escritoire/escritoirelaw3.RealWhole (function 5): the condition. -/
def f5_vc (a0 : Int) (a1 : Int) (w : World) (R : Ending → World → Prop) : Prop :=
  Does Tryz.prog 7 #[] w fun e14 w14 =>
  ∃ b14 : Bool, e14 = .returned (.bool b14) ∧ Br (!b14)
  (R (.returned (.bool false)) w14)
  (Br (decide (a0 < 0))
  (R (.returned (.bool true)) w14)
  (Br (decide (a0 > 999999999999999))
  (R (.returned (.bool true)) w14)
  (Does Tryz.prog 14 #[.int .u64 (IntKind.wrap .u64 (a0))] w14 fun e24 w24 =>
  ∃ s24 : ByteArray, e24 = .returned (.string s24) ∧ Does Tryz.prog 9 #[.string s24] w24 fun e27 w27 =>
  ∃ f27 : Nat, ∃ b27 : Bool, e27 = .returned (.tuple #[.float .f64 f27, .bool b27]) ∧ (((({ data := #[45] } : ByteArray)).size + s24.size : Nat) : Int) ≤ 9223372036854775807 ∧ Does Tryz.prog 9 #[.string ((({ data := #[45] } : ByteArray)) ++ s24)] w27 fun e33 w33 =>
  ∃ f33 : Nat, ∃ b33 : Bool, e33 = .returned (.tuple #[.float .f64 f33, .bool b33]) ∧ Br (!b27)
  (R (.returned (.bool false)) w33)
  (Br (!b33)
  (R (.returned (.bool false)) w33)
  (∃ f45 : Nat, ∃ w45, (convert 3 22 (.int .i64 a0)).run Tryz.prog w33 = .ok (.float .f64 f45) w45 ∧ Br ((FloatKind.f64.format.order f27 f45 != some Ordering.eq))
  (R (.returned (.bool false)) w45)
  (Does Tryz.prog 8 #[.float .f64 f27] w45 fun e50 w50 =>
  ∃ s50 : ByteArray, e50 = .returned (.string s50) ∧ Br (!(s50.toList == s24.toList))
  (R (.returned (.bool false)) w50)
  (Does Tryz.prog 8 #[.float .f64 f33] w50 fun e56 w56 =>
  ∃ s56 : ByteArray, e56 = .returned (.string s56) ∧ (((({ data := #[45] } : ByteArray)).size + s24.size : Nat) : Int) ≤ 9223372036854775807 ∧ Br (!(s56.toList == ((({ data := #[45] } : ByteArray)) ++ s24).toList))
  (R (.returned (.bool false)) w56)
  (InK .i64 (a1) ∧ InK .i64 (((s24.size : Int)) + 1) ∧ ((((s24.size : Int)) + 1) : Int) ≠ 0 ∧ Br ((a1.tmod (((s24.size : Int)) + 1)) == 0)
  (R (.returned (.bool true)) w56)
  (Br ((a1.tmod (((s24.size : Int)) + 1)) == ((s24.size : Int)))
  (R (.returned (.bool true)) w56)
  (((0 : Int) ≤ 0 ∧ 0 < (s24.size : Int)) ∧ Br ((sb s24 0) == 48)
  (R (.returned (.bool true)) w56)
  (∀ wd13, Drew w56 wd13 →
  InK .i64 (((s24.size : Int)) - (a1.tmod (((s24.size : Int)) + 1))) ∧ ((0 : Int) ≤ (((s24.size : Int)) - (a1.tmod (((s24.size : Int)) + 1))) ∧ (((s24.size : Int)) - (a1.tmod (((s24.size : Int)) + 1))) ≤ (s24.size : Int)) ∧ (((s24.extract 0 ((((s24.size : Int)) - (a1.tmod (((s24.size : Int)) + 1))).toNat)).size + (({ data := #[46] } : ByteArray)).size : Nat) : Int) ≤ 9223372036854775807 ∧ InK .i64 (((s24.size : Int)) - (a1.tmod (((s24.size : Int)) + 1))) ∧ ((0 : Int) ≤ (((s24.size : Int)) - (a1.tmod (((s24.size : Int)) + 1))) ∧ (((s24.size : Int)) - (a1.tmod (((s24.size : Int)) + 1))) ≤ (s24.size : Int)) ∧ ((((s24.extract 0 ((((s24.size : Int)) - (a1.tmod (((s24.size : Int)) + 1))).toNat)) ++ (({ data := #[46] } : ByteArray))).size + (s24.extract ((((s24.size : Int)) - (a1.tmod (((s24.size : Int)) + 1))).toNat) s24.size).size : Nat) : Int) ≤ 9223372036854775807 ∧ Does Tryz.prog 9 #[.string (((s24.extract 0 ((((s24.size : Int)) - (a1.tmod (((s24.size : Int)) + 1))).toNat)) ++ (({ data := #[46] } : ByteArray))) ++ (s24.extract ((((s24.size : Int)) - (a1.tmod (((s24.size : Int)) + 1))).toNat) s24.size))] wd13 fun e95 w95 =>
  ∃ f95 : Nat, ∃ b95 : Bool, e95 = .returned (.tuple #[.float .f64 f95, .bool b95]) ∧ ∃ I16 : Nat → Int → Nat → World → Prop, (∃ nl16, I16 4607182418800017408 0 nl16 w95) ∧ ∀ f12 : Nat, ∀ x13 : Int, ∀ (nl16 : Nat) (wl16 : World), I16 f12 x13 nl16 wl16 →
  Br (decide (x13 < (a1.tmod (((s24.size : Int)) + 1))))
  (∃ f104 : Nat, ∃ w104, (binOp .mul 22 (.float .f64 f12) (.float .f64 4621819117588971520)).run Tryz.prog wl16 = .ok (.float .f64 f104) w104 ∧ InK .i64 (x13 + 1) ∧ ∃ ml16, ml16 < nl16 ∧ I16 f104 (x13 + 1) ml16 w104)
  (Br b95
  (Does Tryz.prog 11 #[.float .f64 f95] wl16 fun e108 w108 =>
  ∃ n108 : Int, e108 = .returned (.int .u64 n108) ∧ ∃ f110 : Nat, ∃ w110, (convert 3 22 (.int .i64 a0)).run Tryz.prog w108 = .ok (.float .f64 f110) w110 ∧ ∃ f112 : Nat, ∃ w112, (binOp .quo 22 (.float .f64 f110) (.float .f64 f12)).run Tryz.prog w110 = .ok (.float .f64 f112) w112 ∧ Does Tryz.prog 11 #[.float .f64 f112] w112 fun e113 w113 =>
  ∃ n113 : Int, e113 = .returned (.int .u64 n113) ∧ R (.returned (.bool (n108 == n113))) w113)
  (R (.returned (.bool false)) wl16)))))))))))))
def f5_ann : Ann := { loops := [(16, [(12, .flt .f64), (13, .int .i64)])], cuts := [], flip := [], throws := [] }
theorem f5_eq (a0 : Int) (a1 : Int) (w : World) (R : Ending → World → Prop) : vc Tryz.prog f5_ann (bodyOf Tryz.f5) (retQ Tryz.prog Tryz.f5 R) (envOf Tryz.f5.ntmps [.v (.int .i64 a0), .v (.int .u8 a1)]) [] w = f5_vc a0 a1 w R := by kernel_rfl
theorem f5_does (a0 : Int) (a1 : Int) {w : World} {R : Ending → World → Prop} (h : f5_vc a0 a1 w R) : Does Tryz.prog 5 #[.int .i64 a0, .int .u8 a1] w R :=
  does_of_vc (ss := [.v (.int .i64 a0), .v (.int .u8 a1)]) f5_ann mixed call5 Tryz.func5 rfl rfl (show 2 ≤ Tryz.f5.ntmps by decide) ((f5_eq a0 a1 w R).symm ▸ h)
/-- Of escritoire/escritoirelaw3.RealKnown (function 6): the condition. -/
def f6_vc  (w : World) (R : Ending → World → Prop) : Prop :=
  Does Tryz.prog 7 #[] w fun e19 w19 =>
  ∃ b19 : Bool, e19 = .returned (.bool b19) ∧ Br (!b19)
  (R (.returned (.bool false)) w19)
  (∃ f23 : Nat, ∃ w23, (binOp .quo 22 (.float .f64 0) (.float .f64 0)).run Tryz.prog w19 = .ok (.float .f64 f23) w23 ∧ Does Tryz.prog 9 #[.string (({ data := #[51, 46, 53] } : ByteArray))] w23 fun e25 w25 =>
  ∃ f25 : Nat, ∃ b25 : Bool, e25 = .returned (.tuple #[.float .f64 f25, .bool b25]) ∧ Does Tryz.prog 9 #[.string (({ data := #[48, 51] } : ByteArray))] w25 fun e29 w29 =>
  ∃ f29 : Nat, ∃ b29 : Bool, e29 = .returned (.tuple #[.float .f64 f29, .bool b29]) ∧ Does Tryz.prog 9 #[.string (({ data := #[48, 120, 49, 46, 56, 112, 43, 49] } : ByteArray))] w29 fun e33 w33 =>
  ∃ f33 : Nat, ∃ b33 : Bool, e33 = .returned (.tuple #[.float .f64 f33, .bool b33]) ∧ Does Tryz.prog 9 #[.string (({ data := #[48, 120, 49, 46, 56, 48, 112, 43, 49] } : ByteArray))] w33 fun e37 w37 =>
  ∃ f37 : Nat, ∃ b37 : Bool, e37 = .returned (.tuple #[.float .f64 f37, .bool b37]) ∧ Does Tryz.prog 9 #[.string (({ data := #[45, 48, 46, 48] } : ByteArray))] w37 fun e41 w41 =>
  ∃ f41 : Nat, ∃ b41 : Bool, e41 = .returned (.tuple #[.float .f64 f41, .bool b41]) ∧ Does Tryz.prog 15 #[.float .f64 4602678819172646912, .int .i64 9] w41 fun e45 w45 =>
  ∃ n45 : Int, ∃ b45 : Bool, e45 = .returned (.tuple #[.int .i64 n45, .bool b45]) ∧ ∃ f50 : Nat, ∃ w50, (binOp .quo 22 (.float .f64 13830554455654793216) (.float .f64 0)).run Tryz.prog w45 = .ok (.float .f64 f50) w50 ∧ Does Tryz.prog 15 #[.float .f64 f50, .int .i64 9] w50 fun e51 w51 =>
  ∃ n51 : Int, ∃ b51 : Bool, e51 = .returned (.tuple #[.int .i64 n51, .bool b51]) ∧ Does Tryz.prog 15 #[.float .f64 f23, .int .i64 9] w51 fun e56 w56 =>
  ∃ n56 : Int, ∃ b56 : Bool, e56 = .returned (.tuple #[.int .i64 n56, .bool b56]) ∧ Does Tryz.prog 17 #[] w56 fun e59 w59 =>
  ∃ f59 : Nat, e59 = .returned (.float .f64 f59) ∧ Does Tryz.prog 16 #[.float .f64 f59, .float .f64 0] w59 fun e61 w61 =>
  ∃ n61 : Int, e61 = .returned (.int .i64 n61) ∧ Br (n61 == (-1))
  (∃ f66 : Nat, ∃ w66, (binOp .quo 22 (.float .f64 4607182418800017408) (.float .f64 0)).run Tryz.prog w61 = .ok (.float .f64 f66) w66 ∧ Does Tryz.prog 16 #[.float .f64 f23, .float .f64 f66] w66 fun e67 w67 =>
  ∃ n67 : Int, e67 = .returned (.int .i64 n67) ∧ Br (n67 == 1)
  (Does Tryz.prog 17 #[] w67 fun e71 w71 =>
  ∃ f71 : Nat, e71 = .returned (.float .f64 f71) ∧ Does Tryz.prog 8 #[.float .f64 f71] w71 fun e72 w72 =>
  ∃ s72 : ByteArray, e72 = .returned (.string s72) ∧ Br (s72.toList == (({ data := #[45, 48] } : ByteArray)).toList)
  (Does Tryz.prog 8 #[.float .f64 4602678819172646912] w72 fun e76 w76 =>
  ∃ s76 : ByteArray, e76 = .returned (.string s76) ∧ Br (s76.toList == (({ data := #[48, 120, 49, 112, 45, 49] } : ByteArray)).toList)
  (Br b25
  (Br ((FloatKind.f64.format.order f25 4615063718147915776 == some Ordering.eq))
  (Br (!b29)
  (Br (!b33)
  (Br ((FloatKind.f64.format.order f33 0 == some Ordering.eq))
  (Br (!b37)
  (Br b41
  (Does Tryz.prog 11 #[.float .f64 f41] w76 fun e107 w107 =>
  ∃ n107 : Int, e107 = .returned (.int .u64 n107) ∧ Br (n107 == 9223372036854775808)
  (Does Tryz.prog 18 #[.int .i64 0, .int .i64 0] w107 fun e111 w111 =>
  ∃ f111 : Nat, e111 = .returned (.float .f64 f111) ∧ Does Tryz.prog 8 #[.float .f64 f111] w111 fun e112 w112 =>
  ∃ s112 : ByteArray, e112 = .returned (.string s112) ∧ Br (s112.toList == (({ data := #[110, 97, 110] } : ByteArray)).toList)
  (Does Tryz.prog 18 #[.int .i64 1, .int .i64 0] w112 fun e116 w116 =>
  ∃ f116 : Nat, e116 = .returned (.float .f64 f116) ∧ Does Tryz.prog 8 #[.float .f64 f116] w116 fun e117 w117 =>
  ∃ s117 : ByteArray, e117 = .returned (.string s117) ∧ Br (s117.toList == (({ data := #[105, 110, 102] } : ByteArray)).toList)
  (Br b45
  (Br (n45 == 4)
  (Br b51
  (Br (n51 == 0)
  (R (.returned (.bool (!b56))) w117)
  (R (.returned (.bool false)) w117))
  (R (.returned (.bool false)) w117))
  (R (.returned (.bool false)) w117))
  (R (.returned (.bool false)) w117))
  (R (.returned (.bool false)) w117))
  (R (.returned (.bool false)) w112))
  (R (.returned (.bool false)) w107))
  (R (.returned (.bool false)) w76))
  (R (.returned (.bool false)) w76))
  (R (.returned (.bool false)) w76))
  (R (.returned (.bool false)) w76))
  (R (.returned (.bool false)) w76))
  (R (.returned (.bool false)) w76))
  (R (.returned (.bool false)) w76))
  (R (.returned (.bool false)) w76))
  (R (.returned (.bool false)) w72))
  (R (.returned (.bool false)) w67))
  (R (.returned (.bool false)) w61))
def f6_ann : Ann := { loops := [], cuts := [], flip := [], throws := [] }
theorem f6_eq  (w : World) (R : Ending → World → Prop) : vc Tryz.prog f6_ann (bodyOf Tryz.f6) (retQ Tryz.prog Tryz.f6 R) (envOf Tryz.f6.ntmps []) [] w = f6_vc  w R := by kernel_rfl
theorem f6_does  {w : World} {R : Ending → World → Prop} (h : f6_vc  w R) : Does Tryz.prog 6 #[] w R :=
  does_of_vc (ss := []) f6_ann mixed call6 Tryz.func6 rfl rfl (show 0 ≤ Tryz.f6.ntmps by decide) ((f6_eq  w R).symm ▸ h)
/-- Of escritoire/escritoireref3.Show (function 10): the condition. -/
def f10_vc (a0 : Nat) (w : World) (R : Ending → World → Prop) : Prop :=
  Does Tryz.prog 13 #[.float .f64 a0] w fun e10 w10 =>
  ∃ n10 : Int, e10 = .returned (.int .u64 n10) ∧ ∃ J5 : ByteArray → Nat → World → Prop, ((0 : Int) ≤ 63 ∧ Br ((n10.fdiv (2 ^ 63)) == 1)
  (∃ nc5, J5 (({ data := #[45] } : ByteArray)) nc5 w10)
  (∃ nc5, J5 (({ data := #[] } : ByteArray)) nc5 w10)) ∧ ∀ s4 : ByteArray, ∀ (nc5 : Nat) (wc5 : World), J5 s4 nc5 wc5 →
  (0 : Int) ≤ 52 ∧ InK .i64 (bits .and .u64 (n10.fdiv (2 ^ 52)) 2047) ∧ Br ((FloatKind.f64.format.order a0 a0 != some Ordering.eq))
  (R (.returned (.string (({ data := #[110, 97, 110] } : ByteArray)))) wc5)
  (Br ((bits .and .u64 (n10.fdiv (2 ^ 52)) 2047) == 2047)
  (((s4.size + (({ data := #[105, 110, 102] } : ByteArray)).size : Nat) : Int) ≤ 9223372036854775807 ∧ R (.returned (.string (s4 ++ (({ data := #[105, 110, 102] } : ByteArray))))) wc5)
  (Br ((FloatKind.f64.format.order a0 0 == some Ordering.eq))
  (((s4.size + (({ data := #[48] } : ByteArray)).size : Nat) : Int) ≤ 9223372036854775807 ∧ R (.returned (.string (s4 ++ (({ data := #[48] } : ByteArray))))) wc5)
  (∃ J16 : Int → Int → Nat → World → Prop, (Br ((bits .and .u64 (n10.fdiv (2 ^ 52)) 2047) == 0)
  (∃ nc16, J16 1 (bits .and .u64 n10 4503599627370495) nc16 wc5)
  (∃ nc16, J16 (bits .and .u64 (n10.fdiv (2 ^ 52)) 2047) (bits .or .u64 (bits .and .u64 n10 4503599627370495) 4503599627370496) nc16 wc5)) ∧ ∀ x5 : Int, ∀ x6 : Int, ∀ (nc16 : Nat) (wc16 : World), J16 x5 x6 nc16 wc16 →
  ∃ I16 : Int → Int → Nat → World → Prop, (∃ nl16, I16 x5 x6 nl16 wc16) ∧ ∀ x5_1 : Int, ∀ x6_1 : Int, ∀ (nl16 : Nat) (wl16 : World), I16 x5_1 x6_1 nl16 wl16 →
  (0 : Int) ≤ 52 ∧ Br ((x6_1.fdiv (2 ^ 52)) == 0)
  ((0 : Int) ≤ 1 ∧ InK .i64 (x5_1 - 1) ∧ ∃ ml16, ml16 < nl16 ∧ I16 (x5_1 - 1) (IntKind.wrap .u64 (x6_1 * 2 ^ 1)) ml16 wl16)
  (InK .i64 (x5_1 - 1023) ∧ ∃ J22 : Nat → World → Prop, (Br (decide ((x5_1 - 1023) ≥ 0))
  (Br (decide ((x5_1 - 1023) ≤ 52))
  ((0 : Int) ≤ (IntKind.wrap .u64 (12 + (IntKind.wrap .u64 (x5_1 - 1023)))) ∧ Br ((IntKind.wrap .u64 (x6_1 * 2 ^ (min (IntKind.wrap .u64 (12 + (IntKind.wrap .u64 (x5_1 - 1023)))).toNat 64))) == 0)
  ((0 : Int) ≤ (IntKind.wrap .u64 (52 - (IntKind.wrap .u64 (x5_1 - 1023)))) ∧ Br (decide ((x6_1.fdiv (2 ^ (min (IntKind.wrap .u64 (52 - (IntKind.wrap .u64 (x5_1 - 1023)))).toNat 64))) < 1000000000000000))
  ((0 : Int) ≤ (IntKind.wrap .u64 (52 - (IntKind.wrap .u64 (x5_1 - 1023)))) ∧ Does Tryz.prog 14 #[.int .u64 (x6_1.fdiv (2 ^ (min (IntKind.wrap .u64 (52 - (IntKind.wrap .u64 (x5_1 - 1023)))).toNat 64)))] wl16 fun e75 w75 =>
  ∃ s75 : ByteArray, e75 = .returned (.string s75) ∧ ((s4.size + s75.size : Nat) : Int) ≤ 9223372036854775807 ∧ R (.returned (.string (s4 ++ s75))) w75)
  (∃ nc22, J22  nc22 wl16))
  (∃ nc22, J22  nc22 wl16))
  (∃ nc22, J22  nc22 wl16))
  (∃ nc22, J22  nc22 wl16)) ∧ ∀ (nc22 : Nat) (wc22 : World), J22  nc22 wc22 →
  ((s4.size + (({ data := #[48, 120, 49] } : ByteArray)).size : Nat) : Int) ≤ 9223372036854775807 ∧ (0 : Int) ≤ 12 ∧ ∃ J26 : ByteArray → Nat → World → Prop, (Br ((IntKind.wrap .u64 (x6_1 * 2 ^ 12)) != 0)
  ((((s4 ++ (({ data := #[48, 120, 49] } : ByteArray))).size + (({ data := #[46] } : ByteArray)).size : Nat) : Int) ≤ 9223372036854775807 ∧ ∃ nc26, J26 ((s4 ++ (({ data := #[48, 120, 49] } : ByteArray))) ++ (({ data := #[46] } : ByteArray))) nc26 wc22)
  (∃ nc26, J26 (s4 ++ (({ data := #[48, 120, 49] } : ByteArray))) nc26 wc22)) ∧ ∀ s7 : ByteArray, ∀ (nc26 : Nat) (wc26 : World), J26 s7 nc26 wc26 →
  ∃ J29 : ByteArray → Nat → World → Prop, (∃ I26 : ByteArray → Int → Nat → World → Prop, (∃ nl26, I26 s7 (IntKind.wrap .u64 (x6_1 * 2 ^ 12)) nl26 wc26) ∧ ∀ s7_1 : ByteArray, ∀ x8 : Int, ∀ (nl26 : Nat) (wl26 : World), I26 s7_1 x8 nl26 wl26 →
  Br (x8 != 0)
  ((0 : Int) ≤ 60 ∧ ((0 : Int) ≤ (x8.fdiv (2 ^ 60)) ∧ (x8.fdiv (2 ^ 60)) < ((({ data := #[48, 49, 50, 51, 52, 53, 54, 55, 56, 57, 97, 98, 99, 100, 101, 102] } : ByteArray)).size : Int)) ∧ ∀ b91 w91, NewBlk wl26 b91 [.int .u8 (sb (({ data := #[48, 49, 50, 51, 52, 53, 54, 55, 56, 57, 97, 98, 99, 100, 101, 102] } : ByteArray)) (x8.fdiv (2 ^ 60)))] 5 w91 →
  ∃ s92 : ByteArray, ∃ w92, (convert 50 9 (.slice (some ⟨b91, 0, none⟩) 1 1)).run Tryz.prog w91 = .ok (.string s92) w92 ∧ ((s7_1.size + s92.size : Nat) : Int) ≤ 9223372036854775807 ∧ (0 : Int) ≤ 4 ∧ ∃ ml26, ml26 < nl26 ∧ I26 (s7_1 ++ s92) (IntKind.wrap .u64 (x8 * 2 ^ 4)) ml26 w92)
  (∃ nc29, J29 s7_1 nc29 wl26)) ∧ ∀ s7_2 : ByteArray, ∀ (nc29 : Nat) (wc29 : World), J29 s7_2 nc29 wc29 →
  Br (decide ((x5_1 - 1023) < 0))
  (((s7_2.size + (({ data := #[112, 45] } : ByteArray)).size : Nat) : Int) ≤ 9223372036854775807 ∧ InK .i64 (0 - (x5_1 - 1023)) ∧ Does Tryz.prog 14 #[.int .u64 (IntKind.wrap .u64 (0 - (x5_1 - 1023)))] wc29 fun e103 w103 =>
  ∃ s103 : ByteArray, e103 = .returned (.string s103) ∧ (((s7_2 ++ (({ data := #[112, 45] } : ByteArray))).size + s103.size : Nat) : Int) ≤ 9223372036854775807 ∧ R (.returned (.string ((s7_2 ++ (({ data := #[112, 45] } : ByteArray))) ++ s103))) w103)
  (((s7_2.size + (({ data := #[112, 43] } : ByteArray)).size : Nat) : Int) ≤ 9223372036854775807 ∧ Does Tryz.prog 14 #[.int .u64 (IntKind.wrap .u64 (x5_1 - 1023))] wc29 fun e109 w109 =>
  ∃ s109 : ByteArray, e109 = .returned (.string s109) ∧ (((s7_2 ++ (({ data := #[112, 43] } : ByteArray))).size + s109.size : Nat) : Int) ≤ 9223372036854775807 ∧ R (.returned (.string ((s7_2 ++ (({ data := #[112, 43] } : ByteArray))) ++ s109))) w109)))))
def f10_ann : Ann := { loops := [(16, [(5, .int .i64), (6, .int .u64)]), (26, [(7, .str), (8, .int .u64)])], cuts := [(5, [(4, .str)]), (16, [(5, .int .i64), (6, .int .u64)]), (22, []), (26, [(7, .str)]), (29, [(7, .str)])], flip := [], throws := [] }
theorem f10_eq (a0 : Nat) (w : World) (R : Ending → World → Prop) : vc Tryz.prog f10_ann (bodyOf Tryz.f10) (retQ Tryz.prog Tryz.f10 R) (envOf Tryz.f10.ntmps [.v (.float .f64 a0)]) [] w = f10_vc a0 w R := by kernel_rfl
theorem f10_does (a0 : Nat) {w : World} {R : Ending → World → Prop} (h : f10_vc a0 w R) : Does Tryz.prog 10 #[.float .f64 a0] w R :=
  does_of_vc (ss := [.v (.float .f64 a0)]) f10_ann mixed call10 Tryz.func10 rfl rfl (show 1 ≤ Tryz.f10.ntmps by decide) ((f10_eq a0 w R).symm ▸ h)
/-- Of escritoire/escritoireref3.Dec (function 14): the condition. -/
def f14_vc (a0 : Int) (w : World) (R : Ending → World → Prop) : Prop :=
  ∃ I2 : Int → ByteArray → Nat → World → Prop, (∃ nl2, I2 a0 (({ data := #[] } : ByteArray)) nl2 w) ∧ ∀ x0 : Int, ∀ s3 : ByteArray, ∀ (nl2 : Nat) (wl2 : World), I2 x0 s3 nl2 wl2 →
  (10 : Int) ≠ 0 ∧ ∀ b8 w8, NewBlk wl2 b8 [.int .u8 (IntKind.wrap .u8 (IntKind.wrap .u64 (48 + (x0.tmod 10))))] 5 w8 →
  ∃ s9 : ByteArray, ∃ w9, (convert 50 9 (.slice (some ⟨b8, 0, none⟩) 1 1)).run Tryz.prog w8 = .ok (.string s9) w9 ∧ ((s9.size + s3.size : Nat) : Int) ≤ 9223372036854775807 ∧ (10 : Int) ≠ 0 ∧ Br ((IntKind.wrap .u64 (x0.tdiv 10)) == 0)
  (R (.returned (.string (s9 ++ s3))) w9)
  (∃ ml2, ml2 < nl2 ∧ I2 (IntKind.wrap .u64 (x0.tdiv 10)) (s9 ++ s3) ml2 w9)
def f14_ann : Ann := { loops := [(2, [(0, .int .u64), (3, .str)])], cuts := [], flip := [], throws := [] }
theorem f14_eq (a0 : Int) (w : World) (R : Ending → World → Prop) : vc Tryz.prog f14_ann (bodyOf Tryz.f14) (retQ Tryz.prog Tryz.f14 R) (envOf Tryz.f14.ntmps [.v (.int .u64 a0)]) [] w = f14_vc a0 w R := by kernel_rfl
theorem f14_does (a0 : Int) {w : World} {R : Ending → World → Prop} (h : f14_vc a0 w R) : Does Tryz.prog 14 #[.int .u64 a0] w R :=
  does_of_vc (ss := [.v (.int .u64 a0)]) f14_ann mixed call14 Tryz.func14 rfl rfl (show 1 ≤ Tryz.f14.ntmps by decide) ((f14_eq a0 w R).symm ▸ h)
/-- Of math.Trunc (function 21): the condition. -/
def f21_vc (a0 : Nat) (w : World) (R : Ending → World → Prop) : Prop :=
  Does Tryz.prog 39 #[.float .f64 a0] w fun e4 w4 =>
  ∃ f4 : Nat, e4 = .returned (.float .f64 f4) ∧ R (.returned (.float .f64 f4)) w4
def f21_ann : Ann := { loops := [], cuts := [], flip := [], throws := [] }
theorem f21_eq (a0 : Nat) (w : World) (R : Ending → World → Prop) : vc Tryz.prog f21_ann (bodyOf Tryz.f21) (retQ Tryz.prog Tryz.f21 R) (envOf Tryz.f21.ntmps [.v (.float .f64 a0)]) [] w = f21_vc a0 w R := by kernel_rfl
theorem f21_does (a0 : Nat) {w : World} {R : Ending → World → Prop} (h : f21_vc a0 w R) : Does Tryz.prog 21 #[.float .f64 a0] w R :=
  does_of_vc (ss := [.v (.float .f64 a0)]) f21_ann mixed call21 Tryz.func21 rfl rfl (show 1 ≤ Tryz.f21.ntmps by decide) ((f21_eq a0 w R).symm ▸ h)
/-- Of escritoire/escritoireref3.power (function 31): the condition. -/
def f31_vc (a0 : ByteArray) (w : World) (R : Ending → World → Prop) : Prop :=
  ∃ J10 : Int → Int → Int → Nat → World → Prop, (Br (decide ((3 : Int) < ((a0.size : Int))))
  (((0 : Int) ≤ 3 ∧ 3 < (a0.size : Int)) ∧ Br ((sb a0 3) == 46)
  (InK .i64 (3 + 1) ∧ ∃ I6 : Int → Int → Int → Nat → World → Prop, (∃ nl6, I6 (3 + 1) 1 0 nl6 w) ∧ ∀ x4 : Int, ∀ x5 : Int, ∀ x6 : Int, ∀ (nl6 : Nat) (wl6 : World), I6 x4 x5 x6 nl6 wl6 →
  Br (decide (x4 < ((a0.size : Int))))
  (((0 : Int) ≤ x4 ∧ x4 < (a0.size : Int)) ∧ Does Tryz.prog 54 #[.int .u8 (sb a0 x4)] wl6 fun e30 w30 =>
  ∃ n30 : Int, e30 = .returned (.int .u64 n30) ∧ Br (decide (n30 < 16))
  (Br (decide (x6 < 13))
  ((0 : Int) ≤ 4 ∧ ((0 : Int) ≤ x4 ∧ x4 < (a0.size : Int)) ∧ Does Tryz.prog 54 #[.int .u8 (sb a0 x4)] w30 fun e42 w42 =>
  ∃ n42 : Int, e42 = .returned (.int .u64 n42) ∧ InK .i64 (x6 + 1) ∧ InK .i64 (x4 + 1) ∧ ∃ ml6, ml6 < nl6 ∧ I6 (x4 + 1) (bits .or .u64 (IntKind.wrap .u64 (x5 * 2 ^ 4)) n42) (x6 + 1) ml6 w42)
  (∃ nc10, J10 x4 x5 x6 nc10 w30))
  (∃ nc10, J10 x4 x5 x6 nc10 w30))
  (∃ nc10, J10 x4 x5 x6 nc10 wl6))
  (∃ nc10, J10 3 1 0 nc10 w))
  (∃ nc10, J10 3 1 0 nc10 w)) ∧ ∀ x4_1 : Int, ∀ x5_1 : Int, ∀ x6_1 : Int, ∀ (nc10 : Nat) (wc10 : World), J10 x4_1 x5_1 x6_1 nc10 wc10 →
  ∃ J12 : Nat → World → Prop, (InK .i64 (x4_1 + 2) ∧ Br (decide ((x4_1 + 2) ≥ ((a0.size : Int))))
  (R (.returned (.tuple #[.float .f64 0, .bool false])) wc10)
  (((0 : Int) ≤ x4_1 ∧ x4_1 < (a0.size : Int)) ∧ Br ((sb a0 x4_1) != 112)
  (R (.returned (.tuple #[.float .f64 0, .bool false])) wc10)
  (InK .i64 (x4_1 + 1) ∧ ((0 : Int) ≤ (x4_1 + 1) ∧ (x4_1 + 1) < (a0.size : Int)) ∧ Br ((sb a0 (x4_1 + 1)) != 43)
  (InK .i64 (x4_1 + 1) ∧ ((0 : Int) ≤ (x4_1 + 1) ∧ (x4_1 + 1) < (a0.size : Int)) ∧ Br ((sb a0 (x4_1 + 1)) != 45)
  (R (.returned (.tuple #[.float .f64 0, .bool false])) wc10)
  (InK .i64 (((a0.size : Int)) - x4_1) ∧ Br (decide ((((a0.size : Int)) - x4_1) > 6))
  (R (.returned (.tuple #[.float .f64 0, .bool false])) wc10)
  (∃ nc12, J12  nc12 wc10)))
  (InK .i64 (((a0.size : Int)) - x4_1) ∧ Br (decide ((((a0.size : Int)) - x4_1) > 6))
  (R (.returned (.tuple #[.float .f64 0, .bool false])) wc10)
  (∃ nc12, J12  nc12 wc10))))) ∧ ∀ (nc12 : Nat) (wc12 : World), J12  nc12 wc12 →
  InK .i64 (x4_1 + 2) ∧ ∃ I14 : Int → Int → Nat → World → Prop, (∃ nl14, I14 0 (x4_1 + 2) nl14 wc12) ∧ ∀ x7 : Int, ∀ x8 : Int, ∀ (nl14 : Nat) (wl14 : World), I14 x7 x8 nl14 wl14 →
  Br (decide (x8 < ((a0.size : Int))))
  (((0 : Int) ≤ x8 ∧ x8 < (a0.size : Int)) ∧ Does Tryz.prog 55 #[.int .u8 (sb a0 x8)] wl14 fun e91 w91 =>
  ∃ b91 : Bool, e91 = .returned (.bool b91) ∧ Br (!b91)
  (R (.returned (.tuple #[.float .f64 0, .bool false])) w91)
  (InK .i64 (x7 * 10) ∧ ((0 : Int) ≤ x8 ∧ x8 < (a0.size : Int)) ∧ InK .i64 (IntKind.wrap .u8 ((sb a0 x8) - 48)) ∧ InK .i64 ((x7 * 10) + (IntKind.wrap .u8 ((sb a0 x8) - 48))) ∧ InK .i64 (x8 + 1) ∧ ∃ ml14, ml14 < nl14 ∧ I14 ((x7 * 10) + (IntKind.wrap .u8 ((sb a0 x8) - 48))) (x8 + 1) ml14 w91))
  (∃ J21 : Int → Nat → World → Prop, (InK .i64 (x4_1 + 1) ∧ ((0 : Int) ≤ (x4_1 + 1) ∧ (x4_1 + 1) < (a0.size : Int)) ∧ Br ((sb a0 (x4_1 + 1)) == 45)
  (InK .i64 (0 - x7) ∧ ∃ nc21, J21 (0 - x7) nc21 wl14)
  (∃ nc21, J21 x7 nc21 wl14)) ∧ ∀ x7_1 : Int, ∀ (nc21 : Nat) (wc21 : World), J21 x7_1 nc21 wc21 →
  ∃ f109 : Nat, ∃ w109, (convert 27 22 (.int .u64 x5_1)).run Tryz.prog wc21 = .ok (.float .f64 f109) w109 ∧ InK .i64 (4 * x6_1) ∧ InK .i64 (x7_1 - (4 * x6_1)) ∧ ∃ I23 : Int → Nat → Nat → World → Prop, (∃ nl23, I23 (x7_1 - (4 * x6_1)) f109 nl23 w109) ∧ ∀ x7_2 : Int, ∀ f9 : Nat, ∀ (nl23 : Nat) (wl23 : World), I23 x7_2 f9 nl23 wl23 →
  Br (decide (x7_2 > 0))
  (∃ f119 : Nat, ∃ w119, (binOp .mul 22 (.float .f64 f9) (.float .f64 4611686018427387904)).run Tryz.prog wl23 = .ok (.float .f64 f119) w119 ∧ InK .i64 (x7_2 - 1) ∧ ∃ ml23, ml23 < nl23 ∧ I23 (x7_2 - 1) f119 ml23 w119)
  (∃ I26 : Int → Nat → Nat → World → Prop, (∃ nl26, I26 x7_2 f9 nl26 wl23) ∧ ∀ x7_3 : Int, ∀ f9_1 : Nat, ∀ (nl26 : Nat) (wl26 : World), I26 x7_3 f9_1 nl26 wl26 →
  Br (decide (x7_3 < 0))
  (Br ((FloatKind.f64.format.order f9_1 0 != some Ordering.eq))
  (∃ f129 : Nat, ∃ w129, (binOp .quo 22 (.float .f64 f9_1) (.float .f64 4611686018427387904)).run Tryz.prog wl26 = .ok (.float .f64 f129) w129 ∧ InK .i64 (x7_3 + 1) ∧ ∃ ml26, ml26 < nl26 ∧ I26 (x7_3 + 1) f129 ml26 w129)
  (R (.returned (.tuple #[.float .f64 f9_1, .bool true])) wl26))
  (R (.returned (.tuple #[.float .f64 f9_1, .bool true])) wl26)))
def f31_ann : Ann := { loops := [(6, [(4, .int .i64), (5, .int .u64), (6, .int .i64)]), (14, [(7, .int .i64), (8, .int .i64)]), (23, [(7, .int .i64), (9, .flt .f64)]), (26, [(7, .int .i64), (9, .flt .f64)])], cuts := [(10, [(4, .int .i64), (5, .int .u64), (6, .int .i64)]), (12, []), (21, [(7, .int .i64)])], flip := [], throws := [] }
theorem f31_eq (a0 : ByteArray) (w : World) (R : Ending → World → Prop) : vc Tryz.prog f31_ann (bodyOf Tryz.f31) (retQ Tryz.prog Tryz.f31 R) (envOf Tryz.f31.ntmps [.v (.string a0)]) [] w = f31_vc a0 w R := by kernel_rfl
theorem f31_does (a0 : ByteArray) {w : World} {R : Ending → World → Prop} (h : f31_vc a0 w R) : Does Tryz.prog 31 #[.string a0] w R :=
  does_of_vc (ss := [.v (.string a0)]) f31_ann mixed call31 Tryz.func31 rfl rfl (show 1 ≤ Tryz.f31.ntmps by decide) ((f31_eq a0 w R).symm ▸ h)
/-- Of math.Copysign (function 32): the condition. -/
def f32_vc (a0 : Nat) (a1 : Nat) (w : World) (R : Ending → World → Prop) : Prop :=
  Does Tryz.prog 30 #[.float .f64 a0] w fun e6 w6 =>
  ∃ n6 : Int, e6 = .returned (.int .u64 n6) ∧ Does Tryz.prog 30 #[.float .f64 a1] w6 fun e9 w9 =>
  ∃ n9 : Int, e9 = .returned (.int .u64 n9) ∧ Does Tryz.prog 47 #[.int .u64 (bits .or .u64 (bits .andNot .u64 n6 9223372036854775808) (bits .and .u64 n9 9223372036854775808))] w9 fun e12 w12 =>
  ∃ f12 : Nat, e12 = .returned (.float .f64 f12) ∧ R (.returned (.float .f64 f12)) w12
def f32_ann : Ann := { loops := [], cuts := [], flip := [], throws := [] }
theorem f32_eq (a0 : Nat) (a1 : Nat) (w : World) (R : Ending → World → Prop) : vc Tryz.prog f32_ann (bodyOf Tryz.f32) (retQ Tryz.prog Tryz.f32 R) (envOf Tryz.f32.ntmps [.v (.float .f64 a0), .v (.float .f64 a1)]) [] w = f32_vc a0 a1 w R := by kernel_rfl
theorem f32_does (a0 : Nat) (a1 : Nat) {w : World} {R : Ending → World → Prop} (h : f32_vc a0 a1 w R) : Does Tryz.prog 32 #[.float .f64 a0, .float .f64 a1] w R :=
  does_of_vc (ss := [.v (.float .f64 a0), .v (.float .f64 a1)]) f32_ann mixed call32 Tryz.func32 rfl rfl (show 2 ≤ Tryz.f32.ntmps by decide) ((f32_eq a0 a1 w R).symm ▸ h)
/-- Of escritoire/escritoireref3.Decimal (function 33): the condition. -/
def f33_vc (a0 : ByteArray) (w : World) (R : Ending → World → Prop) : Prop :=
  ∃ I5 : Int → Int → Int → Int → Nat → World → Prop, (∃ nl5, I5 0 0 (-1) 0 nl5 w) ∧ ∀ x4 : Int, ∀ x5 : Int, ∀ x6 : Int, ∀ x7 : Int, ∀ (nl5 : Nat) (wl5 : World), I5 x4 x5 x6 x7 nl5 wl5 →
  Br (decide (x7 < ((a0.size : Int))))
  (((0 : Int) ≤ x7 ∧ x7 < (a0.size : Int)) ∧ Br ((sb a0 x7) == 46)
  (Br (decide (x6 < 0))
  (Br (decide (x7 > 0))
  (Br (decide (x5 > 15))
  (R (.returned (.tuple #[.float .f64 0, .bool false])) wl5)
  (InK .i64 (x7 + 1) ∧ ∃ ml5, ml5 < nl5 ∧ I5 x4 x5 0 (x7 + 1) ml5 wl5))
  (((0 : Int) ≤ x7 ∧ x7 < (a0.size : Int)) ∧ Does Tryz.prog 55 #[.int .u8 (sb a0 x7)] wl5 fun e48 w48 =>
  ∃ b48 : Bool, e48 = .returned (.bool b48) ∧ Br (!b48)
  (R (.returned (.tuple #[.float .f64 0, .bool false])) w48)
  (InK .i64 (x4 * 10) ∧ ((0 : Int) ≤ x7 ∧ x7 < (a0.size : Int)) ∧ InK .i64 (IntKind.wrap .u8 ((sb a0 x7) - 48)) ∧ InK .i64 ((x4 * 10) + (IntKind.wrap .u8 ((sb a0 x7) - 48))) ∧ InK .i64 (x5 + 1) ∧ Br (decide (x6 ≥ 0))
  (InK .i64 (x6 + 1) ∧ Br (decide ((x5 + 1) > 15))
  (R (.returned (.tuple #[.float .f64 0, .bool false])) w48)
  (InK .i64 (x7 + 1) ∧ ∃ ml5, ml5 < nl5 ∧ I5 ((x4 * 10) + (IntKind.wrap .u8 ((sb a0 x7) - 48))) (x5 + 1) (x6 + 1) (x7 + 1) ml5 w48))
  (Br (decide ((x5 + 1) > 15))
  (R (.returned (.tuple #[.float .f64 0, .bool false])) w48)
  (InK .i64 (x7 + 1) ∧ ∃ ml5, ml5 < nl5 ∧ I5 ((x4 * 10) + (IntKind.wrap .u8 ((sb a0 x7) - 48))) (x5 + 1) x6 (x7 + 1) ml5 w48)))))
  (((0 : Int) ≤ x7 ∧ x7 < (a0.size : Int)) ∧ Does Tryz.prog 55 #[.int .u8 (sb a0 x7)] wl5 fun e48_1 w48_1 =>
  ∃ b48_1 : Bool, e48_1 = .returned (.bool b48_1) ∧ Br (!b48_1)
  (R (.returned (.tuple #[.float .f64 0, .bool false])) w48_1)
  (InK .i64 (x4 * 10) ∧ ((0 : Int) ≤ x7 ∧ x7 < (a0.size : Int)) ∧ InK .i64 (IntKind.wrap .u8 ((sb a0 x7) - 48)) ∧ InK .i64 ((x4 * 10) + (IntKind.wrap .u8 ((sb a0 x7) - 48))) ∧ InK .i64 (x5 + 1) ∧ Br (decide (x6 ≥ 0))
  (InK .i64 (x6 + 1) ∧ Br (decide ((x5 + 1) > 15))
  (R (.returned (.tuple #[.float .f64 0, .bool false])) w48_1)
  (InK .i64 (x7 + 1) ∧ ∃ ml5, ml5 < nl5 ∧ I5 ((x4 * 10) + (IntKind.wrap .u8 ((sb a0 x7) - 48))) (x5 + 1) (x6 + 1) (x7 + 1) ml5 w48_1))
  (Br (decide ((x5 + 1) > 15))
  (R (.returned (.tuple #[.float .f64 0, .bool false])) w48_1)
  (InK .i64 (x7 + 1) ∧ ∃ ml5, ml5 < nl5 ∧ I5 ((x4 * 10) + (IntKind.wrap .u8 ((sb a0 x7) - 48))) (x5 + 1) x6 (x7 + 1) ml5 w48_1)))))
  (((0 : Int) ≤ x7 ∧ x7 < (a0.size : Int)) ∧ Does Tryz.prog 55 #[.int .u8 (sb a0 x7)] wl5 fun e48_2 w48_2 =>
  ∃ b48_2 : Bool, e48_2 = .returned (.bool b48_2) ∧ Br (!b48_2)
  (R (.returned (.tuple #[.float .f64 0, .bool false])) w48_2)
  (InK .i64 (x4 * 10) ∧ ((0 : Int) ≤ x7 ∧ x7 < (a0.size : Int)) ∧ InK .i64 (IntKind.wrap .u8 ((sb a0 x7) - 48)) ∧ InK .i64 ((x4 * 10) + (IntKind.wrap .u8 ((sb a0 x7) - 48))) ∧ InK .i64 (x5 + 1) ∧ Br (decide (x6 ≥ 0))
  (InK .i64 (x6 + 1) ∧ Br (decide ((x5 + 1) > 15))
  (R (.returned (.tuple #[.float .f64 0, .bool false])) w48_2)
  (InK .i64 (x7 + 1) ∧ ∃ ml5, ml5 < nl5 ∧ I5 ((x4 * 10) + (IntKind.wrap .u8 ((sb a0 x7) - 48))) (x5 + 1) (x6 + 1) (x7 + 1) ml5 w48_2))
  (Br (decide ((x5 + 1) > 15))
  (R (.returned (.tuple #[.float .f64 0, .bool false])) w48_2)
  (InK .i64 (x7 + 1) ∧ ∃ ml5, ml5 < nl5 ∧ I5 ((x4 * 10) + (IntKind.wrap .u8 ((sb a0 x7) - 48))) (x5 + 1) x6 (x7 + 1) ml5 w48_2)))))
  (Br (x5 == 0)
  (R (.returned (.tuple #[.float .f64 0, .bool false])) wl5)
  (Br (x6 == 0)
  (R (.returned (.tuple #[.float .f64 0, .bool false])) wl5)
  (((0 : Int) ≤ 0 ∧ 0 < (a0.size : Int)) ∧ Br ((sb a0 0) == 48)
  (InK .i64 (x5 - (if x6 < 0 then 0 else x6)) ∧ Br (decide ((x5 - (if x6 < 0 then 0 else x6)) > 1))
  (R (.returned (.tuple #[.float .f64 0, .bool false])) wl5)
  (∃ f71 : Nat, ∃ w71, (convert 3 22 (.int .i64 x4)).run Tryz.prog wl5 = .ok (.float .f64 f71) w71 ∧ ∃ I22 : Nat → Int → Nat → World → Prop, (∃ nl22, I22 4607182418800017408 0 nl22 w71) ∧ ∀ f9 : Nat, ∀ x10 : Int, ∀ (nl22 : Nat) (wl22 : World), I22 f9 x10 nl22 wl22 →
  Br (decide (x10 < x6))
  (∃ f78 : Nat, ∃ w78, (binOp .mul 22 (.float .f64 f9) (.float .f64 4621819117588971520)).run Tryz.prog wl22 = .ok (.float .f64 f78) w78 ∧ InK .i64 (x10 + 1) ∧ ∃ ml22, ml22 < nl22 ∧ I22 f78 (x10 + 1) ml22 w78)
  (∃ f81 : Nat, ∃ w81, (binOp .quo 22 (.float .f64 f71) (.float .f64 f9)).run Tryz.prog wl22 = .ok (.float .f64 f81) w81 ∧ R (.returned (.tuple #[.float .f64 f81, .bool true])) w81)))
  (∃ f71_1 : Nat, ∃ w71_1, (convert 3 22 (.int .i64 x4)).run Tryz.prog wl5 = .ok (.float .f64 f71_1) w71_1 ∧ ∃ I22_1 : Nat → Int → Nat → World → Prop, (∃ nl22_1, I22_1 4607182418800017408 0 nl22_1 w71_1) ∧ ∀ f9_1 : Nat, ∀ x10_1 : Int, ∀ (nl22_1 : Nat) (wl22_1 : World), I22_1 f9_1 x10_1 nl22_1 wl22_1 →
  Br (decide (x10_1 < x6))
  (∃ f78_1 : Nat, ∃ w78_1, (binOp .mul 22 (.float .f64 f9_1) (.float .f64 4621819117588971520)).run Tryz.prog wl22_1 = .ok (.float .f64 f78_1) w78_1 ∧ InK .i64 (x10_1 + 1) ∧ ∃ ml22_1, ml22_1 < nl22_1 ∧ I22_1 f78_1 (x10_1 + 1) ml22_1 w78_1)
  (∃ f81_1 : Nat, ∃ w81_1, (binOp .quo 22 (.float .f64 f71_1) (.float .f64 f9_1)).run Tryz.prog wl22_1 = .ok (.float .f64 f81_1) w81_1 ∧ R (.returned (.tuple #[.float .f64 f81_1, .bool true])) w81_1)))))
def f33_ann : Ann := { loops := [(5, [(4, .int .i64), (5, .int .i64), (6, .int .i64), (7, .int .i64)]), (22, [(9, .flt .f64), (10, .int .i64)])], cuts := [], flip := [], throws := [] }
theorem f33_eq (a0 : ByteArray) (w : World) (R : Ending → World → Prop) : vc Tryz.prog f33_ann (bodyOf Tryz.f33) (retQ Tryz.prog Tryz.f33 R) (envOf Tryz.f33.ntmps [.v (.string a0)]) [] w = f33_vc a0 w R := by kernel_rfl
theorem f33_does (a0 : ByteArray) {w : World} {R : Ending → World → Prop} (h : f33_vc a0 w R) : Does Tryz.prog 33 #[.string a0] w R :=
  does_of_vc (ss := [.v (.string a0)]) f33_ann mixed call33 Tryz.func33 rfl rfl (show 1 ≤ Tryz.f33.ntmps by decide) ((f33_eq a0 w R).symm ▸ h)
/-- Of escritoire/escritoireref3.hex (function 54): the condition. -/
def f54_vc (a0 : Int) (w : World) (R : Ending → World → Prop) : Prop :=
  Does Tryz.prog 55 #[.int .u8 a0] w fun e5 w5 =>
  ∃ b5 : Bool, e5 = .returned (.bool b5) ∧ Br b5
  (R (.returned (.int .u64 (IntKind.wrap .u64 (IntKind.wrap .u8 (a0 - 48))))) w5)
  (Br (decide (a0 ≥ 97))
  (Br (decide (a0 ≤ 102))
  (R (.returned (.int .u64 (IntKind.wrap .u64 ((IntKind.wrap .u64 (IntKind.wrap .u8 (a0 - 97))) + 10)))) w5)
  (R (.returned (.int .u64 16)) w5))
  (R (.returned (.int .u64 16)) w5))
def f54_ann : Ann := { loops := [], cuts := [], flip := [], throws := [] }
theorem f54_eq (a0 : Int) (w : World) (R : Ending → World → Prop) : vc Tryz.prog f54_ann (bodyOf Tryz.f54) (retQ Tryz.prog Tryz.f54 R) (envOf Tryz.f54.ntmps [.v (.int .u8 a0)]) [] w = f54_vc a0 w R := by kernel_rfl
theorem f54_does (a0 : Int) {w : World} {R : Ending → World → Prop} (h : f54_vc a0 w R) : Does Tryz.prog 54 #[.int .u8 a0] w R :=
  does_of_vc (ss := [.v (.int .u8 a0)]) f54_ann mixed call54 Tryz.func54 rfl rfl (show 1 ≤ Tryz.f54.ntmps by decide) ((f54_eq a0 w R).symm ▸ h)
/-- Of escritoire/escritoireref3.digit (function 55): the condition. -/
def f55_vc (a0 : Int) (w : World) (R : Ending → World → Prop) : Prop :=
  Br (decide (a0 ≥ 48))
  (R (.returned (.bool (decide (a0 ≤ 57)))) w)
  (R (.returned (.bool false)) w)
def f55_ann : Ann := { loops := [], cuts := [], flip := [], throws := [] }
theorem f55_eq (a0 : Int) (w : World) (R : Ending → World → Prop) : vc Tryz.prog f55_ann (bodyOf Tryz.f55) (retQ Tryz.prog Tryz.f55 R) (envOf Tryz.f55.ntmps [.v (.int .u8 a0)]) [] w = f55_vc a0 w R := by kernel_rfl
theorem f55_does (a0 : Int) {w : World} {R : Ending → World → Prop} (h : f55_vc a0 w R) : Does Tryz.prog 55 #[.int .u8 a0] w R :=
  does_of_vc (ss := [.v (.int .u8 a0)]) f55_ann mixed call55 Tryz.func55 rfl rfl (show 1 ≤ Tryz.f55.ntmps by decide) ((f55_eq a0 w R).symm ▸ h)
/-- Of math/bits.Mul (function 69): the condition. -/
def f69_vc (a0 : Int) (a1 : Int) (w : World) (R : Ending → World → Prop) : Prop :=
  Does Tryz.prog 92 #[.int .u64 a0, .int .u64 a1] w fun e25 w25 =>
  ∃ n25 : Int, ∃ n25_1 : Int, e25 = .returned (.tuple #[.int .u64 n25, .int .u64 n25_1]) ∧ R (.returned (.tuple #[.int .u64 n25, .int .u64 n25_1])) w25
def f69_ann : Ann := { loops := [], cuts := [], flip := [], throws := [] }
theorem f69_eq (a0 : Int) (a1 : Int) (w : World) (R : Ending → World → Prop) : vc Tryz.prog f69_ann (bodyOf Tryz.f69) (retQ Tryz.prog Tryz.f69 R) (envOf Tryz.f69.ntmps [.v (.int .u64 a0), .v (.int .u64 a1)]) [] w = f69_vc a0 a1 w R := by kernel_rfl
theorem f69_does (a0 : Int) (a1 : Int) {w : World} {R : Ending → World → Prop} (h : f69_vc a0 a1 w R) : Does Tryz.prog 69 #[.int .u64 a0, .int .u64 a1] w R :=
  does_of_vc (ss := [.v (.int .u64 a0), .v (.int .u64 a1)]) f69_ann mixed call69 Tryz.func69 rfl rfl (show 2 ≤ Tryz.f69.ntmps by decide) ((f69_eq a0 a1 w R).symm ▸ h)
/-- Of math/bits.Mul32 (function 91): the condition. -/
def f91_vc (a0 : Int) (a1 : Int) (w : World) (R : Ending → World → Prop) : Prop :=
  (0 : Int) ≤ 32 ∧ R (.returned (.tuple #[.int .u32 (IntKind.wrap .u32 ((IntKind.wrap .u64 ((IntKind.wrap .u64 (a0)) * (IntKind.wrap .u64 (a1)))).fdiv (2 ^ 32))), .int .u32 (IntKind.wrap .u32 (IntKind.wrap .u64 ((IntKind.wrap .u64 (a0)) * (IntKind.wrap .u64 (a1)))))])) w
def f91_ann : Ann := { loops := [], cuts := [], flip := [], throws := [] }
theorem f91_eq (a0 : Int) (a1 : Int) (w : World) (R : Ending → World → Prop) : vc Tryz.prog f91_ann (bodyOf Tryz.f91) (retQ Tryz.prog Tryz.f91 R) (envOf Tryz.f91.ntmps [.v (.int .u32 a0), .v (.int .u32 a1)]) [] w = f91_vc a0 a1 w R := by kernel_rfl
theorem f91_does (a0 : Int) (a1 : Int) {w : World} {R : Ending → World → Prop} (h : f91_vc a0 a1 w R) : Does Tryz.prog 91 #[.int .u32 a0, .int .u32 a1] w R :=
  does_of_vc (ss := [.v (.int .u32 a0), .v (.int .u32 a1)]) f91_ann mixed call91 Tryz.func91 rfl rfl (show 2 ≤ Tryz.f91.ntmps by decide) ((f91_eq a0 a1 w R).symm ▸ h)
/-- Of math/bits.Mul64 (function 92): the condition. -/
def f92_vc (a0 : Int) (a1 : Int) (w : World) (R : Ending → World → Prop) : Prop :=
  (0 : Int) ≤ 32 ∧ (0 : Int) ≤ 32 ∧ (0 : Int) ≤ 32 ∧ (0 : Int) ≤ 32 ∧ (0 : Int) ≤ 32 ∧ R (.returned (.tuple #[.int .u64 (IntKind.wrap .u64 ((IntKind.wrap .u64 ((IntKind.wrap .u64 ((a0.fdiv (2 ^ 32)) * (a1.fdiv (2 ^ 32)))) + ((IntKind.wrap .u64 ((IntKind.wrap .u64 ((a0.fdiv (2 ^ 32)) * (bits .and .u64 a1 4294967295))) + ((IntKind.wrap .u64 ((bits .and .u64 a0 4294967295) * (bits .and .u64 a1 4294967295))).fdiv (2 ^ 32)))).fdiv (2 ^ 32)))) + ((IntKind.wrap .u64 ((bits .and .u64 (IntKind.wrap .u64 ((IntKind.wrap .u64 ((a0.fdiv (2 ^ 32)) * (bits .and .u64 a1 4294967295))) + ((IntKind.wrap .u64 ((bits .and .u64 a0 4294967295) * (bits .and .u64 a1 4294967295))).fdiv (2 ^ 32)))) 4294967295) + (IntKind.wrap .u64 ((bits .and .u64 a0 4294967295) * (a1.fdiv (2 ^ 32)))))).fdiv (2 ^ 32)))), .int .u64 (IntKind.wrap .u64 (a0 * a1))])) w
def f92_ann : Ann := { loops := [], cuts := [], flip := [], throws := [] }
theorem f92_eq (a0 : Int) (a1 : Int) (w : World) (R : Ending → World → Prop) : vc Tryz.prog f92_ann (bodyOf Tryz.f92) (retQ Tryz.prog Tryz.f92 R) (envOf Tryz.f92.ntmps [.v (.int .u64 a0), .v (.int .u64 a1)]) [] w = f92_vc a0 a1 w R := by kernel_rfl
theorem f92_does (a0 : Int) (a1 : Int) {w : World} {R : Ending → World → Prop} (h : f92_vc a0 a1 w R) : Does Tryz.prog 92 #[.int .u64 a0, .int .u64 a1] w R :=
  does_of_vc (ss := [.v (.int .u64 a0), .v (.int .u64 a1)]) f92_ann mixed call92 Tryz.func92 rfl rfl (show 2 ≤ Tryz.f92.ntmps by decide) ((f92_eq a0 a1 w R).symm ▸ h)
end Go.Proofs.YtffhlgejfgmpiaaGreatDoor
