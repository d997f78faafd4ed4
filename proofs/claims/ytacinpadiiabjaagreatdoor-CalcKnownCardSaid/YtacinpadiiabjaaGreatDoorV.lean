/-
  Of each function of the code: its verification condition, and that it suffices.
-/
import Derived.Test.YtacinpadiiabjaaGreatDoorVcDoes
import Derived.Test.YtacinpadiiabjaaGreatDoorProg
set_option maxRecDepth 100000
namespace Go.Proofs.YtacinpadiiabjaaGreatDoor
open Go.RowKit Go.Vc
def bodyOf (fn : Func) : Code := match fn.body with | some c => c | none => .skip
theorem mixed : Tryz.prog.follows .mixedOrders = true := by kernel_rfl
theorem call3 : callableB Tryz.prog 3 = true := by kernel_rfl
theorem call4 : callableB Tryz.prog 4 = true := by kernel_rfl
theorem call5 : callableB Tryz.prog 5 = true := by kernel_rfl
theorem call6 : callableB Tryz.prog 6 = true := by kernel_rfl
theorem call7 : callableB Tryz.prog 7 = true := by kernel_rfl
theorem call8 : callableB Tryz.prog 8 = true := by kernel_rfl
theorem call9 : callableB Tryz.prog 9 = true := by kernel_rfl
theorem call10 : callableB Tryz.prog 10 = true := by kernel_rfl
theorem call11 : callableB Tryz.prog 11 = true := by kernel_rfl
theorem call12 : callableB Tryz.prog 12 = true := by kernel_rfl
theorem call13 : callableB Tryz.prog 13 = true := by kernel_rfl
theorem call14 : callableB Tryz.prog 14 = true := by kernel_rfl
theorem call15 : callableB Tryz.prog 15 = true := by kernel_rfl
theorem call16 : callableB Tryz.prog 16 = true := by kernel_rfl
theorem call17 : callableB Tryz.prog 17 = true := by kernel_rfl
theorem call18 : callableB Tryz.prog 18 = true := by kernel_rfl
theorem call19 : callableB Tryz.prog 19 = true := by kernel_rfl
theorem call20 : callableB Tryz.prog 20 = true := by kernel_rfl
theorem call21 : callableB Tryz.prog 21 = true := by kernel_rfl
theorem call23 : callableB Tryz.prog 23 = true := by kernel_rfl
theorem call24 : callableB Tryz.prog 24 = true := by kernel_rfl
theorem call25 : callableB Tryz.prog 25 = true := by kernel_rfl
theorem call26 : callableB Tryz.prog 26 = true := by kernel_rfl
theorem call27 : callableB Tryz.prog 27 = true := by kernel_rfl
theorem call28 : callableB Tryz.prog 28 = true := by kernel_rfl
theorem call29 : callableB Tryz.prog 29 = true := by kernel_rfl
theorem call30 : callableB Tryz.prog 30 = true := by kernel_rfl
theorem call31 : callableB Tryz.prog 31 = true := by kernel_rfl
theorem call32 : callableB Tryz.prog 32 = true := by kernel_rfl
theorem call34 : callableB Tryz.prog 34 = true := by kernel_rfl
theorem call35 : callableB Tryz.prog 35 = true := by kernel_rfl
theorem call37 : callableB Tryz.prog 37 = true := by kernel_rfl
theorem call38 : callableB Tryz.prog 38 = true := by kernel_rfl
theorem call39 : callableB Tryz.prog 39 = true := by kernel_rfl
theorem call40 : callableB Tryz.prog 40 = true := by kernel_rfl
theorem call42 : callableB Tryz.prog 42 = true := by kernel_rfl
theorem call43 : callableB Tryz.prog 43 = true := by kernel_rfl
theorem call44 : callableB Tryz.prog 44 = true := by kernel_rfl
theorem call45 : callableB Tryz.prog 45 = true := by kernel_rfl
theorem call46 : callableB Tryz.prog 46 = true := by kernel_rfl
theorem call48 : callableB Tryz.prog 48 = true := by kernel_rfl
theorem call51 : callableB Tryz.prog 51 = true := by kernel_rfl
theorem call57 : callableB Tryz.prog 57 = true := by kernel_rfl
theorem call58 : callableB Tryz.prog 58 = true := by kernel_rfl
theorem call59 : callableB Tryz.prog 59 = true := by kernel_rfl
theorem call60 : callableB Tryz.prog 60 = true := by kernel_rfl
theorem call61 : callableB Tryz.prog 61 = true := by kernel_rfl
theorem call62 : callableB Tryz.prog 62 = true := by kernel_rfl
theorem call63 : callableB Tryz.prog 63 = true := by kernel_rfl
theorem call68 : callableB Tryz.prog 68 = true := by kernel_rfl
theorem call86 : callableB Tryz.prog 86 = true := by kernel_rfl
theorem call87 : callableB Tryz.prog 87 = true := by kernel_rfl
theorem call88 : callableB Tryz.prog 88 = true := by kernel_rfl
theorem call90 : callableB Tryz.prog 90 = true := by kernel_rfl
theorem call107 : callableB Tryz.prog 107 = true := by kernel_rfl
theorem call108 : callableB Tryz.prog 108 = true := by kernel_rfl
theorem call109 : callableB Tryz.prog 109 = true := by kernel_rfl
theorem call110 : callableB Tryz.prog 110 = true := by kernel_rfl
theorem call111 : callableB Tryz.prog 111 = true := by kernel_rfl
theorem call112 : callableB Tryz.prog 112 = true := by kernel_rfl
theorem call113 : callableB Tryz.prog 113 = true := by kernel_rfl
theorem call114 : callableB Tryz.prog 114 = true := by kernel_rfl
theorem call115 : callableB Tryz.prog 115 = true := by kernel_rfl
theorem call116 : callableB Tryz.prog 116 = true := by kernel_rfl
theorem call117 : callableB Tryz.prog 117 = true := by kernel_rfl
theorem call118 : callableB Tryz.prog 118 = true := by kernel_rfl
theorem call119 : callableB Tryz.prog 119 = true := by kernel_rfl
theorem call120 : callableB Tryz.prog 120 = true := by kernel_rfl
theorem call124 : callableB Tryz.prog 124 = true := by kernel_rfl
theorem call125 : callableB Tryz.prog 125 = true := by kernel_rfl
theorem call133 : callableB Tryz.prog 133 = true := by kernel_rfl
theorem call135 : callableB Tryz.prog 135 = true := by kernel_rfl
theorem call144 : callableB Tryz.prog 144 = true := by kernel_rfl
theorem call145 : callableB Tryz.prog 145 = true := by kernel_rfl
theorem call146 : callableB Tryz.prog 146 = true := by kernel_rfl
theorem call149 : callableB Tryz.prog 149 = true := by kernel_rfl
theorem call150 : callableB Tryz.prog 150 = true := by kernel_rfl
theorem call151 : callableB Tryz.prog 151 = true := by kernel_rfl
theorem call152 : callableB Tryz.prog 152 = true := by kernel_rfl
theorem call166 : callableB Tryz.prog 166 = true := by kernel_rfl
theorem call167 : callableB Tryz.prog 167 = true := by kernel_rfl
theorem call171 : callableB Tryz.prog 171 = true := by kernel_rfl
/-- Of escritoire/escritoirelaw4.CalcParts (function 3): the condition. -/
def f3_vc (a0 : ByteArray) (a1 : ByteArray) (w : World) (R : Ending → World → Prop) : Prop :=
  Does Tryz.prog 9 #[] w fun e23 w23 =>
  ∃ b23 : Bool, e23 = .returned (.bool b23) ∧ Br (!b23)
  (R (.returned (.bool false)) w23)
  (Br (decide (((a0.size : Int)) > 1000))
  (R (.returned (.bool true)) w23)
  (Br (decide (((a1.size : Int)) > 1000))
  (R (.returned (.bool true)) w23)
  (Does Tryz.prog 10 #[.string a0] w23 fun e35 w35 =>
  ∃ f35 : Nat, ∃ n35 : Int, e35 = .returned (.tuple #[.float .f64 f35, .int .i64 n35]) ∧ Does Tryz.prog 10 #[.string a1] w35 fun e40 w40 =>
  ∃ f40 : Nat, ∃ n40 : Int, e40 = .returned (.tuple #[.float .f64 f40, .int .i64 n40]) ∧ Br (n35 != 0)
  (R (.returned (.bool true)) w40)
  (Br (n40 != 0)
  (R (.returned (.bool true)) w40)
  ((((({ data := #[40] } : ByteArray)).size + a0.size : Nat) : Int) ≤ 9223372036854775807 ∧ ((((({ data := #[40] } : ByteArray)) ++ a0).size + (({ data := #[41, 43, 40] } : ByteArray)).size : Nat) : Int) ≤ 9223372036854775807 ∧ (((((({ data := #[40] } : ByteArray)) ++ a0) ++ (({ data := #[41, 43, 40] } : ByteArray))).size + a1.size : Nat) : Int) ≤ 9223372036854775807 ∧ ((((((({ data := #[40] } : ByteArray)) ++ a0) ++ (({ data := #[41, 43, 40] } : ByteArray))) ++ a1).size + (({ data := #[41] } : ByteArray)).size : Nat) : Int) ≤ 9223372036854775807 ∧ Does Tryz.prog 10 #[.string (((((({ data := #[40] } : ByteArray)) ++ a0) ++ (({ data := #[41, 43, 40] } : ByteArray))) ++ a1) ++ (({ data := #[41] } : ByteArray)))] w40 fun e56 w56 =>
  ∃ f56 : Nat, ∃ n56 : Int, e56 = .returned (.tuple #[.float .f64 f56, .int .i64 n56]) ∧ (((({ data := #[40] } : ByteArray)).size + a0.size : Nat) : Int) ≤ 9223372036854775807 ∧ ((((({ data := #[40] } : ByteArray)) ++ a0).size + (({ data := #[41, 45, 40] } : ByteArray)).size : Nat) : Int) ≤ 9223372036854775807 ∧ (((((({ data := #[40] } : ByteArray)) ++ a0) ++ (({ data := #[41, 45, 40] } : ByteArray))).size + a1.size : Nat) : Int) ≤ 9223372036854775807 ∧ ((((((({ data := #[40] } : ByteArray)) ++ a0) ++ (({ data := #[41, 45, 40] } : ByteArray))) ++ a1).size + (({ data := #[41] } : ByteArray)).size : Nat) : Int) ≤ 9223372036854775807 ∧ Does Tryz.prog 10 #[.string (((((({ data := #[40] } : ByteArray)) ++ a0) ++ (({ data := #[41, 45, 40] } : ByteArray))) ++ a1) ++ (({ data := #[41] } : ByteArray)))] w56 fun e66 w66 =>
  ∃ f66 : Nat, ∃ n66 : Int, e66 = .returned (.tuple #[.float .f64 f66, .int .i64 n66]) ∧ (((({ data := #[40] } : ByteArray)).size + a0.size : Nat) : Int) ≤ 9223372036854775807 ∧ ((((({ data := #[40] } : ByteArray)) ++ a0).size + (({ data := #[41, 42, 40] } : ByteArray)).size : Nat) : Int) ≤ 9223372036854775807 ∧ (((((({ data := #[40] } : ByteArray)) ++ a0) ++ (({ data := #[41, 42, 40] } : ByteArray))).size + a1.size : Nat) : Int) ≤ 9223372036854775807 ∧ ((((((({ data := #[40] } : ByteArray)) ++ a0) ++ (({ data := #[41, 42, 40] } : ByteArray))) ++ a1).size + (({ data := #[41] } : ByteArray)).size : Nat) : Int) ≤ 9223372036854775807 ∧ Does Tryz.prog 10 #[.string (((((({ data := #[40] } : ByteArray)) ++ a0) ++ (({ data := #[41, 42, 40] } : ByteArray))) ++ a1) ++ (({ data := #[41] } : ByteArray)))] w66 fun e76 w76 =>
  ∃ f76 : Nat, ∃ n76 : Int, e76 = .returned (.tuple #[.float .f64 f76, .int .i64 n76]) ∧ (((({ data := #[40] } : ByteArray)).size + a0.size : Nat) : Int) ≤ 9223372036854775807 ∧ ((((({ data := #[40] } : ByteArray)) ++ a0).size + (({ data := #[41, 47, 40] } : ByteArray)).size : Nat) : Int) ≤ 9223372036854775807 ∧ (((((({ data := #[40] } : ByteArray)) ++ a0) ++ (({ data := #[41, 47, 40] } : ByteArray))).size + a1.size : Nat) : Int) ≤ 9223372036854775807 ∧ ((((((({ data := #[40] } : ByteArray)) ++ a0) ++ (({ data := #[41, 47, 40] } : ByteArray))) ++ a1).size + (({ data := #[41] } : ByteArray)).size : Nat) : Int) ≤ 9223372036854775807 ∧ Does Tryz.prog 10 #[.string (((((({ data := #[40] } : ByteArray)) ++ a0) ++ (({ data := #[41, 47, 40] } : ByteArray))) ++ a1) ++ (({ data := #[41] } : ByteArray)))] w76 fun e86 w86 =>
  ∃ f86 : Nat, ∃ n86 : Int, e86 = .returned (.tuple #[.float .f64 f86, .int .i64 n86]) ∧ (((({ data := #[109, 105, 110, 40] } : ByteArray)).size + a0.size : Nat) : Int) ≤ 9223372036854775807 ∧ ((((({ data := #[109, 105, 110, 40] } : ByteArray)) ++ a0).size + (({ data := #[44] } : ByteArray)).size : Nat) : Int) ≤ 9223372036854775807 ∧ (((((({ data := #[109, 105, 110, 40] } : ByteArray)) ++ a0) ++ (({ data := #[44] } : ByteArray))).size + a1.size : Nat) : Int) ≤ 9223372036854775807 ∧ ((((((({ data := #[109, 105, 110, 40] } : ByteArray)) ++ a0) ++ (({ data := #[44] } : ByteArray))) ++ a1).size + (({ data := #[41] } : ByteArray)).size : Nat) : Int) ≤ 9223372036854775807 ∧ Does Tryz.prog 10 #[.string (((((({ data := #[109, 105, 110, 40] } : ByteArray)) ++ a0) ++ (({ data := #[44] } : ByteArray))) ++ a1) ++ (({ data := #[41] } : ByteArray)))] w86 fun e96 w96 =>
  ∃ f96 : Nat, ∃ n96 : Int, e96 = .returned (.tuple #[.float .f64 f96, .int .i64 n96]) ∧ (((({ data := #[109, 97, 120, 40] } : ByteArray)).size + a0.size : Nat) : Int) ≤ 9223372036854775807 ∧ ((((({ data := #[109, 97, 120, 40] } : ByteArray)) ++ a0).size + (({ data := #[44] } : ByteArray)).size : Nat) : Int) ≤ 9223372036854775807 ∧ (((((({ data := #[109, 97, 120, 40] } : ByteArray)) ++ a0) ++ (({ data := #[44] } : ByteArray))).size + a1.size : Nat) : Int) ≤ 9223372036854775807 ∧ ((((((({ data := #[109, 97, 120, 40] } : ByteArray)) ++ a0) ++ (({ data := #[44] } : ByteArray))) ++ a1).size + (({ data := #[41] } : ByteArray)).size : Nat) : Int) ≤ 9223372036854775807 ∧ Does Tryz.prog 10 #[.string (((((({ data := #[109, 97, 120, 40] } : ByteArray)) ++ a0) ++ (({ data := #[44] } : ByteArray))) ++ a1) ++ (({ data := #[41] } : ByteArray)))] w96 fun e106 w106 =>
  ∃ f106 : Nat, ∃ n106 : Int, e106 = .returned (.tuple #[.float .f64 f106, .int .i64 n106]) ∧ Br (n56 != 0)
  (R (.returned (.bool (n56 == 3))) w106)
  (Br (n66 != 0)
  (R (.returned (.bool (n56 == 3))) w106)
  (Br (n76 != 0)
  (R (.returned (.bool (n56 == 3))) w106)
  (Br (n86 != 0)
  (R (.returned (.bool (n56 == 3))) w106)
  (Br (n96 != 0)
  (R (.returned (.bool (n56 == 3))) w106)
  (Br (n106 != 0)
  (R (.returned (.bool (n56 == 3))) w106)
  (Does Tryz.prog 11 #[.float .f64 f35, .float .f64 f40] w106 fun e137 w137 =>
  ∃ n137 : Int, e137 = .returned (.int .i64 n137) ∧ Br (decide (n137 < 0))
  (Does Tryz.prog 11 #[.float .f64 f35, .float .f64 f40] w137 fun e142 w142 =>
  ∃ n142 : Int, e142 = .returned (.int .i64 n142) ∧ Br (decide (n142 > 0))
  (Does Tryz.prog 12 #[.float .f64 f56] w142 fun e146 w146 =>
  ∃ n146 : Int, e146 = .returned (.int .u64 n146) ∧ ∃ f149 : Nat, ∃ w149, (binOp .add 23 (.float .f64 f35) (.float .f64 f40)).run Tryz.prog w146 = .ok (.float .f64 f149) w149 ∧ Does Tryz.prog 12 #[.float .f64 f149] w149 fun e150 w150 =>
  ∃ n150 : Int, e150 = .returned (.int .u64 n150) ∧ Br (n146 == n150)
  (Does Tryz.prog 12 #[.float .f64 f66] w150 fun e154 w154 =>
  ∃ n154 : Int, e154 = .returned (.int .u64 n154) ∧ ∃ f157 : Nat, ∃ w157, (binOp .sub 23 (.float .f64 f35) (.float .f64 f40)).run Tryz.prog w154 = .ok (.float .f64 f157) w157 ∧ Does Tryz.prog 12 #[.float .f64 f157] w157 fun e158 w158 =>
  ∃ n158 : Int, e158 = .returned (.int .u64 n158) ∧ Br (n154 == n158)
  (Does Tryz.prog 12 #[.float .f64 f76] w158 fun e163 w163 =>
  ∃ n163 : Int, e163 = .returned (.int .u64 n163) ∧ ∃ f166 : Nat, ∃ w166, (binOp .mul 23 (.float .f64 f35) (.float .f64 f40)).run Tryz.prog w163 = .ok (.float .f64 f166) w166 ∧ Does Tryz.prog 12 #[.float .f64 f166] w166 fun e167 w167 =>
  ∃ n167 : Int, e167 = .returned (.int .u64 n167) ∧ Br (n163 == n167)
  (Does Tryz.prog 12 #[.float .f64 f86] w167 fun e172 w172 =>
  ∃ n172 : Int, e172 = .returned (.int .u64 n172) ∧ ∃ f175 : Nat, ∃ w175, (binOp .quo 23 (.float .f64 f35) (.float .f64 f40)).run Tryz.prog w172 = .ok (.float .f64 f175) w175 ∧ Does Tryz.prog 12 #[.float .f64 f175] w175 fun e176 w176 =>
  ∃ n176 : Int, e176 = .returned (.int .u64 n176) ∧ Br (n172 == n176)
  (Does Tryz.prog 12 #[.float .f64 f96] w176 fun e181 w181 =>
  ∃ n181 : Int, e181 = .returned (.int .u64 n181) ∧ Does Tryz.prog 12 #[.float .f64 f35] w181 fun e183 w183 =>
  ∃ n183 : Int, e183 = .returned (.int .u64 n183) ∧ Br (n181 == n183)
  (Does Tryz.prog 12 #[.float .f64 f106] w183 fun e188 w188 =>
  ∃ n188 : Int, e188 = .returned (.int .u64 n188) ∧ Does Tryz.prog 12 #[.float .f64 f35] w188 fun e190 w190 =>
  ∃ n190 : Int, e190 = .returned (.int .u64 n190) ∧ R (.returned (.bool (n188 == n190))) w190)
  (R (.returned (.bool false)) w183))
  (R (.returned (.bool false)) w176))
  (R (.returned (.bool false)) w167))
  (R (.returned (.bool false)) w158))
  (R (.returned (.bool false)) w150))
  (Does Tryz.prog 12 #[.float .f64 f56] w142 fun e146_1 w146_1 =>
  ∃ n146_1 : Int, e146_1 = .returned (.int .u64 n146_1) ∧ ∃ f149_1 : Nat, ∃ w149_1, (binOp .add 23 (.float .f64 f35) (.float .f64 f40)).run Tryz.prog w146_1 = .ok (.float .f64 f149_1) w149_1 ∧ Does Tryz.prog 12 #[.float .f64 f149_1] w149_1 fun e150_1 w150_1 =>
  ∃ n150_1 : Int, e150_1 = .returned (.int .u64 n150_1) ∧ Br (n146_1 == n150_1)
  (Does Tryz.prog 12 #[.float .f64 f66] w150_1 fun e154_1 w154_1 =>
  ∃ n154_1 : Int, e154_1 = .returned (.int .u64 n154_1) ∧ ∃ f157_1 : Nat, ∃ w157_1, (binOp .sub 23 (.float .f64 f35) (.float .f64 f40)).run Tryz.prog w154_1 = .ok (.float .f64 f157_1) w157_1 ∧ Does Tryz.prog 12 #[.float .f64 f157_1] w157_1 fun e158_1 w158_1 =>
  ∃ n158_1 : Int, e158_1 = .returned (.int .u64 n158_1) ∧ Br (n154_1 == n158_1)
  (Does Tryz.prog 12 #[.float .f64 f76] w158_1 fun e163_1 w163_1 =>
  ∃ n163_1 : Int, e163_1 = .returned (.int .u64 n163_1) ∧ ∃ f166_1 : Nat, ∃ w166_1, (binOp .mul 23 (.float .f64 f35) (.float .f64 f40)).run Tryz.prog w163_1 = .ok (.float .f64 f166_1) w166_1 ∧ Does Tryz.prog 12 #[.float .f64 f166_1] w166_1 fun e167_1 w167_1 =>
  ∃ n167_1 : Int, e167_1 = .returned (.int .u64 n167_1) ∧ Br (n163_1 == n167_1)
  (Does Tryz.prog 12 #[.float .f64 f86] w167_1 fun e172_1 w172_1 =>
  ∃ n172_1 : Int, e172_1 = .returned (.int .u64 n172_1) ∧ ∃ f175_1 : Nat, ∃ w175_1, (binOp .quo 23 (.float .f64 f35) (.float .f64 f40)).run Tryz.prog w172_1 = .ok (.float .f64 f175_1) w175_1 ∧ Does Tryz.prog 12 #[.float .f64 f175_1] w175_1 fun e176_1 w176_1 =>
  ∃ n176_1 : Int, e176_1 = .returned (.int .u64 n176_1) ∧ Br (n172_1 == n176_1)
  (Does Tryz.prog 12 #[.float .f64 f96] w176_1 fun e181_1 w181_1 =>
  ∃ n181_1 : Int, e181_1 = .returned (.int .u64 n181_1) ∧ Does Tryz.prog 12 #[.float .f64 f35] w181_1 fun e183_1 w183_1 =>
  ∃ n183_1 : Int, e183_1 = .returned (.int .u64 n183_1) ∧ Br (n181_1 == n183_1)
  (Does Tryz.prog 12 #[.float .f64 f106] w183_1 fun e188_1 w188_1 =>
  ∃ n188_1 : Int, e188_1 = .returned (.int .u64 n188_1) ∧ Does Tryz.prog 12 #[.float .f64 f40] w188_1 fun e190_1 w190_1 =>
  ∃ n190_1 : Int, e190_1 = .returned (.int .u64 n190_1) ∧ R (.returned (.bool (n188_1 == n190_1))) w190_1)
  (R (.returned (.bool false)) w183_1))
  (R (.returned (.bool false)) w176_1))
  (R (.returned (.bool false)) w167_1))
  (R (.returned (.bool false)) w158_1))
  (R (.returned (.bool false)) w150_1)))
  (Does Tryz.prog 11 #[.float .f64 f35, .float .f64 f40] w137 fun e142_1 w142_1 =>
  ∃ n142_1 : Int, e142_1 = .returned (.int .i64 n142_1) ∧ Br (decide (n142_1 > 0))
  (Does Tryz.prog 12 #[.float .f64 f56] w142_1 fun e146_2 w146_2 =>
  ∃ n146_2 : Int, e146_2 = .returned (.int .u64 n146_2) ∧ ∃ f149_2 : Nat, ∃ w149_2, (binOp .add 23 (.float .f64 f35) (.float .f64 f40)).run Tryz.prog w146_2 = .ok (.float .f64 f149_2) w149_2 ∧ Does Tryz.prog 12 #[.float .f64 f149_2] w149_2 fun e150_2 w150_2 =>
  ∃ n150_2 : Int, e150_2 = .returned (.int .u64 n150_2) ∧ Br (n146_2 == n150_2)
  (Does Tryz.prog 12 #[.float .f64 f66] w150_2 fun e154_2 w154_2 =>
  ∃ n154_2 : Int, e154_2 = .returned (.int .u64 n154_2) ∧ ∃ f157_2 : Nat, ∃ w157_2, (binOp .sub 23 (.float .f64 f35) (.float .f64 f40)).run Tryz.prog w154_2 = .ok (.float .f64 f157_2) w157_2 ∧ Does Tryz.prog 12 #[.float .f64 f157_2] w157_2 fun e158_2 w158_2 =>
  ∃ n158_2 : Int, e158_2 = .returned (.int .u64 n158_2) ∧ Br (n154_2 == n158_2)
  (Does Tryz.prog 12 #[.float .f64 f76] w158_2 fun e163_2 w163_2 =>
  ∃ n163_2 : Int, e163_2 = .returned (.int .u64 n163_2) ∧ ∃ f166_2 : Nat, ∃ w166_2, (binOp .mul 23 (.float .f64 f35) (.float .f64 f40)).run Tryz.prog w163_2 = .ok (.float .f64 f166_2) w166_2 ∧ Does Tryz.prog 12 #[.float .f64 f166_2] w166_2 fun e167_2 w167_2 =>
  ∃ n167_2 : Int, e167_2 = .returned (.int .u64 n167_2) ∧ Br (n163_2 == n167_2)
  (Does Tryz.prog 12 #[.float .f64 f86] w167_2 fun e172_2 w172_2 =>
  ∃ n172_2 : Int, e172_2 = .returned (.int .u64 n172_2) ∧ ∃ f175_2 : Nat, ∃ w175_2, (binOp .quo 23 (.float .f64 f35) (.float .f64 f40)).run Tryz.prog w172_2 = .ok (.float .f64 f175_2) w175_2 ∧ Does Tryz.prog 12 #[.float .f64 f175_2] w175_2 fun e176_2 w176_2 =>
  ∃ n176_2 : Int, e176_2 = .returned (.int .u64 n176_2) ∧ Br (n172_2 == n176_2)
  (Does Tryz.prog 12 #[.float .f64 f96] w176_2 fun e181_2 w181_2 =>
  ∃ n181_2 : Int, e181_2 = .returned (.int .u64 n181_2) ∧ Does Tryz.prog 12 #[.float .f64 f40] w181_2 fun e183_2 w183_2 =>
  ∃ n183_2 : Int, e183_2 = .returned (.int .u64 n183_2) ∧ Br (n181_2 == n183_2)
  (Does Tryz.prog 12 #[.float .f64 f106] w183_2 fun e188_2 w188_2 =>
  ∃ n188_2 : Int, e188_2 = .returned (.int .u64 n188_2) ∧ Does Tryz.prog 12 #[.float .f64 f35] w188_2 fun e190_2 w190_2 =>
  ∃ n190_2 : Int, e190_2 = .returned (.int .u64 n190_2) ∧ R (.returned (.bool (n188_2 == n190_2))) w190_2)
  (R (.returned (.bool false)) w183_2))
  (R (.returned (.bool false)) w176_2))
  (R (.returned (.bool false)) w167_2))
  (R (.returned (.bool false)) w158_2))
  (R (.returned (.bool false)) w150_2))
  (Does Tryz.prog 12 #[.float .f64 f56] w142_1 fun e146_3 w146_3 =>
  ∃ n146_3 : Int, e146_3 = .returned (.int .u64 n146_3) ∧ ∃ f149_3 : Nat, ∃ w149_3, (binOp .add 23 (.float .f64 f35) (.float .f64 f40)).run Tryz.prog w146_3 = .ok (.float .f64 f149_3) w149_3 ∧ Does Tryz.prog 12 #[.float .f64 f149_3] w149_3 fun e150_3 w150_3 =>
  ∃ n150_3 : Int, e150_3 = .returned (.int .u64 n150_3) ∧ Br (n146_3 == n150_3)
  (Does Tryz.prog 12 #[.float .f64 f66] w150_3 fun e154_3 w154_3 =>
  ∃ n154_3 : Int, e154_3 = .returned (.int .u64 n154_3) ∧ ∃ f157_3 : Nat, ∃ w157_3, (binOp .sub 23 (.float .f64 f35) (.float .f64 f40)).run Tryz.prog w154_3 = .ok (.float .f64 f157_3) w157_3 ∧ Does Tryz.prog 12 #[.float .f64 f157_3] w157_3 fun e158_3 w158_3 =>
  ∃ n158_3 : Int, e158_3 = .returned (.int .u64 n158_3) ∧ Br (n154_3 == n158_3)
  (Does Tryz.prog 12 #[.float .f64 f76] w158_3 fun e163_3 w163_3 =>
  ∃ n163_3 : Int, e163_3 = .returned (.int .u64 n163_3) ∧ ∃ f166_3 : Nat, ∃ w166_3, (binOp .mul 23 (.float .f64 f35) (.float .f64 f40)).run Tryz.prog w163_3 = .ok (.float .f64 f166_3) w166_3 ∧ Does Tryz.prog 12 #[.float .f64 f166_3] w166_3 fun e167_3 w167_3 =>
  ∃ n167_3 : Int, e167_3 = .returned (.int .u64 n167_3) ∧ Br (n163_3 == n167_3)
  (Does Tryz.prog 12 #[.float .f64 f86] w167_3 fun e172_3 w172_3 =>
  ∃ n172_3 : Int, e172_3 = .returned (.int .u64 n172_3) ∧ ∃ f175_3 : Nat, ∃ w175_3, (binOp .quo 23 (.float .f64 f35) (.float .f64 f40)).run Tryz.prog w172_3 = .ok (.float .f64 f175_3) w175_3 ∧ Does Tryz.prog 12 #[.float .f64 f175_3] w175_3 fun e176_3 w176_3 =>
  ∃ n176_3 : Int, e176_3 = .returned (.int .u64 n176_3) ∧ Br (n172_3 == n176_3)
  (Does Tryz.prog 12 #[.float .f64 f96] w176_3 fun e181_3 w181_3 =>
  ∃ n181_3 : Int, e181_3 = .returned (.int .u64 n181_3) ∧ Does Tryz.prog 12 #[.float .f64 f40] w181_3 fun e183_3 w183_3 =>
  ∃ n183_3 : Int, e183_3 = .returned (.int .u64 n183_3) ∧ Br (n181_3 == n183_3)
  (Does Tryz.prog 12 #[.float .f64 f106] w183_3 fun e188_3 w188_3 =>
  ∃ n188_3 : Int, e188_3 = .returned (.int .u64 n188_3) ∧ Does Tryz.prog 12 #[.float .f64 f40] w188_3 fun e190_3 w190_3 =>
  ∃ n190_3 : Int, e190_3 = .returned (.int .u64 n190_3) ∧ R (.returned (.bool (n188_3 == n190_3))) w190_3)
  (R (.returned (.bool false)) w183_3))
  (R (.returned (.bool false)) w176_3))
  (R (.returned (.bool false)) w167_3))
  (R (.returned (.bool false)) w158_3))
  (R (.returned (.bool false)) w150_3))))))))))))))
def f3_ann : Ann := { loops := [], cuts := [], flip := [], throws := [] }
theorem f3_eq (a0 : ByteArray) (a1 : ByteArray) (w : World) (R : Ending → World → Prop) : vc Tryz.prog f3_ann (bodyOf Tryz.f3) (retQ Tryz.prog Tryz.f3 R) (envOf Tryz.f3.ntmps [.v (.string a0), .v (.string a1)]) [] w = f3_vc a0 a1 w R := by kernel_rfl
theorem f3_does (a0 : ByteArray) (a1 : ByteArray) {w : World} {R : Ending → World → Prop} (h : f3_vc a0 a1 w R) : Does Tryz.prog 3 #[.string a0, .string a1] w R :=
  does_of_vc (ss := [.v (.string a0), .v (.string a1)]) f3_ann mixed call3 Tryz.func3 rfl rfl (show 2 ≤ Tryz.f3.ntmps by decide) ((f3_eq a0 a1 w R).symm ▸ h)
/-- Of escritoire/escritoirelaw4.CalcNumbers (function 4): the condition. -/
def f4_vc (a0 : ByteArray) (w : World) (R : Ending → World → Prop) : Prop :=
  Does Tryz.prog 9 #[] w fun e9 w9 =>
  ∃ b9 : Bool, e9 = .returned (.bool b9) ∧ Br (!b9)
  (R (.returned (.bool false)) w9)
  (Br (decide (((a0.size : Int)) > 1000))
  (R (.returned (.bool true)) w9)
  (Br (decide (((a0.size : Int)) > 0))
  (((0 : Int) ≤ 0 ∧ 0 < (a0.size : Int)) ∧ Br ((sb a0 0) == 45)
  (R (.returned (.bool true)) w9)
  (Br (decide (((a0.size : Int)) > 1))
  (((0 : Int) ≤ 1 ∧ 1 < (a0.size : Int)) ∧ Br ((sb a0 1) == 120)
  (R (.returned (.bool true)) w9)
  (Does Tryz.prog 13 #[.string a0] w9 fun e36 w36 =>
  ∃ f36 : Nat, ∃ b36 : Bool, e36 = .returned (.tuple #[.float .f64 f36, .bool b36]) ∧ Does Tryz.prog 10 #[.string a0] w36 fun e41 w41 =>
  ∃ f41 : Nat, ∃ n41 : Int, e41 = .returned (.tuple #[.float .f64 f41, .int .i64 n41]) ∧ (((({ data := #[45] } : ByteArray)).size + a0.size : Nat) : Int) ≤ 9223372036854775807 ∧ Does Tryz.prog 10 #[.string ((({ data := #[45] } : ByteArray)) ++ a0)] w41 fun e47 w47 =>
  ∃ f47 : Nat, ∃ n47 : Int, e47 = .returned (.tuple #[.float .f64 f47, .int .i64 n47]) ∧ Br (!b36)
  (R (.returned (.bool true)) w47)
  (Br (n41 == 0)
  (Br (n47 == 0)
  (Does Tryz.prog 12 #[.float .f64 f36] w47 fun e60 w60 =>
  ∃ n60 : Int, e60 = .returned (.int .u64 n60) ∧ Does Tryz.prog 12 #[.float .f64 f41] w60 fun e62 w62 =>
  ∃ n62 : Int, e62 = .returned (.int .u64 n62) ∧ Br (n60 == n62)
  (Does Tryz.prog 12 #[.float .f64 f47] w62 fun e67 w67 =>
  ∃ n67 : Int, e67 = .returned (.int .u64 n67) ∧ Does Tryz.prog 12 #[.float .f64 (Op.negFloat .f64 f36)] w67 fun e70 w70 =>
  ∃ n70 : Int, e70 = .returned (.int .u64 n70) ∧ R (.returned (.bool (n67 == n70))) w70)
  (R (.returned (.bool false)) w62))
  (R (.returned (.bool false)) w47))
  (R (.returned (.bool false)) w47))))
  (Does Tryz.prog 13 #[.string a0] w9 fun e36_1 w36_1 =>
  ∃ f36_1 : Nat, ∃ b36_1 : Bool, e36_1 = .returned (.tuple #[.float .f64 f36_1, .bool b36_1]) ∧ Does Tryz.prog 10 #[.string a0] w36_1 fun e41_1 w41_1 =>
  ∃ f41_1 : Nat, ∃ n41_1 : Int, e41_1 = .returned (.tuple #[.float .f64 f41_1, .int .i64 n41_1]) ∧ (((({ data := #[45] } : ByteArray)).size + a0.size : Nat) : Int) ≤ 9223372036854775807 ∧ Does Tryz.prog 10 #[.string ((({ data := #[45] } : ByteArray)) ++ a0)] w41_1 fun e47_1 w47_1 =>
  ∃ f47_1 : Nat, ∃ n47_1 : Int, e47_1 = .returned (.tuple #[.float .f64 f47_1, .int .i64 n47_1]) ∧ Br (!b36_1)
  (R (.returned (.bool true)) w47_1)
  (Br (n41_1 == 0)
  (Br (n47_1 == 0)
  (Does Tryz.prog 12 #[.float .f64 f36_1] w47_1 fun e60_1 w60_1 =>
  ∃ n60_1 : Int, e60_1 = .returned (.int .u64 n60_1) ∧ Does Tryz.prog 12 #[.float .f64 f41_1] w60_1 fun e62_1 w62_1 =>
  ∃ n62_1 : Int, e62_1 = .returned (.int .u64 n62_1) ∧ Br (n60_1 == n62_1)
  (Does Tryz.prog 12 #[.float .f64 f47_1] w62_1 fun e67_1 w67_1 =>
  ∃ n67_1 : Int, e67_1 = .returned (.int .u64 n67_1) ∧ Does Tryz.prog 12 #[.float .f64 (Op.negFloat .f64 f36_1)] w67_1 fun e70_1 w70_1 =>
  ∃ n70_1 : Int, e70_1 = .returned (.int .u64 n70_1) ∧ R (.returned (.bool (n67_1 == n70_1))) w70_1)
  (R (.returned (.bool false)) w62_1))
  (R (.returned (.bool false)) w47_1))
  (R (.returned (.bool false)) w47_1)))))
  (Br (decide (((a0.size : Int)) > 1))
  (((0 : Int) ≤ 1 ∧ 1 < (a0.size : Int)) ∧ Br ((sb a0 1) == 120)
  (R (.returned (.bool true)) w9)
  (Does Tryz.prog 13 #[.string a0] w9 fun e36_2 w36_2 =>
  ∃ f36_2 : Nat, ∃ b36_2 : Bool, e36_2 = .returned (.tuple #[.float .f64 f36_2, .bool b36_2]) ∧ Does Tryz.prog 10 #[.string a0] w36_2 fun e41_2 w41_2 =>
  ∃ f41_2 : Nat, ∃ n41_2 : Int, e41_2 = .returned (.tuple #[.float .f64 f41_2, .int .i64 n41_2]) ∧ (((({ data := #[45] } : ByteArray)).size + a0.size : Nat) : Int) ≤ 9223372036854775807 ∧ Does Tryz.prog 10 #[.string ((({ data := #[45] } : ByteArray)) ++ a0)] w41_2 fun e47_2 w47_2 =>
  ∃ f47_2 : Nat, ∃ n47_2 : Int, e47_2 = .returned (.tuple #[.float .f64 f47_2, .int .i64 n47_2]) ∧ Br (!b36_2)
  (R (.returned (.bool true)) w47_2)
  (Br (n41_2 == 0)
  (Br (n47_2 == 0)
  (Does Tryz.prog 12 #[.float .f64 f36_2] w47_2 fun e60_2 w60_2 =>
  ∃ n60_2 : Int, e60_2 = .returned (.int .u64 n60_2) ∧ Does Tryz.prog 12 #[.float .f64 f41_2] w60_2 fun e62_2 w62_2 =>
  ∃ n62_2 : Int, e62_2 = .returned (.int .u64 n62_2) ∧ Br (n60_2 == n62_2)
  (Does Tryz.prog 12 #[.float .f64 f47_2] w62_2 fun e67_2 w67_2 =>
  ∃ n67_2 : Int, e67_2 = .returned (.int .u64 n67_2) ∧ Does Tryz.prog 12 #[.float .f64 (Op.negFloat .f64 f36_2)] w67_2 fun e70_2 w70_2 =>
  ∃ n70_2 : Int, e70_2 = .returned (.int .u64 n70_2) ∧ R (.returned (.bool (n67_2 == n70_2))) w70_2)
  (R (.returned (.bool false)) w62_2))
  (R (.returned (.bool false)) w47_2))
  (R (.returned (.bool false)) w47_2))))
  (Does Tryz.prog 13 #[.string a0] w9 fun e36_3 w36_3 =>
  ∃ f36_3 : Nat, ∃ b36_3 : Bool, e36_3 = .returned (.tuple #[.float .f64 f36_3, .bool b36_3]) ∧ Does Tryz.prog 10 #[.string a0] w36_3 fun e41_3 w41_3 =>
  ∃ f41_3 : Nat, ∃ n41_3 : Int, e41_3 = .returned (.tuple #[.float .f64 f41_3, .int .i64 n41_3]) ∧ (((({ data := #[45] } : ByteArray)).size + a0.size : Nat) : Int) ≤ 9223372036854775807 ∧ Does Tryz.prog 10 #[.string ((({ data := #[45] } : ByteArray)) ++ a0)] w41_3 fun e47_3 w47_3 =>
  ∃ f47_3 : Nat, ∃ n47_3 : Int, e47_3 = .returned (.tuple #[.float .f64 f47_3, .int .i64 n47_3]) ∧ Br (!b36_3)
  (R (.returned (.bool true)) w47_3)
  (Br (n41_3 == 0)
  (Br (n47_3 == 0)
  (Does Tryz.prog 12 #[.float .f64 f36_3] w47_3 fun e60_3 w60_3 =>
  ∃ n60_3 : Int, e60_3 = .returned (.int .u64 n60_3) ∧ Does Tryz.prog 12 #[.float .f64 f41_3] w60_3 fun e62_3 w62_3 =>
  ∃ n62_3 : Int, e62_3 = .returned (.int .u64 n62_3) ∧ Br (n60_3 == n62_3)
  (Does Tryz.prog 12 #[.float .f64 f47_3] w62_3 fun e67_3 w67_3 =>
  ∃ n67_3 : Int, e67_3 = .returned (.int .u64 n67_3) ∧ Does Tryz.prog 12 #[.float .f64 (Op.negFloat .f64 f36_3)] w67_3 fun e70_3 w70_3 =>
  ∃ n70_3 : Int, e70_3 = .returned (.int .u64 n70_3) ∧ R (.returned (.bool (n67_3 == n70_3))) w70_3)
  (R (.returned (.bool false)) w62_3))
  (R (.returned (.bool false)) w47_3))
  (R (.returned (.bool false)) w47_3))))))
def f4_ann : Ann := { loops := [], cuts := [], flip := [], throws := [] }
theorem f4_eq (a0 : ByteArray) (w : World) (R : Ending → World → Prop) : vc Tryz.prog f4_ann (bodyOf Tryz.f4) (retQ Tryz.prog Tryz.f4 R) (envOf Tryz.f4.ntmps [.v (.string a0)]) [] w = f4_vc a0 w R := by kernel_rfl
theorem f4_does (a0 : ByteArray) {w : World} {R : Ending → World → Prop} (h : f4_vc a0 w R) : Does Tryz.prog 4 #[.string a0] w R :=
  does_of_vc (ss := [.v (.string a0)]) f4_ann mixed call4 Tryz.func4 rfl rfl (show 1 ≤ Tryz.f4.ntmps by decide) ((f4_eq a0 w R).symm ▸ h)
/-- Of escritoire/escritoirelaw4.CalcKnown (function 5): the condition. -/
def f5_vc  (w : World) (R : Ending → World → Prop) : Prop :=
  Does Tryz.prog 9 #[] w fun e11 w11 =>
  ∃ b11 : Bool, e11 = .returned (.bool b11) ∧ Br (!b11)
  (R (.returned (.bool false)) w11)
  (Does Tryz.prog 10 #[.string (({ data := #[45, 40, 52, 32, 45, 32, 54, 41, 32, 47, 32, 48] } : ByteArray))] w11 fun e14 w14 =>
  ∃ f14 : Nat, ∃ n14 : Int, e14 = .returned (.tuple #[.float .f64 f14, .int .i64 n14]) ∧ Does Tryz.prog 10 #[.string (({ data := #[48, 32, 47, 32, 45, 53] } : ByteArray))] w14 fun e18 w18 =>
  ∃ f18 : Nat, ∃ n18 : Int, e18 = .returned (.tuple #[.float .f64 f18, .int .i64 n18]) ∧ Does Tryz.prog 10 #[.string (({ data := #[109, 105, 110, 40, 110, 97, 110, 44, 32, 51, 41] } : ByteArray))] w18 fun e22 w22 =>
  ∃ f22 : Nat, ∃ n22 : Int, e22 = .returned (.tuple #[.float .f64 f22, .int .i64 n22]) ∧ Does Tryz.prog 10 #[.string (({ data := #[49, 32, 43] } : ByteArray))] w22 fun e26 w26 =>
  ∃ f26 : Nat, ∃ n26 : Int, e26 = .returned (.tuple #[.float .f64 f26, .int .i64 n26]) ∧ Does Tryz.prog 10 #[.string (({ data := #[48, 49] } : ByteArray))] w26 fun e30 w30 =>
  ∃ f30 : Nat, ∃ n30 : Int, e30 = .returned (.tuple #[.float .f64 f30, .int .i64 n30]) ∧ Br (n14 == 0)
  (Does Tryz.prog 14 #[.float .f64 f14] w30 fun e37 w37 =>
  ∃ s37 : ByteArray, e37 = .returned (.string s37) ∧ Br (s37.toList == (({ data := #[105, 110, 102] } : ByteArray)).toList)
  (Br (n18 == 0)
  (Does Tryz.prog 14 #[.float .f64 f18] w37 fun e46 w46 =>
  ∃ s46 : ByteArray, e46 = .returned (.string s46) ∧ Br (s46.toList == (({ data := #[45, 48] } : ByteArray)).toList)
  (Br (n22 == 0)
  (Br ((FloatKind.f64.format.order f22 4613937818241073152 == some Ordering.eq))
  (Br (n26 == 11)
  (R (.returned (.bool (n30 == 11))) w46)
  (R (.returned (.bool false)) w46))
  (R (.returned (.bool false)) w46))
  (R (.returned (.bool false)) w46))
  (R (.returned (.bool false)) w46))
  (R (.returned (.bool false)) w37))
  (R (.returned (.bool false)) w37))
  (R (.returned (.bool false)) w30))
def f5_ann : Ann := { loops := [], cuts := [], flip := [], throws := [] }
theorem f5_eq  (w : World) (R : Ending → World → Prop) : vc Tryz.prog f5_ann (bodyOf Tryz.f5) (retQ Tryz.prog Tryz.f5 R) (envOf Tryz.f5.ntmps []) [] w = f5_vc  w R := by kernel_rfl
theorem f5_does  {w : World} {R : Ending → World → Prop} (h : f5_vc  w R) : Does Tryz.prog 5 #[] w R :=
  does_of_vc (ss := []) f5_ann mixed call5 Tryz.func5 rfl rfl (show 0 ≤ Tryz.f5.ntmps by decide) ((f5_eq  w R).symm ▸ h)
/-- Of escritoire/escritoirelaw4.CalcDeep (function 6): the condition. -/
def f6_vc (a0 : Int) (a1 : Int) (w : World) (R : Ending → World → Prop) : Prop :=
  Does Tryz.prog 9 #[] w fun e11 w11 =>
  ∃ b11 : Bool, e11 = .returned (.bool b11) ∧ Br (!b11)
  (R (.returned (.bool false)) w11)
  (InK .i64 (a0) ∧ (40 : Int) ≠ 0 ∧ ∃ I7 : ByteArray → Nat → Int → Nat → World → Prop, (∃ nl7, I7 (({ data := #[55] } : ByteArray)) 4619567317775286272 0 nl7 w11) ∧ ∀ s6 : ByteArray, ∀ f7 : Nat, ∀ x8 : Int, ∀ (nl7 : Nat) (wl7 : World), I7 s6 f7 x8 nl7 wl7 →
  Br (decide (x8 < (a0.tmod 40)))
  ((3 : Int) ≠ 0 ∧ Br ((a1.tmod 3) == 0)
  ((((({ data := #[40] } : ByteArray)).size + s6.size : Nat) : Int) ≤ 9223372036854775807 ∧ ((((({ data := #[40] } : ByteArray)) ++ s6).size + (({ data := #[41] } : ByteArray)).size : Nat) : Int) ≤ 9223372036854775807 ∧ InK .i64 (x8 + 1) ∧ ∃ ml7, ml7 < nl7 ∧ I7 (((({ data := #[40] } : ByteArray)) ++ s6) ++ (({ data := #[41] } : ByteArray))) f7 (x8 + 1) ml7 wl7)
  (Br ((a1.tmod 3) == 1)
  ((((({ data := #[45] } : ByteArray)).size + s6.size : Nat) : Int) ≤ 9223372036854775807 ∧ InK .i64 (x8 + 1) ∧ ∃ ml7, ml7 < nl7 ∧ I7 ((({ data := #[45] } : ByteArray)) ++ s6) (Op.negFloat .f64 f7) (x8 + 1) ml7 wl7)
  ((((({ data := #[97, 98, 115, 40] } : ByteArray)).size + s6.size : Nat) : Int) ≤ 9223372036854775807 ∧ ((((({ data := #[97, 98, 115, 40] } : ByteArray)) ++ s6).size + (({ data := #[41] } : ByteArray)).size : Nat) : Int) ≤ 9223372036854775807 ∧ InK .i64 (x8 + 1) ∧ ∃ ml7, ml7 < nl7 ∧ I7 (((({ data := #[97, 98, 115, 40] } : ByteArray)) ++ s6) ++ (({ data := #[41] } : ByteArray))) f7 (x8 + 1) ml7 wl7)))
  (Does Tryz.prog 10 #[.string s6] wl7 fun e39 w39 =>
  ∃ f39 : Nat, ∃ n39 : Int, e39 = .returned (.tuple #[.float .f64 f39, .int .i64 n39]) ∧ Br (decide ((a0.tmod 40) > 32))
  (R (.returned (.bool (n39 == 3))) w39)
  (Br (n39 == 0)
  (R (.returned (.bool ((FloatKind.f64.format.order f39 f7 == some Ordering.eq)))) w39)
  (R (.returned (.bool false)) w39))))
def f6_ann : Ann := { loops := [(7, [(6, .str), (7, .flt .f64), (8, .int .i64)])], cuts := [], flip := [], throws := [] }
theorem f6_eq (a0 : Int) (a1 : Int) (w : World) (R : Ending → World → Prop) : vc Tryz.prog f6_ann (bodyOf Tryz.f6) (retQ Tryz.prog Tryz.f6 R) (envOf Tryz.f6.ntmps [.v (.int .u8 a0), .v (.int .u8 a1)]) [] w = f6_vc a0 a1 w R := by kernel_rfl
theorem f6_does (a0 : Int) (a1 : Int) {w : World} {R : Ending → World → Prop} (h : f6_vc a0 a1 w R) : Does Tryz.prog 6 #[.int .u8 a0, .int .u8 a1] w R :=
  does_of_vc (ss := [.v (.int .u8 a0), .v (.int .u8 a1)]) f6_ann mixed call6 Tryz.func6 rfl rfl (show 2 ≤ Tryz.f6.ntmps by decide) ((f6_eq a0 a1 w R).symm ▸ h)
/-- Of escritoire/escritoirelaw4.CalcEvals (function 7): the condition. -/
def f7_vc (a0 : ByteArray) (w : World) (R : Ending → World → Prop) : Prop :=
  Does Tryz.prog 9 #[] w fun e9 w9 =>
  ∃ b9 : Bool, e9 = .returned (.bool b9) ∧ Br (!b9)
  (R (.returned (.bool false)) w9)
  (Br (decide (((a0.size : Int)) > 4200))
  (Does Tryz.prog 10 #[.string a0] w9 fun e16 w16 =>
  ∃ f16 : Nat, ∃ n16 : Int, e16 = .returned (.tuple #[.float .f64 f16, .int .i64 n16]) ∧ R (.returned (.bool (n16 == 3))) w16)
  (Does Tryz.prog 10 #[.string a0] w9 fun e23 w23 =>
  ∃ f23 : Nat, ∃ n23 : Int, e23 = .returned (.tuple #[.float .f64 f23, .int .i64 n23]) ∧ Does Tryz.prog 15 #[.string a0] w23 fun e28 w28 =>
  ∃ f28 : Nat, ∃ n28 : Int, e28 = .returned (.tuple #[.float .f64 f28, .int .i64 n28]) ∧ Br (n23 == n28)
  (Does Tryz.prog 12 #[.float .f64 f23] w28 fun e36 w36 =>
  ∃ n36 : Int, e36 = .returned (.int .u64 n36) ∧ Does Tryz.prog 16 #[.float .f64 f28] w36 fun e38 w38 =>
  ∃ n38 : Int, e38 = .returned (.int .u64 n38) ∧ R (.returned (.bool (n36 == n38))) w38)
  (R (.returned (.bool false)) w28)))
def f7_ann : Ann := { loops := [], cuts := [], flip := [], throws := [] }
theorem f7_eq (a0 : ByteArray) (w : World) (R : Ending → World → Prop) : vc Tryz.prog f7_ann (bodyOf Tryz.f7) (retQ Tryz.prog Tryz.f7 R) (envOf Tryz.f7.ntmps [.v (.string a0)]) [] w = f7_vc a0 w R := by kernel_rfl
theorem f7_does (a0 : ByteArray) {w : World} {R : Ending → World → Prop} (h : f7_vc a0 w R) : Does Tryz.prog 7 #[.string a0] w R :=
  does_of_vc (ss := [.v (.string a0)]) f7_ann mixed call7 Tryz.func7 rfl rfl (show 1 ≤ Tryz.f7.ntmps by decide) ((f7_eq a0 w R).symm ▸ h)
/-- Of escritoire/escritoirelaw4.CalcBlanks (function 8): the condition. -/
def f8_vc (a0 : ByteArray) (a1 : Int) (w : World) (R : Ending → World → Prop) : Prop :=
  Does Tryz.prog 9 #[] w fun e13 w13 =>
  ∃ b13 : Bool, e13 = .returned (.bool b13) ∧ Br (!b13)
  (R (.returned (.bool false)) w13)
  (Br (decide (((a0.size : Int)) > 2000))
  (R (.returned (.bool true)) w13)
  (Does Tryz.prog 10 #[.string a0] w13 fun e20 w20 =>
  ∃ f20 : Nat, ∃ n20 : Int, e20 = .returned (.tuple #[.float .f64 f20, .int .i64 n20]) ∧ ∃ I8 : ByteArray → Int → Nat → World → Prop, (∃ nl8, I8 a0 0 nl8 w20) ∧ ∀ s7 : ByteArray, ∀ x8 : Int, ∀ (nl8 : Nat) (wl8 : World), I8 s7 x8 nl8 wl8 →
  InK .i64 (a1) ∧ (4 : Int) ≠ 0 ∧ Br (decide (x8 < (a1.tmod 4)))
  ((((({ data := #[32] } : ByteArray)).size + s7.size : Nat) : Int) ≤ 9223372036854775807 ∧ ((((({ data := #[32] } : ByteArray)) ++ s7).size + (({ data := #[32, 32] } : ByteArray)).size : Nat) : Int) ≤ 9223372036854775807 ∧ InK .i64 (x8 + 1) ∧ ∃ ml8, ml8 < nl8 ∧ I8 (((({ data := #[32] } : ByteArray)) ++ s7) ++ (({ data := #[32, 32] } : ByteArray))) (x8 + 1) ml8 wl8)
  (Does Tryz.prog 10 #[.string s7] wl8 fun e36 w36 =>
  ∃ f36 : Nat, ∃ n36 : Int, e36 = .returned (.tuple #[.float .f64 f36, .int .i64 n36]) ∧ (((({ data := #[40] } : ByteArray)).size + s7.size : Nat) : Int) ≤ 9223372036854775807 ∧ ((((({ data := #[40] } : ByteArray)) ++ s7).size + (({ data := #[41] } : ByteArray)).size : Nat) : Int) ≤ 9223372036854775807 ∧ Does Tryz.prog 10 #[.string (((({ data := #[40] } : ByteArray)) ++ s7) ++ (({ data := #[41] } : ByteArray)))] w36 fun e43 w43 =>
  ∃ f43 : Nat, ∃ n43 : Int, e43 = .returned (.tuple #[.float .f64 f43, .int .i64 n43]) ∧ Br (n20 != n36)
  (R (.returned (.bool false)) w43)
  (Does Tryz.prog 12 #[.float .f64 f20] w43 fun e51 w51 =>
  ∃ n51 : Int, e51 = .returned (.int .u64 n51) ∧ Does Tryz.prog 12 #[.float .f64 f36] w51 fun e53 w53 =>
  ∃ n53 : Int, e53 = .returned (.int .u64 n53) ∧ Br (n51 != n53)
  (R (.returned (.bool false)) w53)
  (Br (n20 != 0)
  (R (.returned (.bool true)) w53)
  (Br (n43 == 3)
  (R (.returned (.bool true)) w53)
  (Br (n43 == 0)
  (Does Tryz.prog 12 #[.float .f64 f43] w53 fun e65 w65 =>
  ∃ n65 : Int, e65 = .returned (.int .u64 n65) ∧ Does Tryz.prog 12 #[.float .f64 f20] w65 fun e67 w67 =>
  ∃ n67 : Int, e67 = .returned (.int .u64 n67) ∧ R (.returned (.bool (n65 == n67))) w67)
  (R (.returned (.bool false)) w53))))))))
def f8_ann : Ann := { loops := [(8, [(7, .str), (8, .int .i64)])], cuts := [], flip := [], throws := [] }
theorem f8_eq (a0 : ByteArray) (a1 : Int) (w : World) (R : Ending → World → Prop) : vc Tryz.prog f8_ann (bodyOf Tryz.f8) (retQ Tryz.prog Tryz.f8 R) (envOf Tryz.f8.ntmps [.v (.string a0), .v (.int .u8 a1)]) [] w = f8_vc a0 a1 w R := by kernel_rfl
theorem f8_does (a0 : ByteArray) (a1 : Int) {w : World} {R : Ending → World → Prop} (h : f8_vc a0 a1 w R) : Does Tryz.prog 8 #[.string a0, .int .u8 a1] w R :=
  does_of_vc (ss := [.v (.string a0), .v (.int .u8 a1)]) f8_ann mixed call8 Tryz.func8 rfl rfl (show 2 ≤ Tryz.f8.ntmps by decide) ((f8_eq a0 a1 w R).symm ▸ h)
/-- Of escritoire/escritoirelaw4.awake (function 9): the condition. -/
def f9_vc  (w : World) (R : Ending → World → Prop) : Prop :=
  Does Tryz.prog 10 #[.string (({ data := #[49, 32, 43, 32, 50, 32, 42, 32, 51] } : ByteArray))] w fun e4 w4 =>
  ∃ f4 : Nat, ∃ n4 : Int, e4 = .returned (.tuple #[.float .f64 f4, .int .i64 n4]) ∧ Br (n4 == 0)
  (R (.returned (.bool ((FloatKind.f64.format.order f4 4619567317775286272 == some Ordering.eq)))) w4)
  (R (.returned (.bool false)) w4)
def f9_ann : Ann := { loops := [], cuts := [], flip := [], throws := [] }
theorem f9_eq  (w : World) (R : Ending → World → Prop) : vc Tryz.prog f9_ann (bodyOf Tryz.f9) (retQ Tryz.prog Tryz.f9 R) (envOf Tryz.f9.ntmps []) [] w = f9_vc  w R := by kernel_rfl
theorem f9_does  {w : World} {R : Ending → World → Prop} (h : f9_vc  w R) : Does Tryz.prog 9 #[] w R :=
  does_of_vc (ss := []) f9_ann mixed call9 Tryz.func9 rfl rfl (show 0 ≤ Tryz.f9.ntmps by decide) ((f9_eq  w R).symm ▸ h)
/-- Of escritoire/calc.Eval (function 10): the condition. -/
def f10_vc (a0 : ByteArray) (w : World) (R : Ending → World → Prop) : Prop :=
  Br (decide (((a0.size : Int)) > 4096))
  (R (.returned (.tuple #[.float .f64 0, .int .i64 3])) w)
  (∀ b12 w12, NewBlk w b12 [.string a0, .int .i64 0, .int .i64 0, .int .i64 0] 41 w12 →
  Does Tryz.prog 17 #[.pointer (some ⟨b12, 0, none⟩)] w12 fun e15 w15 =>
  ∃ f15 : Nat, ∃ b15 : Bool, e15 = .returned (.tuple #[.float .f64 f15, .bool b15]) ∧ Br (!b15)
  (R (.returned (.tuple #[.float .f64 0, .int .i64 11])) w15)
  (∃ n25 : Int, w15.cell? ⟨b12, 3, none⟩ = some (.int .i64 n25) ∧ Br (decide (n25 > 32))
  (R (.returned (.tuple #[.float .f64 0, .int .i64 3])) w15)
  (R (.returned (.tuple #[.float .f64 f15, .int .i64 0])) w15)))
def f10_ann : Ann := { loops := [], cuts := [], flip := [], throws := [] }
theorem f10_eq (a0 : ByteArray) (w : World) (R : Ending → World → Prop) : vc Tryz.prog f10_ann (bodyOf Tryz.f10) (retQ Tryz.prog Tryz.f10 R) (envOf Tryz.f10.ntmps [.v (.string a0)]) [] w = f10_vc a0 w R := by kernel_rfl
theorem f10_does (a0 : ByteArray) {w : World} {R : Ending → World → Prop} (h : f10_vc a0 w R) : Does Tryz.prog 10 #[.string a0] w R :=
  does_of_vc (ss := [.v (.string a0)]) f10_ann mixed call10 Tryz.func10 rfl rfl (show 1 ≤ Tryz.f10.ntmps by decide) ((f10_eq a0 w R).symm ▸ h)
/-- Of escritoire/real.Compare (function 11): the condition. -/
def f11_vc (a0 : Nat) (a1 : Nat) (w : World) (R : Ending → World → Prop) : Prop :=
  Br ((FloatKind.f64.format.order a0 a0 != some Ordering.eq))
  (Does Tryz.prog 19 #[.float .f64 a0] w fun e15 w15 =>
  ∃ n15 : Int, e15 = .returned (.int .i64 n15) ∧ Does Tryz.prog 19 #[.float .f64 a1] w15 fun e17 w17 =>
  ∃ n17 : Int, e17 = .returned (.int .i64 n17) ∧ Does Tryz.prog 18 #[.int .i64 n15, .int .i64 n17] w17 fun e18 w18 =>
  ∃ n18 : Int, e18 = .returned (.int .i64 n18) ∧ R (.returned (.int .i64 n18)) w18)
  (Br ((FloatKind.f64.format.order a1 a1 != some Ordering.eq))
  (Does Tryz.prog 19 #[.float .f64 a0] w fun e15_1 w15_1 =>
  ∃ n15_1 : Int, e15_1 = .returned (.int .i64 n15_1) ∧ Does Tryz.prog 19 #[.float .f64 a1] w15_1 fun e17_1 w17_1 =>
  ∃ n17_1 : Int, e17_1 = .returned (.int .i64 n17_1) ∧ Does Tryz.prog 18 #[.int .i64 n15_1, .int .i64 n17_1] w17_1 fun e18_1 w18_1 =>
  ∃ n18_1 : Int, e18_1 = .returned (.int .i64 n18_1) ∧ R (.returned (.int .i64 n18_1)) w18_1)
  (Br ((FloatKind.f64.format.order a0 0 == some Ordering.eq))
  (Br ((FloatKind.f64.format.order a1 0 == some Ordering.eq))
  (Does Tryz.prog 20 #[.float .f64 a1] w fun e27 w27 =>
  ∃ n27 : Int, e27 = .returned (.int .i64 n27) ∧ Does Tryz.prog 20 #[.float .f64 a0] w27 fun e29 w29 =>
  ∃ n29 : Int, e29 = .returned (.int .i64 n29) ∧ Does Tryz.prog 18 #[.int .i64 n27, .int .i64 n29] w29 fun e30 w30 =>
  ∃ n30 : Int, e30 = .returned (.int .i64 n30) ∧ R (.returned (.int .i64 n30)) w30)
  (Does Tryz.prog 21 #[.float .f64 a0, .float .f64 a1] w fun e33 w33 =>
  ∃ n33 : Int, e33 = .returned (.int .i64 n33) ∧ R (.returned (.int .i64 n33)) w33))
  (Does Tryz.prog 21 #[.float .f64 a0, .float .f64 a1] w fun e33_1 w33_1 =>
  ∃ n33_1 : Int, e33_1 = .returned (.int .i64 n33_1) ∧ R (.returned (.int .i64 n33_1)) w33_1)))
def f11_ann : Ann := { loops := [], cuts := [], flip := [], throws := [] }
theorem f11_eq (a0 : Nat) (a1 : Nat) (w : World) (R : Ending → World → Prop) : vc Tryz.prog f11_ann (bodyOf Tryz.f11) (retQ Tryz.prog Tryz.f11 R) (envOf Tryz.f11.ntmps [.v (.float .f64 a0), .v (.float .f64 a1)]) [] w = f11_vc a0 a1 w R := by kernel_rfl
theorem f11_does (a0 : Nat) (a1 : Nat) {w : World} {R : Ending → World → Prop} (h : f11_vc a0 a1 w R) : Does Tryz.prog 11 #[.float .f64 a0, .float .f64 a1] w R :=
  does_of_vc (ss := [.v (.float .f64 a0), .v (.float .f64 a1)]) f11_ann mixed call11 Tryz.func11 rfl rfl (show 2 ≤ Tryz.f11.ntmps by decide) ((f11_eq a0 a1 w R).symm ▸ h)
/-- Of escritoire/real.Bits (function 12): the condition. -/
def f12_vc (a0 : Nat) (w : World) (R : Ending → World → Prop) : Prop :=
  Br ((FloatKind.f64.format.order a0 a0 != some Ordering.eq))
  (R (.returned (.int .u64 9221120237041090561)) w)
  (Does Tryz.prog 22 #[.float .f64 a0] w fun e7 w7 =>
  ∃ n7 : Int, e7 = .returned (.int .u64 n7) ∧ R (.returned (.int .u64 n7)) w7)
def f12_ann : Ann := { loops := [], cuts := [], flip := [], throws := [] }
theorem f12_eq (a0 : Nat) (w : World) (R : Ending → World → Prop) : vc Tryz.prog f12_ann (bodyOf Tryz.f12) (retQ Tryz.prog Tryz.f12 R) (envOf Tryz.f12.ntmps [.v (.float .f64 a0)]) [] w = f12_vc a0 w R := by kernel_rfl
theorem f12_does (a0 : Nat) {w : World} {R : Ending → World → Prop} (h : f12_vc a0 w R) : Does Tryz.prog 12 #[.float .f64 a0] w R :=
  does_of_vc (ss := [.v (.float .f64 a0)]) f12_ann mixed call12 Tryz.func12 rfl rfl (show 1 ≤ Tryz.f12.ntmps by decide) ((f12_eq a0 w R).symm ▸ h)
/-- Of escritoire/real.Read (function 13): the condition. -/
def f13_vc (a0 : ByteArray) (w : World) (R : Ending → World → Prop) : Prop :=
  Br (a0.toList == (({ data := #[110, 97, 110] } : ByteArray)).toList)
  (Does Tryz.prog 23 #[] w fun e10 w10 =>
  ∃ f10 : Nat, e10 = .returned (.float .f64 f10) ∧ R (.returned (.tuple #[.float .f64 f10, .bool true])) w10)
  (Br (a0.toList == (({ data := #[105, 110, 102] } : ByteArray)).toList)
  (Does Tryz.prog 24 #[.int .i64 1] w fun e13 w13 =>
  ∃ f13 : Nat, e13 = .returned (.float .f64 f13) ∧ R (.returned (.tuple #[.float .f64 f13, .bool true])) w13)
  (Br (a0.toList == (({ data := #[45, 105, 110, 102] } : ByteArray)).toList)
  (Does Tryz.prog 24 #[.int .i64 (-1)] w fun e16 w16 =>
  ∃ f16 : Nat, e16 = .returned (.float .f64 f16) ∧ R (.returned (.tuple #[.float .f64 f16, .bool true])) w16)
  (Does Tryz.prog 25 #[.string a0, .string (({ data := #[45] } : ByteArray))] w fun e18 w18 =>
  ∃ s18 : ByteArray, e18 = .returned (.string s18) ∧ Does Tryz.prog 26 #[.string s18] w18 fun e20 w20 =>
  ∃ b20 : Bool, e20 = .returned (.bool b20) ∧ Br (!b20)
  (Does Tryz.prog 27 #[.string s18, .string (({ data := #[48, 120, 49] } : ByteArray))] w20 fun e24 w24 =>
  ∃ b24 : Bool, e24 = .returned (.bool b24) ∧ Br (!b24)
  (R (.returned (.tuple #[.float .f64 0, .bool false])) w24)
  (Does Tryz.prog 28 #[.string a0, .int .i64 64] w24 fun e29 w29 =>
  ∃ f29 : Nat, ∃ x29 : Value, e29 = .returned (.tuple #[.float .f64 f29, x29]) ∧ ∃ b33 : Bool, IfNil x29 b33 ∧ Br (!b33)
  (R (.returned (.tuple #[.float .f64 0, .bool false])) w29)
  (Does Tryz.prog 26 #[.string s18] w29 fun e36 w36 =>
  ∃ b36 : Bool, e36 = .returned (.bool b36) ∧ Br (!b36)
  (Does Tryz.prog 14 #[.float .f64 f29] w36 fun e40 w40 =>
  ∃ s40 : ByteArray, e40 = .returned (.string s40) ∧ Br (!(s40.toList == a0.toList))
  (R (.returned (.tuple #[.float .f64 0, .bool false])) w40)
  (R (.returned (.tuple #[.float .f64 f29, .bool true])) w40))
  (R (.returned (.tuple #[.float .f64 f29, .bool true])) w36))))
  (Does Tryz.prog 28 #[.string a0, .int .i64 64] w20 fun e29_1 w29_1 =>
  ∃ f29_1 : Nat, ∃ x29_1 : Value, e29_1 = .returned (.tuple #[.float .f64 f29_1, x29_1]) ∧ ∃ b33_1 : Bool, IfNil x29_1 b33_1 ∧ Br (!b33_1)
  (R (.returned (.tuple #[.float .f64 0, .bool false])) w29_1)
  (Does Tryz.prog 26 #[.string s18] w29_1 fun e36_1 w36_1 =>
  ∃ b36_1 : Bool, e36_1 = .returned (.bool b36_1) ∧ Br (!b36_1)
  (Does Tryz.prog 14 #[.float .f64 f29_1] w36_1 fun e40_1 w40_1 =>
  ∃ s40_1 : ByteArray, e40_1 = .returned (.string s40_1) ∧ Br (!(s40_1.toList == a0.toList))
  (R (.returned (.tuple #[.float .f64 0, .bool false])) w40_1)
  (R (.returned (.tuple #[.float .f64 f29_1, .bool true])) w40_1))
  (R (.returned (.tuple #[.float .f64 f29_1, .bool true])) w36_1))))))
def f13_ann : Ann := { loops := [], cuts := [], flip := [], throws := [] }
theorem f13_eq (a0 : ByteArray) (w : World) (R : Ending → World → Prop) : vc Tryz.prog f13_ann (bodyOf Tryz.f13) (retQ Tryz.prog Tryz.f13 R) (envOf Tryz.f13.ntmps [.v (.string a0)]) [] w = f13_vc a0 w R := by kernel_rfl
theorem f13_does (a0 : ByteArray) {w : World} {R : Ending → World → Prop} (h : f13_vc a0 w R) : Does Tryz.prog 13 #[.string a0] w R :=
  does_of_vc (ss := [.v (.string a0)]) f13_ann mixed call13 Tryz.func13 rfl rfl (show 1 ≤ Tryz.f13.ntmps by decide) ((f13_eq a0 w R).symm ▸ h)
/-- Of escritoire/real.Show (function 14): the condition. -/
def f14_vc (a0 : Nat) (w : World) (R : Ending → World → Prop) : Prop :=
  Br ((FloatKind.f64.format.order a0 a0 != some Ordering.eq))
  (R (.returned (.string (({ data := #[110, 97, 110] } : ByteArray)))) w)
  (Does Tryz.prog 29 #[.float .f64 a0, .int .i64 1] w fun e10 w10 =>
  ∃ b10 : Bool, e10 = .returned (.bool b10) ∧ Br b10
  (R (.returned (.string (({ data := #[105, 110, 102] } : ByteArray)))) w10)
  (Does Tryz.prog 29 #[.float .f64 a0, .int .i64 (-1)] w10 fun e13 w13 =>
  ∃ b13 : Bool, e13 = .returned (.bool b13) ∧ Br b13
  (R (.returned (.string (({ data := #[45, 105, 110, 102] } : ByteArray)))) w13)
  (Does Tryz.prog 30 #[.float .f64 a0] w13 fun e15 w15 =>
  ∃ b15 : Bool, e15 = .returned (.bool b15) ∧ Br b15
  (Br ((FloatKind.f64.format.order (Op.negFloat .f64 a0) 4831355200913801216 == some Ordering.lt))
  (Does Tryz.prog 31 #[.float .f64 (Op.negFloat .f64 a0)] w15 fun e23 w23 =>
  ∃ f23 : Nat, e23 = .returned (.float .f64 f23) ∧ Br ((FloatKind.f64.format.order (Op.negFloat .f64 a0) f23 == some Ordering.eq))
  (∃ n28 : Int, ∃ w28, (convert 23 2 (.float .f64 (Op.negFloat .f64 a0))).run Tryz.prog w23 = .ok (.int .i64 n28) w28 ∧ Does Tryz.prog 32 #[.int .i64 n28, .int .i64 10] w28 fun e29 w29 =>
  ∃ s29 : ByteArray, e29 = .returned (.string s29) ∧ (((({ data := #[45] } : ByteArray)).size + s29.size : Nat) : Int) ≤ 9223372036854775807 ∧ R (.returned (.string ((({ data := #[45] } : ByteArray)) ++ s29))) w29)
  (Does Tryz.prog 33 #[.float .f64 (Op.negFloat .f64 a0)] w23 fun e33 w33 =>
  ∃ s33 : ByteArray, e33 = .returned (.string s33) ∧ (((({ data := #[45] } : ByteArray)).size + s33.size : Nat) : Int) ≤ 9223372036854775807 ∧ R (.returned (.string ((({ data := #[45] } : ByteArray)) ++ s33))) w33))
  (Does Tryz.prog 33 #[.float .f64 (Op.negFloat .f64 a0)] w15 fun e33_1 w33_1 =>
  ∃ s33_1 : ByteArray, e33_1 = .returned (.string s33_1) ∧ (((({ data := #[45] } : ByteArray)).size + s33_1.size : Nat) : Int) ≤ 9223372036854775807 ∧ R (.returned (.string ((({ data := #[45] } : ByteArray)) ++ s33_1))) w33_1))
  (Br ((FloatKind.f64.format.order a0 4831355200913801216 == some Ordering.lt))
  (Does Tryz.prog 31 #[.float .f64 a0] w15 fun e23_1 w23_1 =>
  ∃ f23_1 : Nat, e23_1 = .returned (.float .f64 f23_1) ∧ Br ((FloatKind.f64.format.order a0 f23_1 == some Ordering.eq))
  (∃ n28_1 : Int, ∃ w28_1, (convert 23 2 (.float .f64 a0)).run Tryz.prog w23_1 = .ok (.int .i64 n28_1) w28_1 ∧ Does Tryz.prog 32 #[.int .i64 n28_1, .int .i64 10] w28_1 fun e29_1 w29_1 =>
  ∃ s29_1 : ByteArray, e29_1 = .returned (.string s29_1) ∧ (((({ data := #[] } : ByteArray)).size + s29_1.size : Nat) : Int) ≤ 9223372036854775807 ∧ R (.returned (.string ((({ data := #[] } : ByteArray)) ++ s29_1))) w29_1)
  (Does Tryz.prog 33 #[.float .f64 a0] w23_1 fun e33_2 w33_2 =>
  ∃ s33_2 : ByteArray, e33_2 = .returned (.string s33_2) ∧ (((({ data := #[] } : ByteArray)).size + s33_2.size : Nat) : Int) ≤ 9223372036854775807 ∧ R (.returned (.string ((({ data := #[] } : ByteArray)) ++ s33_2))) w33_2))
  (Does Tryz.prog 33 #[.float .f64 a0] w15 fun e33_3 w33_3 =>
  ∃ s33_3 : ByteArray, e33_3 = .returned (.string s33_3) ∧ (((({ data := #[] } : ByteArray)).size + s33_3.size : Nat) : Int) ≤ 9223372036854775807 ∧ R (.returned (.string ((({ data := #[] } : ByteArray)) ++ s33_3))) w33_3)))))
def f14_ann : Ann := { loops := [], cuts := [], flip := [], throws := [] }
theorem f14_eq (a0 : Nat) (w : World) (R : Ending → World → Prop) : vc Tryz.prog f14_ann (bodyOf Tryz.f14) (retQ Tryz.prog Tryz.f14 R) (envOf Tryz.f14.ntmps [.v (.float .f64 a0)]) [] w = f14_vc a0 w R := by kernel_rfl
theorem f14_does (a0 : Nat) {w : World} {R : Ending → World → Prop} (h : f14_vc a0 w R) : Does Tryz.prog 14 #[.float .f64 a0] w R :=
  does_of_vc (ss := [.v (.float .f64 a0)]) f14_ann mixed call14 Tryz.func14 rfl rfl (show 1 ≤ Tryz.f14.ntmps by decide) ((f14_eq a0 w R).symm ▸ h)
/-- Of escritoire/escritoireref3.Eval (function 15): the condition. -/
def f15_vc (a0 : ByteArray) (w : World) (R : Ending → World → Prop) : Prop :=
  Br (decide (((a0.size : Int)) > 4096))
  (R (.returned (.tuple #[.float .f64 0, .int .i64 3])) w)
  (Does Tryz.prog 34 #[.string a0] w fun e10 w10 =>
  ∃ b10 : Bool, e10 = .returned (.bool b10) ∧ Br (!b10)
  (R (.returned (.tuple #[.float .f64 0, .int .i64 11])) w10)
  (∀ b14 w14, NewBlk w10 b14 [.string a0, .int .i64 0, .int .i64 0, .int .i64 0] 58 w14 →
  Does Tryz.prog 35 #[.pointer (some ⟨b14, 0, none⟩)] w14 fun e16 w16 =>
  ∃ f16 : Nat, e16 = .returned (.float .f64 f16) ∧ ∃ n20 : Int, w16.cell? ⟨b14, 3, none⟩ = some (.int .i64 n20) ∧ Br (n20 != 0)
  (∀ wd8, Drew w16 wd8 →
  ∃ n25 : Int, wd8.cell? ⟨b14, 3, none⟩ = some (.int .i64 n25) ∧ R (.returned (.tuple #[.float .f64 0, .int .i64 n25])) wd8)
  (R (.returned (.tuple #[.float .f64 f16, .int .i64 0])) w16)))
def f15_ann : Ann := { loops := [], cuts := [], flip := [], throws := [] }
theorem f15_eq (a0 : ByteArray) (w : World) (R : Ending → World → Prop) : vc Tryz.prog f15_ann (bodyOf Tryz.f15) (retQ Tryz.prog Tryz.f15 R) (envOf Tryz.f15.ntmps [.v (.string a0)]) [] w = f15_vc a0 w R := by kernel_rfl
theorem f15_does (a0 : ByteArray) {w : World} {R : Ending → World → Prop} (h : f15_vc a0 w R) : Does Tryz.prog 15 #[.string a0] w R :=
  does_of_vc (ss := [.v (.string a0)]) f15_ann mixed call15 Tryz.func15 rfl rfl (show 1 ≤ Tryz.f15.ntmps by decide) ((f15_eq a0 w R).symm ▸ h)
/-- Of escritoire/escritoireref3.Bits (function 16): the condition. -/
def f16_vc (a0 : Nat) (w : World) (R : Ending → World → Prop) : Prop :=
  Br ((FloatKind.f64.format.order a0 a0 != some Ordering.eq))
  (R (.returned (.int .u64 9221120237041090561)) w)
  (Does Tryz.prog 22 #[.float .f64 a0] w fun e7 w7 =>
  ∃ n7 : Int, e7 = .returned (.int .u64 n7) ∧ R (.returned (.int .u64 n7)) w7)
def f16_ann : Ann := { loops := [], cuts := [], flip := [], throws := [] }
theorem f16_eq (a0 : Nat) (w : World) (R : Ending → World → Prop) : vc Tryz.prog f16_ann (bodyOf Tryz.f16) (retQ Tryz.prog Tryz.f16 R) (envOf Tryz.f16.ntmps [.v (.float .f64 a0)]) [] w = f16_vc a0 w R := by kernel_rfl
theorem f16_does (a0 : Nat) {w : World} {R : Ending → World → Prop} (h : f16_vc a0 w R) : Does Tryz.prog 16 #[.float .f64 a0] w R :=
  does_of_vc (ss := [.v (.float .f64 a0)]) f16_ann mixed call16 Tryz.func16 rfl rfl (show 1 ≤ Tryz.f16.ntmps by decide) ((f16_eq a0 w R).symm ▸ h)
/-- Of (*escritoire/calc.reader).read (function 17): the condition. -/
def f17_vc (a0 : Option Addr) (w : World) (R : Ending → World → Prop) : Prop :=
  ∀ b2 w2, NewBlk w b2 [.float .f64 0] 23 w2 →
  ∀ b3 w3, NewBlk w2 b3 [.bool false] 4 w3 →
  Does Tryz.prog 37 #[.pointer a0] w3 fun e6 w6 =>
  (∃ f6 : Nat, e6 = .returned (.float .f64 f6) ∧ CanStore w6 b2 0 ∧ ∀ ws, Stored w6 b2 0 (.float .f64 f6) ws →
  Does Tryz.prog 38 #[.pointer a0] ws fun e8 w8 =>
  e8 = .returned (.tuple #[]) ∧ ∀ wd4, Drew w8 wd4 →
  ∃ S4 : World → Prop, S4 wd4 ∧ ∃ f9 : Nat, (∀ w, S4 w → w.cell? ⟨b2, 0, none⟩ = some (.float .f64 f9)) ∧ ∃ b11 o11, a0 = some ⟨b11, o11, none⟩ ∧ ∃ n13 : Int, (∀ w, S4 w → w.cell? ⟨b11, o11 + 1, none⟩ = some (.int .i64 n13)) ∧ ∃ b15 o15, a0 = some ⟨b15, o15, none⟩ ∧ ∃ s17 : ByteArray, (∀ w, S4 w → w.cell? ⟨b15, o15, none⟩ = some (.string s17)) ∧ CanStore wd4 b2 0 ∧ ∀ ws_1, Stored wd4 b2 0 (.float .f64 f9) ws_1 →
  S4 ws_1 ∧ CanStore ws_1 b3 0 ∧ ∀ ws_2, Stored ws_1 b3 0 (.bool (n13 == ((s17.size : Int)))) ws_2 →
  LeavesV (fun wk => ∃ f2 : Nat, wk.cell? ⟨b2, 0, none⟩ = some (.float .f64 f2) ∧ ∃ b3_1 : Bool, wk.cell? ⟨b3, 0, none⟩ = some (.bool b3_1) ∧ R (.returned (.tuple #[.float .f64 f2, .bool b3_1])) wk) (fun chk wp => R (.panicked chk) wp) Tryz.prog ({ target := .fn (.func 36) #[.pointer (some ⟨b2, 0, none⟩), .pointer (some ⟨b3, 0, none⟩)], args := #[] } :: []) (.returning) ws_2) ∨ (∃ ch6, e6 = .panicked ch6 ∧ LeavesV (fun wk_1 => ∃ f2_1 : Nat, wk_1.cell? ⟨b2, 0, none⟩ = some (.float .f64 f2_1) ∧ ∃ b3_2 : Bool, wk_1.cell? ⟨b3, 0, none⟩ = some (.bool b3_2) ∧ R (.returned (.tuple #[.float .f64 f2_1, .bool b3_2])) wk_1) (fun chk_1 wp_1 => R (.panicked chk_1) wp_1) Tryz.prog ({ target := .fn (.func 36) #[.pointer (some ⟨b2, 0, none⟩), .pointer (some ⟨b3, 0, none⟩)], args := #[] } :: []) (.panicking ch6) w6)
def f17_ann : Ann := { loops := [], cuts := [], flip := [], throws := [37] }
theorem f17_eq (a0 : Option Addr) (w : World) (R : Ending → World → Prop) : vc Tryz.prog f17_ann (bodyOf Tryz.f17) (retQ Tryz.prog Tryz.f17 R) (envOf Tryz.f17.ntmps [.v (.pointer a0)]) [] w = f17_vc a0 w R := by kernel_rfl
theorem f17_does (a0 : Option Addr) {w : World} {R : Ending → World → Prop} (h : f17_vc a0 w R) : Does Tryz.prog 17 #[.pointer a0] w R :=
  does_of_vc (ss := [.v (.pointer a0)]) f17_ann mixed call17 Tryz.func17 rfl rfl (show 1 ≤ Tryz.f17.ntmps by decide) ((f17_eq a0 w R).symm ▸ h)
/-- Of cmp.Compare[int] (function 18): the condition. -/
def f18_vc (a0 : Int) (a1 : Int) (w : World) (R : Ending → World → Prop) : Prop :=
  Does Tryz.prog 39 #[.int .i64 a0] w fun e8 w8 =>
  ∃ b8 : Bool, e8 = .returned (.bool b8) ∧ Does Tryz.prog 39 #[.int .i64 a1] w8 fun e10 w10 =>
  ∃ b10 : Bool, e10 = .returned (.bool b10) ∧ Br b8
  (Br b10
  (R (.returned (.int .i64 0)) w10)
  (R (.returned (.int .i64 (-1))) w10))
  (Br b10
  (R (.returned (.int .i64 1)) w10)
  (Br (decide (a0 < a1))
  (R (.returned (.int .i64 (-1))) w10)
  (Br (decide (a0 > a1))
  (R (.returned (.int .i64 1)) w10)
  (R (.returned (.int .i64 0)) w10))))
def f18_ann : Ann := { loops := [], cuts := [], flip := [], throws := [] }
theorem f18_eq (a0 : Int) (a1 : Int) (w : World) (R : Ending → World → Prop) : vc Tryz.prog f18_ann (bodyOf Tryz.f18) (retQ Tryz.prog Tryz.f18 R) (envOf Tryz.f18.ntmps [.v (.int .i64 a0), .v (.int .i64 a1)]) [] w = f18_vc a0 a1 w R := by kernel_rfl
theorem f18_does (a0 : Int) (a1 : Int) {w : World} {R : Ending → World → Prop} (h : f18_vc a0 a1 w R) : Does Tryz.prog 18 #[.int .i64 a0, .int .i64 a1] w R :=
  does_of_vc (ss := [.v (.int .i64 a0), .v (.int .i64 a1)]) f18_ann mixed call18 Tryz.func18 rfl rfl (show 2 ≤ Tryz.f18.ntmps by decide) ((f18_eq a0 a1 w R).symm ▸ h)
/-- Of escritoire/real.odd (function 19): the condition. -/
def f19_vc (a0 : Nat) (w : World) (R : Ending → World → Prop) : Prop :=
  Br ((FloatKind.f64.format.order a0 a0 != some Ordering.eq))
  (R (.returned (.int .i64 1)) w)
  (R (.returned (.int .i64 0)) w)
def f19_ann : Ann := { loops := [], cuts := [], flip := [], throws := [] }
theorem f19_eq (a0 : Nat) (w : World) (R : Ending → World → Prop) : vc Tryz.prog f19_ann (bodyOf Tryz.f19) (retQ Tryz.prog Tryz.f19 R) (envOf Tryz.f19.ntmps [.v (.float .f64 a0)]) [] w = f19_vc a0 w R := by kernel_rfl
theorem f19_does (a0 : Nat) {w : World} {R : Ending → World → Prop} (h : f19_vc a0 w R) : Does Tryz.prog 19 #[.float .f64 a0] w R :=
  does_of_vc (ss := [.v (.float .f64 a0)]) f19_ann mixed call19 Tryz.func19 rfl rfl (show 1 ≤ Tryz.f19.ntmps by decide) ((f19_eq a0 w R).symm ▸ h)
/-- Of escritoire/real.sign (function 20): the condition. -/
def f20_vc (a0 : Nat) (w : World) (R : Ending → World → Prop) : Prop :=
  Does Tryz.prog 30 #[.float .f64 a0] w fun e4 w4 =>
  ∃ b4 : Bool, e4 = .returned (.bool b4) ∧ Br b4
  (R (.returned (.int .i64 1)) w4)
  (R (.returned (.int .i64 0)) w4)
def f20_ann : Ann := { loops := [], cuts := [], flip := [], throws := [] }
theorem f20_eq (a0 : Nat) (w : World) (R : Ending → World → Prop) : vc Tryz.prog f20_ann (bodyOf Tryz.f20) (retQ Tryz.prog Tryz.f20 R) (envOf Tryz.f20.ntmps [.v (.float .f64 a0)]) [] w = f20_vc a0 w R := by kernel_rfl
theorem f20_does (a0 : Nat) {w : World} {R : Ending → World → Prop} (h : f20_vc a0 w R) : Does Tryz.prog 20 #[.float .f64 a0] w R :=
  does_of_vc (ss := [.v (.float .f64 a0)]) f20_ann mixed call20 Tryz.func20 rfl rfl (show 1 ≤ Tryz.f20.ntmps by decide) ((f20_eq a0 w R).symm ▸ h)
/-- Of cmp.Compare[float64] (function 21): the condition. -/
def f21_vc (a0 : Nat) (a1 : Nat) (w : World) (R : Ending → World → Prop) : Prop :=
  Does Tryz.prog 40 #[.float .f64 a0] w fun e8 w8 =>
  ∃ b8 : Bool, e8 = .returned (.bool b8) ∧ Does Tryz.prog 40 #[.float .f64 a1] w8 fun e10 w10 =>
  ∃ b10 : Bool, e10 = .returned (.bool b10) ∧ Br b8
  (Br b10
  (R (.returned (.int .i64 0)) w10)
  (R (.returned (.int .i64 (-1))) w10))
  (Br b10
  (R (.returned (.int .i64 1)) w10)
  (Br ((FloatKind.f64.format.order a0 a1 == some Ordering.lt))
  (R (.returned (.int .i64 (-1))) w10)
  (Br ((FloatKind.f64.format.order a0 a1 == some Ordering.gt))
  (R (.returned (.int .i64 1)) w10)
  (R (.returned (.int .i64 0)) w10))))
def f21_ann : Ann := { loops := [], cuts := [], flip := [], throws := [] }
theorem f21_eq (a0 : Nat) (a1 : Nat) (w : World) (R : Ending → World → Prop) : vc Tryz.prog f21_ann (bodyOf Tryz.f21) (retQ Tryz.prog Tryz.f21 R) (envOf Tryz.f21.ntmps [.v (.float .f64 a0), .v (.float .f64 a1)]) [] w = f21_vc a0 a1 w R := by kernel_rfl
theorem f21_does (a0 : Nat) (a1 : Nat) {w : World} {R : Ending → World → Prop} (h : f21_vc a0 a1 w R) : Does Tryz.prog 21 #[.float .f64 a0, .float .f64 a1] w R :=
  does_of_vc (ss := [.v (.float .f64 a0), .v (.float .f64 a1)]) f21_ann mixed call21 Tryz.func21 rfl rfl (show 2 ≤ Tryz.f21.ntmps by decide) ((f21_eq a0 a1 w R).symm ▸ h)
/-- Of math.NaN (function 23): the condition. -/
def f23_vc  (w : World) (R : Ending → World → Prop) : Prop :=
  Does Tryz.prog 41 #[.int .u64 9221120237041090561] w fun e1 w1 =>
  ∃ f1 : Nat, e1 = .returned (.float .f64 f1) ∧ R (.returned (.float .f64 f1)) w1
def f23_ann : Ann := { loops := [], cuts := [], flip := [], throws := [] }
theorem f23_eq  (w : World) (R : Ending → World → Prop) : vc Tryz.prog f23_ann (bodyOf Tryz.f23) (retQ Tryz.prog Tryz.f23 R) (envOf Tryz.f23.ntmps []) [] w = f23_vc  w R := by kernel_rfl
theorem f23_does  {w : World} {R : Ending → World → Prop} (h : f23_vc  w R) : Does Tryz.prog 23 #[] w R :=
  does_of_vc (ss := []) f23_ann mixed call23 Tryz.func23 rfl rfl (show 0 ≤ Tryz.f23.ntmps by decide) ((f23_eq  w R).symm ▸ h)
/-- Of math.Inf (function 24): the condition. -/
def f24_vc (a0 : Int) (w : World) (R : Ending → World → Prop) : Prop :=
  Br (decide (a0 ≥ 0))
  (Does Tryz.prog 41 #[.int .u64 9218868437227405312] w fun e7 w7 =>
  ∃ f7 : Nat, e7 = .returned (.float .f64 f7) ∧ R (.returned (.float .f64 f7)) w7)
  (Does Tryz.prog 41 #[.int .u64 18442240474082181120] w fun e7_1 w7_1 =>
  ∃ f7_1 : Nat, e7_1 = .returned (.float .f64 f7_1) ∧ R (.returned (.float .f64 f7_1)) w7_1)
def f24_ann : Ann := { loops := [], cuts := [], flip := [], throws := [] }
theorem f24_eq (a0 : Int) (w : World) (R : Ending → World → Prop) : vc Tryz.prog f24_ann (bodyOf Tryz.f24) (retQ Tryz.prog Tryz.f24 R) (envOf Tryz.f24.ntmps [.v (.int .i64 a0)]) [] w = f24_vc a0 w R := by kernel_rfl
theorem f24_does (a0 : Int) {w : World} {R : Ending → World → Prop} (h : f24_vc a0 w R) : Does Tryz.prog 24 #[.int .i64 a0] w R :=
  does_of_vc (ss := [.v (.int .i64 a0)]) f24_ann mixed call24 Tryz.func24 rfl rfl (show 1 ≤ Tryz.f24.ntmps by decide) ((f24_eq a0 w R).symm ▸ h)
/-- Of strings.TrimPrefix (function 25): the condition. -/
def f25_vc (a0 : ByteArray) (a1 : ByteArray) (w : World) (R : Ending → World → Prop) : Prop :=
  Does Tryz.prog 42 #[.string a0, .string a1] w fun e7 w7 =>
  ∃ s7 : ByteArray, e7 = .returned (.string s7) ∧ R (.returned (.string s7)) w7
def f25_ann : Ann := { loops := [], cuts := [], flip := [], throws := [] }
theorem f25_eq (a0 : ByteArray) (a1 : ByteArray) (w : World) (R : Ending → World → Prop) : vc Tryz.prog f25_ann (bodyOf Tryz.f25) (retQ Tryz.prog Tryz.f25 R) (envOf Tryz.f25.ntmps [.v (.string a0), .v (.string a1)]) [] w = f25_vc a0 a1 w R := by kernel_rfl
theorem f25_does (a0 : ByteArray) (a1 : ByteArray) {w : World} {R : Ending → World → Prop} (h : f25_vc a0 a1 w R) : Does Tryz.prog 25 #[.string a0, .string a1] w R :=
  does_of_vc (ss := [.v (.string a0), .v (.string a1)]) f25_ann mixed call25 Tryz.func25 rfl rfl (show 2 ≤ Tryz.f25.ntmps by decide) ((f25_eq a0 a1 w R).symm ▸ h)
/-- Of escritoire/real.decimal (function 26): the condition. -/
def f26_vc (a0 : ByteArray) (w : World) (R : Ending → World → Prop) : Prop :=
  Does Tryz.prog 43 #[.string a0, .string (({ data := #[46] } : ByteArray))] w fun e8 w8 =>
  ∃ s8 : ByteArray, ∃ s8_1 : ByteArray, ∃ b8 : Bool, e8 = .returned (.tuple #[.string s8, .string s8_1, .bool b8]) ∧ Does Tryz.prog 44 #[.string s8] w8 fun e13 w13 =>
  ∃ b13 : Bool, e13 = .returned (.bool b13) ∧ Br (!b13)
  (R (.returned (.bool false)) w13)
  (Br (decide (((s8.size : Int)) > 1))
  (((0 : Int) ≤ 0 ∧ 0 < (s8.size : Int)) ∧ Br ((sb s8 0) == 48)
  (R (.returned (.bool false)) w13)
  (Br b8
  (Does Tryz.prog 44 #[.string s8_1] w13 fun e29 w29 =>
  ∃ b29 : Bool, e29 = .returned (.bool b29) ∧ Br (!b29)
  (R (.returned (.bool false)) w29)
  (InK .i64 (((s8.size : Int)) + ((s8_1.size : Int))) ∧ R (.returned (.bool (decide ((((s8.size : Int)) + ((s8_1.size : Int))) ≤ 15)))) w29))
  (InK .i64 (((s8.size : Int)) + ((s8_1.size : Int))) ∧ R (.returned (.bool (decide ((((s8.size : Int)) + ((s8_1.size : Int))) ≤ 15)))) w13)))
  (Br b8
  (Does Tryz.prog 44 #[.string s8_1] w13 fun e29_1 w29_1 =>
  ∃ b29_1 : Bool, e29_1 = .returned (.bool b29_1) ∧ Br (!b29_1)
  (R (.returned (.bool false)) w29_1)
  (InK .i64 (((s8.size : Int)) + ((s8_1.size : Int))) ∧ R (.returned (.bool (decide ((((s8.size : Int)) + ((s8_1.size : Int))) ≤ 15)))) w29_1))
  (InK .i64 (((s8.size : Int)) + ((s8_1.size : Int))) ∧ R (.returned (.bool (decide ((((s8.size : Int)) + ((s8_1.size : Int))) ≤ 15)))) w13)))
def f26_ann : Ann := { loops := [], cuts := [], flip := [], throws := [] }
theorem f26_eq (a0 : ByteArray) (w : World) (R : Ending → World → Prop) : vc Tryz.prog f26_ann (bodyOf Tryz.f26) (retQ Tryz.prog Tryz.f26 R) (envOf Tryz.f26.ntmps [.v (.string a0)]) [] w = f26_vc a0 w R := by kernel_rfl
theorem f26_does (a0 : ByteArray) {w : World} {R : Ending → World → Prop} (h : f26_vc a0 w R) : Does Tryz.prog 26 #[.string a0] w R :=
  does_of_vc (ss := [.v (.string a0)]) f26_ann mixed call26 Tryz.func26 rfl rfl (show 1 ≤ Tryz.f26.ntmps by decide) ((f26_eq a0 w R).symm ▸ h)
/-- Of strings.HasPrefix (function 27): the condition. -/
def f27_vc (a0 : ByteArray) (a1 : ByteArray) (w : World) (R : Ending → World → Prop) : Prop :=
  Does Tryz.prog 45 #[.string a0, .string a1] w fun e7 w7 =>
  ∃ b7 : Bool, e7 = .returned (.bool b7) ∧ R (.returned (.bool b7)) w7
def f27_ann : Ann := { loops := [], cuts := [], flip := [], throws := [] }
theorem f27_eq (a0 : ByteArray) (a1 : ByteArray) (w : World) (R : Ending → World → Prop) : vc Tryz.prog f27_ann (bodyOf Tryz.f27) (retQ Tryz.prog Tryz.f27 R) (envOf Tryz.f27.ntmps [.v (.string a0), .v (.string a1)]) [] w = f27_vc a0 a1 w R := by kernel_rfl
theorem f27_does (a0 : ByteArray) (a1 : ByteArray) {w : World} {R : Ending → World → Prop} (h : f27_vc a0 a1 w R) : Does Tryz.prog 27 #[.string a0, .string a1] w R :=
  does_of_vc (ss := [.v (.string a0), .v (.string a1)]) f27_ann mixed call27 Tryz.func27 rfl rfl (show 2 ≤ Tryz.f27.ntmps by decide) ((f27_eq a0 a1 w R).symm ▸ h)
/-- Of strconv.ParseFloat (function 28): the condition. -/
def f28_vc (a0 : ByteArray) (a1 : Int) (w : World) (R : Ending → World → Prop) : Prop :=
  Does Tryz.prog 46 #[.string a0, .int .i64 a1] w fun e11 w11 =>
  ∃ f11 : Nat, ∃ x11 : Value, e11 = .returned (.tuple #[.float .f64 f11, x11]) ∧ ∃ b15 : Bool, IfNil x11 b15 ∧ Br (!b15)
  (Does Tryz.prog 47 #[.string (({ data := #[80, 97, 114, 115, 101, 70, 108, 111, 97, 116] } : ByteArray)), .string a0, .int .i64 0, .int .i64 a1, x11] w11 fun e20 w20 =>
  ∃ x20 : Value, e20 = .returned (x20) ∧ R (.returned (.tuple #[.float .f64 f11, x20])) w20)
  (R (.returned (.tuple #[.float .f64 f11, .nilIface])) w11)
def f28_ann : Ann := { loops := [], cuts := [], flip := [], throws := [] }
theorem f28_eq (a0 : ByteArray) (a1 : Int) (w : World) (R : Ending → World → Prop) : vc Tryz.prog f28_ann (bodyOf Tryz.f28) (retQ Tryz.prog Tryz.f28 R) (envOf Tryz.f28.ntmps [.v (.string a0), .v (.int .i64 a1)]) [] w = f28_vc a0 a1 w R := by kernel_rfl
theorem f28_does (a0 : ByteArray) (a1 : Int) {w : World} {R : Ending → World → Prop} (h : f28_vc a0 a1 w R) : Does Tryz.prog 28 #[.string a0, .int .i64 a1] w R :=
  does_of_vc (ss := [.v (.string a0), .v (.int .i64 a1)]) f28_ann mixed call28 Tryz.func28 rfl rfl (show 2 ≤ Tryz.f28.ntmps by decide) ((f28_eq a0 a1 w R).symm ▸ h)
/-- Of math.IsInf (function 29): the condition. -/
def f29_vc (a0 : Nat) (a1 : Int) (w : World) (R : Ending → World → Prop) : Prop :=
  Br (a1 == 0)
  (Does Tryz.prog 48 #[.float .f64 a0] w fun e8 w8 =>
  ∃ f8 : Nat, e8 = .returned (.float .f64 f8) ∧ R (.returned (.bool ((FloatKind.f64.format.order f8 9218868437227405311 == some Ordering.gt)))) w8)
  (Br (decide (a1 < 0))
  (R (.returned (.bool ((FloatKind.f64.format.order (Op.negFloat .f64 a0) 9218868437227405311 == some Ordering.gt)))) w)
  (R (.returned (.bool ((FloatKind.f64.format.order a0 9218868437227405311 == some Ordering.gt)))) w))
def f29_ann : Ann := { loops := [], cuts := [], flip := [], throws := [] }
theorem f29_eq (a0 : Nat) (a1 : Int) (w : World) (R : Ending → World → Prop) : vc Tryz.prog f29_ann (bodyOf Tryz.f29) (retQ Tryz.prog Tryz.f29 R) (envOf Tryz.f29.ntmps [.v (.float .f64 a0), .v (.int .i64 a1)]) [] w = f29_vc a0 a1 w R := by kernel_rfl
theorem f29_does (a0 : Nat) (a1 : Int) {w : World} {R : Ending → World → Prop} (h : f29_vc a0 a1 w R) : Does Tryz.prog 29 #[.float .f64 a0, .int .i64 a1] w R :=
  does_of_vc (ss := [.v (.float .f64 a0), .v (.int .i64 a1)]) f29_ann mixed call29 Tryz.func29 rfl rfl (show 2 ≤ Tryz.f29.ntmps by decide) ((f29_eq a0 a1 w R).symm ▸ h)
/-- Of math.Signbit (function 30): the condition. -/
def f30_vc (a0 : Nat) (w : World) (R : Ending → World → Prop) : Prop :=
  Does Tryz.prog 22 #[.float .f64 a0] w fun e4 w4 =>
  ∃ n4 : Int, e4 = .returned (.int .u64 n4) ∧ R (.returned (.bool (decide ((IntKind.wrap .i64 (n4)) < 0)))) w4
def f30_ann : Ann := { loops := [], cuts := [], flip := [5], throws := [] }
theorem f30_eq (a0 : Nat) (w : World) (R : Ending → World → Prop) : vc Tryz.prog f30_ann (bodyOf Tryz.f30) (retQ Tryz.prog Tryz.f30 R) (envOf Tryz.f30.ntmps [.v (.float .f64 a0)]) [] w = f30_vc a0 w R := by kernel_rfl
theorem f30_does (a0 : Nat) {w : World} {R : Ending → World → Prop} (h : f30_vc a0 w R) : Does Tryz.prog 30 #[.float .f64 a0] w R :=
  does_of_vc (ss := [.v (.float .f64 a0)]) f30_ann mixed call30 Tryz.func30 rfl rfl (show 1 ≤ Tryz.f30.ntmps by decide) ((f30_eq a0 w R).symm ▸ h)
/-- Of math.Trunc (function 31): the condition. -/
def f31_vc (a0 : Nat) (w : World) (R : Ending → World → Prop) : Prop :=
  Does Tryz.prog 49 #[.float .f64 a0] w fun e4 w4 =>
  ∃ f4 : Nat, e4 = .returned (.float .f64 f4) ∧ R (.returned (.float .f64 f4)) w4
def f31_ann : Ann := { loops := [], cuts := [], flip := [], throws := [] }
theorem f31_eq (a0 : Nat) (w : World) (R : Ending → World → Prop) : vc Tryz.prog f31_ann (bodyOf Tryz.f31) (retQ Tryz.prog Tryz.f31 R) (envOf Tryz.f31.ntmps [.v (.float .f64 a0)]) [] w = f31_vc a0 w R := by kernel_rfl
theorem f31_does (a0 : Nat) {w : World} {R : Ending → World → Prop} (h : f31_vc a0 w R) : Does Tryz.prog 31 #[.float .f64 a0] w R :=
  does_of_vc (ss := [.v (.float .f64 a0)]) f31_ann mixed call31 Tryz.func31 rfl rfl (show 1 ≤ Tryz.f31.ntmps by decide) ((f31_eq a0 w R).symm ▸ h)
/-- Of strconv.FormatInt (function 32): the condition. -/
def f32_vc (a0 : Int) (a1 : Int) (w : World) (R : Ending → World → Prop) : Prop :=
  Does Tryz.prog 51 #[.int .i64 a0, .int .i64 a1] w fun e7 w7 =>
  ∃ s7 : ByteArray, e7 = .returned (.string s7) ∧ R (.returned (.string s7)) w7
def f32_ann : Ann := { loops := [], cuts := [], flip := [], throws := [] }
theorem f32_eq (a0 : Int) (a1 : Int) (w : World) (R : Ending → World → Prop) : vc Tryz.prog f32_ann (bodyOf Tryz.f32) (retQ Tryz.prog Tryz.f32 R) (envOf Tryz.f32.ntmps [.v (.int .i64 a0), .v (.int .i64 a1)]) [] w = f32_vc a0 a1 w R := by kernel_rfl
theorem f32_does (a0 : Int) (a1 : Int) {w : World} {R : Ending → World → Prop} (h : f32_vc a0 a1 w R) : Does Tryz.prog 32 #[.int .i64 a0, .int .i64 a1] w R :=
  does_of_vc (ss := [.v (.int .i64 a0), .v (.int .i64 a1)]) f32_ann mixed call32 Tryz.func32 rfl rfl (show 2 ≤ Tryz.f32.ntmps by decide) ((f32_eq a0 a1 w R).symm ▸ h)
/-- Of escritoire/escritoireref3.shape (function 34): the condition. -/
def f34_vc (a0 : ByteArray) (w : World) (R : Ending → World → Prop) : Prop :=
  ∀ b6 w6, NewBlk w b6 [.string a0, .int .i64 0, .int .i64 (-1099511627776), .int .i64 0] 58 w6 →
  Does Tryz.prog 35 #[.pointer (some ⟨b6, 0, none⟩)] w6 fun e8 w8 =>
  ∃ f8 : Nat, e8 = .returned (.float .f64 f8) ∧ Does Tryz.prog 57 #[.pointer (some ⟨b6, 0, none⟩)] w8 fun e10 w10 =>
  e10 = .returned (.tuple #[]) ∧ ∃ n14 : Int, w10.cell? ⟨b6, 3, none⟩ = some (.int .i64 n14) ∧ Br (n14 == 0)
  (∃ n20 : Int, w10.cell? ⟨b6, 1, none⟩ = some (.int .i64 n20) ∧ R (.returned (.bool (n20 == ((a0.size : Int))))) w10)
  (R (.returned (.bool false)) w10)
def f34_ann : Ann := { loops := [], cuts := [], flip := [], throws := [] }
theorem f34_eq (a0 : ByteArray) (w : World) (R : Ending → World → Prop) : vc Tryz.prog f34_ann (bodyOf Tryz.f34) (retQ Tryz.prog Tryz.f34 R) (envOf Tryz.f34.ntmps [.v (.string a0)]) [] w = f34_vc a0 w R := by kernel_rfl
theorem f34_does (a0 : ByteArray) {w : World} {R : Ending → World → Prop} (h : f34_vc a0 w R) : Does Tryz.prog 34 #[.string a0] w R :=
  does_of_vc (ss := [.v (.string a0)]) f34_ann mixed call34 Tryz.func34 rfl rfl (show 1 ≤ Tryz.f34.ntmps by decide) ((f34_eq a0 w R).symm ▸ h)
/-- Of (*escritoire/escritoireref3.reader).sum (function 35): the condition. -/
def f35_vc (a0 : Option Addr) (w : World) (R : Ending → World → Prop) : Prop :=
  Does Tryz.prog 58 #[.pointer a0] w fun e5 w5 =>
  ∃ f5 : Nat, e5 = .returned (.float .f64 f5) ∧ ∃ I2 : Nat → Nat → World → Prop, (∃ nl2, I2 f5 nl2 w5) ∧ ∀ f3 : Nat, ∀ (nl2 : Nat) (wl2 : World), I2 f3 nl2 wl2 →
  ∃ b7 o7, a0 = some ⟨b7, o7, none⟩ ∧ ∃ n9 : Int, wl2.cell? ⟨b7, o7 + 3, none⟩ = some (.int .i64 n9) ∧ Br (n9 == 0)
  (Does Tryz.prog 59 #[.pointer a0, .string (({ data := #[43] } : ByteArray))] wl2 fun e14 w14 =>
  ∃ b14 : Bool, e14 = .returned (.bool b14) ∧ Br b14
  (Does Tryz.prog 58 #[.pointer a0] w14 fun e17 w17 =>
  ∃ f17 : Nat, e17 = .returned (.float .f64 f17) ∧ ∃ f18 : Nat, ∃ w18, (binOp .add 23 (.float .f64 f3) (.float .f64 f17)).run Tryz.prog w17 = .ok (.float .f64 f18) w18 ∧ ∃ ml2, ml2 < nl2 ∧ I2 f18 ml2 w18)
  (Does Tryz.prog 59 #[.pointer a0, .string (({ data := #[45] } : ByteArray))] w14 fun e21 w21 =>
  ∃ b21 : Bool, e21 = .returned (.bool b21) ∧ Br b21
  (Does Tryz.prog 58 #[.pointer a0] w21 fun e24 w24 =>
  ∃ f24 : Nat, e24 = .returned (.float .f64 f24) ∧ ∃ f25 : Nat, ∃ w25, (binOp .sub 23 (.float .f64 f3) (.float .f64 f24)).run Tryz.prog w24 = .ok (.float .f64 f25) w25 ∧ ∃ ml2, ml2 < nl2 ∧ I2 f25 ml2 w25)
  (R (.returned (.float .f64 f3)) w21)))
  (R (.returned (.float .f64 0)) wl2)
def f35_ann : Ann := { loops := [(2, [(3, .flt .f64)])], cuts := [], flip := [], throws := [] }
theorem f35_eq (a0 : Option Addr) (w : World) (R : Ending → World → Prop) : vc Tryz.prog f35_ann (bodyOf Tryz.f35) (retQ Tryz.prog Tryz.f35 R) (envOf Tryz.f35.ntmps [.v (.pointer a0)]) [] w = f35_vc a0 w R := by kernel_rfl
theorem f35_does (a0 : Option Addr) {w : World} {R : Ending → World → Prop} (h : f35_vc a0 w R) : Does Tryz.prog 35 #[.pointer a0] w R :=
  does_of_vc (ss := [.v (.pointer a0)]) f35_ann mixed call35 Tryz.func35 rfl rfl (show 1 ≤ Tryz.f35.ntmps by decide) ((f35_eq a0 w R).symm ▸ h)
/-- Of (*escritoire/calc.reader).expression (function 37): the condition. -/
def f37_vc (a0 : Option Addr) (w : World) (R : Ending → World → Prop) : Prop :=
  Does Tryz.prog 60 #[.pointer a0] w fun e7 w7 =>
  (∃ f7 : Nat, e7 = .returned (.float .f64 f7) ∧ ∃ I3 : Nat → Nat → World → Prop, (∃ nl3, I3 f7 nl3 w7) ∧ ∀ f3 : Nat, ∀ (nl3 : Nat) (wl3 : World), I3 f3 nl3 wl3 →
  Does Tryz.prog 61 #[.pointer a0, .string (({ data := #[43] } : ByteArray))] wl3 fun e11 w11 =>
  ∃ b11 : Bool, e11 = .returned (.bool b11) ∧ Br b11
  (Does Tryz.prog 60 #[.pointer a0] w11 fun e13 w13 =>
  (∃ f13 : Nat, e13 = .returned (.float .f64 f13) ∧ ∃ f16 : Nat, ∃ w16, (binOp .add 23 (.float .f64 f3) (.float .f64 f13)).run Tryz.prog w13 = .ok (.float .f64 f16) w16 ∧ ∃ ml3, ml3 < nl3 ∧ I3 f16 ml3 w16) ∨ (∃ ch13, e13 = .panicked ch13 ∧ R (.panicked ch13) w13))
  (Does Tryz.prog 61 #[.pointer a0, .string (({ data := #[45] } : ByteArray))] w11 fun e19 w19 =>
  ∃ b19 : Bool, e19 = .returned (.bool b19) ∧ Br b19
  (Does Tryz.prog 60 #[.pointer a0] w19 fun e21 w21 =>
  (∃ f21 : Nat, e21 = .returned (.float .f64 f21) ∧ ∃ f24 : Nat, ∃ w24, (binOp .sub 23 (.float .f64 f3) (.float .f64 f21)).run Tryz.prog w21 = .ok (.float .f64 f24) w24 ∧ ∃ ml3, ml3 < nl3 ∧ I3 f24 ml3 w24) ∨ (∃ ch21, e21 = .panicked ch21 ∧ R (.panicked ch21) w21))
  (R (.returned (.float .f64 f3)) w19))) ∨ (∃ ch7, e7 = .panicked ch7 ∧ R (.panicked ch7) w7)
def f37_ann : Ann := { loops := [(3, [(3, .flt .f64)])], cuts := [], flip := [], throws := [60] }
theorem f37_eq (a0 : Option Addr) (w : World) (R : Ending → World → Prop) : vc Tryz.prog f37_ann (bodyOf Tryz.f37) (retQ Tryz.prog Tryz.f37 R) (envOf Tryz.f37.ntmps [.v (.pointer a0)]) [] w = f37_vc a0 w R := by kernel_rfl
theorem f37_does (a0 : Option Addr) {w : World} {R : Ending → World → Prop} (h : f37_vc a0 w R) : Does Tryz.prog 37 #[.pointer a0] w R :=
  does_of_vc (ss := [.v (.pointer a0)]) f37_ann mixed call37 Tryz.func37 rfl rfl (show 1 ≤ Tryz.f37.ntmps by decide) ((f37_eq a0 w R).symm ▸ h)
/-- Of (*escritoire/calc.reader).blanks (function 38): the condition. -/
def f38_vc (a0 : Option Addr) (w : World) (R : Ending → World → Prop) : Prop :=
  ∃ I0 : Nat → World → Prop, (∃ nl0, I0  nl0 w) ∧ ∀ (nl0 : Nat) (wl0 : World), I0  nl0 wl0 →
  ∀ wd0, Drew wl0 wd0 →
  ∃ b3 o3, a0 = some ⟨b3, o3, none⟩ ∧ ∃ n5 : Int, wd0.cell? ⟨b3, o3 + 1, none⟩ = some (.int .i64 n5) ∧ ∃ b7 o7, a0 = some ⟨b7, o7, none⟩ ∧ ∃ s9 : ByteArray, wd0.cell? ⟨b7, o7, none⟩ = some (.string s9) ∧ Br (decide (n5 < ((s9.size : Int))))
  (∃ b14 o14, a0 = some ⟨b14, o14, none⟩ ∧ ∃ s16 : ByteArray, wd0.cell? ⟨b14, o14, none⟩ = some (.string s16) ∧ ∃ b18 o18, a0 = some ⟨b18, o18, none⟩ ∧ ∃ n20 : Int, wd0.cell? ⟨b18, o18 + 1, none⟩ = some (.int .i64 n20) ∧ ((0 : Int) ≤ n20 ∧ n20 < (s16.size : Int)) ∧ Br ((sb s16 n20) == 32)
  (∃ b25 o25, a0 = some ⟨b25, o25, none⟩ ∧ ∃ n27 : Int, wd0.cell? ⟨b25, o25 + 1, none⟩ = some (.int .i64 n27) ∧ InK .i64 (n27 + 1) ∧ ∃ b29 o29, a0 = some ⟨b29, o29, none⟩ ∧ CanStore wd0 b29 (o29 + 1) ∧ ∀ ws, Stored wd0 b29 (o29 + 1) (.int .i64 (n27 + 1)) ws →
  ∃ ml0, ml0 < nl0 ∧ I0  ml0 ws)
  (R (.returned (.tuple #[])) wd0))
  (R (.returned (.tuple #[])) wd0)
def f38_ann : Ann := { loops := [(0, [])], cuts := [], flip := [], throws := [] }
theorem f38_eq (a0 : Option Addr) (w : World) (R : Ending → World → Prop) : vc Tryz.prog f38_ann (bodyOf Tryz.f38) (retQ Tryz.prog Tryz.f38 R) (envOf Tryz.f38.ntmps [.v (.pointer a0)]) [] w = f38_vc a0 w R := by kernel_rfl
theorem f38_does (a0 : Option Addr) {w : World} {R : Ending → World → Prop} (h : f38_vc a0 w R) : Does Tryz.prog 38 #[.pointer a0] w R :=
  does_of_vc (ss := [.v (.pointer a0)]) f38_ann mixed call38 Tryz.func38 rfl rfl (show 1 ≤ Tryz.f38.ntmps by decide) ((f38_eq a0 w R).symm ▸ h)
/-- Of cmp.isNaN[int] (function 39): the condition. -/
def f39_vc (a0 : Int) (w : World) (R : Ending → World → Prop) : Prop :=
  R (.returned (.bool (a0 != a0))) w
def f39_ann : Ann := { loops := [], cuts := [], flip := [], throws := [] }
theorem f39_eq (a0 : Int) (w : World) (R : Ending → World → Prop) : vc Tryz.prog f39_ann (bodyOf Tryz.f39) (retQ Tryz.prog Tryz.f39 R) (envOf Tryz.f39.ntmps [.v (.int .i64 a0)]) [] w = f39_vc a0 w R := by kernel_rfl
theorem f39_does (a0 : Int) {w : World} {R : Ending → World → Prop} (h : f39_vc a0 w R) : Does Tryz.prog 39 #[.int .i64 a0] w R :=
  does_of_vc (ss := [.v (.int .i64 a0)]) f39_ann mixed call39 Tryz.func39 rfl rfl (show 1 ≤ Tryz.f39.ntmps by decide) ((f39_eq a0 w R).symm ▸ h)
/-- Of cmp.isNaN[float64] (function 40): the condition. -/
def f40_vc (a0 : Nat) (w : World) (R : Ending → World → Prop) : Prop :=
  R (.returned (.bool ((FloatKind.f64.format.order a0 a0 != some Ordering.eq)))) w
def f40_ann : Ann := { loops := [], cuts := [], flip := [], throws := [] }
theorem f40_eq (a0 : Nat) (w : World) (R : Ending → World → Prop) : vc Tryz.prog f40_ann (bodyOf Tryz.f40) (retQ Tryz.prog Tryz.f40 R) (envOf Tryz.f40.ntmps [.v (.float .f64 a0)]) [] w = f40_vc a0 w R := by kernel_rfl
theorem f40_does (a0 : Nat) {w : World} {R : Ending → World → Prop} (h : f40_vc a0 w R) : Does Tryz.prog 40 #[.float .f64 a0] w R :=
  does_of_vc (ss := [.v (.float .f64 a0)]) f40_ann mixed call40 Tryz.func40 rfl rfl (show 1 ≤ Tryz.f40.ntmps by decide) ((f40_eq a0 w R).symm ▸ h)
/-- Of internal/stringslite.TrimPrefix (function 42): the condition. -/
def f42_vc (a0 : ByteArray) (a1 : ByteArray) (w : World) (R : Ending → World → Prop) : Prop :=
  Does Tryz.prog 45 #[.string a0, .string a1] w fun e7 w7 =>
  ∃ b7 : Bool, e7 = .returned (.bool b7) ∧ Br b7
  (((0 : Int) ≤ ((a1.size : Int)) ∧ ((a1.size : Int)) ≤ (a0.size : Int)) ∧ R (.returned (.string (a0.extract (((a1.size : Int)).toNat) a0.size))) w7)
  (R (.returned (.string a0)) w7)
def f42_ann : Ann := { loops := [], cuts := [], flip := [], throws := [] }
theorem f42_eq (a0 : ByteArray) (a1 : ByteArray) (w : World) (R : Ending → World → Prop) : vc Tryz.prog f42_ann (bodyOf Tryz.f42) (retQ Tryz.prog Tryz.f42 R) (envOf Tryz.f42.ntmps [.v (.string a0), .v (.string a1)]) [] w = f42_vc a0 a1 w R := by kernel_rfl
theorem f42_does (a0 : ByteArray) (a1 : ByteArray) {w : World} {R : Ending → World → Prop} (h : f42_vc a0 a1 w R) : Does Tryz.prog 42 #[.string a0, .string a1] w R :=
  does_of_vc (ss := [.v (.string a0), .v (.string a1)]) f42_ann mixed call42 Tryz.func42 rfl rfl (show 2 ≤ Tryz.f42.ntmps by decide) ((f42_eq a0 a1 w R).symm ▸ h)
/-- Of strings.Cut (function 43): the condition. -/
def f43_vc (a0 : ByteArray) (a1 : ByteArray) (w : World) (R : Ending → World → Prop) : Prop :=
  Does Tryz.prog 62 #[.string a0, .string a1] w fun e9 w9 =>
  ∃ s9 : ByteArray, ∃ s9_1 : ByteArray, ∃ b9 : Bool, e9 = .returned (.tuple #[.string s9, .string s9_1, .bool b9]) ∧ R (.returned (.tuple #[.string s9, .string s9_1, .bool b9])) w9
def f43_ann : Ann := { loops := [], cuts := [], flip := [], throws := [] }
theorem f43_eq (a0 : ByteArray) (a1 : ByteArray) (w : World) (R : Ending → World → Prop) : vc Tryz.prog f43_ann (bodyOf Tryz.f43) (retQ Tryz.prog Tryz.f43 R) (envOf Tryz.f43.ntmps [.v (.string a0), .v (.string a1)]) [] w = f43_vc a0 a1 w R := by kernel_rfl
theorem f43_does (a0 : ByteArray) (a1 : ByteArray) {w : World} {R : Ending → World → Prop} (h : f43_vc a0 a1 w R) : Does Tryz.prog 43 #[.string a0, .string a1] w R :=
  does_of_vc (ss := [.v (.string a0), .v (.string a1)]) f43_ann mixed call43 Tryz.func43 rfl rfl (show 2 ≤ Tryz.f43.ntmps by decide) ((f43_eq a0 a1 w R).symm ▸ h)
/-- Of escritoire/real.figures (function 44): the condition. -/
def f44_vc (a0 : ByteArray) (w : World) (R : Ending → World → Prop) : Prop :=
  ∃ I2 : Int → Nat → World → Prop, (∃ nl2, I2 0 nl2 w) ∧ ∀ x6 : Int, ∀ (nl2 : Nat) (wl2 : World), I2 x6 nl2 wl2 →
  Br (decide (x6 < ((a0.size : Int))))
  (((0 : Int) ≤ x6 ∧ x6 < (a0.size : Int)) ∧ Br (decide ((sb a0 x6) < 48))
  (R (.returned (.bool false)) wl2)
  (((0 : Int) ≤ x6 ∧ x6 < (a0.size : Int)) ∧ Br (decide ((sb a0 x6) > 57))
  (R (.returned (.bool false)) wl2)
  (InK .i64 (x6 + 1) ∧ ∃ ml2, ml2 < nl2 ∧ I2 (x6 + 1) ml2 wl2)))
  (R (.returned (.bool (!(a0.toList == (({ data := #[] } : ByteArray)).toList)))) wl2)
def f44_ann : Ann := { loops := [(2, [(6, .int .i64)])], cuts := [], flip := [], throws := [] }
theorem f44_eq (a0 : ByteArray) (w : World) (R : Ending → World → Prop) : vc Tryz.prog f44_ann (bodyOf Tryz.f44) (retQ Tryz.prog Tryz.f44 R) (envOf Tryz.f44.ntmps [.v (.string a0)]) [] w = f44_vc a0 w R := by kernel_rfl
theorem f44_does (a0 : ByteArray) {w : World} {R : Ending → World → Prop} (h : f44_vc a0 w R) : Does Tryz.prog 44 #[.string a0] w R :=
  does_of_vc (ss := [.v (.string a0)]) f44_ann mixed call44 Tryz.func44 rfl rfl (show 1 ≤ Tryz.f44.ntmps by decide) ((f44_eq a0 w R).symm ▸ h)
/-- Of internal/stringslite.HasPrefix (function 45): the condition. -/
def f45_vc (a0 : ByteArray) (a1 : ByteArray) (w : World) (R : Ending → World → Prop) : Prop :=
  Br (decide (((a0.size : Int)) ≥ ((a1.size : Int))))
  (((0 : Int) ≤ ((a1.size : Int)) ∧ ((a1.size : Int)) ≤ (a0.size : Int)) ∧ R (.returned (.bool ((a0.extract 0 (((a1.size : Int)).toNat)).toList == a1.toList))) w)
  (R (.returned (.bool false)) w)
def f45_ann : Ann := { loops := [], cuts := [], flip := [], throws := [] }
theorem f45_eq (a0 : ByteArray) (a1 : ByteArray) (w : World) (R : Ending → World → Prop) : vc Tryz.prog f45_ann (bodyOf Tryz.f45) (retQ Tryz.prog Tryz.f45 R) (envOf Tryz.f45.ntmps [.v (.string a0), .v (.string a1)]) [] w = f45_vc a0 a1 w R := by kernel_rfl
theorem f45_does (a0 : ByteArray) (a1 : ByteArray) {w : World} {R : Ending → World → Prop} (h : f45_vc a0 a1 w R) : Does Tryz.prog 45 #[.string a0, .string a1] w R :=
  does_of_vc (ss := [.v (.string a0), .v (.string a1)]) f45_ann mixed call45 Tryz.func45 rfl rfl (show 2 ≤ Tryz.f45.ntmps by decide) ((f45_eq a0 a1 w R).symm ▸ h)
/-- Of internal/strconv.ParseFloat (function 46): the condition. -/
def f46_vc (a0 : ByteArray) (a1 : Int) (w : World) (R : Ending → World → Prop) : Prop :=
  Does Tryz.prog 63 #[.string a0, .int .i64 a1] w fun e12 w12 =>
  ∃ f12 : Nat, ∃ n12 : Int, ∃ x12 : Value, e12 = .returned (.tuple #[.float .f64 f12, .int .i64 n12, x12]) ∧ Br (n12 != ((a0.size : Int)))
  (R (.returned (.tuple #[.float .f64 0, .iface 73 (.int .i64 2)])) w12)
  (R (.returned (.tuple #[.float .f64 f12, x12])) w12)
def f46_ann : Ann := { loops := [], cuts := [], flip := [], throws := [] }
theorem f46_eq (a0 : ByteArray) (a1 : Int) (w : World) (R : Ending → World → Prop) : vc Tryz.prog f46_ann (bodyOf Tryz.f46) (retQ Tryz.prog Tryz.f46 R) (envOf Tryz.f46.ntmps [.v (.string a0), .v (.int .i64 a1)]) [] w = f46_vc a0 a1 w R := by kernel_rfl
theorem f46_does (a0 : ByteArray) (a1 : Int) {w : World} {R : Ending → World → Prop} (h : f46_vc a0 a1 w R) : Does Tryz.prog 46 #[.string a0, .int .i64 a1] w R :=
  does_of_vc (ss := [.v (.string a0), .v (.int .i64 a1)]) f46_ann mixed call46 Tryz.func46 rfl rfl (show 2 ≤ Tryz.f46.ntmps by decide) ((f46_eq a0 a1 w R).symm ▸ h)
/-- Of math.Abs (function 48): the condition. -/
def f48_vc (a0 : Nat) (w : World) (R : Ending → World → Prop) : Prop :=
  Does Tryz.prog 22 #[.float .f64 a0] w fun e4 w4 =>
  ∃ n4 : Int, e4 = .returned (.int .u64 n4) ∧ Does Tryz.prog 41 #[.int .u64 (bits .andNot .u64 n4 9223372036854775808)] w4 fun e6 w6 =>
  ∃ f6 : Nat, e6 = .returned (.float .f64 f6) ∧ R (.returned (.float .f64 f6)) w6
def f48_ann : Ann := { loops := [], cuts := [], flip := [], throws := [] }
theorem f48_eq (a0 : Nat) (w : World) (R : Ending → World → Prop) : vc Tryz.prog f48_ann (bodyOf Tryz.f48) (retQ Tryz.prog Tryz.f48 R) (envOf Tryz.f48.ntmps [.v (.float .f64 a0)]) [] w = f48_vc a0 w R := by kernel_rfl
theorem f48_does (a0 : Nat) {w : World} {R : Ending → World → Prop} (h : f48_vc a0 w R) : Does Tryz.prog 48 #[.float .f64 a0] w R :=
  does_of_vc (ss := [.v (.float .f64 a0)]) f48_ann mixed call48 Tryz.func48 rfl rfl (show 1 ≤ Tryz.f48.ntmps by decide) ((f48_eq a0 w R).symm ▸ h)
/-- Of internal/strconv.FormatInt (function 51): the condition. -/
def f51_vc (a0 : Int) (a1 : Int) (w : World) (R : Ending → World → Prop) : Prop :=
  Br (a1 == 10)
  (Br (decide ((0 : Int) ≤ a0))
  (Br (decide (a0 < 100))
  (Does Tryz.prog 69 #[.int .i64 a0] w fun e19 w19 =>
  ∃ s19 : ByteArray, e19 = .returned (.string s19) ∧ R (.returned (.string s19)) w19)
  (∀ b5 w5, NewBlk w b5 [.int .u8 0, .int .u8 0, .int .u8 0, .int .u8 0, .int .u8 0, .int .u8 0, .int .u8 0, .int .u8 0, .int .u8 0, .int .u8 0, .int .u8 0, .int .u8 0, .int .u8 0, .int .u8 0, .int .u8 0, .int .u8 0, .int .u8 0, .int .u8 0, .int .u8 0, .int .u8 0, .int .u8 0, .int .u8 0, .int .u8 0, .int .u8 0] 79 w5 →
  Br (decide (a0 < 0))
  (Does Tryz.prog 70 #[.int .u64 (IntKind.wrap .u64 (0 - (IntKind.wrap .u64 (a0))))] w5 fun e27 w27 =>
  ∃ n27 : Int, e27 = .returned (.int .i64 n27) ∧ InK .i64 (1 + n27) ∧ ((0 : Int) ≤ (1 + n27) ∧ (1 + n27) ≤ (24 : Int)) ∧ ((0 : Int) ≤ 1 ∧ 1 ≤ (1 + n27)) ∧ Does Tryz.prog 71 #[.slice (subp (some ⟨b5, 0, none⟩) ((1 : Int).toNat) 24 1) (((1 + n27).toNat) - ((1 : Int).toNat)) (24 - ((1 : Int).toNat)), .int .u64 (IntKind.wrap .u64 (0 - (IntKind.wrap .u64 (a0))))] w27 fun e32 w32 =>
  e32 = .returned (.tuple #[]) ∧ Br (decide (a0 < 0))
  (((0 : Int) ≤ 0 ∧ 0 < ((24 : Nat) : Int)) ∧ CanStore w32 b5 (0 + (0 : Int).toNat) ∧ ∀ ws, Stored w32 b5 (0 + (0 : Int).toNat) (.int .u8 45) ws →
  InK .i64 (1 + n27) ∧ ((0 : Int) ≤ (1 + n27) ∧ (1 + n27) ≤ (24 : Int)) ∧ ∃ s39 : ByteArray, ∃ w39, (convert 82 9 (.slice (subp (some ⟨b5, 0, none⟩) 0 24 1) (((1 + n27).toNat) - 0) (24 - 0))).run Tryz.prog ws = .ok (.string s39) w39 ∧ R (.returned (.string s39)) w39)
  (InK .i64 (1 + n27) ∧ ((0 : Int) ≤ (1 + n27) ∧ (1 + n27) ≤ (24 : Int)) ∧ ((0 : Int) ≤ 1 ∧ 1 ≤ (1 + n27)) ∧ ∃ s43 : ByteArray, ∃ w43, (convert 82 9 (.slice (subp (some ⟨b5, 0, none⟩) ((1 : Int).toNat) 24 1) (((1 + n27).toNat) - ((1 : Int).toNat)) (24 - ((1 : Int).toNat)))).run Tryz.prog w32 = .ok (.string s43) w43 ∧ R (.returned (.string s43)) w43))
  (Does Tryz.prog 70 #[.int .u64 (IntKind.wrap .u64 (a0))] w5 fun e27_1 w27_1 =>
  ∃ n27_1 : Int, e27_1 = .returned (.int .i64 n27_1) ∧ InK .i64 (1 + n27_1) ∧ ((0 : Int) ≤ (1 + n27_1) ∧ (1 + n27_1) ≤ (24 : Int)) ∧ ((0 : Int) ≤ 1 ∧ 1 ≤ (1 + n27_1)) ∧ Does Tryz.prog 71 #[.slice (subp (some ⟨b5, 0, none⟩) ((1 : Int).toNat) 24 1) (((1 + n27_1).toNat) - ((1 : Int).toNat)) (24 - ((1 : Int).toNat)), .int .u64 (IntKind.wrap .u64 (a0))] w27_1 fun e32_1 w32_1 =>
  e32_1 = .returned (.tuple #[]) ∧ Br (decide (a0 < 0))
  (((0 : Int) ≤ 0 ∧ 0 < ((24 : Nat) : Int)) ∧ CanStore w32_1 b5 (0 + (0 : Int).toNat) ∧ ∀ ws_1, Stored w32_1 b5 (0 + (0 : Int).toNat) (.int .u8 45) ws_1 →
  InK .i64 (1 + n27_1) ∧ ((0 : Int) ≤ (1 + n27_1) ∧ (1 + n27_1) ≤ (24 : Int)) ∧ ∃ s39_1 : ByteArray, ∃ w39_1, (convert 82 9 (.slice (subp (some ⟨b5, 0, none⟩) 0 24 1) (((1 + n27_1).toNat) - 0) (24 - 0))).run Tryz.prog ws_1 = .ok (.string s39_1) w39_1 ∧ R (.returned (.string s39_1)) w39_1)
  (InK .i64 (1 + n27_1) ∧ ((0 : Int) ≤ (1 + n27_1) ∧ (1 + n27_1) ≤ (24 : Int)) ∧ ((0 : Int) ≤ 1 ∧ 1 ≤ (1 + n27_1)) ∧ ∃ s43_1 : ByteArray, ∃ w43_1, (convert 82 9 (.slice (subp (some ⟨b5, 0, none⟩) ((1 : Int).toNat) 24 1) (((1 + n27_1).toNat) - ((1 : Int).toNat)) (24 - ((1 : Int).toNat)))).run Tryz.prog w32_1 = .ok (.string s43_1) w43_1 ∧ R (.returned (.string s43_1)) w43_1))))
  (∀ b5_1 w5_1, NewBlk w b5_1 [.int .u8 0, .int .u8 0, .int .u8 0, .int .u8 0, .int .u8 0, .int .u8 0, .int .u8 0, .int .u8 0, .int .u8 0, .int .u8 0, .int .u8 0, .int .u8 0, .int .u8 0, .int .u8 0, .int .u8 0, .int .u8 0, .int .u8 0, .int .u8 0, .int .u8 0, .int .u8 0, .int .u8 0, .int .u8 0, .int .u8 0, .int .u8 0] 79 w5_1 →
  Br (decide (a0 < 0))
  (Does Tryz.prog 70 #[.int .u64 (IntKind.wrap .u64 (0 - (IntKind.wrap .u64 (a0))))] w5_1 fun e27_2 w27_2 =>
  ∃ n27_2 : Int, e27_2 = .returned (.int .i64 n27_2) ∧ InK .i64 (1 + n27_2) ∧ ((0 : Int) ≤ (1 + n27_2) ∧ (1 + n27_2) ≤ (24 : Int)) ∧ ((0 : Int) ≤ 1 ∧ 1 ≤ (1 + n27_2)) ∧ Does Tryz.prog 71 #[.slice (subp (some ⟨b5_1, 0, none⟩) ((1 : Int).toNat) 24 1) (((1 + n27_2).toNat) - ((1 : Int).toNat)) (24 - ((1 : Int).toNat)), .int .u64 (IntKind.wrap .u64 (0 - (IntKind.wrap .u64 (a0))))] w27_2 fun e32_2 w32_2 =>
  e32_2 = .returned (.tuple #[]) ∧ Br (decide (a0 < 0))
  (((0 : Int) ≤ 0 ∧ 0 < ((24 : Nat) : Int)) ∧ CanStore w32_2 b5_1 (0 + (0 : Int).toNat) ∧ ∀ ws_2, Stored w32_2 b5_1 (0 + (0 : Int).toNat) (.int .u8 45) ws_2 →
  InK .i64 (1 + n27_2) ∧ ((0 : Int) ≤ (1 + n27_2) ∧ (1 + n27_2) ≤ (24 : Int)) ∧ ∃ s39_2 : ByteArray, ∃ w39_2, (convert 82 9 (.slice (subp (some ⟨b5_1, 0, none⟩) 0 24 1) (((1 + n27_2).toNat) - 0) (24 - 0))).run Tryz.prog ws_2 = .ok (.string s39_2) w39_2 ∧ R (.returned (.string s39_2)) w39_2)
  (InK .i64 (1 + n27_2) ∧ ((0 : Int) ≤ (1 + n27_2) ∧ (1 + n27_2) ≤ (24 : Int)) ∧ ((0 : Int) ≤ 1 ∧ 1 ≤ (1 + n27_2)) ∧ ∃ s43_2 : ByteArray, ∃ w43_2, (convert 82 9 (.slice (subp (some ⟨b5_1, 0, none⟩) ((1 : Int).toNat) 24 1) (((1 + n27_2).toNat) - ((1 : Int).toNat)) (24 - ((1 : Int).toNat)))).run Tryz.prog w32_2 = .ok (.string s43_2) w43_2 ∧ R (.returned (.string s43_2)) w43_2))
  (Does Tryz.prog 70 #[.int .u64 (IntKind.wrap .u64 (a0))] w5_1 fun e27_3 w27_3 =>
  ∃ n27_3 : Int, e27_3 = .returned (.int .i64 n27_3) ∧ InK .i64 (1 + n27_3) ∧ ((0 : Int) ≤ (1 + n27_3) ∧ (1 + n27_3) ≤ (24 : Int)) ∧ ((0 : Int) ≤ 1 ∧ 1 ≤ (1 + n27_3)) ∧ Does Tryz.prog 71 #[.slice (subp (some ⟨b5_1, 0, none⟩) ((1 : Int).toNat) 24 1) (((1 + n27_3).toNat) - ((1 : Int).toNat)) (24 - ((1 : Int).toNat)), .int .u64 (IntKind.wrap .u64 (a0))] w27_3 fun e32_3 w32_3 =>
  e32_3 = .returned (.tuple #[]) ∧ Br (decide (a0 < 0))
  (((0 : Int) ≤ 0 ∧ 0 < ((24 : Nat) : Int)) ∧ CanStore w32_3 b5_1 (0 + (0 : Int).toNat) ∧ ∀ ws_3, Stored w32_3 b5_1 (0 + (0 : Int).toNat) (.int .u8 45) ws_3 →
  InK .i64 (1 + n27_3) ∧ ((0 : Int) ≤ (1 + n27_3) ∧ (1 + n27_3) ≤ (24 : Int)) ∧ ∃ s39_3 : ByteArray, ∃ w39_3, (convert 82 9 (.slice (subp (some ⟨b5_1, 0, none⟩) 0 24 1) (((1 + n27_3).toNat) - 0) (24 - 0))).run Tryz.prog ws_3 = .ok (.string s39_3) w39_3 ∧ R (.returned (.string s39_3)) w39_3)
  (InK .i64 (1 + n27_3) ∧ ((0 : Int) ≤ (1 + n27_3) ∧ (1 + n27_3) ≤ (24 : Int)) ∧ ((0 : Int) ≤ 1 ∧ 1 ≤ (1 + n27_3)) ∧ ∃ s43_3 : ByteArray, ∃ w43_3, (convert 82 9 (.slice (subp (some ⟨b5_1, 0, none⟩) ((1 : Int).toNat) 24 1) (((1 + n27_3).toNat) - ((1 : Int).toNat)) (24 - ((1 : Int).toNat)))).run Tryz.prog w32_3 = .ok (.string s43_3) w43_3 ∧ R (.returned (.string s43_3)) w43_3))))
  (Does Tryz.prog 72 #[.slice none 0 0, .int .u64 (IntKind.wrap .u64 (a0)), .int .i64 a1, .bool (decide (a0 < 0)), .bool false] w fun e50 w50 =>
  ∃ (p50 : Option Addr) (l50 c50 : Nat), ∃ s50 : ByteArray, e50 = .returned (.tuple #[.slice p50 l50 c50, .string s50]) ∧ R (.returned (.string s50)) w50)
def f51_ann : Ann := { loops := [], cuts := [], flip := [], throws := [] }
theorem f51_eq (a0 : Int) (a1 : Int) (w : World) (R : Ending → World → Prop) : vc Tryz.prog f51_ann (bodyOf Tryz.f51) (retQ Tryz.prog Tryz.f51 R) (envOf Tryz.f51.ntmps [.v (.int .i64 a0), .v (.int .i64 a1)]) [] w = f51_vc a0 a1 w R := by kernel_rfl
theorem f51_does (a0 : Int) (a1 : Int) {w : World} {R : Ending → World → Prop} (h : f51_vc a0 a1 w R) : Does Tryz.prog 51 #[.int .i64 a0, .int .i64 a1] w R :=
  does_of_vc (ss := [.v (.int .i64 a0), .v (.int .i64 a1)]) f51_ann mixed call51 Tryz.func51 rfl rfl (show 2 ≤ Tryz.f51.ntmps by decide) ((f51_eq a0 a1 w R).symm ▸ h)
/-- Of (*escritoire/escritoireref3.reader).blank (function 57): the condition. -/
def f57_vc (a0 : Option Addr) (w : World) (R : Ending → World → Prop) : Prop :=
  ∃ I0 : Nat → World → Prop, (∃ nl0, I0  nl0 w) ∧ ∀ (nl0 : Nat) (wl0 : World), I0  nl0 wl0 →
  ∀ wd0, Drew wl0 wd0 →
  ∃ b3 o3, a0 = some ⟨b3, o3, none⟩ ∧ ∃ n5 : Int, wd0.cell? ⟨b3, o3 + 1, none⟩ = some (.int .i64 n5) ∧ ∃ b7 o7, a0 = some ⟨b7, o7, none⟩ ∧ ∃ s9 : ByteArray, wd0.cell? ⟨b7, o7, none⟩ = some (.string s9) ∧ Br (decide (n5 < ((s9.size : Int))))
  (∃ b14 o14, a0 = some ⟨b14, o14, none⟩ ∧ ∃ s16 : ByteArray, wd0.cell? ⟨b14, o14, none⟩ = some (.string s16) ∧ ∃ b18 o18, a0 = some ⟨b18, o18, none⟩ ∧ ∃ n20 : Int, wd0.cell? ⟨b18, o18 + 1, none⟩ = some (.int .i64 n20) ∧ ((0 : Int) ≤ n20 ∧ n20 < (s16.size : Int)) ∧ Br ((sb s16 n20) == 32)
  (∃ b25 o25, a0 = some ⟨b25, o25, none⟩ ∧ ∃ n27 : Int, wd0.cell? ⟨b25, o25 + 1, none⟩ = some (.int .i64 n27) ∧ InK .i64 (n27 + 1) ∧ ∃ b29 o29, a0 = some ⟨b29, o29, none⟩ ∧ CanStore wd0 b29 (o29 + 1) ∧ ∀ ws, Stored wd0 b29 (o29 + 1) (.int .i64 (n27 + 1)) ws →
  ∃ ml0, ml0 < nl0 ∧ I0  ml0 ws)
  (R (.returned (.tuple #[])) wd0))
  (R (.returned (.tuple #[])) wd0)
def f57_ann : Ann := { loops := [(0, [])], cuts := [], flip := [], throws := [] }
theorem f57_eq (a0 : Option Addr) (w : World) (R : Ending → World → Prop) : vc Tryz.prog f57_ann (bodyOf Tryz.f57) (retQ Tryz.prog Tryz.f57 R) (envOf Tryz.f57.ntmps [.v (.pointer a0)]) [] w = f57_vc a0 w R := by kernel_rfl
theorem f57_does (a0 : Option Addr) {w : World} {R : Ending → World → Prop} (h : f57_vc a0 w R) : Does Tryz.prog 57 #[.pointer a0] w R :=
  does_of_vc (ss := [.v (.pointer a0)]) f57_ann mixed call57 Tryz.func57 rfl rfl (show 1 ≤ Tryz.f57.ntmps by decide) ((f57_eq a0 w R).symm ▸ h)
/-- Of (*escritoire/escritoireref3.reader).product (function 58): the condition. -/
def f58_vc (a0 : Option Addr) (w : World) (R : Ending → World → Prop) : Prop :=
  Does Tryz.prog 86 #[.pointer a0] w fun e5 w5 =>
  ∃ f5 : Nat, e5 = .returned (.float .f64 f5) ∧ ∃ I2 : Nat → Nat → World → Prop, (∃ nl2, I2 f5 nl2 w5) ∧ ∀ f3 : Nat, ∀ (nl2 : Nat) (wl2 : World), I2 f3 nl2 wl2 →
  ∃ b7 o7, a0 = some ⟨b7, o7, none⟩ ∧ ∃ n9 : Int, wl2.cell? ⟨b7, o7 + 3, none⟩ = some (.int .i64 n9) ∧ Br (n9 == 0)
  (Does Tryz.prog 59 #[.pointer a0, .string (({ data := #[42] } : ByteArray))] wl2 fun e14 w14 =>
  ∃ b14 : Bool, e14 = .returned (.bool b14) ∧ Br b14
  (Does Tryz.prog 86 #[.pointer a0] w14 fun e17 w17 =>
  ∃ f17 : Nat, e17 = .returned (.float .f64 f17) ∧ ∃ f18 : Nat, ∃ w18, (binOp .mul 23 (.float .f64 f3) (.float .f64 f17)).run Tryz.prog w17 = .ok (.float .f64 f18) w18 ∧ ∃ ml2, ml2 < nl2 ∧ I2 f18 ml2 w18)
  (Does Tryz.prog 59 #[.pointer a0, .string (({ data := #[47] } : ByteArray))] w14 fun e21 w21 =>
  ∃ b21 : Bool, e21 = .returned (.bool b21) ∧ Br b21
  (Does Tryz.prog 86 #[.pointer a0] w21 fun e24 w24 =>
  ∃ f24 : Nat, e24 = .returned (.float .f64 f24) ∧ ∃ f25 : Nat, ∃ w25, (binOp .quo 23 (.float .f64 f3) (.float .f64 f24)).run Tryz.prog w24 = .ok (.float .f64 f25) w25 ∧ ∃ ml2, ml2 < nl2 ∧ I2 f25 ml2 w25)
  (R (.returned (.float .f64 f3)) w21)))
  (R (.returned (.float .f64 0)) wl2)
def f58_ann : Ann := { loops := [(2, [(3, .flt .f64)])], cuts := [], flip := [], throws := [] }
theorem f58_eq (a0 : Option Addr) (w : World) (R : Ending → World → Prop) : vc Tryz.prog f58_ann (bodyOf Tryz.f58) (retQ Tryz.prog Tryz.f58 R) (envOf Tryz.f58.ntmps [.v (.pointer a0)]) [] w = f58_vc a0 w R := by kernel_rfl
theorem f58_does (a0 : Option Addr) {w : World} {R : Ending → World → Prop} (h : f58_vc a0 w R) : Does Tryz.prog 58 #[.pointer a0] w R :=
  does_of_vc (ss := [.v (.pointer a0)]) f58_ann mixed call58 Tryz.func58 rfl rfl (show 1 ≤ Tryz.f58.ntmps by decide) ((f58_eq a0 w R).symm ▸ h)
/-- Of (*escritoire/escritoireref3.reader).is (function 59): the condition. -/
def f59_vc (a0 : Option Addr) (a1 : ByteArray) (w : World) (R : Ending → World → Prop) : Prop :=
  Does Tryz.prog 57 #[.pointer a0] w fun e6 w6 =>
  e6 = .returned (.tuple #[]) ∧ ∀ wd2, Drew w6 wd2 →
  ∃ b8 o8, a0 = some ⟨b8, o8, none⟩ ∧ ∃ s10 : ByteArray, wd2.cell? ⟨b8, o8, none⟩ = some (.string s10) ∧ ∃ b13 o13, a0 = some ⟨b13, o13, none⟩ ∧ ∃ n15 : Int, wd2.cell? ⟨b13, o13 + 1, none⟩ = some (.int .i64 n15) ∧ InK .i64 (((s10.size : Int)) - n15) ∧ Br (decide ((((s10.size : Int)) - n15) < ((a1.size : Int))))
  (R (.returned (.bool false)) wd2)
  (∃ b22 o22, a0 = some ⟨b22, o22, none⟩ ∧ ∃ s24 : ByteArray, wd2.cell? ⟨b22, o22, none⟩ = some (.string s24) ∧ ∃ b26 o26, a0 = some ⟨b26, o26, none⟩ ∧ ∃ n28 : Int, wd2.cell? ⟨b26, o26 + 1, none⟩ = some (.int .i64 n28) ∧ ∃ b30 o30, a0 = some ⟨b30, o30, none⟩ ∧ ∃ n32 : Int, wd2.cell? ⟨b30, o30 + 1, none⟩ = some (.int .i64 n32) ∧ InK .i64 (n32 + ((a1.size : Int))) ∧ ((0 : Int) ≤ (n32 + ((a1.size : Int))) ∧ (n32 + ((a1.size : Int))) ≤ (s24.size : Int)) ∧ ((0 : Int) ≤ n28 ∧ n28 ≤ (n32 + ((a1.size : Int)))) ∧ Br (!((s24.extract ((n28).toNat) ((n32 + ((a1.size : Int))).toNat)).toList == a1.toList))
  (R (.returned (.bool false)) wd2)
  (∃ b42 o42, a0 = some ⟨b42, o42, none⟩ ∧ ∃ n44 : Int, wd2.cell? ⟨b42, o42 + 1, none⟩ = some (.int .i64 n44) ∧ InK .i64 (n44 + ((a1.size : Int))) ∧ ∃ b48 o48, a0 = some ⟨b48, o48, none⟩ ∧ CanStore wd2 b48 (o48 + 1) ∧ ∀ ws, Stored wd2 b48 (o48 + 1) (.int .i64 (n44 + ((a1.size : Int)))) ws →
  R (.returned (.bool true)) ws))
def f59_ann : Ann := { loops := [], cuts := [], flip := [], throws := [] }
theorem f59_eq (a0 : Option Addr) (a1 : ByteArray) (w : World) (R : Ending → World → Prop) : vc Tryz.prog f59_ann (bodyOf Tryz.f59) (retQ Tryz.prog Tryz.f59 R) (envOf Tryz.f59.ntmps [.v (.pointer a0), .v (.string a1)]) [] w = f59_vc a0 a1 w R := by kernel_rfl
theorem f59_does (a0 : Option Addr) (a1 : ByteArray) {w : World} {R : Ending → World → Prop} (h : f59_vc a0 a1 w R) : Does Tryz.prog 59 #[.pointer a0, .string a1] w R :=
  does_of_vc (ss := [.v (.pointer a0), .v (.string a1)]) f59_ann mixed call59 Tryz.func59 rfl rfl (show 2 ≤ Tryz.f59.ntmps by decide) ((f59_eq a0 a1 w R).symm ▸ h)
/-- Of (*escritoire/calc.reader).term (function 60): the condition. -/
def f60_vc (a0 : Option Addr) (w : World) (R : Ending → World → Prop) : Prop :=
  Does Tryz.prog 87 #[.pointer a0] w fun e7 w7 =>
  (∃ f7 : Nat, e7 = .returned (.float .f64 f7) ∧ ∃ I3 : Nat → Nat → World → Prop, (∃ nl3, I3 f7 nl3 w7) ∧ ∀ f3 : Nat, ∀ (nl3 : Nat) (wl3 : World), I3 f3 nl3 wl3 →
  Does Tryz.prog 61 #[.pointer a0, .string (({ data := #[42] } : ByteArray))] wl3 fun e11 w11 =>
  ∃ b11 : Bool, e11 = .returned (.bool b11) ∧ Br b11
  (Does Tryz.prog 87 #[.pointer a0] w11 fun e13 w13 =>
  (∃ f13 : Nat, e13 = .returned (.float .f64 f13) ∧ ∃ f16 : Nat, ∃ w16, (binOp .mul 23 (.float .f64 f3) (.float .f64 f13)).run Tryz.prog w13 = .ok (.float .f64 f16) w16 ∧ ∃ ml3, ml3 < nl3 ∧ I3 f16 ml3 w16) ∨ (∃ ch13, e13 = .panicked ch13 ∧ R (.panicked ch13) w13))
  (Does Tryz.prog 61 #[.pointer a0, .string (({ data := #[47] } : ByteArray))] w11 fun e19 w19 =>
  ∃ b19 : Bool, e19 = .returned (.bool b19) ∧ Br b19
  (Does Tryz.prog 87 #[.pointer a0] w19 fun e21 w21 =>
  (∃ f21 : Nat, e21 = .returned (.float .f64 f21) ∧ ∃ f24 : Nat, ∃ w24, (binOp .quo 23 (.float .f64 f3) (.float .f64 f21)).run Tryz.prog w21 = .ok (.float .f64 f24) w24 ∧ ∃ ml3, ml3 < nl3 ∧ I3 f24 ml3 w24) ∨ (∃ ch21, e21 = .panicked ch21 ∧ R (.panicked ch21) w21))
  (R (.returned (.float .f64 f3)) w19))) ∨ (∃ ch7, e7 = .panicked ch7 ∧ R (.panicked ch7) w7)
def f60_ann : Ann := { loops := [(3, [(3, .flt .f64)])], cuts := [], flip := [], throws := [87] }
theorem f60_eq (a0 : Option Addr) (w : World) (R : Ending → World → Prop) : vc Tryz.prog f60_ann (bodyOf Tryz.f60) (retQ Tryz.prog Tryz.f60 R) (envOf Tryz.f60.ntmps [.v (.pointer a0)]) [] w = f60_vc a0 w R := by kernel_rfl
theorem f60_does (a0 : Option Addr) {w : World} {R : Ending → World → Prop} (h : f60_vc a0 w R) : Does Tryz.prog 60 #[.pointer a0] w R :=
  does_of_vc (ss := [.v (.pointer a0)]) f60_ann mixed call60 Tryz.func60 rfl rfl (show 1 ≤ Tryz.f60.ntmps by decide) ((f60_eq a0 w R).symm ▸ h)
/-- Of (*escritoire/calc.reader).takes (function 61): the condition. -/
def f61_vc (a0 : Option Addr) (a1 : ByteArray) (w : World) (R : Ending → World → Prop) : Prop :=
  Does Tryz.prog 38 #[.pointer a0] w fun e6 w6 =>
  e6 = .returned (.tuple #[]) ∧ ∀ wd2, Drew w6 wd2 →
  ∃ b8 o8, a0 = some ⟨b8, o8, none⟩ ∧ ∃ s10 : ByteArray, wd2.cell? ⟨b8, o8, none⟩ = some (.string s10) ∧ ∃ b12 o12, a0 = some ⟨b12, o12, none⟩ ∧ ∃ n14 : Int, wd2.cell? ⟨b12, o12 + 1, none⟩ = some (.int .i64 n14) ∧ ((0 : Int) ≤ n14 ∧ n14 ≤ (s10.size : Int)) ∧ Does Tryz.prog 27 #[.string (s10.extract ((n14).toNat) s10.size), .string a1] wd2 fun e17 w17 =>
  ∃ b17 : Bool, e17 = .returned (.bool b17) ∧ Br (!b17)
  (R (.returned (.bool false)) w17)
  (∃ b20 o20, a0 = some ⟨b20, o20, none⟩ ∧ ∃ n22 : Int, w17.cell? ⟨b20, o20 + 1, none⟩ = some (.int .i64 n22) ∧ InK .i64 (n22 + ((a1.size : Int))) ∧ ∃ b26 o26, a0 = some ⟨b26, o26, none⟩ ∧ CanStore w17 b26 (o26 + 1) ∧ ∀ ws, Stored w17 b26 (o26 + 1) (.int .i64 (n22 + ((a1.size : Int)))) ws →
  R (.returned (.bool true)) ws)
def f61_ann : Ann := { loops := [], cuts := [], flip := [], throws := [] }
theorem f61_eq (a0 : Option Addr) (a1 : ByteArray) (w : World) (R : Ending → World → Prop) : vc Tryz.prog f61_ann (bodyOf Tryz.f61) (retQ Tryz.prog Tryz.f61 R) (envOf Tryz.f61.ntmps [.v (.pointer a0), .v (.string a1)]) [] w = f61_vc a0 a1 w R := by kernel_rfl
theorem f61_does (a0 : Option Addr) (a1 : ByteArray) {w : World} {R : Ending → World → Prop} (h : f61_vc a0 a1 w R) : Does Tryz.prog 61 #[.pointer a0, .string a1] w R :=
  does_of_vc (ss := [.v (.pointer a0), .v (.string a1)]) f61_ann mixed call61 Tryz.func61 rfl rfl (show 2 ≤ Tryz.f61.ntmps by decide) ((f61_eq a0 a1 w R).symm ▸ h)
/-- Of internal/stringslite.Cut (function 62): the condition. -/
def f62_vc (a0 : ByteArray) (a1 : ByteArray) (w : World) (R : Ending → World → Prop) : Prop :=
  Does Tryz.prog 88 #[.string a0, .string a1] w fun e10 w10 =>
  ∃ n10 : Int, e10 = .returned (.int .i64 n10) ∧ Br (decide (n10 ≥ 0))
  (∀ wd3, Drew w10 wd3 →
  ((0 : Int) ≤ n10 ∧ n10 ≤ (a0.size : Int)) ∧ InK .i64 (n10 + ((a1.size : Int))) ∧ ((0 : Int) ≤ (n10 + ((a1.size : Int))) ∧ (n10 + ((a1.size : Int))) ≤ (a0.size : Int)) ∧ R (.returned (.tuple #[.string (a0.extract 0 ((n10).toNat)), .string (a0.extract ((n10 + ((a1.size : Int))).toNat) a0.size), .bool true])) wd3)
  (R (.returned (.tuple #[.string a0, .string (({ data := #[] } : ByteArray)), .bool false])) w10)
def f62_ann : Ann := { loops := [], cuts := [], flip := [], throws := [] }
theorem f62_eq (a0 : ByteArray) (a1 : ByteArray) (w : World) (R : Ending → World → Prop) : vc Tryz.prog f62_ann (bodyOf Tryz.f62) (retQ Tryz.prog Tryz.f62 R) (envOf Tryz.f62.ntmps [.v (.string a0), .v (.string a1)]) [] w = f62_vc a0 a1 w R := by kernel_rfl
theorem f62_does (a0 : ByteArray) (a1 : ByteArray) {w : World} {R : Ending → World → Prop} (h : f62_vc a0 a1 w R) : Does Tryz.prog 62 #[.string a0, .string a1] w R :=
  does_of_vc (ss := [.v (.string a0), .v (.string a1)]) f62_ann mixed call62 Tryz.func62 rfl rfl (show 2 ≤ Tryz.f62.ntmps by decide) ((f62_eq a0 a1 w R).symm ▸ h)
/-- Of internal/strconv.parseFloatPrefix (function 63): the condition. -/
def f63_vc (a0 : ByteArray) (a1 : Int) (w : World) (R : Ending → World → Prop) : Prop :=
  Br (a1 == 32)
  (Does Tryz.prog 89 #[.string a0] w fun e14 w14 =>
  ∃ f14 : Nat, ∃ n14 : Int, ∃ x14 : Value, e14 = .returned (.tuple #[.float .f32 f14, .int .i64 n14, x14]) ∧ ∃ f19 : Nat, ∃ w19, (convert 103 23 (.float .f32 f14)).run Tryz.prog w14 = .ok (.float .f64 f19) w19 ∧ R (.returned (.tuple #[.float .f64 f19, .int .i64 n14, x14])) w19)
  (Does Tryz.prog 90 #[.string a0] w fun e23 w23 =>
  ∃ f23 : Nat, ∃ n23 : Int, ∃ x23 : Value, e23 = .returned (.tuple #[.float .f64 f23, .int .i64 n23, x23]) ∧ R (.returned (.tuple #[.float .f64 f23, .int .i64 n23, x23])) w23)
def f63_ann : Ann := { loops := [], cuts := [], flip := [], throws := [] }
theorem f63_eq (a0 : ByteArray) (a1 : Int) (w : World) (R : Ending → World → Prop) : vc Tryz.prog f63_ann (bodyOf Tryz.f63) (retQ Tryz.prog Tryz.f63 R) (envOf Tryz.f63.ntmps [.v (.string a0), .v (.int .i64 a1)]) [] w = f63_vc a0 a1 w R := by kernel_rfl
theorem f63_does (a0 : ByteArray) (a1 : Int) {w : World} {R : Ending → World → Prop} (h : f63_vc a0 a1 w R) : Does Tryz.prog 63 #[.string a0, .int .i64 a1] w R :=
  does_of_vc (ss := [.v (.string a0), .v (.int .i64 a1)]) f63_ann mixed call63 Tryz.func63 rfl rfl (show 2 ≤ Tryz.f63.ntmps by decide) ((f63_eq a0 a1 w R).symm ▸ h)
/-- Of math.Copysign (function 68): the condition. -/
def f68_vc (a0 : Nat) (a1 : Nat) (w : World) (R : Ending → World → Prop) : Prop :=
  Does Tryz.prog 22 #[.float .f64 a0] w fun e6 w6 =>
  ∃ n6 : Int, e6 = .returned (.int .u64 n6) ∧ Does Tryz.prog 22 #[.float .f64 a1] w6 fun e9 w9 =>
  ∃ n9 : Int, e9 = .returned (.int .u64 n9) ∧ Does Tryz.prog 41 #[.int .u64 (bits .or .u64 (bits .andNot .u64 n6 9223372036854775808) (bits .and .u64 n9 9223372036854775808))] w9 fun e12 w12 =>
  ∃ f12 : Nat, e12 = .returned (.float .f64 f12) ∧ R (.returned (.float .f64 f12)) w12
def f68_ann : Ann := { loops := [], cuts := [], flip := [], throws := [] }
theorem f68_eq (a0 : Nat) (a1 : Nat) (w : World) (R : Ending → World → Prop) : vc Tryz.prog f68_ann (bodyOf Tryz.f68) (retQ Tryz.prog Tryz.f68 R) (envOf Tryz.f68.ntmps [.v (.float .f64 a0), .v (.float .f64 a1)]) [] w = f68_vc a0 a1 w R := by kernel_rfl
theorem f68_does (a0 : Nat) (a1 : Nat) {w : World} {R : Ending → World → Prop} (h : f68_vc a0 a1 w R) : Does Tryz.prog 68 #[.float .f64 a0, .float .f64 a1] w R :=
  does_of_vc (ss := [.v (.float .f64 a0), .v (.float .f64 a1)]) f68_ann mixed call68 Tryz.func68 rfl rfl (show 2 ≤ Tryz.f68.ntmps by decide) ((f68_eq a0 a1 w R).symm ▸ h)
/-- Of (*escritoire/escritoireref3.reader).factor (function 86): the condition. -/
def f86_vc (a0 : Option Addr) (w : World) (R : Ending → World → Prop) : Prop :=
  ∃ b7 o7, a0 = some ⟨b7, o7, none⟩ ∧ ∃ n9 : Int, w.cell? ⟨b7, o7 + 3, none⟩ = some (.int .i64 n9) ∧ Br (n9 != 0)
  (R (.returned (.float .f64 0)) w)
  (Does Tryz.prog 59 #[.pointer a0, .string (({ data := #[45] } : ByteArray))] w fun e13 w13 =>
  ∃ b13 : Bool, e13 = .returned (.bool b13) ∧ Br b13
  (Does Tryz.prog 107 #[.pointer a0, .int .u8 45] w13 fun e15 w15 =>
  ∃ f15 : Nat, e15 = .returned (.float .f64 f15) ∧ R (.returned (.float .f64 f15)) w15)
  (Does Tryz.prog 59 #[.pointer a0, .string (({ data := #[40] } : ByteArray))] w13 fun e18 w18 =>
  ∃ b18 : Bool, e18 = .returned (.bool b18) ∧ Br b18
  (Does Tryz.prog 107 #[.pointer a0, .int .u8 40] w18 fun e20 w20 =>
  ∃ f20 : Nat, e20 = .returned (.float .f64 f20) ∧ R (.returned (.float .f64 f20)) w20)
  (Does Tryz.prog 108 #[.pointer a0, .string (({ data := #[109, 105, 110] } : ByteArray))] w18 fun e23 w23 =>
  ∃ b23 : Bool, e23 = .returned (.bool b23) ∧ Br b23
  (Does Tryz.prog 107 #[.pointer a0, .int .u8 109] w23 fun e25 w25 =>
  ∃ f25 : Nat, e25 = .returned (.float .f64 f25) ∧ R (.returned (.float .f64 f25)) w25)
  (Does Tryz.prog 108 #[.pointer a0, .string (({ data := #[109, 97, 120] } : ByteArray))] w23 fun e28 w28 =>
  ∃ b28 : Bool, e28 = .returned (.bool b28) ∧ Br b28
  (Does Tryz.prog 107 #[.pointer a0, .int .u8 77] w28 fun e30 w30 =>
  ∃ f30 : Nat, e30 = .returned (.float .f64 f30) ∧ R (.returned (.float .f64 f30)) w30)
  (Does Tryz.prog 108 #[.pointer a0, .string (({ data := #[97, 98, 115] } : ByteArray))] w28 fun e33 w33 =>
  ∃ b33 : Bool, e33 = .returned (.bool b33) ∧ Br b33
  (Does Tryz.prog 107 #[.pointer a0, .int .u8 97] w33 fun e35 w35 =>
  ∃ f35 : Nat, e35 = .returned (.float .f64 f35) ∧ R (.returned (.float .f64 f35)) w35)
  (Does Tryz.prog 59 #[.pointer a0, .string (({ data := #[110, 97, 110] } : ByteArray))] w33 fun e38 w38 =>
  ∃ b38 : Bool, e38 = .returned (.bool b38) ∧ Br b38
  (Does Tryz.prog 23 #[] w38 fun e39 w39 =>
  ∃ f39 : Nat, e39 = .returned (.float .f64 f39) ∧ R (.returned (.float .f64 f39)) w39)
  (Does Tryz.prog 59 #[.pointer a0, .string (({ data := #[105, 110, 102] } : ByteArray))] w38 fun e42 w42 =>
  ∃ b42 : Bool, e42 = .returned (.bool b42) ∧ Br b42
  (Does Tryz.prog 24 #[.int .i64 1] w42 fun e43 w43 =>
  ∃ f43 : Nat, e43 = .returned (.float .f64 f43) ∧ R (.returned (.float .f64 f43)) w43)
  (∃ b45 o45, a0 = some ⟨b45, o45, none⟩ ∧ ∃ n47 : Int, w42.cell? ⟨b45, o45 + 1, none⟩ = some (.int .i64 n47) ∧ ∃ I18 : Nat → World → Prop, (∃ nl18, I18  nl18 w42) ∧ ∀ (nl18 : Nat) (wl18 : World), I18  nl18 wl18 →
  ∀ wd18, Drew wl18 wd18 →
  ∃ S18 : World → Prop, S18 wd18 ∧ ∃ b49 o49, a0 = some ⟨b49, o49, none⟩ ∧ ∃ n51 : Int, wd18.cell? ⟨b49, o49 + 1, none⟩ = some (.int .i64 n51) ∧ ∃ b53 o53, a0 = some ⟨b53, o53, none⟩ ∧ ∃ s55 : ByteArray, wd18.cell? ⟨b53, o53, none⟩ = some (.string s55) ∧ Br (decide (n51 < ((s55.size : Int))))
  (∃ b60 o60, a0 = some ⟨b60, o60, none⟩ ∧ ∃ s62 : ByteArray, wd18.cell? ⟨b60, o60, none⟩ = some (.string s62) ∧ ∃ b64 o64, a0 = some ⟨b64, o64, none⟩ ∧ ∃ n66 : Int, wd18.cell? ⟨b64, o64 + 1, none⟩ = some (.int .i64 n66) ∧ ((0 : Int) ≤ n66 ∧ n66 < (s62.size : Int)) ∧ Does Tryz.prog 109 #[.int .u8 (sb s62 n66)] wd18 fun e68 w68 =>
  ∃ b68 : Bool, e68 = .returned (.bool b68) ∧ S18 w68 ∧ Br b68
  (∃ b83 o83, a0 = some ⟨b83, o83, none⟩ ∧ ∃ n85 : Int, w68.cell? ⟨b83, o83 + 1, none⟩ = some (.int .i64 n85) ∧ InK .i64 (n85 + 1) ∧ ∃ b87 o87, a0 = some ⟨b87, o87, none⟩ ∧ CanStore w68 b87 (o87 + 1) ∧ ∀ ws, Stored w68 b87 (o87 + 1) (.int .i64 (n85 + 1)) ws →
  ∃ ml18, ml18 < nl18 ∧ I18  ml18 ws)
  (∃ b71 o71, a0 = some ⟨b71, o71, none⟩ ∧ ∃ s73 : ByteArray, (∀ w, S18 w → w.cell? ⟨b71, o71, none⟩ = some (.string s73)) ∧ ∃ b75 o75, a0 = some ⟨b75, o75, none⟩ ∧ ∃ n77 : Int, (∀ w, S18 w → w.cell? ⟨b75, o75 + 1, none⟩ = some (.int .i64 n77)) ∧ ((0 : Int) ≤ n77 ∧ n77 < (s73.size : Int)) ∧ Br ((sb s73 n77) == 46)
  (∃ b83_1 o83_1, a0 = some ⟨b83_1, o83_1, none⟩ ∧ ∃ n85_1 : Int, w68.cell? ⟨b83_1, o83_1 + 1, none⟩ = some (.int .i64 n85_1) ∧ InK .i64 (n85_1 + 1) ∧ ∃ b87_1 o87_1, a0 = some ⟨b87_1, o87_1, none⟩ ∧ CanStore w68 b87_1 (o87_1 + 1) ∧ ∀ ws_1, Stored w68 b87_1 (o87_1 + 1) (.int .i64 (n85_1 + 1)) ws_1 →
  ∃ ml18, ml18 < nl18 ∧ I18  ml18 ws_1)
  (∀ wd20, Drew w68 wd20 →
  ∃ b91 o91, a0 = some ⟨b91, o91, none⟩ ∧ ∃ s93 : ByteArray, wd20.cell? ⟨b91, o91, none⟩ = some (.string s93) ∧ ∃ b96 o96, a0 = some ⟨b96, o96, none⟩ ∧ ∃ n98 : Int, wd20.cell? ⟨b96, o96 + 1, none⟩ = some (.int .i64 n98) ∧ ((0 : Int) ≤ n98 ∧ n98 ≤ (s93.size : Int)) ∧ ((0 : Int) ≤ n47 ∧ n47 ≤ n98) ∧ Does Tryz.prog 110 #[.string (s93.extract ((n47).toNat) ((n98).toNat))] wd20 fun e100 w100 =>
  ∃ f100 : Nat, ∃ b100 : Bool, e100 = .returned (.tuple #[.float .f64 f100, .bool b100]) ∧ Br (!b100)
  (Does Tryz.prog 111 #[.pointer a0, .int .i64 11] w100 fun e106 w106 =>
  ∃ f106 : Nat, e106 = .returned (.float .f64 f106) ∧ R (.returned (.float .f64 f106)) w106)
  (R (.returned (.float .f64 f100)) w100))))
  (∀ wd20_1, Drew wd18 wd20_1 →
  ∃ b91_1 o91_1, a0 = some ⟨b91_1, o91_1, none⟩ ∧ ∃ s93_1 : ByteArray, wd20_1.cell? ⟨b91_1, o91_1, none⟩ = some (.string s93_1) ∧ ∃ b96_1 o96_1, a0 = some ⟨b96_1, o96_1, none⟩ ∧ ∃ n98_1 : Int, wd20_1.cell? ⟨b96_1, o96_1 + 1, none⟩ = some (.int .i64 n98_1) ∧ ((0 : Int) ≤ n98_1 ∧ n98_1 ≤ (s93_1.size : Int)) ∧ ((0 : Int) ≤ n47 ∧ n47 ≤ n98_1) ∧ Does Tryz.prog 110 #[.string (s93_1.extract ((n47).toNat) ((n98_1).toNat))] wd20_1 fun e100_1 w100_1 =>
  ∃ f100_1 : Nat, ∃ b100_1 : Bool, e100_1 = .returned (.tuple #[.float .f64 f100_1, .bool b100_1]) ∧ Br (!b100_1)
  (Does Tryz.prog 111 #[.pointer a0, .int .i64 11] w100_1 fun e106_1 w106_1 =>
  ∃ f106_1 : Nat, e106_1 = .returned (.float .f64 f106_1) ∧ R (.returned (.float .f64 f106_1)) w106_1)
  (R (.returned (.float .f64 f100_1)) w100_1))))))))))
def f86_ann : Ann := { loops := [(18, [])], cuts := [], flip := [], throws := [] }
theorem f86_eq (a0 : Option Addr) (w : World) (R : Ending → World → Prop) : vc Tryz.prog f86_ann (bodyOf Tryz.f86) (retQ Tryz.prog Tryz.f86 R) (envOf Tryz.f86.ntmps [.v (.pointer a0)]) [] w = f86_vc a0 w R := by kernel_rfl
theorem f86_does (a0 : Option Addr) {w : World} {R : Ending → World → Prop} (h : f86_vc a0 w R) : Does Tryz.prog 86 #[.pointer a0] w R :=
  does_of_vc (ss := [.v (.pointer a0)]) f86_ann mixed call86 Tryz.func86 rfl rfl (show 1 ≤ Tryz.f86.ntmps by decide) ((f86_eq a0 w R).symm ▸ h)
/-- Of (*escritoire/calc.reader).factor (function 87): the condition. -/
def f87_vc (a0 : Option Addr) (w : World) (R : Ending → World → Prop) : Prop :=
  Does Tryz.prog 61 #[.pointer a0, .string (({ data := #[45] } : ByteArray))] w fun e5 w5 =>
  ∃ b5 : Bool, e5 = .returned (.bool b5) ∧ Br b5
  (Does Tryz.prog 112 #[.pointer a0, .func (.func 113) #[.pointer a0] #[]] w5 fun e9 w9 =>
  (∃ f9 : Nat, e9 = .returned (.float .f64 f9) ∧ R (.returned (.float .f64 f9)) w9) ∨ (∃ ch9, e9 = .panicked ch9 ∧ R (.panicked ch9) w9))
  (Does Tryz.prog 61 #[.pointer a0, .string (({ data := #[40] } : ByteArray))] w5 fun e12 w12 =>
  ∃ b12 : Bool, e12 = .returned (.bool b12) ∧ Br b12
  (Does Tryz.prog 112 #[.pointer a0, .func (.func 114) #[.pointer a0] #[]] w12 fun e16 w16 =>
  (∃ f16 : Nat, e16 = .returned (.float .f64 f16) ∧ R (.returned (.float .f64 f16)) w16) ∨ (∃ ch16, e16 = .panicked ch16 ∧ R (.panicked ch16) w16))
  (Does Tryz.prog 61 #[.pointer a0, .string (({ data := #[109, 105, 110] } : ByteArray))] w12 fun e19 w19 =>
  ∃ b19 : Bool, e19 = .returned (.bool b19) ∧ Br b19
  (Does Tryz.prog 115 #[.pointer a0, .func (.func 116) #[.pointer a0] #[]] w19 fun e23 w23 =>
  (∃ f23 : Nat, e23 = .returned (.float .f64 f23) ∧ R (.returned (.float .f64 f23)) w23) ∨ (∃ ch23, e23 = .panicked ch23 ∧ R (.panicked ch23) w23))
  (Does Tryz.prog 61 #[.pointer a0, .string (({ data := #[109, 97, 120] } : ByteArray))] w19 fun e26 w26 =>
  ∃ b26 : Bool, e26 = .returned (.bool b26) ∧ Br b26
  (Does Tryz.prog 115 #[.pointer a0, .func (.func 117) #[.pointer a0] #[]] w26 fun e30 w30 =>
  (∃ f30 : Nat, e30 = .returned (.float .f64 f30) ∧ R (.returned (.float .f64 f30)) w30) ∨ (∃ ch30, e30 = .panicked ch30 ∧ R (.panicked ch30) w30))
  (Does Tryz.prog 61 #[.pointer a0, .string (({ data := #[97, 98, 115] } : ByteArray))] w26 fun e33 w33 =>
  ∃ b33 : Bool, e33 = .returned (.bool b33) ∧ Br b33
  (Does Tryz.prog 115 #[.pointer a0, .func (.func 118) #[.pointer a0] #[]] w33 fun e37 w37 =>
  (∃ f37 : Nat, e37 = .returned (.float .f64 f37) ∧ R (.returned (.float .f64 f37)) w37) ∨ (∃ ch37, e37 = .panicked ch37 ∧ R (.panicked ch37) w37))
  (Does Tryz.prog 61 #[.pointer a0, .string (({ data := #[110, 97, 110] } : ByteArray))] w33 fun e40 w40 =>
  ∃ b40 : Bool, e40 = .returned (.bool b40) ∧ Br b40
  (Does Tryz.prog 23 #[] w40 fun e41 w41 =>
  ∃ f41 : Nat, e41 = .returned (.float .f64 f41) ∧ R (.returned (.float .f64 f41)) w41)
  (Does Tryz.prog 61 #[.pointer a0, .string (({ data := #[105, 110, 102] } : ByteArray))] w40 fun e44 w44 =>
  ∃ b44 : Bool, e44 = .returned (.bool b44) ∧ Br b44
  (Does Tryz.prog 24 #[.int .i64 1] w44 fun e45 w45 =>
  ∃ f45 : Nat, e45 = .returned (.float .f64 f45) ∧ R (.returned (.float .f64 f45)) w45)
  (Does Tryz.prog 119 #[.pointer a0] w44 fun e47 w47 =>
  (∃ f47 : Nat, e47 = .returned (.float .f64 f47) ∧ R (.returned (.float .f64 f47)) w47) ∨ (∃ ch47, e47 = .panicked ch47 ∧ R (.panicked ch47) w47))))))))
def f87_ann : Ann := { loops := [], cuts := [], flip := [], throws := [112, 115, 119] }
theorem f87_eq (a0 : Option Addr) (w : World) (R : Ending → World → Prop) : vc Tryz.prog f87_ann (bodyOf Tryz.f87) (retQ Tryz.prog Tryz.f87 R) (envOf Tryz.f87.ntmps [.v (.pointer a0)]) [] w = f87_vc a0 w R := by kernel_rfl
theorem f87_does (a0 : Option Addr) {w : World} {R : Ending → World → Prop} (h : f87_vc a0 w R) : Does Tryz.prog 87 #[.pointer a0] w R :=
  does_of_vc (ss := [.v (.pointer a0)]) f87_ann mixed call87 Tryz.func87 rfl rfl (show 1 ≤ Tryz.f87.ntmps by decide) ((f87_eq a0 w R).symm ▸ h)
/-- Of internal/stringslite.Index (function 88): the condition. -/
def f88_vc (a0 : ByteArray) (a1 : ByteArray) (w : World) (R : Ending → World → Prop) : Prop :=
  Br (((a1.size : Int)) == 0)
  (R (.returned (.int .i64 0)) w)
  (Br (a1.toList == a0.toList)
  (R (.returned (.int .i64 0)) w)
  (Br (((a1.size : Int)) == 1)
  (((0 : Int) ≤ 0 ∧ 0 < (a1.size : Int)) ∧ Does Tryz.prog 120 #[.string a0, .int .u8 (sb a1 0)] w fun e30 w30 =>
  ∃ n30 : Int, e30 = .returned (.int .i64 n30) ∧ R (.returned (.int .i64 n30)) w30)
  (Br (decide (((a1.size : Int)) ≥ ((a0.size : Int))))
  (R (.returned (.int .i64 (-1))) w)
  (∃ n38 : Int, w.cell? ⟨4, 0, none⟩ = some (.int .i64 n38) ∧ Br (decide (((a1.size : Int)) ≤ n38))
  (Br (decide (((a0.size : Int)) ≤ 64))
  (Does Tryz.prog 121 #[.string a0, .string a1] w fun e47 w47 =>
  ∃ n47 : Int, e47 = .returned (.int .i64 n47) ∧ R (.returned (.int .i64 n47)) w47)
  (((0 : Int) ≤ 0 ∧ 0 < (a1.size : Int)) ∧ ((0 : Int) ≤ 1 ∧ 1 < (a1.size : Int)) ∧ InK .i64 (((a0.size : Int)) - ((a1.size : Int))) ∧ InK .i64 ((((a0.size : Int)) - ((a1.size : Int))) + 1) ∧ ∃ I15 : Int → Int → Nat → World → Prop, (∃ nl15, I15 0 0 nl15 w) ∧ ∀ x8 : Int, ∀ x10 : Int, ∀ (nl15 : Nat) (wl15 : World), I15 x8 x10 nl15 wl15 →
  Br (decide (x8 < ((((a0.size : Int)) - ((a1.size : Int))) + 1)))
  (((0 : Int) ≤ x8 ∧ x8 < (a0.size : Int)) ∧ Br ((sb a0 x8) != (sb a1 0))
  (InK .i64 (x8 + 1) ∧ ((0 : Int) ≤ ((((a0.size : Int)) - ((a1.size : Int))) + 1) ∧ ((((a0.size : Int)) - ((a1.size : Int))) + 1) ≤ (a0.size : Int)) ∧ ((0 : Int) ≤ (x8 + 1) ∧ (x8 + 1) ≤ ((((a0.size : Int)) - ((a1.size : Int))) + 1)) ∧ Does Tryz.prog 120 #[.string (a0.extract ((x8 + 1).toNat) (((((a0.size : Int)) - ((a1.size : Int))) + 1).toNat)), .int .u8 (sb a1 0)] wl15 fun e71 w71 =>
  ∃ n71 : Int, e71 = .returned (.int .i64 n71) ∧ Br (decide (n71 < 0))
  (R (.returned (.int .i64 (-1))) w71)
  (InK .i64 (n71 + 1) ∧ InK .i64 (x8 + (n71 + 1)) ∧ InK .i64 ((x8 + (n71 + 1)) + 1) ∧ ((0 : Int) ≤ ((x8 + (n71 + 1)) + 1) ∧ ((x8 + (n71 + 1)) + 1) < (a0.size : Int)) ∧ Br ((sb a0 ((x8 + (n71 + 1)) + 1)) == (sb a1 1))
  (InK .i64 ((x8 + (n71 + 1)) + ((a1.size : Int))) ∧ ((0 : Int) ≤ ((x8 + (n71 + 1)) + ((a1.size : Int))) ∧ ((x8 + (n71 + 1)) + ((a1.size : Int))) ≤ (a0.size : Int)) ∧ ((0 : Int) ≤ (x8 + (n71 + 1)) ∧ (x8 + (n71 + 1)) ≤ ((x8 + (n71 + 1)) + ((a1.size : Int)))) ∧ Br ((a0.extract ((x8 + (n71 + 1)).toNat) (((x8 + (n71 + 1)) + ((a1.size : Int))).toNat)).toList == a1.toList)
  (R (.returned (.int .i64 (x8 + (n71 + 1)))) w71)
  (InK .i64 ((x8 + (n71 + 1)) + 1) ∧ InK .i64 (x10 + 1) ∧ ∃ n100 : Int, w71.cell? ⟨4, 0, none⟩ = some (.int .i64 n100) ∧ Br (decide (((a1.size : Int)) ≤ n100))
  (Does Tryz.prog 122 #[.int .i64 ((x8 + (n71 + 1)) + 1)] w71 fun e105 w105 =>
  ∃ n105 : Int, e105 = .returned (.int .i64 n105) ∧ Br (decide ((x10 + 1) > n105))
  (((0 : Int) ≤ ((x8 + (n71 + 1)) + 1) ∧ ((x8 + (n71 + 1)) + 1) ≤ (a0.size : Int)) ∧ Does Tryz.prog 121 #[.string (a0.extract (((x8 + (n71 + 1)) + 1).toNat) a0.size), .string a1] w105 fun e112 w112 =>
  ∃ n112 : Int, e112 = .returned (.int .i64 n112) ∧ Br (decide (n112 ≥ 0))
  (InK .i64 (n112 + ((x8 + (n71 + 1)) + 1)) ∧ R (.returned (.int .i64 (n112 + ((x8 + (n71 + 1)) + 1)))) w112)
  (R (.returned (.int .i64 (-1))) w112))
  (∃ n119 : Int, w105.cell? ⟨4, 0, none⟩ = some (.int .i64 n119) ∧ Br (decide (((a1.size : Int)) > n119))
  ((0 : Int) ≤ 4 ∧ InK .i64 (4 + (((x8 + (n71 + 1)) + 1).fdiv (2 ^ 4))) ∧ Br (decide ((x10 + 1) ≥ (4 + (((x8 + (n71 + 1)) + 1).fdiv (2 ^ 4)))))
  (Br (decide (((x8 + (n71 + 1)) + 1) < ((((a0.size : Int)) - ((a1.size : Int))) + 1)))
  (((0 : Int) ≤ ((x8 + (n71 + 1)) + 1) ∧ ((x8 + (n71 + 1)) + 1) ≤ (a0.size : Int)) ∧ Does Tryz.prog 123 #[.string (a0.extract (((x8 + (n71 + 1)) + 1).toNat) a0.size), .string a1] w105 fun e137 w137 =>
  ∃ n137 : Int, e137 = .returned (.int .i64 n137) ∧ Br (decide (n137 < 0))
  (R (.returned (.int .i64 (-1))) w137)
  (InK .i64 (((x8 + (n71 + 1)) + 1) + n137) ∧ R (.returned (.int .i64 (((x8 + (n71 + 1)) + 1) + n137))) w137))
  (∃ ml15, ml15 < nl15 ∧ I15 ((x8 + (n71 + 1)) + 1) (x10 + 1) ml15 w105))
  (∃ ml15, ml15 < nl15 ∧ I15 ((x8 + (n71 + 1)) + 1) (x10 + 1) ml15 w105))
  (∃ ml15, ml15 < nl15 ∧ I15 ((x8 + (n71 + 1)) + 1) (x10 + 1) ml15 w105)))
  (∃ n119_1 : Int, w71.cell? ⟨4, 0, none⟩ = some (.int .i64 n119_1) ∧ Br (decide (((a1.size : Int)) > n119_1))
  ((0 : Int) ≤ 4 ∧ InK .i64 (4 + (((x8 + (n71 + 1)) + 1).fdiv (2 ^ 4))) ∧ Br (decide ((x10 + 1) ≥ (4 + (((x8 + (n71 + 1)) + 1).fdiv (2 ^ 4)))))
  (Br (decide (((x8 + (n71 + 1)) + 1) < ((((a0.size : Int)) - ((a1.size : Int))) + 1)))
  (((0 : Int) ≤ ((x8 + (n71 + 1)) + 1) ∧ ((x8 + (n71 + 1)) + 1) ≤ (a0.size : Int)) ∧ Does Tryz.prog 123 #[.string (a0.extract (((x8 + (n71 + 1)) + 1).toNat) a0.size), .string a1] w71 fun e137_1 w137_1 =>
  ∃ n137_1 : Int, e137_1 = .returned (.int .i64 n137_1) ∧ Br (decide (n137_1 < 0))
  (R (.returned (.int .i64 (-1))) w137_1)
  (InK .i64 (((x8 + (n71 + 1)) + 1) + n137_1) ∧ R (.returned (.int .i64 (((x8 + (n71 + 1)) + 1) + n137_1))) w137_1))
  (∃ ml15, ml15 < nl15 ∧ I15 ((x8 + (n71 + 1)) + 1) (x10 + 1) ml15 w71))
  (∃ ml15, ml15 < nl15 ∧ I15 ((x8 + (n71 + 1)) + 1) (x10 + 1) ml15 w71))
  (∃ ml15, ml15 < nl15 ∧ I15 ((x8 + (n71 + 1)) + 1) (x10 + 1) ml15 w71))))
  (InK .i64 ((x8 + (n71 + 1)) + 1) ∧ InK .i64 (x10 + 1) ∧ ∃ n100_1 : Int, w71.cell? ⟨4, 0, none⟩ = some (.int .i64 n100_1) ∧ Br (decide (((a1.size : Int)) ≤ n100_1))
  (Does Tryz.prog 122 #[.int .i64 ((x8 + (n71 + 1)) + 1)] w71 fun e105_1 w105_1 =>
  ∃ n105_1 : Int, e105_1 = .returned (.int .i64 n105_1) ∧ Br (decide ((x10 + 1) > n105_1))
  (((0 : Int) ≤ ((x8 + (n71 + 1)) + 1) ∧ ((x8 + (n71 + 1)) + 1) ≤ (a0.size : Int)) ∧ Does Tryz.prog 121 #[.string (a0.extract (((x8 + (n71 + 1)) + 1).toNat) a0.size), .string a1] w105_1 fun e112_1 w112_1 =>
  ∃ n112_1 : Int, e112_1 = .returned (.int .i64 n112_1) ∧ Br (decide (n112_1 ≥ 0))
  (InK .i64 (n112_1 + ((x8 + (n71 + 1)) + 1)) ∧ R (.returned (.int .i64 (n112_1 + ((x8 + (n71 + 1)) + 1)))) w112_1)
  (R (.returned (.int .i64 (-1))) w112_1))
  (∃ n119_2 : Int, w105_1.cell? ⟨4, 0, none⟩ = some (.int .i64 n119_2) ∧ Br (decide (((a1.size : Int)) > n119_2))
  ((0 : Int) ≤ 4 ∧ InK .i64 (4 + (((x8 + (n71 + 1)) + 1).fdiv (2 ^ 4))) ∧ Br (decide ((x10 + 1) ≥ (4 + (((x8 + (n71 + 1)) + 1).fdiv (2 ^ 4)))))
  (Br (decide (((x8 + (n71 + 1)) + 1) < ((((a0.size : Int)) - ((a1.size : Int))) + 1)))
  (((0 : Int) ≤ ((x8 + (n71 + 1)) + 1) ∧ ((x8 + (n71 + 1)) + 1) ≤ (a0.size : Int)) ∧ Does Tryz.prog 123 #[.string (a0.extract (((x8 + (n71 + 1)) + 1).toNat) a0.size), .string a1] w105_1 fun e137_2 w137_2 =>
  ∃ n137_2 : Int, e137_2 = .returned (.int .i64 n137_2) ∧ Br (decide (n137_2 < 0))
  (R (.returned (.int .i64 (-1))) w137_2)
  (InK .i64 (((x8 + (n71 + 1)) + 1) + n137_2) ∧ R (.returned (.int .i64 (((x8 + (n71 + 1)) + 1) + n137_2))) w137_2))
  (∃ ml15, ml15 < nl15 ∧ I15 ((x8 + (n71 + 1)) + 1) (x10 + 1) ml15 w105_1))
  (∃ ml15, ml15 < nl15 ∧ I15 ((x8 + (n71 + 1)) + 1) (x10 + 1) ml15 w105_1))
  (∃ ml15, ml15 < nl15 ∧ I15 ((x8 + (n71 + 1)) + 1) (x10 + 1) ml15 w105_1)))
  (∃ n119_3 : Int, w71.cell? ⟨4, 0, none⟩ = some (.int .i64 n119_3) ∧ Br (decide (((a1.size : Int)) > n119_3))
  ((0 : Int) ≤ 4 ∧ InK .i64 (4 + (((x8 + (n71 + 1)) + 1).fdiv (2 ^ 4))) ∧ Br (decide ((x10 + 1) ≥ (4 + (((x8 + (n71 + 1)) + 1).fdiv (2 ^ 4)))))
  (Br (decide (((x8 + (n71 + 1)) + 1) < ((((a0.size : Int)) - ((a1.size : Int))) + 1)))
  (((0 : Int) ≤ ((x8 + (n71 + 1)) + 1) ∧ ((x8 + (n71 + 1)) + 1) ≤ (a0.size : Int)) ∧ Does Tryz.prog 123 #[.string (a0.extract (((x8 + (n71 + 1)) + 1).toNat) a0.size), .string a1] w71 fun e137_3 w137_3 =>
  ∃ n137_3 : Int, e137_3 = .returned (.int .i64 n137_3) ∧ Br (decide (n137_3 < 0))
  (R (.returned (.int .i64 (-1))) w137_3)
  (InK .i64 (((x8 + (n71 + 1)) + 1) + n137_3) ∧ R (.returned (.int .i64 (((x8 + (n71 + 1)) + 1) + n137_3))) w137_3))
  (∃ ml15, ml15 < nl15 ∧ I15 ((x8 + (n71 + 1)) + 1) (x10 + 1) ml15 w71))
  (∃ ml15, ml15 < nl15 ∧ I15 ((x8 + (n71 + 1)) + 1) (x10 + 1) ml15 w71))
  (∃ ml15, ml15 < nl15 ∧ I15 ((x8 + (n71 + 1)) + 1) (x10 + 1) ml15 w71)))))
  (InK .i64 (x8 + 1) ∧ ((0 : Int) ≤ (x8 + 1) ∧ (x8 + 1) < (a0.size : Int)) ∧ Br ((sb a0 (x8 + 1)) == (sb a1 1))
  (InK .i64 (x8 + ((a1.size : Int))) ∧ ((0 : Int) ≤ (x8 + ((a1.size : Int))) ∧ (x8 + ((a1.size : Int))) ≤ (a0.size : Int)) ∧ ((0 : Int) ≤ x8 ∧ x8 ≤ (x8 + ((a1.size : Int)))) ∧ Br ((a0.extract ((x8).toNat) ((x8 + ((a1.size : Int))).toNat)).toList == a1.toList)
  (R (.returned (.int .i64 x8)) wl15)
  (InK .i64 (x8 + 1) ∧ InK .i64 (x10 + 1) ∧ ∃ n100_2 : Int, wl15.cell? ⟨4, 0, none⟩ = some (.int .i64 n100_2) ∧ Br (decide (((a1.size : Int)) ≤ n100_2))
  (Does Tryz.prog 122 #[.int .i64 (x8 + 1)] wl15 fun e105_2 w105_2 =>
  ∃ n105_2 : Int, e105_2 = .returned (.int .i64 n105_2) ∧ Br (decide ((x10 + 1) > n105_2))
  (((0 : Int) ≤ (x8 + 1) ∧ (x8 + 1) ≤ (a0.size : Int)) ∧ Does Tryz.prog 121 #[.string (a0.extract ((x8 + 1).toNat) a0.size), .string a1] w105_2 fun e112_2 w112_2 =>
  ∃ n112_2 : Int, e112_2 = .returned (.int .i64 n112_2) ∧ Br (decide (n112_2 ≥ 0))
  (InK .i64 (n112_2 + (x8 + 1)) ∧ R (.returned (.int .i64 (n112_2 + (x8 + 1)))) w112_2)
  (R (.returned (.int .i64 (-1))) w112_2))
  (∃ n119_4 : Int, w105_2.cell? ⟨4, 0, none⟩ = some (.int .i64 n119_4) ∧ Br (decide (((a1.size : Int)) > n119_4))
  ((0 : Int) ≤ 4 ∧ InK .i64 (4 + ((x8 + 1).fdiv (2 ^ 4))) ∧ Br (decide ((x10 + 1) ≥ (4 + ((x8 + 1).fdiv (2 ^ 4)))))
  (Br (decide ((x8 + 1) < ((((a0.size : Int)) - ((a1.size : Int))) + 1)))
  (((0 : Int) ≤ (x8 + 1) ∧ (x8 + 1) ≤ (a0.size : Int)) ∧ Does Tryz.prog 123 #[.string (a0.extract ((x8 + 1).toNat) a0.size), .string a1] w105_2 fun e137_4 w137_4 =>
  ∃ n137_4 : Int, e137_4 = .returned (.int .i64 n137_4) ∧ Br (decide (n137_4 < 0))
  (R (.returned (.int .i64 (-1))) w137_4)
  (InK .i64 ((x8 + 1) + n137_4) ∧ R (.returned (.int .i64 ((x8 + 1) + n137_4))) w137_4))
  (∃ ml15, ml15 < nl15 ∧ I15 (x8 + 1) (x10 + 1) ml15 w105_2))
  (∃ ml15, ml15 < nl15 ∧ I15 (x8 + 1) (x10 + 1) ml15 w105_2))
  (∃ ml15, ml15 < nl15 ∧ I15 (x8 + 1) (x10 + 1) ml15 w105_2)))
  (∃ n119_5 : Int, wl15.cell? ⟨4, 0, none⟩ = some (.int .i64 n119_5) ∧ Br (decide (((a1.size : Int)) > n119_5))
  ((0 : Int) ≤ 4 ∧ InK .i64 (4 + ((x8 + 1).fdiv (2 ^ 4))) ∧ Br (decide ((x10 + 1) ≥ (4 + ((x8 + 1).fdiv (2 ^ 4)))))
  (Br (decide ((x8 + 1) < ((((a0.size : Int)) - ((a1.size : Int))) + 1)))
  (((0 : Int) ≤ (x8 + 1) ∧ (x8 + 1) ≤ (a0.size : Int)) ∧ Does Tryz.prog 123 #[.string (a0.extract ((x8 + 1).toNat) a0.size), .string a1] wl15 fun e137_5 w137_5 =>
  ∃ n137_5 : Int, e137_5 = .returned (.int .i64 n137_5) ∧ Br (decide (n137_5 < 0))
  (R (.returned (.int .i64 (-1))) w137_5)
  (InK .i64 ((x8 + 1) + n137_5) ∧ R (.returned (.int .i64 ((x8 + 1) + n137_5))) w137_5))
  (∃ ml15, ml15 < nl15 ∧ I15 (x8 + 1) (x10 + 1) ml15 wl15))
  (∃ ml15, ml15 < nl15 ∧ I15 (x8 + 1) (x10 + 1) ml15 wl15))
  (∃ ml15, ml15 < nl15 ∧ I15 (x8 + 1) (x10 + 1) ml15 wl15))))
  (InK .i64 (x8 + 1) ∧ InK .i64 (x10 + 1) ∧ ∃ n100_3 : Int, wl15.cell? ⟨4, 0, none⟩ = some (.int .i64 n100_3) ∧ Br (decide (((a1.size : Int)) ≤ n100_3))
  (Does Tryz.prog 122 #[.int .i64 (x8 + 1)] wl15 fun e105_3 w105_3 =>
  ∃ n105_3 : Int, e105_3 = .returned (.int .i64 n105_3) ∧ Br (decide ((x10 + 1) > n105_3))
  (((0 : Int) ≤ (x8 + 1) ∧ (x8 + 1) ≤ (a0.size : Int)) ∧ Does Tryz.prog 121 #[.string (a0.extract ((x8 + 1).toNat) a0.size), .string a1] w105_3 fun e112_3 w112_3 =>
  ∃ n112_3 : Int, e112_3 = .returned (.int .i64 n112_3) ∧ Br (decide (n112_3 ≥ 0))
  (InK .i64 (n112_3 + (x8 + 1)) ∧ R (.returned (.int .i64 (n112_3 + (x8 + 1)))) w112_3)
  (R (.returned (.int .i64 (-1))) w112_3))
  (∃ n119_6 : Int, w105_3.cell? ⟨4, 0, none⟩ = some (.int .i64 n119_6) ∧ Br (decide (((a1.size : Int)) > n119_6))
  ((0 : Int) ≤ 4 ∧ InK .i64 (4 + ((x8 + 1).fdiv (2 ^ 4))) ∧ Br (decide ((x10 + 1) ≥ (4 + ((x8 + 1).fdiv (2 ^ 4)))))
  (Br (decide ((x8 + 1) < ((((a0.size : Int)) - ((a1.size : Int))) + 1)))
  (((0 : Int) ≤ (x8 + 1) ∧ (x8 + 1) ≤ (a0.size : Int)) ∧ Does Tryz.prog 123 #[.string (a0.extract ((x8 + 1).toNat) a0.size), .string a1] w105_3 fun e137_6 w137_6 =>
  ∃ n137_6 : Int, e137_6 = .returned (.int .i64 n137_6) ∧ Br (decide (n137_6 < 0))
  (R (.returned (.int .i64 (-1))) w137_6)
  (InK .i64 ((x8 + 1) + n137_6) ∧ R (.returned (.int .i64 ((x8 + 1) + n137_6))) w137_6))
  (∃ ml15, ml15 < nl15 ∧ I15 (x8 + 1) (x10 + 1) ml15 w105_3))
  (∃ ml15, ml15 < nl15 ∧ I15 (x8 + 1) (x10 + 1) ml15 w105_3))
  (∃ ml15, ml15 < nl15 ∧ I15 (x8 + 1) (x10 + 1) ml15 w105_3)))
  (∃ n119_7 : Int, wl15.cell? ⟨4, 0, none⟩ = some (.int .i64 n119_7) ∧ Br (decide (((a1.size : Int)) > n119_7))
  ((0 : Int) ≤ 4 ∧ InK .i64 (4 + ((x8 + 1).fdiv (2 ^ 4))) ∧ Br (decide ((x10 + 1) ≥ (4 + ((x8 + 1).fdiv (2 ^ 4)))))
  (Br (decide ((x8 + 1) < ((((a0.size : Int)) - ((a1.size : Int))) + 1)))
  (((0 : Int) ≤ (x8 + 1) ∧ (x8 + 1) ≤ (a0.size : Int)) ∧ Does Tryz.prog 123 #[.string (a0.extract ((x8 + 1).toNat) a0.size), .string a1] wl15 fun e137_7 w137_7 =>
  ∃ n137_7 : Int, e137_7 = .returned (.int .i64 n137_7) ∧ Br (decide (n137_7 < 0))
  (R (.returned (.int .i64 (-1))) w137_7)
  (InK .i64 ((x8 + 1) + n137_7) ∧ R (.returned (.int .i64 ((x8 + 1) + n137_7))) w137_7))
  (∃ ml15, ml15 < nl15 ∧ I15 (x8 + 1) (x10 + 1) ml15 wl15))
  (∃ ml15, ml15 < nl15 ∧ I15 (x8 + 1) (x10 + 1) ml15 wl15))
  (∃ ml15, ml15 < nl15 ∧ I15 (x8 + 1) (x10 + 1) ml15 wl15)))))
  (R (.returned (.int .i64 (-1))) wl15)))
  (((0 : Int) ≤ 0 ∧ 0 < (a1.size : Int)) ∧ ((0 : Int) ≤ 1 ∧ 1 < (a1.size : Int)) ∧ InK .i64 (((a0.size : Int)) - ((a1.size : Int))) ∧ InK .i64 ((((a0.size : Int)) - ((a1.size : Int))) + 1) ∧ ∃ I15_1 : Int → Int → Nat → World → Prop, (∃ nl15_1, I15_1 0 0 nl15_1 w) ∧ ∀ x8_1 : Int, ∀ x10_1 : Int, ∀ (nl15_1 : Nat) (wl15_1 : World), I15_1 x8_1 x10_1 nl15_1 wl15_1 →
  Br (decide (x8_1 < ((((a0.size : Int)) - ((a1.size : Int))) + 1)))
  (((0 : Int) ≤ x8_1 ∧ x8_1 < (a0.size : Int)) ∧ Br ((sb a0 x8_1) != (sb a1 0))
  (InK .i64 (x8_1 + 1) ∧ ((0 : Int) ≤ ((((a0.size : Int)) - ((a1.size : Int))) + 1) ∧ ((((a0.size : Int)) - ((a1.size : Int))) + 1) ≤ (a0.size : Int)) ∧ ((0 : Int) ≤ (x8_1 + 1) ∧ (x8_1 + 1) ≤ ((((a0.size : Int)) - ((a1.size : Int))) + 1)) ∧ Does Tryz.prog 120 #[.string (a0.extract ((x8_1 + 1).toNat) (((((a0.size : Int)) - ((a1.size : Int))) + 1).toNat)), .int .u8 (sb a1 0)] wl15_1 fun e71_1 w71_1 =>
  ∃ n71_1 : Int, e71_1 = .returned (.int .i64 n71_1) ∧ Br (decide (n71_1 < 0))
  (R (.returned (.int .i64 (-1))) w71_1)
  (InK .i64 (n71_1 + 1) ∧ InK .i64 (x8_1 + (n71_1 + 1)) ∧ InK .i64 ((x8_1 + (n71_1 + 1)) + 1) ∧ ((0 : Int) ≤ ((x8_1 + (n71_1 + 1)) + 1) ∧ ((x8_1 + (n71_1 + 1)) + 1) < (a0.size : Int)) ∧ Br ((sb a0 ((x8_1 + (n71_1 + 1)) + 1)) == (sb a1 1))
  (InK .i64 ((x8_1 + (n71_1 + 1)) + ((a1.size : Int))) ∧ ((0 : Int) ≤ ((x8_1 + (n71_1 + 1)) + ((a1.size : Int))) ∧ ((x8_1 + (n71_1 + 1)) + ((a1.size : Int))) ≤ (a0.size : Int)) ∧ ((0 : Int) ≤ (x8_1 + (n71_1 + 1)) ∧ (x8_1 + (n71_1 + 1)) ≤ ((x8_1 + (n71_1 + 1)) + ((a1.size : Int)))) ∧ Br ((a0.extract ((x8_1 + (n71_1 + 1)).toNat) (((x8_1 + (n71_1 + 1)) + ((a1.size : Int))).toNat)).toList == a1.toList)
  (R (.returned (.int .i64 (x8_1 + (n71_1 + 1)))) w71_1)
  (InK .i64 ((x8_1 + (n71_1 + 1)) + 1) ∧ InK .i64 (x10_1 + 1) ∧ ∃ n100_4 : Int, w71_1.cell? ⟨4, 0, none⟩ = some (.int .i64 n100_4) ∧ Br (decide (((a1.size : Int)) ≤ n100_4))
  (Does Tryz.prog 122 #[.int .i64 ((x8_1 + (n71_1 + 1)) + 1)] w71_1 fun e105_4 w105_4 =>
  ∃ n105_4 : Int, e105_4 = .returned (.int .i64 n105_4) ∧ Br (decide ((x10_1 + 1) > n105_4))
  (((0 : Int) ≤ ((x8_1 + (n71_1 + 1)) + 1) ∧ ((x8_1 + (n71_1 + 1)) + 1) ≤ (a0.size : Int)) ∧ Does Tryz.prog 121 #[.string (a0.extract (((x8_1 + (n71_1 + 1)) + 1).toNat) a0.size), .string a1] w105_4 fun e112_4 w112_4 =>
  ∃ n112_4 : Int, e112_4 = .returned (.int .i64 n112_4) ∧ Br (decide (n112_4 ≥ 0))
  (InK .i64 (n112_4 + ((x8_1 + (n71_1 + 1)) + 1)) ∧ R (.returned (.int .i64 (n112_4 + ((x8_1 + (n71_1 + 1)) + 1)))) w112_4)
  (R (.returned (.int .i64 (-1))) w112_4))
  (∃ n119_8 : Int, w105_4.cell? ⟨4, 0, none⟩ = some (.int .i64 n119_8) ∧ Br (decide (((a1.size : Int)) > n119_8))
  ((0 : Int) ≤ 4 ∧ InK .i64 (4 + (((x8_1 + (n71_1 + 1)) + 1).fdiv (2 ^ 4))) ∧ Br (decide ((x10_1 + 1) ≥ (4 + (((x8_1 + (n71_1 + 1)) + 1).fdiv (2 ^ 4)))))
  (Br (decide (((x8_1 + (n71_1 + 1)) + 1) < ((((a0.size : Int)) - ((a1.size : Int))) + 1)))
  (((0 : Int) ≤ ((x8_1 + (n71_1 + 1)) + 1) ∧ ((x8_1 + (n71_1 + 1)) + 1) ≤ (a0.size : Int)) ∧ Does Tryz.prog 123 #[.string (a0.extract (((x8_1 + (n71_1 + 1)) + 1).toNat) a0.size), .string a1] w105_4 fun e137_8 w137_8 =>
  ∃ n137_8 : Int, e137_8 = .returned (.int .i64 n137_8) ∧ Br (decide (n137_8 < 0))
  (R (.returned (.int .i64 (-1))) w137_8)
  (InK .i64 (((x8_1 + (n71_1 + 1)) + 1) + n137_8) ∧ R (.returned (.int .i64 (((x8_1 + (n71_1 + 1)) + 1) + n137_8))) w137_8))
  (∃ ml15_1, ml15_1 < nl15_1 ∧ I15_1 ((x8_1 + (n71_1 + 1)) + 1) (x10_1 + 1) ml15_1 w105_4))
  (∃ ml15_1, ml15_1 < nl15_1 ∧ I15_1 ((x8_1 + (n71_1 + 1)) + 1) (x10_1 + 1) ml15_1 w105_4))
  (∃ ml15_1, ml15_1 < nl15_1 ∧ I15_1 ((x8_1 + (n71_1 + 1)) + 1) (x10_1 + 1) ml15_1 w105_4)))
  (∃ n119_9 : Int, w71_1.cell? ⟨4, 0, none⟩ = some (.int .i64 n119_9) ∧ Br (decide (((a1.size : Int)) > n119_9))
  ((0 : Int) ≤ 4 ∧ InK .i64 (4 + (((x8_1 + (n71_1 + 1)) + 1).fdiv (2 ^ 4))) ∧ Br (decide ((x10_1 + 1) ≥ (4 + (((x8_1 + (n71_1 + 1)) + 1).fdiv (2 ^ 4)))))
  (Br (decide (((x8_1 + (n71_1 + 1)) + 1) < ((((a0.size : Int)) - ((a1.size : Int))) + 1)))
  (((0 : Int) ≤ ((x8_1 + (n71_1 + 1)) + 1) ∧ ((x8_1 + (n71_1 + 1)) + 1) ≤ (a0.size : Int)) ∧ Does Tryz.prog 123 #[.string (a0.extract (((x8_1 + (n71_1 + 1)) + 1).toNat) a0.size), .string a1] w71_1 fun e137_9 w137_9 =>
  ∃ n137_9 : Int, e137_9 = .returned (.int .i64 n137_9) ∧ Br (decide (n137_9 < 0))
  (R (.returned (.int .i64 (-1))) w137_9)
  (InK .i64 (((x8_1 + (n71_1 + 1)) + 1) + n137_9) ∧ R (.returned (.int .i64 (((x8_1 + (n71_1 + 1)) + 1) + n137_9))) w137_9))
  (∃ ml15_1, ml15_1 < nl15_1 ∧ I15_1 ((x8_1 + (n71_1 + 1)) + 1) (x10_1 + 1) ml15_1 w71_1))
  (∃ ml15_1, ml15_1 < nl15_1 ∧ I15_1 ((x8_1 + (n71_1 + 1)) + 1) (x10_1 + 1) ml15_1 w71_1))
  (∃ ml15_1, ml15_1 < nl15_1 ∧ I15_1 ((x8_1 + (n71_1 + 1)) + 1) (x10_1 + 1) ml15_1 w71_1))))
  (InK .i64 ((x8_1 + (n71_1 + 1)) + 1) ∧ InK .i64 (x10_1 + 1) ∧ ∃ n100_5 : Int, w71_1.cell? ⟨4, 0, none⟩ = some (.int .i64 n100_5) ∧ Br (decide (((a1.size : Int)) ≤ n100_5))
  (Does Tryz.prog 122 #[.int .i64 ((x8_1 + (n71_1 + 1)) + 1)] w71_1 fun e105_5 w105_5 =>
  ∃ n105_5 : Int, e105_5 = .returned (.int .i64 n105_5) ∧ Br (decide ((x10_1 + 1) > n105_5))
  (((0 : Int) ≤ ((x8_1 + (n71_1 + 1)) + 1) ∧ ((x8_1 + (n71_1 + 1)) + 1) ≤ (a0.size : Int)) ∧ Does Tryz.prog 121 #[.string (a0.extract (((x8_1 + (n71_1 + 1)) + 1).toNat) a0.size), .string a1] w105_5 fun e112_5 w112_5 =>
  ∃ n112_5 : Int, e112_5 = .returned (.int .i64 n112_5) ∧ Br (decide (n112_5 ≥ 0))
  (InK .i64 (n112_5 + ((x8_1 + (n71_1 + 1)) + 1)) ∧ R (.returned (.int .i64 (n112_5 + ((x8_1 + (n71_1 + 1)) + 1)))) w112_5)
  (R (.returned (.int .i64 (-1))) w112_5))
  (∃ n119_10 : Int, w105_5.cell? ⟨4, 0, none⟩ = some (.int .i64 n119_10) ∧ Br (decide (((a1.size : Int)) > n119_10))
  ((0 : Int) ≤ 4 ∧ InK .i64 (4 + (((x8_1 + (n71_1 + 1)) + 1).fdiv (2 ^ 4))) ∧ Br (decide ((x10_1 + 1) ≥ (4 + (((x8_1 + (n71_1 + 1)) + 1).fdiv (2 ^ 4)))))
  (Br (decide (((x8_1 + (n71_1 + 1)) + 1) < ((((a0.size : Int)) - ((a1.size : Int))) + 1)))
  (((0 : Int) ≤ ((x8_1 + (n71_1 + 1)) + 1) ∧ ((x8_1 + (n71_1 + 1)) + 1) ≤ (a0.size : Int)) ∧ Does Tryz.prog 123 #[.string (a0.extract (((x8_1 + (n71_1 + 1)) + 1).toNat) a0.size), .string a1] w105_5 fun e137_10 w137_10 =>
  ∃ n137_10 : Int, e137_10 = .returned (.int .i64 n137_10) ∧ Br (decide (n137_10 < 0))
  (R (.returned (.int .i64 (-1))) w137_10)
  (InK .i64 (((x8_1 + (n71_1 + 1)) + 1) + n137_10) ∧ R (.returned (.int .i64 (((x8_1 + (n71_1 + 1)) + 1) + n137_10))) w137_10))
  (∃ ml15_1, ml15_1 < nl15_1 ∧ I15_1 ((x8_1 + (n71_1 + 1)) + 1) (x10_1 + 1) ml15_1 w105_5))
  (∃ ml15_1, ml15_1 < nl15_1 ∧ I15_1 ((x8_1 + (n71_1 + 1)) + 1) (x10_1 + 1) ml15_1 w105_5))
  (∃ ml15_1, ml15_1 < nl15_1 ∧ I15_1 ((x8_1 + (n71_1 + 1)) + 1) (x10_1 + 1) ml15_1 w105_5)))
  (∃ n119_11 : Int, w71_1.cell? ⟨4, 0, none⟩ = some (.int .i64 n119_11) ∧ Br (decide (((a1.size : Int)) > n119_11))
  ((0 : Int) ≤ 4 ∧ InK .i64 (4 + (((x8_1 + (n71_1 + 1)) + 1).fdiv (2 ^ 4))) ∧ Br (decide ((x10_1 + 1) ≥ (4 + (((x8_1 + (n71_1 + 1)) + 1).fdiv (2 ^ 4)))))
  (Br (decide (((x8_1 + (n71_1 + 1)) + 1) < ((((a0.size : Int)) - ((a1.size : Int))) + 1)))
  (((0 : Int) ≤ ((x8_1 + (n71_1 + 1)) + 1) ∧ ((x8_1 + (n71_1 + 1)) + 1) ≤ (a0.size : Int)) ∧ Does Tryz.prog 123 #[.string (a0.extract (((x8_1 + (n71_1 + 1)) + 1).toNat) a0.size), .string a1] w71_1 fun e137_11 w137_11 =>
  ∃ n137_11 : Int, e137_11 = .returned (.int .i64 n137_11) ∧ Br (decide (n137_11 < 0))
  (R (.returned (.int .i64 (-1))) w137_11)
  (InK .i64 (((x8_1 + (n71_1 + 1)) + 1) + n137_11) ∧ R (.returned (.int .i64 (((x8_1 + (n71_1 + 1)) + 1) + n137_11))) w137_11))
  (∃ ml15_1, ml15_1 < nl15_1 ∧ I15_1 ((x8_1 + (n71_1 + 1)) + 1) (x10_1 + 1) ml15_1 w71_1))
  (∃ ml15_1, ml15_1 < nl15_1 ∧ I15_1 ((x8_1 + (n71_1 + 1)) + 1) (x10_1 + 1) ml15_1 w71_1))
  (∃ ml15_1, ml15_1 < nl15_1 ∧ I15_1 ((x8_1 + (n71_1 + 1)) + 1) (x10_1 + 1) ml15_1 w71_1)))))
  (InK .i64 (x8_1 + 1) ∧ ((0 : Int) ≤ (x8_1 + 1) ∧ (x8_1 + 1) < (a0.size : Int)) ∧ Br ((sb a0 (x8_1 + 1)) == (sb a1 1))
  (InK .i64 (x8_1 + ((a1.size : Int))) ∧ ((0 : Int) ≤ (x8_1 + ((a1.size : Int))) ∧ (x8_1 + ((a1.size : Int))) ≤ (a0.size : Int)) ∧ ((0 : Int) ≤ x8_1 ∧ x8_1 ≤ (x8_1 + ((a1.size : Int)))) ∧ Br ((a0.extract ((x8_1).toNat) ((x8_1 + ((a1.size : Int))).toNat)).toList == a1.toList)
  (R (.returned (.int .i64 x8_1)) wl15_1)
  (InK .i64 (x8_1 + 1) ∧ InK .i64 (x10_1 + 1) ∧ ∃ n100_6 : Int, wl15_1.cell? ⟨4, 0, none⟩ = some (.int .i64 n100_6) ∧ Br (decide (((a1.size : Int)) ≤ n100_6))
  (Does Tryz.prog 122 #[.int .i64 (x8_1 + 1)] wl15_1 fun e105_6 w105_6 =>
  ∃ n105_6 : Int, e105_6 = .returned (.int .i64 n105_6) ∧ Br (decide ((x10_1 + 1) > n105_6))
  (((0 : Int) ≤ (x8_1 + 1) ∧ (x8_1 + 1) ≤ (a0.size : Int)) ∧ Does Tryz.prog 121 #[.string (a0.extract ((x8_1 + 1).toNat) a0.size), .string a1] w105_6 fun e112_6 w112_6 =>
  ∃ n112_6 : Int, e112_6 = .returned (.int .i64 n112_6) ∧ Br (decide (n112_6 ≥ 0))
  (InK .i64 (n112_6 + (x8_1 + 1)) ∧ R (.returned (.int .i64 (n112_6 + (x8_1 + 1)))) w112_6)
  (R (.returned (.int .i64 (-1))) w112_6))
  (∃ n119_12 : Int, w105_6.cell? ⟨4, 0, none⟩ = some (.int .i64 n119_12) ∧ Br (decide (((a1.size : Int)) > n119_12))
  ((0 : Int) ≤ 4 ∧ InK .i64 (4 + ((x8_1 + 1).fdiv (2 ^ 4))) ∧ Br (decide ((x10_1 + 1) ≥ (4 + ((x8_1 + 1).fdiv (2 ^ 4)))))
  (Br (decide ((x8_1 + 1) < ((((a0.size : Int)) - ((a1.size : Int))) + 1)))
  (((0 : Int) ≤ (x8_1 + 1) ∧ (x8_1 + 1) ≤ (a0.size : Int)) ∧ Does Tryz.prog 123 #[.string (a0.extract ((x8_1 + 1).toNat) a0.size), .string a1] w105_6 fun e137_12 w137_12 =>
  ∃ n137_12 : Int, e137_12 = .returned (.int .i64 n137_12) ∧ Br (decide (n137_12 < 0))
  (R (.returned (.int .i64 (-1))) w137_12)
  (InK .i64 ((x8_1 + 1) + n137_12) ∧ R (.returned (.int .i64 ((x8_1 + 1) + n137_12))) w137_12))
  (∃ ml15_1, ml15_1 < nl15_1 ∧ I15_1 (x8_1 + 1) (x10_1 + 1) ml15_1 w105_6))
  (∃ ml15_1, ml15_1 < nl15_1 ∧ I15_1 (x8_1 + 1) (x10_1 + 1) ml15_1 w105_6))
  (∃ ml15_1, ml15_1 < nl15_1 ∧ I15_1 (x8_1 + 1) (x10_1 + 1) ml15_1 w105_6)))
  (∃ n119_13 : Int, wl15_1.cell? ⟨4, 0, none⟩ = some (.int .i64 n119_13) ∧ Br (decide (((a1.size : Int)) > n119_13))
  ((0 : Int) ≤ 4 ∧ InK .i64 (4 + ((x8_1 + 1).fdiv (2 ^ 4))) ∧ Br (decide ((x10_1 + 1) ≥ (4 + ((x8_1 + 1).fdiv (2 ^ 4)))))
  (Br (decide ((x8_1 + 1) < ((((a0.size : Int)) - ((a1.size : Int))) + 1)))
  (((0 : Int) ≤ (x8_1 + 1) ∧ (x8_1 + 1) ≤ (a0.size : Int)) ∧ Does Tryz.prog 123 #[.string (a0.extract ((x8_1 + 1).toNat) a0.size), .string a1] wl15_1 fun e137_13 w137_13 =>
  ∃ n137_13 : Int, e137_13 = .returned (.int .i64 n137_13) ∧ Br (decide (n137_13 < 0))
  (R (.returned (.int .i64 (-1))) w137_13)
  (InK .i64 ((x8_1 + 1) + n137_13) ∧ R (.returned (.int .i64 ((x8_1 + 1) + n137_13))) w137_13))
  (∃ ml15_1, ml15_1 < nl15_1 ∧ I15_1 (x8_1 + 1) (x10_1 + 1) ml15_1 wl15_1))
  (∃ ml15_1, ml15_1 < nl15_1 ∧ I15_1 (x8_1 + 1) (x10_1 + 1) ml15_1 wl15_1))
  (∃ ml15_1, ml15_1 < nl15_1 ∧ I15_1 (x8_1 + 1) (x10_1 + 1) ml15_1 wl15_1))))
  (InK .i64 (x8_1 + 1) ∧ InK .i64 (x10_1 + 1) ∧ ∃ n100_7 : Int, wl15_1.cell? ⟨4, 0, none⟩ = some (.int .i64 n100_7) ∧ Br (decide (((a1.size : Int)) ≤ n100_7))
  (Does Tryz.prog 122 #[.int .i64 (x8_1 + 1)] wl15_1 fun e105_7 w105_7 =>
  ∃ n105_7 : Int, e105_7 = .returned (.int .i64 n105_7) ∧ Br (decide ((x10_1 + 1) > n105_7))
  (((0 : Int) ≤ (x8_1 + 1) ∧ (x8_1 + 1) ≤ (a0.size : Int)) ∧ Does Tryz.prog 121 #[.string (a0.extract ((x8_1 + 1).toNat) a0.size), .string a1] w105_7 fun e112_7 w112_7 =>
  ∃ n112_7 : Int, e112_7 = .returned (.int .i64 n112_7) ∧ Br (decide (n112_7 ≥ 0))
  (InK .i64 (n112_7 + (x8_1 + 1)) ∧ R (.returned (.int .i64 (n112_7 + (x8_1 + 1)))) w112_7)
  (R (.returned (.int .i64 (-1))) w112_7))
  (∃ n119_14 : Int, w105_7.cell? ⟨4, 0, none⟩ = some (.int .i64 n119_14) ∧ Br (decide (((a1.size : Int)) > n119_14))
  ((0 : Int) ≤ 4 ∧ InK .i64 (4 + ((x8_1 + 1).fdiv (2 ^ 4))) ∧ Br (decide ((x10_1 + 1) ≥ (4 + ((x8_1 + 1).fdiv (2 ^ 4)))))
  (Br (decide ((x8_1 + 1) < ((((a0.size : Int)) - ((a1.size : Int))) + 1)))
  (((0 : Int) ≤ (x8_1 + 1) ∧ (x8_1 + 1) ≤ (a0.size : Int)) ∧ Does Tryz.prog 123 #[.string (a0.extract ((x8_1 + 1).toNat) a0.size), .string a1] w105_7 fun e137_14 w137_14 =>
  ∃ n137_14 : Int, e137_14 = .returned (.int .i64 n137_14) ∧ Br (decide (n137_14 < 0))
  (R (.returned (.int .i64 (-1))) w137_14)
  (InK .i64 ((x8_1 + 1) + n137_14) ∧ R (.returned (.int .i64 ((x8_1 + 1) + n137_14))) w137_14))
  (∃ ml15_1, ml15_1 < nl15_1 ∧ I15_1 (x8_1 + 1) (x10_1 + 1) ml15_1 w105_7))
  (∃ ml15_1, ml15_1 < nl15_1 ∧ I15_1 (x8_1 + 1) (x10_1 + 1) ml15_1 w105_7))
  (∃ ml15_1, ml15_1 < nl15_1 ∧ I15_1 (x8_1 + 1) (x10_1 + 1) ml15_1 w105_7)))
  (∃ n119_15 : Int, wl15_1.cell? ⟨4, 0, none⟩ = some (.int .i64 n119_15) ∧ Br (decide (((a1.size : Int)) > n119_15))
  ((0 : Int) ≤ 4 ∧ InK .i64 (4 + ((x8_1 + 1).fdiv (2 ^ 4))) ∧ Br (decide ((x10_1 + 1) ≥ (4 + ((x8_1 + 1).fdiv (2 ^ 4)))))
  (Br (decide ((x8_1 + 1) < ((((a0.size : Int)) - ((a1.size : Int))) + 1)))
  (((0 : Int) ≤ (x8_1 + 1) ∧ (x8_1 + 1) ≤ (a0.size : Int)) ∧ Does Tryz.prog 123 #[.string (a0.extract ((x8_1 + 1).toNat) a0.size), .string a1] wl15_1 fun e137_15 w137_15 =>
  ∃ n137_15 : Int, e137_15 = .returned (.int .i64 n137_15) ∧ Br (decide (n137_15 < 0))
  (R (.returned (.int .i64 (-1))) w137_15)
  (InK .i64 ((x8_1 + 1) + n137_15) ∧ R (.returned (.int .i64 ((x8_1 + 1) + n137_15))) w137_15))
  (∃ ml15_1, ml15_1 < nl15_1 ∧ I15_1 (x8_1 + 1) (x10_1 + 1) ml15_1 wl15_1))
  (∃ ml15_1, ml15_1 < nl15_1 ∧ I15_1 (x8_1 + 1) (x10_1 + 1) ml15_1 wl15_1))
  (∃ ml15_1, ml15_1 < nl15_1 ∧ I15_1 (x8_1 + 1) (x10_1 + 1) ml15_1 wl15_1)))))
  (R (.returned (.int .i64 (-1))) wl15_1))))))
def f88_ann : Ann := { loops := [(15, [(8, .int .i64), (10, .int .i64)])], cuts := [], flip := [], throws := [] }
theorem f88_eq (a0 : ByteArray) (a1 : ByteArray) (w : World) (R : Ending → World → Prop) : vc Tryz.prog f88_ann (bodyOf Tryz.f88) (retQ Tryz.prog Tryz.f88 R) (envOf Tryz.f88.ntmps [.v (.string a0), .v (.string a1)]) [] w = f88_vc a0 a1 w R := by kernel_rfl
theorem f88_does (a0 : ByteArray) (a1 : ByteArray) {w : World} {R : Ending → World → Prop} (h : f88_vc a0 a1 w R) : Does Tryz.prog 88 #[.string a0, .string a1] w R :=
  does_of_vc (ss := [.v (.string a0), .v (.string a1)]) f88_ann mixed call88 Tryz.func88 rfl rfl (show 2 ≤ Tryz.f88.ntmps by decide) ((f88_eq a0 a1 w R).symm ▸ h)
/-- Of internal/strconv.atof64 (function 90): the condition. -/
def f90_vc (a0 : ByteArray) (w : World) (R : Ending → World → Prop) : Prop :=
  Does Tryz.prog 124 #[.string a0] w fun e28 w28 =>
  ∃ f28 : Nat, ∃ n28 : Int, ∃ b28 : Bool, e28 = .returned (.tuple #[.float .f64 f28, .int .i64 n28, .bool b28]) ∧ Br b28
  (R (.returned (.tuple #[.float .f64 f28, .int .i64 n28, .nilIface])) w28)
  (Does Tryz.prog 125 #[.string a0] w28 fun e37 w37 =>
  ∃ n37 : Int, ∃ n37_1 : Int, ∃ b37 : Bool, ∃ b37_1 : Bool, ∃ b37_2 : Bool, ∃ n37_2 : Int, ∃ b37_3 : Bool, e37 = .returned (.tuple #[.int .u64 n37, .int .i64 n37_1, .bool b37, .bool b37_1, .bool b37_2, .int .i64 n37_2, .bool b37_3]) ∧ Br (!b37_3)
  (R (.returned (.tuple #[.float .f64 0, .int .i64 n37_2, .iface 73 (.int .i64 2)])) w37)
  (Br b37_2
  (((0 : Int) ≤ n37_2 ∧ n37_2 ≤ (a0.size : Int)) ∧ Does Tryz.prog 126 #[.string (a0.extract 0 ((n37_2).toNat)), .pointer (some ⟨7, 0, none⟩), .int .u64 n37, .int .i64 n37_1, .bool b37, .bool b37_1] w37 fun e58 w58 =>
  ∃ f58 : Nat, ∃ x58 : Value, e58 = .returned (.tuple #[.float .f64 f58, x58]) ∧ R (.returned (.tuple #[.float .f64 f58, .int .i64 n37_2, x58])) w58)
  (∃ b64 : Bool, w37.cell? ⟨6, 0, none⟩ = some (.bool b64) ∧ Br b64
  (Does Tryz.prog 133 #[.bool b37] w37 fun e66 w66 =>
  ∃ n66 : Int, e66 = .returned (.int .u64 n66) ∧ (0 : Int) ≤ 63 ∧ Br (n37 == 0)
  (Does Tryz.prog 134 #[.int .u64 (bits .or .u64 (IntKind.wrap .u64 (n66 * 2 ^ 63)) 0)] w66 fun e72 w72 =>
  ∃ f72 : Nat, e72 = .returned (.float .f64 f72) ∧ R (.returned (.tuple #[.float .f64 f72, .int .i64 n37_2, .nilIface])) w72)
  (Br (decide (n37_1 > 310))
  (Does Tryz.prog 134 #[.int .u64 (bits .or .u64 (IntKind.wrap .u64 (n66 * 2 ^ 63)) 9218868437227405312)] w66 fun e78 w78 =>
  ∃ f78 : Nat, e78 = .returned (.float .f64 f78) ∧ R (.returned (.tuple #[.float .f64 f78, .int .i64 n37_2, .iface 73 (.int .i64 1)])) w78)
  (Br (decide (n37_1 < (-345)))
  (Does Tryz.prog 134 #[.int .u64 (bits .or .u64 (IntKind.wrap .u64 (n66 * 2 ^ 63)) 0)] w66 fun e85 w85 =>
  ∃ f85 : Nat, e85 = .returned (.float .f64 f85) ∧ R (.returned (.tuple #[.float .f64 f85, .int .i64 n37_2, .nilIface])) w85)
  (Br (!b37_1)
  (Does Tryz.prog 135 #[.int .u64 n37, .int .i64 n37_1, .bool b37] w66 fun e93 w93 =>
  ∃ f93 : Nat, ∃ b93 : Bool, e93 = .returned (.tuple #[.float .f64 f93, .bool b93]) ∧ Br b93
  (R (.returned (.tuple #[.float .f64 f93, .int .i64 n37_2, .nilIface])) w93)
  (Does Tryz.prog 136 #[.int .u64 n37, .int .i64 n37_1, .int .u64 (IntKind.wrap .u64 (n66 * 2 ^ 63))] w93 fun e103 w103 =>
  ∃ f103 : Nat, ∃ x103 : Value, e103 = .returned (.tuple #[.float .f64 f103, x103]) ∧ Br (!b37_1)
  (R (.returned (.tuple #[.float .f64 f103, .int .i64 n37_2, x103])) w103)
  (Does Tryz.prog 136 #[.int .u64 (IntKind.wrap .u64 (n37 + 1)), .int .i64 n37_1, .int .u64 (IntKind.wrap .u64 (n66 * 2 ^ 63))] w103 fun e116 w116 =>
  ∃ f116 : Nat, ∃ x116 : Value, e116 = .returned (.tuple #[.float .f64 f116, x116]) ∧ Br ((FloatKind.f64.format.order f103 f116 == some Ordering.eq))
  (R (.returned (.tuple #[.float .f64 f103, .int .i64 n37_2, x103])) w116)
  (∀ b23 w23, NewBlk w116 b23 (List.replicate 800 (.int .u8 0) ++ [.int .i64 0, .int .i64 0, .bool false, .bool false] : List Value) 146 w23 →
  ((0 : Int) ≤ n37_2 ∧ n37_2 ≤ (a0.size : Int)) ∧ Does Tryz.prog 131 #[.pointer (some ⟨b23, 0, none⟩), .string (a0.extract 0 ((n37_2).toNat))] w23 fun e128 w128 =>
  ∃ b128 : Bool, e128 = .returned (.bool b128) ∧ Br (!b128)
  (R (.returned (.tuple #[.float .f64 0, .int .i64 n37_2, .iface 73 (.int .i64 2)])) w128)
  (Does Tryz.prog 132 #[.pointer (some ⟨b23, 0, none⟩), .pointer (some ⟨7, 0, none⟩)] w128 fun e133 w133 =>
  ∃ n133 : Int, ∃ b133 : Bool, e133 = .returned (.tuple #[.int .u64 n133, .bool b133]) ∧ Does Tryz.prog 134 #[.int .u64 n133] w133 fun e137 w137 =>
  ∃ f137 : Nat, e137 = .returned (.float .f64 f137) ∧ Br b133
  (R (.returned (.tuple #[.float .f64 f137, .int .i64 n37_2, .iface 73 (.int .i64 1)])) w137)
  (R (.returned (.tuple #[.float .f64 f137, .int .i64 n37_2, .nilIface])) w137))))))
  (Does Tryz.prog 136 #[.int .u64 n37, .int .i64 n37_1, .int .u64 (IntKind.wrap .u64 (n66 * 2 ^ 63))] w66 fun e103_1 w103_1 =>
  ∃ f103_1 : Nat, ∃ x103_1 : Value, e103_1 = .returned (.tuple #[.float .f64 f103_1, x103_1]) ∧ Br (!b37_1)
  (R (.returned (.tuple #[.float .f64 f103_1, .int .i64 n37_2, x103_1])) w103_1)
  (Does Tryz.prog 136 #[.int .u64 (IntKind.wrap .u64 (n37 + 1)), .int .i64 n37_1, .int .u64 (IntKind.wrap .u64 (n66 * 2 ^ 63))] w103_1 fun e116_1 w116_1 =>
  ∃ f116_1 : Nat, ∃ x116_1 : Value, e116_1 = .returned (.tuple #[.float .f64 f116_1, x116_1]) ∧ Br ((FloatKind.f64.format.order f103_1 f116_1 == some Ordering.eq))
  (R (.returned (.tuple #[.float .f64 f103_1, .int .i64 n37_2, x103_1])) w116_1)
  (∀ b23_1 w23_1, NewBlk w116_1 b23_1 (List.replicate 800 (.int .u8 0) ++ [.int .i64 0, .int .i64 0, .bool false, .bool false] : List Value) 146 w23_1 →
  ((0 : Int) ≤ n37_2 ∧ n37_2 ≤ (a0.size : Int)) ∧ Does Tryz.prog 131 #[.pointer (some ⟨b23_1, 0, none⟩), .string (a0.extract 0 ((n37_2).toNat))] w23_1 fun e128_1 w128_1 =>
  ∃ b128_1 : Bool, e128_1 = .returned (.bool b128_1) ∧ Br (!b128_1)
  (R (.returned (.tuple #[.float .f64 0, .int .i64 n37_2, .iface 73 (.int .i64 2)])) w128_1)
  (Does Tryz.prog 132 #[.pointer (some ⟨b23_1, 0, none⟩), .pointer (some ⟨7, 0, none⟩)] w128_1 fun e133_1 w133_1 =>
  ∃ n133_1 : Int, ∃ b133_1 : Bool, e133_1 = .returned (.tuple #[.int .u64 n133_1, .bool b133_1]) ∧ Does Tryz.prog 134 #[.int .u64 n133_1] w133_1 fun e137_1 w137_1 =>
  ∃ f137_1 : Nat, e137_1 = .returned (.float .f64 f137_1) ∧ Br b133_1
  (R (.returned (.tuple #[.float .f64 f137_1, .int .i64 n37_2, .iface 73 (.int .i64 1)])) w137_1)
  (R (.returned (.tuple #[.float .f64 f137_1, .int .i64 n37_2, .nilIface])) w137_1)))))))))
  (∀ b23_2 w23_2, NewBlk w37 b23_2 (List.replicate 800 (.int .u8 0) ++ [.int .i64 0, .int .i64 0, .bool false, .bool false] : List Value) 146 w23_2 →
  ((0 : Int) ≤ n37_2 ∧ n37_2 ≤ (a0.size : Int)) ∧ Does Tryz.prog 131 #[.pointer (some ⟨b23_2, 0, none⟩), .string (a0.extract 0 ((n37_2).toNat))] w23_2 fun e128_2 w128_2 =>
  ∃ b128_2 : Bool, e128_2 = .returned (.bool b128_2) ∧ Br (!b128_2)
  (R (.returned (.tuple #[.float .f64 0, .int .i64 n37_2, .iface 73 (.int .i64 2)])) w128_2)
  (Does Tryz.prog 132 #[.pointer (some ⟨b23_2, 0, none⟩), .pointer (some ⟨7, 0, none⟩)] w128_2 fun e133_2 w133_2 =>
  ∃ n133_2 : Int, ∃ b133_2 : Bool, e133_2 = .returned (.tuple #[.int .u64 n133_2, .bool b133_2]) ∧ Does Tryz.prog 134 #[.int .u64 n133_2] w133_2 fun e137_2 w137_2 =>
  ∃ f137_2 : Nat, e137_2 = .returned (.float .f64 f137_2) ∧ Br b133_2
  (R (.returned (.tuple #[.float .f64 f137_2, .int .i64 n37_2, .iface 73 (.int .i64 1)])) w137_2)
  (R (.returned (.tuple #[.float .f64 f137_2, .int .i64 n37_2, .nilIface])) w137_2))))))
def f90_ann : Ann := { loops := [], cuts := [], flip := [], throws := [] }
theorem f90_eq (a0 : ByteArray) (w : World) (R : Ending → World → Prop) : vc Tryz.prog f90_ann (bodyOf Tryz.f90) (retQ Tryz.prog Tryz.f90 R) (envOf Tryz.f90.ntmps [.v (.string a0)]) [] w = f90_vc a0 w R := by kernel_rfl
theorem f90_does (a0 : ByteArray) {w : World} {R : Ending → World → Prop} (h : f90_vc a0 w R) : Does Tryz.prog 90 #[.string a0] w R :=
  does_of_vc (ss := [.v (.string a0)]) f90_ann mixed call90 Tryz.func90 rfl rfl (show 1 ≤ Tryz.f90.ntmps by decide) ((f90_eq a0 w R).symm ▸ h)
/-- Of (*escritoire/escritoireref3.reader).deeper (function 107): the condition. -/
def f107_vc (a0 : Option Addr) (a1 : Int) (w : World) (R : Ending → World → Prop) : Prop :=
  ∃ b7 o7, a0 = some ⟨b7, o7, none⟩ ∧ ∃ n9 : Int, w.cell? ⟨b7, o7 + 2, none⟩ = some (.int .i64 n9) ∧ InK .i64 (n9 + 1) ∧ ∃ b11 o11, a0 = some ⟨b11, o11, none⟩ ∧ CanStore w b11 (o11 + 2) ∧ ∀ ws, Stored w b11 (o11 + 2) (.int .i64 (n9 + 1)) ws →
  Does Tryz.prog 144 #[.pointer a0, .int .u8 a1] ws fun e15 w15 =>
  ∃ f15 : Nat, e15 = .returned (.float .f64 f15) ∧ ∃ b17 o17, a0 = some ⟨b17, o17, none⟩ ∧ ∃ n19 : Int, w15.cell? ⟨b17, o17 + 2, none⟩ = some (.int .i64 n19) ∧ InK .i64 (n19 - 1) ∧ ∃ b21 o21, a0 = some ⟨b21, o21, none⟩ ∧ CanStore w15 b21 (o21 + 2) ∧ ∀ ws_1, Stored w15 b21 (o21 + 2) (.int .i64 (n19 - 1)) ws_1 →
  R (.returned (.float .f64 f15)) ws_1
def f107_ann : Ann := { loops := [], cuts := [], flip := [], throws := [] }
theorem f107_eq (a0 : Option Addr) (a1 : Int) (w : World) (R : Ending → World → Prop) : vc Tryz.prog f107_ann (bodyOf Tryz.f107) (retQ Tryz.prog Tryz.f107 R) (envOf Tryz.f107.ntmps [.v (.pointer a0), .v (.int .u8 a1)]) [] w = f107_vc a0 a1 w R := by kernel_rfl
theorem f107_does (a0 : Option Addr) (a1 : Int) {w : World} {R : Ending → World → Prop} (h : f107_vc a0 a1 w R) : Does Tryz.prog 107 #[.pointer a0, .int .u8 a1] w R :=
  does_of_vc (ss := [.v (.pointer a0), .v (.int .u8 a1)]) f107_ann mixed call107 Tryz.func107 rfl rfl (show 2 ≤ Tryz.f107.ntmps by decide) ((f107_eq a0 a1 w R).symm ▸ h)
/-- Of (*escritoire/escritoireref3.reader).call (function 108): the condition. -/
def f108_vc (a0 : Option Addr) (a1 : ByteArray) (w : World) (R : Ending → World → Prop) : Prop :=
  ∃ b7 o7, a0 = some ⟨b7, o7, none⟩ ∧ ∃ n9 : Int, w.cell? ⟨b7, o7 + 1, none⟩ = some (.int .i64 n9) ∧ Does Tryz.prog 59 #[.pointer a0, .string a1] w fun e12 w12 =>
  ∃ b12 : Bool, e12 = .returned (.bool b12) ∧ Br b12
  (Does Tryz.prog 59 #[.pointer a0, .string (({ data := #[40] } : ByteArray))] w12 fun e15 w15 =>
  ∃ b15 : Bool, e15 = .returned (.bool b15) ∧ Br b15
  (R (.returned (.bool true)) w15)
  (∃ b19 o19, a0 = some ⟨b19, o19, none⟩ ∧ CanStore w15 b19 (o19 + 1) ∧ ∀ ws, Stored w15 b19 (o19 + 1) (.int .i64 n9) ws →
  R (.returned (.bool false)) ws))
  (∃ b19_1 o19_1, a0 = some ⟨b19_1, o19_1, none⟩ ∧ CanStore w12 b19_1 (o19_1 + 1) ∧ ∀ ws_1, Stored w12 b19_1 (o19_1 + 1) (.int .i64 n9) ws_1 →
  R (.returned (.bool false)) ws_1)
def f108_ann : Ann := { loops := [], cuts := [], flip := [], throws := [] }
theorem f108_eq (a0 : Option Addr) (a1 : ByteArray) (w : World) (R : Ending → World → Prop) : vc Tryz.prog f108_ann (bodyOf Tryz.f108) (retQ Tryz.prog Tryz.f108 R) (envOf Tryz.f108.ntmps [.v (.pointer a0), .v (.string a1)]) [] w = f108_vc a0 a1 w R := by kernel_rfl
theorem f108_does (a0 : Option Addr) (a1 : ByteArray) {w : World} {R : Ending → World → Prop} (h : f108_vc a0 a1 w R) : Does Tryz.prog 108 #[.pointer a0, .string a1] w R :=
  does_of_vc (ss := [.v (.pointer a0), .v (.string a1)]) f108_ann mixed call108 Tryz.func108 rfl rfl (show 2 ≤ Tryz.f108.ntmps by decide) ((f108_eq a0 a1 w R).symm ▸ h)
/-- Of escritoire/escritoireref3.digit (function 109): the condition. -/
def f109_vc (a0 : Int) (w : World) (R : Ending → World → Prop) : Prop :=
  Br (decide (a0 ≥ 48))
  (R (.returned (.bool (decide (a0 ≤ 57)))) w)
  (R (.returned (.bool false)) w)
def f109_ann : Ann := { loops := [], cuts := [], flip := [], throws := [] }
theorem f109_eq (a0 : Int) (w : World) (R : Ending → World → Prop) : vc Tryz.prog f109_ann (bodyOf Tryz.f109) (retQ Tryz.prog Tryz.f109 R) (envOf Tryz.f109.ntmps [.v (.int .u8 a0)]) [] w = f109_vc a0 w R := by kernel_rfl
theorem f109_does (a0 : Int) {w : World} {R : Ending → World → Prop} (h : f109_vc a0 w R) : Does Tryz.prog 109 #[.int .u8 a0] w R :=
  does_of_vc (ss := [.v (.int .u8 a0)]) f109_ann mixed call109 Tryz.func109 rfl rfl (show 1 ≤ Tryz.f109.ntmps by decide) ((f109_eq a0 w R).symm ▸ h)
/-- Of escritoire/escritoireref3.Decimal (function 110): the condition. -/
def f110_vc (a0 : ByteArray) (w : World) (R : Ending → World → Prop) : Prop :=
  ∃ I5 : Int → Int → Int → Int → Nat → World → Prop, (∃ nl5, I5 0 0 (-1) 0 nl5 w) ∧ ∀ x4 : Int, ∀ x5 : Int, ∀ x6 : Int, ∀ x7 : Int, ∀ (nl5 : Nat) (wl5 : World), I5 x4 x5 x6 x7 nl5 wl5 →
  Br (decide (x7 < ((a0.size : Int))))
  (((0 : Int) ≤ x7 ∧ x7 < (a0.size : Int)) ∧ Br ((sb a0 x7) == 46)
  (Br (decide (x6 < 0))
  (Br (decide (x7 > 0))
  (Br (decide (x5 > 15))
  (R (.returned (.tuple #[.float .f64 0, .bool false])) wl5)
  (InK .i64 (x7 + 1) ∧ ∃ ml5, ml5 < nl5 ∧ I5 x4 x5 0 (x7 + 1) ml5 wl5))
  (((0 : Int) ≤ x7 ∧ x7 < (a0.size : Int)) ∧ Does Tryz.prog 109 #[.int .u8 (sb a0 x7)] wl5 fun e48 w48 =>
  ∃ b48 : Bool, e48 = .returned (.bool b48) ∧ Br (!b48)
  (R (.returned (.tuple #[.float .f64 0, .bool false])) w48)
  (InK .i64 (x4 * 10) ∧ ((0 : Int) ≤ x7 ∧ x7 < (a0.size : Int)) ∧ InK .i64 (IntKind.wrap .u8 ((sb a0 x7) - 48)) ∧ InK .i64 ((x4 * 10) + (IntKind.wrap .u8 ((sb a0 x7) - 48))) ∧ InK .i64 (x5 + 1) ∧ Br (decide (x6 ≥ 0))
  (InK .i64 (x6 + 1) ∧ Br (decide ((x5 + 1) > 15))
  (R (.returned (.tuple #[.float .f64 0, .bool false])) w48)
  (InK .i64 (x7 + 1) ∧ ∃ ml5, ml5 < nl5 ∧ I5 ((x4 * 10) + (IntKind.wrap .u8 ((sb a0 x7) - 48))) (x5 + 1) (x6 + 1) (x7 + 1) ml5 w48))
  (Br (decide ((x5 + 1) > 15))
  (R (.returned (.tuple #[.float .f64 0, .bool false])) w48)
  (InK .i64 (x7 + 1) ∧ ∃ ml5, ml5 < nl5 ∧ I5 ((x4 * 10) + (IntKind.wrap .u8 ((sb a0 x7) - 48))) (x5 + 1) x6 (x7 + 1) ml5 w48)))))
  (((0 : Int) ≤ x7 ∧ x7 < (a0.size : Int)) ∧ Does Tryz.prog 109 #[.int .u8 (sb a0 x7)] wl5 fun e48_1 w48_1 =>
  ∃ b48_1 : Bool, e48_1 = .returned (.bool b48_1) ∧ Br (!b48_1)
  (R (.returned (.tuple #[.float .f64 0, .bool false])) w48_1)
  (InK .i64 (x4 * 10) ∧ ((0 : Int) ≤ x7 ∧ x7 < (a0.size : Int)) ∧ InK .i64 (IntKind.wrap .u8 ((sb a0 x7) - 48)) ∧ InK .i64 ((x4 * 10) + (IntKind.wrap .u8 ((sb a0 x7) - 48))) ∧ InK .i64 (x5 + 1) ∧ Br (decide (x6 ≥ 0))
  (InK .i64 (x6 + 1) ∧ Br (decide ((x5 + 1) > 15))
  (R (.returned (.tuple #[.float .f64 0, .bool false])) w48_1)
  (InK .i64 (x7 + 1) ∧ ∃ ml5, ml5 < nl5 ∧ I5 ((x4 * 10) + (IntKind.wrap .u8 ((sb a0 x7) - 48))) (x5 + 1) (x6 + 1) (x7 + 1) ml5 w48_1))
  (Br (decide ((x5 + 1) > 15))
  (R (.returned (.tuple #[.float .f64 0, .bool false])) w48_1)
  (InK .i64 (x7 + 1) ∧ ∃ ml5, ml5 < nl5 ∧ I5 ((x4 * 10) + (IntKind.wrap .u8 ((sb a0 x7) - 48))) (x5 + 1) x6 (x7 + 1) ml5 w48_1)))))
  (((0 : Int) ≤ x7 ∧ x7 < (a0.size : Int)) ∧ Does Tryz.prog 109 #[.int .u8 (sb a0 x7)] wl5 fun e48_2 w48_2 =>
  ∃ b48_2 : Bool, e48_2 = .returned (.bool b48_2) ∧ Br (!b48_2)
  (R (.returned (.tuple #[.float .f64 0, .bool false])) w48_2)
  (InK .i64 (x4 * 10) ∧ ((0 : Int) ≤ x7 ∧ x7 < (a0.size : Int)) ∧ InK .i64 (IntKind.wrap .u8 ((sb a0 x7) - 48)) ∧ InK .i64 ((x4 * 10) + (IntKind.wrap .u8 ((sb a0 x7) - 48))) ∧ InK .i64 (x5 + 1) ∧ Br (decide (x6 ≥ 0))
  (InK .i64 (x6 + 1) ∧ Br (decide ((x5 + 1) > 15))
  (R (.returned (.tuple #[.float .f64 0, .bool false])) w48_2)
  (InK .i64 (x7 + 1) ∧ ∃ ml5, ml5 < nl5 ∧ I5 ((x4 * 10) + (IntKind.wrap .u8 ((sb a0 x7) - 48))) (x5 + 1) (x6 + 1) (x7 + 1) ml5 w48_2))
  (Br (decide ((x5 + 1) > 15))
  (R (.returned (.tuple #[.float .f64 0, .bool false])) w48_2)
  (InK .i64 (x7 + 1) ∧ ∃ ml5, ml5 < nl5 ∧ I5 ((x4 * 10) + (IntKind.wrap .u8 ((sb a0 x7) - 48))) (x5 + 1) x6 (x7 + 1) ml5 w48_2)))))
  (Br (x5 == 0)
  (R (.returned (.tuple #[.float .f64 0, .bool false])) wl5)
  (Br (x6 == 0)
  (R (.returned (.tuple #[.float .f64 0, .bool false])) wl5)
  (((0 : Int) ≤ 0 ∧ 0 < (a0.size : Int)) ∧ Br ((sb a0 0) == 48)
  (InK .i64 (x5 - (if x6 < 0 then 0 else x6)) ∧ Br (decide ((x5 - (if x6 < 0 then 0 else x6)) > 1))
  (R (.returned (.tuple #[.float .f64 0, .bool false])) wl5)
  (∃ f71 : Nat, ∃ w71, (convert 3 23 (.int .i64 x4)).run Tryz.prog wl5 = .ok (.float .f64 f71) w71 ∧ ∃ I22 : Nat → Int → Nat → World → Prop, (∃ nl22, I22 4607182418800017408 0 nl22 w71) ∧ ∀ f9 : Nat, ∀ x10 : Int, ∀ (nl22 : Nat) (wl22 : World), I22 f9 x10 nl22 wl22 →
  Br (decide (x10 < x6))
  (∃ f78 : Nat, ∃ w78, (binOp .mul 23 (.float .f64 f9) (.float .f64 4621819117588971520)).run Tryz.prog wl22 = .ok (.float .f64 f78) w78 ∧ InK .i64 (x10 + 1) ∧ ∃ ml22, ml22 < nl22 ∧ I22 f78 (x10 + 1) ml22 w78)
  (∃ f81 : Nat, ∃ w81, (binOp .quo 23 (.float .f64 f71) (.float .f64 f9)).run Tryz.prog wl22 = .ok (.float .f64 f81) w81 ∧ R (.returned (.tuple #[.float .f64 f81, .bool true])) w81)))
  (∃ f71_1 : Nat, ∃ w71_1, (convert 3 23 (.int .i64 x4)).run Tryz.prog wl5 = .ok (.float .f64 f71_1) w71_1 ∧ ∃ I22_1 : Nat → Int → Nat → World → Prop, (∃ nl22_1, I22_1 4607182418800017408 0 nl22_1 w71_1) ∧ ∀ f9_1 : Nat, ∀ x10_1 : Int, ∀ (nl22_1 : Nat) (wl22_1 : World), I22_1 f9_1 x10_1 nl22_1 wl22_1 →
  Br (decide (x10_1 < x6))
  (∃ f78_1 : Nat, ∃ w78_1, (binOp .mul 23 (.float .f64 f9_1) (.float .f64 4621819117588971520)).run Tryz.prog wl22_1 = .ok (.float .f64 f78_1) w78_1 ∧ InK .i64 (x10_1 + 1) ∧ ∃ ml22_1, ml22_1 < nl22_1 ∧ I22_1 f78_1 (x10_1 + 1) ml22_1 w78_1)
  (∃ f81_1 : Nat, ∃ w81_1, (binOp .quo 23 (.float .f64 f71_1) (.float .f64 f9_1)).run Tryz.prog wl22_1 = .ok (.float .f64 f81_1) w81_1 ∧ R (.returned (.tuple #[.float .f64 f81_1, .bool true])) w81_1)))))
def f110_ann : Ann := { loops := [(5, [(4, .int .i64), (5, .int .i64), (6, .int .i64), (7, .int .i64)]), (22, [(9, .flt .f64), (10, .int .i64)])], cuts := [], flip := [], throws := [] }
theorem f110_eq (a0 : ByteArray) (w : World) (R : Ending → World → Prop) : vc Tryz.prog f110_ann (bodyOf Tryz.f110) (retQ Tryz.prog Tryz.f110 R) (envOf Tryz.f110.ntmps [.v (.string a0)]) [] w = f110_vc a0 w R := by kernel_rfl
theorem f110_does (a0 : ByteArray) {w : World} {R : Ending → World → Prop} (h : f110_vc a0 w R) : Does Tryz.prog 110 #[.string a0] w R :=
  does_of_vc (ss := [.v (.string a0)]) f110_ann mixed call110 Tryz.func110 rfl rfl (show 1 ≤ Tryz.f110.ntmps by decide) ((f110_eq a0 w R).symm ▸ h)
/-- Of (*escritoire/escritoireref3.reader).fail (function 111): the condition. -/
def f111_vc (a0 : Option Addr) (a1 : Int) (w : World) (R : Ending → World → Prop) : Prop :=
  ∃ b6 o6, a0 = some ⟨b6, o6, none⟩ ∧ ∃ n8 : Int, w.cell? ⟨b6, o6 + 3, none⟩ = some (.int .i64 n8) ∧ Br (n8 == 0)
  (∃ b12 o12, a0 = some ⟨b12, o12, none⟩ ∧ CanStore w b12 (o12 + 3) ∧ ∀ ws, Stored w b12 (o12 + 3) (.int .i64 a1) ws →
  R (.returned (.float .f64 0)) ws)
  (R (.returned (.float .f64 0)) w)
def f111_ann : Ann := { loops := [], cuts := [], flip := [], throws := [] }
theorem f111_eq (a0 : Option Addr) (a1 : Int) (w : World) (R : Ending → World → Prop) : vc Tryz.prog f111_ann (bodyOf Tryz.f111) (retQ Tryz.prog Tryz.f111 R) (envOf Tryz.f111.ntmps [.v (.pointer a0), .v (.int .i64 a1)]) [] w = f111_vc a0 a1 w R := by kernel_rfl
theorem f111_does (a0 : Option Addr) (a1 : Int) {w : World} {R : Ending → World → Prop} (h : f111_vc a0 a1 w R) : Does Tryz.prog 111 #[.pointer a0, .int .i64 a1] w R :=
  does_of_vc (ss := [.v (.pointer a0), .v (.int .i64 a1)]) f111_ann mixed call111 Tryz.func111 rfl rfl (show 2 ≤ Tryz.f111.ntmps by decide) ((f111_eq a0 a1 w R).symm ▸ h)
/-- Of (*escritoire/calc.reader).within (function 112): the condition. -/
def f112_vc (a0 : Option Addr) (g1 : Go.Fn) (fs1 cs1 : Array Value) (w : World) (R : Ending → World → Prop) : Prop :=
  ∃ b7 o7, a0 = some ⟨b7, o7, none⟩ ∧ ∃ n9 : Int, w.cell? ⟨b7, o7 + 2, none⟩ = some (.int .i64 n9) ∧ InK .i64 (n9 + 1) ∧ ∃ b11 o11, a0 = some ⟨b11, o11, none⟩ ∧ CanStore w b11 (o11 + 2) ∧ ∀ ws, Stored w b11 (o11 + 2) (.int .i64 (n9 + 1)) ws →
  ∀ wd2, Drew ws wd2 →
  ∃ S2 : World → Prop, S2 wd2 ∧ ∃ b15 o15, a0 = some ⟨b15, o15, none⟩ ∧ ∃ n17 : Int, (∀ w, S2 w → w.cell? ⟨b15, o15 + 3, none⟩ = some (.int .i64 n17)) ∧ ∃ b19 o19, a0 = some ⟨b19, o19, none⟩ ∧ ∃ n21 : Int, (∀ w, S2 w → w.cell? ⟨b19, o19 + 2, none⟩ = some (.int .i64 n21)) ∧ ∃ b23 o23, a0 = some ⟨b23, o23, none⟩ ∧ CanStore wd2 b23 (o23 + 3) ∧ ∀ ws_1, Stored wd2 b23 (o23 + 3) (.int .i64 (if n17 < n21 then n21 else n17)) ws_1 →
  DoesF Tryz.prog g1 fs1 #[] cs1 ws_1 fun e26 w26 =>
  (∃ f26 : Nat, e26 = .returned (.float .f64 f26) ∧ ∃ b28 o28, a0 = some ⟨b28, o28, none⟩ ∧ ∃ n30 : Int, w26.cell? ⟨b28, o28 + 2, none⟩ = some (.int .i64 n30) ∧ InK .i64 (n30 - 1) ∧ ∃ b32 o32, a0 = some ⟨b32, o32, none⟩ ∧ CanStore w26 b32 (o32 + 2) ∧ ∀ ws_2, Stored w26 b32 (o32 + 2) (.int .i64 (n30 - 1)) ws_2 →
  R (.returned (.float .f64 f26)) ws_2) ∨ (∃ ch26, e26 = .panicked ch26 ∧ R (.panicked ch26) w26)
def f112_ann : Ann := { loops := [], cuts := [], flip := [], throws := [0] }
theorem f112_eq (a0 : Option Addr) (g1 : Go.Fn) (fs1 cs1 : Array Value) (w : World) (R : Ending → World → Prop) : vc Tryz.prog f112_ann (bodyOf Tryz.f112) (retQ Tryz.prog Tryz.f112 R) (envOf Tryz.f112.ntmps [.v (.pointer a0), .v (.func g1 fs1 cs1)]) [] w = f112_vc a0 g1 fs1 cs1 w R := by kernel_rfl
theorem f112_does (a0 : Option Addr) (g1 : Go.Fn) (fs1 cs1 : Array Value) {w : World} {R : Ending → World → Prop} (h : f112_vc a0 g1 fs1 cs1 w R) : Does Tryz.prog 112 #[.pointer a0, .func g1 fs1 cs1] w R :=
  does_of_vc (ss := [.v (.pointer a0), .v (.func g1 fs1 cs1)]) f112_ann mixed call112 Tryz.func112 rfl rfl (show 2 ≤ Tryz.f112.ntmps by decide) ((f112_eq a0 g1 fs1 cs1 w R).symm ▸ h)
/-- Of (*escritoire/calc.reader).minus (function 113): the condition. -/
def f113_vc (a0 : Option Addr) (w : World) (R : Ending → World → Prop) : Prop :=
  Does Tryz.prog 87 #[.pointer a0] w fun e4 w4 =>
  (∃ f4 : Nat, e4 = .returned (.float .f64 f4) ∧ R (.returned (.float .f64 (Op.negFloat .f64 f4))) w4) ∨ (∃ ch4, e4 = .panicked ch4 ∧ R (.panicked ch4) w4)
def f113_ann : Ann := { loops := [], cuts := [], flip := [], throws := [87] }
theorem f113_eq (a0 : Option Addr) (w : World) (R : Ending → World → Prop) : vc Tryz.prog f113_ann (bodyOf Tryz.f113) (retQ Tryz.prog Tryz.f113 R) (envOf Tryz.f113.ntmps [.v (.pointer a0)]) [] w = f113_vc a0 w R := by kernel_rfl
theorem f113_does (a0 : Option Addr) {w : World} {R : Ending → World → Prop} (h : f113_vc a0 w R) : Does Tryz.prog 113 #[.pointer a0] w R :=
  does_of_vc (ss := [.v (.pointer a0)]) f113_ann mixed call113 Tryz.func113 rfl rfl (show 1 ≤ Tryz.f113.ntmps by decide) ((f113_eq a0 w R).symm ▸ h)
/-- Of (*escritoire/calc.reader).closed (function 114): the condition. -/
def f114_vc (a0 : Option Addr) (w : World) (R : Ending → World → Prop) : Prop :=
  Does Tryz.prog 37 #[.pointer a0] w fun e5 w5 =>
  (∃ f5 : Nat, e5 = .returned (.float .f64 f5) ∧ Does Tryz.prog 61 #[.pointer a0, .string (({ data := #[41] } : ByteArray))] w5 fun e7 w7 =>
  ∃ b7 : Bool, e7 = .returned (.bool b7) ∧ Does Tryz.prog 145 #[.bool b7] w7 fun e8 w8 =>
  (e8 = .returned (.tuple #[]) ∧ R (.returned (.float .f64 f5)) w8) ∨ (∃ ch8, e8 = .panicked ch8 ∧ R (.panicked ch8) w8)) ∨ (∃ ch5, e5 = .panicked ch5 ∧ R (.panicked ch5) w5)
def f114_ann : Ann := { loops := [], cuts := [], flip := [], throws := [37, 145] }
theorem f114_eq (a0 : Option Addr) (w : World) (R : Ending → World → Prop) : vc Tryz.prog f114_ann (bodyOf Tryz.f114) (retQ Tryz.prog Tryz.f114 R) (envOf Tryz.f114.ntmps [.v (.pointer a0)]) [] w = f114_vc a0 w R := by kernel_rfl
theorem f114_does (a0 : Option Addr) {w : World} {R : Ending → World → Prop} (h : f114_vc a0 w R) : Does Tryz.prog 114 #[.pointer a0] w R :=
  does_of_vc (ss := [.v (.pointer a0)]) f114_ann mixed call114 Tryz.func114 rfl rfl (show 1 ≤ Tryz.f114.ntmps by decide) ((f114_eq a0 w R).symm ▸ h)
/-- Of (*escritoire/calc.reader).call (function 115): the condition. -/
def f115_vc (a0 : Option Addr) (g1 : Go.Fn) (fs1 cs1 : Array Value) (w : World) (R : Ending → World → Prop) : Prop :=
  Does Tryz.prog 61 #[.pointer a0, .string (({ data := #[40] } : ByteArray))] w fun e6 w6 =>
  ∃ b6 : Bool, e6 = .returned (.bool b6) ∧ Does Tryz.prog 145 #[.bool b6] w6 fun e7 w7 =>
  (e7 = .returned (.tuple #[]) ∧ Does Tryz.prog 112 #[.pointer a0, .func g1 fs1 cs1] w7 fun e10 w10 =>
  (∃ f10 : Nat, e10 = .returned (.float .f64 f10) ∧ R (.returned (.float .f64 f10)) w10) ∨ (∃ ch10, e10 = .panicked ch10 ∧ R (.panicked ch10) w10)) ∨ (∃ ch7, e7 = .panicked ch7 ∧ R (.panicked ch7) w7)
def f115_ann : Ann := { loops := [], cuts := [], flip := [], throws := [112, 145] }
theorem f115_eq (a0 : Option Addr) (g1 : Go.Fn) (fs1 cs1 : Array Value) (w : World) (R : Ending → World → Prop) : vc Tryz.prog f115_ann (bodyOf Tryz.f115) (retQ Tryz.prog Tryz.f115 R) (envOf Tryz.f115.ntmps [.v (.pointer a0), .v (.func g1 fs1 cs1)]) [] w = f115_vc a0 g1 fs1 cs1 w R := by kernel_rfl
theorem f115_does (a0 : Option Addr) (g1 : Go.Fn) (fs1 cs1 : Array Value) {w : World} {R : Ending → World → Prop} (h : f115_vc a0 g1 fs1 cs1 w R) : Does Tryz.prog 115 #[.pointer a0, .func g1 fs1 cs1] w R :=
  does_of_vc (ss := [.v (.pointer a0), .v (.func g1 fs1 cs1)]) f115_ann mixed call115 Tryz.func115 rfl rfl (show 2 ≤ Tryz.f115.ntmps by decide) ((f115_eq a0 g1 fs1 cs1 w R).symm ▸ h)
/-- Of (*escritoire/calc.reader).least (function 116): the condition. -/
def f116_vc (a0 : Option Addr) (w : World) (R : Ending → World → Prop) : Prop :=
  Does Tryz.prog 146 #[.pointer a0] w fun e7 w7 =>
  (∃ f7 : Nat, ∃ f7_1 : Nat, e7 = .returned (.tuple #[.float .f64 f7, .float .f64 f7_1]) ∧ Does Tryz.prog 11 #[.float .f64 f7, .float .f64 f7_1] w7 fun e12 w12 =>
  ∃ n12 : Int, e12 = .returned (.int .i64 n12) ∧ Br (decide (n12 < 0))
  (R (.returned (.float .f64 f7)) w12)
  (R (.returned (.float .f64 f7_1)) w12)) ∨ (∃ ch7, e7 = .panicked ch7 ∧ R (.panicked ch7) w7)
def f116_ann : Ann := { loops := [], cuts := [], flip := [], throws := [146] }
theorem f116_eq (a0 : Option Addr) (w : World) (R : Ending → World → Prop) : vc Tryz.prog f116_ann (bodyOf Tryz.f116) (retQ Tryz.prog Tryz.f116 R) (envOf Tryz.f116.ntmps [.v (.pointer a0)]) [] w = f116_vc a0 w R := by kernel_rfl
theorem f116_does (a0 : Option Addr) {w : World} {R : Ending → World → Prop} (h : f116_vc a0 w R) : Does Tryz.prog 116 #[.pointer a0] w R :=
  does_of_vc (ss := [.v (.pointer a0)]) f116_ann mixed call116 Tryz.func116 rfl rfl (show 1 ≤ Tryz.f116.ntmps by decide) ((f116_eq a0 w R).symm ▸ h)
/-- Of (*escritoire/calc.reader).greatest (function 117): the condition. -/
def f117_vc (a0 : Option Addr) (w : World) (R : Ending → World → Prop) : Prop :=
  Does Tryz.prog 146 #[.pointer a0] w fun e7 w7 =>
  (∃ f7 : Nat, ∃ f7_1 : Nat, e7 = .returned (.tuple #[.float .f64 f7, .float .f64 f7_1]) ∧ Does Tryz.prog 11 #[.float .f64 f7, .float .f64 f7_1] w7 fun e12 w12 =>
  ∃ n12 : Int, e12 = .returned (.int .i64 n12) ∧ Br (decide (n12 > 0))
  (R (.returned (.float .f64 f7)) w12)
  (R (.returned (.float .f64 f7_1)) w12)) ∨ (∃ ch7, e7 = .panicked ch7 ∧ R (.panicked ch7) w7)
def f117_ann : Ann := { loops := [], cuts := [], flip := [], throws := [146] }
theorem f117_eq (a0 : Option Addr) (w : World) (R : Ending → World → Prop) : vc Tryz.prog f117_ann (bodyOf Tryz.f117) (retQ Tryz.prog Tryz.f117 R) (envOf Tryz.f117.ntmps [.v (.pointer a0)]) [] w = f117_vc a0 w R := by kernel_rfl
theorem f117_does (a0 : Option Addr) {w : World} {R : Ending → World → Prop} (h : f117_vc a0 w R) : Does Tryz.prog 117 #[.pointer a0] w R :=
  does_of_vc (ss := [.v (.pointer a0)]) f117_ann mixed call117 Tryz.func117 rfl rfl (show 1 ≤ Tryz.f117.ntmps by decide) ((f117_eq a0 w R).symm ▸ h)
/-- Of (*escritoire/calc.reader).bare (function 118): the condition. -/
def f118_vc (a0 : Option Addr) (w : World) (R : Ending → World → Prop) : Prop :=
  Does Tryz.prog 114 #[.pointer a0] w fun e4 w4 =>
  (∃ f4 : Nat, e4 = .returned (.float .f64 f4) ∧ Does Tryz.prog 48 #[.float .f64 f4] w4 fun e5 w5 =>
  ∃ f5 : Nat, e5 = .returned (.float .f64 f5) ∧ R (.returned (.float .f64 f5)) w5) ∨ (∃ ch4, e4 = .panicked ch4 ∧ R (.panicked ch4) w4)
def f118_ann : Ann := { loops := [], cuts := [], flip := [], throws := [114] }
theorem f118_eq (a0 : Option Addr) (w : World) (R : Ending → World → Prop) : vc Tryz.prog f118_ann (bodyOf Tryz.f118) (retQ Tryz.prog Tryz.f118 R) (envOf Tryz.f118.ntmps [.v (.pointer a0)]) [] w = f118_vc a0 w R := by kernel_rfl
theorem f118_does (a0 : Option Addr) {w : World} {R : Ending → World → Prop} (h : f118_vc a0 w R) : Does Tryz.prog 118 #[.pointer a0] w R :=
  does_of_vc (ss := [.v (.pointer a0)]) f118_ann mixed call118 Tryz.func118 rfl rfl (show 1 ≤ Tryz.f118.ntmps by decide) ((f118_eq a0 w R).symm ▸ h)
/-- Of (*escritoire/calc.reader).number (function 119): the condition. -/
def f119_vc (a0 : Option Addr) (w : World) (R : Ending → World → Prop) : Prop :=
  ∃ b7 o7, a0 = some ⟨b7, o7, none⟩ ∧ ∃ n9 : Int, w.cell? ⟨b7, o7 + 1, none⟩ = some (.int .i64 n9) ∧ ∃ I2 : Nat → World → Prop, (∃ nl2, I2  nl2 w) ∧ ∀ (nl2 : Nat) (wl2 : World), I2  nl2 wl2 →
  ∀ wd2, Drew wl2 wd2 →
  ∃ S2 : World → Prop, S2 wd2 ∧ ∃ b11 o11, a0 = some ⟨b11, o11, none⟩ ∧ ∃ n13 : Int, (∀ w, S2 w → w.cell? ⟨b11, o11 + 1, none⟩ = some (.int .i64 n13)) ∧ ∃ b15 o15, a0 = some ⟨b15, o15, none⟩ ∧ ∃ s17 : ByteArray, (∀ w, S2 w → w.cell? ⟨b15, o15, none⟩ = some (.string s17)) ∧ Br (decide (n13 < ((s17.size : Int))))
  (∃ b22 o22, a0 = some ⟨b22, o22, none⟩ ∧ ∃ s24 : ByteArray, (∀ w, S2 w → w.cell? ⟨b22, o22, none⟩ = some (.string s24)) ∧ ∃ b26 o26, a0 = some ⟨b26, o26, none⟩ ∧ ∃ n28 : Int, (∀ w, S2 w → w.cell? ⟨b26, o26 + 1, none⟩ = some (.int .i64 n28)) ∧ ((0 : Int) ≤ n28 ∧ n28 < (s24.size : Int)) ∧ Br ((sb s24 n28) == 46)
  (∃ b57 o57, a0 = some ⟨b57, o57, none⟩ ∧ ∃ n59 : Int, wd2.cell? ⟨b57, o57 + 1, none⟩ = some (.int .i64 n59) ∧ InK .i64 (n59 + 1) ∧ ∃ b61 o61, a0 = some ⟨b61, o61, none⟩ ∧ CanStore wd2 b61 (o61 + 1) ∧ ∀ ws, Stored wd2 b61 (o61 + 1) (.int .i64 (n59 + 1)) ws →
  ∃ ml2, ml2 < nl2 ∧ I2  ml2 ws)
  (∃ b33 o33, a0 = some ⟨b33, o33, none⟩ ∧ ∃ s35 : ByteArray, (∀ w, S2 w → w.cell? ⟨b33, o33, none⟩ = some (.string s35)) ∧ ∃ b37 o37, a0 = some ⟨b37, o37, none⟩ ∧ ∃ n39 : Int, (∀ w, S2 w → w.cell? ⟨b37, o37 + 1, none⟩ = some (.int .i64 n39)) ∧ ((0 : Int) ≤ n39 ∧ n39 < (s35.size : Int)) ∧ Br (decide ((sb s35 n39) ≥ 48))
  (∃ b44 o44, a0 = some ⟨b44, o44, none⟩ ∧ ∃ s46 : ByteArray, (∀ w, S2 w → w.cell? ⟨b44, o44, none⟩ = some (.string s46)) ∧ ∃ b48 o48, a0 = some ⟨b48, o48, none⟩ ∧ ∃ n50 : Int, (∀ w, S2 w → w.cell? ⟨b48, o48 + 1, none⟩ = some (.int .i64 n50)) ∧ ((0 : Int) ≤ n50 ∧ n50 < (s46.size : Int)) ∧ Br (decide ((sb s46 n50) ≤ 57))
  (∃ b57_1 o57_1, a0 = some ⟨b57_1, o57_1, none⟩ ∧ ∃ n59_1 : Int, wd2.cell? ⟨b57_1, o57_1 + 1, none⟩ = some (.int .i64 n59_1) ∧ InK .i64 (n59_1 + 1) ∧ ∃ b61_1 o61_1, a0 = some ⟨b61_1, o61_1, none⟩ ∧ CanStore wd2 b61_1 (o61_1 + 1) ∧ ∀ ws_1, Stored wd2 b61_1 (o61_1 + 1) (.int .i64 (n59_1 + 1)) ws_1 →
  ∃ ml2, ml2 < nl2 ∧ I2  ml2 ws_1)
  (∃ b64 o64, a0 = some ⟨b64, o64, none⟩ ∧ ∃ n66 : Int, wd2.cell? ⟨b64, o64 + 1, none⟩ = some (.int .i64 n66) ∧ Does Tryz.prog 145 #[.bool (decide (n66 > n9))] wd2 fun e69 w69 =>
  (e69 = .returned (.tuple #[]) ∧ ∀ wd5, Drew w69 wd5 →
  ∃ S5 : World → Prop, S5 wd5 ∧ ∃ b72 o72, a0 = some ⟨b72, o72, none⟩ ∧ ∃ s74 : ByteArray, (∀ w, S5 w → w.cell? ⟨b72, o72, none⟩ = some (.string s74)) ∧ ∃ b77 o77, a0 = some ⟨b77, o77, none⟩ ∧ ∃ n79 : Int, (∀ w, S5 w → w.cell? ⟨b77, o77 + 1, none⟩ = some (.int .i64 n79)) ∧ ((0 : Int) ≤ n79 ∧ n79 ≤ (s74.size : Int)) ∧ ((0 : Int) ≤ n9 ∧ n9 ≤ n79) ∧ Does Tryz.prog 13 #[.string (s74.extract ((n9).toNat) ((n79).toNat))] wd5 fun e81 w81 =>
  ∃ f81 : Nat, ∃ b81 : Bool, e81 = .returned (.tuple #[.float .f64 f81, .bool b81]) ∧ Does Tryz.prog 145 #[.bool b81] w81 fun e85 w85 =>
  (e85 = .returned (.tuple #[]) ∧ R (.returned (.float .f64 f81)) w85) ∨ (∃ ch85, e85 = .panicked ch85 ∧ R (.panicked ch85) w85)) ∨ (∃ ch69, e69 = .panicked ch69 ∧ R (.panicked ch69) w69)))
  (∃ b64_1 o64_1, a0 = some ⟨b64_1, o64_1, none⟩ ∧ ∃ n66_1 : Int, wd2.cell? ⟨b64_1, o64_1 + 1, none⟩ = some (.int .i64 n66_1) ∧ Does Tryz.prog 145 #[.bool (decide (n66_1 > n9))] wd2 fun e69_1 w69_1 =>
  (e69_1 = .returned (.tuple #[]) ∧ ∀ wd5_1, Drew w69_1 wd5_1 →
  ∃ S5_1 : World → Prop, S5_1 wd5_1 ∧ ∃ b72_1 o72_1, a0 = some ⟨b72_1, o72_1, none⟩ ∧ ∃ s74_1 : ByteArray, (∀ w, S5_1 w → w.cell? ⟨b72_1, o72_1, none⟩ = some (.string s74_1)) ∧ ∃ b77_1 o77_1, a0 = some ⟨b77_1, o77_1, none⟩ ∧ ∃ n79_1 : Int, (∀ w, S5_1 w → w.cell? ⟨b77_1, o77_1 + 1, none⟩ = some (.int .i64 n79_1)) ∧ ((0 : Int) ≤ n79_1 ∧ n79_1 ≤ (s74_1.size : Int)) ∧ ((0 : Int) ≤ n9 ∧ n9 ≤ n79_1) ∧ Does Tryz.prog 13 #[.string (s74_1.extract ((n9).toNat) ((n79_1).toNat))] wd5_1 fun e81_1 w81_1 =>
  ∃ f81_1 : Nat, ∃ b81_1 : Bool, e81_1 = .returned (.tuple #[.float .f64 f81_1, .bool b81_1]) ∧ Does Tryz.prog 145 #[.bool b81_1] w81_1 fun e85_1 w85_1 =>
  (e85_1 = .returned (.tuple #[]) ∧ R (.returned (.float .f64 f81_1)) w85_1) ∨ (∃ ch85_1, e85_1 = .panicked ch85_1 ∧ R (.panicked ch85_1) w85_1)) ∨ (∃ ch69_1, e69_1 = .panicked ch69_1 ∧ R (.panicked ch69_1) w69_1))))
  (∃ b64_2 o64_2, a0 = some ⟨b64_2, o64_2, none⟩ ∧ ∃ n66_2 : Int, wd2.cell? ⟨b64_2, o64_2 + 1, none⟩ = some (.int .i64 n66_2) ∧ Does Tryz.prog 145 #[.bool (decide (n66_2 > n9))] wd2 fun e69_2 w69_2 =>
  (e69_2 = .returned (.tuple #[]) ∧ ∀ wd5_2, Drew w69_2 wd5_2 →
  ∃ S5_2 : World → Prop, S5_2 wd5_2 ∧ ∃ b72_2 o72_2, a0 = some ⟨b72_2, o72_2, none⟩ ∧ ∃ s74_2 : ByteArray, (∀ w, S5_2 w → w.cell? ⟨b72_2, o72_2, none⟩ = some (.string s74_2)) ∧ ∃ b77_2 o77_2, a0 = some ⟨b77_2, o77_2, none⟩ ∧ ∃ n79_2 : Int, (∀ w, S5_2 w → w.cell? ⟨b77_2, o77_2 + 1, none⟩ = some (.int .i64 n79_2)) ∧ ((0 : Int) ≤ n79_2 ∧ n79_2 ≤ (s74_2.size : Int)) ∧ ((0 : Int) ≤ n9 ∧ n9 ≤ n79_2) ∧ Does Tryz.prog 13 #[.string (s74_2.extract ((n9).toNat) ((n79_2).toNat))] wd5_2 fun e81_2 w81_2 =>
  ∃ f81_2 : Nat, ∃ b81_2 : Bool, e81_2 = .returned (.tuple #[.float .f64 f81_2, .bool b81_2]) ∧ Does Tryz.prog 145 #[.bool b81_2] w81_2 fun e85_2 w85_2 =>
  (e85_2 = .returned (.tuple #[]) ∧ R (.returned (.float .f64 f81_2)) w85_2) ∨ (∃ ch85_2, e85_2 = .panicked ch85_2 ∧ R (.panicked ch85_2) w85_2)) ∨ (∃ ch69_2, e69_2 = .panicked ch69_2 ∧ R (.panicked ch69_2) w69_2))
def f119_ann : Ann := { loops := [(2, [])], cuts := [], flip := [], throws := [145] }
theorem f119_eq (a0 : Option Addr) (w : World) (R : Ending → World → Prop) : vc Tryz.prog f119_ann (bodyOf Tryz.f119) (retQ Tryz.prog Tryz.f119 R) (envOf Tryz.f119.ntmps [.v (.pointer a0)]) [] w = f119_vc a0 w R := by kernel_rfl
theorem f119_does (a0 : Option Addr) {w : World} {R : Ending → World → Prop} (h : f119_vc a0 w R) : Does Tryz.prog 119 #[.pointer a0] w R :=
  does_of_vc (ss := [.v (.pointer a0)]) f119_ann mixed call119 Tryz.func119 rfl rfl (show 1 ≤ Tryz.f119.ntmps by decide) ((f119_eq a0 w R).symm ▸ h)
/-- Of internal/stringslite.IndexByte (function 120): the condition. -/
def f120_vc (a0 : ByteArray) (a1 : Int) (w : World) (R : Ending → World → Prop) : Prop :=
  Does Tryz.prog 147 #[.string a0, .int .u8 a1] w fun e7 w7 =>
  ∃ n7 : Int, e7 = .returned (.int .i64 n7) ∧ R (.returned (.int .i64 n7)) w7
def f120_ann : Ann := { loops := [], cuts := [], flip := [], throws := [] }
theorem f120_eq (a0 : ByteArray) (a1 : Int) (w : World) (R : Ending → World → Prop) : vc Tryz.prog f120_ann (bodyOf Tryz.f120) (retQ Tryz.prog Tryz.f120 R) (envOf Tryz.f120.ntmps [.v (.string a0), .v (.int .u8 a1)]) [] w = f120_vc a0 a1 w R := by kernel_rfl
theorem f120_does (a0 : ByteArray) (a1 : Int) {w : World} {R : Ending → World → Prop} (h : f120_vc a0 a1 w R) : Does Tryz.prog 120 #[.string a0, .int .u8 a1] w R :=
  does_of_vc (ss := [.v (.string a0), .v (.int .u8 a1)]) f120_ann mixed call120 Tryz.func120 rfl rfl (show 2 ≤ Tryz.f120.ntmps by decide) ((f120_eq a0 a1 w R).symm ▸ h)
/-- Of internal/strconv.special (function 124): the condition. -/
def f124_vc (a0 : ByteArray) (w : World) (R : Ending → World → Prop) : Prop :=
  Br (((a0.size : Int)) == 0)
  (R (.returned (.tuple #[.float .f64 0, .int .i64 0, .bool false])) w)
  (((0 : Int) ≤ 0 ∧ 0 < (a0.size : Int)) ∧ Br ((sb a0 0) == 43)
  (((0 : Int) ≤ 0 ∧ 0 < (a0.size : Int)) ∧ Br ((sb a0 0) == 45)
  (((0 : Int) ≤ 1 ∧ 1 ≤ (a0.size : Int)) ∧ Does Tryz.prog 149 #[.string (a0.extract ((1 : Int).toNat) a0.size), .string (({ data := #[105, 110, 102, 105, 110, 105, 116, 121] } : ByteArray))] w fun e28 w28 =>
  ∃ n28 : Int, e28 = .returned (.int .i64 n28) ∧ Br (decide ((3 : Int) < n28))
  (Br (decide (n28 < 8))
  (Br ((3 : Int) == 3)
  (Does Tryz.prog 150 #[.int .i64 (-1)] w28 fun e42 w42 =>
  ∃ f42 : Nat, e42 = .returned (.float .f64 f42) ∧ InK .i64 (1 + 3) ∧ R (.returned (.tuple #[.float .f64 f42, .int .i64 (1 + 3), .bool true])) w42)
  (Br ((3 : Int) == 8)
  (Does Tryz.prog 150 #[.int .i64 (-1)] w28 fun e42_1 w42_1 =>
  ∃ f42_1 : Nat, e42_1 = .returned (.float .f64 f42_1) ∧ InK .i64 (1 + 3) ∧ R (.returned (.tuple #[.float .f64 f42_1, .int .i64 (1 + 3), .bool true])) w42_1)
  (R (.returned (.tuple #[.float .f64 0, .int .i64 0, .bool false])) w28)))
  (Br (n28 == 3)
  (Does Tryz.prog 150 #[.int .i64 (-1)] w28 fun e42_2 w42_2 =>
  ∃ f42_2 : Nat, e42_2 = .returned (.float .f64 f42_2) ∧ InK .i64 (1 + n28) ∧ R (.returned (.tuple #[.float .f64 f42_2, .int .i64 (1 + n28), .bool true])) w42_2)
  (Br (n28 == 8)
  (Does Tryz.prog 150 #[.int .i64 (-1)] w28 fun e42_3 w42_3 =>
  ∃ f42_3 : Nat, e42_3 = .returned (.float .f64 f42_3) ∧ InK .i64 (1 + n28) ∧ R (.returned (.tuple #[.float .f64 f42_3, .int .i64 (1 + n28), .bool true])) w42_3)
  (R (.returned (.tuple #[.float .f64 0, .int .i64 0, .bool false])) w28))))
  (Br (n28 == 3)
  (Does Tryz.prog 150 #[.int .i64 (-1)] w28 fun e42_4 w42_4 =>
  ∃ f42_4 : Nat, e42_4 = .returned (.float .f64 f42_4) ∧ InK .i64 (1 + n28) ∧ R (.returned (.tuple #[.float .f64 f42_4, .int .i64 (1 + n28), .bool true])) w42_4)
  (Br (n28 == 8)
  (Does Tryz.prog 150 #[.int .i64 (-1)] w28 fun e42_5 w42_5 =>
  ∃ f42_5 : Nat, e42_5 = .returned (.float .f64 f42_5) ∧ InK .i64 (1 + n28) ∧ R (.returned (.tuple #[.float .f64 f42_5, .int .i64 (1 + n28), .bool true])) w42_5)
  (R (.returned (.tuple #[.float .f64 0, .int .i64 0, .bool false])) w28))))
  (((0 : Int) ≤ 1 ∧ 1 ≤ (a0.size : Int)) ∧ Does Tryz.prog 149 #[.string (a0.extract ((1 : Int).toNat) a0.size), .string (({ data := #[105, 110, 102, 105, 110, 105, 116, 121] } : ByteArray))] w fun e28_1 w28_1 =>
  ∃ n28_1 : Int, e28_1 = .returned (.int .i64 n28_1) ∧ Br (decide ((3 : Int) < n28_1))
  (Br (decide (n28_1 < 8))
  (Br ((3 : Int) == 3)
  (Does Tryz.prog 150 #[.int .i64 1] w28_1 fun e42_6 w42_6 =>
  ∃ f42_6 : Nat, e42_6 = .returned (.float .f64 f42_6) ∧ InK .i64 (1 + 3) ∧ R (.returned (.tuple #[.float .f64 f42_6, .int .i64 (1 + 3), .bool true])) w42_6)
  (Br ((3 : Int) == 8)
  (Does Tryz.prog 150 #[.int .i64 1] w28_1 fun e42_7 w42_7 =>
  ∃ f42_7 : Nat, e42_7 = .returned (.float .f64 f42_7) ∧ InK .i64 (1 + 3) ∧ R (.returned (.tuple #[.float .f64 f42_7, .int .i64 (1 + 3), .bool true])) w42_7)
  (R (.returned (.tuple #[.float .f64 0, .int .i64 0, .bool false])) w28_1)))
  (Br (n28_1 == 3)
  (Does Tryz.prog 150 #[.int .i64 1] w28_1 fun e42_8 w42_8 =>
  ∃ f42_8 : Nat, e42_8 = .returned (.float .f64 f42_8) ∧ InK .i64 (1 + n28_1) ∧ R (.returned (.tuple #[.float .f64 f42_8, .int .i64 (1 + n28_1), .bool true])) w42_8)
  (Br (n28_1 == 8)
  (Does Tryz.prog 150 #[.int .i64 1] w28_1 fun e42_9 w42_9 =>
  ∃ f42_9 : Nat, e42_9 = .returned (.float .f64 f42_9) ∧ InK .i64 (1 + n28_1) ∧ R (.returned (.tuple #[.float .f64 f42_9, .int .i64 (1 + n28_1), .bool true])) w42_9)
  (R (.returned (.tuple #[.float .f64 0, .int .i64 0, .bool false])) w28_1))))
  (Br (n28_1 == 3)
  (Does Tryz.prog 150 #[.int .i64 1] w28_1 fun e42_10 w42_10 =>
  ∃ f42_10 : Nat, e42_10 = .returned (.float .f64 f42_10) ∧ InK .i64 (1 + n28_1) ∧ R (.returned (.tuple #[.float .f64 f42_10, .int .i64 (1 + n28_1), .bool true])) w42_10)
  (Br (n28_1 == 8)
  (Does Tryz.prog 150 #[.int .i64 1] w28_1 fun e42_11 w42_11 =>
  ∃ f42_11 : Nat, e42_11 = .returned (.float .f64 f42_11) ∧ InK .i64 (1 + n28_1) ∧ R (.returned (.tuple #[.float .f64 f42_11, .int .i64 (1 + n28_1), .bool true])) w42_11)
  (R (.returned (.tuple #[.float .f64 0, .int .i64 0, .bool false])) w28_1)))))
  (Br ((sb a0 0) == 45)
  (((0 : Int) ≤ 0 ∧ 0 < (a0.size : Int)) ∧ Br ((sb a0 0) == 45)
  (((0 : Int) ≤ 1 ∧ 1 ≤ (a0.size : Int)) ∧ Does Tryz.prog 149 #[.string (a0.extract ((1 : Int).toNat) a0.size), .string (({ data := #[105, 110, 102, 105, 110, 105, 116, 121] } : ByteArray))] w fun e28_2 w28_2 =>
  ∃ n28_2 : Int, e28_2 = .returned (.int .i64 n28_2) ∧ Br (decide ((3 : Int) < n28_2))
  (Br (decide (n28_2 < 8))
  (Br ((3 : Int) == 3)
  (Does Tryz.prog 150 #[.int .i64 (-1)] w28_2 fun e42_12 w42_12 =>
  ∃ f42_12 : Nat, e42_12 = .returned (.float .f64 f42_12) ∧ InK .i64 (1 + 3) ∧ R (.returned (.tuple #[.float .f64 f42_12, .int .i64 (1 + 3), .bool true])) w42_12)
  (Br ((3 : Int) == 8)
  (Does Tryz.prog 150 #[.int .i64 (-1)] w28_2 fun e42_13 w42_13 =>
  ∃ f42_13 : Nat, e42_13 = .returned (.float .f64 f42_13) ∧ InK .i64 (1 + 3) ∧ R (.returned (.tuple #[.float .f64 f42_13, .int .i64 (1 + 3), .bool true])) w42_13)
  (R (.returned (.tuple #[.float .f64 0, .int .i64 0, .bool false])) w28_2)))
  (Br (n28_2 == 3)
  (Does Tryz.prog 150 #[.int .i64 (-1)] w28_2 fun e42_14 w42_14 =>
  ∃ f42_14 : Nat, e42_14 = .returned (.float .f64 f42_14) ∧ InK .i64 (1 + n28_2) ∧ R (.returned (.tuple #[.float .f64 f42_14, .int .i64 (1 + n28_2), .bool true])) w42_14)
  (Br (n28_2 == 8)
  (Does Tryz.prog 150 #[.int .i64 (-1)] w28_2 fun e42_15 w42_15 =>
  ∃ f42_15 : Nat, e42_15 = .returned (.float .f64 f42_15) ∧ InK .i64 (1 + n28_2) ∧ R (.returned (.tuple #[.float .f64 f42_15, .int .i64 (1 + n28_2), .bool true])) w42_15)
  (R (.returned (.tuple #[.float .f64 0, .int .i64 0, .bool false])) w28_2))))
  (Br (n28_2 == 3)
  (Does Tryz.prog 150 #[.int .i64 (-1)] w28_2 fun e42_16 w42_16 =>
  ∃ f42_16 : Nat, e42_16 = .returned (.float .f64 f42_16) ∧ InK .i64 (1 + n28_2) ∧ R (.returned (.tuple #[.float .f64 f42_16, .int .i64 (1 + n28_2), .bool true])) w42_16)
  (Br (n28_2 == 8)
  (Does Tryz.prog 150 #[.int .i64 (-1)] w28_2 fun e42_17 w42_17 =>
  ∃ f42_17 : Nat, e42_17 = .returned (.float .f64 f42_17) ∧ InK .i64 (1 + n28_2) ∧ R (.returned (.tuple #[.float .f64 f42_17, .int .i64 (1 + n28_2), .bool true])) w42_17)
  (R (.returned (.tuple #[.float .f64 0, .int .i64 0, .bool false])) w28_2))))
  (((0 : Int) ≤ 1 ∧ 1 ≤ (a0.size : Int)) ∧ Does Tryz.prog 149 #[.string (a0.extract ((1 : Int).toNat) a0.size), .string (({ data := #[105, 110, 102, 105, 110, 105, 116, 121] } : ByteArray))] w fun e28_3 w28_3 =>
  ∃ n28_3 : Int, e28_3 = .returned (.int .i64 n28_3) ∧ Br (decide ((3 : Int) < n28_3))
  (Br (decide (n28_3 < 8))
  (Br ((3 : Int) == 3)
  (Does Tryz.prog 150 #[.int .i64 1] w28_3 fun e42_18 w42_18 =>
  ∃ f42_18 : Nat, e42_18 = .returned (.float .f64 f42_18) ∧ InK .i64 (1 + 3) ∧ R (.returned (.tuple #[.float .f64 f42_18, .int .i64 (1 + 3), .bool true])) w42_18)
  (Br ((3 : Int) == 8)
  (Does Tryz.prog 150 #[.int .i64 1] w28_3 fun e42_19 w42_19 =>
  ∃ f42_19 : Nat, e42_19 = .returned (.float .f64 f42_19) ∧ InK .i64 (1 + 3) ∧ R (.returned (.tuple #[.float .f64 f42_19, .int .i64 (1 + 3), .bool true])) w42_19)
  (R (.returned (.tuple #[.float .f64 0, .int .i64 0, .bool false])) w28_3)))
  (Br (n28_3 == 3)
  (Does Tryz.prog 150 #[.int .i64 1] w28_3 fun e42_20 w42_20 =>
  ∃ f42_20 : Nat, e42_20 = .returned (.float .f64 f42_20) ∧ InK .i64 (1 + n28_3) ∧ R (.returned (.tuple #[.float .f64 f42_20, .int .i64 (1 + n28_3), .bool true])) w42_20)
  (Br (n28_3 == 8)
  (Does Tryz.prog 150 #[.int .i64 1] w28_3 fun e42_21 w42_21 =>
  ∃ f42_21 : Nat, e42_21 = .returned (.float .f64 f42_21) ∧ InK .i64 (1 + n28_3) ∧ R (.returned (.tuple #[.float .f64 f42_21, .int .i64 (1 + n28_3), .bool true])) w42_21)
  (R (.returned (.tuple #[.float .f64 0, .int .i64 0, .bool false])) w28_3))))
  (Br (n28_3 == 3)
  (Does Tryz.prog 150 #[.int .i64 1] w28_3 fun e42_22 w42_22 =>
  ∃ f42_22 : Nat, e42_22 = .returned (.float .f64 f42_22) ∧ InK .i64 (1 + n28_3) ∧ R (.returned (.tuple #[.float .f64 f42_22, .int .i64 (1 + n28_3), .bool true])) w42_22)
  (Br (n28_3 == 8)
  (Does Tryz.prog 150 #[.int .i64 1] w28_3 fun e42_23 w42_23 =>
  ∃ f42_23 : Nat, e42_23 = .returned (.float .f64 f42_23) ∧ InK .i64 (1 + n28_3) ∧ R (.returned (.tuple #[.float .f64 f42_23, .int .i64 (1 + n28_3), .bool true])) w42_23)
  (R (.returned (.tuple #[.float .f64 0, .int .i64 0, .bool false])) w28_3)))))
  (Br ((sb a0 0) == 105)
  (Does Tryz.prog 149 #[.string a0, .string (({ data := #[105, 110, 102, 105, 110, 105, 116, 121] } : ByteArray))] w fun e28_4 w28_4 =>
  ∃ n28_4 : Int, e28_4 = .returned (.int .i64 n28_4) ∧ Br (decide ((3 : Int) < n28_4))
  (Br (decide (n28_4 < 8))
  (Br ((3 : Int) == 3)
  (Does Tryz.prog 150 #[.int .i64 1] w28_4 fun e42_24 w42_24 =>
  ∃ f42_24 : Nat, e42_24 = .returned (.float .f64 f42_24) ∧ InK .i64 (0 + 3) ∧ R (.returned (.tuple #[.float .f64 f42_24, .int .i64 (0 + 3), .bool true])) w42_24)
  (Br ((3 : Int) == 8)
  (Does Tryz.prog 150 #[.int .i64 1] w28_4 fun e42_25 w42_25 =>
  ∃ f42_25 : Nat, e42_25 = .returned (.float .f64 f42_25) ∧ InK .i64 (0 + 3) ∧ R (.returned (.tuple #[.float .f64 f42_25, .int .i64 (0 + 3), .bool true])) w42_25)
  (R (.returned (.tuple #[.float .f64 0, .int .i64 0, .bool false])) w28_4)))
  (Br (n28_4 == 3)
  (Does Tryz.prog 150 #[.int .i64 1] w28_4 fun e42_26 w42_26 =>
  ∃ f42_26 : Nat, e42_26 = .returned (.float .f64 f42_26) ∧ InK .i64 (0 + n28_4) ∧ R (.returned (.tuple #[.float .f64 f42_26, .int .i64 (0 + n28_4), .bool true])) w42_26)
  (Br (n28_4 == 8)
  (Does Tryz.prog 150 #[.int .i64 1] w28_4 fun e42_27 w42_27 =>
  ∃ f42_27 : Nat, e42_27 = .returned (.float .f64 f42_27) ∧ InK .i64 (0 + n28_4) ∧ R (.returned (.tuple #[.float .f64 f42_27, .int .i64 (0 + n28_4), .bool true])) w42_27)
  (R (.returned (.tuple #[.float .f64 0, .int .i64 0, .bool false])) w28_4))))
  (Br (n28_4 == 3)
  (Does Tryz.prog 150 #[.int .i64 1] w28_4 fun e42_28 w42_28 =>
  ∃ f42_28 : Nat, e42_28 = .returned (.float .f64 f42_28) ∧ InK .i64 (0 + n28_4) ∧ R (.returned (.tuple #[.float .f64 f42_28, .int .i64 (0 + n28_4), .bool true])) w42_28)
  (Br (n28_4 == 8)
  (Does Tryz.prog 150 #[.int .i64 1] w28_4 fun e42_29 w42_29 =>
  ∃ f42_29 : Nat, e42_29 = .returned (.float .f64 f42_29) ∧ InK .i64 (0 + n28_4) ∧ R (.returned (.tuple #[.float .f64 f42_29, .int .i64 (0 + n28_4), .bool true])) w42_29)
  (R (.returned (.tuple #[.float .f64 0, .int .i64 0, .bool false])) w28_4))))
  (Br ((sb a0 0) == 73)
  (Does Tryz.prog 149 #[.string a0, .string (({ data := #[105, 110, 102, 105, 110, 105, 116, 121] } : ByteArray))] w fun e28_5 w28_5 =>
  ∃ n28_5 : Int, e28_5 = .returned (.int .i64 n28_5) ∧ Br (decide ((3 : Int) < n28_5))
  (Br (decide (n28_5 < 8))
  (Br ((3 : Int) == 3)
  (Does Tryz.prog 150 #[.int .i64 1] w28_5 fun e42_30 w42_30 =>
  ∃ f42_30 : Nat, e42_30 = .returned (.float .f64 f42_30) ∧ InK .i64 (0 + 3) ∧ R (.returned (.tuple #[.float .f64 f42_30, .int .i64 (0 + 3), .bool true])) w42_30)
  (Br ((3 : Int) == 8)
  (Does Tryz.prog 150 #[.int .i64 1] w28_5 fun e42_31 w42_31 =>
  ∃ f42_31 : Nat, e42_31 = .returned (.float .f64 f42_31) ∧ InK .i64 (0 + 3) ∧ R (.returned (.tuple #[.float .f64 f42_31, .int .i64 (0 + 3), .bool true])) w42_31)
  (R (.returned (.tuple #[.float .f64 0, .int .i64 0, .bool false])) w28_5)))
  (Br (n28_5 == 3)
  (Does Tryz.prog 150 #[.int .i64 1] w28_5 fun e42_32 w42_32 =>
  ∃ f42_32 : Nat, e42_32 = .returned (.float .f64 f42_32) ∧ InK .i64 (0 + n28_5) ∧ R (.returned (.tuple #[.float .f64 f42_32, .int .i64 (0 + n28_5), .bool true])) w42_32)
  (Br (n28_5 == 8)
  (Does Tryz.prog 150 #[.int .i64 1] w28_5 fun e42_33 w42_33 =>
  ∃ f42_33 : Nat, e42_33 = .returned (.float .f64 f42_33) ∧ InK .i64 (0 + n28_5) ∧ R (.returned (.tuple #[.float .f64 f42_33, .int .i64 (0 + n28_5), .bool true])) w42_33)
  (R (.returned (.tuple #[.float .f64 0, .int .i64 0, .bool false])) w28_5))))
  (Br (n28_5 == 3)
  (Does Tryz.prog 150 #[.int .i64 1] w28_5 fun e42_34 w42_34 =>
  ∃ f42_34 : Nat, e42_34 = .returned (.float .f64 f42_34) ∧ InK .i64 (0 + n28_5) ∧ R (.returned (.tuple #[.float .f64 f42_34, .int .i64 (0 + n28_5), .bool true])) w42_34)
  (Br (n28_5 == 8)
  (Does Tryz.prog 150 #[.int .i64 1] w28_5 fun e42_35 w42_35 =>
  ∃ f42_35 : Nat, e42_35 = .returned (.float .f64 f42_35) ∧ InK .i64 (0 + n28_5) ∧ R (.returned (.tuple #[.float .f64 f42_35, .int .i64 (0 + n28_5), .bool true])) w42_35)
  (R (.returned (.tuple #[.float .f64 0, .int .i64 0, .bool false])) w28_5))))
  (Br ((sb a0 0) == 110)
  (Does Tryz.prog 149 #[.string a0, .string (({ data := #[110, 97, 110] } : ByteArray))] w fun e47 w47 =>
  ∃ n47 : Int, e47 = .returned (.int .i64 n47) ∧ Br (n47 == 3)
  (Does Tryz.prog 151 #[] w47 fun e49 w49 =>
  ∃ f49 : Nat, e49 = .returned (.float .f64 f49) ∧ R (.returned (.tuple #[.float .f64 f49, .int .i64 3, .bool true])) w49)
  (R (.returned (.tuple #[.float .f64 0, .int .i64 0, .bool false])) w47))
  (Br ((sb a0 0) == 78)
  (Does Tryz.prog 149 #[.string a0, .string (({ data := #[110, 97, 110] } : ByteArray))] w fun e47_1 w47_1 =>
  ∃ n47_1 : Int, e47_1 = .returned (.int .i64 n47_1) ∧ Br (n47_1 == 3)
  (Does Tryz.prog 151 #[] w47_1 fun e49_1 w49_1 =>
  ∃ f49_1 : Nat, e49_1 = .returned (.float .f64 f49_1) ∧ R (.returned (.tuple #[.float .f64 f49_1, .int .i64 3, .bool true])) w49_1)
  (R (.returned (.tuple #[.float .f64 0, .int .i64 0, .bool false])) w47_1))
  (R (.returned (.tuple #[.float .f64 0, .int .i64 0, .bool false])) w)))))))
def f124_ann : Ann := { loops := [], cuts := [], flip := [], throws := [] }
theorem f124_eq (a0 : ByteArray) (w : World) (R : Ending → World → Prop) : vc Tryz.prog f124_ann (bodyOf Tryz.f124) (retQ Tryz.prog Tryz.f124 R) (envOf Tryz.f124.ntmps [.v (.string a0)]) [] w = f124_vc a0 w R := by kernel_rfl
theorem f124_does (a0 : ByteArray) {w : World} {R : Ending → World → Prop} (h : f124_vc a0 w R) : Does Tryz.prog 124 #[.string a0] w R :=
  does_of_vc (ss := [.v (.string a0)]) f124_ann mixed call124 Tryz.func124 rfl rfl (show 1 ≤ Tryz.f124.ntmps by decide) ((f124_eq a0 w R).symm ▸ h)
/-- Of internal/strconv.readFloat (function 125): the condition. -/
def f125_vc (a0 : ByteArray) (w : World) (R : Ending → World → Prop) : Prop :=
  Br (decide ((0 : Int) ≥ ((a0.size : Int))))
  (R (.returned (.tuple #[.int .u64 0, .int .i64 0, .bool false, .bool false, .bool false, .int .i64 0, .bool false])) w)
  (∃ J9 : Bool → Int → Nat → World → Prop, (((0 : Int) ≤ 0 ∧ 0 < (a0.size : Int)) ∧ Br ((sb a0 0) == 43)
  (InK .i64 (0 + 1) ∧ ∃ nc9, J9 false (0 + 1) nc9 w)
  (Br ((sb a0 0) == 45)
  (InK .i64 (0 + 1) ∧ ∃ nc9, J9 true (0 + 1) nc9 w)
  (∃ nc9, J9 false 0 nc9 w))) ∧ ∀ b4 : Bool, ∀ x7 : Int, ∀ (nc9 : Nat) (wc9 : World), J9 b4 x7 nc9 wc9 →
  ∃ J18 : Bool → Int → Int → Int → Int → Nat → World → Prop, (InK .i64 (x7 + 2) ∧ Br (decide ((x7 + 2) < ((a0.size : Int))))
  (((0 : Int) ≤ x7 ∧ x7 < (a0.size : Int)) ∧ Br ((sb a0 x7) == 48)
  (InK .i64 (x7 + 1) ∧ ((0 : Int) ≤ (x7 + 1) ∧ (x7 + 1) < (a0.size : Int)) ∧ Does Tryz.prog 152 #[.int .u8 (sb a0 (x7 + 1))] wc9 fun e52 w52 =>
  ∃ n52 : Int, e52 = .returned (.int .u8 n52) ∧ Br (n52 == 120)
  (InK .i64 (x7 + 2) ∧ ∃ nc18, J18 true (x7 + 2) 16 16 112 nc18 w52)
  (∃ nc18, J18 false x7 10 19 101 nc18 w52))
  (∃ nc18, J18 false x7 10 19 101 nc18 wc9))
  (∃ nc18, J18 false x7 10 19 101 nc18 wc9)) ∧ ∀ b6 : Bool, ∀ x7_1 : Int, ∀ x10 : Int, ∀ x11 : Int, ∀ x12 : Int, ∀ (nc18 : Nat) (wc18 : World), J18 b6 x7_1 x10 x11 x12 nc18 wc18 →
  ∃ J51 : Int → Bool → Int → Bool → Bool → Bool → Int → Int → Int → Nat → World → Prop, (∃ I23 : Int → Bool → Int → Bool → Bool → Bool → Int → Int → Int → Nat → World → Prop, (∃ nl23, I23 0 false x7_1 false false false 0 0 0 nl23 wc18) ∧ ∀ x2 : Int, ∀ b5 : Bool, ∀ x7_2 : Int, ∀ b9 : Bool, ∀ b13 : Bool, ∀ b14 : Bool, ∀ x15 : Int, ∀ x16 : Int, ∀ x17 : Int, ∀ (nl23 : Nat) (wl23 : World), I23 x2 b5 x7_2 b9 b13 b14 x15 x16 x17 nl23 wl23 →
  Br (decide (x7_2 < ((a0.size : Int))))
  (∃ J24 : Int → Bool → Bool → Bool → Bool → Int → Int → Int → Nat → World → Prop, (((0 : Int) ≤ x7_2 ∧ x7_2 < (a0.size : Int)) ∧ Br (true == ((sb a0 x7_2) == 95))
  (∃ nc24, J24 x2 b5 true b13 b14 x15 x16 x17 nc24 wl23)
  (Br (true == ((sb a0 x7_2) == 46))
  (Br b13
  (∃ nc51, J51 x2 b5 x7_2 b9 b13 b14 x15 x16 x17 nc51 wl23)
  (∃ nc24, J24 x2 b5 b9 true b14 x15 x16 x15 nc24 wl23))
  (Br (decide ((48 : Int) ≤ (sb a0 x7_2)))
  (Br (true == (decide ((sb a0 x7_2) ≤ 57)))
  (Br ((sb a0 x7_2) == 48)
  (Br (x15 == 0)
  (InK .i64 (x17 - 1) ∧ ∃ nc24, J24 x2 b5 b9 b13 true x15 x16 (x17 - 1) nc24 wl23)
  (InK .i64 (x15 + 1) ∧ Br (decide (x16 < x11))
  (InK .i64 (x16 + 1) ∧ ∃ nc24, J24 (IntKind.wrap .u64 ((IntKind.wrap .u64 (x2 * x10)) + (IntKind.wrap .u64 (IntKind.wrap .u8 ((sb a0 x7_2) - 48))))) b5 b9 b13 true (x15 + 1) (x16 + 1) x17 nc24 wl23)
  (Br ((sb a0 x7_2) != 48)
  (∃ nc24, J24 x2 true b9 b13 true (x15 + 1) x16 x17 nc24 wl23)
  (∃ nc24, J24 x2 b5 b9 b13 true (x15 + 1) x16 x17 nc24 wl23))))
  (InK .i64 (x15 + 1) ∧ Br (decide (x16 < x11))
  (InK .i64 (x16 + 1) ∧ ∃ nc24, J24 (IntKind.wrap .u64 ((IntKind.wrap .u64 (x2 * x10)) + (IntKind.wrap .u64 (IntKind.wrap .u8 ((sb a0 x7_2) - 48))))) b5 b9 b13 true (x15 + 1) (x16 + 1) x17 nc24 wl23)
  (Br ((sb a0 x7_2) != 48)
  (∃ nc24, J24 x2 true b9 b13 true (x15 + 1) x16 x17 nc24 wl23)
  (∃ nc24, J24 x2 b5 b9 b13 true (x15 + 1) x16 x17 nc24 wl23))))
  (Br (x10 == 16)
  (Does Tryz.prog 152 #[.int .u8 (sb a0 x7_2)] wl23 fun e114 w114 =>
  ∃ n114 : Int, e114 = .returned (.int .u8 n114) ∧ Br (decide ((97 : Int) ≤ n114))
  (Does Tryz.prog 152 #[.int .u8 (sb a0 x7_2)] w114 fun e119 w119 =>
  ∃ n119 : Int, e119 = .returned (.int .u8 n119) ∧ Br (true == (decide (n119 ≤ 102)))
  (InK .i64 (x15 + 1) ∧ Br (decide (x16 < x11))
  (Does Tryz.prog 152 #[.int .u8 (sb a0 x7_2)] w119 fun e132 w132 =>
  ∃ n132 : Int, e132 = .returned (.int .u8 n132) ∧ InK .i64 (x16 + 1) ∧ ∃ nc24, J24 (IntKind.wrap .u64 ((IntKind.wrap .u64 (x2 * 16)) + (IntKind.wrap .u64 (IntKind.wrap .u8 ((IntKind.wrap .u8 (n132 - 97)) + 10))))) b5 b9 b13 true (x15 + 1) (x16 + 1) x17 nc24 w132)
  (∃ nc24, J24 x2 true b9 b13 true (x15 + 1) x16 x17 nc24 w119))
  (∃ nc51, J51 x2 b5 x7_2 b9 b13 b14 x15 x16 x17 nc51 w119))
  (Br (true == false)
  (InK .i64 (x15 + 1) ∧ Br (decide (x16 < x11))
  (Does Tryz.prog 152 #[.int .u8 (sb a0 x7_2)] w114 fun e132_1 w132_1 =>
  ∃ n132_1 : Int, e132_1 = .returned (.int .u8 n132_1) ∧ InK .i64 (x16 + 1) ∧ ∃ nc24, J24 (IntKind.wrap .u64 ((IntKind.wrap .u64 (x2 * 16)) + (IntKind.wrap .u64 (IntKind.wrap .u8 ((IntKind.wrap .u8 (n132_1 - 97)) + 10))))) b5 b9 b13 true (x15 + 1) (x16 + 1) x17 nc24 w132_1)
  (∃ nc24, J24 x2 true b9 b13 true (x15 + 1) x16 x17 nc24 w114))
  (∃ nc51, J51 x2 b5 x7_2 b9 b13 b14 x15 x16 x17 nc51 w114)))
  (Br (true == false)
  (InK .i64 (x15 + 1) ∧ Br (decide (x16 < x11))
  (Does Tryz.prog 152 #[.int .u8 (sb a0 x7_2)] wl23 fun e132_2 w132_2 =>
  ∃ n132_2 : Int, e132_2 = .returned (.int .u8 n132_2) ∧ InK .i64 (x16 + 1) ∧ ∃ nc24, J24 (IntKind.wrap .u64 ((IntKind.wrap .u64 (x2 * 16)) + (IntKind.wrap .u64 (IntKind.wrap .u8 ((IntKind.wrap .u8 (n132_2 - 97)) + 10))))) b5 b9 b13 true (x15 + 1) (x16 + 1) x17 nc24 w132_2)
  (∃ nc24, J24 x2 true b9 b13 true (x15 + 1) x16 x17 nc24 wl23))
  (∃ nc51, J51 x2 b5 x7_2 b9 b13 b14 x15 x16 x17 nc51 wl23))))
  (Br (true == false)
  (Br ((sb a0 x7_2) == 48)
  (Br (x15 == 0)
  (InK .i64 (x17 - 1) ∧ ∃ nc24, J24 x2 b5 b9 b13 true x15 x16 (x17 - 1) nc24 wl23)
  (InK .i64 (x15 + 1) ∧ Br (decide (x16 < x11))
  (InK .i64 (x16 + 1) ∧ ∃ nc24, J24 (IntKind.wrap .u64 ((IntKind.wrap .u64 (x2 * x10)) + (IntKind.wrap .u64 (IntKind.wrap .u8 ((sb a0 x7_2) - 48))))) b5 b9 b13 true (x15 + 1) (x16 + 1) x17 nc24 wl23)
  (Br ((sb a0 x7_2) != 48)
  (∃ nc24, J24 x2 true b9 b13 true (x15 + 1) x16 x17 nc24 wl23)
  (∃ nc24, J24 x2 b5 b9 b13 true (x15 + 1) x16 x17 nc24 wl23))))
  (InK .i64 (x15 + 1) ∧ Br (decide (x16 < x11))
  (InK .i64 (x16 + 1) ∧ ∃ nc24, J24 (IntKind.wrap .u64 ((IntKind.wrap .u64 (x2 * x10)) + (IntKind.wrap .u64 (IntKind.wrap .u8 ((sb a0 x7_2) - 48))))) b5 b9 b13 true (x15 + 1) (x16 + 1) x17 nc24 wl23)
  (Br ((sb a0 x7_2) != 48)
  (∃ nc24, J24 x2 true b9 b13 true (x15 + 1) x16 x17 nc24 wl23)
  (∃ nc24, J24 x2 b5 b9 b13 true (x15 + 1) x16 x17 nc24 wl23))))
  (Br (x10 == 16)
  (Does Tryz.prog 152 #[.int .u8 (sb a0 x7_2)] wl23 fun e114_1 w114_1 =>
  ∃ n114_1 : Int, e114_1 = .returned (.int .u8 n114_1) ∧ Br (decide ((97 : Int) ≤ n114_1))
  (Does Tryz.prog 152 #[.int .u8 (sb a0 x7_2)] w114_1 fun e119_1 w119_1 =>
  ∃ n119_1 : Int, e119_1 = .returned (.int .u8 n119_1) ∧ Br (true == (decide (n119_1 ≤ 102)))
  (InK .i64 (x15 + 1) ∧ Br (decide (x16 < x11))
  (Does Tryz.prog 152 #[.int .u8 (sb a0 x7_2)] w119_1 fun e132_3 w132_3 =>
  ∃ n132_3 : Int, e132_3 = .returned (.int .u8 n132_3) ∧ InK .i64 (x16 + 1) ∧ ∃ nc24, J24 (IntKind.wrap .u64 ((IntKind.wrap .u64 (x2 * 16)) + (IntKind.wrap .u64 (IntKind.wrap .u8 ((IntKind.wrap .u8 (n132_3 - 97)) + 10))))) b5 b9 b13 true (x15 + 1) (x16 + 1) x17 nc24 w132_3)
  (∃ nc24, J24 x2 true b9 b13 true (x15 + 1) x16 x17 nc24 w119_1))
  (∃ nc51, J51 x2 b5 x7_2 b9 b13 b14 x15 x16 x17 nc51 w119_1))
  (Br (true == false)
  (InK .i64 (x15 + 1) ∧ Br (decide (x16 < x11))
  (Does Tryz.prog 152 #[.int .u8 (sb a0 x7_2)] w114_1 fun e132_4 w132_4 =>
  ∃ n132_4 : Int, e132_4 = .returned (.int .u8 n132_4) ∧ InK .i64 (x16 + 1) ∧ ∃ nc24, J24 (IntKind.wrap .u64 ((IntKind.wrap .u64 (x2 * 16)) + (IntKind.wrap .u64 (IntKind.wrap .u8 ((IntKind.wrap .u8 (n132_4 - 97)) + 10))))) b5 b9 b13 true (x15 + 1) (x16 + 1) x17 nc24 w132_4)
  (∃ nc24, J24 x2 true b9 b13 true (x15 + 1) x16 x17 nc24 w114_1))
  (∃ nc51, J51 x2 b5 x7_2 b9 b13 b14 x15 x16 x17 nc51 w114_1)))
  (Br (true == false)
  (InK .i64 (x15 + 1) ∧ Br (decide (x16 < x11))
  (Does Tryz.prog 152 #[.int .u8 (sb a0 x7_2)] wl23 fun e132_5 w132_5 =>
  ∃ n132_5 : Int, e132_5 = .returned (.int .u8 n132_5) ∧ InK .i64 (x16 + 1) ∧ ∃ nc24, J24 (IntKind.wrap .u64 ((IntKind.wrap .u64 (x2 * 16)) + (IntKind.wrap .u64 (IntKind.wrap .u8 ((IntKind.wrap .u8 (n132_5 - 97)) + 10))))) b5 b9 b13 true (x15 + 1) (x16 + 1) x17 nc24 w132_5)
  (∃ nc24, J24 x2 true b9 b13 true (x15 + 1) x16 x17 nc24 wl23))
  (∃ nc51, J51 x2 b5 x7_2 b9 b13 b14 x15 x16 x17 nc51 wl23))))))) ∧ ∀ x2_1 : Int, ∀ b5_1 : Bool, ∀ b9_1 : Bool, ∀ b13_1 : Bool, ∀ b14_1 : Bool, ∀ x15_1 : Int, ∀ x16_1 : Int, ∀ x17_1 : Int, ∀ (nc24 : Nat) (wc24 : World), J24 x2_1 b5_1 b9_1 b13_1 b14_1 x15_1 x16_1 x17_1 nc24 wc24 →
  InK .i64 (x7_2 + 1) ∧ ∃ ml23, ml23 < nl23 ∧ I23 x2_1 b5_1 (x7_2 + 1) b9_1 b13_1 b14_1 x15_1 x16_1 x17_1 ml23 wc24)
  (∃ nc51, J51 x2 b5 x7_2 b9 b13 b14 x15 x16 x17 nc51 wl23)) ∧ ∀ x2_2 : Int, ∀ b5_2 : Bool, ∀ x7_3 : Int, ∀ b9_2 : Bool, ∀ b13_2 : Bool, ∀ b14_2 : Bool, ∀ x15_2 : Int, ∀ x16_2 : Int, ∀ x17_2 : Int, ∀ (nc51 : Nat) (wc51 : World), J51 x2_2 b5_2 x7_3 b9_2 b13_2 b14_2 x15_2 x16_2 x17_2 nc51 wc51 →
  Br (!b14_2)
  (R (.returned (.tuple #[.int .u64 x2_2, .int .i64 0, .bool b4, .bool b5_2, .bool b6, .int .i64 x7_3, .bool false])) wc51)
  (∃ J54 : Int → Nat → World → Prop, (Br (!b13_2)
  (∃ nc54, J54 x15_2 nc54 wc51)
  (∃ nc54, J54 x17_2 nc54 wc51)) ∧ ∀ x17_3 : Int, ∀ (nc54 : Nat) (wc54 : World), J54 x17_3 nc54 wc54 →
  ∃ J57 : Int → Int → Nat → World → Prop, (Br (x10 == 16)
  (InK .i64 (x17_3 * 4) ∧ InK .i64 (x16_2 * 4) ∧ ∃ nc57, J57 (x16_2 * 4) (x17_3 * 4) nc57 wc54)
  (∃ nc57, J57 x16_2 x17_3 nc57 wc54)) ∧ ∀ x16_3 : Int, ∀ x17_4 : Int, ∀ (nc57 : Nat) (wc57 : World), J57 x16_3 x17_4 nc57 wc57 →
  ∃ J77 : Int → Bool → Int → Nat → World → Prop, (Br (decide (x7_3 < ((a0.size : Int))))
  (((0 : Int) ≤ x7_3 ∧ x7_3 < (a0.size : Int)) ∧ Does Tryz.prog 152 #[.int .u8 (sb a0 x7_3)] wc57 fun e158 w158 =>
  ∃ n158 : Int, e158 = .returned (.int .u8 n158) ∧ Br (n158 == x12)
  (InK .i64 (x7_3 + 1) ∧ Br (decide ((x7_3 + 1) ≥ ((a0.size : Int))))
  (R (.returned (.tuple #[.int .u64 x2_2, .int .i64 0, .bool b4, .bool b5_2, .bool b6, .int .i64 (x7_3 + 1), .bool false])) w158)
  (∃ J67 : Int → Int → Nat → World → Prop, (((0 : Int) ≤ (x7_3 + 1) ∧ (x7_3 + 1) < (a0.size : Int)) ∧ Br ((sb a0 (x7_3 + 1)) == 43)
  (InK .i64 ((x7_3 + 1) + 1) ∧ ∃ nc67, J67 ((x7_3 + 1) + 1) 1 nc67 w158)
  (Br ((sb a0 (x7_3 + 1)) == 45)
  (InK .i64 ((x7_3 + 1) + 1) ∧ ∃ nc67, J67 ((x7_3 + 1) + 1) (-1) nc67 w158)
  (∃ nc67, J67 (x7_3 + 1) 1 nc67 w158))) ∧ ∀ x7_4 : Int, ∀ x19 : Int, ∀ (nc67 : Nat) (wc67 : World), J67 x7_4 x19 nc67 wc67 →
  Br (decide (x7_4 ≥ ((a0.size : Int))))
  (R (.returned (.tuple #[.int .u64 x2_2, .int .i64 0, .bool b4, .bool b5_2, .bool b6, .int .i64 x7_4, .bool false])) wc67)
  (((0 : Int) ≤ x7_4 ∧ x7_4 < (a0.size : Int)) ∧ Br (decide ((sb a0 x7_4) < 48))
  (R (.returned (.tuple #[.int .u64 x2_2, .int .i64 0, .bool b4, .bool b5_2, .bool b6, .int .i64 x7_4, .bool false])) wc67)
  (((0 : Int) ≤ x7_4 ∧ x7_4 < (a0.size : Int)) ∧ Br (decide ((sb a0 x7_4) > 57))
  (R (.returned (.tuple #[.int .u64 x2_2, .int .i64 0, .bool b4, .bool b5_2, .bool b6, .int .i64 x7_4, .bool false])) wc67)
  (∃ J75 : Int → Bool → Int → Nat → World → Prop, (∃ I69 : Int → Bool → Int → Nat → World → Prop, (∃ nl69, I69 x7_4 b9_2 0 nl69 wc67) ∧ ∀ x7_5 : Int, ∀ b9_3 : Bool, ∀ x20 : Int, ∀ (nl69 : Nat) (wl69 : World), I69 x7_5 b9_3 x20 nl69 wl69 →
  Br (decide (x7_5 < ((a0.size : Int))))
  (((0 : Int) ≤ x7_5 ∧ x7_5 < (a0.size : Int)) ∧ Br (decide ((48 : Int) ≤ (sb a0 x7_5)))
  (((0 : Int) ≤ x7_5 ∧ x7_5 < (a0.size : Int)) ∧ Br (decide ((sb a0 x7_5) ≤ 57))
  (∃ J70 : Bool → Int → Nat → World → Prop, (((0 : Int) ≤ x7_5 ∧ x7_5 < (a0.size : Int)) ∧ Br ((sb a0 x7_5) == 95)
  (∃ nc70, J70 true x20 nc70 wl69)
  (Br (decide (x20 < 10000))
  (InK .i64 (x20 * 10) ∧ ((0 : Int) ≤ x7_5 ∧ x7_5 < (a0.size : Int)) ∧ InK .i64 (sb a0 x7_5) ∧ InK .i64 ((x20 * 10) + (sb a0 x7_5)) ∧ InK .i64 (((x20 * 10) + (sb a0 x7_5)) - 48) ∧ ∃ nc70, J70 b9_3 (((x20 * 10) + (sb a0 x7_5)) - 48) nc70 wl69)
  (∃ nc70, J70 b9_3 x20 nc70 wl69))) ∧ ∀ b9_4 : Bool, ∀ x20_1 : Int, ∀ (nc70 : Nat) (wc70 : World), J70 b9_4 x20_1 nc70 wc70 →
  InK .i64 (x7_5 + 1) ∧ ∃ ml69, ml69 < nl69 ∧ I69 (x7_5 + 1) b9_4 x20_1 ml69 wc70)
  (((0 : Int) ≤ x7_5 ∧ x7_5 < (a0.size : Int)) ∧ Br ((sb a0 x7_5) == 95)
  (∃ J70_1 : Bool → Int → Nat → World → Prop, (((0 : Int) ≤ x7_5 ∧ x7_5 < (a0.size : Int)) ∧ Br ((sb a0 x7_5) == 95)
  (∃ nc70_1, J70_1 true x20 nc70_1 wl69)
  (Br (decide (x20 < 10000))
  (InK .i64 (x20 * 10) ∧ ((0 : Int) ≤ x7_5 ∧ x7_5 < (a0.size : Int)) ∧ InK .i64 (sb a0 x7_5) ∧ InK .i64 ((x20 * 10) + (sb a0 x7_5)) ∧ InK .i64 (((x20 * 10) + (sb a0 x7_5)) - 48) ∧ ∃ nc70_1, J70_1 b9_3 (((x20 * 10) + (sb a0 x7_5)) - 48) nc70_1 wl69)
  (∃ nc70_1, J70_1 b9_3 x20 nc70_1 wl69))) ∧ ∀ b9_5 : Bool, ∀ x20_2 : Int, ∀ (nc70_1 : Nat) (wc70_1 : World), J70_1 b9_5 x20_2 nc70_1 wc70_1 →
  InK .i64 (x7_5 + 1) ∧ ∃ ml69, ml69 < nl69 ∧ I69 (x7_5 + 1) b9_5 x20_2 ml69 wc70_1)
  (∃ nc75, J75 x7_5 b9_3 x20 nc75 wl69)))
  (((0 : Int) ≤ x7_5 ∧ x7_5 < (a0.size : Int)) ∧ Br ((sb a0 x7_5) == 95)
  (∃ J70_2 : Bool → Int → Nat → World → Prop, (((0 : Int) ≤ x7_5 ∧ x7_5 < (a0.size : Int)) ∧ Br ((sb a0 x7_5) == 95)
  (∃ nc70_2, J70_2 true x20 nc70_2 wl69)
  (Br (decide (x20 < 10000))
  (InK .i64 (x20 * 10) ∧ ((0 : Int) ≤ x7_5 ∧ x7_5 < (a0.size : Int)) ∧ InK .i64 (sb a0 x7_5) ∧ InK .i64 ((x20 * 10) + (sb a0 x7_5)) ∧ InK .i64 (((x20 * 10) + (sb a0 x7_5)) - 48) ∧ ∃ nc70_2, J70_2 b9_3 (((x20 * 10) + (sb a0 x7_5)) - 48) nc70_2 wl69)
  (∃ nc70_2, J70_2 b9_3 x20 nc70_2 wl69))) ∧ ∀ b9_6 : Bool, ∀ x20_3 : Int, ∀ (nc70_2 : Nat) (wc70_2 : World), J70_2 b9_6 x20_3 nc70_2 wc70_2 →
  InK .i64 (x7_5 + 1) ∧ ∃ ml69, ml69 < nl69 ∧ I69 (x7_5 + 1) b9_6 x20_3 ml69 wc70_2)
  (∃ nc75, J75 x7_5 b9_3 x20 nc75 wl69)))
  (∃ nc75, J75 x7_5 b9_3 x20 nc75 wl69)) ∧ ∀ x7_6 : Int, ∀ b9_7 : Bool, ∀ x20_4 : Int, ∀ (nc75 : Nat) (wc75 : World), J75 x7_6 b9_7 x20_4 nc75 wc75 →
  InK .i64 (x20_4 * x19) ∧ InK .i64 (x17_4 + (x20_4 * x19)) ∧ ∃ nc77, J77 x7_6 b9_7 (x17_4 + (x20_4 * x19)) nc77 wc75)))))
  (Br (x10 == 16)
  (R (.returned (.tuple #[.int .u64 x2_2, .int .i64 0, .bool b4, .bool b5_2, .bool b6, .int .i64 x7_3, .bool false])) w158)
  (∃ nc77, J77 x7_3 b9_2 x17_4 nc77 w158)))
  (Br (x10 == 16)
  (R (.returned (.tuple #[.int .u64 x2_2, .int .i64 0, .bool b4, .bool b5_2, .bool b6, .int .i64 x7_3, .bool false])) wc57)
  (∃ nc77, J77 x7_3 b9_2 x17_4 nc77 wc57))) ∧ ∀ x7_7 : Int, ∀ b9_8 : Bool, ∀ x17_5 : Int, ∀ (nc77 : Nat) (wc77 : World), J77 x7_7 b9_8 x17_5 nc77 wc77 →
  ∃ J79 : Int → Nat → World → Prop, (Br (x2_2 != 0)
  (InK .i64 (x17_5 - x16_3) ∧ ∃ nc79, J79 (x17_5 - x16_3) nc79 wc77)
  (∃ nc79, J79 0 nc79 wc77)) ∧ ∀ x3 : Int, ∀ (nc79 : Nat) (wc79 : World), J79 x3 nc79 wc79 →
  Br b9_8
  (((0 : Int) ≤ x7_7 ∧ x7_7 ≤ (a0.size : Int)) ∧ Does Tryz.prog 153 #[.string (a0.extract 0 ((x7_7).toNat))] wc79 fun e250 w250 =>
  ∃ b250 : Bool, e250 = .returned (.bool b250) ∧ Br (!b250)
  (R (.returned (.tuple #[.int .u64 x2_2, .int .i64 x3, .bool b4, .bool b5_2, .bool b6, .int .i64 x7_7, .bool false])) w250)
  (R (.returned (.tuple #[.int .u64 x2_2, .int .i64 x3, .bool b4, .bool b5_2, .bool b6, .int .i64 x7_7, .bool true])) w250))
  (R (.returned (.tuple #[.int .u64 x2_2, .int .i64 x3, .bool b4, .bool b5_2, .bool b6, .int .i64 x7_7, .bool true])) wc79)))
def f125_ann : Ann := { loops := [(23, [(2, .int .u64), (5, .bool), (7, .int .i64), (9, .bool), (13, .bool), (14, .bool), (15, .int .i64), (16, .int .i64), (17, .int .i64)]), (69, [(7, .int .i64), (9, .bool), (20, .int .i64)])], cuts := [(9, [(4, .bool), (7, .int .i64)]), (18, [(6, .bool), (7, .int .i64), (10, .int .u64), (11, .int .i64), (12, .int .u8)]), (51, [(2, .int .u64), (5, .bool), (7, .int .i64), (9, .bool), (13, .bool), (14, .bool), (15, .int .i64), (16, .int .i64), (17, .int .i64)]), (24, [(2, .int .u64), (5, .bool), (9, .bool), (13, .bool), (14, .bool), (15, .int .i64), (16, .int .i64), (17, .int .i64)]), (54, [(17, .int .i64)]), (57, [(16, .int .i64), (17, .int .i64)]), (77, [(7, .int .i64), (9, .bool), (17, .int .i64)]), (67, [(7, .int .i64), (19, .int .i64)]), (75, [(7, .int .i64), (9, .bool), (20, .int .i64)]), (70, [(9, .bool), (20, .int .i64)]), (79, [(3, .int .i64)])], flip := [], throws := [] }
theorem f125_eq (a0 : ByteArray) (w : World) (R : Ending → World → Prop) : vc Tryz.prog f125_ann (bodyOf Tryz.f125) (retQ Tryz.prog Tryz.f125 R) (envOf Tryz.f125.ntmps [.v (.string a0)]) [] w = f125_vc a0 w R := by kernel_rfl
theorem f125_does (a0 : ByteArray) {w : World} {R : Ending → World → Prop} (h : f125_vc a0 w R) : Does Tryz.prog 125 #[.string a0] w R :=
  does_of_vc (ss := [.v (.string a0)]) f125_ann mixed call125 Tryz.func125 rfl rfl (show 1 ≤ Tryz.f125.ntmps by decide) ((f125_eq a0 w R).symm ▸ h)
/-- Of internal/strconv.bool2[uint64] (function 133): the condition. -/
def f133_vc (a0 : Bool) (w : World) (R : Ending → World → Prop) : Prop :=
  Br a0
  (R (.returned (.int .u64 1)) w)
  (R (.returned (.int .u64 0)) w)
def f133_ann : Ann := { loops := [], cuts := [], flip := [], throws := [] }
theorem f133_eq (a0 : Bool) (w : World) (R : Ending → World → Prop) : vc Tryz.prog f133_ann (bodyOf Tryz.f133) (retQ Tryz.prog Tryz.f133 R) (envOf Tryz.f133.ntmps [.v (.bool a0)]) [] w = f133_vc a0 w R := by kernel_rfl
theorem f133_does (a0 : Bool) {w : World} {R : Ending → World → Prop} (h : f133_vc a0 w R) : Does Tryz.prog 133 #[.bool a0] w R :=
  does_of_vc (ss := [.v (.bool a0)]) f133_ann mixed call133 Tryz.func133 rfl rfl (show 1 ≤ Tryz.f133.ntmps by decide) ((f133_eq a0 w R).symm ▸ h)
/-- Of internal/strconv.atof64exact (function 135): the condition. -/
def f135_vc (a0 : Int) (a1 : Int) (a2 : Bool) (w : World) (R : Ending → World → Prop) : Prop :=
  ∃ n10 : Int, w.cell? ⟨7, 0, none⟩ = some (.int .u64 n10) ∧ (0 : Int) ≤ n10 ∧ Br ((a0.fdiv (2 ^ (min (n10).toNat 64))) != 0)
  (R (.returned (.tuple #[.float .f64 0, .bool false])) w)
  (∃ f14 : Nat, ∃ w14, (convert 28 23 (.int .u64 a0)).run Tryz.prog w = .ok (.float .f64 f14) w14 ∧ Br a2
  (Br (a1 == 0)
  (R (.returned (.tuple #[.float .f64 (Op.negFloat .f64 f14), .bool true])) w14)
  (Br (decide (a1 > 0))
  (Br (decide (a1 ≤ 37))
  (Br (decide (a1 > 22))
  (∃ (p32 : Option Addr) (l32 c32 : Nat), w14.cell? ⟨10, 0, none⟩ = some (.slice p32 l32 c32) ∧ InK .i64 (a1 - 22) ∧ ((0 : Int) ≤ (a1 - 22) ∧ (a1 - 22) < (l32 : Int)) ∧ ∃ b35 o35, p32 = some ⟨b35, o35, none⟩ ∧ ∃ f36 : Nat, w14.cell? ⟨b35, o35 + (a1 - 22).toNat, none⟩ = some (.float .f64 f36) ∧ ∃ f37 : Nat, ∃ w37, (binOp .mul 23 (.float .f64 (Op.negFloat .f64 f14)) (.float .f64 f36)).run Tryz.prog w14 = .ok (.float .f64 f37) w37 ∧ Br ((FloatKind.f64.format.order f37 4831355200913801216 == some Ordering.gt))
  (R (.returned (.tuple #[.float .f64 f37, .bool false])) w37)
  (Br ((FloatKind.f64.format.order f37 14054727237768577024 == some Ordering.lt))
  (R (.returned (.tuple #[.float .f64 f37, .bool false])) w37)
  (∃ (p45 : Option Addr) (l45 c45 : Nat), w37.cell? ⟨10, 0, none⟩ = some (.slice p45 l45 c45) ∧ ((0 : Int) ≤ 22 ∧ 22 < (l45 : Int)) ∧ ∃ b47 o47, p45 = some ⟨b47, o47, none⟩ ∧ ∃ f48 : Nat, w37.cell? ⟨b47, o47 + (22 : Int).toNat, none⟩ = some (.float .f64 f48) ∧ ∃ f49 : Nat, ∃ w49, (binOp .mul 23 (.float .f64 f37) (.float .f64 f48)).run Tryz.prog w37 = .ok (.float .f64 f49) w49 ∧ R (.returned (.tuple #[.float .f64 f49, .bool true])) w49)))
  (Br ((FloatKind.f64.format.order (Op.negFloat .f64 f14) 4831355200913801216 == some Ordering.gt))
  (R (.returned (.tuple #[.float .f64 (Op.negFloat .f64 f14), .bool false])) w14)
  (Br ((FloatKind.f64.format.order (Op.negFloat .f64 f14) 14054727237768577024 == some Ordering.lt))
  (R (.returned (.tuple #[.float .f64 (Op.negFloat .f64 f14), .bool false])) w14)
  (∃ (p45_1 : Option Addr) (l45_1 c45_1 : Nat), w14.cell? ⟨10, 0, none⟩ = some (.slice p45_1 l45_1 c45_1) ∧ ((0 : Int) ≤ a1 ∧ a1 < (l45_1 : Int)) ∧ ∃ b47_1 o47_1, p45_1 = some ⟨b47_1, o47_1, none⟩ ∧ ∃ f48_1 : Nat, w14.cell? ⟨b47_1, o47_1 + (a1).toNat, none⟩ = some (.float .f64 f48_1) ∧ ∃ f49_1 : Nat, ∃ w49_1, (binOp .mul 23 (.float .f64 (Op.negFloat .f64 f14)) (.float .f64 f48_1)).run Tryz.prog w14 = .ok (.float .f64 f49_1) w49_1 ∧ R (.returned (.tuple #[.float .f64 f49_1, .bool true])) w49_1))))
  (Br (decide (a1 < 0))
  (Br (decide (a1 ≥ (-22)))
  (∃ (p58 : Option Addr) (l58 c58 : Nat), w14.cell? ⟨10, 0, none⟩ = some (.slice p58 l58 c58) ∧ InK .i64 (0 - a1) ∧ ((0 : Int) ≤ (0 - a1) ∧ (0 - a1) < (l58 : Int)) ∧ ∃ b61 o61, p58 = some ⟨b61, o61, none⟩ ∧ ∃ f62 : Nat, w14.cell? ⟨b61, o61 + (0 - a1).toNat, none⟩ = some (.float .f64 f62) ∧ ∃ f63 : Nat, ∃ w63, (binOp .quo 23 (.float .f64 (Op.negFloat .f64 f14)) (.float .f64 f62)).run Tryz.prog w14 = .ok (.float .f64 f63) w63 ∧ R (.returned (.tuple #[.float .f64 f63, .bool true])) w63)
  (R (.returned (.tuple #[.float .f64 (Op.negFloat .f64 f14), .bool false])) w14))
  (R (.returned (.tuple #[.float .f64 (Op.negFloat .f64 f14), .bool false])) w14)))
  (Br (decide (a1 < 0))
  (Br (decide (a1 ≥ (-22)))
  (∃ (p58_1 : Option Addr) (l58_1 c58_1 : Nat), w14.cell? ⟨10, 0, none⟩ = some (.slice p58_1 l58_1 c58_1) ∧ InK .i64 (0 - a1) ∧ ((0 : Int) ≤ (0 - a1) ∧ (0 - a1) < (l58_1 : Int)) ∧ ∃ b61_1 o61_1, p58_1 = some ⟨b61_1, o61_1, none⟩ ∧ ∃ f62_1 : Nat, w14.cell? ⟨b61_1, o61_1 + (0 - a1).toNat, none⟩ = some (.float .f64 f62_1) ∧ ∃ f63_1 : Nat, ∃ w63_1, (binOp .quo 23 (.float .f64 (Op.negFloat .f64 f14)) (.float .f64 f62_1)).run Tryz.prog w14 = .ok (.float .f64 f63_1) w63_1 ∧ R (.returned (.tuple #[.float .f64 f63_1, .bool true])) w63_1)
  (R (.returned (.tuple #[.float .f64 (Op.negFloat .f64 f14), .bool false])) w14))
  (R (.returned (.tuple #[.float .f64 (Op.negFloat .f64 f14), .bool false])) w14))))
  (Br (a1 == 0)
  (R (.returned (.tuple #[.float .f64 f14, .bool true])) w14)
  (Br (decide (a1 > 0))
  (Br (decide (a1 ≤ 37))
  (Br (decide (a1 > 22))
  (∃ (p32_1 : Option Addr) (l32_1 c32_1 : Nat), w14.cell? ⟨10, 0, none⟩ = some (.slice p32_1 l32_1 c32_1) ∧ InK .i64 (a1 - 22) ∧ ((0 : Int) ≤ (a1 - 22) ∧ (a1 - 22) < (l32_1 : Int)) ∧ ∃ b35_1 o35_1, p32_1 = some ⟨b35_1, o35_1, none⟩ ∧ ∃ f36_1 : Nat, w14.cell? ⟨b35_1, o35_1 + (a1 - 22).toNat, none⟩ = some (.float .f64 f36_1) ∧ ∃ f37_1 : Nat, ∃ w37_1, (binOp .mul 23 (.float .f64 f14) (.float .f64 f36_1)).run Tryz.prog w14 = .ok (.float .f64 f37_1) w37_1 ∧ Br ((FloatKind.f64.format.order f37_1 4831355200913801216 == some Ordering.gt))
  (R (.returned (.tuple #[.float .f64 f37_1, .bool false])) w37_1)
  (Br ((FloatKind.f64.format.order f37_1 14054727237768577024 == some Ordering.lt))
  (R (.returned (.tuple #[.float .f64 f37_1, .bool false])) w37_1)
  (∃ (p45_2 : Option Addr) (l45_2 c45_2 : Nat), w37_1.cell? ⟨10, 0, none⟩ = some (.slice p45_2 l45_2 c45_2) ∧ ((0 : Int) ≤ 22 ∧ 22 < (l45_2 : Int)) ∧ ∃ b47_2 o47_2, p45_2 = some ⟨b47_2, o47_2, none⟩ ∧ ∃ f48_2 : Nat, w37_1.cell? ⟨b47_2, o47_2 + (22 : Int).toNat, none⟩ = some (.float .f64 f48_2) ∧ ∃ f49_2 : Nat, ∃ w49_2, (binOp .mul 23 (.float .f64 f37_1) (.float .f64 f48_2)).run Tryz.prog w37_1 = .ok (.float .f64 f49_2) w49_2 ∧ R (.returned (.tuple #[.float .f64 f49_2, .bool true])) w49_2)))
  (Br ((FloatKind.f64.format.order f14 4831355200913801216 == some Ordering.gt))
  (R (.returned (.tuple #[.float .f64 f14, .bool false])) w14)
  (Br ((FloatKind.f64.format.order f14 14054727237768577024 == some Ordering.lt))
  (R (.returned (.tuple #[.float .f64 f14, .bool false])) w14)
  (∃ (p45_3 : Option Addr) (l45_3 c45_3 : Nat), w14.cell? ⟨10, 0, none⟩ = some (.slice p45_3 l45_3 c45_3) ∧ ((0 : Int) ≤ a1 ∧ a1 < (l45_3 : Int)) ∧ ∃ b47_3 o47_3, p45_3 = some ⟨b47_3, o47_3, none⟩ ∧ ∃ f48_3 : Nat, w14.cell? ⟨b47_3, o47_3 + (a1).toNat, none⟩ = some (.float .f64 f48_3) ∧ ∃ f49_3 : Nat, ∃ w49_3, (binOp .mul 23 (.float .f64 f14) (.float .f64 f48_3)).run Tryz.prog w14 = .ok (.float .f64 f49_3) w49_3 ∧ R (.returned (.tuple #[.float .f64 f49_3, .bool true])) w49_3))))
  (Br (decide (a1 < 0))
  (Br (decide (a1 ≥ (-22)))
  (∃ (p58_2 : Option Addr) (l58_2 c58_2 : Nat), w14.cell? ⟨10, 0, none⟩ = some (.slice p58_2 l58_2 c58_2) ∧ InK .i64 (0 - a1) ∧ ((0 : Int) ≤ (0 - a1) ∧ (0 - a1) < (l58_2 : Int)) ∧ ∃ b61_2 o61_2, p58_2 = some ⟨b61_2, o61_2, none⟩ ∧ ∃ f62_2 : Nat, w14.cell? ⟨b61_2, o61_2 + (0 - a1).toNat, none⟩ = some (.float .f64 f62_2) ∧ ∃ f63_2 : Nat, ∃ w63_2, (binOp .quo 23 (.float .f64 f14) (.float .f64 f62_2)).run Tryz.prog w14 = .ok (.float .f64 f63_2) w63_2 ∧ R (.returned (.tuple #[.float .f64 f63_2, .bool true])) w63_2)
  (R (.returned (.tuple #[.float .f64 f14, .bool false])) w14))
  (R (.returned (.tuple #[.float .f64 f14, .bool false])) w14)))
  (Br (decide (a1 < 0))
  (Br (decide (a1 ≥ (-22)))
  (∃ (p58_3 : Option Addr) (l58_3 c58_3 : Nat), w14.cell? ⟨10, 0, none⟩ = some (.slice p58_3 l58_3 c58_3) ∧ InK .i64 (0 - a1) ∧ ((0 : Int) ≤ (0 - a1) ∧ (0 - a1) < (l58_3 : Int)) ∧ ∃ b61_3 o61_3, p58_3 = some ⟨b61_3, o61_3, none⟩ ∧ ∃ f62_3 : Nat, w14.cell? ⟨b61_3, o61_3 + (0 - a1).toNat, none⟩ = some (.float .f64 f62_3) ∧ ∃ f63_3 : Nat, ∃ w63_3, (binOp .quo 23 (.float .f64 f14) (.float .f64 f62_3)).run Tryz.prog w14 = .ok (.float .f64 f63_3) w63_3 ∧ R (.returned (.tuple #[.float .f64 f63_3, .bool true])) w63_3)
  (R (.returned (.tuple #[.float .f64 f14, .bool false])) w14))
  (R (.returned (.tuple #[.float .f64 f14, .bool false])) w14)))))
def f135_ann : Ann := { loops := [], cuts := [], flip := [], throws := [] }
theorem f135_eq (a0 : Int) (a1 : Int) (a2 : Bool) (w : World) (R : Ending → World → Prop) : vc Tryz.prog f135_ann (bodyOf Tryz.f135) (retQ Tryz.prog Tryz.f135 R) (envOf Tryz.f135.ntmps [.v (.int .u64 a0), .v (.int .i64 a1), .v (.bool a2)]) [] w = f135_vc a0 a1 a2 w R := by kernel_rfl
theorem f135_does (a0 : Int) (a1 : Int) (a2 : Bool) {w : World} {R : Ending → World → Prop} (h : f135_vc a0 a1 a2 w R) : Does Tryz.prog 135 #[.int .u64 a0, .int .i64 a1, .bool a2] w R :=
  does_of_vc (ss := [.v (.int .u64 a0), .v (.int .i64 a1), .v (.bool a2)]) f135_ann mixed call135 Tryz.func135 rfl rfl (show 3 ≤ Tryz.f135.ntmps by decide) ((f135_eq a0 a1 a2 w R).symm ▸ h)
/-- Of (*escritoire/escritoireref3.reader).within (function 144): the condition. -/
def f144_vc (a0 : Option Addr) (a1 : Int) (w : World) (R : Ending → World → Prop) : Prop :=
  ∃ b11 o11, a0 = some ⟨b11, o11, none⟩ ∧ ∃ n13 : Int, w.cell? ⟨b11, o11 + 2, none⟩ = some (.int .i64 n13) ∧ Br (decide (n13 > 32))
  (Does Tryz.prog 111 #[.pointer a0, .int .i64 3] w fun e16 w16 =>
  ∃ f16 : Nat, e16 = .returned (.float .f64 f16) ∧ R (.returned (.float .f64 f16)) w16)
  (Br (a1 == 45)
  (Does Tryz.prog 86 #[.pointer a0] w fun e21 w21 =>
  ∃ f21 : Nat, e21 = .returned (.float .f64 f21) ∧ R (.returned (.float .f64 (Op.negFloat .f64 f21))) w21)
  (Br (a1 == 109)
  (Does Tryz.prog 166 #[.pointer a0] w fun e27 w27 =>
  ∃ f27 : Nat, ∃ f27_1 : Nat, e27 = .returned (.tuple #[.float .f64 f27, .float .f64 f27_1]) ∧ Does Tryz.prog 167 #[.float .f64 f27, .float .f64 f27_1] w27 fun e32 w32 =>
  ∃ n32 : Int, e32 = .returned (.int .i64 n32) ∧ Br (decide (n32 < 0))
  (R (.returned (.float .f64 f27)) w32)
  (R (.returned (.float .f64 f27_1)) w32))
  (Br (a1 == 77)
  (Does Tryz.prog 166 #[.pointer a0] w fun e40 w40 =>
  ∃ f40 : Nat, ∃ f40_1 : Nat, e40 = .returned (.tuple #[.float .f64 f40, .float .f64 f40_1]) ∧ Does Tryz.prog 167 #[.float .f64 f40, .float .f64 f40_1] w40 fun e45 w45 =>
  ∃ n45 : Int, e45 = .returned (.int .i64 n45) ∧ Br (decide (n45 > 0))
  (R (.returned (.float .f64 f40)) w45)
  (R (.returned (.float .f64 f40_1)) w45))
  (Does Tryz.prog 35 #[.pointer a0] w fun e50 w50 =>
  ∃ f50 : Nat, e50 = .returned (.float .f64 f50) ∧ Does Tryz.prog 59 #[.pointer a0, .string (({ data := #[41] } : ByteArray))] w50 fun e52 w52 =>
  ∃ b52 : Bool, e52 = .returned (.bool b52) ∧ Br (!b52)
  (Does Tryz.prog 111 #[.pointer a0, .int .i64 11] w52 fun e55 w55 =>
  ∃ f55 : Nat, e55 = .returned (.float .f64 f55) ∧ R (.returned (.float .f64 f55)) w55)
  (Br (a1 == 97)
  (Does Tryz.prog 48 #[.float .f64 f50] w52 fun e59 w59 =>
  ∃ f59 : Nat, e59 = .returned (.float .f64 f59) ∧ R (.returned (.float .f64 f59)) w59)
  (R (.returned (.float .f64 f50)) w52))))))
def f144_ann : Ann := { loops := [], cuts := [], flip := [], throws := [] }
theorem f144_eq (a0 : Option Addr) (a1 : Int) (w : World) (R : Ending → World → Prop) : vc Tryz.prog f144_ann (bodyOf Tryz.f144) (retQ Tryz.prog Tryz.f144 R) (envOf Tryz.f144.ntmps [.v (.pointer a0), .v (.int .u8 a1)]) [] w = f144_vc a0 a1 w R := by kernel_rfl
theorem f144_does (a0 : Option Addr) (a1 : Int) {w : World} {R : Ending → World → Prop} (h : f144_vc a0 a1 w R) : Does Tryz.prog 144 #[.pointer a0, .int .u8 a1] w R :=
  does_of_vc (ss := [.v (.pointer a0), .v (.int .u8 a1)]) f144_ann mixed call144 Tryz.func144 rfl rfl (show 2 ≤ Tryz.f144.ntmps by decide) ((f144_eq a0 a1 w R).symm ▸ h)
/-- Of escritoire/calc.must (function 145): the condition. -/
def f145_vc (a0 : Bool) (w : World) (R : Ending → World → Prop) : Prop :=
  Br (!a0)
  (R (.panicked [{ v := .iface 60 (.agg #[]), recovered := false }]) w)
  (R (.returned (.tuple #[])) w)
def f145_ann : Ann := { loops := [], cuts := [], flip := [], throws := [] }
theorem f145_eq (a0 : Bool) (w : World) (R : Ending → World → Prop) : vc Tryz.prog f145_ann (bodyOf Tryz.f145) (retQ Tryz.prog Tryz.f145 R) (envOf Tryz.f145.ntmps [.v (.bool a0)]) [] w = f145_vc a0 w R := by kernel_rfl
theorem f145_does (a0 : Bool) {w : World} {R : Ending → World → Prop} (h : f145_vc a0 w R) : Does Tryz.prog 145 #[.bool a0] w R :=
  does_of_vc (ss := [.v (.bool a0)]) f145_ann mixed call145 Tryz.func145 rfl rfl (show 1 ≤ Tryz.f145.ntmps by decide) ((f145_eq a0 w R).symm ▸ h)
/-- Of (*escritoire/calc.reader).two (function 146): the condition. -/
def f146_vc (a0 : Option Addr) (w : World) (R : Ending → World → Prop) : Prop :=
  Does Tryz.prog 37 #[.pointer a0] w fun e6 w6 =>
  (∃ f6 : Nat, e6 = .returned (.float .f64 f6) ∧ Does Tryz.prog 61 #[.pointer a0, .string (({ data := #[44] } : ByteArray))] w6 fun e8 w8 =>
  ∃ b8 : Bool, e8 = .returned (.bool b8) ∧ Does Tryz.prog 145 #[.bool b8] w8 fun e9 w9 =>
  (e9 = .returned (.tuple #[]) ∧ Does Tryz.prog 114 #[.pointer a0] w9 fun e12 w12 =>
  (∃ f12 : Nat, e12 = .returned (.float .f64 f12) ∧ R (.returned (.tuple #[.float .f64 f6, .float .f64 f12])) w12) ∨ (∃ ch12, e12 = .panicked ch12 ∧ R (.panicked ch12) w12)) ∨ (∃ ch9, e9 = .panicked ch9 ∧ R (.panicked ch9) w9)) ∨ (∃ ch6, e6 = .panicked ch6 ∧ R (.panicked ch6) w6)
def f146_ann : Ann := { loops := [], cuts := [], flip := [], throws := [37, 114, 145] }
theorem f146_eq (a0 : Option Addr) (w : World) (R : Ending → World → Prop) : vc Tryz.prog f146_ann (bodyOf Tryz.f146) (retQ Tryz.prog Tryz.f146 R) (envOf Tryz.f146.ntmps [.v (.pointer a0)]) [] w = f146_vc a0 w R := by kernel_rfl
theorem f146_does (a0 : Option Addr) {w : World} {R : Ending → World → Prop} (h : f146_vc a0 w R) : Does Tryz.prog 146 #[.pointer a0] w R :=
  does_of_vc (ss := [.v (.pointer a0)]) f146_ann mixed call146 Tryz.func146 rfl rfl (show 1 ≤ Tryz.f146.ntmps by decide) ((f146_eq a0 w R).symm ▸ h)
/-- Of internal/strconv.commonPrefixLenIgnoreCase (function 149): the condition. -/
def f149_vc (a0 : ByteArray) (a1 : ByteArray) (w : World) (R : Ending → World → Prop) : Prop :=
  ∃ I3 : Int → Nat → World → Prop, (∃ nl3, I3 0 nl3 w) ∧ ∀ x6 : Int, ∀ (nl3 : Nat) (wl3 : World), I3 x6 nl3 wl3 →
  Br (decide (x6 < (if (a0.size : Int) < (a1.size : Int) then (a0.size : Int) else (a1.size : Int))))
  (((0 : Int) ≤ x6 ∧ x6 < (a0.size : Int)) ∧ Br (decide ((65 : Int) ≤ (sb a0 x6)))
  (Br (decide ((sb a0 x6) ≤ 90))
  (((0 : Int) ≤ x6 ∧ x6 < (a1.size : Int)) ∧ Br ((IntKind.wrap .u8 ((sb a0 x6) + 32)) != (sb a1 x6))
  (R (.returned (.int .i64 x6)) wl3)
  (InK .i64 (x6 + 1) ∧ ∃ ml3, ml3 < nl3 ∧ I3 (x6 + 1) ml3 wl3))
  (((0 : Int) ≤ x6 ∧ x6 < (a1.size : Int)) ∧ Br ((sb a0 x6) != (sb a1 x6))
  (R (.returned (.int .i64 x6)) wl3)
  (InK .i64 (x6 + 1) ∧ ∃ ml3, ml3 < nl3 ∧ I3 (x6 + 1) ml3 wl3)))
  (((0 : Int) ≤ x6 ∧ x6 < (a1.size : Int)) ∧ Br ((sb a0 x6) != (sb a1 x6))
  (R (.returned (.int .i64 x6)) wl3)
  (InK .i64 (x6 + 1) ∧ ∃ ml3, ml3 < nl3 ∧ I3 (x6 + 1) ml3 wl3)))
  (R (.returned (.int .i64 (if (a0.size : Int) < (a1.size : Int) then (a0.size : Int) else (a1.size : Int)))) wl3)
def f149_ann : Ann := { loops := [(3, [(6, .int .i64)])], cuts := [], flip := [], throws := [] }
theorem f149_eq (a0 : ByteArray) (a1 : ByteArray) (w : World) (R : Ending → World → Prop) : vc Tryz.prog f149_ann (bodyOf Tryz.f149) (retQ Tryz.prog Tryz.f149 R) (envOf Tryz.f149.ntmps [.v (.string a0), .v (.string a1)]) [] w = f149_vc a0 a1 w R := by kernel_rfl
theorem f149_does (a0 : ByteArray) (a1 : ByteArray) {w : World} {R : Ending → World → Prop} (h : f149_vc a0 a1 w R) : Does Tryz.prog 149 #[.string a0, .string a1] w R :=
  does_of_vc (ss := [.v (.string a0), .v (.string a1)]) f149_ann mixed call149 Tryz.func149 rfl rfl (show 2 ≤ Tryz.f149.ntmps by decide) ((f149_eq a0 a1 w R).symm ▸ h)
/-- Of internal/strconv.inf (function 150): the condition. -/
def f150_vc (a0 : Int) (w : World) (R : Ending → World → Prop) : Prop :=
  Br (decide (a0 ≥ 0))
  (Does Tryz.prog 134 #[.int .u64 9218868437227405312] w fun e7 w7 =>
  ∃ f7 : Nat, e7 = .returned (.float .f64 f7) ∧ R (.returned (.float .f64 f7)) w7)
  (Does Tryz.prog 134 #[.int .u64 18442240474082181120] w fun e7_1 w7_1 =>
  ∃ f7_1 : Nat, e7_1 = .returned (.float .f64 f7_1) ∧ R (.returned (.float .f64 f7_1)) w7_1)
def f150_ann : Ann := { loops := [], cuts := [], flip := [], throws := [] }
theorem f150_eq (a0 : Int) (w : World) (R : Ending → World → Prop) : vc Tryz.prog f150_ann (bodyOf Tryz.f150) (retQ Tryz.prog Tryz.f150 R) (envOf Tryz.f150.ntmps [.v (.int .i64 a0)]) [] w = f150_vc a0 w R := by kernel_rfl
theorem f150_does (a0 : Int) {w : World} {R : Ending → World → Prop} (h : f150_vc a0 w R) : Does Tryz.prog 150 #[.int .i64 a0] w R :=
  does_of_vc (ss := [.v (.int .i64 a0)]) f150_ann mixed call150 Tryz.func150 rfl rfl (show 1 ≤ Tryz.f150.ntmps by decide) ((f150_eq a0 w R).symm ▸ h)
/-- Of internal/strconv.nan (function 151): the condition. -/
def f151_vc  (w : World) (R : Ending → World → Prop) : Prop :=
  Does Tryz.prog 134 #[.int .u64 9221120237041090561] w fun e1 w1 =>
  ∃ f1 : Nat, e1 = .returned (.float .f64 f1) ∧ R (.returned (.float .f64 f1)) w1
def f151_ann : Ann := { loops := [], cuts := [], flip := [], throws := [] }
theorem f151_eq  (w : World) (R : Ending → World → Prop) : vc Tryz.prog f151_ann (bodyOf Tryz.f151) (retQ Tryz.prog Tryz.f151 R) (envOf Tryz.f151.ntmps []) [] w = f151_vc  w R := by kernel_rfl
theorem f151_does  {w : World} {R : Ending → World → Prop} (h : f151_vc  w R) : Does Tryz.prog 151 #[] w R :=
  does_of_vc (ss := []) f151_ann mixed call151 Tryz.func151 rfl rfl (show 0 ≤ Tryz.f151.ntmps by decide) ((f151_eq  w R).symm ▸ h)
/-- Of internal/strconv.lower (function 152): the condition. -/
def f152_vc (a0 : Int) (w : World) (R : Ending → World → Prop) : Prop :=
  R (.returned (.int .u8 (bits .or .u8 a0 32))) w
def f152_ann : Ann := { loops := [], cuts := [], flip := [], throws := [] }
theorem f152_eq (a0 : Int) (w : World) (R : Ending → World → Prop) : vc Tryz.prog f152_ann (bodyOf Tryz.f152) (retQ Tryz.prog Tryz.f152 R) (envOf Tryz.f152.ntmps [.v (.int .u8 a0)]) [] w = f152_vc a0 w R := by kernel_rfl
theorem f152_does (a0 : Int) {w : World} {R : Ending → World → Prop} (h : f152_vc a0 w R) : Does Tryz.prog 152 #[.int .u8 a0] w R :=
  does_of_vc (ss := [.v (.int .u8 a0)]) f152_ann mixed call152 Tryz.func152 rfl rfl (show 1 ≤ Tryz.f152.ntmps by decide) ((f152_eq a0 w R).symm ▸ h)
/-- Of (*escritoire/escritoireref3.reader).pair (function 166): the condition. -/
def f166_vc (a0 : Option Addr) (w : World) (R : Ending → World → Prop) : Prop :=
  Does Tryz.prog 35 #[.pointer a0] w fun e7 w7 =>
  ∃ f7 : Nat, e7 = .returned (.float .f64 f7) ∧ Does Tryz.prog 59 #[.pointer a0, .string (({ data := #[44] } : ByteArray))] w7 fun e9 w9 =>
  ∃ b9 : Bool, e9 = .returned (.bool b9) ∧ Br (!b9)
  (Does Tryz.prog 111 #[.pointer a0, .int .i64 11] w9 fun e12 w12 =>
  ∃ f12 : Nat, e12 = .returned (.float .f64 f12) ∧ ∃ b14 o14, a0 = some ⟨b14, o14, none⟩ ∧ ∃ n16 : Int, w12.cell? ⟨b14, o14 + 3, none⟩ = some (.int .i64 n16) ∧ Br (n16 == 0)
  (Does Tryz.prog 35 #[.pointer a0] w12 fun e19 w19 =>
  ∃ f19 : Nat, e19 = .returned (.float .f64 f19) ∧ Does Tryz.prog 59 #[.pointer a0, .string (({ data := #[41] } : ByteArray))] w19 fun e21 w21 =>
  ∃ b21 : Bool, e21 = .returned (.bool b21) ∧ Br (!b21)
  (Does Tryz.prog 111 #[.pointer a0, .int .i64 11] w21 fun e24 w24 =>
  ∃ f24 : Nat, e24 = .returned (.float .f64 f24) ∧ R (.returned (.tuple #[.float .f64 f7, .float .f64 f19])) w24)
  (R (.returned (.tuple #[.float .f64 f7, .float .f64 f19])) w21))
  (Does Tryz.prog 59 #[.pointer a0, .string (({ data := #[41] } : ByteArray))] w12 fun e21_1 w21_1 =>
  ∃ b21_1 : Bool, e21_1 = .returned (.bool b21_1) ∧ Br (!b21_1)
  (Does Tryz.prog 111 #[.pointer a0, .int .i64 11] w21_1 fun e24_1 w24_1 =>
  ∃ f24_1 : Nat, e24_1 = .returned (.float .f64 f24_1) ∧ R (.returned (.tuple #[.float .f64 f7, .float .f64 0])) w24_1)
  (R (.returned (.tuple #[.float .f64 f7, .float .f64 0])) w21_1)))
  (∃ b14_1 o14_1, a0 = some ⟨b14_1, o14_1, none⟩ ∧ ∃ n16_1 : Int, w9.cell? ⟨b14_1, o14_1 + 3, none⟩ = some (.int .i64 n16_1) ∧ Br (n16_1 == 0)
  (Does Tryz.prog 35 #[.pointer a0] w9 fun e19_1 w19_1 =>
  ∃ f19_1 : Nat, e19_1 = .returned (.float .f64 f19_1) ∧ Does Tryz.prog 59 #[.pointer a0, .string (({ data := #[41] } : ByteArray))] w19_1 fun e21_2 w21_2 =>
  ∃ b21_2 : Bool, e21_2 = .returned (.bool b21_2) ∧ Br (!b21_2)
  (Does Tryz.prog 111 #[.pointer a0, .int .i64 11] w21_2 fun e24_2 w24_2 =>
  ∃ f24_2 : Nat, e24_2 = .returned (.float .f64 f24_2) ∧ R (.returned (.tuple #[.float .f64 f7, .float .f64 f19_1])) w24_2)
  (R (.returned (.tuple #[.float .f64 f7, .float .f64 f19_1])) w21_2))
  (Does Tryz.prog 59 #[.pointer a0, .string (({ data := #[41] } : ByteArray))] w9 fun e21_3 w21_3 =>
  ∃ b21_3 : Bool, e21_3 = .returned (.bool b21_3) ∧ Br (!b21_3)
  (Does Tryz.prog 111 #[.pointer a0, .int .i64 11] w21_3 fun e24_3 w24_3 =>
  ∃ f24_3 : Nat, e24_3 = .returned (.float .f64 f24_3) ∧ R (.returned (.tuple #[.float .f64 f7, .float .f64 0])) w24_3)
  (R (.returned (.tuple #[.float .f64 f7, .float .f64 0])) w21_3)))
def f166_ann : Ann := { loops := [], cuts := [], flip := [], throws := [] }
theorem f166_eq (a0 : Option Addr) (w : World) (R : Ending → World → Prop) : vc Tryz.prog f166_ann (bodyOf Tryz.f166) (retQ Tryz.prog Tryz.f166 R) (envOf Tryz.f166.ntmps [.v (.pointer a0)]) [] w = f166_vc a0 w R := by kernel_rfl
theorem f166_does (a0 : Option Addr) {w : World} {R : Ending → World → Prop} (h : f166_vc a0 w R) : Does Tryz.prog 166 #[.pointer a0] w R :=
  does_of_vc (ss := [.v (.pointer a0)]) f166_ann mixed call166 Tryz.func166 rfl rfl (show 1 ≤ Tryz.f166.ntmps by decide) ((f166_eq a0 w R).symm ▸ h)
/-- Of escritoire/escritoireref3.Compare (function 167): the condition. -/
def f167_vc (a0 : Nat) (a1 : Nat) (w : World) (R : Ending → World → Prop) : Prop :=
  Does Tryz.prog 171 #[.float .f64 a0] w fun e8 w8 =>
  ∃ n8 : Int, e8 = .returned (.int .u64 n8) ∧ Does Tryz.prog 171 #[.float .f64 a1] w8 fun e10 w10 =>
  ∃ n10 : Int, e10 = .returned (.int .u64 n10) ∧ Br (decide (n8 < n10))
  (R (.returned (.int .i64 (-1))) w10)
  (Br (decide (n8 > n10))
  (R (.returned (.int .i64 1)) w10)
  (R (.returned (.int .i64 0)) w10))
def f167_ann : Ann := { loops := [], cuts := [], flip := [], throws := [] }
theorem f167_eq (a0 : Nat) (a1 : Nat) (w : World) (R : Ending → World → Prop) : vc Tryz.prog f167_ann (bodyOf Tryz.f167) (retQ Tryz.prog Tryz.f167 R) (envOf Tryz.f167.ntmps [.v (.float .f64 a0), .v (.float .f64 a1)]) [] w = f167_vc a0 a1 w R := by kernel_rfl
theorem f167_does (a0 : Nat) (a1 : Nat) {w : World} {R : Ending → World → Prop} (h : f167_vc a0 a1 w R) : Does Tryz.prog 167 #[.float .f64 a0, .float .f64 a1] w R :=
  does_of_vc (ss := [.v (.float .f64 a0), .v (.float .f64 a1)]) f167_ann mixed call167 Tryz.func167 rfl rfl (show 2 ≤ Tryz.f167.ntmps by decide) ((f167_eq a0 a1 w R).symm ▸ h)
/-- Of escritoire/escritoireref3.key (function 171): the condition. -/
def f171_vc (a0 : Nat) (w : World) (R : Ending → World → Prop) : Prop :=
  Does Tryz.prog 16 #[.float .f64 a0] w fun e5 w5 =>
  ∃ n5 : Int, e5 = .returned (.int .u64 n5) ∧ Br ((FloatKind.f64.format.order a0 a0 != some Ordering.eq))
  (R (.returned (.int .u64 18446744073709551615)) w5)
  ((0 : Int) ≤ 63 ∧ Br ((n5.fdiv (2 ^ 63)) == 1)
  (R (.returned (.int .u64 (bits .xor .u64 (IntKind.max .u64) n5))) w5)
  (R (.returned (.int .u64 (bits .or .u64 n5 9223372036854775808))) w5))
def f171_ann : Ann := { loops := [], cuts := [], flip := [], throws := [] }
theorem f171_eq (a0 : Nat) (w : World) (R : Ending → World → Prop) : vc Tryz.prog f171_ann (bodyOf Tryz.f171) (retQ Tryz.prog Tryz.f171 R) (envOf Tryz.f171.ntmps [.v (.float .f64 a0)]) [] w = f171_vc a0 w R := by kernel_rfl
theorem f171_does (a0 : Nat) {w : World} {R : Ending → World → Prop} (h : f171_vc a0 w R) : Does Tryz.prog 171 #[.float .f64 a0] w R :=
  does_of_vc (ss := [.v (.float .f64 a0)]) f171_ann mixed call171 Tryz.func171 rfl rfl (show 1 ≤ Tryz.f171.ntmps by decide) ((f171_eq a0 w R).symm ▸ h)
end Go.Proofs.YtacinpadiiabjaaGreatDoor
