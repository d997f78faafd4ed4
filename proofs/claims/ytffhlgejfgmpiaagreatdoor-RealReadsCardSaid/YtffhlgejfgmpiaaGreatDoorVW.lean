/-
  Of each function of the code: its verification condition, and that it suffices.
-/
import Derived.Test.YtffhlgejfgmpiaaGreatDoorVcDoes
import Derived.Test.YtffhlgejfgmpiaaGreatDoorProg
import Derived.Test.YtffhlgejfgmpiaaGreatDoorV
set_option maxRecDepth 100000
namespace Go.Proofs.YtffhlgejfgmpiaaGreatDoor
open Go.RowKit Go.Vc
theorem call27 : callableB Tryz.prog 27 = true := by kernel_rfl
theorem call49 : callableB Tryz.prog 49 = true := by kernel_rfl
theorem call50 : callableB Tryz.prog 50 = true := by kernel_rfl
theorem call52 : callableB Tryz.prog 52 = true := by kernel_rfl
theorem call53 : callableB Tryz.prog 53 = true := by kernel_rfl
theorem call75 : callableB Tryz.prog 75 = true := by kernel_rfl
theorem call76 : callableB Tryz.prog 76 = true := by kernel_rfl
theorem call77 : callableB Tryz.prog 77 = true := by kernel_rfl
theorem call78 : callableB Tryz.prog 78 = true := by kernel_rfl
theorem call95 : callableB Tryz.prog 95 = true := by kernel_rfl
theorem call97 : callableB Tryz.prog 97 = true := by kernel_rfl
theorem call98 : callableB Tryz.prog 98 = true := by kernel_rfl
theorem call107 : callableB Tryz.prog 107 = true := by kernel_rfl
theorem call109 : callableB Tryz.prog 109 = true := by kernel_rfl
theorem call110 : callableB Tryz.prog 110 = true := by kernel_rfl
theorem call111 : callableB Tryz.prog 111 = true := by kernel_rfl
theorem call112 : callableB Tryz.prog 112 = true := by kernel_rfl
theorem call113 : callableB Tryz.prog 113 = true := by kernel_rfl
theorem call120 : callableB Tryz.prog 120 = true := by kernel_rfl
theorem call122 : callableB Tryz.prog 122 = true := by kernel_rfl
theorem call129 : callableB Tryz.prog 129 = true := by kernel_rfl
theorem call130 : callableB Tryz.prog 130 = true := by kernel_rfl
theorem call131 : callableB Tryz.prog 131 = true := by kernel_rfl
theorem call132 : callableB Tryz.prog 132 = true := by kernel_rfl
theorem call133 : callableB Tryz.prog 133 = true := by kernel_rfl
/-- Of escritoire/real.decimal (function 27): the condition. -/
def f27_vc (a0 : ByteArray) (w : World) (R : Ending → World → Prop) : Prop :=
  Does Tryz.prog 49 #[.string a0, .string (({ data := #[46] } : ByteArray))] w fun e8 w8 =>
  ∃ s8 : ByteArray, ∃ s8_1 : ByteArray, ∃ b8 : Bool, e8 = .returned (.tuple #[.string s8, .string s8_1, .bool b8]) ∧ Does Tryz.prog 50 #[.string s8] w8 fun e13 w13 =>
  ∃ b13 : Bool, e13 = .returned (.bool b13) ∧ Br (!b13)
  (R (.returned (.bool false)) w13)
  (Br (decide (((s8.size : Int)) > 1))
  (((0 : Int) ≤ 0 ∧ 0 < (s8.size : Int)) ∧ Br ((sb s8 0) == 48)
  (R (.returned (.bool false)) w13)
  (Br b8
  (Does Tryz.prog 50 #[.string s8_1] w13 fun e29 w29 =>
  ∃ b29 : Bool, e29 = .returned (.bool b29) ∧ Br (!b29)
  (R (.returned (.bool false)) w29)
  (InK .i64 (((s8.size : Int)) + ((s8_1.size : Int))) ∧ R (.returned (.bool (decide ((((s8.size : Int)) + ((s8_1.size : Int))) ≤ 15)))) w29))
  (InK .i64 (((s8.size : Int)) + ((s8_1.size : Int))) ∧ R (.returned (.bool (decide ((((s8.size : Int)) + ((s8_1.size : Int))) ≤ 15)))) w13)))
  (Br b8
  (Does Tryz.prog 50 #[.string s8_1] w13 fun e29_1 w29_1 =>
  ∃ b29_1 : Bool, e29_1 = .returned (.bool b29_1) ∧ Br (!b29_1)
  (R (.returned (.bool false)) w29_1)
  (InK .i64 (((s8.size : Int)) + ((s8_1.size : Int))) ∧ R (.returned (.bool (decide ((((s8.size : Int)) + ((s8_1.size : Int))) ≤ 15)))) w29_1))
  (InK .i64 (((s8.size : Int)) + ((s8_1.size : Int))) ∧ R (.returned (.bool (decide ((((s8.size : Int)) + ((s8_1.size : Int))) ≤ 15)))) w13)))
def f27_ann : Ann := { loops := [], cuts := [], flip := [], throws := [] }
theorem f27_eq (a0 : ByteArray) (w : World) (R : Ending → World → Prop) : vc Tryz.prog f27_ann (bodyOf Tryz.f27) (retQ Tryz.prog Tryz.f27 R) (envOf Tryz.f27.ntmps [.v (.string a0)]) [] w = f27_vc a0 w R := by kernel_rfl
theorem f27_does (a0 : ByteArray) {w : World} {R : Ending → World → Prop} (h : f27_vc a0 w R) : Does Tryz.prog 27 #[.string a0] w R :=
  does_of_vc (ss := [.v (.string a0)]) f27_ann mixed call27 Tryz.func27 rfl rfl (show 1 ≤ Tryz.f27.ntmps by decide) ((f27_eq a0 w R).symm ▸ h)
/-- Of strings.Cut (function 49): the condition. -/
def f49_vc (a0 : ByteArray) (a1 : ByteArray) (w : World) (R : Ending → World → Prop) : Prop :=
  Does Tryz.prog 75 #[.string a0, .string a1] w fun e9 w9 =>
  ∃ s9 : ByteArray, ∃ s9_1 : ByteArray, ∃ b9 : Bool, e9 = .returned (.tuple #[.string s9, .string s9_1, .bool b9]) ∧ R (.returned (.tuple #[.string s9, .string s9_1, .bool b9])) w9
def f49_ann : Ann := { loops := [], cuts := [], flip := [], throws := [] }
theorem f49_eq (a0 : ByteArray) (a1 : ByteArray) (w : World) (R : Ending → World → Prop) : vc Tryz.prog f49_ann (bodyOf Tryz.f49) (retQ Tryz.prog Tryz.f49 R) (envOf Tryz.f49.ntmps [.v (.string a0), .v (.string a1)]) [] w = f49_vc a0 a1 w R := by kernel_rfl
theorem f49_does (a0 : ByteArray) (a1 : ByteArray) {w : World} {R : Ending → World → Prop} (h : f49_vc a0 a1 w R) : Does Tryz.prog 49 #[.string a0, .string a1] w R :=
  does_of_vc (ss := [.v (.string a0), .v (.string a1)]) f49_ann mixed call49 Tryz.func49 rfl rfl (show 2 ≤ Tryz.f49.ntmps by decide) ((f49_eq a0 a1 w R).symm ▸ h)
/-- Of escritoire/real.figures (function 50): the condition. -/
def f50_vc (a0 : ByteArray) (w : World) (R : Ending → World → Prop) : Prop :=
  ∃ I2 : Int → Nat → World → Prop, (∃ nl2, I2 0 nl2 w) ∧ ∀ x6 : Int, ∀ (nl2 : Nat) (wl2 : World), I2 x6 nl2 wl2 →
  Br (decide (x6 < ((a0.size : Int))))
  (((0 : Int) ≤ x6 ∧ x6 < (a0.size : Int)) ∧ Br (decide ((sb a0 x6) < 48))
  (R (.returned (.bool false)) wl2)
  (((0 : Int) ≤ x6 ∧ x6 < (a0.size : Int)) ∧ Br (decide ((sb a0 x6) > 57))
  (R (.returned (.bool false)) wl2)
  (InK .i64 (x6 + 1) ∧ ∃ ml2, ml2 < nl2 ∧ I2 (x6 + 1) ml2 wl2)))
  (R (.returned (.bool (!(a0.toList == (({ data := #[] } : ByteArray)).toList)))) wl2)
def f50_ann : Ann := { loops := [(2, [(6, .int .i64)])], cuts := [], flip := [], throws := [] }
theorem f50_eq (a0 : ByteArray) (w : World) (R : Ending → World → Prop) : vc Tryz.prog f50_ann (bodyOf Tryz.f50) (retQ Tryz.prog Tryz.f50 R) (envOf Tryz.f50.ntmps [.v (.string a0)]) [] w = f50_vc a0 w R := by kernel_rfl
theorem f50_does (a0 : ByteArray) {w : World} {R : Ending → World → Prop} (h : f50_vc a0 w R) : Does Tryz.prog 50 #[.string a0] w R :=
  does_of_vc (ss := [.v (.string a0)]) f50_ann mixed call50 Tryz.func50 rfl rfl (show 1 ≤ Tryz.f50.ntmps by decide) ((f50_eq a0 w R).symm ▸ h)
/-- Of internal/strconv.ParseFloat (function 52): the condition. -/
def f52_vc (a0 : ByteArray) (a1 : Int) (w : World) (R : Ending → World → Prop) : Prop :=
  Does Tryz.prog 76 #[.string a0, .int .i64 a1] w fun e12 w12 =>
  ∃ f12 : Nat, ∃ n12 : Int, ∃ x12 : Value, e12 = .returned (.tuple #[.float .f64 f12, .int .i64 n12, x12]) ∧ Br (n12 != ((a0.size : Int)))
  (R (.returned (.tuple #[.float .f64 0, .iface 90 (.int .i64 2)])) w12)
  (R (.returned (.tuple #[.float .f64 f12, x12])) w12)
def f52_ann : Ann := { loops := [], cuts := [], flip := [], throws := [] }
theorem f52_eq (a0 : ByteArray) (a1 : Int) (w : World) (R : Ending → World → Prop) : vc Tryz.prog f52_ann (bodyOf Tryz.f52) (retQ Tryz.prog Tryz.f52 R) (envOf Tryz.f52.ntmps [.v (.string a0), .v (.int .i64 a1)]) [] w = f52_vc a0 a1 w R := by kernel_rfl
theorem f52_does (a0 : ByteArray) (a1 : Int) {w : World} {R : Ending → World → Prop} (h : f52_vc a0 a1 w R) : Does Tryz.prog 52 #[.string a0, .int .i64 a1] w R :=
  does_of_vc (ss := [.v (.string a0), .v (.int .i64 a1)]) f52_ann mixed call52 Tryz.func52 rfl rfl (show 2 ≤ Tryz.f52.ntmps by decide) ((f52_eq a0 a1 w R).symm ▸ h)
/-- Of strconv.toError (function 53): the condition. -/
def f53_vc (a0 : ByteArray) (a1 : ByteArray) (a2 : Int) (a3 : Int) (a4 : Value) (w : World) (R : Ending → World → Prop) : Prop :=
  GuardOk a4 ∧ ∃ (b14 : Bool) (w14 : World), (binOp .eql 46 (a4) (.iface 90 (.int .i64 2))).run Tryz.prog w = .ok (.bool b14) w14 ∧ Br b14
  (Does Tryz.prog 77 #[.string a0, .string a1] w14 fun e17 w17 =>
  ∃ p17 : Option Addr, e17 = .returned (.pointer p17) ∧ R (.returned (.iface 91 (.pointer p17))) w17)
  (GuardOk a4 ∧ ∃ (b21 : Bool) (w21 : World), (binOp .eql 46 (a4) (.iface 90 (.int .i64 1))).run Tryz.prog w14 = .ok (.bool b21) w21 ∧ Br b21
  (Does Tryz.prog 78 #[.string a0, .string a1] w21 fun e24 w24 =>
  ∃ p24 : Option Addr, e24 = .returned (.pointer p24) ∧ R (.returned (.iface 91 (.pointer p24))) w24)
  (GuardOk a4 ∧ ∃ (b28 : Bool) (w28 : World), (binOp .eql 46 (a4) (.iface 90 (.int .i64 3))).run Tryz.prog w21 = .ok (.bool b28) w28 ∧ Br b28
  (Does Tryz.prog 79 #[.string a0, .string a1, .int .i64 a2] w28 fun e32 w32 =>
  ∃ p32 : Option Addr, e32 = .returned (.pointer p32) ∧ R (.returned (.iface 91 (.pointer p32))) w32)
  (GuardOk a4 ∧ ∃ (b36 : Bool) (w36 : World), (binOp .eql 46 (a4) (.iface 90 (.int .i64 4))).run Tryz.prog w28 = .ok (.bool b36) w36 ∧ Br b36
  (Does Tryz.prog 80 #[.string a0, .string a1, .int .i64 a3] w36 fun e40 w40 =>
  ∃ p40 : Option Addr, e40 = .returned (.pointer p40) ∧ R (.returned (.iface 91 (.pointer p40))) w40)
  (R (.returned (a4)) w36))))
def f53_ann : Ann := { loops := [], cuts := [], flip := [], throws := [] }
theorem f53_eq (a0 : ByteArray) (a1 : ByteArray) (a2 : Int) (a3 : Int) (a4 : Value) (w : World) (R : Ending → World → Prop) : vc Tryz.prog f53_ann (bodyOf Tryz.f53) (retQ Tryz.prog Tryz.f53 R) (envOf Tryz.f53.ntmps [.v (.string a0), .v (.string a1), .v (.int .i64 a2), .v (.int .i64 a3), .v (a4)]) [] w = f53_vc a0 a1 a2 a3 a4 w R := by kernel_rfl
theorem f53_does (a0 : ByteArray) (a1 : ByteArray) (a2 : Int) (a3 : Int) (a4 : Value) {w : World} {R : Ending → World → Prop} (h : f53_vc a0 a1 a2 a3 a4 w R) : Does Tryz.prog 53 #[.string a0, .string a1, .int .i64 a2, .int .i64 a3, a4] w R :=
  does_of_vc (ss := [.v (.string a0), .v (.string a1), .v (.int .i64 a2), .v (.int .i64 a3), .v (a4)]) f53_ann mixed call53 Tryz.func53 rfl rfl (show 5 ≤ Tryz.f53.ntmps by decide) ((f53_eq a0 a1 a2 a3 a4 w R).symm ▸ h)
/-- Of internal/stringslite.Cut (function 75): the condition. -/
def f75_vc (a0 : ByteArray) (a1 : ByteArray) (w : World) (R : Ending → World → Prop) : Prop :=
  Does Tryz.prog 95 #[.string a0, .string a1] w fun e10 w10 =>
  ∃ n10 : Int, e10 = .returned (.int .i64 n10) ∧ Br (decide (n10 ≥ 0))
  (∀ wd3, Drew w10 wd3 →
  ((0 : Int) ≤ n10 ∧ n10 ≤ (a0.size : Int)) ∧ InK .i64 (n10 + ((a1.size : Int))) ∧ ((0 : Int) ≤ (n10 + ((a1.size : Int))) ∧ (n10 + ((a1.size : Int))) ≤ (a0.size : Int)) ∧ R (.returned (.tuple #[.string (a0.extract 0 ((n10).toNat)), .string (a0.extract ((n10 + ((a1.size : Int))).toNat) a0.size), .bool true])) wd3)
  (R (.returned (.tuple #[.string a0, .string (({ data := #[] } : ByteArray)), .bool false])) w10)
def f75_ann : Ann := { loops := [], cuts := [], flip := [], throws := [] }
theorem f75_eq (a0 : ByteArray) (a1 : ByteArray) (w : World) (R : Ending → World → Prop) : vc Tryz.prog f75_ann (bodyOf Tryz.f75) (retQ Tryz.prog Tryz.f75 R) (envOf Tryz.f75.ntmps [.v (.string a0), .v (.string a1)]) [] w = f75_vc a0 a1 w R := by kernel_rfl
theorem f75_does (a0 : ByteArray) (a1 : ByteArray) {w : World} {R : Ending → World → Prop} (h : f75_vc a0 a1 w R) : Does Tryz.prog 75 #[.string a0, .string a1] w R :=
  does_of_vc (ss := [.v (.string a0), .v (.string a1)]) f75_ann mixed call75 Tryz.func75 rfl rfl (show 2 ≤ Tryz.f75.ntmps by decide) ((f75_eq a0 a1 w R).symm ▸ h)
/-- Of internal/strconv.parseFloatPrefix (function 76): the condition. -/
def f76_vc (a0 : ByteArray) (a1 : Int) (w : World) (R : Ending → World → Prop) : Prop :=
  Br (a1 == 32)
  (Does Tryz.prog 96 #[.string a0] w fun e14 w14 =>
  ∃ f14 : Nat, ∃ n14 : Int, ∃ x14 : Value, e14 = .returned (.tuple #[.float .f32 f14, .int .i64 n14, x14]) ∧ ∃ f19 : Nat, ∃ w19, (convert 109 22 (.float .f32 f14)).run Tryz.prog w14 = .ok (.float .f64 f19) w19 ∧ R (.returned (.tuple #[.float .f64 f19, .int .i64 n14, x14])) w19)
  (Does Tryz.prog 97 #[.string a0] w fun e23 w23 =>
  ∃ f23 : Nat, ∃ n23 : Int, ∃ x23 : Value, e23 = .returned (.tuple #[.float .f64 f23, .int .i64 n23, x23]) ∧ R (.returned (.tuple #[.float .f64 f23, .int .i64 n23, x23])) w23)
def f76_ann : Ann := { loops := [], cuts := [], flip := [], throws := [] }
theorem f76_eq (a0 : ByteArray) (a1 : Int) (w : World) (R : Ending → World → Prop) : vc Tryz.prog f76_ann (bodyOf Tryz.f76) (retQ Tryz.prog Tryz.f76 R) (envOf Tryz.f76.ntmps [.v (.string a0), .v (.int .i64 a1)]) [] w = f76_vc a0 a1 w R := by kernel_rfl
theorem f76_does (a0 : ByteArray) (a1 : Int) {w : World} {R : Ending → World → Prop} (h : f76_vc a0 a1 w R) : Does Tryz.prog 76 #[.string a0, .int .i64 a1] w R :=
  does_of_vc (ss := [.v (.string a0), .v (.int .i64 a1)]) f76_ann mixed call76 Tryz.func76 rfl rfl (show 2 ≤ Tryz.f76.ntmps by decide) ((f76_eq a0 a1 w R).symm ▸ h)
/-- Of strconv.syntaxError (function 77): the condition. -/
def f77_vc (a0 : ByteArray) (a1 : ByteArray) (w : World) (R : Ending → World → Prop) : Prop :=
  ∀ wd1, Drew w wd1 →
  ∃ S1 : World → Prop, S1 wd1 ∧ Does Tryz.prog 98 #[.string a1] wd1 fun e7 w7 =>
  ∃ s7 : ByteArray, e7 = .returned (.string s7) ∧ S1 w7 ∧ ∃ x8 : Value, (∀ w, S1 w → w.cell? ⟨2, 0, none⟩ = some (x8)) ∧ opt (fillL [(0, 1), (1, 1), (2, 1)] [.string (({ data := #[] } : ByteArray)), .string (({ data := #[] } : ByteArray)), .nilIface] [(0, .string a0), (1, .string s7), (2, x8)]) fun cs9 => ∀ b10 w10, NewBlk w7 b10 cs9 115 w10 →
  R (.returned (.pointer (some ⟨b10, 0, none⟩))) w10
def f77_ann : Ann := { loops := [], cuts := [], flip := [], throws := [] }
theorem f77_eq (a0 : ByteArray) (a1 : ByteArray) (w : World) (R : Ending → World → Prop) : vc Tryz.prog f77_ann (bodyOf Tryz.f77) (retQ Tryz.prog Tryz.f77 R) (envOf Tryz.f77.ntmps [.v (.string a0), .v (.string a1)]) [] w = f77_vc a0 a1 w R := by kernel_rfl
theorem f77_does (a0 : ByteArray) (a1 : ByteArray) {w : World} {R : Ending → World → Prop} (h : f77_vc a0 a1 w R) : Does Tryz.prog 77 #[.string a0, .string a1] w R :=
  does_of_vc (ss := [.v (.string a0), .v (.string a1)]) f77_ann mixed call77 Tryz.func77 rfl rfl (show 2 ≤ Tryz.f77.ntmps by decide) ((f77_eq a0 a1 w R).symm ▸ h)
/-- Of strconv.rangeError (function 78): the condition. -/
def f78_vc (a0 : ByteArray) (a1 : ByteArray) (w : World) (R : Ending → World → Prop) : Prop :=
  ∀ wd1, Drew w wd1 →
  ∃ S1 : World → Prop, S1 wd1 ∧ Does Tryz.prog 98 #[.string a1] wd1 fun e7 w7 =>
  ∃ s7 : ByteArray, e7 = .returned (.string s7) ∧ S1 w7 ∧ ∃ x8 : Value, (∀ w, S1 w → w.cell? ⟨3, 0, none⟩ = some (x8)) ∧ opt (fillL [(0, 1), (1, 1), (2, 1)] [.string (({ data := #[] } : ByteArray)), .string (({ data := #[] } : ByteArray)), .nilIface] [(0, .string a0), (1, .string s7), (2, x8)]) fun cs9 => ∀ b10 w10, NewBlk w7 b10 cs9 115 w10 →
  R (.returned (.pointer (some ⟨b10, 0, none⟩))) w10
def f78_ann : Ann := { loops := [], cuts := [], flip := [], throws := [] }
theorem f78_eq (a0 : ByteArray) (a1 : ByteArray) (w : World) (R : Ending → World → Prop) : vc Tryz.prog f78_ann (bodyOf Tryz.f78) (retQ Tryz.prog Tryz.f78 R) (envOf Tryz.f78.ntmps [.v (.string a0), .v (.string a1)]) [] w = f78_vc a0 a1 w R := by kernel_rfl
theorem f78_does (a0 : ByteArray) (a1 : ByteArray) {w : World} {R : Ending → World → Prop} (h : f78_vc a0 a1 w R) : Does Tryz.prog 78 #[.string a0, .string a1] w R :=
  does_of_vc (ss := [.v (.string a0), .v (.string a1)]) f78_ann mixed call78 Tryz.func78 rfl rfl (show 2 ≤ Tryz.f78.ntmps by decide) ((f78_eq a0 a1 w R).symm ▸ h)
/-- Of internal/stringslite.Index (function 95): the condition. -/
def f95_vc (a0 : ByteArray) (a1 : ByteArray) (w : World) (R : Ending → World → Prop) : Prop :=
  Br (((a1.size : Int)) == 0)
  (R (.returned (.int .i64 0)) w)
  (Br (a1.toList == a0.toList)
  (R (.returned (.int .i64 0)) w)
  (Br (((a1.size : Int)) == 1)
  (((0 : Int) ≤ 0 ∧ 0 < (a1.size : Int)) ∧ Does Tryz.prog 107 #[.string a0, .int .u8 (sb a1 0)] w fun e30 w30 =>
  ∃ n30 : Int, e30 = .returned (.int .i64 n30) ∧ R (.returned (.int .i64 n30)) w30)
  (Br (decide (((a1.size : Int)) ≥ ((a0.size : Int))))
  (R (.returned (.int .i64 (-1))) w)
  (∃ n38 : Int, w.cell? ⟨4, 0, none⟩ = some (.int .i64 n38) ∧ Br (decide (((a1.size : Int)) ≤ n38))
  (Br (decide (((a0.size : Int)) ≤ 64))
  (Does Tryz.prog 108 #[.string a0, .string a1] w fun e47 w47 =>
  ∃ n47 : Int, e47 = .returned (.int .i64 n47) ∧ R (.returned (.int .i64 n47)) w47)
  (((0 : Int) ≤ 0 ∧ 0 < (a1.size : Int)) ∧ ((0 : Int) ≤ 1 ∧ 1 < (a1.size : Int)) ∧ InK .i64 (((a0.size : Int)) - ((a1.size : Int))) ∧ InK .i64 ((((a0.size : Int)) - ((a1.size : Int))) + 1) ∧ ∃ I15 : Int → Int → Nat → World → Prop, (∃ nl15, I15 0 0 nl15 w) ∧ ∀ x8 : Int, ∀ x10 : Int, ∀ (nl15 : Nat) (wl15 : World), I15 x8 x10 nl15 wl15 →
  Br (decide (x8 < ((((a0.size : Int)) - ((a1.size : Int))) + 1)))
  (((0 : Int) ≤ x8 ∧ x8 < (a0.size : Int)) ∧ Br ((sb a0 x8) != (sb a1 0))
  (InK .i64 (x8 + 1) ∧ ((0 : Int) ≤ ((((a0.size : Int)) - ((a1.size : Int))) + 1) ∧ ((((a0.size : Int)) - ((a1.size : Int))) + 1) ≤ (a0.size : Int)) ∧ ((0 : Int) ≤ (x8 + 1) ∧ (x8 + 1) ≤ ((((a0.size : Int)) - ((a1.size : Int))) + 1)) ∧ Does Tryz.prog 107 #[.string (a0.extract ((x8 + 1).toNat) (((((a0.size : Int)) - ((a1.size : Int))) + 1).toNat)), .int .u8 (sb a1 0)] wl15 fun e71 w71 =>
  ∃ n71 : Int, e71 = .returned (.int .i64 n71) ∧ Br (decide (n71 < 0))
  (R (.returned (.int .i64 (-1))) w71)
  (InK .i64 (n71 + 1) ∧ InK .i64 (x8 + (n71 + 1)) ∧ InK .i64 ((x8 + (n71 + 1)) + 1) ∧ ((0 : Int) ≤ ((x8 + (n71 + 1)) + 1) ∧ ((x8 + (n71 + 1)) + 1) < (a0.size : Int)) ∧ Br ((sb a0 ((x8 + (n71 + 1)) + 1)) == (sb a1 1))
  (InK .i64 ((x8 + (n71 + 1)) + ((a1.size : Int))) ∧ ((0 : Int) ≤ ((x8 + (n71 + 1)) + ((a1.size : Int))) ∧ ((x8 + (n71 + 1)) + ((a1.size : Int))) ≤ (a0.size : Int)) ∧ ((0 : Int) ≤ (x8 + (n71 + 1)) ∧ (x8 + (n71 + 1)) ≤ ((x8 + (n71 + 1)) + ((a1.size : Int)))) ∧ Br ((a0.extract ((x8 + (n71 + 1)).toNat) (((x8 + (n71 + 1)) + ((a1.size : Int))).toNat)).toList == a1.toList)
  (R (.returned (.int .i64 (x8 + (n71 + 1)))) w71)
  (InK .i64 ((x8 + (n71 + 1)) + 1) ∧ InK .i64 (x10 + 1) ∧ ∃ n100 : Int, w71.cell? ⟨4, 0, none⟩ = some (.int .i64 n100) ∧ Br (decide (((a1.size : Int)) ≤ n100))
  (Does Tryz.prog 109 #[.int .i64 ((x8 + (n71 + 1)) + 1)] w71 fun e105 w105 =>
  ∃ n105 : Int, e105 = .returned (.int .i64 n105) ∧ Br (decide ((x10 + 1) > n105))
  (((0 : Int) ≤ ((x8 + (n71 + 1)) + 1) ∧ ((x8 + (n71 + 1)) + 1) ≤ (a0.size : Int)) ∧ Does Tryz.prog 108 #[.string (a0.extract (((x8 + (n71 + 1)) + 1).toNat) a0.size), .string a1] w105 fun e112 w112 =>
  ∃ n112 : Int, e112 = .returned (.int .i64 n112) ∧ Br (decide (n112 ≥ 0))
  (InK .i64 (n112 + ((x8 + (n71 + 1)) + 1)) ∧ R (.returned (.int .i64 (n112 + ((x8 + (n71 + 1)) + 1)))) w112)
  (R (.returned (.int .i64 (-1))) w112))
  (∃ n119 : Int, w105.cell? ⟨4, 0, none⟩ = some (.int .i64 n119) ∧ Br (decide (((a1.size : Int)) > n119))
  ((0 : Int) ≤ 4 ∧ InK .i64 (4 + (((x8 + (n71 + 1)) + 1).fdiv (2 ^ 4))) ∧ Br (decide ((x10 + 1) ≥ (4 + (((x8 + (n71 + 1)) + 1).fdiv (2 ^ 4)))))
  (Br (decide (((x8 + (n71 + 1)) + 1) < ((((a0.size : Int)) - ((a1.size : Int))) + 1)))
  (((0 : Int) ≤ ((x8 + (n71 + 1)) + 1) ∧ ((x8 + (n71 + 1)) + 1) ≤ (a0.size : Int)) ∧ Does Tryz.prog 110 #[.string (a0.extract (((x8 + (n71 + 1)) + 1).toNat) a0.size), .string a1] w105 fun e137 w137 =>
  ∃ n137 : Int, e137 = .returned (.int .i64 n137) ∧ Br (decide (n137 < 0))
  (R (.returned (.int .i64 (-1))) w137)
  (InK .i64 (((x8 + (n71 + 1)) + 1) + n137) ∧ R (.returned (.int .i64 (((x8 + (n71 + 1)) + 1) + n137))) w137))
  (∃ ml15, ml15 < nl15 ∧ I15 ((x8 + (n71 + 1)) + 1) (x10 + 1) ml15 w105))
  (∃ ml15, ml15 < nl15 ∧ I15 ((x8 + (n71 + 1)) + 1) (x10 + 1) ml15 w105))
  (∃ ml15, ml15 < nl15 ∧ I15 ((x8 + (n71 + 1)) + 1) (x10 + 1) ml15 w105)))
  (∃ n119_1 : Int, w71.cell? ⟨4, 0, none⟩ = some (.int .i64 n119_1) ∧ Br (decide (((a1.size : Int)) > n119_1))
  ((0 : Int) ≤ 4 ∧ InK .i64 (4 + (((x8 + (n71 + 1)) + 1).fdiv (2 ^ 4))) ∧ Br (decide ((x10 + 1) ≥ (4 + (((x8 + (n71 + 1)) + 1).fdiv (2 ^ 4)))))
  (Br (decide (((x8 + (n71 + 1)) + 1) < ((((a0.size : Int)) - ((a1.size : Int))) + 1)))
  (((0 : Int) ≤ ((x8 + (n71 + 1)) + 1) ∧ ((x8 + (n71 + 1)) + 1) ≤ (a0.size : Int)) ∧ Does Tryz.prog 110 #[.string (a0.extract (((x8 + (n71 + 1)) + 1).toNat) a0.size), .string a1] w71 fun e137_1 w137_1 =>
  ∃ n137_1 : Int, e137_1 = .returned (.int .i64 n137_1) ∧ Br (decide (n137_1 < 0))
  (R (.returned (.int .i64 (-1))) w137_1)
  (InK .i64 (((x8 + (n71 + 1)) + 1) + n137_1) ∧ R (.returned (.int .i64 (((x8 + (n71 + 1)) + 1) + n137_1))) w137_1))
  (∃ ml15, ml15 < nl15 ∧ I15 ((x8 + (n71 + 1)) + 1) (x10 + 1) ml15 w71))
  (∃ ml15, ml15 < nl15 ∧ I15 ((x8 + (n71 + 1)) + 1) (x10 + 1) ml15 w71))
  (∃ ml15, ml15 < nl15 ∧ I15 ((x8 + (n71 + 1)) + 1) (x10 + 1) ml15 w71))))
  (InK .i64 ((x8 + (n71 + 1)) + 1) ∧ InK .i64 (x10 + 1) ∧ ∃ n100_1 : Int, w71.cell? ⟨4, 0, none⟩ = some (.int .i64 n100_1) ∧ Br (decide (((a1.size : Int)) ≤ n100_1))
  (Does Tryz.prog 109 #[.int .i64 ((x8 + (n71 + 1)) + 1)] w71 fun e105_1 w105_1 =>
  ∃ n105_1 : Int, e105_1 = .returned (.int .i64 n105_1) ∧ Br (decide ((x10 + 1) > n105_1))
  (((0 : Int) ≤ ((x8 + (n71 + 1)) + 1) ∧ ((x8 + (n71 + 1)) + 1) ≤ (a0.size : Int)) ∧ Does Tryz.prog 108 #[.string (a0.extract (((x8 + (n71 + 1)) + 1).toNat) a0.size), .string a1] w105_1 fun e112_1 w112_1 =>
  ∃ n112_1 : Int, e112_1 = .returned (.int .i64 n112_1) ∧ Br (decide (n112_1 ≥ 0))
  (InK .i64 (n112_1 + ((x8 + (n71 + 1)) + 1)) ∧ R (.returned (.int .i64 (n112_1 + ((x8 + (n71 + 1)) + 1)))) w112_1)
  (R (.returned (.int .i64 (-1))) w112_1))
  (∃ n119_2 : Int, w105_1.cell? ⟨4, 0, none⟩ = some (.int .i64 n119_2) ∧ Br (decide (((a1.size : Int)) > n119_2))
  ((0 : Int) ≤ 4 ∧ InK .i64 (4 + (((x8 + (n71 + 1)) + 1).fdiv (2 ^ 4))) ∧ Br (decide ((x10 + 1) ≥ (4 + (((x8 + (n71 + 1)) + 1).fdiv (2 ^ 4)))))
  (Br (decide (((x8 + (n71 + 1)) + 1) < ((((a0.size : Int)) - ((a1.size : Int))) + 1)))
  (((0 : Int) ≤ ((x8 + (n71 + 1)) + 1) ∧ ((x8 + (n71 + 1)) + 1) ≤ (a0.size : Int)) ∧ Does Tryz.prog 110 #[.string (a0.extract (((x8 + (n71 + 1)) + 1).toNat) a0.size), .string a1] w105_1 fun e137_2 w137_2 =>
  ∃ n137_2 : Int, e137_2 = .returned (.int .i64 n137_2) ∧ Br (decide (n137_2 < 0))
  (R (.returned (.int .i64 (-1))) w137_2)
  (InK .i64 (((x8 + (n71 + 1)) + 1) + n137_2) ∧ R (.returned (.int .i64 (((x8 + (n71 + 1)) + 1) + n137_2))) w137_2))
  (∃ ml15, ml15 < nl15 ∧ I15 ((x8 + (n71 + 1)) + 1) (x10 + 1) ml15 w105_1))
  (∃ ml15, ml15 < nl15 ∧ I15 ((x8 + (n71 + 1)) + 1) (x10 + 1) ml15 w105_1))
  (∃ ml15, ml15 < nl15 ∧ I15 ((x8 + (n71 + 1)) + 1) (x10 + 1) ml15 w105_1)))
  (∃ n119_3 : Int, w71.cell? ⟨4, 0, none⟩ = some (.int .i64 n119_3) ∧ Br (decide (((a1.size : Int)) > n119_3))
  ((0 : Int) ≤ 4 ∧ InK .i64 (4 + (((x8 + (n71 + 1)) + 1).fdiv (2 ^ 4))) ∧ Br (decide ((x10 + 1) ≥ (4 + (((x8 + (n71 + 1)) + 1).fdiv (2 ^ 4)))))
  (Br (decide (((x8 + (n71 + 1)) + 1) < ((((a0.size : Int)) - ((a1.size : Int))) + 1)))
  (((0 : Int) ≤ ((x8 + (n71 + 1)) + 1) ∧ ((x8 + (n71 + 1)) + 1) ≤ (a0.size : Int)) ∧ Does Tryz.prog 110 #[.string (a0.extract (((x8 + (n71 + 1)) + 1).toNat) a0.size), .string a1] w71 fun e137_3 w137_3 =>
  ∃ n137_3 : Int, e137_3 = .returned (.int .i64 n137_3) ∧ Br (decide (n137_3 < 0))
  (R (.returned (.int .i64 (-1))) w137_3)
  (InK .i64 (((x8 + (n71 + 1)) + 1) + n137_3) ∧ R (.returned (.int .i64 (((x8 + (n71 + 1)) + 1) + n137_3))) w137_3))
  (∃ ml15, ml15 < nl15 ∧ I15 ((x8 + (n71 + 1)) + 1) (x10 + 1) ml15 w71))
  (∃ ml15, ml15 < nl15 ∧ I15 ((x8 + (n71 + 1)) + 1) (x10 + 1) ml15 w71))
  (∃ ml15, ml15 < nl15 ∧ I15 ((x8 + (n71 + 1)) + 1) (x10 + 1) ml15 w71)))))
  (InK .i64 (x8 + 1) ∧ ((0 : Int) ≤ (x8 + 1) ∧ (x8 + 1) < (a0.size : Int)) ∧ Br ((sb a0 (x8 + 1)) == (sb a1 1))
  (InK .i64 (x8 + ((a1.size : Int))) ∧ ((0 : Int) ≤ (x8 + ((a1.size : Int))) ∧ (x8 + ((a1.size : Int))) ≤ (a0.size : Int)) ∧ ((0 : Int) ≤ x8 ∧ x8 ≤ (x8 + ((a1.size : Int)))) ∧ Br ((a0.extract ((x8).toNat) ((x8 + ((a1.size : Int))).toNat)).toList == a1.toList)
  (R (.returned (.int .i64 x8)) wl15)
  (InK .i64 (x8 + 1) ∧ InK .i64 (x10 + 1) ∧ ∃ n100_2 : Int, wl15.cell? ⟨4, 0, none⟩ = some (.int .i64 n100_2) ∧ Br (decide (((a1.size : Int)) ≤ n100_2))
  (Does Tryz.prog 109 #[.int .i64 (x8 + 1)] wl15 fun e105_2 w105_2 =>
  ∃ n105_2 : Int, e105_2 = .returned (.int .i64 n105_2) ∧ Br (decide ((x10 + 1) > n105_2))
  (((0 : Int) ≤ (x8 + 1) ∧ (x8 + 1) ≤ (a0.size : Int)) ∧ Does Tryz.prog 108 #[.string (a0.extract ((x8 + 1).toNat) a0.size), .string a1] w105_2 fun e112_2 w112_2 =>
  ∃ n112_2 : Int, e112_2 = .returned (.int .i64 n112_2) ∧ Br (decide (n112_2 ≥ 0))
  (InK .i64 (n112_2 + (x8 + 1)) ∧ R (.returned (.int .i64 (n112_2 + (x8 + 1)))) w112_2)
  (R (.returned (.int .i64 (-1))) w112_2))
  (∃ n119_4 : Int, w105_2.cell? ⟨4, 0, none⟩ = some (.int .i64 n119_4) ∧ Br (decide (((a1.size : Int)) > n119_4))
  ((0 : Int) ≤ 4 ∧ InK .i64 (4 + ((x8 + 1).fdiv (2 ^ 4))) ∧ Br (decide ((x10 + 1) ≥ (4 + ((x8 + 1).fdiv (2 ^ 4)))))
  (Br (decide ((x8 + 1) < ((((a0.size : Int)) - ((a1.size : Int))) + 1)))
  (((0 : Int) ≤ (x8 + 1) ∧ (x8 + 1) ≤ (a0.size : Int)) ∧ Does Tryz.prog 110 #[.string (a0.extract ((x8 + 1).toNat) a0.size), .string a1] w105_2 fun e137_4 w137_4 =>
  ∃ n137_4 : Int, e137_4 = .returned (.int .i64 n137_4) ∧ Br (decide (n137_4 < 0))
  (R (.returned (.int .i64 (-1))) w137_4)
  (InK .i64 ((x8 + 1) + n137_4) ∧ R (.returned (.int .i64 ((x8 + 1) + n137_4))) w137_4))
  (∃ ml15, ml15 < nl15 ∧ I15 (x8 + 1) (x10 + 1) ml15 w105_2))
  (∃ ml15, ml15 < nl15 ∧ I15 (x8 + 1) (x10 + 1) ml15 w105_2))
  (∃ ml15, ml15 < nl15 ∧ I15 (x8 + 1) (x10 + 1) ml15 w105_2)))
  (∃ n119_5 : Int, wl15.cell? ⟨4, 0, none⟩ = some (.int .i64 n119_5) ∧ Br (decide (((a1.size : Int)) > n119_5))
  ((0 : Int) ≤ 4 ∧ InK .i64 (4 + ((x8 + 1).fdiv (2 ^ 4))) ∧ Br (decide ((x10 + 1) ≥ (4 + ((x8 + 1).fdiv (2 ^ 4)))))
  (Br (decide ((x8 + 1) < ((((a0.size : Int)) - ((a1.size : Int))) + 1)))
  (((0 : Int) ≤ (x8 + 1) ∧ (x8 + 1) ≤ (a0.size : Int)) ∧ Does Tryz.prog 110 #[.string (a0.extract ((x8 + 1).toNat) a0.size), .string a1] wl15 fun e137_5 w137_5 =>
  ∃ n137_5 : Int, e137_5 = .returned (.int .i64 n137_5) ∧ Br (decide (n137_5 < 0))
  (R (.returned (.int .i64 (-1))) w137_5)
  (InK .i64 ((x8 + 1) + n137_5) ∧ R (.returned (.int .i64 ((x8 + 1) + n137_5))) w137_5))
  (∃ ml15, ml15 < nl15 ∧ I15 (x8 + 1) (x10 + 1) ml15 wl15))
  (∃ ml15, ml15 < nl15 ∧ I15 (x8 + 1) (x10 + 1) ml15 wl15))
  (∃ ml15, ml15 < nl15 ∧ I15 (x8 + 1) (x10 + 1) ml15 wl15))))
  (InK .i64 (x8 + 1) ∧ InK .i64 (x10 + 1) ∧ ∃ n100_3 : Int, wl15.cell? ⟨4, 0, none⟩ = some (.int .i64 n100_3) ∧ Br (decide (((a1.size : Int)) ≤ n100_3))
  (Does Tryz.prog 109 #[.int .i64 (x8 + 1)] wl15 fun e105_3 w105_3 =>
  ∃ n105_3 : Int, e105_3 = .returned (.int .i64 n105_3) ∧ Br (decide ((x10 + 1) > n105_3))
  (((0 : Int) ≤ (x8 + 1) ∧ (x8 + 1) ≤ (a0.size : Int)) ∧ Does Tryz.prog 108 #[.string (a0.extract ((x8 + 1).toNat) a0.size), .string a1] w105_3 fun e112_3 w112_3 =>
  ∃ n112_3 : Int, e112_3 = .returned (.int .i64 n112_3) ∧ Br (decide (n112_3 ≥ 0))
  (InK .i64 (n112_3 + (x8 + 1)) ∧ R (.returned (.int .i64 (n112_3 + (x8 + 1)))) w112_3)
  (R (.returned (.int .i64 (-1))) w112_3))
  (∃ n119_6 : Int, w105_3.cell? ⟨4, 0, none⟩ = some (.int .i64 n119_6) ∧ Br (decide (((a1.size : Int)) > n119_6))
  ((0 : Int) ≤ 4 ∧ InK .i64 (4 + ((x8 + 1).fdiv (2 ^ 4))) ∧ Br (decide ((x10 + 1) ≥ (4 + ((x8 + 1).fdiv (2 ^ 4)))))
  (Br (decide ((x8 + 1) < ((((a0.size : Int)) - ((a1.size : Int))) + 1)))
  (((0 : Int) ≤ (x8 + 1) ∧ (x8 + 1) ≤ (a0.size : Int)) ∧ Does Tryz.prog 110 #[.string (a0.extract ((x8 + 1).toNat) a0.size), .string a1] w105_3 fun e137_6 w137_6 =>
  ∃ n137_6 : Int, e137_6 = .returned (.int .i64 n137_6) ∧ Br (decide (n137_6 < 0))
  (R (.returned (.int .i64 (-1))) w137_6)
  (InK .i64 ((x8 + 1) + n137_6) ∧ R (.returned (.int .i64 ((x8 + 1) + n137_6))) w137_6))
  (∃ ml15, ml15 < nl15 ∧ I15 (x8 + 1) (x10 + 1) ml15 w105_3))
  (∃ ml15, ml15 < nl15 ∧ I15 (x8 + 1) (x10 + 1) ml15 w105_3))
  (∃ ml15, ml15 < nl15 ∧ I15 (x8 + 1) (x10 + 1) ml15 w105_3)))
  (∃ n119_7 : Int, wl15.cell? ⟨4, 0, none⟩ = some (.int .i64 n119_7) ∧ Br (decide (((a1.size : Int)) > n119_7))
  ((0 : Int) ≤ 4 ∧ InK .i64 (4 + ((x8 + 1).fdiv (2 ^ 4))) ∧ Br (decide ((x10 + 1) ≥ (4 + ((x8 + 1).fdiv (2 ^ 4)))))
  (Br (decide ((x8 + 1) < ((((a0.size : Int)) - ((a1.size : Int))) + 1)))
  (((0 : Int) ≤ (x8 + 1) ∧ (x8 + 1) ≤ (a0.size : Int)) ∧ Does Tryz.prog 110 #[.string (a0.extract ((x8 + 1).toNat) a0.size), .string a1] wl15 fun e137_7 w137_7 =>
  ∃ n137_7 : Int, e137_7 = .returned (.int .i64 n137_7) ∧ Br (decide (n137_7 < 0))
  (R (.returned (.int .i64 (-1))) w137_7)
  (InK .i64 ((x8 + 1) + n137_7) ∧ R (.returned (.int .i64 ((x8 + 1) + n137_7))) w137_7))
  (∃ ml15, ml15 < nl15 ∧ I15 (x8 + 1) (x10 + 1) ml15 wl15))
  (∃ ml15, ml15 < nl15 ∧ I15 (x8 + 1) (x10 + 1) ml15 wl15))
  (∃ ml15, ml15 < nl15 ∧ I15 (x8 + 1) (x10 + 1) ml15 wl15)))))
  (R (.returned (.int .i64 (-1))) wl15)))
  (((0 : Int) ≤ 0 ∧ 0 < (a1.size : Int)) ∧ ((0 : Int) ≤ 1 ∧ 1 < (a1.size : Int)) ∧ InK .i64 (((a0.size : Int)) - ((a1.size : Int))) ∧ InK .i64 ((((a0.size : Int)) - ((a1.size : Int))) + 1) ∧ ∃ I15_1 : Int → Int → Nat → World → Prop, (∃ nl15_1, I15_1 0 0 nl15_1 w) ∧ ∀ x8_1 : Int, ∀ x10_1 : Int, ∀ (nl15_1 : Nat) (wl15_1 : World), I15_1 x8_1 x10_1 nl15_1 wl15_1 →
  Br (decide (x8_1 < ((((a0.size : Int)) - ((a1.size : Int))) + 1)))
  (((0 : Int) ≤ x8_1 ∧ x8_1 < (a0.size : Int)) ∧ Br ((sb a0 x8_1) != (sb a1 0))
  (InK .i64 (x8_1 + 1) ∧ ((0 : Int) ≤ ((((a0.size : Int)) - ((a1.size : Int))) + 1) ∧ ((((a0.size : Int)) - ((a1.size : Int))) + 1) ≤ (a0.size : Int)) ∧ ((0 : Int) ≤ (x8_1 + 1) ∧ (x8_1 + 1) ≤ ((((a0.size : Int)) - ((a1.size : Int))) + 1)) ∧ Does Tryz.prog 107 #[.string (a0.extract ((x8_1 + 1).toNat) (((((a0.size : Int)) - ((a1.size : Int))) + 1).toNat)), .int .u8 (sb a1 0)] wl15_1 fun e71_1 w71_1 =>
  ∃ n71_1 : Int, e71_1 = .returned (.int .i64 n71_1) ∧ Br (decide (n71_1 < 0))
  (R (.returned (.int .i64 (-1))) w71_1)
  (InK .i64 (n71_1 + 1) ∧ InK .i64 (x8_1 + (n71_1 + 1)) ∧ InK .i64 ((x8_1 + (n71_1 + 1)) + 1) ∧ ((0 : Int) ≤ ((x8_1 + (n71_1 + 1)) + 1) ∧ ((x8_1 + (n71_1 + 1)) + 1) < (a0.size : Int)) ∧ Br ((sb a0 ((x8_1 + (n71_1 + 1)) + 1)) == (sb a1 1))
  (InK .i64 ((x8_1 + (n71_1 + 1)) + ((a1.size : Int))) ∧ ((0 : Int) ≤ ((x8_1 + (n71_1 + 1)) + ((a1.size : Int))) ∧ ((x8_1 + (n71_1 + 1)) + ((a1.size : Int))) ≤ (a0.size : Int)) ∧ ((0 : Int) ≤ (x8_1 + (n71_1 + 1)) ∧ (x8_1 + (n71_1 + 1)) ≤ ((x8_1 + (n71_1 + 1)) + ((a1.size : Int)))) ∧ Br ((a0.extract ((x8_1 + (n71_1 + 1)).toNat) (((x8_1 + (n71_1 + 1)) + ((a1.size : Int))).toNat)).toList == a1.toList)
  (R (.returned (.int .i64 (x8_1 + (n71_1 + 1)))) w71_1)
  (InK .i64 ((x8_1 + (n71_1 + 1)) + 1) ∧ InK .i64 (x10_1 + 1) ∧ ∃ n100_4 : Int, w71_1.cell? ⟨4, 0, none⟩ = some (.int .i64 n100_4) ∧ Br (decide (((a1.size : Int)) ≤ n100_4))
  (Does Tryz.prog 109 #[.int .i64 ((x8_1 + (n71_1 + 1)) + 1)] w71_1 fun e105_4 w105_4 =>
  ∃ n105_4 : Int, e105_4 = .returned (.int .i64 n105_4) ∧ Br (decide ((x10_1 + 1) > n105_4))
  (((0 : Int) ≤ ((x8_1 + (n71_1 + 1)) + 1) ∧ ((x8_1 + (n71_1 + 1)) + 1) ≤ (a0.size : Int)) ∧ Does Tryz.prog 108 #[.string (a0.extract (((x8_1 + (n71_1 + 1)) + 1).toNat) a0.size), .string a1] w105_4 fun e112_4 w112_4 =>
  ∃ n112_4 : Int, e112_4 = .returned (.int .i64 n112_4) ∧ Br (decide (n112_4 ≥ 0))
  (InK .i64 (n112_4 + ((x8_1 + (n71_1 + 1)) + 1)) ∧ R (.returned (.int .i64 (n112_4 + ((x8_1 + (n71_1 + 1)) + 1)))) w112_4)
  (R (.returned (.int .i64 (-1))) w112_4))
  (∃ n119_8 : Int, w105_4.cell? ⟨4, 0, none⟩ = some (.int .i64 n119_8) ∧ Br (decide (((a1.size : Int)) > n119_8))
  ((0 : Int) ≤ 4 ∧ InK .i64 (4 + (((x8_1 + (n71_1 + 1)) + 1).fdiv (2 ^ 4))) ∧ Br (decide ((x10_1 + 1) ≥ (4 + (((x8_1 + (n71_1 + 1)) + 1).fdiv (2 ^ 4)))))
  (Br (decide (((x8_1 + (n71_1 + 1)) + 1) < ((((a0.size : Int)) - ((a1.size : Int))) + 1)))
  (((0 : Int) ≤ ((x8_1 + (n71_1 + 1)) + 1) ∧ ((x8_1 + (n71_1 + 1)) + 1) ≤ (a0.size : Int)) ∧ Does Tryz.prog 110 #[.string (a0.extract (((x8_1 + (n71_1 + 1)) + 1).toNat) a0.size), .string a1] w105_4 fun e137_8 w137_8 =>
  ∃ n137_8 : Int, e137_8 = .returned (.int .i64 n137_8) ∧ Br (decide (n137_8 < 0))
  (R (.returned (.int .i64 (-1))) w137_8)
  (InK .i64 (((x8_1 + (n71_1 + 1)) + 1) + n137_8) ∧ R (.returned (.int .i64 (((x8_1 + (n71_1 + 1)) + 1) + n137_8))) w137_8))
  (∃ ml15_1, ml15_1 < nl15_1 ∧ I15_1 ((x8_1 + (n71_1 + 1)) + 1) (x10_1 + 1) ml15_1 w105_4))
  (∃ ml15_1, ml15_1 < nl15_1 ∧ I15_1 ((x8_1 + (n71_1 + 1)) + 1) (x10_1 + 1) ml15_1 w105_4))
  (∃ ml15_1, ml15_1 < nl15_1 ∧ I15_1 ((x8_1 + (n71_1 + 1)) + 1) (x10_1 + 1) ml15_1 w105_4)))
  (∃ n119_9 : Int, w71_1.cell? ⟨4, 0, none⟩ = some (.int .i64 n119_9) ∧ Br (decide (((a1.size : Int)) > n119_9))
  ((0 : Int) ≤ 4 ∧ InK .i64 (4 + (((x8_1 + (n71_1 + 1)) + 1).fdiv (2 ^ 4))) ∧ Br (decide ((x10_1 + 1) ≥ (4 + (((x8_1 + (n71_1 + 1)) + 1).fdiv (2 ^ 4)))))
  (Br (decide (((x8_1 + (n71_1 + 1)) + 1) < ((((a0.size : Int)) - ((a1.size : Int))) + 1)))
  (((0 : Int) ≤ ((x8_1 + (n71_1 + 1)) + 1) ∧ ((x8_1 + (n71_1 + 1)) + 1) ≤ (a0.size : Int)) ∧ Does Tryz.prog 110 #[.string (a0.extract (((x8_1 + (n71_1 + 1)) + 1).toNat) a0.size), .string a1] w71_1 fun e137_9 w137_9 =>
  ∃ n137_9 : Int, e137_9 = .returned (.int .i64 n137_9) ∧ Br (decide (n137_9 < 0))
  (R (.returned (.int .i64 (-1))) w137_9)
  (InK .i64 (((x8_1 + (n71_1 + 1)) + 1) + n137_9) ∧ R (.returned (.int .i64 (((x8_1 + (n71_1 + 1)) + 1) + n137_9))) w137_9))
  (∃ ml15_1, ml15_1 < nl15_1 ∧ I15_1 ((x8_1 + (n71_1 + 1)) + 1) (x10_1 + 1) ml15_1 w71_1))
  (∃ ml15_1, ml15_1 < nl15_1 ∧ I15_1 ((x8_1 + (n71_1 + 1)) + 1) (x10_1 + 1) ml15_1 w71_1))
  (∃ ml15_1, ml15_1 < nl15_1 ∧ I15_1 ((x8_1 + (n71_1 + 1)) + 1) (x10_1 + 1) ml15_1 w71_1))))
  (InK .i64 ((x8_1 + (n71_1 + 1)) + 1) ∧ InK .i64 (x10_1 + 1) ∧ ∃ n100_5 : Int, w71_1.cell? ⟨4, 0, none⟩ = some (.int .i64 n100_5) ∧ Br (decide (((a1.size : Int)) ≤ n100_5))
  (Does Tryz.prog 109 #[.int .i64 ((x8_1 + (n71_1 + 1)) + 1)] w71_1 fun e105_5 w105_5 =>
  ∃ n105_5 : Int, e105_5 = .returned (.int .i64 n105_5) ∧ Br (decide ((x10_1 + 1) > n105_5))
  (((0 : Int) ≤ ((x8_1 + (n71_1 + 1)) + 1) ∧ ((x8_1 + (n71_1 + 1)) + 1) ≤ (a0.size : Int)) ∧ Does Tryz.prog 108 #[.string (a0.extract (((x8_1 + (n71_1 + 1)) + 1).toNat) a0.size), .string a1] w105_5 fun e112_5 w112_5 =>
  ∃ n112_5 : Int, e112_5 = .returned (.int .i64 n112_5) ∧ Br (decide (n112_5 ≥ 0))
  (InK .i64 (n112_5 + ((x8_1 + (n71_1 + 1)) + 1)) ∧ R (.returned (.int .i64 (n112_5 + ((x8_1 + (n71_1 + 1)) + 1)))) w112_5)
  (R (.returned (.int .i64 (-1))) w112_5))
  (∃ n119_10 : Int, w105_5.cell? ⟨4, 0, none⟩ = some (.int .i64 n119_10) ∧ Br (decide (((a1.size : Int)) > n119_10))
  ((0 : Int) ≤ 4 ∧ InK .i64 (4 + (((x8_1 + (n71_1 + 1)) + 1).fdiv (2 ^ 4))) ∧ Br (decide ((x10_1 + 1) ≥ (4 + (((x8_1 + (n71_1 + 1)) + 1).fdiv (2 ^ 4)))))
  (Br (decide (((x8_1 + (n71_1 + 1)) + 1) < ((((a0.size : Int)) - ((a1.size : Int))) + 1)))
  (((0 : Int) ≤ ((x8_1 + (n71_1 + 1)) + 1) ∧ ((x8_1 + (n71_1 + 1)) + 1) ≤ (a0.size : Int)) ∧ Does Tryz.prog 110 #[.string (a0.extract (((x8_1 + (n71_1 + 1)) + 1).toNat) a0.size), .string a1] w105_5 fun e137_10 w137_10 =>
  ∃ n137_10 : Int, e137_10 = .returned (.int .i64 n137_10) ∧ Br (decide (n137_10 < 0))
  (R (.returned (.int .i64 (-1))) w137_10)
  (InK .i64 (((x8_1 + (n71_1 + 1)) + 1) + n137_10) ∧ R (.returned (.int .i64 (((x8_1 + (n71_1 + 1)) + 1) + n137_10))) w137_10))
  (∃ ml15_1, ml15_1 < nl15_1 ∧ I15_1 ((x8_1 + (n71_1 + 1)) + 1) (x10_1 + 1) ml15_1 w105_5))
  (∃ ml15_1, ml15_1 < nl15_1 ∧ I15_1 ((x8_1 + (n71_1 + 1)) + 1) (x10_1 + 1) ml15_1 w105_5))
  (∃ ml15_1, ml15_1 < nl15_1 ∧ I15_1 ((x8_1 + (n71_1 + 1)) + 1) (x10_1 + 1) ml15_1 w105_5)))
  (∃ n119_11 : Int, w71_1.cell? ⟨4, 0, none⟩ = some (.int .i64 n119_11) ∧ Br (decide (((a1.size : Int)) > n119_11))
  ((0 : Int) ≤ 4 ∧ InK .i64 (4 + (((x8_1 + (n71_1 + 1)) + 1).fdiv (2 ^ 4))) ∧ Br (decide ((x10_1 + 1) ≥ (4 + (((x8_1 + (n71_1 + 1)) + 1).fdiv (2 ^ 4)))))
  (Br (decide (((x8_1 + (n71_1 + 1)) + 1) < ((((a0.size : Int)) - ((a1.size : Int))) + 1)))
  (((0 : Int) ≤ ((x8_1 + (n71_1 + 1)) + 1) ∧ ((x8_1 + (n71_1 + 1)) + 1) ≤ (a0.size : Int)) ∧ Does Tryz.prog 110 #[.string (a0.extract (((x8_1 + (n71_1 + 1)) + 1).toNat) a0.size), .string a1] w71_1 fun e137_11 w137_11 =>
  ∃ n137_11 : Int, e137_11 = .returned (.int .i64 n137_11) ∧ Br (decide (n137_11 < 0))
  (R (.returned (.int .i64 (-1))) w137_11)
  (InK .i64 (((x8_1 + (n71_1 + 1)) + 1) + n137_11) ∧ R (.returned (.int .i64 (((x8_1 + (n71_1 + 1)) + 1) + n137_11))) w137_11))
  (∃ ml15_1, ml15_1 < nl15_1 ∧ I15_1 ((x8_1 + (n71_1 + 1)) + 1) (x10_1 + 1) ml15_1 w71_1))
  (∃ ml15_1, ml15_1 < nl15_1 ∧ I15_1 ((x8_1 + (n71_1 + 1)) + 1) (x10_1 + 1) ml15_1 w71_1))
  (∃ ml15_1, ml15_1 < nl15_1 ∧ I15_1 ((x8_1 + (n71_1 + 1)) + 1) (x10_1 + 1) ml15_1 w71_1)))))
  (InK .i64 (x8_1 + 1) ∧ ((0 : Int) ≤ (x8_1 + 1) ∧ (x8_1 + 1) < (a0.size : Int)) ∧ Br ((sb a0 (x8_1 + 1)) == (sb a1 1))
  (InK .i64 (x8_1 + ((a1.size : Int))) ∧ ((0 : Int) ≤ (x8_1 + ((a1.size : Int))) ∧ (x8_1 + ((a1.size : Int))) ≤ (a0.size : Int)) ∧ ((0 : Int) ≤ x8_1 ∧ x8_1 ≤ (x8_1 + ((a1.size : Int)))) ∧ Br ((a0.extract ((x8_1).toNat) ((x8_1 + ((a1.size : Int))).toNat)).toList == a1.toList)
  (R (.returned (.int .i64 x8_1)) wl15_1)
  (InK .i64 (x8_1 + 1) ∧ InK .i64 (x10_1 + 1) ∧ ∃ n100_6 : Int, wl15_1.cell? ⟨4, 0, none⟩ = some (.int .i64 n100_6) ∧ Br (decide (((a1.size : Int)) ≤ n100_6))
  (Does Tryz.prog 109 #[.int .i64 (x8_1 + 1)] wl15_1 fun e105_6 w105_6 =>
  ∃ n105_6 : Int, e105_6 = .returned (.int .i64 n105_6) ∧ Br (decide ((x10_1 + 1) > n105_6))
  (((0 : Int) ≤ (x8_1 + 1) ∧ (x8_1 + 1) ≤ (a0.size : Int)) ∧ Does Tryz.prog 108 #[.string (a0.extract ((x8_1 + 1).toNat) a0.size), .string a1] w105_6 fun e112_6 w112_6 =>
  ∃ n112_6 : Int, e112_6 = .returned (.int .i64 n112_6) ∧ Br (decide (n112_6 ≥ 0))
  (InK .i64 (n112_6 + (x8_1 + 1)) ∧ R (.returned (.int .i64 (n112_6 + (x8_1 + 1)))) w112_6)
  (R (.returned (.int .i64 (-1))) w112_6))
  (∃ n119_12 : Int, w105_6.cell? ⟨4, 0, none⟩ = some (.int .i64 n119_12) ∧ Br (decide (((a1.size : Int)) > n119_12))
  ((0 : Int) ≤ 4 ∧ InK .i64 (4 + ((x8_1 + 1).fdiv (2 ^ 4))) ∧ Br (decide ((x10_1 + 1) ≥ (4 + ((x8_1 + 1).fdiv (2 ^ 4)))))
  (Br (decide ((x8_1 + 1) < ((((a0.size : Int)) - ((a1.size : Int))) + 1)))
  (((0 : Int) ≤ (x8_1 + 1) ∧ (x8_1 + 1) ≤ (a0.size : Int)) ∧ Does Tryz.prog 110 #[.string (a0.extract ((x8_1 + 1).toNat) a0.size), .string a1] w105_6 fun e137_12 w137_12 =>
  ∃ n137_12 : Int, e137_12 = .returned (.int .i64 n137_12) ∧ Br (decide (n137_12 < 0))
  (R (.returned (.int .i64 (-1))) w137_12)
  (InK .i64 ((x8_1 + 1) + n137_12) ∧ R (.returned (.int .i64 ((x8_1 + 1) + n137_12))) w137_12))
  (∃ ml15_1, ml15_1 < nl15_1 ∧ I15_1 (x8_1 + 1) (x10_1 + 1) ml15_1 w105_6))
  (∃ ml15_1, ml15_1 < nl15_1 ∧ I15_1 (x8_1 + 1) (x10_1 + 1) ml15_1 w105_6))
  (∃ ml15_1, ml15_1 < nl15_1 ∧ I15_1 (x8_1 + 1) (x10_1 + 1) ml15_1 w105_6)))
  (∃ n119_13 : Int, wl15_1.cell? ⟨4, 0, none⟩ = some (.int .i64 n119_13) ∧ Br (decide (((a1.size : Int)) > n119_13))
  ((0 : Int) ≤ 4 ∧ InK .i64 (4 + ((x8_1 + 1).fdiv (2 ^ 4))) ∧ Br (decide ((x10_1 + 1) ≥ (4 + ((x8_1 + 1).fdiv (2 ^ 4)))))
  (Br (decide ((x8_1 + 1) < ((((a0.size : Int)) - ((a1.size : Int))) + 1)))
  (((0 : Int) ≤ (x8_1 + 1) ∧ (x8_1 + 1) ≤ (a0.size : Int)) ∧ Does Tryz.prog 110 #[.string (a0.extract ((x8_1 + 1).toNat) a0.size), .string a1] wl15_1 fun e137_13 w137_13 =>
  ∃ n137_13 : Int, e137_13 = .returned (.int .i64 n137_13) ∧ Br (decide (n137_13 < 0))
  (R (.returned (.int .i64 (-1))) w137_13)
  (InK .i64 ((x8_1 + 1) + n137_13) ∧ R (.returned (.int .i64 ((x8_1 + 1) + n137_13))) w137_13))
  (∃ ml15_1, ml15_1 < nl15_1 ∧ I15_1 (x8_1 + 1) (x10_1 + 1) ml15_1 wl15_1))
  (∃ ml15_1, ml15_1 < nl15_1 ∧ I15_1 (x8_1 + 1) (x10_1 + 1) ml15_1 wl15_1))
  (∃ ml15_1, ml15_1 < nl15_1 ∧ I15_1 (x8_1 + 1) (x10_1 + 1) ml15_1 wl15_1))))
  (InK .i64 (x8_1 + 1) ∧ InK .i64 (x10_1 + 1) ∧ ∃ n100_7 : Int, wl15_1.cell? ⟨4, 0, none⟩ = some (.int .i64 n100_7) ∧ Br (decide (((a1.size : Int)) ≤ n100_7))
  (Does Tryz.prog 109 #[.int .i64 (x8_1 + 1)] wl15_1 fun e105_7 w105_7 =>
  ∃ n105_7 : Int, e105_7 = .returned (.int .i64 n105_7) ∧ Br (decide ((x10_1 + 1) > n105_7))
  (((0 : Int) ≤ (x8_1 + 1) ∧ (x8_1 + 1) ≤ (a0.size : Int)) ∧ Does Tryz.prog 108 #[.string (a0.extract ((x8_1 + 1).toNat) a0.size), .string a1] w105_7 fun e112_7 w112_7 =>
  ∃ n112_7 : Int, e112_7 = .returned (.int .i64 n112_7) ∧ Br (decide (n112_7 ≥ 0))
  (InK .i64 (n112_7 + (x8_1 + 1)) ∧ R (.returned (.int .i64 (n112_7 + (x8_1 + 1)))) w112_7)
  (R (.returned (.int .i64 (-1))) w112_7))
  (∃ n119_14 : Int, w105_7.cell? ⟨4, 0, none⟩ = some (.int .i64 n119_14) ∧ Br (decide (((a1.size : Int)) > n119_14))
  ((0 : Int) ≤ 4 ∧ InK .i64 (4 + ((x8_1 + 1).fdiv (2 ^ 4))) ∧ Br (decide ((x10_1 + 1) ≥ (4 + ((x8_1 + 1).fdiv (2 ^ 4)))))
  (Br (decide ((x8_1 + 1) < ((((a0.size : Int)) - ((a1.size : Int))) + 1)))
  (((0 : Int) ≤ (x8_1 + 1) ∧ (x8_1 + 1) ≤ (a0.size : Int)) ∧ Does Tryz.prog 110 #[.string (a0.extract ((x8_1 + 1).toNat) a0.size), .string a1] w105_7 fun e137_14 w137_14 =>
  ∃ n137_14 : Int, e137_14 = .returned (.int .i64 n137_14) ∧ Br (decide (n137_14 < 0))
  (R (.returned (.int .i64 (-1))) w137_14)
  (InK .i64 ((x8_1 + 1) + n137_14) ∧ R (.returned (.int .i64 ((x8_1 + 1) + n137_14))) w137_14))
  (∃ ml15_1, ml15_1 < nl15_1 ∧ I15_1 (x8_1 + 1) (x10_1 + 1) ml15_1 w105_7))
  (∃ ml15_1, ml15_1 < nl15_1 ∧ I15_1 (x8_1 + 1) (x10_1 + 1) ml15_1 w105_7))
  (∃ ml15_1, ml15_1 < nl15_1 ∧ I15_1 (x8_1 + 1) (x10_1 + 1) ml15_1 w105_7)))
  (∃ n119_15 : Int, wl15_1.cell? ⟨4, 0, none⟩ = some (.int .i64 n119_15) ∧ Br (decide (((a1.size : Int)) > n119_15))
  ((0 : Int) ≤ 4 ∧ InK .i64 (4 + ((x8_1 + 1).fdiv (2 ^ 4))) ∧ Br (decide ((x10_1 + 1) ≥ (4 + ((x8_1 + 1).fdiv (2 ^ 4)))))
  (Br (decide ((x8_1 + 1) < ((((a0.size : Int)) - ((a1.size : Int))) + 1)))
  (((0 : Int) ≤ (x8_1 + 1) ∧ (x8_1 + 1) ≤ (a0.size : Int)) ∧ Does Tryz.prog 110 #[.string (a0.extract ((x8_1 + 1).toNat) a0.size), .string a1] wl15_1 fun e137_15 w137_15 =>
  ∃ n137_15 : Int, e137_15 = .returned (.int .i64 n137_15) ∧ Br (decide (n137_15 < 0))
  (R (.returned (.int .i64 (-1))) w137_15)
  (InK .i64 ((x8_1 + 1) + n137_15) ∧ R (.returned (.int .i64 ((x8_1 + 1) + n137_15))) w137_15))
  (∃ ml15_1, ml15_1 < nl15_1 ∧ I15_1 (x8_1 + 1) (x10_1 + 1) ml15_1 wl15_1))
  (∃ ml15_1, ml15_1 < nl15_1 ∧ I15_1 (x8_1 + 1) (x10_1 + 1) ml15_1 wl15_1))
  (∃ ml15_1, ml15_1 < nl15_1 ∧ I15_1 (x8_1 + 1) (x10_1 + 1) ml15_1 wl15_1)))))
  (R (.returned (.int .i64 (-1))) wl15_1))))))
def f95_ann : Ann := { loops := [(15, [(8, .int .i64), (10, .int .i64)])], cuts := [], flip := [], throws := [] }
theorem f95_eq (a0 : ByteArray) (a1 : ByteArray) (w : World) (R : Ending → World → Prop) : vc Tryz.prog f95_ann (bodyOf Tryz.f95) (retQ Tryz.prog Tryz.f95 R) (envOf Tryz.f95.ntmps [.v (.string a0), .v (.string a1)]) [] w = f95_vc a0 a1 w R := by kernel_rfl
theorem f95_does (a0 : ByteArray) (a1 : ByteArray) {w : World} {R : Ending → World → Prop} (h : f95_vc a0 a1 w R) : Does Tryz.prog 95 #[.string a0, .string a1] w R :=
  does_of_vc (ss := [.v (.string a0), .v (.string a1)]) f95_ann mixed call95 Tryz.func95 rfl rfl (show 2 ≤ Tryz.f95.ntmps by decide) ((f95_eq a0 a1 w R).symm ▸ h)
/-- Of internal/strconv.atof64 (function 97): the condition. -/
def f97_vc (a0 : ByteArray) (w : World) (R : Ending → World → Prop) : Prop :=
  Does Tryz.prog 111 #[.string a0] w fun e28 w28 =>
  ∃ f28 : Nat, ∃ n28 : Int, ∃ b28 : Bool, e28 = .returned (.tuple #[.float .f64 f28, .int .i64 n28, .bool b28]) ∧ Br b28
  (R (.returned (.tuple #[.float .f64 f28, .int .i64 n28, .nilIface])) w28)
  (Does Tryz.prog 112 #[.string a0] w28 fun e37 w37 =>
  ∃ n37 : Int, ∃ n37_1 : Int, ∃ b37 : Bool, ∃ b37_1 : Bool, ∃ b37_2 : Bool, ∃ n37_2 : Int, ∃ b37_3 : Bool, e37 = .returned (.tuple #[.int .u64 n37, .int .i64 n37_1, .bool b37, .bool b37_1, .bool b37_2, .int .i64 n37_2, .bool b37_3]) ∧ Br (!b37_3)
  (R (.returned (.tuple #[.float .f64 0, .int .i64 n37_2, .iface 90 (.int .i64 2)])) w37)
  (Br b37_2
  (((0 : Int) ≤ n37_2 ∧ n37_2 ≤ (a0.size : Int)) ∧ Does Tryz.prog 113 #[.string (a0.extract 0 ((n37_2).toNat)), .pointer (some ⟨7, 0, none⟩), .int .u64 n37, .int .i64 n37_1, .bool b37, .bool b37_1] w37 fun e58 w58 =>
  ∃ f58 : Nat, ∃ x58 : Value, e58 = .returned (.tuple #[.float .f64 f58, x58]) ∧ R (.returned (.tuple #[.float .f64 f58, .int .i64 n37_2, x58])) w58)
  (∃ b64 : Bool, w37.cell? ⟨6, 0, none⟩ = some (.bool b64) ∧ Br b64
  (Does Tryz.prog 120 #[.bool b37] w37 fun e66 w66 =>
  ∃ n66 : Int, e66 = .returned (.int .u64 n66) ∧ (0 : Int) ≤ 63 ∧ Br (n37 == 0)
  (Does Tryz.prog 121 #[.int .u64 (bits .or .u64 (IntKind.wrap .u64 (n66 * 2 ^ 63)) 0)] w66 fun e72 w72 =>
  ∃ f72 : Nat, e72 = .returned (.float .f64 f72) ∧ R (.returned (.tuple #[.float .f64 f72, .int .i64 n37_2, .nilIface])) w72)
  (Br (decide (n37_1 > 310))
  (Does Tryz.prog 121 #[.int .u64 (bits .or .u64 (IntKind.wrap .u64 (n66 * 2 ^ 63)) 9218868437227405312)] w66 fun e78 w78 =>
  ∃ f78 : Nat, e78 = .returned (.float .f64 f78) ∧ R (.returned (.tuple #[.float .f64 f78, .int .i64 n37_2, .iface 90 (.int .i64 1)])) w78)
  (Br (decide (n37_1 < (-345)))
  (Does Tryz.prog 121 #[.int .u64 (bits .or .u64 (IntKind.wrap .u64 (n66 * 2 ^ 63)) 0)] w66 fun e85 w85 =>
  ∃ f85 : Nat, e85 = .returned (.float .f64 f85) ∧ R (.returned (.tuple #[.float .f64 f85, .int .i64 n37_2, .nilIface])) w85)
  (Br (!b37_1)
  (Does Tryz.prog 122 #[.int .u64 n37, .int .i64 n37_1, .bool b37] w66 fun e93 w93 =>
  ∃ f93 : Nat, ∃ b93 : Bool, e93 = .returned (.tuple #[.float .f64 f93, .bool b93]) ∧ Br b93
  (R (.returned (.tuple #[.float .f64 f93, .int .i64 n37_2, .nilIface])) w93)
  (Does Tryz.prog 123 #[.int .u64 n37, .int .i64 n37_1, .int .u64 (IntKind.wrap .u64 (n66 * 2 ^ 63))] w93 fun e103 w103 =>
  ∃ f103 : Nat, ∃ x103 : Value, e103 = .returned (.tuple #[.float .f64 f103, x103]) ∧ Br (!b37_1)
  (R (.returned (.tuple #[.float .f64 f103, .int .i64 n37_2, x103])) w103)
  (Does Tryz.prog 123 #[.int .u64 (IntKind.wrap .u64 (n37 + 1)), .int .i64 n37_1, .int .u64 (IntKind.wrap .u64 (n66 * 2 ^ 63))] w103 fun e116 w116 =>
  ∃ f116 : Nat, ∃ x116 : Value, e116 = .returned (.tuple #[.float .f64 f116, x116]) ∧ Br ((FloatKind.f64.format.order f103 f116 == some Ordering.eq))
  (R (.returned (.tuple #[.float .f64 f103, .int .i64 n37_2, x103])) w116)
  (∀ b23 w23, NewBlk w116 b23 (List.replicate 800 (.int .u8 0) ++ [.int .i64 0, .int .i64 0, .bool false, .bool false] : List Value) 139 w23 →
  ((0 : Int) ≤ n37_2 ∧ n37_2 ≤ (a0.size : Int)) ∧ Does Tryz.prog 118 #[.pointer (some ⟨b23, 0, none⟩), .string (a0.extract 0 ((n37_2).toNat))] w23 fun e128 w128 =>
  ∃ b128 : Bool, e128 = .returned (.bool b128) ∧ Br (!b128)
  (R (.returned (.tuple #[.float .f64 0, .int .i64 n37_2, .iface 90 (.int .i64 2)])) w128)
  (Does Tryz.prog 119 #[.pointer (some ⟨b23, 0, none⟩), .pointer (some ⟨7, 0, none⟩)] w128 fun e133 w133 =>
  ∃ n133 : Int, ∃ b133 : Bool, e133 = .returned (.tuple #[.int .u64 n133, .bool b133]) ∧ Does Tryz.prog 121 #[.int .u64 n133] w133 fun e137 w137 =>
  ∃ f137 : Nat, e137 = .returned (.float .f64 f137) ∧ Br b133
  (R (.returned (.tuple #[.float .f64 f137, .int .i64 n37_2, .iface 90 (.int .i64 1)])) w137)
  (R (.returned (.tuple #[.float .f64 f137, .int .i64 n37_2, .nilIface])) w137))))))
  (Does Tryz.prog 123 #[.int .u64 n37, .int .i64 n37_1, .int .u64 (IntKind.wrap .u64 (n66 * 2 ^ 63))] w66 fun e103_1 w103_1 =>
  ∃ f103_1 : Nat, ∃ x103_1 : Value, e103_1 = .returned (.tuple #[.float .f64 f103_1, x103_1]) ∧ Br (!b37_1)
  (R (.returned (.tuple #[.float .f64 f103_1, .int .i64 n37_2, x103_1])) w103_1)
  (Does Tryz.prog 123 #[.int .u64 (IntKind.wrap .u64 (n37 + 1)), .int .i64 n37_1, .int .u64 (IntKind.wrap .u64 (n66 * 2 ^ 63))] w103_1 fun e116_1 w116_1 =>
  ∃ f116_1 : Nat, ∃ x116_1 : Value, e116_1 = .returned (.tuple #[.float .f64 f116_1, x116_1]) ∧ Br ((FloatKind.f64.format.order f103_1 f116_1 == some Ordering.eq))
  (R (.returned (.tuple #[.float .f64 f103_1, .int .i64 n37_2, x103_1])) w116_1)
  (∀ b23_1 w23_1, NewBlk w116_1 b23_1 (List.replicate 800 (.int .u8 0) ++ [.int .i64 0, .int .i64 0, .bool false, .bool false] : List Value) 139 w23_1 →
  ((0 : Int) ≤ n37_2 ∧ n37_2 ≤ (a0.size : Int)) ∧ Does Tryz.prog 118 #[.pointer (some ⟨b23_1, 0, none⟩), .string (a0.extract 0 ((n37_2).toNat))] w23_1 fun e128_1 w128_1 =>
  ∃ b128_1 : Bool, e128_1 = .returned (.bool b128_1) ∧ Br (!b128_1)
  (R (.returned (.tuple #[.float .f64 0, .int .i64 n37_2, .iface 90 (.int .i64 2)])) w128_1)
  (Does Tryz.prog 119 #[.pointer (some ⟨b23_1, 0, none⟩), .pointer (some ⟨7, 0, none⟩)] w128_1 fun e133_1 w133_1 =>
  ∃ n133_1 : Int, ∃ b133_1 : Bool, e133_1 = .returned (.tuple #[.int .u64 n133_1, .bool b133_1]) ∧ Does Tryz.prog 121 #[.int .u64 n133_1] w133_1 fun e137_1 w137_1 =>
  ∃ f137_1 : Nat, e137_1 = .returned (.float .f64 f137_1) ∧ Br b133_1
  (R (.returned (.tuple #[.float .f64 f137_1, .int .i64 n37_2, .iface 90 (.int .i64 1)])) w137_1)
  (R (.returned (.tuple #[.float .f64 f137_1, .int .i64 n37_2, .nilIface])) w137_1)))))))))
  (∀ b23_2 w23_2, NewBlk w37 b23_2 (List.replicate 800 (.int .u8 0) ++ [.int .i64 0, .int .i64 0, .bool false, .bool false] : List Value) 139 w23_2 →
  ((0 : Int) ≤ n37_2 ∧ n37_2 ≤ (a0.size : Int)) ∧ Does Tryz.prog 118 #[.pointer (some ⟨b23_2, 0, none⟩), .string (a0.extract 0 ((n37_2).toNat))] w23_2 fun e128_2 w128_2 =>
  ∃ b128_2 : Bool, e128_2 = .returned (.bool b128_2) ∧ Br (!b128_2)
  (R (.returned (.tuple #[.float .f64 0, .int .i64 n37_2, .iface 90 (.int .i64 2)])) w128_2)
  (Does Tryz.prog 119 #[.pointer (some ⟨b23_2, 0, none⟩), .pointer (some ⟨7, 0, none⟩)] w128_2 fun e133_2 w133_2 =>
  ∃ n133_2 : Int, ∃ b133_2 : Bool, e133_2 = .returned (.tuple #[.int .u64 n133_2, .bool b133_2]) ∧ Does Tryz.prog 121 #[.int .u64 n133_2] w133_2 fun e137_2 w137_2 =>
  ∃ f137_2 : Nat, e137_2 = .returned (.float .f64 f137_2) ∧ Br b133_2
  (R (.returned (.tuple #[.float .f64 f137_2, .int .i64 n37_2, .iface 90 (.int .i64 1)])) w137_2)
  (R (.returned (.tuple #[.float .f64 f137_2, .int .i64 n37_2, .nilIface])) w137_2))))))
def f97_ann : Ann := { loops := [], cuts := [], flip := [], throws := [] }
theorem f97_eq (a0 : ByteArray) (w : World) (R : Ending → World → Prop) : vc Tryz.prog f97_ann (bodyOf Tryz.f97) (retQ Tryz.prog Tryz.f97 R) (envOf Tryz.f97.ntmps [.v (.string a0)]) [] w = f97_vc a0 w R := by kernel_rfl
theorem f97_does (a0 : ByteArray) {w : World} {R : Ending → World → Prop} (h : f97_vc a0 w R) : Does Tryz.prog 97 #[.string a0] w R :=
  does_of_vc (ss := [.v (.string a0)]) f97_ann mixed call97 Tryz.func97 rfl rfl (show 1 ≤ Tryz.f97.ntmps by decide) ((f97_eq a0 w R).symm ▸ h)
/-- Of internal/stringslite.Clone (function 98): the condition. -/
def f98_vc (a0 : ByteArray) (w : World) (R : Ending → World → Prop) : Prop :=
  Br (((a0.size : Int)) == 0)
  (R (.returned (.string (({ data := #[] } : ByteArray)))) w)
  (((0 : Int) ≤ ((a0.size : Int)) ∧ ((a0.size : Int)) ≤ ((a0.size : Int)) ∧ ((a0.size : Int)) * ((1 : Nat) : Int) ≤ 140737488355328 ∧ ((a0.size : Int)) ≤ 9223372036854775807) ∧ ∀ b9 w9, NewBlk w b9 (zerosL (.int .u8 0) ((a0.size : Int)).toNat) 5 w9 →
  ∃ (n12 : Int) (w12 : World), (Builtin.copy_ #[50, 9] 3 #[.slice (some ⟨b9, 0, none⟩) (((a0.size : Int)).toNat) (((a0.size : Int)).toNat), .string a0]).run Tryz.prog w9 = .ok (.int .i64 n12) w12 ∧
  ((0 : Int) ≤ 0 ∧ 0 < ((((a0.size : Int)).toNat : Nat) : Int)) ∧ ∃ b14 o14, (some ⟨b9, 0, none⟩ : Option Addr) = some ⟨b14, o14, none⟩ ∧ ∃ (s17 : ByteArray) (w17 : World), (Builtin.unsafeString_ #[107, 3] 9 #[.pointer (some ⟨b14, o14 + (0 : Int).toNat, none⟩), .int .i64 (((((a0.size : Int)).toNat : Nat) : Int))]).run Tryz.prog w12 = .ok (.string s17) w17 ∧
  R (.returned (.string s17)) w17)
def f98_ann : Ann := { loops := [], cuts := [], flip := [], throws := [] }
theorem f98_eq (a0 : ByteArray) (w : World) (R : Ending → World → Prop) : vc Tryz.prog f98_ann (bodyOf Tryz.f98) (retQ Tryz.prog Tryz.f98 R) (envOf Tryz.f98.ntmps [.v (.string a0)]) [] w = f98_vc a0 w R := by kernel_rfl
theorem f98_does (a0 : ByteArray) {w : World} {R : Ending → World → Prop} (h : f98_vc a0 w R) : Does Tryz.prog 98 #[.string a0] w R :=
  does_of_vc (ss := [.v (.string a0)]) f98_ann mixed call98 Tryz.func98 rfl rfl (show 1 ≤ Tryz.f98.ntmps by decide) ((f98_eq a0 w R).symm ▸ h)
/-- Of internal/stringslite.IndexByte (function 107): the condition. -/
def f107_vc (a0 : ByteArray) (a1 : Int) (w : World) (R : Ending → World → Prop) : Prop :=
  Does Tryz.prog 127 #[.string a0, .int .u8 a1] w fun e7 w7 =>
  ∃ n7 : Int, e7 = .returned (.int .i64 n7) ∧ R (.returned (.int .i64 n7)) w7
def f107_ann : Ann := { loops := [], cuts := [], flip := [], throws := [] }
theorem f107_eq (a0 : ByteArray) (a1 : Int) (w : World) (R : Ending → World → Prop) : vc Tryz.prog f107_ann (bodyOf Tryz.f107) (retQ Tryz.prog Tryz.f107 R) (envOf Tryz.f107.ntmps [.v (.string a0), .v (.int .u8 a1)]) [] w = f107_vc a0 a1 w R := by kernel_rfl
theorem f107_does (a0 : ByteArray) (a1 : Int) {w : World} {R : Ending → World → Prop} (h : f107_vc a0 a1 w R) : Does Tryz.prog 107 #[.string a0, .int .u8 a1] w R :=
  does_of_vc (ss := [.v (.string a0), .v (.int .u8 a1)]) f107_ann mixed call107 Tryz.func107 rfl rfl (show 2 ≤ Tryz.f107.ntmps by decide) ((f107_eq a0 a1 w R).symm ▸ h)
/-- Of internal/bytealg.Cutover (function 109): the condition. -/
def f109_vc (a0 : Int) (w : World) (R : Ending → World → Prop) : Prop :=
  InK .i64 (a0 + 16) ∧ (8 : Int) ≠ 0 ∧ InK .i64 ((a0 + 16).tdiv 8) ∧ R (.returned (.int .i64 ((a0 + 16).tdiv 8))) w
def f109_ann : Ann := { loops := [], cuts := [], flip := [], throws := [] }
theorem f109_eq (a0 : Int) (w : World) (R : Ending → World → Prop) : vc Tryz.prog f109_ann (bodyOf Tryz.f109) (retQ Tryz.prog Tryz.f109 R) (envOf Tryz.f109.ntmps [.v (.int .i64 a0)]) [] w = f109_vc a0 w R := by kernel_rfl
theorem f109_does (a0 : Int) {w : World} {R : Ending → World → Prop} (h : f109_vc a0 w R) : Does Tryz.prog 109 #[.int .i64 a0] w R :=
  does_of_vc (ss := [.v (.int .i64 a0)]) f109_ann mixed call109 Tryz.func109 rfl rfl (show 1 ≤ Tryz.f109.ntmps by decide) ((f109_eq a0 w R).symm ▸ h)
/-- Of internal/bytealg.IndexRabinKarp[string] (function 110): the condition. -/
def f110_vc (a0 : ByteArray) (a1 : ByteArray) (w : World) (R : Ending → World → Prop) : Prop :=
  Does Tryz.prog 128 #[.string a1] w fun e13 w13 =>
  ∃ n13 : Int, ∃ n13_1 : Int, e13 = .returned (.tuple #[.int .u32 n13, .int .u32 n13_1]) ∧ ∃ I5 : Int → Int → Nat → World → Prop, (∃ nl5, I5 0 0 nl5 w13) ∧ ∀ x8 : Int, ∀ x9 : Int, ∀ (nl5 : Nat) (wl5 : World), I5 x8 x9 nl5 wl5 →
  Br (decide (x9 < ((a1.size : Int))))
  (((0 : Int) ≤ x9 ∧ x9 < (a0.size : Int)) ∧ InK .i64 (x9 + 1) ∧ ∃ ml5, ml5 < nl5 ∧ I5 (IntKind.wrap .u32 ((IntKind.wrap .u32 (x8 * 16777619)) + (IntKind.wrap .u32 (sb a0 x9)))) (x9 + 1) ml5 wl5)
  (Br (x8 == n13)
  (((0 : Int) ≤ ((a1.size : Int)) ∧ ((a1.size : Int)) ≤ (a0.size : Int)) ∧ Br ((a0.extract 0 (((a1.size : Int)).toNat)).toList == a1.toList)
  (R (.returned (.int .i64 0)) wl5)
  (∃ I11 : Int → Int → Nat → World → Prop, (∃ nl11, I11 x8 ((a1.size : Int)) nl11 wl5) ∧ ∀ x8_1 : Int, ∀ x10 : Int, ∀ (nl11 : Nat) (wl11 : World), I11 x8_1 x10 nl11 wl11 →
  Br (decide (x10 < ((a0.size : Int))))
  (((0 : Int) ≤ x10 ∧ x10 < (a0.size : Int)) ∧ InK .i64 (x10 - ((a1.size : Int))) ∧ ((0 : Int) ≤ (x10 - ((a1.size : Int))) ∧ (x10 - ((a1.size : Int))) < (a0.size : Int)) ∧ InK .i64 (x10 + 1) ∧ Br ((IntKind.wrap .u32 ((IntKind.wrap .u32 ((IntKind.wrap .u32 (x8_1 * 16777619)) + (IntKind.wrap .u32 (sb a0 x10)))) - (IntKind.wrap .u32 (n13_1 * (IntKind.wrap .u32 (sb a0 (x10 - ((a1.size : Int))))))))) == n13)
  (InK .i64 ((x10 + 1) - ((a1.size : Int))) ∧ ((0 : Int) ≤ (x10 + 1) ∧ (x10 + 1) ≤ (a0.size : Int)) ∧ ((0 : Int) ≤ ((x10 + 1) - ((a1.size : Int))) ∧ ((x10 + 1) - ((a1.size : Int))) ≤ (x10 + 1)) ∧ Br ((a0.extract (((x10 + 1) - ((a1.size : Int))).toNat) ((x10 + 1).toNat)).toList == a1.toList)
  (InK .i64 ((x10 + 1) - ((a1.size : Int))) ∧ R (.returned (.int .i64 ((x10 + 1) - ((a1.size : Int))))) wl11)
  (∃ ml11, ml11 < nl11 ∧ I11 (IntKind.wrap .u32 ((IntKind.wrap .u32 ((IntKind.wrap .u32 (x8_1 * 16777619)) + (IntKind.wrap .u32 (sb a0 x10)))) - (IntKind.wrap .u32 (n13_1 * (IntKind.wrap .u32 (sb a0 (x10 - ((a1.size : Int))))))))) (x10 + 1) ml11 wl11))
  (∃ ml11, ml11 < nl11 ∧ I11 (IntKind.wrap .u32 ((IntKind.wrap .u32 ((IntKind.wrap .u32 (x8_1 * 16777619)) + (IntKind.wrap .u32 (sb a0 x10)))) - (IntKind.wrap .u32 (n13_1 * (IntKind.wrap .u32 (sb a0 (x10 - ((a1.size : Int))))))))) (x10 + 1) ml11 wl11))
  (R (.returned (.int .i64 (-1))) wl11)))
  (∃ I11_1 : Int → Int → Nat → World → Prop, (∃ nl11_1, I11_1 x8 ((a1.size : Int)) nl11_1 wl5) ∧ ∀ x8_2 : Int, ∀ x10_1 : Int, ∀ (nl11_1 : Nat) (wl11_1 : World), I11_1 x8_2 x10_1 nl11_1 wl11_1 →
  Br (decide (x10_1 < ((a0.size : Int))))
  (((0 : Int) ≤ x10_1 ∧ x10_1 < (a0.size : Int)) ∧ InK .i64 (x10_1 - ((a1.size : Int))) ∧ ((0 : Int) ≤ (x10_1 - ((a1.size : Int))) ∧ (x10_1 - ((a1.size : Int))) < (a0.size : Int)) ∧ InK .i64 (x10_1 + 1) ∧ Br ((IntKind.wrap .u32 ((IntKind.wrap .u32 ((IntKind.wrap .u32 (x8_2 * 16777619)) + (IntKind.wrap .u32 (sb a0 x10_1)))) - (IntKind.wrap .u32 (n13_1 * (IntKind.wrap .u32 (sb a0 (x10_1 - ((a1.size : Int))))))))) == n13)
  (InK .i64 ((x10_1 + 1) - ((a1.size : Int))) ∧ ((0 : Int) ≤ (x10_1 + 1) ∧ (x10_1 + 1) ≤ (a0.size : Int)) ∧ ((0 : Int) ≤ ((x10_1 + 1) - ((a1.size : Int))) ∧ ((x10_1 + 1) - ((a1.size : Int))) ≤ (x10_1 + 1)) ∧ Br ((a0.extract (((x10_1 + 1) - ((a1.size : Int))).toNat) ((x10_1 + 1).toNat)).toList == a1.toList)
  (InK .i64 ((x10_1 + 1) - ((a1.size : Int))) ∧ R (.returned (.int .i64 ((x10_1 + 1) - ((a1.size : Int))))) wl11_1)
  (∃ ml11_1, ml11_1 < nl11_1 ∧ I11_1 (IntKind.wrap .u32 ((IntKind.wrap .u32 ((IntKind.wrap .u32 (x8_2 * 16777619)) + (IntKind.wrap .u32 (sb a0 x10_1)))) - (IntKind.wrap .u32 (n13_1 * (IntKind.wrap .u32 (sb a0 (x10_1 - ((a1.size : Int))))))))) (x10_1 + 1) ml11_1 wl11_1))
  (∃ ml11_1, ml11_1 < nl11_1 ∧ I11_1 (IntKind.wrap .u32 ((IntKind.wrap .u32 ((IntKind.wrap .u32 (x8_2 * 16777619)) + (IntKind.wrap .u32 (sb a0 x10_1)))) - (IntKind.wrap .u32 (n13_1 * (IntKind.wrap .u32 (sb a0 (x10_1 - ((a1.size : Int))))))))) (x10_1 + 1) ml11_1 wl11_1))
  (R (.returned (.int .i64 (-1))) wl11_1)))
def f110_ann : Ann := { loops := [(5, [(8, .int .u32), (9, .int .i64)]), (11, [(8, .int .u32), (10, .int .i64)])], cuts := [], flip := [], throws := [] }
theorem f110_eq (a0 : ByteArray) (a1 : ByteArray) (w : World) (R : Ending → World → Prop) : vc Tryz.prog f110_ann (bodyOf Tryz.f110) (retQ Tryz.prog Tryz.f110 R) (envOf Tryz.f110.ntmps [.v (.string a0), .v (.string a1)]) [] w = f110_vc a0 a1 w R := by kernel_rfl
theorem f110_does (a0 : ByteArray) (a1 : ByteArray) {w : World} {R : Ending → World → Prop} (h : f110_vc a0 a1 w R) : Does Tryz.prog 110 #[.string a0, .string a1] w R :=
  does_of_vc (ss := [.v (.string a0), .v (.string a1)]) f110_ann mixed call110 Tryz.func110 rfl rfl (show 2 ≤ Tryz.f110.ntmps by decide) ((f110_eq a0 a1 w R).symm ▸ h)
/-- Of internal/strconv.special (function 111): the condition. -/
def f111_vc (a0 : ByteArray) (w : World) (R : Ending → World → Prop) : Prop :=
  Br (((a0.size : Int)) == 0)
  (R (.returned (.tuple #[.float .f64 0, .int .i64 0, .bool false])) w)
  (((0 : Int) ≤ 0 ∧ 0 < (a0.size : Int)) ∧ Br ((sb a0 0) == 43)
  (((0 : Int) ≤ 0 ∧ 0 < (a0.size : Int)) ∧ Br ((sb a0 0) == 45)
  (((0 : Int) ≤ 1 ∧ 1 ≤ (a0.size : Int)) ∧ Does Tryz.prog 129 #[.string (a0.extract ((1 : Int).toNat) a0.size), .string (({ data := #[105, 110, 102, 105, 110, 105, 116, 121] } : ByteArray))] w fun e28 w28 =>
  ∃ n28 : Int, e28 = .returned (.int .i64 n28) ∧ Br (decide ((3 : Int) < n28))
  (Br (decide (n28 < 8))
  (Br ((3 : Int) == 3)
  (Does Tryz.prog 130 #[.int .i64 (-1)] w28 fun e42 w42 =>
  ∃ f42 : Nat, e42 = .returned (.float .f64 f42) ∧ InK .i64 (1 + 3) ∧ R (.returned (.tuple #[.float .f64 f42, .int .i64 (1 + 3), .bool true])) w42)
  (Br ((3 : Int) == 8)
  (Does Tryz.prog 130 #[.int .i64 (-1)] w28 fun e42_1 w42_1 =>
  ∃ f42_1 : Nat, e42_1 = .returned (.float .f64 f42_1) ∧ InK .i64 (1 + 3) ∧ R (.returned (.tuple #[.float .f64 f42_1, .int .i64 (1 + 3), .bool true])) w42_1)
  (R (.returned (.tuple #[.float .f64 0, .int .i64 0, .bool false])) w28)))
  (Br (n28 == 3)
  (Does Tryz.prog 130 #[.int .i64 (-1)] w28 fun e42_2 w42_2 =>
  ∃ f42_2 : Nat, e42_2 = .returned (.float .f64 f42_2) ∧ InK .i64 (1 + n28) ∧ R (.returned (.tuple #[.float .f64 f42_2, .int .i64 (1 + n28), .bool true])) w42_2)
  (Br (n28 == 8)
  (Does Tryz.prog 130 #[.int .i64 (-1)] w28 fun e42_3 w42_3 =>
  ∃ f42_3 : Nat, e42_3 = .returned (.float .f64 f42_3) ∧ InK .i64 (1 + n28) ∧ R (.returned (.tuple #[.float .f64 f42_3, .int .i64 (1 + n28), .bool true])) w42_3)
  (R (.returned (.tuple #[.float .f64 0, .int .i64 0, .bool false])) w28))))
  (Br (n28 == 3)
  (Does Tryz.prog 130 #[.int .i64 (-1)] w28 fun e42_4 w42_4 =>
  ∃ f42_4 : Nat, e42_4 = .returned (.float .f64 f42_4) ∧ InK .i64 (1 + n28) ∧ R (.returned (.tuple #[.float .f64 f42_4, .int .i64 (1 + n28), .bool true])) w42_4)
  (Br (n28 == 8)
  (Does Tryz.prog 130 #[.int .i64 (-1)] w28 fun e42_5 w42_5 =>
  ∃ f42_5 : Nat, e42_5 = .returned (.float .f64 f42_5) ∧ InK .i64 (1 + n28) ∧ R (.returned (.tuple #[.float .f64 f42_5, .int .i64 (1 + n28), .bool true])) w42_5)
  (R (.returned (.tuple #[.float .f64 0, .int .i64 0, .bool false])) w28))))
  (((0 : Int) ≤ 1 ∧ 1 ≤ (a0.size : Int)) ∧ Does Tryz.prog 129 #[.string (a0.extract ((1 : Int).toNat) a0.size), .string (({ data := #[105, 110, 102, 105, 110, 105, 116, 121] } : ByteArray))] w fun e28_1 w28_1 =>
  ∃ n28_1 : Int, e28_1 = .returned (.int .i64 n28_1) ∧ Br (decide ((3 : Int) < n28_1))
  (Br (decide (n28_1 < 8))
  (Br ((3 : Int) == 3)
  (Does Tryz.prog 130 #[.int .i64 1] w28_1 fun e42_6 w42_6 =>
  ∃ f42_6 : Nat, e42_6 = .returned (.float .f64 f42_6) ∧ InK .i64 (1 + 3) ∧ R (.returned (.tuple #[.float .f64 f42_6, .int .i64 (1 + 3), .bool true])) w42_6)
  (Br ((3 : Int) == 8)
  (Does Tryz.prog 130 #[.int .i64 1] w28_1 fun e42_7 w42_7 =>
  ∃ f42_7 : Nat, e42_7 = .returned (.float .f64 f42_7) ∧ InK .i64 (1 + 3) ∧ R (.returned (.tuple #[.float .f64 f42_7, .int .i64 (1 + 3), .bool true])) w42_7)
  (R (.returned (.tuple #[.float .f64 0, .int .i64 0, .bool false])) w28_1)))
  (Br (n28_1 == 3)
  (Does Tryz.prog 130 #[.int .i64 1] w28_1 fun e42_8 w42_8 =>
  ∃ f42_8 : Nat, e42_8 = .returned (.float .f64 f42_8) ∧ InK .i64 (1 + n28_1) ∧ R (.returned (.tuple #[.float .f64 f42_8, .int .i64 (1 + n28_1), .bool true])) w42_8)
  (Br (n28_1 == 8)
  (Does Tryz.prog 130 #[.int .i64 1] w28_1 fun e42_9 w42_9 =>
  ∃ f42_9 : Nat, e42_9 = .returned (.float .f64 f42_9) ∧ InK .i64 (1 + n28_1) ∧ R (.returned (.tuple #[.float .f64 f42_9, .int .i64 (1 + n28_1), .bool true])) w42_9)
  (R (.returned (.tuple #[.float .f64 0, .int .i64 0, .bool false])) w28_1))))
  (Br (n28_1 == 3)
  (Does Tryz.prog 130 #[.int .i64 1] w28_1 fun e42_10 w42_10 =>
  ∃ f42_10 : Nat, e42_10 = .returned (.float .f64 f42_10) ∧ InK .i64 (1 + n28_1) ∧ R (.returned (.tuple #[.float .f64 f42_10, .int .i64 (1 + n28_1), .bool true])) w42_10)
  (Br (n28_1 == 8)
  (Does Tryz.prog 130 #[.int .i64 1] w28_1 fun e42_11 w42_11 =>
  ∃ f42_11 : Nat, e42_11 = .returned (.float .f64 f42_11) ∧ InK .i64 (1 + n28_1) ∧ R (.returned (.tuple #[.float .f64 f42_11, .int .i64 (1 + n28_1), .bool true])) w42_11)
  (R (.returned (.tuple #[.float .f64 0, .int .i64 0, .bool false])) w28_1)))))
  (Br ((sb a0 0) == 45)
  (((0 : Int) ≤ 0 ∧ 0 < (a0.size : Int)) ∧ Br ((sb a0 0) == 45)
  (((0 : Int) ≤ 1 ∧ 1 ≤ (a0.size : Int)) ∧ Does Tryz.prog 129 #[.string (a0.extract ((1 : Int).toNat) a0.size), .string (({ data := #[105, 110, 102, 105, 110, 105, 116, 121] } : ByteArray))] w fun e28_2 w28_2 =>
  ∃ n28_2 : Int, e28_2 = .returned (.int .i64 n28_2) ∧ Br (decide ((3 : Int) < n28_2))
  (Br (decide (n28_2 < 8))
  (Br ((3 : Int) == 3)
  (Does Tryz.prog 130 #[.int .i64 (-1)] w28_2 fun e42_12 w42_12 =>
  ∃ f42_12 : Nat, e42_12 = .returned (.float .f64 f42_12) ∧ InK .i64 (1 + 3) ∧ R (.returned (.tuple #[.float .f64 f42_12, .int .i64 (1 + 3), .bool true])) w42_12)
  (Br ((3 : Int) == 8)
  (Does Tryz.prog 130 #[.int .i64 (-1)] w28_2 fun e42_13 w42_13 =>
  ∃ f42_13 : Nat, e42_13 = .returned (.float .f64 f42_13) ∧ InK .i64 (1 + 3) ∧ R (.returned (.tuple #[.float .f64 f42_13, .int .i64 (1 + 3), .bool true])) w42_13)
  (R (.returned (.tuple #[.float .f64 0, .int .i64 0, .bool false])) w28_2)))
  (Br (n28_2 == 3)
  (Does Tryz.prog 130 #[.int .i64 (-1)] w28_2 fun e42_14 w42_14 =>
  ∃ f42_14 : Nat, e42_14 = .returned (.float .f64 f42_14) ∧ InK .i64 (1 + n28_2) ∧ R (.returned (.tuple #[.float .f64 f42_14, .int .i64 (1 + n28_2), .bool true])) w42_14)
  (Br (n28_2 == 8)
  (Does Tryz.prog 130 #[.int .i64 (-1)] w28_2 fun e42_15 w42_15 =>
  ∃ f42_15 : Nat, e42_15 = .returned (.float .f64 f42_15) ∧ InK .i64 (1 + n28_2) ∧ R (.returned (.tuple #[.float .f64 f42_15, .int .i64 (1 + n28_2), .bool true])) w42_15)
  (R (.returned (.tuple #[.float .f64 0, .int .i64 0, .bool false])) w28_2))))
  (Br (n28_2 == 3)
  (Does Tryz.prog 130 #[.int .i64 (-1)] w28_2 fun e42_16 w42_16 =>
  ∃ f42_16 : Nat, e42_16 = .returned (.float .f64 f42_16) ∧ InK .i64 (1 + n28_2) ∧ R (.returned (.tuple #[.float .f64 f42_16, .int .i64 (1 + n28_2), .bool true])) w42_16)
  (Br (n28_2 == 8)
  (Does Tryz.prog 130 #[.int .i64 (-1)] w28_2 fun e42_17 w42_17 =>
  ∃ f42_17 : Nat, e42_17 = .returned (.float .f64 f42_17) ∧ InK .i64 (1 + n28_2) ∧ R (.returned (.tuple #[.float .f64 f42_17, .int .i64 (1 + n28_2), .bool true])) w42_17)
  (R (.returned (.tuple #[.float .f64 0, .int .i64 0, .bool false])) w28_2))))
  (((0 : Int) ≤ 1 ∧ 1 ≤ (a0.size : Int)) ∧ Does Tryz.prog 129 #[.string (a0.extract ((1 : Int).toNat) a0.size), .string (({ data := #[105, 110, 102, 105, 110, 105, 116, 121] } : ByteArray))] w fun e28_3 w28_3 =>
  ∃ n28_3 : Int, e28_3 = .returned (.int .i64 n28_3) ∧ Br (decide ((3 : Int) < n28_3))
  (Br (decide (n28_3 < 8))
  (Br ((3 : Int) == 3)
  (Does Tryz.prog 130 #[.int .i64 1] w28_3 fun e42_18 w42_18 =>
  ∃ f42_18 : Nat, e42_18 = .returned (.float .f64 f42_18) ∧ InK .i64 (1 + 3) ∧ R (.returned (.tuple #[.float .f64 f42_18, .int .i64 (1 + 3), .bool true])) w42_18)
  (Br ((3 : Int) == 8)
  (Does Tryz.prog 130 #[.int .i64 1] w28_3 fun e42_19 w42_19 =>
  ∃ f42_19 : Nat, e42_19 = .returned (.float .f64 f42_19) ∧ InK .i64 (1 + 3) ∧ R (.returned (.tuple #[.float .f64 f42_19, .int .i64 (1 + 3), .bool true])) w42_19)
  (R (.returned (.tuple #[.float .f64 0, .int .i64 0, .bool false])) w28_3)))
  (Br (n28_3 == 3)
  (Does Tryz.prog 130 #[.int .i64 1] w28_3 fun e42_20 w42_20 =>
  ∃ f42_20 : Nat, e42_20 = .returned (.float .f64 f42_20) ∧ InK .i64 (1 + n28_3) ∧ R (.returned (.tuple #[.float .f64 f42_20, .int .i64 (1 + n28_3), .bool true])) w42_20)
  (Br (n28_3 == 8)
  (Does Tryz.prog 130 #[.int .i64 1] w28_3 fun e42_21 w42_21 =>
  ∃ f42_21 : Nat, e42_21 = .returned (.float .f64 f42_21) ∧ InK .i64 (1 + n28_3) ∧ R (.returned (.tuple #[.float .f64 f42_21, .int .i64 (1 + n28_3), .bool true])) w42_21)
  (R (.returned (.tuple #[.float .f64 0, .int .i64 0, .bool false])) w28_3))))
  (Br (n28_3 == 3)
  (Does Tryz.prog 130 #[.int .i64 1] w28_3 fun e42_22 w42_22 =>
  ∃ f42_22 : Nat, e42_22 = .returned (.float .f64 f42_22) ∧ InK .i64 (1 + n28_3) ∧ R (.returned (.tuple #[.float .f64 f42_22, .int .i64 (1 + n28_3), .bool true])) w42_22)
  (Br (n28_3 == 8)
  (Does Tryz.prog 130 #[.int .i64 1] w28_3 fun e42_23 w42_23 =>
  ∃ f42_23 : Nat, e42_23 = .returned (.float .f64 f42_23) ∧ InK .i64 (1 + n28_3) ∧ R (.returned (.tuple #[.float .f64 f42_23, .int .i64 (1 + n28_3), .bool true])) w42_23)
  (R (.returned (.tuple #[.float .f64 0, .int .i64 0, .bool false])) w28_3)))))
  (Br ((sb a0 0) == 105)
  (Does Tryz.prog 129 #[.string a0, .string (({ data := #[105, 110, 102, 105, 110, 105, 116, 121] } : ByteArray))] w fun e28_4 w28_4 =>
  ∃ n28_4 : Int, e28_4 = .returned (.int .i64 n28_4) ∧ Br (decide ((3 : Int) < n28_4))
  (Br (decide (n28_4 < 8))
  (Br ((3 : Int) == 3)
  (Does Tryz.prog 130 #[.int .i64 1] w28_4 fun e42_24 w42_24 =>
  ∃ f42_24 : Nat, e42_24 = .returned (.float .f64 f42_24) ∧ InK .i64 (0 + 3) ∧ R (.returned (.tuple #[.float .f64 f42_24, .int .i64 (0 + 3), .bool true])) w42_24)
  (Br ((3 : Int) == 8)
  (Does Tryz.prog 130 #[.int .i64 1] w28_4 fun e42_25 w42_25 =>
  ∃ f42_25 : Nat, e42_25 = .returned (.float .f64 f42_25) ∧ InK .i64 (0 + 3) ∧ R (.returned (.tuple #[.float .f64 f42_25, .int .i64 (0 + 3), .bool true])) w42_25)
  (R (.returned (.tuple #[.float .f64 0, .int .i64 0, .bool false])) w28_4)))
  (Br (n28_4 == 3)
  (Does Tryz.prog 130 #[.int .i64 1] w28_4 fun e42_26 w42_26 =>
  ∃ f42_26 : Nat, e42_26 = .returned (.float .f64 f42_26) ∧ InK .i64 (0 + n28_4) ∧ R (.returned (.tuple #[.float .f64 f42_26, .int .i64 (0 + n28_4), .bool true])) w42_26)
  (Br (n28_4 == 8)
  (Does Tryz.prog 130 #[.int .i64 1] w28_4 fun e42_27 w42_27 =>
  ∃ f42_27 : Nat, e42_27 = .returned (.float .f64 f42_27) ∧ InK .i64 (0 + n28_4) ∧ R (.returned (.tuple #[.float .f64 f42_27, .int .i64 (0 + n28_4), .bool true])) w42_27)
  (R (.returned (.tuple #[.float .f64 0, .int .i64 0, .bool false])) w28_4))))
  (Br (n28_4 == 3)
  (Does Tryz.prog 130 #[.int .i64 1] w28_4 fun e42_28 w42_28 =>
  ∃ f42_28 : Nat, e42_28 = .returned (.float .f64 f42_28) ∧ InK .i64 (0 + n28_4) ∧ R (.returned (.tuple #[.float .f64 f42_28, .int .i64 (0 + n28_4), .bool true])) w42_28)
  (Br (n28_4 == 8)
  (Does Tryz.prog 130 #[.int .i64 1] w28_4 fun e42_29 w42_29 =>
  ∃ f42_29 : Nat, e42_29 = .returned (.float .f64 f42_29) ∧ InK .i64 (0 + n28_4) ∧ R (.returned (.tuple #[.float .f64 f42_29, .int .i64 (0 + n28_4), .bool true])) w42_29)
  (R (.returned (.tuple #[.float .f64 0, .int .i64 0, .bool false])) w28_4))))
  (Br ((sb a0 0) == 73)
  (Does Tryz.prog 129 #[.string a0, .string (({ data := #[105, 110, 102, 105, 110, 105, 116, 121] } : ByteArray))] w fun e28_5 w28_5 =>
  ∃ n28_5 : Int, e28_5 = .returned (.int .i64 n28_5) ∧ Br (decide ((3 : Int) < n28_5))
  (Br (decide (n28_5 < 8))
  (Br ((3 : Int) == 3)
  (Does Tryz.prog 130 #[.int .i64 1] w28_5 fun e42_30 w42_30 =>
  ∃ f42_30 : Nat, e42_30 = .returned (.float .f64 f42_30) ∧ InK .i64 (0 + 3) ∧ R (.returned (.tuple #[.float .f64 f42_30, .int .i64 (0 + 3), .bool true])) w42_30)
  (Br ((3 : Int) == 8)
  (Does Tryz.prog 130 #[.int .i64 1] w28_5 fun e42_31 w42_31 =>
  ∃ f42_31 : Nat, e42_31 = .returned (.float .f64 f42_31) ∧ InK .i64 (0 + 3) ∧ R (.returned (.tuple #[.float .f64 f42_31, .int .i64 (0 + 3), .bool true])) w42_31)
  (R (.returned (.tuple #[.float .f64 0, .int .i64 0, .bool false])) w28_5)))
  (Br (n28_5 == 3)
  (Does Tryz.prog 130 #[.int .i64 1] w28_5 fun e42_32 w42_32 =>
  ∃ f42_32 : Nat, e42_32 = .returned (.float .f64 f42_32) ∧ InK .i64 (0 + n28_5) ∧ R (.returned (.tuple #[.float .f64 f42_32, .int .i64 (0 + n28_5), .bool true])) w42_32)
  (Br (n28_5 == 8)
  (Does Tryz.prog 130 #[.int .i64 1] w28_5 fun e42_33 w42_33 =>
  ∃ f42_33 : Nat, e42_33 = .returned (.float .f64 f42_33) ∧ InK .i64 (0 + n28_5) ∧ R (.returned (.tuple #[.float .f64 f42_33, .int .i64 (0 + n28_5), .bool true])) w42_33)
  (R (.returned (.tuple #[.float .f64 0, .int .i64 0, .bool false])) w28_5))))
  (Br (n28_5 == 3)
  (Does Tryz.prog 130 #[.int .i64 1] w28_5 fun e42_34 w42_34 =>
  ∃ f42_34 : Nat, e42_34 = .returned (.float .f64 f42_34) ∧ InK .i64 (0 + n28_5) ∧ R (.returned (.tuple #[.float .f64 f42_34, .int .i64 (0 + n28_5), .bool true])) w42_34)
  (Br (n28_5 == 8)
  (Does Tryz.prog 130 #[.int .i64 1] w28_5 fun e42_35 w42_35 =>
  ∃ f42_35 : Nat, e42_35 = .returned (.float .f64 f42_35) ∧ InK .i64 (0 + n28_5) ∧ R (.returned (.tuple #[.float .f64 f42_35, .int .i64 (0 + n28_5), .bool true])) w42_35)
  (R (.returned (.tuple #[.float .f64 0, .int .i64 0, .bool false])) w28_5))))
  (Br ((sb a0 0) == 110)
  (Does Tryz.prog 129 #[.string a0, .string (({ data := #[110, 97, 110] } : ByteArray))] w fun e47 w47 =>
  ∃ n47 : Int, e47 = .returned (.int .i64 n47) ∧ Br (n47 == 3)
  (Does Tryz.prog 131 #[] w47 fun e49 w49 =>
  ∃ f49 : Nat, e49 = .returned (.float .f64 f49) ∧ R (.returned (.tuple #[.float .f64 f49, .int .i64 3, .bool true])) w49)
  (R (.returned (.tuple #[.float .f64 0, .int .i64 0, .bool false])) w47))
  (Br ((sb a0 0) == 78)
  (Does Tryz.prog 129 #[.string a0, .string (({ data := #[110, 97, 110] } : ByteArray))] w fun e47_1 w47_1 =>
  ∃ n47_1 : Int, e47_1 = .returned (.int .i64 n47_1) ∧ Br (n47_1 == 3)
  (Does Tryz.prog 131 #[] w47_1 fun e49_1 w49_1 =>
  ∃ f49_1 : Nat, e49_1 = .returned (.float .f64 f49_1) ∧ R (.returned (.tuple #[.float .f64 f49_1, .int .i64 3, .bool true])) w49_1)
  (R (.returned (.tuple #[.float .f64 0, .int .i64 0, .bool false])) w47_1))
  (R (.returned (.tuple #[.float .f64 0, .int .i64 0, .bool false])) w)))))))
def f111_ann : Ann := { loops := [], cuts := [], flip := [], throws := [] }
theorem f111_eq (a0 : ByteArray) (w : World) (R : Ending → World → Prop) : vc Tryz.prog f111_ann (bodyOf Tryz.f111) (retQ Tryz.prog Tryz.f111 R) (envOf Tryz.f111.ntmps [.v (.string a0)]) [] w = f111_vc a0 w R := by kernel_rfl
theorem f111_does (a0 : ByteArray) {w : World} {R : Ending → World → Prop} (h : f111_vc a0 w R) : Does Tryz.prog 111 #[.string a0] w R :=
  does_of_vc (ss := [.v (.string a0)]) f111_ann mixed call111 Tryz.func111 rfl rfl (show 1 ≤ Tryz.f111.ntmps by decide) ((f111_eq a0 w R).symm ▸ h)
/-- Of internal/strconv.readFloat (function 112): the condition. -/
def f112_vc (a0 : ByteArray) (w : World) (R : Ending → World → Prop) : Prop :=
  Br (decide ((0 : Int) ≥ ((a0.size : Int))))
  (R (.returned (.tuple #[.int .u64 0, .int .i64 0, .bool false, .bool false, .bool false, .int .i64 0, .bool false])) w)
  (∃ J9 : Bool → Int → Nat → World → Prop, (((0 : Int) ≤ 0 ∧ 0 < (a0.size : Int)) ∧ Br ((sb a0 0) == 43)
  (InK .i64 (0 + 1) ∧ ∃ nc9, J9 false (0 + 1) nc9 w)
  (Br ((sb a0 0) == 45)
  (InK .i64 (0 + 1) ∧ ∃ nc9, J9 true (0 + 1) nc9 w)
  (∃ nc9, J9 false 0 nc9 w))) ∧ ∀ b4 : Bool, ∀ x7 : Int, ∀ (nc9 : Nat) (wc9 : World), J9 b4 x7 nc9 wc9 →
  ∃ J18 : Bool → Int → Int → Int → Int → Nat → World → Prop, (InK .i64 (x7 + 2) ∧ Br (decide ((x7 + 2) < ((a0.size : Int))))
  (((0 : Int) ≤ x7 ∧ x7 < (a0.size : Int)) ∧ Br ((sb a0 x7) == 48)
  (InK .i64 (x7 + 1) ∧ ((0 : Int) ≤ (x7 + 1) ∧ (x7 + 1) < (a0.size : Int)) ∧ Does Tryz.prog 132 #[.int .u8 (sb a0 (x7 + 1))] wc9 fun e52 w52 =>
  ∃ n52 : Int, e52 = .returned (.int .u8 n52) ∧ Br (n52 == 120)
  (InK .i64 (x7 + 2) ∧ ∃ nc18, J18 true (x7 + 2) 16 16 112 nc18 w52)
  (∃ nc18, J18 false x7 10 19 101 nc18 w52))
  (∃ nc18, J18 false x7 10 19 101 nc18 wc9))
  (∃ nc18, J18 false x7 10 19 101 nc18 wc9)) ∧ ∀ b6 : Bool, ∀ x7_1 : Int, ∀ x10 : Int, ∀ x11 : Int, ∀ x12 : Int, ∀ (nc18 : Nat) (wc18 : World), J18 b6 x7_1 x10 x11 x12 nc18 wc18 →
  ∃ J51 : Int → Bool → Int → Bool → Bool → Bool → Int → Int → Int → Nat → World → Prop, (∃ I23 : Int → Bool → Int → Bool → Bool → Bool → Int → Int → Int → Nat → World → Prop, (∃ nl23, I23 0 false x7_1 false false false 0 0 0 nl23 wc18) ∧ ∀ x2 : Int, ∀ b5 : Bool, ∀ x7_2 : Int, ∀ b9 : Bool, ∀ b13 : Bool, ∀ b14 : Bool, ∀ x15 : Int, ∀ x16 : Int, ∀ x17 : Int, ∀ (nl23 : Nat) (wl23 : World), I23 x2 b5 x7_2 b9 b13 b14 x15 x16 x17 nl23 wl23 →
  Br (decide (x7_2 < ((a0.size : Int))))
  (∃ J24 : Int → Bool → Bool → Bool → Bool → Int → Int → Int → Nat → World → Prop, (((0 : Int) ≤ x7_2 ∧ x7_2 < (a0.size : Int)) ∧ Br (true == ((sb a0 x7_2) == 95))
  (∃ nc24, J24 x2 b5 true b13 b14 x15 x16 x17 nc24 wl23)
  (Br (true == ((sb a0 x7_2) == 46))
  (Br b13
  (∃ nc51, J51 x2 b5 x7_2 b9 b13 b14 x15 x16 x17 nc51 wl23)
  (∃ nc24, J24 x2 b5 b9 true b14 x15 x16 x15 nc24 wl23))
  (Br (decide ((48 : Int) ≤ (sb a0 x7_2)))
  (Br (true == (decide ((sb a0 x7_2) ≤ 57)))
  (Br ((sb a0 x7_2) == 48)
  (Br (x15 == 0)
  (InK .i64 (x17 - 1) ∧ ∃ nc24, J24 x2 b5 b9 b13 true x15 x16 (x17 - 1) nc24 wl23)
  (InK .i64 (x15 + 1) ∧ Br (decide (x16 < x11))
  (InK .i64 (x16 + 1) ∧ ∃ nc24, J24 (IntKind.wrap .u64 ((IntKind.wrap .u64 (x2 * x10)) + (IntKind.wrap .u64 (IntKind.wrap .u8 ((sb a0 x7_2) - 48))))) b5 b9 b13 true (x15 + 1) (x16 + 1) x17 nc24 wl23)
  (Br ((sb a0 x7_2) != 48)
  (∃ nc24, J24 x2 true b9 b13 true (x15 + 1) x16 x17 nc24 wl23)
  (∃ nc24, J24 x2 b5 b9 b13 true (x15 + 1) x16 x17 nc24 wl23))))
  (InK .i64 (x15 + 1) ∧ Br (decide (x16 < x11))
  (InK .i64 (x16 + 1) ∧ ∃ nc24, J24 (IntKind.wrap .u64 ((IntKind.wrap .u64 (x2 * x10)) + (IntKind.wrap .u64 (IntKind.wrap .u8 ((sb a0 x7_2) - 48))))) b5 b9 b13 true (x15 + 1) (x16 + 1) x17 nc24 wl23)
  (Br ((sb a0 x7_2) != 48)
  (∃ nc24, J24 x2 true b9 b13 true (x15 + 1) x16 x17 nc24 wl23)
  (∃ nc24, J24 x2 b5 b9 b13 true (x15 + 1) x16 x17 nc24 wl23))))
  (Br (x10 == 16)
  (Does Tryz.prog 132 #[.int .u8 (sb a0 x7_2)] wl23 fun e114 w114 =>
  ∃ n114 : Int, e114 = .returned (.int .u8 n114) ∧ Br (decide ((97 : Int) ≤ n114))
  (Does Tryz.prog 132 #[.int .u8 (sb a0 x7_2)] w114 fun e119 w119 =>
  ∃ n119 : Int, e119 = .returned (.int .u8 n119) ∧ Br (true == (decide (n119 ≤ 102)))
  (InK .i64 (x15 + 1) ∧ Br (decide (x16 < x11))
  (Does Tryz.prog 132 #[.int .u8 (sb a0 x7_2)] w119 fun e132 w132 =>
  ∃ n132 : Int, e132 = .returned (.int .u8 n132) ∧ InK .i64 (x16 + 1) ∧ ∃ nc24, J24 (IntKind.wrap .u64 ((IntKind.wrap .u64 (x2 * 16)) + (IntKind.wrap .u64 (IntKind.wrap .u8 ((IntKind.wrap .u8 (n132 - 97)) + 10))))) b5 b9 b13 true (x15 + 1) (x16 + 1) x17 nc24 w132)
  (∃ nc24, J24 x2 true b9 b13 true (x15 + 1) x16 x17 nc24 w119))
  (∃ nc51, J51 x2 b5 x7_2 b9 b13 b14 x15 x16 x17 nc51 w119))
  (Br (true == false)
  (InK .i64 (x15 + 1) ∧ Br (decide (x16 < x11))
  (Does Tryz.prog 132 #[.int .u8 (sb a0 x7_2)] w114 fun e132_1 w132_1 =>
  ∃ n132_1 : Int, e132_1 = .returned (.int .u8 n132_1) ∧ InK .i64 (x16 + 1) ∧ ∃ nc24, J24 (IntKind.wrap .u64 ((IntKind.wrap .u64 (x2 * 16)) + (IntKind.wrap .u64 (IntKind.wrap .u8 ((IntKind.wrap .u8 (n132_1 - 97)) + 10))))) b5 b9 b13 true (x15 + 1) (x16 + 1) x17 nc24 w132_1)
  (∃ nc24, J24 x2 true b9 b13 true (x15 + 1) x16 x17 nc24 w114))
  (∃ nc51, J51 x2 b5 x7_2 b9 b13 b14 x15 x16 x17 nc51 w114)))
  (Br (true == false)
  (InK .i64 (x15 + 1) ∧ Br (decide (x16 < x11))
  (Does Tryz.prog 132 #[.int .u8 (sb a0 x7_2)] wl23 fun e132_2 w132_2 =>
  ∃ n132_2 : Int, e132_2 = .returned (.int .u8 n132_2) ∧ InK .i64 (x16 + 1) ∧ ∃ nc24, J24 (IntKind.wrap .u64 ((IntKind.wrap .u64 (x2 * 16)) + (IntKind.wrap .u64 (IntKind.wrap .u8 ((IntKind.wrap .u8 (n132_2 - 97)) + 10))))) b5 b9 b13 true (x15 + 1) (x16 + 1) x17 nc24 w132_2)
  (∃ nc24, J24 x2 true b9 b13 true (x15 + 1) x16 x17 nc24 wl23))
  (∃ nc51, J51 x2 b5 x7_2 b9 b13 b14 x15 x16 x17 nc51 wl23))))
  (Br (true == false)
  (Br ((sb a0 x7_2) == 48)
  (Br (x15 == 0)
  (InK .i64 (x17 - 1) ∧ ∃ nc24, J24 x2 b5 b9 b13 true x15 x16 (x17 - 1) nc24 wl23)
  (InK .i64 (x15 + 1) ∧ Br (decide (x16 < x11))
  (InK .i64 (x16 + 1) ∧ ∃ nc24, J24 (IntKind.wrap .u64 ((IntKind.wrap .u64 (x2 * x10)) + (IntKind.wrap .u64 (IntKind.wrap .u8 ((sb a0 x7_2) - 48))))) b5 b9 b13 true (x15 + 1) (x16 + 1) x17 nc24 wl23)
  (Br ((sb a0 x7_2) != 48)
  (∃ nc24, J24 x2 true b9 b13 true (x15 + 1) x16 x17 nc24 wl23)
  (∃ nc24, J24 x2 b5 b9 b13 true (x15 + 1) x16 x17 nc24 wl23))))
  (InK .i64 (x15 + 1) ∧ Br (decide (x16 < x11))
  (InK .i64 (x16 + 1) ∧ ∃ nc24, J24 (IntKind.wrap .u64 ((IntKind.wrap .u64 (x2 * x10)) + (IntKind.wrap .u64 (IntKind.wrap .u8 ((sb a0 x7_2) - 48))))) b5 b9 b13 true (x15 + 1) (x16 + 1) x17 nc24 wl23)
  (Br ((sb a0 x7_2) != 48)
  (∃ nc24, J24 x2 true b9 b13 true (x15 + 1) x16 x17 nc24 wl23)
  (∃ nc24, J24 x2 b5 b9 b13 true (x15 + 1) x16 x17 nc24 wl23))))
  (Br (x10 == 16)
  (Does Tryz.prog 132 #[.int .u8 (sb a0 x7_2)] wl23 fun e114_1 w114_1 =>
  ∃ n114_1 : Int, e114_1 = .returned (.int .u8 n114_1) ∧ Br (decide ((97 : Int) ≤ n114_1))
  (Does Tryz.prog 132 #[.int .u8 (sb a0 x7_2)] w114_1 fun e119_1 w119_1 =>
  ∃ n119_1 : Int, e119_1 = .returned (.int .u8 n119_1) ∧ Br (true == (decide (n119_1 ≤ 102)))
  (InK .i64 (x15 + 1) ∧ Br (decide (x16 < x11))
  (Does Tryz.prog 132 #[.int .u8 (sb a0 x7_2)] w119_1 fun e132_3 w132_3 =>
  ∃ n132_3 : Int, e132_3 = .returned (.int .u8 n132_3) ∧ InK .i64 (x16 + 1) ∧ ∃ nc24, J24 (IntKind.wrap .u64 ((IntKind.wrap .u64 (x2 * 16)) + (IntKind.wrap .u64 (IntKind.wrap .u8 ((IntKind.wrap .u8 (n132_3 - 97)) + 10))))) b5 b9 b13 true (x15 + 1) (x16 + 1) x17 nc24 w132_3)
  (∃ nc24, J24 x2 true b9 b13 true (x15 + 1) x16 x17 nc24 w119_1))
  (∃ nc51, J51 x2 b5 x7_2 b9 b13 b14 x15 x16 x17 nc51 w119_1))
  (Br (true == false)
  (InK .i64 (x15 + 1) ∧ Br (decide (x16 < x11))
  (Does Tryz.prog 132 #[.int .u8 (sb a0 x7_2)] w114_1 fun e132_4 w132_4 =>
  ∃ n132_4 : Int, e132_4 = .returned (.int .u8 n132_4) ∧ InK .i64 (x16 + 1) ∧ ∃ nc24, J24 (IntKind.wrap .u64 ((IntKind.wrap .u64 (x2 * 16)) + (IntKind.wrap .u64 (IntKind.wrap .u8 ((IntKind.wrap .u8 (n132_4 - 97)) + 10))))) b5 b9 b13 true (x15 + 1) (x16 + 1) x17 nc24 w132_4)
  (∃ nc24, J24 x2 true b9 b13 true (x15 + 1) x16 x17 nc24 w114_1))
  (∃ nc51, J51 x2 b5 x7_2 b9 b13 b14 x15 x16 x17 nc51 w114_1)))
  (Br (true == false)
  (InK .i64 (x15 + 1) ∧ Br (decide (x16 < x11))
  (Does Tryz.prog 132 #[.int .u8 (sb a0 x7_2)] wl23 fun e132_5 w132_5 =>
  ∃ n132_5 : Int, e132_5 = .returned (.int .u8 n132_5) ∧ InK .i64 (x16 + 1) ∧ ∃ nc24, J24 (IntKind.wrap .u64 ((IntKind.wrap .u64 (x2 * 16)) + (IntKind.wrap .u64 (IntKind.wrap .u8 ((IntKind.wrap .u8 (n132_5 - 97)) + 10))))) b5 b9 b13 true (x15 + 1) (x16 + 1) x17 nc24 w132_5)
  (∃ nc24, J24 x2 true b9 b13 true (x15 + 1) x16 x17 nc24 wl23))
  (∃ nc51, J51 x2 b5 x7_2 b9 b13 b14 x15 x16 x17 nc51 wl23))))))) ∧ ∀ x2_1 : Int, ∀ b5_1 : Bool, ∀ b9_1 : Bool, ∀ b13_1 : Bool, ∀ b14_1 : Bool, ∀ x15_1 : Int, ∀ x16_1 : Int, ∀ x17_1 : Int, ∀ (nc24 : Nat) (wc24 : World), J24 x2_1 b5_1 b9_1 b13_1 b14_1 x15_1 x16_1 x17_1 nc24 wc24 →
  InK .i64 (x7_2 + 1) ∧ ∃ ml23, ml23 < nl23 ∧ I23 x2_1 b5_1 (x7_2 + 1) b9_1 b13_1 b14_1 x15_1 x16_1 x17_1 ml23 wc24)
  (∃ nc51, J51 x2 b5 x7_2 b9 b13 b14 x15 x16 x17 nc51 wl23)) ∧ ∀ x2_2 : Int, ∀ b5_2 : Bool, ∀ x7_3 : Int, ∀ b9_2 : Bool, ∀ b13_2 : Bool, ∀ b14_2 : Bool, ∀ x15_2 : Int, ∀ x16_2 : Int, ∀ x17_2 : Int, ∀ (nc51 : Nat) (wc51 : World), J51 x2_2 b5_2 x7_3 b9_2 b13_2 b14_2 x15_2 x16_2 x17_2 nc51 wc51 →
  Br (!b14_2)
  (R (.returned (.tuple #[.int .u64 x2_2, .int .i64 0, .bool b4, .bool b5_2, .bool b6, .int .i64 x7_3, .bool false])) wc51)
  (∃ J54 : Int → Nat → World → Prop, (Br (!b13_2)
  (∃ nc54, J54 x15_2 nc54 wc51)
  (∃ nc54, J54 x17_2 nc54 wc51)) ∧ ∀ x17_3 : Int, ∀ (nc54 : Nat) (wc54 : World), J54 x17_3 nc54 wc54 →
  ∃ J57 : Int → Int → Nat → World → Prop, (Br (x10 == 16)
  (InK .i64 (x16_2 * 4) ∧ ∃ nc57, J57 (x16_2 * 4) (IntKind.wrap .i64 (x17_3 * 4)) nc57 wc54)
  (∃ nc57, J57 x16_2 x17_3 nc57 wc54)) ∧ ∀ x16_3 : Int, ∀ x17_4 : Int, ∀ (nc57 : Nat) (wc57 : World), J57 x16_3 x17_4 nc57 wc57 →
  ∃ J77 : Int → Bool → Int → Nat → World → Prop, (Br (decide (x7_3 < ((a0.size : Int))))
  (((0 : Int) ≤ x7_3 ∧ x7_3 < (a0.size : Int)) ∧ Does Tryz.prog 132 #[.int .u8 (sb a0 x7_3)] wc57 fun e158 w158 =>
  ∃ n158 : Int, e158 = .returned (.int .u8 n158) ∧ Br (n158 == x12)
  (InK .i64 (x7_3 + 1) ∧ Br (decide ((x7_3 + 1) ≥ ((a0.size : Int))))
  (R (.returned (.tuple #[.int .u64 x2_2, .int .i64 0, .bool b4, .bool b5_2, .bool b6, .int .i64 (x7_3 + 1), .bool false])) w158)
  (∃ J67 : Int → Int → Nat → World → Prop, (((0 : Int) ≤ (x7_3 + 1) ∧ (x7_3 + 1) < (a0.size : Int)) ∧ Br ((sb a0 (x7_3 + 1)) == 43)
  (InK .i64 ((x7_3 + 1) + 1) ∧ ∃ nc67, J67 ((x7_3 + 1) + 1) 1 nc67 w158)
  (Br ((sb a0 (x7_3 + 1)) == 45)
  (InK .i64 ((x7_3 + 1) + 1) ∧ ∃ nc67, J67 ((x7_3 + 1) + 1) (-1) nc67 w158)
  (∃ nc67, J67 (x7_3 + 1) 1 nc67 w158))) ∧ ∀ x7_4 : Int, ∀ x19 : Int, ∀ (nc67 : Nat) (wc67 : World), J67 x7_4 x19 nc67 wc67 →
  Br (decide (x7_4 ≥ ((a0.size : Int))))
  (R (.returned (.tuple #[.int .u64 x2_2, .int .i64 0, .bool b4, .bool b5_2, .bool b6, .int .i64 x7_4, .bool false])) wc67)
  (((0 : Int) ≤ x7_4 ∧ x7_4 < (a0.size : Int)) ∧ Br (decide ((sb a0 x7_4) < 48))
  (R (.returned (.tuple #[.int .u64 x2_2, .int .i64 0, .bool b4, .bool b5_2, .bool b6, .int .i64 x7_4, .bool false])) wc67)
  (((0 : Int) ≤ x7_4 ∧ x7_4 < (a0.size : Int)) ∧ Br (decide ((sb a0 x7_4) > 57))
  (R (.returned (.tuple #[.int .u64 x2_2, .int .i64 0, .bool b4, .bool b5_2, .bool b6, .int .i64 x7_4, .bool false])) wc67)
  (∃ J75 : Int → Bool → Int → Nat → World → Prop, (∃ I69 : Int → Bool → Int → Nat → World → Prop, (∃ nl69, I69 x7_4 b9_2 0 nl69 wc67) ∧ ∀ x7_5 : Int, ∀ b9_3 : Bool, ∀ x20 : Int, ∀ (nl69 : Nat) (wl69 : World), I69 x7_5 b9_3 x20 nl69 wl69 →
  Br (decide (x7_5 < ((a0.size : Int))))
  (((0 : Int) ≤ x7_5 ∧ x7_5 < (a0.size : Int)) ∧ Br (decide ((48 : Int) ≤ (sb a0 x7_5)))
  (((0 : Int) ≤ x7_5 ∧ x7_5 < (a0.size : Int)) ∧ Br (decide ((sb a0 x7_5) ≤ 57))
  (∃ J70 : Bool → Int → Nat → World → Prop, (((0 : Int) ≤ x7_5 ∧ x7_5 < (a0.size : Int)) ∧ Br ((sb a0 x7_5) == 95)
  (∃ nc70, J70 true x20 nc70 wl69)
  (Br (decide (x20 < 10000))
  (InK .i64 (x20 * 10) ∧ ((0 : Int) ≤ x7_5 ∧ x7_5 < (a0.size : Int)) ∧ InK .i64 (sb a0 x7_5) ∧ InK .i64 ((x20 * 10) + (sb a0 x7_5)) ∧ InK .i64 (((x20 * 10) + (sb a0 x7_5)) - 48) ∧ ∃ nc70, J70 b9_3 (((x20 * 10) + (sb a0 x7_5)) - 48) nc70 wl69)
  (∃ nc70, J70 b9_3 x20 nc70 wl69))) ∧ ∀ b9_4 : Bool, ∀ x20_1 : Int, ∀ (nc70 : Nat) (wc70 : World), J70 b9_4 x20_1 nc70 wc70 →
  InK .i64 (x7_5 + 1) ∧ ∃ ml69, ml69 < nl69 ∧ I69 (x7_5 + 1) b9_4 x20_1 ml69 wc70)
  (((0 : Int) ≤ x7_5 ∧ x7_5 < (a0.size : Int)) ∧ Br ((sb a0 x7_5) == 95)
  (∃ J70_1 : Bool → Int → Nat → World → Prop, (((0 : Int) ≤ x7_5 ∧ x7_5 < (a0.size : Int)) ∧ Br ((sb a0 x7_5) == 95)
  (∃ nc70_1, J70_1 true x20 nc70_1 wl69)
  (Br (decide (x20 < 10000))
  (InK .i64 (x20 * 10) ∧ ((0 : Int) ≤ x7_5 ∧ x7_5 < (a0.size : Int)) ∧ InK .i64 (sb a0 x7_5) ∧ InK .i64 ((x20 * 10) + (sb a0 x7_5)) ∧ InK .i64 (((x20 * 10) + (sb a0 x7_5)) - 48) ∧ ∃ nc70_1, J70_1 b9_3 (((x20 * 10) + (sb a0 x7_5)) - 48) nc70_1 wl69)
  (∃ nc70_1, J70_1 b9_3 x20 nc70_1 wl69))) ∧ ∀ b9_5 : Bool, ∀ x20_2 : Int, ∀ (nc70_1 : Nat) (wc70_1 : World), J70_1 b9_5 x20_2 nc70_1 wc70_1 →
  InK .i64 (x7_5 + 1) ∧ ∃ ml69, ml69 < nl69 ∧ I69 (x7_5 + 1) b9_5 x20_2 ml69 wc70_1)
  (∃ nc75, J75 x7_5 b9_3 x20 nc75 wl69)))
  (((0 : Int) ≤ x7_5 ∧ x7_5 < (a0.size : Int)) ∧ Br ((sb a0 x7_5) == 95)
  (∃ J70_2 : Bool → Int → Nat → World → Prop, (((0 : Int) ≤ x7_5 ∧ x7_5 < (a0.size : Int)) ∧ Br ((sb a0 x7_5) == 95)
  (∃ nc70_2, J70_2 true x20 nc70_2 wl69)
  (Br (decide (x20 < 10000))
  (InK .i64 (x20 * 10) ∧ ((0 : Int) ≤ x7_5 ∧ x7_5 < (a0.size : Int)) ∧ InK .i64 (sb a0 x7_5) ∧ InK .i64 ((x20 * 10) + (sb a0 x7_5)) ∧ InK .i64 (((x20 * 10) + (sb a0 x7_5)) - 48) ∧ ∃ nc70_2, J70_2 b9_3 (((x20 * 10) + (sb a0 x7_5)) - 48) nc70_2 wl69)
  (∃ nc70_2, J70_2 b9_3 x20 nc70_2 wl69))) ∧ ∀ b9_6 : Bool, ∀ x20_3 : Int, ∀ (nc70_2 : Nat) (wc70_2 : World), J70_2 b9_6 x20_3 nc70_2 wc70_2 →
  InK .i64 (x7_5 + 1) ∧ ∃ ml69, ml69 < nl69 ∧ I69 (x7_5 + 1) b9_6 x20_3 ml69 wc70_2)
  (∃ nc75, J75 x7_5 b9_3 x20 nc75 wl69)))
  (∃ nc75, J75 x7_5 b9_3 x20 nc75 wl69)) ∧ ∀ x7_6 : Int, ∀ b9_7 : Bool, ∀ x20_4 : Int, ∀ (nc75 : Nat) (wc75 : World), J75 x7_6 b9_7 x20_4 nc75 wc75 →
  InK .i64 (x20_4 * x19) ∧ ∃ nc77, J77 x7_6 b9_7 (IntKind.wrap .i64 (x17_4 + (x20_4 * x19))) nc77 wc75)))))
  (Br (x10 == 16)
  (R (.returned (.tuple #[.int .u64 x2_2, .int .i64 0, .bool b4, .bool b5_2, .bool b6, .int .i64 x7_3, .bool false])) w158)
  (∃ nc77, J77 x7_3 b9_2 x17_4 nc77 w158)))
  (Br (x10 == 16)
  (R (.returned (.tuple #[.int .u64 x2_2, .int .i64 0, .bool b4, .bool b5_2, .bool b6, .int .i64 x7_3, .bool false])) wc57)
  (∃ nc77, J77 x7_3 b9_2 x17_4 nc77 wc57))) ∧ ∀ x7_7 : Int, ∀ b9_8 : Bool, ∀ x17_5 : Int, ∀ (nc77 : Nat) (wc77 : World), J77 x7_7 b9_8 x17_5 nc77 wc77 →
  ∃ J79 : Int → Nat → World → Prop, (Br (x2_2 != 0)
  (∃ nc79, J79 (IntKind.wrap .i64 (x17_5 - x16_3)) nc79 wc77)
  (∃ nc79, J79 0 nc79 wc77)) ∧ ∀ x3 : Int, ∀ (nc79 : Nat) (wc79 : World), J79 x3 nc79 wc79 →
  Br b9_8
  (((0 : Int) ≤ x7_7 ∧ x7_7 ≤ (a0.size : Int)) ∧ Does Tryz.prog 133 #[.string (a0.extract 0 ((x7_7).toNat))] wc79 fun e250 w250 =>
  ∃ b250 : Bool, e250 = .returned (.bool b250) ∧ Br (!b250)
  (R (.returned (.tuple #[.int .u64 x2_2, .int .i64 x3, .bool b4, .bool b5_2, .bool b6, .int .i64 x7_7, .bool false])) w250)
  (R (.returned (.tuple #[.int .u64 x2_2, .int .i64 x3, .bool b4, .bool b5_2, .bool b6, .int .i64 x7_7, .bool true])) w250))
  (R (.returned (.tuple #[.int .u64 x2_2, .int .i64 x3, .bool b4, .bool b5_2, .bool b6, .int .i64 x7_7, .bool true])) wc79)))
def f112_ann : Ann := { loops := [(23, [(2, .int .u64), (5, .bool), (7, .int .i64), (9, .bool), (13, .bool), (14, .bool), (15, .int .i64), (16, .int .i64), (17, .int .i64)]), (69, [(7, .int .i64), (9, .bool), (20, .int .i64)])], cuts := [(9, [(4, .bool), (7, .int .i64)]), (18, [(6, .bool), (7, .int .i64), (10, .int .u64), (11, .int .i64), (12, .int .u8)]), (51, [(2, .int .u64), (5, .bool), (7, .int .i64), (9, .bool), (13, .bool), (14, .bool), (15, .int .i64), (16, .int .i64), (17, .int .i64)]), (24, [(2, .int .u64), (5, .bool), (9, .bool), (13, .bool), (14, .bool), (15, .int .i64), (16, .int .i64), (17, .int .i64)]), (54, [(17, .int .i64)]), (57, [(16, .int .i64), (17, .int .i64)]), (77, [(7, .int .i64), (9, .bool), (17, .int .i64)]), (67, [(7, .int .i64), (19, .int .i64)]), (75, [(7, .int .i64), (9, .bool), (20, .int .i64)]), (70, [(9, .bool), (20, .int .i64)]), (79, [(3, .int .i64)])], flip := [147, 237, 244], throws := [] }
theorem f112_eq (a0 : ByteArray) (w : World) (R : Ending → World → Prop) : vc Tryz.prog f112_ann (bodyOf Tryz.f112) (retQ Tryz.prog Tryz.f112 R) (envOf Tryz.f112.ntmps [.v (.string a0)]) [] w = f112_vc a0 w R := by kernel_rfl
theorem f112_does (a0 : ByteArray) {w : World} {R : Ending → World → Prop} (h : f112_vc a0 w R) : Does Tryz.prog 112 #[.string a0] w R :=
  does_of_vc (ss := [.v (.string a0)]) f112_ann mixed call112 Tryz.func112 rfl rfl (show 1 ≤ Tryz.f112.ntmps by decide) ((f112_eq a0 w R).symm ▸ h)
/-- Of internal/strconv.atofHex (function 113): the condition. -/
def f113_vc (_a0 : ByteArray) (a1 : Option Addr) (a2 : Int) (a3 : Int) (a4 : Bool) (a5 : Bool) (w : World) (R : Ending → World → Prop) : Prop :=
  ∀ wd1, Drew w wd1 →
  ∃ b20 o20, a1 = some ⟨b20, o20, none⟩ ∧ ∃ n22 : Int, wd1.cell? ⟨b20, o20 + 1, none⟩ = some (.int .u64 n22) ∧ (0 : Int) ≤ n22 ∧ InK .i64 (1 * 2 ^ (min (n22).toNat 64)) ∧ ∃ b25 o25, a1 = some ⟨b25, o25, none⟩ ∧ ∃ n27 : Int, wd1.cell? ⟨b25, o25 + 2, none⟩ = some (.int .i64 n27) ∧ InK .i64 ((1 * 2 ^ (min (n22).toNat 64)) + n27) ∧ InK .i64 (((1 * 2 ^ (min (n22).toNat 64)) + n27) - 2) ∧ ∃ b31 o31, a1 = some ⟨b31, o31, none⟩ ∧ ∃ n33 : Int, wd1.cell? ⟨b31, o31 + 2, none⟩ = some (.int .i64 n33) ∧ InK .i64 (n33 + 1) ∧ ∃ b37 o37, a1 = some ⟨b37, o37, none⟩ ∧ ∃ n39 : Int, wd1.cell? ⟨b37, o37, none⟩ = some (.int .u64 n39) ∧ InK .i64 (n39) ∧ ∃ J7 : Int → Int → Nat → World → Prop, (∃ I4 : Int → Int → Nat → World → Prop, (∃ nl4, I4 a2 (IntKind.wrap .i64 (a3 + n39)) nl4 wd1) ∧ ∀ x2 : Int, ∀ x3 : Int, ∀ (nl4 : Nat) (wl4 : World), I4 x2 x3 nl4 wl4 →
  Br (x2 != 0)
  (∃ b47 o47, a1 = some ⟨b47, o47, none⟩ ∧ ∃ n49 : Int, wl4.cell? ⟨b47, o47, none⟩ = some (.int .u64 n49) ∧ (0 : Int) ≤ (IntKind.wrap .u64 (n49 + 2)) ∧ Br ((x2.fdiv (2 ^ (min (IntKind.wrap .u64 (n49 + 2)).toNat 64))) == 0)
  ((0 : Int) ≤ 1 ∧ ∃ ml4, ml4 < nl4 ∧ I4 (IntKind.wrap .u64 (x2 * 2 ^ 1)) (IntKind.wrap .i64 (x3 - 1)) ml4 wl4)
  (∃ nc7, J7 x2 x3 nc7 wl4))
  (∃ nc7, J7 x2 x3 nc7 wl4)) ∧ ∀ x2_1 : Int, ∀ x3_1 : Int, ∀ (nc7 : Nat) (wc7 : World), J7 x2_1 x3_1 nc7 wc7 →
  ∃ J9 : Int → Nat → World → Prop, (Br a5
  (∃ nc9, J9 (bits .or .u64 x2_1 1) nc9 wc7)
  (∃ nc9, J9 x2_1 nc9 wc7)) ∧ ∀ x2_2 : Int, ∀ (nc9 : Nat) (wc9 : World), J9 x2_2 nc9 wc9 →
  ∃ I9 : Int → Int → Nat → World → Prop, (∃ nl9, I9 x2_2 x3_1 nl9 wc9) ∧ ∀ x2_3 : Int, ∀ x3_2 : Int, ∀ (nl9 : Nat) (wl9 : World), I9 x2_3 x3_2 nl9 wl9 →
  ∃ b63 o63, a1 = some ⟨b63, o63, none⟩ ∧ ∃ n65 : Int, wl9.cell? ⟨b63, o63, none⟩ = some (.int .u64 n65) ∧ (0 : Int) ≤ (IntKind.wrap .u64 ((IntKind.wrap .u64 (1 + n65)) + 2)) ∧ Br ((x2_3.fdiv (2 ^ (min (IntKind.wrap .u64 ((IntKind.wrap .u64 (1 + n65)) + 2)).toNat 64))) != 0)
  ((0 : Int) ≤ 1 ∧ ∃ ml9, ml9 < nl9 ∧ I9 (bits .or .u64 (x2_3.fdiv (2 ^ 1)) (bits .and .u64 x2_3 1)) (IntKind.wrap .i64 (x3_2 + 1)) ml9 wl9)
  (∃ J15 : Int → Int → Nat → World → Prop, (∃ I12 : Int → Int → Nat → World → Prop, (∃ nl12, I12 x2_3 x3_2 nl12 wl9) ∧ ∀ x2_4 : Int, ∀ x3_3 : Int, ∀ (nl12 : Nat) (wl12 : World), I12 x2_4 x3_3 nl12 wl12 →
  Br (decide (x2_4 > 1))
  (InK .i64 ((n33 + 1) - 2) ∧ Br (decide (x3_3 < ((n33 + 1) - 2)))
  ((0 : Int) ≤ 1 ∧ ∃ ml12, ml12 < nl12 ∧ I12 (bits .or .u64 (x2_4.fdiv (2 ^ 1)) (bits .and .u64 x2_4 1)) (IntKind.wrap .i64 (x3_3 + 1)) ml12 wl12)
  (∃ nc15, J15 x2_4 x3_3 nc15 wl12))
  (∃ nc15, J15 x2_4 x3_3 nc15 wl12)) ∧ ∀ x2_5 : Int, ∀ x3_4 : Int, ∀ (nc15 : Nat) (wc15 : World), J15 x2_5 x3_4 nc15 wc15 →
  (0 : Int) ≤ 2 ∧ ∃ J24 : Int → Int → Nat → World → Prop, (Br ((bits .or .u64 (bits .and .u64 x2_5 3) (bits .and .u64 (x2_5.fdiv (2 ^ 2)) 1)) == 3)
  (∃ b108 o108, a1 = some ⟨b108, o108, none⟩ ∧ ∃ n110 : Int, wc15.cell? ⟨b108, o108, none⟩ = some (.int .u64 n110) ∧ (0 : Int) ≤ (IntKind.wrap .u64 (1 + n110)) ∧ Br ((IntKind.wrap .u64 ((x2_5.fdiv (2 ^ 2)) + 1)) == (IntKind.wrap .u64 (1 * 2 ^ (min (IntKind.wrap .u64 (1 + n110)).toNat 64))))
  ((0 : Int) ≤ 1 ∧ ∃ nc24, J24 ((IntKind.wrap .u64 ((x2_5.fdiv (2 ^ 2)) + 1)).fdiv (2 ^ 1)) (IntKind.wrap .i64 ((IntKind.wrap .i64 (x3_4 + 2)) + 1)) nc24 wc15)
  (∃ nc24, J24 (IntKind.wrap .u64 ((x2_5.fdiv (2 ^ 2)) + 1)) (IntKind.wrap .i64 (x3_4 + 2)) nc24 wc15))
  (∃ nc24, J24 (x2_5.fdiv (2 ^ 2)) (IntKind.wrap .i64 (x3_4 + 2)) nc24 wc15)) ∧ ∀ x2_6 : Int, ∀ x3_5 : Int, ∀ (nc24 : Nat) (wc24 : World), J24 x2_6 x3_5 nc24 wc24 →
  ∃ J26 : Int → Nat → World → Prop, (∃ b120 o120, a1 = some ⟨b120, o120, none⟩ ∧ ∃ n122 : Int, wc24.cell? ⟨b120, o120, none⟩ = some (.int .u64 n122) ∧ (0 : Int) ≤ n122 ∧ Br ((x2_6.fdiv (2 ^ (min (n122).toNat 64))) == 0)
  (∃ b126 o126, a1 = some ⟨b126, o126, none⟩ ∧ ∃ n128 : Int, wc24.cell? ⟨b126, o126 + 2, none⟩ = some (.int .i64 n128) ∧ ∃ nc26, J26 n128 nc26 wc24)
  (∃ nc26, J26 x3_5 nc26 wc24)) ∧ ∀ x3_6 : Int, ∀ (nc26 : Nat) (wc26 : World), J26 x3_6 nc26 wc26 →
  ∃ J31 : Int → Int → Value → Nat → World → Prop, (Br (decide (x3_6 > (((1 * 2 ^ (min (n22).toNat 64)) + n27) - 2)))
  (∃ b133 o133, a1 = some ⟨b133, o133, none⟩ ∧ ∃ n135 : Int, wc26.cell? ⟨b133, o133, none⟩ = some (.int .u64 n135) ∧ (0 : Int) ≤ n135 ∧ InK .i64 ((((1 * 2 ^ (min (n22).toNat 64)) + n27) - 2) + 1) ∧ ∃ nc31, J31 (IntKind.wrap .u64 (1 * 2 ^ (min (n135).toNat 64))) ((((1 * 2 ^ (min (n22).toNat 64)) + n27) - 2) + 1) (.iface 90 (.int .i64 1)) nc31 wc26)
  (∃ nc31, J31 x2_6 x3_6 .nilIface nc31 wc26)) ∧ ∀ x2_7 : Int, ∀ x3_7 : Int, ∀ x17 : Value, ∀ (nc31 : Nat) (wc31 : World), J31 x2_7 x3_7 x17 nc31 wc31 →
  ∃ b142 o142, a1 = some ⟨b142, o142, none⟩ ∧ ∃ n144 : Int, wc31.cell? ⟨b142, o142, none⟩ = some (.int .u64 n144) ∧ (0 : Int) ≤ n144 ∧ ∀ wd32, Drew wc31 wd32 →
  ∃ b151 o151, a1 = some ⟨b151, o151, none⟩ ∧ ∃ n153 : Int, wd32.cell? ⟨b151, o151 + 2, none⟩ = some (.int .i64 n153) ∧ ∃ b156 o156, a1 = some ⟨b156, o156, none⟩ ∧ ∃ n158 : Int, wd32.cell? ⟨b156, o156 + 1, none⟩ = some (.int .u64 n158) ∧ (0 : Int) ≤ n158 ∧ InK .i64 (1 * 2 ^ (min (n158).toNat 64)) ∧ InK .i64 ((1 * 2 ^ (min (n158).toNat 64)) - 1) ∧ ∃ b164 o164, a1 = some ⟨b164, o164, none⟩ ∧ ∃ n166 : Int, wd32.cell? ⟨b164, o164, none⟩ = some (.int .u64 n166) ∧ (0 : Int) ≤ n166 ∧ ∃ J35 : Int → Nat → World → Prop, (Br a4
  (∀ wd34, Drew wd32 wd34 →
  ∃ b172 o172, a1 = some ⟨b172, o172, none⟩ ∧ ∃ n174 : Int, wd34.cell? ⟨b172, o172, none⟩ = some (.int .u64 n174) ∧ (0 : Int) ≤ n174 ∧ ∃ b177 o177, a1 = some ⟨b177, o177, none⟩ ∧ ∃ n179 : Int, wd34.cell? ⟨b177, o177 + 1, none⟩ = some (.int .u64 n179) ∧ (0 : Int) ≤ n179 ∧ ∃ nc35, J35 (bits .or .u64 (bits .or .u64 (bits .and .u64 x2_7 (IntKind.wrap .u64 ((IntKind.wrap .u64 (1 * 2 ^ (min (n144).toNat 64))) - 1))) (IntKind.wrap .u64 ((IntKind.wrap .u64 (bits .and .i64 (IntKind.wrap .i64 (x3_7 - n153)) ((1 * 2 ^ (min (n158).toNat 64)) - 1))) * 2 ^ (min (n166).toNat 64)))) (IntKind.wrap .u64 ((IntKind.wrap .u64 (1 * 2 ^ (min (n174).toNat 64))) * 2 ^ (min (n179).toNat 64)))) nc35 wd34)
  (∃ nc35, J35 (bits .or .u64 (bits .and .u64 x2_7 (IntKind.wrap .u64 ((IntKind.wrap .u64 (1 * 2 ^ (min (n144).toNat 64))) - 1))) (IntKind.wrap .u64 ((IntKind.wrap .u64 (bits .and .i64 (IntKind.wrap .i64 (x3_7 - n153)) ((1 * 2 ^ (min (n158).toNat 64)) - 1))) * 2 ^ (min (n166).toNat 64)))) nc35 wd32)) ∧ ∀ x18 : Int, ∀ (nc35 : Nat) (wc35 : World), J35 x18 nc35 wc35 →
  GuardOk (.pointer a1) ∧ ∃ (b183 : Bool) (w183 : World), (binOp .eql 128 (.pointer a1) (.pointer (some ⟨5, 0, none⟩))).run Tryz.prog wc35 = .ok (.bool b183) w183 ∧ Br b183
  (Does Tryz.prog 115 #[.int .u32 (IntKind.wrap .u32 (x18))] w183 fun e186 w186 =>
  ∃ f186 : Nat, e186 = .returned (.float .f32 f186) ∧ ∃ f187 : Nat, ∃ w187, (convert 109 22 (.float .f32 f186)).run Tryz.prog w186 = .ok (.float .f64 f187) w187 ∧ R (.returned (.tuple #[.float .f64 f187, x17])) w187)
  (Does Tryz.prog 121 #[.int .u64 x18] w183 fun e190 w190 =>
  ∃ f190 : Nat, e190 = .returned (.float .f64 f190) ∧ R (.returned (.tuple #[.float .f64 f190, x17])) w190))
def f113_ann : Ann := { loops := [(4, [(2, .int .u64), (3, .int .i64)]), (9, [(2, .int .u64), (3, .int .i64)]), (12, [(2, .int .u64), (3, .int .i64)])], cuts := [(7, [(2, .int .u64), (3, .int .i64)]), (9, [(2, .int .u64)]), (15, [(2, .int .u64), (3, .int .i64)]), (24, [(2, .int .u64), (3, .int .i64)]), (26, [(3, .int .i64)]), (31, [(2, .int .u64), (3, .int .i64), (17, .any)]), (35, [(18, .int .u64)])], flip := [41, 57, 76, 91, 101, 117, 154], throws := [] }
theorem f113_eq (a0 : ByteArray) (a1 : Option Addr) (a2 : Int) (a3 : Int) (a4 : Bool) (a5 : Bool) (w : World) (R : Ending → World → Prop) : vc Tryz.prog f113_ann (bodyOf Tryz.f113) (retQ Tryz.prog Tryz.f113 R) (envOf Tryz.f113.ntmps [.v (.string a0), .v (.pointer a1), .v (.int .u64 a2), .v (.int .i64 a3), .v (.bool a4), .v (.bool a5)]) [] w = f113_vc a0 a1 a2 a3 a4 a5 w R := by kernel_rfl
theorem f113_does (a0 : ByteArray) (a1 : Option Addr) (a2 : Int) (a3 : Int) (a4 : Bool) (a5 : Bool) {w : World} {R : Ending → World → Prop} (h : f113_vc a0 a1 a2 a3 a4 a5 w R) : Does Tryz.prog 113 #[.string a0, .pointer a1, .int .u64 a2, .int .i64 a3, .bool a4, .bool a5] w R :=
  does_of_vc (ss := [.v (.string a0), .v (.pointer a1), .v (.int .u64 a2), .v (.int .i64 a3), .v (.bool a4), .v (.bool a5)]) f113_ann mixed call113 Tryz.func113 rfl rfl (show 6 ≤ Tryz.f113.ntmps by decide) ((f113_eq a0 a1 a2 a3 a4 a5 w R).symm ▸ h)
/-- Of internal/strconv.bool2[uint64] (function 120): the condition. -/
def f120_vc (a0 : Bool) (w : World) (R : Ending → World → Prop) : Prop :=
  Br a0
  (R (.returned (.int .u64 1)) w)
  (R (.returned (.int .u64 0)) w)
def f120_ann : Ann := { loops := [], cuts := [], flip := [], throws := [] }
theorem f120_eq (a0 : Bool) (w : World) (R : Ending → World → Prop) : vc Tryz.prog f120_ann (bodyOf Tryz.f120) (retQ Tryz.prog Tryz.f120 R) (envOf Tryz.f120.ntmps [.v (.bool a0)]) [] w = f120_vc a0 w R := by kernel_rfl
theorem f120_does (a0 : Bool) {w : World} {R : Ending → World → Prop} (h : f120_vc a0 w R) : Does Tryz.prog 120 #[.bool a0] w R :=
  does_of_vc (ss := [.v (.bool a0)]) f120_ann mixed call120 Tryz.func120 rfl rfl (show 1 ≤ Tryz.f120.ntmps by decide) ((f120_eq a0 w R).symm ▸ h)
/-- Of internal/strconv.atof64exact (function 122): the condition. -/
def f122_vc (a0 : Int) (a1 : Int) (a2 : Bool) (w : World) (R : Ending → World → Prop) : Prop :=
  ∃ n10 : Int, w.cell? ⟨7, 0, none⟩ = some (.int .u64 n10) ∧ (0 : Int) ≤ n10 ∧ Br ((a0.fdiv (2 ^ (min (n10).toNat 64))) != 0)
  (R (.returned (.tuple #[.float .f64 0, .bool false])) w)
  (∃ f14 : Nat, ∃ w14, (convert 27 22 (.int .u64 a0)).run Tryz.prog w = .ok (.float .f64 f14) w14 ∧ Br a2
  (Br (a1 == 0)
  (R (.returned (.tuple #[.float .f64 (Op.negFloat .f64 f14), .bool true])) w14)
  (Br (decide (a1 > 0))
  (Br (decide (a1 ≤ 37))
  (Br (decide (a1 > 22))
  (∃ (p32 : Option Addr) (l32 c32 : Nat), w14.cell? ⟨12, 0, none⟩ = some (.slice p32 l32 c32) ∧ InK .i64 (a1 - 22) ∧ ((0 : Int) ≤ (a1 - 22) ∧ (a1 - 22) < (l32 : Int)) ∧ ∃ b35 o35, p32 = some ⟨b35, o35, none⟩ ∧ ∃ f36 : Nat, w14.cell? ⟨b35, o35 + (a1 - 22).toNat, none⟩ = some (.float .f64 f36) ∧ ∃ f37 : Nat, ∃ w37, (binOp .mul 22 (.float .f64 (Op.negFloat .f64 f14)) (.float .f64 f36)).run Tryz.prog w14 = .ok (.float .f64 f37) w37 ∧ Br ((FloatKind.f64.format.order f37 4831355200913801216 == some Ordering.gt))
  (R (.returned (.tuple #[.float .f64 f37, .bool false])) w37)
  (Br ((FloatKind.f64.format.order f37 14054727237768577024 == some Ordering.lt))
  (R (.returned (.tuple #[.float .f64 f37, .bool false])) w37)
  (∃ (p45 : Option Addr) (l45 c45 : Nat), w37.cell? ⟨12, 0, none⟩ = some (.slice p45 l45 c45) ∧ ((0 : Int) ≤ 22 ∧ 22 < (l45 : Int)) ∧ ∃ b47 o47, p45 = some ⟨b47, o47, none⟩ ∧ ∃ f48 : Nat, w37.cell? ⟨b47, o47 + (22 : Int).toNat, none⟩ = some (.float .f64 f48) ∧ ∃ f49 : Nat, ∃ w49, (binOp .mul 22 (.float .f64 f37) (.float .f64 f48)).run Tryz.prog w37 = .ok (.float .f64 f49) w49 ∧ R (.returned (.tuple #[.float .f64 f49, .bool true])) w49)))
  (Br ((FloatKind.f64.format.order (Op.negFloat .f64 f14) 4831355200913801216 == some Ordering.gt))
  (R (.returned (.tuple #[.float .f64 (Op.negFloat .f64 f14), .bool false])) w14)
  (Br ((FloatKind.f64.format.order (Op.negFloat .f64 f14) 14054727237768577024 == some Ordering.lt))
  (R (.returned (.tuple #[.float .f64 (Op.negFloat .f64 f14), .bool false])) w14)
  (∃ (p45_1 : Option Addr) (l45_1 c45_1 : Nat), w14.cell? ⟨12, 0, none⟩ = some (.slice p45_1 l45_1 c45_1) ∧ ((0 : Int) ≤ a1 ∧ a1 < (l45_1 : Int)) ∧ ∃ b47_1 o47_1, p45_1 = some ⟨b47_1, o47_1, none⟩ ∧ ∃ f48_1 : Nat, w14.cell? ⟨b47_1, o47_1 + (a1).toNat, none⟩ = some (.float .f64 f48_1) ∧ ∃ f49_1 : Nat, ∃ w49_1, (binOp .mul 22 (.float .f64 (Op.negFloat .f64 f14)) (.float .f64 f48_1)).run Tryz.prog w14 = .ok (.float .f64 f49_1) w49_1 ∧ R (.returned (.tuple #[.float .f64 f49_1, .bool true])) w49_1))))
  (Br (decide (a1 < 0))
  (Br (decide (a1 ≥ (-22)))
  (∃ (p58 : Option Addr) (l58 c58 : Nat), w14.cell? ⟨12, 0, none⟩ = some (.slice p58 l58 c58) ∧ InK .i64 (0 - a1) ∧ ((0 : Int) ≤ (0 - a1) ∧ (0 - a1) < (l58 : Int)) ∧ ∃ b61 o61, p58 = some ⟨b61, o61, none⟩ ∧ ∃ f62 : Nat, w14.cell? ⟨b61, o61 + (0 - a1).toNat, none⟩ = some (.float .f64 f62) ∧ ∃ f63 : Nat, ∃ w63, (binOp .quo 22 (.float .f64 (Op.negFloat .f64 f14)) (.float .f64 f62)).run Tryz.prog w14 = .ok (.float .f64 f63) w63 ∧ R (.returned (.tuple #[.float .f64 f63, .bool true])) w63)
  (R (.returned (.tuple #[.float .f64 (Op.negFloat .f64 f14), .bool false])) w14))
  (R (.returned (.tuple #[.float .f64 (Op.negFloat .f64 f14), .bool false])) w14)))
  (Br (decide (a1 < 0))
  (Br (decide (a1 ≥ (-22)))
  (∃ (p58_1 : Option Addr) (l58_1 c58_1 : Nat), w14.cell? ⟨12, 0, none⟩ = some (.slice p58_1 l58_1 c58_1) ∧ InK .i64 (0 - a1) ∧ ((0 : Int) ≤ (0 - a1) ∧ (0 - a1) < (l58_1 : Int)) ∧ ∃ b61_1 o61_1, p58_1 = some ⟨b61_1, o61_1, none⟩ ∧ ∃ f62_1 : Nat, w14.cell? ⟨b61_1, o61_1 + (0 - a1).toNat, none⟩ = some (.float .f64 f62_1) ∧ ∃ f63_1 : Nat, ∃ w63_1, (binOp .quo 22 (.float .f64 (Op.negFloat .f64 f14)) (.float .f64 f62_1)).run Tryz.prog w14 = .ok (.float .f64 f63_1) w63_1 ∧ R (.returned (.tuple #[.float .f64 f63_1, .bool true])) w63_1)
  (R (.returned (.tuple #[.float .f64 (Op.negFloat .f64 f14), .bool false])) w14))
  (R (.returned (.tuple #[.float .f64 (Op.negFloat .f64 f14), .bool false])) w14))))
  (Br (a1 == 0)
  (R (.returned (.tuple #[.float .f64 f14, .bool true])) w14)
  (Br (decide (a1 > 0))
  (Br (decide (a1 ≤ 37))
  (Br (decide (a1 > 22))
  (∃ (p32_1 : Option Addr) (l32_1 c32_1 : Nat), w14.cell? ⟨12, 0, none⟩ = some (.slice p32_1 l32_1 c32_1) ∧ InK .i64 (a1 - 22) ∧ ((0 : Int) ≤ (a1 - 22) ∧ (a1 - 22) < (l32_1 : Int)) ∧ ∃ b35_1 o35_1, p32_1 = some ⟨b35_1, o35_1, none⟩ ∧ ∃ f36_1 : Nat, w14.cell? ⟨b35_1, o35_1 + (a1 - 22).toNat, none⟩ = some (.float .f64 f36_1) ∧ ∃ f37_1 : Nat, ∃ w37_1, (binOp .mul 22 (.float .f64 f14) (.float .f64 f36_1)).run Tryz.prog w14 = .ok (.float .f64 f37_1) w37_1 ∧ Br ((FloatKind.f64.format.order f37_1 4831355200913801216 == some Ordering.gt))
  (R (.returned (.tuple #[.float .f64 f37_1, .bool false])) w37_1)
  (Br ((FloatKind.f64.format.order f37_1 14054727237768577024 == some Ordering.lt))
  (R (.returned (.tuple #[.float .f64 f37_1, .bool false])) w37_1)
  (∃ (p45_2 : Option Addr) (l45_2 c45_2 : Nat), w37_1.cell? ⟨12, 0, none⟩ = some (.slice p45_2 l45_2 c45_2) ∧ ((0 : Int) ≤ 22 ∧ 22 < (l45_2 : Int)) ∧ ∃ b47_2 o47_2, p45_2 = some ⟨b47_2, o47_2, none⟩ ∧ ∃ f48_2 : Nat, w37_1.cell? ⟨b47_2, o47_2 + (22 : Int).toNat, none⟩ = some (.float .f64 f48_2) ∧ ∃ f49_2 : Nat, ∃ w49_2, (binOp .mul 22 (.float .f64 f37_1) (.float .f64 f48_2)).run Tryz.prog w37_1 = .ok (.float .f64 f49_2) w49_2 ∧ R (.returned (.tuple #[.float .f64 f49_2, .bool true])) w49_2)))
  (Br ((FloatKind.f64.format.order f14 4831355200913801216 == some Ordering.gt))
  (R (.returned (.tuple #[.float .f64 f14, .bool false])) w14)
  (Br ((FloatKind.f64.format.order f14 14054727237768577024 == some Ordering.lt))
  (R (.returned (.tuple #[.float .f64 f14, .bool false])) w14)
  (∃ (p45_3 : Option Addr) (l45_3 c45_3 : Nat), w14.cell? ⟨12, 0, none⟩ = some (.slice p45_3 l45_3 c45_3) ∧ ((0 : Int) ≤ a1 ∧ a1 < (l45_3 : Int)) ∧ ∃ b47_3 o47_3, p45_3 = some ⟨b47_3, o47_3, none⟩ ∧ ∃ f48_3 : Nat, w14.cell? ⟨b47_3, o47_3 + (a1).toNat, none⟩ = some (.float .f64 f48_3) ∧ ∃ f49_3 : Nat, ∃ w49_3, (binOp .mul 22 (.float .f64 f14) (.float .f64 f48_3)).run Tryz.prog w14 = .ok (.float .f64 f49_3) w49_3 ∧ R (.returned (.tuple #[.float .f64 f49_3, .bool true])) w49_3))))
  (Br (decide (a1 < 0))
  (Br (decide (a1 ≥ (-22)))
  (∃ (p58_2 : Option Addr) (l58_2 c58_2 : Nat), w14.cell? ⟨12, 0, none⟩ = some (.slice p58_2 l58_2 c58_2) ∧ InK .i64 (0 - a1) ∧ ((0 : Int) ≤ (0 - a1) ∧ (0 - a1) < (l58_2 : Int)) ∧ ∃ b61_2 o61_2, p58_2 = some ⟨b61_2, o61_2, none⟩ ∧ ∃ f62_2 : Nat, w14.cell? ⟨b61_2, o61_2 + (0 - a1).toNat, none⟩ = some (.float .f64 f62_2) ∧ ∃ f63_2 : Nat, ∃ w63_2, (binOp .quo 22 (.float .f64 f14) (.float .f64 f62_2)).run Tryz.prog w14 = .ok (.float .f64 f63_2) w63_2 ∧ R (.returned (.tuple #[.float .f64 f63_2, .bool true])) w63_2)
  (R (.returned (.tuple #[.float .f64 f14, .bool false])) w14))
  (R (.returned (.tuple #[.float .f64 f14, .bool false])) w14)))
  (Br (decide (a1 < 0))
  (Br (decide (a1 ≥ (-22)))
  (∃ (p58_3 : Option Addr) (l58_3 c58_3 : Nat), w14.cell? ⟨12, 0, none⟩ = some (.slice p58_3 l58_3 c58_3) ∧ InK .i64 (0 - a1) ∧ ((0 : Int) ≤ (0 - a1) ∧ (0 - a1) < (l58_3 : Int)) ∧ ∃ b61_3 o61_3, p58_3 = some ⟨b61_3, o61_3, none⟩ ∧ ∃ f62_3 : Nat, w14.cell? ⟨b61_3, o61_3 + (0 - a1).toNat, none⟩ = some (.float .f64 f62_3) ∧ ∃ f63_3 : Nat, ∃ w63_3, (binOp .quo 22 (.float .f64 f14) (.float .f64 f62_3)).run Tryz.prog w14 = .ok (.float .f64 f63_3) w63_3 ∧ R (.returned (.tuple #[.float .f64 f63_3, .bool true])) w63_3)
  (R (.returned (.tuple #[.float .f64 f14, .bool false])) w14))
  (R (.returned (.tuple #[.float .f64 f14, .bool false])) w14)))))
def f122_ann : Ann := { loops := [], cuts := [], flip := [], throws := [] }
theorem f122_eq (a0 : Int) (a1 : Int) (a2 : Bool) (w : World) (R : Ending → World → Prop) : vc Tryz.prog f122_ann (bodyOf Tryz.f122) (retQ Tryz.prog Tryz.f122 R) (envOf Tryz.f122.ntmps [.v (.int .u64 a0), .v (.int .i64 a1), .v (.bool a2)]) [] w = f122_vc a0 a1 a2 w R := by kernel_rfl
theorem f122_does (a0 : Int) (a1 : Int) (a2 : Bool) {w : World} {R : Ending → World → Prop} (h : f122_vc a0 a1 a2 w R) : Does Tryz.prog 122 #[.int .u64 a0, .int .i64 a1, .bool a2] w R :=
  does_of_vc (ss := [.v (.int .u64 a0), .v (.int .i64 a1), .v (.bool a2)]) f122_ann mixed call122 Tryz.func122 rfl rfl (show 3 ≤ Tryz.f122.ntmps by decide) ((f122_eq a0 a1 a2 w R).symm ▸ h)
/-- Of internal/strconv.commonPrefixLenIgnoreCase (function 129): the condition. -/
def f129_vc (a0 : ByteArray) (a1 : ByteArray) (w : World) (R : Ending → World → Prop) : Prop :=
  ∃ I3 : Int → Nat → World → Prop, (∃ nl3, I3 0 nl3 w) ∧ ∀ x6 : Int, ∀ (nl3 : Nat) (wl3 : World), I3 x6 nl3 wl3 →
  Br (decide (x6 < (if (a0.size : Int) < (a1.size : Int) then (a0.size : Int) else (a1.size : Int))))
  (((0 : Int) ≤ x6 ∧ x6 < (a0.size : Int)) ∧ Br (decide ((65 : Int) ≤ (sb a0 x6)))
  (Br (decide ((sb a0 x6) ≤ 90))
  (((0 : Int) ≤ x6 ∧ x6 < (a1.size : Int)) ∧ Br ((IntKind.wrap .u8 ((sb a0 x6) + 32)) != (sb a1 x6))
  (R (.returned (.int .i64 x6)) wl3)
  (InK .i64 (x6 + 1) ∧ ∃ ml3, ml3 < nl3 ∧ I3 (x6 + 1) ml3 wl3))
  (((0 : Int) ≤ x6 ∧ x6 < (a1.size : Int)) ∧ Br ((sb a0 x6) != (sb a1 x6))
  (R (.returned (.int .i64 x6)) wl3)
  (InK .i64 (x6 + 1) ∧ ∃ ml3, ml3 < nl3 ∧ I3 (x6 + 1) ml3 wl3)))
  (((0 : Int) ≤ x6 ∧ x6 < (a1.size : Int)) ∧ Br ((sb a0 x6) != (sb a1 x6))
  (R (.returned (.int .i64 x6)) wl3)
  (InK .i64 (x6 + 1) ∧ ∃ ml3, ml3 < nl3 ∧ I3 (x6 + 1) ml3 wl3)))
  (R (.returned (.int .i64 (if (a0.size : Int) < (a1.size : Int) then (a0.size : Int) else (a1.size : Int)))) wl3)
def f129_ann : Ann := { loops := [(3, [(6, .int .i64)])], cuts := [], flip := [], throws := [] }
theorem f129_eq (a0 : ByteArray) (a1 : ByteArray) (w : World) (R : Ending → World → Prop) : vc Tryz.prog f129_ann (bodyOf Tryz.f129) (retQ Tryz.prog Tryz.f129 R) (envOf Tryz.f129.ntmps [.v (.string a0), .v (.string a1)]) [] w = f129_vc a0 a1 w R := by kernel_rfl
theorem f129_does (a0 : ByteArray) (a1 : ByteArray) {w : World} {R : Ending → World → Prop} (h : f129_vc a0 a1 w R) : Does Tryz.prog 129 #[.string a0, .string a1] w R :=
  does_of_vc (ss := [.v (.string a0), .v (.string a1)]) f129_ann mixed call129 Tryz.func129 rfl rfl (show 2 ≤ Tryz.f129.ntmps by decide) ((f129_eq a0 a1 w R).symm ▸ h)
/-- Of internal/strconv.inf (function 130): the condition. -/
def f130_vc (a0 : Int) (w : World) (R : Ending → World → Prop) : Prop :=
  Br (decide (a0 ≥ 0))
  (Does Tryz.prog 121 #[.int .u64 9218868437227405312] w fun e7 w7 =>
  ∃ f7 : Nat, e7 = .returned (.float .f64 f7) ∧ R (.returned (.float .f64 f7)) w7)
  (Does Tryz.prog 121 #[.int .u64 18442240474082181120] w fun e7_1 w7_1 =>
  ∃ f7_1 : Nat, e7_1 = .returned (.float .f64 f7_1) ∧ R (.returned (.float .f64 f7_1)) w7_1)
def f130_ann : Ann := { loops := [], cuts := [], flip := [], throws := [] }
theorem f130_eq (a0 : Int) (w : World) (R : Ending → World → Prop) : vc Tryz.prog f130_ann (bodyOf Tryz.f130) (retQ Tryz.prog Tryz.f130 R) (envOf Tryz.f130.ntmps [.v (.int .i64 a0)]) [] w = f130_vc a0 w R := by kernel_rfl
theorem f130_does (a0 : Int) {w : World} {R : Ending → World → Prop} (h : f130_vc a0 w R) : Does Tryz.prog 130 #[.int .i64 a0] w R :=
  does_of_vc (ss := [.v (.int .i64 a0)]) f130_ann mixed call130 Tryz.func130 rfl rfl (show 1 ≤ Tryz.f130.ntmps by decide) ((f130_eq a0 w R).symm ▸ h)
/-- Of internal/strconv.nan (function 131): the condition. -/
def f131_vc  (w : World) (R : Ending → World → Prop) : Prop :=
  Does Tryz.prog 121 #[.int .u64 9221120237041090561] w fun e1 w1 =>
  ∃ f1 : Nat, e1 = .returned (.float .f64 f1) ∧ R (.returned (.float .f64 f1)) w1
def f131_ann : Ann := { loops := [], cuts := [], flip := [], throws := [] }
theorem f131_eq  (w : World) (R : Ending → World → Prop) : vc Tryz.prog f131_ann (bodyOf Tryz.f131) (retQ Tryz.prog Tryz.f131 R) (envOf Tryz.f131.ntmps []) [] w = f131_vc  w R := by kernel_rfl
theorem f131_does  {w : World} {R : Ending → World → Prop} (h : f131_vc  w R) : Does Tryz.prog 131 #[] w R :=
  does_of_vc (ss := []) f131_ann mixed call131 Tryz.func131 rfl rfl (show 0 ≤ Tryz.f131.ntmps by decide) ((f131_eq  w R).symm ▸ h)
/-- Of internal/strconv.lower (function 132): the condition. -/
def f132_vc (a0 : Int) (w : World) (R : Ending → World → Prop) : Prop :=
  R (.returned (.int .u8 (bits .or .u8 a0 32))) w
def f132_ann : Ann := { loops := [], cuts := [], flip := [], throws := [] }
theorem f132_eq (a0 : Int) (w : World) (R : Ending → World → Prop) : vc Tryz.prog f132_ann (bodyOf Tryz.f132) (retQ Tryz.prog Tryz.f132 R) (envOf Tryz.f132.ntmps [.v (.int .u8 a0)]) [] w = f132_vc a0 w R := by kernel_rfl
theorem f132_does (a0 : Int) {w : World} {R : Ending → World → Prop} (h : f132_vc a0 w R) : Does Tryz.prog 132 #[.int .u8 a0] w R :=
  does_of_vc (ss := [.v (.int .u8 a0)]) f132_ann mixed call132 Tryz.func132 rfl rfl (show 1 ≤ Tryz.f132.ntmps by decide) ((f132_eq a0 w R).symm ▸ h)
/-- Of internal/strconv.underscoreOK (function 133): the condition. -/
def f133_vc (a0 : ByteArray) (w : World) (R : Ending → World → Prop) : Prop :=
  ∃ J5 : ByteArray → Nat → World → Prop, (Br (decide (((a0.size : Int)) ≥ 1))
  (((0 : Int) ≤ 0 ∧ 0 < (a0.size : Int)) ∧ Br ((sb a0 0) == 45)
  (((0 : Int) ≤ 1 ∧ 1 ≤ (a0.size : Int)) ∧ ∃ nc5, J5 (a0.extract ((1 : Int).toNat) a0.size) nc5 w)
  (((0 : Int) ≤ 0 ∧ 0 < (a0.size : Int)) ∧ Br ((sb a0 0) == 43)
  (((0 : Int) ≤ 1 ∧ 1 ≤ (a0.size : Int)) ∧ ∃ nc5, J5 (a0.extract ((1 : Int).toNat) a0.size) nc5 w)
  (∃ nc5, J5 a0 nc5 w)))
  (∃ nc5, J5 a0 nc5 w)) ∧ ∀ s0 : ByteArray, ∀ (nc5 : Nat) (wc5 : World), J5 s0 nc5 wc5 →
  ∃ J10 : Int → Int → Bool → Nat → World → Prop, (Br (decide (((s0.size : Int)) ≥ 2))
  (((0 : Int) ≤ 0 ∧ 0 < (s0.size : Int)) ∧ Br ((sb s0 0) == 48)
  (((0 : Int) ≤ 1 ∧ 1 < (s0.size : Int)) ∧ Does Tryz.prog 132 #[.int .u8 (sb s0 1)] wc5 fun e32 w32 =>
  ∃ n32 : Int, e32 = .returned (.int .u8 n32) ∧ Br (n32 == 98)
  (((0 : Int) ≤ 1 ∧ 1 < (s0.size : Int)) ∧ Does Tryz.prog 132 #[.int .u8 (sb s0 1)] w32 fun e49 w49 =>
  ∃ n49 : Int, e49 = .returned (.int .u8 n49) ∧ ∃ nc10, J10 48 2 (n49 == 120) nc10 w49)
  (((0 : Int) ≤ 1 ∧ 1 < (s0.size : Int)) ∧ Does Tryz.prog 132 #[.int .u8 (sb s0 1)] w32 fun e37 w37 =>
  ∃ n37 : Int, e37 = .returned (.int .u8 n37) ∧ Br (n37 == 111)
  (((0 : Int) ≤ 1 ∧ 1 < (s0.size : Int)) ∧ Does Tryz.prog 132 #[.int .u8 (sb s0 1)] w37 fun e49_1 w49_1 =>
  ∃ n49_1 : Int, e49_1 = .returned (.int .u8 n49_1) ∧ ∃ nc10, J10 48 2 (n49_1 == 120) nc10 w49_1)
  (((0 : Int) ≤ 1 ∧ 1 < (s0.size : Int)) ∧ Does Tryz.prog 132 #[.int .u8 (sb s0 1)] w37 fun e43 w43 =>
  ∃ n43 : Int, e43 = .returned (.int .u8 n43) ∧ Br (n43 == 120)
  (((0 : Int) ≤ 1 ∧ 1 < (s0.size : Int)) ∧ Does Tryz.prog 132 #[.int .u8 (sb s0 1)] w43 fun e49_2 w49_2 =>
  ∃ n49_2 : Int, e49_2 = .returned (.int .u8 n49_2) ∧ ∃ nc10, J10 48 2 (n49_2 == 120) nc10 w49_2)
  (∃ nc10, J10 94 0 false nc10 w43))))
  (∃ nc10, J10 94 0 false nc10 wc5))
  (∃ nc10, J10 94 0 false nc10 wc5)) ∧ ∀ x3 : Int, ∀ x4 : Int, ∀ b5 : Bool, ∀ (nc10 : Nat) (wc10 : World), J10 x3 x4 b5 nc10 wc10 →
  ∃ I10 : Int → Int → Nat → World → Prop, (∃ nl10, I10 x3 x4 nl10 wc10) ∧ ∀ x3_1 : Int, ∀ x4_1 : Int, ∀ (nl10 : Nat) (wl10 : World), I10 x3_1 x4_1 nl10 wl10 →
  Br (decide (x4_1 < ((s0.size : Int))))
  (∃ J11 : Int → Nat → World → Prop, (∃ J14 : Int → Nat → World → Prop, (((0 : Int) ≤ x4_1 ∧ x4_1 < (s0.size : Int)) ∧ Br (decide ((48 : Int) ≤ (sb s0 x4_1)))
  (((0 : Int) ≤ x4_1 ∧ x4_1 < (s0.size : Int)) ∧ Br (decide ((sb s0 x4_1) ≤ 57))
  (∃ nc11, J11 48 nc11 wl10)
  (Br b5
  (((0 : Int) ≤ x4_1 ∧ x4_1 < (s0.size : Int)) ∧ Does Tryz.prog 132 #[.int .u8 (sb s0 x4_1)] wl10 fun e73 w73 =>
  ∃ n73 : Int, e73 = .returned (.int .u8 n73) ∧ Br (decide ((97 : Int) ≤ n73))
  (((0 : Int) ≤ x4_1 ∧ x4_1 < (s0.size : Int)) ∧ Does Tryz.prog 132 #[.int .u8 (sb s0 x4_1)] w73 fun e80 w80 =>
  ∃ n80 : Int, e80 = .returned (.int .u8 n80) ∧ Br (decide (n80 ≤ 102))
  (∃ nc11, J11 48 nc11 w80)
  (∃ nc14, J14 x3_1 nc14 w80))
  (∃ nc14, J14 x3_1 nc14 w73))
  (∃ nc14, J14 x3_1 nc14 wl10)))
  (Br b5
  (((0 : Int) ≤ x4_1 ∧ x4_1 < (s0.size : Int)) ∧ Does Tryz.prog 132 #[.int .u8 (sb s0 x4_1)] wl10 fun e73_1 w73_1 =>
  ∃ n73_1 : Int, e73_1 = .returned (.int .u8 n73_1) ∧ Br (decide ((97 : Int) ≤ n73_1))
  (((0 : Int) ≤ x4_1 ∧ x4_1 < (s0.size : Int)) ∧ Does Tryz.prog 132 #[.int .u8 (sb s0 x4_1)] w73_1 fun e80_1 w80_1 =>
  ∃ n80_1 : Int, e80_1 = .returned (.int .u8 n80_1) ∧ Br (decide (n80_1 ≤ 102))
  (∃ nc11, J11 48 nc11 w80_1)
  (∃ nc14, J14 x3_1 nc14 w80_1))
  (∃ nc14, J14 x3_1 nc14 w73_1))
  (∃ nc14, J14 x3_1 nc14 wl10))) ∧ ∀ x3_2 : Int, ∀ (nc14 : Nat) (wc14 : World), J14 x3_2 nc14 wc14 →
  ((0 : Int) ≤ x4_1 ∧ x4_1 < (s0.size : Int)) ∧ Br ((sb s0 x4_1) == 95)
  (Br (x3_2 != 48)
  (R (.returned (.bool false)) wc14)
  (∃ nc11, J11 95 nc11 wc14))
  (Br (x3_2 == 95)
  (R (.returned (.bool false)) wc14)
  (∃ nc11, J11 33 nc11 wc14))) ∧ ∀ x3_3 : Int, ∀ (nc11 : Nat) (wc11 : World), J11 x3_3 nc11 wc11 →
  InK .i64 (x4_1 + 1) ∧ ∃ ml10, ml10 < nl10 ∧ I10 x3_3 (x4_1 + 1) ml10 wc11)
  (R (.returned (.bool (x3_1 != 95))) wl10)
def f133_ann : Ann := { loops := [(10, [(3, .int .i32), (4, .int .i64)])], cuts := [(5, [(0, .str)]), (10, [(3, .int .i32), (4, .int .i64), (5, .bool)]), (11, [(3, .int .i32)]), (14, [(3, .int .i32)])], flip := [], throws := [] }
theorem f133_eq (a0 : ByteArray) (w : World) (R : Ending → World → Prop) : vc Tryz.prog f133_ann (bodyOf Tryz.f133) (retQ Tryz.prog Tryz.f133 R) (envOf Tryz.f133.ntmps [.v (.string a0)]) [] w = f133_vc a0 w R := by kernel_rfl
theorem f133_does (a0 : ByteArray) {w : World} {R : Ending → World → Prop} (h : f133_vc a0 w R) : Does Tryz.prog 133 #[.string a0] w R :=
  does_of_vc (ss := [.v (.string a0)]) f133_ann mixed call133 Tryz.func133 rfl rfl (show 1 ≤ Tryz.f133.ntmps by decide) ((f133_eq a0 w R).symm ▸ h)
end Go.Proofs.YtffhlgejfgmpiaaGreatDoor
