/-
  Of each function of the code: its verification condition, and that it suffices.
-/
import Derived.Test.YtlenmnffdbgkkaaVcDoes
import Derived.Test.YtlenmnffdbgkkaaProg
set_option maxRecDepth 100000
namespace Go.Proofs.Ytlenmnffdbgkkaa
open Go.RowKit Go.Vc
def bodyOf (fn : Func) : Code := match fn.body with | some c => c | none => .skip
theorem mixed : Try.prog.follows .mixedOrders = true := by kernel_rfl
theorem call3 : callableB Try.prog 3 = true := by kernel_rfl
theorem call4 : callableB Try.prog 4 = true := by kernel_rfl
theorem call5 : callableB Try.prog 5 = true := by kernel_rfl
theorem call6 : callableB Try.prog 6 = true := by kernel_rfl
theorem call7 : callableB Try.prog 7 = true := by kernel_rfl
theorem call8 : callableB Try.prog 8 = true := by kernel_rfl
theorem call9 : callableB Try.prog 9 = true := by kernel_rfl
theorem call10 : callableB Try.prog 10 = true := by kernel_rfl
theorem call11 : callableB Try.prog 11 = true := by kernel_rfl
theorem call12 : callableB Try.prog 12 = true := by kernel_rfl
theorem call13 : callableB Try.prog 13 = true := by kernel_rfl
theorem call14 : callableB Try.prog 14 = true := by kernel_rfl
theorem call15 : callableB Try.prog 15 = true := by kernel_rfl
theorem call16 : callableB Try.prog 16 = true := by kernel_rfl
theorem call17 : callableB Try.prog 17 = true := by kernel_rfl
theorem call18 : callableB Try.prog 18 = true := by kernel_rfl
theorem call19 : callableB Try.prog 19 = true := by kernel_rfl
theorem call20 : callableB Try.prog 20 = true := by kernel_rfl
theorem call21 : callableB Try.prog 21 = true := by kernel_rfl
theorem call22 : callableB Try.prog 22 = true := by kernel_rfl
theorem call23 : callableB Try.prog 23 = true := by kernel_rfl
theorem call24 : callableB Try.prog 24 = true := by kernel_rfl
theorem call25 : callableB Try.prog 25 = true := by kernel_rfl
theorem call26 : callableB Try.prog 26 = true := by kernel_rfl
theorem call27 : callableB Try.prog 27 = true := by kernel_rfl
theorem call28 : callableB Try.prog 28 = true := by kernel_rfl
theorem call29 : callableB Try.prog 29 = true := by kernel_rfl
theorem call30 : callableB Try.prog 30 = true := by kernel_rfl
theorem call31 : callableB Try.prog 31 = true := by kernel_rfl
theorem call32 : callableB Try.prog 32 = true := by kernel_rfl
theorem call33 : callableB Try.prog 33 = true := by kernel_rfl
theorem call34 : callableB Try.prog 34 = true := by kernel_rfl
theorem call35 : callableB Try.prog 35 = true := by kernel_rfl
theorem call36 : callableB Try.prog 36 = true := by kernel_rfl
theorem call37 : callableB Try.prog 37 = true := by kernel_rfl
theorem call38 : callableB Try.prog 38 = true := by kernel_rfl
theorem call39 : callableB Try.prog 39 = true := by kernel_rfl
theorem call40 : callableB Try.prog 40 = true := by kernel_rfl
theorem call41 : callableB Try.prog 41 = true := by kernel_rfl
theorem call42 : callableB Try.prog 42 = true := by kernel_rfl
theorem call43 : callableB Try.prog 43 = true := by kernel_rfl
theorem call44 : callableB Try.prog 44 = true := by kernel_rfl
theorem call45 : callableB Try.prog 45 = true := by kernel_rfl
theorem call46 : callableB Try.prog 46 = true := by kernel_rfl
theorem call47 : callableB Try.prog 47 = true := by kernel_rfl
theorem call49 : callableB Try.prog 49 = true := by kernel_rfl
theorem call50 : callableB Try.prog 50 = true := by kernel_rfl
theorem call51 : callableB Try.prog 51 = true := by kernel_rfl
theorem call52 : callableB Try.prog 52 = true := by kernel_rfl
theorem call53 : callableB Try.prog 53 = true := by kernel_rfl
theorem call54 : callableB Try.prog 54 = true := by kernel_rfl
theorem call55 : callableB Try.prog 55 = true := by kernel_rfl
theorem call56 : callableB Try.prog 56 = true := by kernel_rfl
theorem call57 : callableB Try.prog 57 = true := by kernel_rfl
theorem call58 : callableB Try.prog 58 = true := by kernel_rfl
theorem call59 : callableB Try.prog 59 = true := by kernel_rfl
theorem call60 : callableB Try.prog 60 = true := by kernel_rfl
theorem call61 : callableB Try.prog 61 = true := by kernel_rfl
theorem call62 : callableB Try.prog 62 = true := by kernel_rfl
/-- Of escritoire/escritoirelaw20.StateKnown (function 3): the condition. -/
def f3_vc  (w : World) (R : Ending → World → Prop) : Prop :=
  Does Try.prog 8 #[] w fun e15 w15 =>
  ∃ b15 : Bool, e15 = .returned (.bool b15) ∧ Br (!b15)
  (R (.returned (.bool false)) w15)
  (Does Try.prog 9 #[] w15 fun e17 w17 =>
  ∃ p17 : Option Addr, e17 = .returned (.pointer p17) ∧ Does Try.prog 10 #[.pointer p17, .slice none 0 0] w17 fun e20 w20 =>
  ∃ (p20 : Option Addr) (l20 c20 : Nat), ∃ n20 : Int, e20 = .returned (.tuple #[.slice p20 l20 c20, .int .i64 n20]) ∧ ((0 : Int) ≤ 8 ∧ 8 ≤ (c20 : Int)) ∧ Does Try.prog 11 #[.slice (subp p20 0 c20 1) (((8 : Int).toNat) - 0) (c20 - 0)] w20 fun e26 w26 =>
  ∃ p26 : Option Addr, ∃ (p26_1 : Option Addr) (l26 c26 : Nat), ∃ n26 : Int, e26 = .returned (.tuple #[.pointer p26, .slice p26_1 l26 c26, .int .i64 n26]) ∧ Does Try.prog 12 #[.slice p20 l20 c20] w26 fun e32 w32 =>
  ∃ (p32 : Option Addr) (l32 c32 : Nat), e32 = .returned (.slice p32 l32 c32) ∧ ∀ b33 w33, NewBlk w32 b33 [.int .u8 0] 5 w33 →
  ∃ (p34 : Option Addr) (l34 c34 : Nat) (w34 : World), (Builtin.append_ #[25, 25] 25 #[.slice p32 l32 c32, .slice (some ⟨b33, 0, none⟩) 1 1]).run Try.prog w33 = .ok (.slice p34 l34 c34) w34 ∧
  Does Try.prog 11 #[.slice p34 l34 c34] w34 fun e35 w35 =>
  ∃ p35 : Option Addr, ∃ (p35_1 : Option Addr) (l35 c35 : Nat), ∃ n35 : Int, e35 = .returned (.tuple #[.pointer p35, .slice p35_1 l35 c35, .int .i64 n35]) ∧ Does Try.prog 11 #[.slice none 0 0] w35 fun e40 w40 =>
  ∃ p40 : Option Addr, ∃ (p40_1 : Option Addr) (l40 c40 : Nat), ∃ n40 : Int, e40 = .returned (.tuple #[.pointer p40, .slice p40_1 l40 c40, .int .i64 n40]) ∧ Does Try.prog 10 #[.pointer none, .slice none 0 0] w40 fun e45 w45 =>
  ∃ (p45 : Option Addr) (l45 c45 : Nat), ∃ n45 : Int, e45 = .returned (.tuple #[.slice p45 l45 c45, .int .i64 n45]) ∧ Br (n20 == 0)
  (∀ b52 w52, NewBlk w45 b52 [.int .u8 0, .int .u8 0, .int .u8 0, .int .u8 1, .int .u8 0, .int .u8 0, .int .u8 0, .int .u8 0, .int .u8 0] 5 w52 →
  Does Try.prog 13 #[.slice p20 l20 c20, .slice (some ⟨b52, 0, none⟩) 9 9] w52 fun e53 w53 =>
  ∃ b53 : Bool, e53 = .returned (.bool b53) ∧ Br b53
  (Br (n26 == 2)
  (Br (n35 == 3)
  (Br (n40 == 0)
  (Br (!p40.isNone)
  (Does Try.prog 14 #[.pointer p40] w53 fun e73 w73 =>
  ∃ n73 : Int, e73 = .returned (.int .i64 n73) ∧ Br (n73 == 1)
  (Br (((l40 : Int)) == 0)
  (R (.returned (.bool (n45 == 1))) w73)
  (R (.returned (.bool false)) w73))
  (R (.returned (.bool false)) w73))
  (R (.returned (.bool false)) w53))
  (R (.returned (.bool false)) w53))
  (R (.returned (.bool false)) w53))
  (R (.returned (.bool false)) w53))
  (R (.returned (.bool false)) w53))
  (R (.returned (.bool false)) w45))
def f3_ann : Ann := { loops := [], cuts := [], flip := [], throws := [] }
theorem f3_eq  (w : World) (R : Ending → World → Prop) : vc Try.prog f3_ann (bodyOf Try.f3) (retQ Try.prog Try.f3 R) (envOf Try.f3.ntmps []) [] w = f3_vc  w R := by kernel_rfl
theorem f3_does  {w : World} {R : Ending → World → Prop} (h : f3_vc  w R) : Does Try.prog 3 #[] w R :=
  does_of_vc (ss := []) f3_ann mixed call3 Try.func3 rfl rfl (show 0 ≤ Try.f3.ntmps by decide) ((f3_eq  w R).symm ▸ h)
/-- Of escritoire/escritoirelaw20.StateEncodes (function 4): the condition. -/
def f4_vc (p0 : Option Addr) (l0 c0 : Nat) (a1 : Int) (p2 : Option Addr) (l2 c2 : Nat) (w : World) (R : Ending → World → Prop) : Prop :=
  Does Try.prog 8 #[] w fun e17 w17 =>
  ∃ b17 : Bool, e17 = .returned (.bool b17) ∧ Br (!b17)
  (R (.returned (.bool false)) w17)
  (Does Try.prog 15 #[.slice p0 l0 c0] w17 fun e20 w20 =>
  ∃ b20 : Bool, e20 = .returned (.bool b20) ∧ Br (!b20)
  (R (.returned (.bool true)) w20)
  (Br (decide (((l2 : Int)) > 60))
  (R (.returned (.bool true)) w20)
  (Does Try.prog 16 #[.slice p0 l0 c0, .int .i64 a1] w20 fun e30 w30 =>
  ∃ p30 : Option Addr, ∃ n30 : Int, e30 = .returned (.tuple #[.pointer p30, .int .i64 n30]) ∧ Does Try.prog 17 #[.slice p0 l0 c0, .int .i64 a1] w30 fun e36 w36 =>
  ∃ p36 : Option Addr, ∃ n36 : Int, e36 = .returned (.tuple #[.pointer p36, .int .i64 n36]) ∧ Br (n30 != 0)
  (R (.returned (.bool (n30 == n36))) w36)
  (Br (n36 != 0)
  (R (.returned (.bool (n30 == n36))) w36)
  (Does Try.prog 10 #[.pointer p30, .slice p2 l2 c2] w36 fun e51 w51 =>
  ∃ (p51 : Option Addr) (l51 c51 : Nat), ∃ n51 : Int, e51 = .returned (.tuple #[.slice p51 l51 c51, .int .i64 n51]) ∧ Does Try.prog 18 #[.pointer p36, .slice p2 l2 c2] w51 fun e57 w57 =>
  ∃ (p57 : Option Addr) (l57 c57 : Nat), ∃ n57 : Int, e57 = .returned (.tuple #[.slice p57 l57 c57, .int .i64 n57]) ∧ Br (n51 != n57)
  (R (.returned (.bool false)) w57)
  (Does Try.prog 13 #[.slice p51 l51 c51, .slice p57 l57 c57] w57 fun e66 w66 =>
  ∃ b66 : Bool, e66 = .returned (.bool b66) ∧ Br (!b66)
  (R (.returned (.bool false)) w66)
  (Br (n57 != 0)
  (R (.returned (.bool true)) w66)
  (Does Try.prog 11 #[.slice p51 l51 c51] w66 fun e73 w73 =>
  ∃ p73 : Option Addr, ∃ (p73_1 : Option Addr) (l73 c73 : Nat), ∃ n73 : Int, e73 = .returned (.tuple #[.pointer p73, .slice p73_1 l73 c73, .int .i64 n73]) ∧ Br (n73 == 0)
  (Does Try.prog 20 #[.pointer p73] w73 fun e81 w81 =>
  ∃ (p81 : Option Addr) (l81 c81 : Nat), e81 = .returned (.slice p81 l81 c81) ∧ Does Try.prog 19 #[.slice p81 l81 c81, .slice p0 l0 c0] w81 fun e83 w83 =>
  ∃ b83 : Bool, e83 = .returned (.bool b83) ∧ Br b83
  (Does Try.prog 21 #[.pointer p73] w83 fun e87 w87 =>
  ∃ n87 : Int, e87 = .returned (.int .i64 n87) ∧ Br (n87 == a1)
  (Does Try.prog 22 #[.slice p73_1 l73 c73, .slice p2 l2 c2] w87 fun e94 w94 =>
  ∃ b94 : Bool, e94 = .returned (.bool b94) ∧ R (.returned (.bool b94)) w94)
  (R (.returned (.bool false)) w87))
  (R (.returned (.bool false)) w83))
  (R (.returned (.bool false)) w73)))))))))
def f4_ann : Ann := { loops := [], cuts := [], flip := [], throws := [] }
theorem f4_eq (p0 : Option Addr) (l0 c0 : Nat) (a1 : Int) (p2 : Option Addr) (l2 c2 : Nat) (w : World) (R : Ending → World → Prop) : vc Try.prog f4_ann (bodyOf Try.f4) (retQ Try.prog Try.f4 R) (envOf Try.f4.ntmps [.v (.slice p0 l0 c0), .v (.int .i64 a1), .v (.slice p2 l2 c2)]) [] w = f4_vc p0 l0 c0 a1 p2 l2 c2 w R := by kernel_rfl
theorem f4_does (p0 : Option Addr) (l0 c0 : Nat) (a1 : Int) (p2 : Option Addr) (l2 c2 : Nat) {w : World} {R : Ending → World → Prop} (h : f4_vc p0 l0 c0 a1 p2 l2 c2 w R) : Does Try.prog 4 #[.slice p0 l0 c0, .int .i64 a1, .slice p2 l2 c2] w R :=
  does_of_vc (ss := [.v (.slice p0 l0 c0), .v (.int .i64 a1), .v (.slice p2 l2 c2)]) f4_ann mixed call4 Try.func4 rfl rfl (show 3 ≤ Try.f4.ntmps by decide) ((f4_eq p0 l0 c0 a1 p2 l2 c2 w R).symm ▸ h)
/-- Of escritoire/escritoirelaw20.StateDecodes (function 5): the condition. -/
def f5_vc (p0 : Option Addr) (l0 c0 : Nat) (w : World) (R : Ending → World → Prop) : Prop :=
  Does Try.prog 8 #[] w fun e11 w11 =>
  ∃ b11 : Bool, e11 = .returned (.bool b11) ∧ Br (!b11)
  (R (.returned (.bool false)) w11)
  (Br (decide (((l0 : Int)) > 5000))
  (R (.returned (.bool true)) w11)
  (Does Try.prog 11 #[.slice p0 l0 c0] w11 fun e18 w18 =>
  ∃ p18 : Option Addr, ∃ (p18_1 : Option Addr) (l18 c18 : Nat), ∃ n18 : Int, e18 = .returned (.tuple #[.pointer p18, .slice p18_1 l18 c18, .int .i64 n18]) ∧ Does Try.prog 23 #[.slice p0 l0 c0] w18 fun e24 w24 =>
  ∃ p24 : Option Addr, ∃ (p24_1 : Option Addr) (l24 c24 : Nat), ∃ n24 : Int, e24 = .returned (.tuple #[.pointer p24, .slice p24_1 l24 c24, .int .i64 n24]) ∧ Br (n18 != n24)
  (R (.returned (.bool false)) w24)
  (Br (n24 != 0)
  (Br p18.isNone
  (R (.returned (.bool (((l18 : Int)) == 0))) w24)
  (R (.returned (.bool false)) w24))
  (Does Try.prog 10 #[.pointer p18, .slice p18_1 l18 c18] w24 fun e43 w43 =>
  ∃ (p43 : Option Addr) (l43 c43 : Nat), ∃ n43 : Int, e43 = .returned (.tuple #[.slice p43 l43 c43, .int .i64 n43]) ∧ ∀ wd12, Drew w43 wd12 →
  ∃ S12 : World → Prop, S12 wd12 ∧ Does Try.prog 20 #[.pointer p18] wd12 fun e47 w47 =>
  ∃ (p47 : Option Addr) (l47 c47 : Nat), e47 = .returned (.slice p47 l47 c47) ∧ S12 w47 ∧ ∃ b49 o49, p24 = some ⟨b49, o49, none⟩ ∧ ∃ (p51 : Option Addr) (l51 c51 : Nat), (∀ w, S12 w → w.cell? ⟨b49, o49, none⟩ = some (.slice p51 l51 c51)) ∧ Does Try.prog 19 #[.slice p47 l47 c47, .slice p51 l51 c51] w47 fun e52 w52 =>
  ∃ b52 : Bool, e52 = .returned (.bool b52) ∧ S12 w52 ∧ Br b52
  (Does Try.prog 21 #[.pointer p18] w52 fun e55 w55 =>
  ∃ n55 : Int, e55 = .returned (.int .i64 n55) ∧ S12 w55 ∧ ∃ b57 o57, p24 = some ⟨b57, o57, none⟩ ∧ ∃ n59 : Int, (∀ w, S12 w → w.cell? ⟨b57, o57 + 1, none⟩ = some (.int .i64 n59)) ∧ Br (n55 == n59)
  (Does Try.prog 22 #[.slice p18_1 l18 c18, .slice p24_1 l24 c24] w55 fun e65 w65 =>
  ∃ b65 : Bool, e65 = .returned (.bool b65) ∧ Br b65
  (Br (n43 == 0)
  (Br (((l0 : Int)) == 0)
  (R (.returned (.bool true)) w65)
  (Does Try.prog 13 #[.slice p0 l0 c0, .slice p43 l43 c43] w65 fun e78 w78 =>
  ∃ b78 : Bool, e78 = .returned (.bool b78) ∧ R (.returned (.bool b78)) w78))
  (R (.returned (.bool false)) w65))
  (R (.returned (.bool false)) w65))
  (R (.returned (.bool false)) w55))
  (R (.returned (.bool false)) w52)))))
def f5_ann : Ann := { loops := [], cuts := [], flip := [], throws := [] }
theorem f5_eq (p0 : Option Addr) (l0 c0 : Nat) (w : World) (R : Ending → World → Prop) : vc Try.prog f5_ann (bodyOf Try.f5) (retQ Try.prog Try.f5 R) (envOf Try.f5.ntmps [.v (.slice p0 l0 c0)]) [] w = f5_vc p0 l0 c0 w R := by kernel_rfl
theorem f5_does (p0 : Option Addr) (l0 c0 : Nat) {w : World} {R : Ending → World → Prop} (h : f5_vc p0 l0 c0 w R) : Does Try.prog 5 #[.slice p0 l0 c0] w R :=
  does_of_vc (ss := [.v (.slice p0 l0 c0)]) f5_ann mixed call5 Try.func5 rfl rfl (show 1 ≤ Try.f5.ntmps by decide) ((f5_eq p0 l0 c0 w R).symm ▸ h)
/-- Of escritoire/escritoirelaw20.StateCuts (function 6): the condition. -/
def f6_vc (p0 : Option Addr) (l0 c0 : Nat) (p1 : Option Addr) (l1 c1 : Nat) (a2 : Int) (w : World) (R : Ending → World → Prop) : Prop :=
  Does Try.prog 8 #[] w fun e16 w16 =>
  ∃ b16 : Bool, e16 = .returned (.bool b16) ∧ Br (!b16)
  (R (.returned (.bool false)) w16)
  (Does Try.prog 15 #[.slice p0 l0 c0] w16 fun e19 w19 =>
  ∃ b19 : Bool, e19 = .returned (.bool b19) ∧ Br (!b19)
  (Does Try.prog 8 #[] w19 fun e26 w26 =>
  ∃ b26 : Bool, e26 = .returned (.bool b26) ∧ R (.returned (.bool b26)) w26)
  (Br (decide (((l1 : Int)) > 30))
  (Does Try.prog 8 #[] w19 fun e26_1 w26_1 =>
  ∃ b26_1 : Bool, e26_1 = .returned (.bool b26_1) ∧ R (.returned (.bool b26_1)) w26_1)
  (Does Try.prog 16 #[.slice p0 l0 c0, .int .i64 0] w19 fun e29 w29 =>
  ∃ p29 : Option Addr, ∃ n29 : Int, e29 = .returned (.tuple #[.pointer p29, .int .i64 n29]) ∧ Br (n29 != 0)
  (Does Try.prog 8 #[] w29 fun e34 w34 =>
  ∃ b34 : Bool, e34 = .returned (.bool b34) ∧ R (.returned (.bool b34)) w34)
  (Does Try.prog 10 #[.pointer p29, .slice p1 l1 c1] w29 fun e38 w38 =>
  ∃ (p38 : Option Addr) (l38 c38 : Nat), ∃ n38 : Int, e38 = .returned (.tuple #[.slice p38 l38 c38, .int .i64 n38]) ∧ Br (n38 != 0)
  (Does Try.prog 8 #[] w38 fun e43 w43 =>
  ∃ b43 : Bool, e43 = .returned (.bool b43) ∧ R (.returned (.bool b43)) w43)
  (InK .i64 (((l38 : Int)) - 1) ∧ ((((l38 : Int)) - 1) : Int) ≠ 0 ∧ InK .i64 ((a2.tmod (((l38 : Int)) - 1)) + ((l38 : Int))) ∧ InK .i64 (((a2.tmod (((l38 : Int)) - 1)) + ((l38 : Int))) - 1) ∧ InK .i64 (((l38 : Int)) - 1) ∧ ((((l38 : Int)) - 1) : Int) ≠ 0 ∧ InK .i64 (1 + ((((a2.tmod (((l38 : Int)) - 1)) + ((l38 : Int))) - 1).tmod (((l38 : Int)) - 1))) ∧ ((0 : Int) ≤ (1 + ((((a2.tmod (((l38 : Int)) - 1)) + ((l38 : Int))) - 1).tmod (((l38 : Int)) - 1))) ∧ (1 + ((((a2.tmod (((l38 : Int)) - 1)) + ((l38 : Int))) - 1).tmod (((l38 : Int)) - 1))) ≤ (c38 : Int)) ∧ Does Try.prog 11 #[.slice (subp p38 0 c38 1) (((1 + ((((a2.tmod (((l38 : Int)) - 1)) + ((l38 : Int))) - 1).tmod (((l38 : Int)) - 1))).toNat) - 0) (c38 - 0)] w38 fun e62 w62 =>
  ∃ p62 : Option Addr, ∃ (p62_1 : Option Addr) (l62 c62 : Nat), ∃ n62 : Int, e62 = .returned (.tuple #[.pointer p62, .slice p62_1 l62 c62, .int .i64 n62]) ∧ Does Try.prog 12 #[.slice p38 l38 c38] w62 fun e68 w68 =>
  ∃ (p68 : Option Addr) (l68 c68 : Nat), e68 = .returned (.slice p68 l68 c68) ∧ ∀ b71 w71, NewBlk w68 b71 [.int .u8 (IntKind.wrap .u8 (1 + ((((a2.tmod (((l38 : Int)) - 1)) + ((l38 : Int))) - 1).tmod (((l38 : Int)) - 1))))] 5 w71 →
  ∃ (p72 : Option Addr) (l72 c72 : Nat) (w72 : World), (Builtin.append_ #[25, 25] 25 #[.slice p68 l68 c68, .slice (some ⟨b71, 0, none⟩) 1 1]).run Try.prog w71 = .ok (.slice p72 l72 c72) w72 ∧
  Does Try.prog 11 #[.slice p72 l72 c72] w72 fun e73 w73 =>
  ∃ p73 : Option Addr, ∃ (p73_1 : Option Addr) (l73 c73 : Nat), ∃ n73 : Int, e73 = .returned (.tuple #[.pointer p73, .slice p73_1 l73 c73, .int .i64 n73]) ∧ Does Try.prog 8 #[] w73 fun e77 w77 =>
  ∃ b77 : Bool, e77 = .returned (.bool b77) ∧ Br b77
  (Br (n62 == 2)
  (R (.returned (.bool (n73 == 3))) w77)
  (R (.returned (.bool false)) w77))
  (R (.returned (.bool false)) w77))))))
def f6_ann : Ann := { loops := [], cuts := [], flip := [], throws := [] }
theorem f6_eq (p0 : Option Addr) (l0 c0 : Nat) (p1 : Option Addr) (l1 c1 : Nat) (a2 : Int) (w : World) (R : Ending → World → Prop) : vc Try.prog f6_ann (bodyOf Try.f6) (retQ Try.prog Try.f6 R) (envOf Try.f6.ntmps [.v (.slice p0 l0 c0), .v (.slice p1 l1 c1), .v (.int .i64 a2)]) [] w = f6_vc p0 l0 c0 p1 l1 c1 a2 w R := by kernel_rfl
theorem f6_does (p0 : Option Addr) (l0 c0 : Nat) (p1 : Option Addr) (l1 c1 : Nat) (a2 : Int) {w : World} {R : Ending → World → Prop} (h : f6_vc p0 l0 c0 p1 l1 c1 a2 w R) : Does Try.prog 6 #[.slice p0 l0 c0, .slice p1 l1 c1, .int .i64 a2] w R :=
  does_of_vc (ss := [.v (.slice p0 l0 c0), .v (.slice p1 l1 c1), .v (.int .i64 a2)]) f6_ann mixed call6 Try.func6 rfl rfl (show 3 ≤ Try.f6.ntmps by decide) ((f6_eq p0 l0 c0 p1 l1 c1 a2 w R).symm ▸ h)
/-- Of escritoire/escritoirelaw20.StateOne (function 7): the condition. -/
def f7_vc (p0 : Option Addr) (l0 c0 : Nat) (p1 : Option Addr) (l1 c1 : Nat) (p2 : Option Addr) (l2 c2 : Nat) (w : World) (R : Ending → World → Prop) : Prop :=
  Does Try.prog 8 #[] w fun e18 w18 =>
  ∃ b18 : Bool, e18 = .returned (.bool b18) ∧ Br (!b18)
  (R (.returned (.bool false)) w18)
  (Does Try.prog 15 #[.slice p0 l0 c0] w18 fun e21 w21 =>
  ∃ b21 : Bool, e21 = .returned (.bool b21) ∧ Br (!b21)
  (R (.returned (.bool true)) w21)
  (Does Try.prog 15 #[.slice p1 l1 c1] w21 fun e25 w25 =>
  ∃ b25 : Bool, e25 = .returned (.bool b25) ∧ Br (!b25)
  (R (.returned (.bool true)) w25)
  (Br (decide (((l2 : Int)) > 30))
  (R (.returned (.bool true)) w25)
  (Br (((l0 : Int)) == 0)
  (R (.returned (.bool true)) w25)
  (Br (((l1 : Int)) == 0)
  (R (.returned (.bool true)) w25)
  (Does Try.prog 16 #[.slice p0 l0 c0, .int .i64 0] w25 fun e45 w45 =>
  ∃ p45 : Option Addr, ∃ n45 : Int, e45 = .returned (.tuple #[.pointer p45, .int .i64 n45]) ∧ Does Try.prog 16 #[.slice p1 l1 c1, .int .i64 0] w45 fun e50 w50 =>
  ∃ p50 : Option Addr, ∃ n50 : Int, e50 = .returned (.tuple #[.pointer p50, .int .i64 n50]) ∧ InK .i64 (((l0 : Int)) - 1) ∧ Does Try.prog 16 #[.slice p0 l0 c0, .int .i64 (((l0 : Int)) - 1)] w50 fun e58 w58 =>
  ∃ p58 : Option Addr, ∃ n58 : Int, e58 = .returned (.tuple #[.pointer p58, .int .i64 n58]) ∧ Br (n45 != 0)
  (R (.returned (.bool true)) w58)
  (Br (n50 != 0)
  (R (.returned (.bool true)) w58)
  (Br (n58 != 0)
  (R (.returned (.bool true)) w58)
  (Does Try.prog 10 #[.pointer p45, .slice p2 l2 c2] w58 fun e74 w74 =>
  ∃ (p74 : Option Addr) (l74 c74 : Nat), ∃ n74 : Int, e74 = .returned (.tuple #[.slice p74 l74 c74, .int .i64 n74]) ∧ Does Try.prog 10 #[.pointer p50, .slice p2 l2 c2] w74 fun e80 w80 =>
  ∃ (p80 : Option Addr) (l80 c80 : Nat), ∃ n80 : Int, e80 = .returned (.tuple #[.slice p80 l80 c80, .int .i64 n80]) ∧ Does Try.prog 10 #[.pointer p58, .slice p2 l2 c2] w80 fun e86 w86 =>
  ∃ (p86 : Option Addr) (l86 c86 : Nat), ∃ n86 : Int, e86 = .returned (.tuple #[.slice p86 l86 c86, .int .i64 n86]) ∧ Does Try.prog 10 #[.pointer p45, .slice none 0 0] w86 fun e91 w91 =>
  ∃ (p91 : Option Addr) (l91 c91 : Nat), ∃ n91 : Int, e91 = .returned (.tuple #[.slice p91 l91 c91, .int .i64 n91]) ∧ Br (n74 != 0)
  (R (.returned (.bool true)) w91)
  (Br (n80 != 0)
  (R (.returned (.bool true)) w91)
  (Br (n86 != 0)
  (R (.returned (.bool true)) w91)
  (Br (n91 != 0)
  (R (.returned (.bool true)) w91)
  (Does Try.prog 13 #[.slice p74 l74 c74, .slice p80 l80 c80] w91 fun e110 w110 =>
  ∃ b110 : Bool, e110 = .returned (.bool b110) ∧ Does Try.prog 19 #[.slice p0 l0 c0, .slice p1 l1 c1] w110 fun e113 w113 =>
  ∃ b113 : Bool, e113 = .returned (.bool b113) ∧ Br (b110 == b113)
  (Does Try.prog 13 #[.slice p74 l74 c74, .slice p86 l86 c86] w113 fun e118 w118 =>
  ∃ b118 : Bool, e118 = .returned (.bool b118) ∧ Br (b118 == (((l0 : Int)) == 1))
  (Does Try.prog 13 #[.slice p74 l74 c74, .slice p91 l91 c91] w118 fun e127 w127 =>
  ∃ b127 : Bool, e127 = .returned (.bool b127) ∧ R (.returned (.bool (b127 == (((l2 : Int)) == 0)))) w127)
  (R (.returned (.bool false)) w118))
  (R (.returned (.bool false)) w113))))))))))))))
def f7_ann : Ann := { loops := [], cuts := [], flip := [], throws := [] }
theorem f7_eq (p0 : Option Addr) (l0 c0 : Nat) (p1 : Option Addr) (l1 c1 : Nat) (p2 : Option Addr) (l2 c2 : Nat) (w : World) (R : Ending → World → Prop) : vc Try.prog f7_ann (bodyOf Try.f7) (retQ Try.prog Try.f7 R) (envOf Try.f7.ntmps [.v (.slice p0 l0 c0), .v (.slice p1 l1 c1), .v (.slice p2 l2 c2)]) [] w = f7_vc p0 l0 c0 p1 l1 c1 p2 l2 c2 w R := by kernel_rfl
theorem f7_does (p0 : Option Addr) (l0 c0 : Nat) (p1 : Option Addr) (l1 c1 : Nat) (p2 : Option Addr) (l2 c2 : Nat) {w : World} {R : Ending → World → Prop} (h : f7_vc p0 l0 c0 p1 l1 c1 p2 l2 c2 w R) : Does Try.prog 7 #[.slice p0 l0 c0, .slice p1 l1 c1, .slice p2 l2 c2] w R :=
  does_of_vc (ss := [.v (.slice p0 l0 c0), .v (.slice p1 l1 c1), .v (.slice p2 l2 c2)]) f7_ann mixed call7 Try.func7 rfl rfl (show 3 ≤ Try.f7.ntmps by decide) ((f7_eq p0 l0 c0 p1 l1 c1 p2 l2 c2 w R).symm ▸ h)
/-- Of escritoire/escritoirelaw20.awake (function 8): the condition. -/
def f8_vc  (w : World) (R : Ending → World → Prop) : Prop :=
  Does Try.prog 9 #[] w fun e7 w7 =>
  ∃ p7 : Option Addr, e7 = .returned (.pointer p7) ∧ Br p7.isNone
  (R (.returned (.bool false)) w7)
  (∀ b11 w11, NewBlk w7 b11 [.int .u8 120] 5 w11 →
  ∃ (p12 : Option Addr) (l12 c12 : Nat), ∃ w12, (convert 25 25 (.slice (some ⟨b11, 0, none⟩) 1 1)).run Try.prog w11 = .ok (.slice p12 l12 c12) w12 ∧ ∀ b14 w14, NewBlk w12 b14 [.int .i64 1, .slice none 0 0, .slice p12 l12 c12] 58 w14 →
  Does Try.prog 24 #[.pointer p7, .slice (some ⟨b14, 0, none⟩) 1 1, .int .i64 2] w14 fun e15 w15 =>
  ∃ n15 : Int, ∃ n15_1 : Int, e15 = .returned (.tuple #[.int .i64 n15, .int .i64 n15_1]) ∧ ∀ b19 w19, NewBlk w15 b19 [.int .u8 97, .int .i64 5] 61 w19 →
  Does Try.prog 10 #[.pointer p7, .slice (some ⟨b19, 0, none⟩) 1 1] w19 fun e20 w20 =>
  ∃ (p20 : Option Addr) (l20 c20 : Nat), ∃ n20 : Int, e20 = .returned (.tuple #[.slice p20 l20 c20, .int .i64 n20]) ∧ Does Try.prog 11 #[.slice p20 l20 c20] w20 fun e25 w25 =>
  ∃ p25 : Option Addr, ∃ (p25_1 : Option Addr) (l25 c25 : Nat), ∃ n25 : Int, e25 = .returned (.tuple #[.pointer p25, .slice p25_1 l25 c25, .int .i64 n25]) ∧ Br (n20 == 0)
  (Br (n25 == 0)
  (Br (!p25.isNone)
  (Does Try.prog 14 #[.pointer p25] w25 fun e41 w41 =>
  ∃ n41 : Int, e41 = .returned (.int .i64 n41) ∧ Br (n41 == 2)
  (Does Try.prog 21 #[.pointer p25] w41 fun e46 w46 =>
  ∃ n46 : Int, e46 = .returned (.int .i64 n46) ∧ Br (n46 == 1)
  (Br (((l25 : Int)) == 1)
  (((0 : Int) ≤ 0 ∧ 0 < (l25 : Int)) ∧ ∃ b56 o56, p25_1 = some ⟨b56, o56, none⟩ ∧ ∃ n58 : Int, w46.cell? ⟨b56, o56 + (0 : Int).toNat * 2 + 1, none⟩ = some (.int .i64 n58) ∧ R (.returned (.bool (n58 == 5))) w46)
  (R (.returned (.bool false)) w46))
  (R (.returned (.bool false)) w46))
  (R (.returned (.bool false)) w41))
  (R (.returned (.bool false)) w25))
  (R (.returned (.bool false)) w25))
  (R (.returned (.bool false)) w25))
def f8_ann : Ann := { loops := [], cuts := [], flip := [], throws := [] }
theorem f8_eq  (w : World) (R : Ending → World → Prop) : vc Try.prog f8_ann (bodyOf Try.f8) (retQ Try.prog Try.f8 R) (envOf Try.f8.ntmps []) [] w = f8_vc  w R := by kernel_rfl
theorem f8_does  {w : World} {R : Ending → World → Prop} (h : f8_vc  w R) : Does Try.prog 8 #[] w R :=
  does_of_vc (ss := []) f8_ann mixed call8 Try.func8 rfl rfl (show 0 ≤ Try.f8.ntmps by decide) ((f8_eq  w R).symm ▸ h)
/-- Of escritoire/history.New (function 9): the condition. -/
def f9_vc  (w : World) (R : Ending → World → Prop) : Prop :=
  ∀ b2 w2, NewBlk w b2 [.int .i64 (-1), .slice none 0 0, .int .i64 0] 63 w2 →
  ∀ b4 w4, NewBlk w2 b4 [.slice (some ⟨b2, 0, none⟩) 1 1, .int .i64 0] 65 w4 →
  R (.returned (.pointer (some ⟨b4, 0, none⟩))) w4
def f9_ann : Ann := { loops := [], cuts := [], flip := [], throws := [] }
theorem f9_eq  (w : World) (R : Ending → World → Prop) : vc Try.prog f9_ann (bodyOf Try.f9) (retQ Try.prog Try.f9 R) (envOf Try.f9.ntmps []) [] w = f9_vc  w R := by kernel_rfl
theorem f9_does  {w : World} {R : Ending → World → Prop} (h : f9_vc  w R) : Does Try.prog 9 #[] w R :=
  does_of_vc (ss := []) f9_ann mixed call9 Try.func9 rfl rfl (show 0 ≤ Try.f9.ntmps by decide) ((f9_eq  w R).symm ▸ h)
/-- Of escritoire/state.Encode (function 10): the condition. -/
def f10_vc (a0 : Option Addr) (p1 : Option Addr) (l1 c1 : Nat) (w : World) (R : Ending → World → Prop) : Prop :=
  Br a0.isNone
  (R (.returned (.tuple #[.slice none 0 0, .int .i64 1])) w)
  (Does Try.prog 14 #[.pointer a0] w fun e21 w21 =>
  ∃ n21 : Int, e21 = .returned (.int .i64 n21) ∧ Br (n21 == 0)
  (R (.returned (.tuple #[.slice none 0 0, .int .i64 1])) w21)
  (Does Try.prog 25 #[.slice p1 l1 c1] w21 fun e26 w26 =>
  ∃ b26 : Bool, e26 = .returned (.bool b26) ∧ Br (!b26)
  (R (.returned (.tuple #[.slice none 0 0, .int .i64 1])) w26)
  (Does Try.prog 20 #[.pointer a0] w26 fun e30 w30 =>
  ∃ (p30 : Option Addr) (l30 c30 : Nat), e30 = .returned (.slice p30 l30 c30) ∧ ∃ I6 : Int → Int → Nat → World → Prop, (∃ nl6, I6 0 0 nl6 w30) ∧ ∀ x7 : Int, ∀ x33 : Int, ∀ (nl6 : Nat) (wl6 : World), I6 x7 x33 nl6 wl6 →
  Br (decide (x33 < ((l30 : Int))))
  (((0 : Int) ≤ x33 ∧ x33 < (l30 : Int)) ∧ ∃ b35 o35, p30 = some ⟨b35, o35, none⟩ ∧ ∃ n36 : Int, wl6.cell? ⟨b35, o35 + (x33).toNat * 3, none⟩ = some (.int .i64 n36) ∧ ∃ (p36 : Option Addr) (l36 c36 : Nat), wl6.cell? ⟨b35, o35 + (x33).toNat * 3 + 1, none⟩ = some (.slice p36 l36 c36) ∧ ∃ n36_1 : Int, wl6.cell? ⟨b35, o35 + (x33).toNat * 3 + 2, none⟩ = some (.int .i64 n36_1) ∧ ∀ b9 w9, NewBlk wl6 b9 [.int .i64 0, .slice none 0 0, .int .i64 0] 63 w9 →
  CanStore w9 b9 0 ∧ ∀ ws, Stored w9 b9 0 (.int .i64 n36) ws →
  CanStore ws b9 1 ∧ ∀ ws_1, Stored ws b9 1 (.slice p36 l36 c36) ws_1 →
  CanStore ws_1 b9 2 ∧ ∀ ws_2, Stored ws_1 b9 2 (.int .i64 n36_1) ws_2 →
  ∃ n37 : Int, ws_2.cell? ⟨b9, 0, none⟩ = some (.int .i64 n37) ∧ ∃ (p37 : Option Addr) (l37 c37 : Nat), ws_2.cell? ⟨b9, 1, none⟩ = some (.slice p37 l37 c37) ∧ ∃ n37_1 : Int, ws_2.cell? ⟨b9, 2, none⟩ = some (.int .i64 n37_1) ∧ Does Try.prog 26 #[.agg #[.int .i64 n37, .slice p37 l37 c37, .int .i64 n37_1]] ws_2 fun e38 w38 =>
  ∃ b38 : Bool, e38 = .returned (.bool b38) ∧ Br (!b38)
  (R (.returned (.tuple #[.slice none 0 0, .int .i64 1])) w38)
  (∃ (p41 : Option Addr) (l41 c41 : Nat), w38.cell? ⟨b9, 1, none⟩ = some (.slice p41 l41 c41) ∧ ∃ I11 : Int → Int → Nat → World → Prop, (∃ nl11, I11 x7 0 nl11 w38) ∧ ∀ x7_1 : Int, ∀ x43 : Int, ∀ (nl11 : Nat) (wl11 : World), I11 x7_1 x43 nl11 wl11 →
  Br (decide (x43 < ((l41 : Int))))
  (((0 : Int) ≤ x43 ∧ x43 < (l41 : Int)) ∧ ∃ b45 o45, p41 = some ⟨b45, o45, none⟩ ∧ ∃ n46 : Int, wl11.cell? ⟨b45, o45 + (x43).toNat * 3, none⟩ = some (.int .i64 n46) ∧ ∃ (p46 : Option Addr) (l46 c46 : Nat), wl11.cell? ⟨b45, o45 + (x43).toNat * 3 + 1, none⟩ = some (.slice p46 l46 c46) ∧ ∃ (p46_1 : Option Addr) (l46_1 c46_1 : Nat), wl11.cell? ⟨b45, o45 + (x43).toNat * 3 + 2, none⟩ = some (.slice p46_1 l46_1 c46_1) ∧ ∀ b11 w11, NewBlk wl11 b11 [.int .i64 0, .slice none 0 0, .slice none 0 0] 58 w11 →
  CanStore w11 b11 0 ∧ ∀ ws_3, Stored w11 b11 0 (.int .i64 n46) ws_3 →
  CanStore ws_3 b11 1 ∧ ∀ ws_4, Stored ws_3 b11 1 (.slice p46 l46 c46) ws_4 →
  CanStore ws_4 b11 2 ∧ ∀ ws_5, Stored ws_4 b11 2 (.slice p46_1 l46_1 c46_1) ws_5 →
  ∃ (p49 : Option Addr) (l49 c49 : Nat), ws_5.cell? ⟨b11, 1, none⟩ = some (.slice p49 l49 c49) ∧ InK .i64 (x7_1 + ((l49 : Int))) ∧ ∃ (p53 : Option Addr) (l53 c53 : Nat), ws_5.cell? ⟨b11, 2, none⟩ = some (.slice p53 l53 c53) ∧ InK .i64 ((x7_1 + ((l49 : Int))) + ((l53 : Int))) ∧ InK .i64 (x43 + 1) ∧ ∃ ml11, ml11 < nl11 ∧ I11 (if 2097152 < (x7_1 + ((l49 : Int))) + ((l53 : Int)) then 2097152 else (x7_1 + ((l49 : Int))) + ((l53 : Int))) (x43 + 1) ml11 ws_5)
  (InK .i64 (x33 + 1) ∧ ∃ ml6, ml6 < nl6 ∧ I6 x7_1 (x33 + 1) ml6 wl11)))
  (Br (decide (x7 > 1048576))
  (R (.returned (.tuple #[.slice none 0 0, .int .i64 3])) wl6)
  (∀ b62 w62, NewBlk wl6 b62 [.slice none 0 0] 70 w62 →
  Does Try.prog 27 #[.pointer (some ⟨b62, 0, none⟩), .int .i64 ((l30 : Int))] w62 fun e66 w66 =>
  e66 = .returned (.tuple #[]) ∧ Does Try.prog 21 #[.pointer a0] w66 fun e69 w69 =>
  ∃ n69 : Int, e69 = .returned (.int .i64 n69) ∧ Does Try.prog 27 #[.pointer (some ⟨b62, 0, none⟩), .int .i64 n69] w69 fun e70 w70 =>
  e70 = .returned (.tuple #[]) ∧ ((0 : Int) ≤ 1 ∧ 1 ≤ (l30 : Int)) ∧ ∃ I22 : Int → Nat → World → Prop, (∃ nl22, I22 0 nl22 w70) ∧ ∀ x74 : Int, ∀ (nl22 : Nat) (wl22 : World), I22 x74 nl22 wl22 →
  Br (decide (x74 < (((l30 - ((1 : Int).toNat) : Nat) : Int))))
  (((0 : Int) ≤ x74 ∧ x74 < ((l30 - ((1 : Int).toNat) : Nat) : Int)) ∧ ∃ b76 o76, subp p30 ((1 : Int).toNat) c30 3 = some ⟨b76, o76, none⟩ ∧ ∃ n77 : Int, wl22.cell? ⟨b76, o76 + (x74).toNat * 3, none⟩ = some (.int .i64 n77) ∧ ∃ (p77 : Option Addr) (l77 c77 : Nat), wl22.cell? ⟨b76, o76 + (x74).toNat * 3 + 1, none⟩ = some (.slice p77 l77 c77) ∧ ∃ n77_1 : Int, wl22.cell? ⟨b76, o76 + (x74).toNat * 3 + 2, none⟩ = some (.int .i64 n77_1) ∧ ∀ b14 w14, NewBlk wl22 b14 [.int .i64 0, .slice none 0 0, .int .i64 0] 63 w14 →
  CanStore w14 b14 0 ∧ ∀ ws_6, Stored w14 b14 0 (.int .i64 n77) ws_6 →
  CanStore ws_6 b14 1 ∧ ∀ ws_7, Stored ws_6 b14 1 (.slice p77 l77 c77) ws_7 →
  CanStore ws_7 b14 2 ∧ ∀ ws_8, Stored ws_7 b14 2 (.int .i64 n77_1) ws_8 →
  ∃ n79 : Int, ws_8.cell? ⟨b14, 0, none⟩ = some (.int .i64 n79) ∧ ∃ (p79 : Option Addr) (l79 c79 : Nat), ws_8.cell? ⟨b14, 1, none⟩ = some (.slice p79 l79 c79) ∧ ∃ n79_1 : Int, ws_8.cell? ⟨b14, 2, none⟩ = some (.int .i64 n79_1) ∧ Does Try.prog 28 #[.pointer (some ⟨b62, 0, none⟩), .agg #[.int .i64 n79, .slice p79 l79 c79, .int .i64 n79_1]] ws_8 fun e80 w80 =>
  e80 = .returned (.tuple #[]) ∧ InK .i64 (x74 + 1) ∧ ∃ ml22, ml22 < nl22 ∧ I22 (x74 + 1) ml22 w80)
  (∃ (p86 : Option Addr) (l86 c86 : Nat), wl22.cell? ⟨b62, 0, none⟩ = some (.slice p86 l86 c86) ∧ ∀ b90 w90, NewBlk wl22 b90 [.int .u8 (IntKind.wrap .u8 ((l1 : Int)))] 5 w90 →
  ∃ (p91 : Option Addr) (l91 c91 : Nat) (w91 : World), (Builtin.append_ #[25, 25] 25 #[.slice p86 l86 c86, .slice (some ⟨b90, 0, none⟩) 1 1]).run Try.prog w90 = .ok (.slice p91 l91 c91) w91 ∧
  CanStore w91 b62 0 ∧ ∀ ws_9, Stored w91 b62 0 (.slice p91 l91 c91) ws_9 →
  ∃ I28 : Int → Nat → World → Prop, (∃ nl28, I28 0 nl28 ws_9) ∧ ∀ x96 : Int, ∀ (nl28 : Nat) (wl28 : World), I28 x96 nl28 wl28 →
  Br (decide (x96 < ((l1 : Int))))
  (((0 : Int) ≤ x96 ∧ x96 < (l1 : Int)) ∧ ∃ b98 o98, p1 = some ⟨b98, o98, none⟩ ∧ ∃ n99 : Int, wl28.cell? ⟨b98, o98 + (x96).toNat * 2, none⟩ = some (.int .u8 n99) ∧ ∃ n99_1 : Int, wl28.cell? ⟨b98, o98 + (x96).toNat * 2 + 1, none⟩ = some (.int .i64 n99_1) ∧ ∀ b16 w16, NewBlk wl28 b16 [.int .u8 0, .int .i64 0] 61 w16 →
  CanStore w16 b16 0 ∧ ∀ ws_10, Stored w16 b16 0 (.int .u8 n99) ws_10 →
  CanStore ws_10 b16 1 ∧ ∀ ws_11, Stored ws_10 b16 1 (.int .i64 n99_1) ws_11 →
  ∀ wd30, Drew ws_11 wd30 →
  ∃ S30 : World → Prop, S30 wd30 ∧ ∃ (p104 : Option Addr) (l104 c104 : Nat), (∀ w, S30 w → w.cell? ⟨b62, 0, none⟩ = some (.slice p104 l104 c104)) ∧ ∃ n106 : Int, wd30.cell? ⟨b16, 0, none⟩ = some (.int .u8 n106) ∧ ∀ b107 w107, NewBlk wd30 b107 [.int .u8 n106] 5 w107 →
  S30 w107 ∧ ∃ (p108 : Option Addr) (l108 c108 : Nat) (w108 : World), (Builtin.append_ #[25, 25] 25 #[.slice p104 l104 c104, .slice (some ⟨b107, 0, none⟩) 1 1]).run Try.prog w107 = .ok (.slice p108 l108 c108) w108 ∧
  CanStore w108 b62 0 ∧ ∀ ws_12, Stored w108 b62 0 (.slice p108 l108 c108) ws_12 →
  ∃ n113 : Int, ws_12.cell? ⟨b16, 1, none⟩ = some (.int .i64 n113) ∧ Does Try.prog 27 #[.pointer (some ⟨b62, 0, none⟩), .int .i64 n113] ws_12 fun e114 w114 =>
  e114 = .returned (.tuple #[]) ∧ InK .i64 (x96 + 1) ∧ ∃ ml28, ml28 < nl28 ∧ I28 (x96 + 1) ml28 w114)
  (∃ (p119 : Option Addr) (l119 c119 : Nat), wl28.cell? ⟨b62, 0, none⟩ = some (.slice p119 l119 c119) ∧ Br (decide (((l119 : Int)) > 1048576))
  (R (.returned (.tuple #[.slice none 0 0, .int .i64 3])) wl28)
  (∃ (p125 : Option Addr) (l125 c125 : Nat), wl28.cell? ⟨b62, 0, none⟩ = some (.slice p125 l125 c125) ∧ R (.returned (.tuple #[.slice p125 l125 c125, .int .i64 0])) wl28))))))))
def f10_ann : Ann := { loops := [(6, [(7, .int .i64), (33, .int .i64)]), (11, [(7, .int .i64), (43, .int .i64)]), (22, [(74, .int .i64)]), (28, [(96, .int .i64)])], cuts := [], flip := [], throws := [] }
theorem f10_eq (a0 : Option Addr) (p1 : Option Addr) (l1 c1 : Nat) (w : World) (R : Ending → World → Prop) : vc Try.prog f10_ann (bodyOf Try.f10) (retQ Try.prog Try.f10 R) (envOf Try.f10.ntmps [.v (.pointer a0), .v (.slice p1 l1 c1)]) [] w = f10_vc a0 p1 l1 c1 w R := by kernel_rfl
theorem f10_does (a0 : Option Addr) (p1 : Option Addr) (l1 c1 : Nat) {w : World} {R : Ending → World → Prop} (h : f10_vc a0 p1 l1 c1 w R) : Does Try.prog 10 #[.pointer a0, .slice p1 l1 c1] w R :=
  does_of_vc (ss := [.v (.pointer a0), .v (.slice p1 l1 c1)]) f10_ann mixed call10 Try.func10 rfl rfl (show 2 ≤ Try.f10.ntmps by decide) ((f10_eq a0 p1 l1 c1 w R).symm ▸ h)
/-- Of escritoire/state.Decode (function 11): the condition. -/
def f11_vc (p0 : Option Addr) (l0 c0 : Nat) (w : World) (R : Ending → World → Prop) : Prop :=
  Br (((l0 : Int)) == 0)
  (Does Try.prog 9 #[] w fun e13 w13 =>
  ∃ p13 : Option Addr, e13 = .returned (.pointer p13) ∧ R (.returned (.tuple #[.pointer p13, .slice none 0 0, .int .i64 0])) w13)
  (∀ b16 w16, NewBlk w b16 [.slice p0 l0 c0, .slice none 0 0, .slice none 0 0, .int .i64 0] 75 w16 →
  Does Try.prog 29 #[.pointer (some ⟨b16, 0, none⟩)] w16 fun e18 w18 =>
  ∃ n18 : Int, e18 = .returned (.int .i64 n18) ∧ Br (n18 != 0)
  (R (.returned (.tuple #[.pointer none, .slice none 0 0, .int .i64 n18])) w18)
  (∀ wd7, Drew w18 wd7 →
  ∃ (p26 : Option Addr) (l26 c26 : Nat), wd7.cell? ⟨b16, 1, none⟩ = some (.slice p26 l26 c26) ∧ ∃ n30 : Int, wd7.cell? ⟨b16, 3, none⟩ = some (.int .i64 n30) ∧ Does Try.prog 16 #[.slice p26 l26 c26, .int .i64 n30] wd7 fun e31 w31 =>
  ∃ p31 : Option Addr, ∃ n31 : Int, e31 = .returned (.tuple #[.pointer p31, .int .i64 n31]) ∧ Br (n31 != 0)
  (R (.returned (.tuple #[.pointer none, .slice none 0 0, .int .i64 4])) w31)
  (∃ (p41 : Option Addr) (l41 c41 : Nat), w31.cell? ⟨b16, 2, none⟩ = some (.slice p41 l41 c41) ∧ Does Try.prog 10 #[.pointer p31, .slice p41 l41 c41] w31 fun e42 w42 =>
  ∃ (p42 : Option Addr) (l42 c42 : Nat), ∃ n42 : Int, e42 = .returned (.tuple #[.slice p42 l42 c42, .int .i64 n42]) ∧ Br (n42 != 0)
  (R (.returned (.tuple #[.pointer none, .slice none 0 0, .int .i64 4])) w42)
  (Does Try.prog 30 #[.slice p42 l42 c42, .slice p0 l0 c0] w42 fun e50 w50 =>
  ∃ b50 : Bool, e50 = .returned (.bool b50) ∧ Br (!b50)
  (R (.returned (.tuple #[.pointer none, .slice none 0 0, .int .i64 4])) w50)
  (∀ wd13, Drew w50 wd13 →
  ∃ (p57 : Option Addr) (l57 c57 : Nat), wd13.cell? ⟨b16, 2, none⟩ = some (.slice p57 l57 c57) ∧ R (.returned (.tuple #[.pointer p31, .slice p57 l57 c57, .int .i64 0])) wd13)))))
def f11_ann : Ann := { loops := [], cuts := [], flip := [], throws := [] }
theorem f11_eq (p0 : Option Addr) (l0 c0 : Nat) (w : World) (R : Ending → World → Prop) : vc Try.prog f11_ann (bodyOf Try.f11) (retQ Try.prog Try.f11 R) (envOf Try.f11.ntmps [.v (.slice p0 l0 c0)]) [] w = f11_vc p0 l0 c0 w R := by kernel_rfl
theorem f11_does (p0 : Option Addr) (l0 c0 : Nat) {w : World} {R : Ending → World → Prop} (h : f11_vc p0 l0 c0 w R) : Does Try.prog 11 #[.slice p0 l0 c0] w R :=
  does_of_vc (ss := [.v (.slice p0 l0 c0)]) f11_ann mixed call11 Try.func11 rfl rfl (show 1 ≤ Try.f11.ntmps by decide) ((f11_eq p0 l0 c0 w R).symm ▸ h)
/-- Of escritoire/escritoireref1.Copy (function 12): the condition. -/
def f12_vc (p0 : Option Addr) (l0 c0 : Nat) (w : World) (R : Ending → World → Prop) : Prop :=
  ∃ I3 : Option Addr → Nat → Nat → Int → Nat → World → Prop, (∃ nl3, I3 none 0 0 0 nl3 w) ∧ ∀ (p3 : Option Addr) (l3 c3 : Nat), ∀ x4 : Int, ∀ (nl3 : Nat) (wl3 : World), I3 p3 l3 c3 x4 nl3 wl3 →
  Br (decide (x4 < ((l0 : Int))))
  (((0 : Int) ≤ x4 ∧ x4 < (l0 : Int)) ∧ ∃ b14 o14, p0 = some ⟨b14, o14, none⟩ ∧ ∃ n15 : Int, wl3.cell? ⟨b14, o14 + (x4).toNat, none⟩ = some (.int .u8 n15) ∧ ∀ b16 w16, NewBlk wl3 b16 [.int .u8 n15] 5 w16 →
  ∃ (p17 : Option Addr) (l17 c17 : Nat) (w17 : World), (Builtin.append_ #[25, 25] 25 #[.slice p3 l3 c3, .slice (some ⟨b16, 0, none⟩) 1 1]).run Try.prog w16 = .ok (.slice p17 l17 c17) w17 ∧
  InK .i64 (x4 + 1) ∧ ∃ ml3, ml3 < nl3 ∧ I3 p17 l17 c17 (x4 + 1) ml3 w17)
  (R (.returned (.slice p3 l3 c3)) wl3)
def f12_ann : Ann := { loops := [(3, [(3, .slice), (4, .int .i64)])], cuts := [], flip := [], throws := [] }
theorem f12_eq (p0 : Option Addr) (l0 c0 : Nat) (w : World) (R : Ending → World → Prop) : vc Try.prog f12_ann (bodyOf Try.f12) (retQ Try.prog Try.f12 R) (envOf Try.f12.ntmps [.v (.slice p0 l0 c0)]) [] w = f12_vc p0 l0 c0 w R := by kernel_rfl
theorem f12_does (p0 : Option Addr) (l0 c0 : Nat) {w : World} {R : Ending → World → Prop} (h : f12_vc p0 l0 c0 w R) : Does Try.prog 12 #[.slice p0 l0 c0] w R :=
  does_of_vc (ss := [.v (.slice p0 l0 c0)]) f12_ann mixed call12 Try.func12 rfl rfl (show 1 ≤ Try.f12.ntmps by decide) ((f12_eq p0 l0 c0 w R).symm ▸ h)
/-- Of escritoire/escritoireref1.Same (function 13): the condition. -/
def f13_vc (p0 : Option Addr) (l0 c0 : Nat) (p1 : Option Addr) (l1 c1 : Nat) (w : World) (R : Ending → World → Prop) : Prop :=
  Br (((l0 : Int)) != ((l1 : Int)))
  (R (.returned (.bool false)) w)
  (∃ I4 : Int → Nat → World → Prop, (∃ nl4, I4 0 nl4 w) ∧ ∀ x5 : Int, ∀ (nl4 : Nat) (wl4 : World), I4 x5 nl4 wl4 →
  Br (decide (x5 < ((l0 : Int))))
  (∀ wd6, Drew wl4 wd6 →
  ((0 : Int) ≤ x5 ∧ x5 < (l0 : Int)) ∧ ∃ b19 o19, p0 = some ⟨b19, o19, none⟩ ∧ ∃ n20 : Int, wd6.cell? ⟨b19, o19 + (x5).toNat, none⟩ = some (.int .u8 n20) ∧ ((0 : Int) ≤ x5 ∧ x5 < (l1 : Int)) ∧ ∃ b23 o23, p1 = some ⟨b23, o23, none⟩ ∧ ∃ n24 : Int, wd6.cell? ⟨b23, o23 + (x5).toNat, none⟩ = some (.int .u8 n24) ∧ Br (n20 != n24)
  (R (.returned (.bool false)) wd6)
  (InK .i64 (x5 + 1) ∧ ∃ ml4, ml4 < nl4 ∧ I4 (x5 + 1) ml4 wd6))
  (R (.returned (.bool true)) wl4))
def f13_ann : Ann := { loops := [(4, [(5, .int .i64)])], cuts := [], flip := [], throws := [] }
theorem f13_eq (p0 : Option Addr) (l0 c0 : Nat) (p1 : Option Addr) (l1 c1 : Nat) (w : World) (R : Ending → World → Prop) : vc Try.prog f13_ann (bodyOf Try.f13) (retQ Try.prog Try.f13 R) (envOf Try.f13.ntmps [.v (.slice p0 l0 c0), .v (.slice p1 l1 c1)]) [] w = f13_vc p0 l0 c0 p1 l1 c1 w R := by kernel_rfl
theorem f13_does (p0 : Option Addr) (l0 c0 : Nat) (p1 : Option Addr) (l1 c1 : Nat) {w : World} {R : Ending → World → Prop} (h : f13_vc p0 l0 c0 p1 l1 c1 w R) : Does Try.prog 13 #[.slice p0 l0 c0, .slice p1 l1 c1] w R :=
  does_of_vc (ss := [.v (.slice p0 l0 c0), .v (.slice p1 l1 c1)]) f13_ann mixed call13 Try.func13 rfl rfl (show 2 ≤ Try.f13.ntmps by decide) ((f13_eq p0 l0 c0 p1 l1 c1 w R).symm ▸ h)
/-- Of (*escritoire/history.History).Count (function 14): the condition. -/
def f14_vc (a0 : Option Addr) (w : World) (R : Ending → World → Prop) : Prop :=
  Does Try.prog 31 #[.pointer a0] w fun e4 w4 =>
  ∃ b4 : Bool, e4 = .returned (.bool b4) ∧ Br (!b4)
  (R (.returned (.int .i64 0)) w4)
  (∃ b7 o7, a0 = some ⟨b7, o7, none⟩ ∧ ∃ (p9 : Option Addr) (l9 c9 : Nat), w4.cell? ⟨b7, o7, none⟩ = some (.slice p9 l9 c9) ∧ R (.returned (.int .i64 ((l9 : Int)))) w4)
def f14_ann : Ann := { loops := [], cuts := [], flip := [], throws := [] }
theorem f14_eq (a0 : Option Addr) (w : World) (R : Ending → World → Prop) : vc Try.prog f14_ann (bodyOf Try.f14) (retQ Try.prog Try.f14 R) (envOf Try.f14.ntmps [.v (.pointer a0)]) [] w = f14_vc a0 w R := by kernel_rfl
theorem f14_does (a0 : Option Addr) {w : World} {R : Ending → World → Prop} (h : f14_vc a0 w R) : Does Try.prog 14 #[.pointer a0] w R :=
  does_of_vc (ss := [.v (.pointer a0)]) f14_ann mixed call14 Try.func14 rfl rfl (show 1 ≤ Try.f14.ntmps by decide) ((f14_eq a0 w R).symm ▸ h)
/-- Of escritoire/escritoirelaw20.small (function 15): the condition. -/
def f15_vc (p0 : Option Addr) (l0 c0 : Nat) (w : World) (R : Ending → World → Prop) : Prop :=
  Br (decide (((l0 : Int)) > 60))
  (R (.returned (.bool false)) w)
  (∃ I4 : Int → Nat → World → Prop, (∃ nl4, I4 0 nl4 w) ∧ ∀ x3 : Int, ∀ (nl4 : Nat) (wl4 : World), I4 x3 nl4 wl4 →
  Br (decide (x3 < ((l0 : Int))))
  (((0 : Int) ≤ x3 ∧ x3 < (l0 : Int)) ∧ ∃ b15 o15, p0 = some ⟨b15, o15, none⟩ ∧ ∃ (p17 : Option Addr) (l17 c17 : Nat), wl4.cell? ⟨b15, o15 + (x3).toNat * 3 + 1, none⟩ = some (.slice p17 l17 c17) ∧ Does Try.prog 32 #[.slice p17 l17 c17, .int .i64 10] wl4 fun e18 w18 =>
  ∃ b18 : Bool, e18 = .returned (.bool b18) ∧ Br (!b18)
  (R (.returned (.bool false)) w18)
  (InK .i64 (x3 + 1) ∧ ∃ ml4, ml4 < nl4 ∧ I4 (x3 + 1) ml4 w18))
  (R (.returned (.bool true)) wl4))
def f15_ann : Ann := { loops := [(4, [(3, .int .i64)])], cuts := [], flip := [], throws := [] }
theorem f15_eq (p0 : Option Addr) (l0 c0 : Nat) (w : World) (R : Ending → World → Prop) : vc Try.prog f15_ann (bodyOf Try.f15) (retQ Try.prog Try.f15 R) (envOf Try.f15.ntmps [.v (.slice p0 l0 c0)]) [] w = f15_vc p0 l0 c0 w R := by kernel_rfl
theorem f15_does (p0 : Option Addr) (l0 c0 : Nat) {w : World} {R : Ending → World → Prop} (h : f15_vc p0 l0 c0 w R) : Does Try.prog 15 #[.slice p0 l0 c0] w R :=
  does_of_vc (ss := [.v (.slice p0 l0 c0)]) f15_ann mixed call15 Try.func15 rfl rfl (show 1 ≤ Try.f15.ntmps by decide) ((f15_eq p0 l0 c0 w R).symm ▸ h)
/-- Of escritoire/history.Load (function 16): the condition. -/
def f16_vc (p0 : Option Addr) (l0 c0 : Nat) (a1 : Int) (w : World) (R : Ending → World → Prop) : Prop :=
  Br (decide (((l0 : Int)) < 1))
  (R (.returned (.tuple #[.pointer none, .int .i64 4])) w)
  (Br (decide (((l0 : Int)) > 65536))
  (R (.returned (.tuple #[.pointer none, .int .i64 4])) w)
  (Br (decide (a1 < 0))
  (R (.returned (.tuple #[.pointer none, .int .i64 4])) w)
  (Br (decide (a1 ≥ ((l0 : Int))))
  (R (.returned (.tuple #[.pointer none, .int .i64 4])) w)
  (∀ b29 w29, NewBlk w b29 [.slice none 0 0, .int .i64 a1] 65 w29 →
  ∃ I5 : Int → Nat → World → Prop, (∃ nl5, I5 0 nl5 w29) ∧ ∀ x32 : Int, ∀ (nl5 : Nat) (wl5 : World), I5 x32 nl5 wl5 →
  Br (decide (x32 < ((l0 : Int))))
  (((0 : Int) ≤ x32 ∧ x32 < (l0 : Int)) ∧ ∃ b35 o35, p0 = some ⟨b35, o35, none⟩ ∧ ∃ n36 : Int, wl5.cell? ⟨b35, o35 + (x32).toNat * 3, none⟩ = some (.int .i64 n36) ∧ ∃ (p36 : Option Addr) (l36 c36 : Nat), wl5.cell? ⟨b35, o35 + (x32).toNat * 3 + 1, none⟩ = some (.slice p36 l36 c36) ∧ ∃ n36_1 : Int, wl5.cell? ⟨b35, o35 + (x32).toNat * 3 + 2, none⟩ = some (.int .i64 n36_1) ∧ ∀ b8 w8, NewBlk wl5 b8 [.int .i64 0, .slice none 0 0, .int .i64 0] 63 w8 →
  CanStore w8 b8 0 ∧ ∀ ws, Stored w8 b8 0 (.int .i64 n36) ws →
  CanStore ws b8 1 ∧ ∀ ws_1, Stored ws b8 1 (.slice p36 l36 c36) ws_1 →
  CanStore ws_1 b8 2 ∧ ∀ ws_2, Stored ws_1 b8 2 (.int .i64 n36_1) ws_2 →
  ∃ n38 : Int, ws_2.cell? ⟨b8, 0, none⟩ = some (.int .i64 n38) ∧ ∃ (p38 : Option Addr) (l38 c38 : Nat), ws_2.cell? ⟨b8, 1, none⟩ = some (.slice p38 l38 c38) ∧ ∃ n38_1 : Int, ws_2.cell? ⟨b8, 2, none⟩ = some (.int .i64 n38_1) ∧ Does Try.prog 33 #[.int .i64 x32, .agg #[.int .i64 n38, .slice p38 l38 c38, .int .i64 n38_1]] ws_2 fun e39 w39 =>
  ∃ b39 : Bool, e39 = .returned (.bool b39) ∧ Br (!b39)
  (R (.returned (.tuple #[.pointer none, .int .i64 4])) w39)
  (∀ wd9, Drew w39 wd9 →
  ∃ S9 : World → Prop, S9 wd9 ∧ ∃ (p45 : Option Addr) (l45 c45 : Nat), (∀ w, S9 w → w.cell? ⟨b29, 0, none⟩ = some (.slice p45 l45 c45)) ∧ ∃ n47 : Int, (∀ w, S9 w → w.cell? ⟨b8, 0, none⟩ = some (.int .i64 n47)) ∧ ∃ (p49 : Option Addr) (l49 c49 : Nat), wd9.cell? ⟨b8, 1, none⟩ = some (.slice p49 l49 c49) ∧ Does Try.prog 34 #[.slice p49 l49 c49] wd9 fun e50 w50 =>
  ∃ (p50 : Option Addr) (l50 c50 : Nat), e50 = .returned (.slice p50 l50 c50) ∧ S9 w50 ∧ ∃ n52 : Int, (∀ w, S9 w → w.cell? ⟨b8, 2, none⟩ = some (.int .i64 n52)) ∧ ∀ b54 w54, NewBlk w50 b54 [.int .i64 n47, .slice p50 l50 c50, .int .i64 n52] 63 w54 →
  S9 w54 ∧ ∃ (p55 : Option Addr) (l55 c55 : Nat) (w55 : World), (Builtin.append_ #[35, 35] 35 #[.slice p45 l45 c45, .slice (some ⟨b54, 0, none⟩) 1 1]).run Try.prog w54 = .ok (.slice p55 l55 c55) w55 ∧
  CanStore w55 b29 0 ∧ ∀ ws_3, Stored w55 b29 0 (.slice p55 l55 c55) ws_3 →
  InK .i64 (x32 + 1) ∧ ∃ ml5, ml5 < nl5 ∧ I5 (x32 + 1) ml5 ws_3))
  (R (.returned (.tuple #[.pointer (some ⟨b29, 0, none⟩), .int .i64 0])) wl5)))))
def f16_ann : Ann := { loops := [(5, [(32, .int .i64)])], cuts := [], flip := [], throws := [] }
theorem f16_eq (p0 : Option Addr) (l0 c0 : Nat) (a1 : Int) (w : World) (R : Ending → World → Prop) : vc Try.prog f16_ann (bodyOf Try.f16) (retQ Try.prog Try.f16 R) (envOf Try.f16.ntmps [.v (.slice p0 l0 c0), .v (.int .i64 a1)]) [] w = f16_vc p0 l0 c0 a1 w R := by kernel_rfl
theorem f16_does (p0 : Option Addr) (l0 c0 : Nat) (a1 : Int) {w : World} {R : Ending → World → Prop} (h : f16_vc p0 l0 c0 a1 w R) : Does Try.prog 16 #[.slice p0 l0 c0, .int .i64 a1] w R :=
  does_of_vc (ss := [.v (.slice p0 l0 c0), .v (.int .i64 a1)]) f16_ann mixed call16 Try.func16 rfl rfl (show 2 ≤ Try.f16.ntmps by decide) ((f16_eq p0 l0 c0 a1 w R).symm ▸ h)
/-- Of escritoire/escritoireref18.Load (function 17): the condition. -/
def f17_vc (p0 : Option Addr) (l0 c0 : Nat) (a1 : Int) (w : World) (R : Ending → World → Prop) : Prop :=
  Br (decide (((l0 : Int)) < 1))
  (R (.returned (.tuple #[.pointer none, .int .i64 4])) w)
  (Br (decide (((l0 : Int)) > 65536))
  (R (.returned (.tuple #[.pointer none, .int .i64 4])) w)
  (Br (decide (a1 < 0))
  (R (.returned (.tuple #[.pointer none, .int .i64 4])) w)
  (Br (decide (a1 ≥ ((l0 : Int))))
  (R (.returned (.tuple #[.pointer none, .int .i64 4])) w)
  (∃ I4 : Int → Nat → World → Prop, (∃ nl4, I4 0 nl4 w) ∧ ∀ x6 : Int, ∀ (nl4 : Nat) (wl4 : World), I4 x6 nl4 wl4 →
  Br (decide (x6 < ((l0 : Int))))
  (((0 : Int) ≤ x6 ∧ x6 < (l0 : Int)) ∧ ∃ b34 o34, p0 = some ⟨b34, o34, none⟩ ∧ ∃ n35 : Int, wl4.cell? ⟨b34, o34 + (x6).toNat * 3, none⟩ = some (.int .i64 n35) ∧ ∃ (p35 : Option Addr) (l35 c35 : Nat), wl4.cell? ⟨b34, o34 + (x6).toNat * 3 + 1, none⟩ = some (.slice p35 l35 c35) ∧ ∃ n35_1 : Int, wl4.cell? ⟨b34, o34 + (x6).toNat * 3 + 2, none⟩ = some (.int .i64 n35_1) ∧ ∀ b7 w7, NewBlk wl4 b7 [.int .i64 0, .slice none 0 0, .int .i64 0] 63 w7 →
  CanStore w7 b7 0 ∧ ∀ ws, Stored w7 b7 0 (.int .i64 n35) ws →
  CanStore ws b7 1 ∧ ∀ ws_1, Stored ws b7 1 (.slice p35 l35 c35) ws_1 →
  CanStore ws_1 b7 2 ∧ ∀ ws_2, Stored ws_1 b7 2 (.int .i64 n35_1) ws_2 →
  Br (x6 == 0)
  (∃ n40 : Int, ws_2.cell? ⟨b7, 0, none⟩ = some (.int .i64 n40) ∧ Br (n40 != (-1))
  (R (.returned (.tuple #[.pointer none, .int .i64 4])) ws_2)
  (∃ (p44 : Option Addr) (l44 c44 : Nat), ws_2.cell? ⟨b7, 1, none⟩ = some (.slice p44 l44 c44) ∧ Br (decide (((l44 : Int)) > 0))
  (R (.returned (.tuple #[.pointer none, .int .i64 4])) ws_2)
  (∃ n50 : Int, ws_2.cell? ⟨b7, 2, none⟩ = some (.int .i64 n50) ∧ Br (n50 != 0)
  (R (.returned (.tuple #[.pointer none, .int .i64 4])) ws_2)
  (Br (decide (x6 > 0))
  (∃ n59 : Int, ws_2.cell? ⟨b7, 0, none⟩ = some (.int .i64 n59) ∧ Br (decide (n59 < 0))
  (R (.returned (.tuple #[.pointer none, .int .i64 4])) ws_2)
  (∃ n63 : Int, ws_2.cell? ⟨b7, 0, none⟩ = some (.int .i64 n63) ∧ Br (decide (n63 ≥ x6))
  (R (.returned (.tuple #[.pointer none, .int .i64 4])) ws_2)
  (∃ (p69 : Option Addr) (l69 c69 : Nat), ws_2.cell? ⟨b7, 1, none⟩ = some (.slice p69 l69 c69) ∧ Br (((l69 : Int)) == 0)
  (R (.returned (.tuple #[.pointer none, .int .i64 4])) ws_2)
  (∃ n75 : Int, ws_2.cell? ⟨b7, 2, none⟩ = some (.int .i64 n75) ∧ Br (decide (n75 < 0))
  (R (.returned (.tuple #[.pointer none, .int .i64 4])) ws_2)
  (InK .i64 (x6 + 1) ∧ ∃ ml4, ml4 < nl4 ∧ I4 (x6 + 1) ml4 ws_2)))))
  (InK .i64 (x6 + 1) ∧ ∃ ml4, ml4 < nl4 ∧ I4 (x6 + 1) ml4 ws_2)))))
  (Br (decide (x6 > 0))
  (∃ n59_1 : Int, ws_2.cell? ⟨b7, 0, none⟩ = some (.int .i64 n59_1) ∧ Br (decide (n59_1 < 0))
  (R (.returned (.tuple #[.pointer none, .int .i64 4])) ws_2)
  (∃ n63_1 : Int, ws_2.cell? ⟨b7, 0, none⟩ = some (.int .i64 n63_1) ∧ Br (decide (n63_1 ≥ x6))
  (R (.returned (.tuple #[.pointer none, .int .i64 4])) ws_2)
  (∃ (p69_1 : Option Addr) (l69_1 c69_1 : Nat), ws_2.cell? ⟨b7, 1, none⟩ = some (.slice p69_1 l69_1 c69_1) ∧ Br (((l69_1 : Int)) == 0)
  (R (.returned (.tuple #[.pointer none, .int .i64 4])) ws_2)
  (∃ n75_1 : Int, ws_2.cell? ⟨b7, 2, none⟩ = some (.int .i64 n75_1) ∧ Br (decide (n75_1 < 0))
  (R (.returned (.tuple #[.pointer none, .int .i64 4])) ws_2)
  (InK .i64 (x6 + 1) ∧ ∃ ml4, ml4 < nl4 ∧ I4 (x6 + 1) ml4 ws_2)))))
  (InK .i64 (x6 + 1) ∧ ∃ ml4, ml4 < nl4 ∧ I4 (x6 + 1) ml4 ws_2)))
  (Does Try.prog 35 #[.slice p0 l0 c0] wl4 fun e81 w81 =>
  ∃ (p81 : Option Addr) (l81 c81 : Nat), e81 = .returned (.slice p81 l81 c81) ∧ ∀ b84 w84, NewBlk w81 b84 [.slice p81 l81 c81, .int .i64 a1] 51 w84 →
  R (.returned (.tuple #[.pointer (some ⟨b84, 0, none⟩), .int .i64 0])) w84)))))
def f17_ann : Ann := { loops := [(4, [(6, .int .i64)])], cuts := [], flip := [], throws := [] }
theorem f17_eq (p0 : Option Addr) (l0 c0 : Nat) (a1 : Int) (w : World) (R : Ending → World → Prop) : vc Try.prog f17_ann (bodyOf Try.f17) (retQ Try.prog Try.f17 R) (envOf Try.f17.ntmps [.v (.slice p0 l0 c0), .v (.int .i64 a1)]) [] w = f17_vc p0 l0 c0 a1 w R := by kernel_rfl
theorem f17_does (p0 : Option Addr) (l0 c0 : Nat) (a1 : Int) {w : World} {R : Ending → World → Prop} (h : f17_vc p0 l0 c0 a1 w R) : Does Try.prog 17 #[.slice p0 l0 c0, .int .i64 a1] w R :=
  does_of_vc (ss := [.v (.slice p0 l0 c0), .v (.int .i64 a1)]) f17_ann mixed call17 Try.func17 rfl rfl (show 2 ≤ Try.f17.ntmps by decide) ((f17_eq p0 l0 c0 a1 w R).symm ▸ h)
/-- Of escritoire/escritoireref18.Encode (function 18): the condition. -/
def f18_vc (a0 : Option Addr) (p1 : Option Addr) (l1 c1 : Nat) (w : World) (R : Ending → World → Prop) : Prop :=
  Br a0.isNone
  (R (.returned (.tuple #[.slice none 0 0, .int .i64 1])) w)
  (∀ wd3, Drew w wd3 →
  ∃ S3 : World → Prop, S3 wd3 ∧ ∃ b15 o15, a0 = some ⟨b15, o15, none⟩ ∧ ∃ (p17 : Option Addr) (l17 c17 : Nat), wd3.cell? ⟨b15, o15, none⟩ = some (.slice p17 l17 c17) ∧ Does Try.prog 36 #[.int .i64 ((l17 : Int))] wd3 fun e19 w19 =>
  ∃ (p19 : Option Addr) (l19 c19 : Nat), e19 = .returned (.slice p19 l19 c19) ∧ S3 w19 ∧ ∃ b21 o21, a0 = some ⟨b21, o21, none⟩ ∧ ∃ n23 : Int, (∀ w, S3 w → w.cell? ⟨b21, o21 + 1, none⟩ = some (.int .i64 n23)) ∧ Does Try.prog 36 #[.int .i64 n23] w19 fun e24 w24 =>
  ∃ (p24 : Option Addr) (l24 c24 : Nat), e24 = .returned (.slice p24 l24 c24) ∧ ∃ (p25 : Option Addr) (l25 c25 : Nat) (w25 : World), (Builtin.append_ #[25, 25] 25 #[.slice p19 l19 c19, .slice p24 l24 c24]).run Try.prog w24 = .ok (.slice p25 l25 c25) w25 ∧
  ∃ I5 : Option Addr → Nat → Nat → Int → Nat → World → Prop, (∃ nl5, I5 p25 l25 c25 1 nl5 w25) ∧ ∀ (p6 : Option Addr) (l6 c6 : Nat), ∀ x7 : Int, ∀ (nl5 : Nat) (wl5 : World), I5 p6 l6 c6 x7 nl5 wl5 →
  ∃ b28 o28, a0 = some ⟨b28, o28, none⟩ ∧ ∃ (p30 : Option Addr) (l30 c30 : Nat), wl5.cell? ⟨b28, o28, none⟩ = some (.slice p30 l30 c30) ∧ Br (decide (x7 < ((l30 : Int))))
  (∃ b36 o36, a0 = some ⟨b36, o36, none⟩ ∧ ∃ (p38 : Option Addr) (l38 c38 : Nat), wl5.cell? ⟨b36, o36, none⟩ = some (.slice p38 l38 c38) ∧ ((0 : Int) ≤ x7 ∧ x7 < (l38 : Int)) ∧ ∃ b40 o40, p38 = some ⟨b40, o40, none⟩ ∧ ∃ n41 : Int, wl5.cell? ⟨b40, o40 + (x7).toNat * 3, none⟩ = some (.int .i64 n41) ∧ ∃ (p41 : Option Addr) (l41 c41 : Nat), wl5.cell? ⟨b40, o40 + (x7).toNat * 3 + 1, none⟩ = some (.slice p41 l41 c41) ∧ ∃ n41_1 : Int, wl5.cell? ⟨b40, o40 + (x7).toNat * 3 + 2, none⟩ = some (.int .i64 n41_1) ∧ ∀ b8 w8, NewBlk wl5 b8 [.int .i64 0, .slice none 0 0, .int .i64 0] 63 w8 →
  CanStore w8 b8 0 ∧ ∀ ws, Stored w8 b8 0 (.int .i64 n41) ws →
  CanStore ws b8 1 ∧ ∀ ws_1, Stored ws b8 1 (.slice p41 l41 c41) ws_1 →
  CanStore ws_1 b8 2 ∧ ∀ ws_2, Stored ws_1 b8 2 (.int .i64 n41_1) ws_2 →
  ∃ n43 : Int, ws_2.cell? ⟨b8, 2, none⟩ = some (.int .i64 n43) ∧ Does Try.prog 37 #[.int .i64 n43] ws_2 fun e44 w44 =>
  ∃ b44 : Bool, e44 = .returned (.bool b44) ∧ Br (!b44)
  (R (.returned (.tuple #[.slice none 0 0, .int .i64 1])) w44)
  (∃ n48 : Int, w44.cell? ⟨b8, 0, none⟩ = some (.int .i64 n48) ∧ Does Try.prog 36 #[.int .i64 n48] w44 fun e49 w49 =>
  ∃ (p49 : Option Addr) (l49 c49 : Nat), e49 = .returned (.slice p49 l49 c49) ∧ ∃ (p50 : Option Addr) (l50 c50 : Nat) (w50 : World), (Builtin.append_ #[25, 25] 25 #[.slice p6 l6 c6, .slice p49 l49 c49]).run Try.prog w49 = .ok (.slice p50 l50 c50) w50 ∧
  ∃ n53 : Int, w50.cell? ⟨b8, 2, none⟩ = some (.int .i64 n53) ∧ Does Try.prog 36 #[.int .i64 n53] w50 fun e54 w54 =>
  ∃ (p54 : Option Addr) (l54 c54 : Nat), e54 = .returned (.slice p54 l54 c54) ∧ ∃ (p55 : Option Addr) (l55 c55 : Nat) (w55 : World), (Builtin.append_ #[25, 25] 25 #[.slice p50 l50 c50, .slice p54 l54 c54]).run Try.prog w54 = .ok (.slice p55 l55 c55) w55 ∧
  ∃ (p58 : Option Addr) (l58 c58 : Nat), w55.cell? ⟨b8, 1, none⟩ = some (.slice p58 l58 c58) ∧ Does Try.prog 36 #[.int .i64 ((l58 : Int))] w55 fun e60 w60 =>
  ∃ (p60 : Option Addr) (l60 c60 : Nat), e60 = .returned (.slice p60 l60 c60) ∧ ∃ (p61 : Option Addr) (l61 c61 : Nat) (w61 : World), (Builtin.append_ #[25, 25] 25 #[.slice p55 l55 c55, .slice p60 l60 c60]).run Try.prog w60 = .ok (.slice p61 l61 c61) w61 ∧
  ∃ I14 : Option Addr → Nat → Nat → Int → Nat → World → Prop, (∃ nl14, I14 p61 l61 c61 0 nl14 w61) ∧ ∀ (p6_1 : Option Addr) (l6_1 c6_1 : Nat), ∀ x9 : Int, ∀ (nl14 : Nat) (wl14 : World), I14 p6_1 l6_1 c6_1 x9 nl14 wl14 →
  ∃ (p64 : Option Addr) (l64 c64 : Nat), wl14.cell? ⟨b8, 1, none⟩ = some (.slice p64 l64 c64) ∧ Br (decide (x9 < ((l64 : Int))))
  (∃ (p70 : Option Addr) (l70 c70 : Nat), wl14.cell? ⟨b8, 1, none⟩ = some (.slice p70 l70 c70) ∧ ((0 : Int) ≤ x9 ∧ x9 < (l70 : Int)) ∧ ∃ b72 o72, p70 = some ⟨b72, o72, none⟩ ∧ ∃ n73 : Int, wl14.cell? ⟨b72, o72 + (x9).toNat * 3, none⟩ = some (.int .i64 n73) ∧ ∃ (p73 : Option Addr) (l73 c73 : Nat), wl14.cell? ⟨b72, o72 + (x9).toNat * 3 + 1, none⟩ = some (.slice p73 l73 c73) ∧ ∃ (p73_1 : Option Addr) (l73_1 c73_1 : Nat), wl14.cell? ⟨b72, o72 + (x9).toNat * 3 + 2, none⟩ = some (.slice p73_1 l73_1 c73_1) ∧ ∀ b10 w10, NewBlk wl14 b10 [.int .i64 0, .slice none 0 0, .slice none 0 0] 58 w10 →
  CanStore w10 b10 0 ∧ ∀ ws_3, Stored w10 b10 0 (.int .i64 n73) ws_3 →
  CanStore ws_3 b10 1 ∧ ∀ ws_4, Stored ws_3 b10 1 (.slice p73 l73 c73) ws_4 →
  CanStore ws_4 b10 2 ∧ ∀ ws_5, Stored ws_4 b10 2 (.slice p73_1 l73_1 c73_1) ws_5 →
  ∃ n75 : Int, ws_5.cell? ⟨b10, 0, none⟩ = some (.int .i64 n75) ∧ Does Try.prog 37 #[.int .i64 n75] ws_5 fun e76 w76 =>
  ∃ b76 : Bool, e76 = .returned (.bool b76) ∧ Br (!b76)
  (R (.returned (.tuple #[.slice none 0 0, .int .i64 1])) w76)
  (∃ n80 : Int, w76.cell? ⟨b10, 0, none⟩ = some (.int .i64 n80) ∧ Does Try.prog 36 #[.int .i64 n80] w76 fun e81 w81 =>
  ∃ (p81 : Option Addr) (l81 c81 : Nat), e81 = .returned (.slice p81 l81 c81) ∧ ∃ (p82 : Option Addr) (l82 c82 : Nat) (w82 : World), (Builtin.append_ #[25, 25] 25 #[.slice p6_1 l6_1 c6_1, .slice p81 l81 c81]).run Try.prog w81 = .ok (.slice p82 l82 c82) w82 ∧
  ∃ (p85 : Option Addr) (l85 c85 : Nat), w82.cell? ⟨b10, 1, none⟩ = some (.slice p85 l85 c85) ∧ Does Try.prog 36 #[.int .i64 ((l85 : Int))] w82 fun e87 w87 =>
  ∃ (p87 : Option Addr) (l87 c87 : Nat), e87 = .returned (.slice p87 l87 c87) ∧ ∃ (p88 : Option Addr) (l88 c88 : Nat) (w88 : World), (Builtin.append_ #[25, 25] 25 #[.slice p82 l82 c82, .slice p87 l87 c87]).run Try.prog w87 = .ok (.slice p88 l88 c88) w88 ∧
  ∃ (p91 : Option Addr) (l91 c91 : Nat), w88.cell? ⟨b10, 1, none⟩ = some (.slice p91 l91 c91) ∧ ∃ (p92 : Option Addr) (l92 c92 : Nat) (w92 : World), (Builtin.append_ #[25, 25] 25 #[.slice p88 l88 c88, .slice p91 l91 c91]).run Try.prog w88 = .ok (.slice p92 l92 c92) w92 ∧
  ∃ (p95 : Option Addr) (l95 c95 : Nat), w92.cell? ⟨b10, 2, none⟩ = some (.slice p95 l95 c95) ∧ Does Try.prog 36 #[.int .i64 ((l95 : Int))] w92 fun e97 w97 =>
  ∃ (p97 : Option Addr) (l97 c97 : Nat), e97 = .returned (.slice p97 l97 c97) ∧ ∃ (p98 : Option Addr) (l98 c98 : Nat) (w98 : World), (Builtin.append_ #[25, 25] 25 #[.slice p92 l92 c92, .slice p97 l97 c97]).run Try.prog w97 = .ok (.slice p98 l98 c98) w98 ∧
  ∃ (p101 : Option Addr) (l101 c101 : Nat), w98.cell? ⟨b10, 2, none⟩ = some (.slice p101 l101 c101) ∧ ∃ (p102 : Option Addr) (l102 c102 : Nat) (w102 : World), (Builtin.append_ #[25, 25] 25 #[.slice p98 l98 c98, .slice p101 l101 c101]).run Try.prog w98 = .ok (.slice p102 l102 c102) w102 ∧
  InK .i64 (x9 + 1) ∧ ∃ ml14, ml14 < nl14 ∧ I14 p102 l102 c102 (x9 + 1) ml14 w102))
  (InK .i64 (x7 + 1) ∧ ∃ ml5, ml5 < nl5 ∧ I5 p6_1 l6_1 c6_1 (x7 + 1) ml5 wl14)))
  (Does Try.prog 38 #[.slice p1 l1 c1] wl5 fun e104 w104 =>
  ∃ b104 : Bool, e104 = .returned (.bool b104) ∧ Br (!b104)
  (R (.returned (.tuple #[.slice none 0 0, .int .i64 1])) w104)
  (∀ b110 w110, NewBlk w104 b110 [.int .u8 (IntKind.wrap .u8 ((l1 : Int)))] 5 w110 →
  ∃ (p111 : Option Addr) (l111 c111 : Nat) (w111 : World), (Builtin.append_ #[25, 25] 25 #[.slice p6 l6 c6, .slice (some ⟨b110, 0, none⟩) 1 1]).run Try.prog w110 = .ok (.slice p111 l111 c111) w111 ∧
  ∃ I28 : Option Addr → Nat → Nat → Int → Nat → World → Prop, (∃ nl28, I28 p111 l111 c111 0 nl28 w111) ∧ ∀ (p6_2 : Option Addr) (l6_2 c6_2 : Nat), ∀ x11 : Int, ∀ (nl28 : Nat) (wl28 : World), I28 p6_2 l6_2 c6_2 x11 nl28 wl28 →
  Br (decide (x11 < ((l1 : Int))))
  (((0 : Int) ≤ x11 ∧ x11 < (l1 : Int)) ∧ ∃ b121 o121, p1 = some ⟨b121, o121, none⟩ ∧ ∃ n123 : Int, wl28.cell? ⟨b121, o121 + (x11).toNat * 2, none⟩ = some (.int .u8 n123) ∧ ∀ b124 w124, NewBlk wl28 b124 [.int .u8 n123] 5 w124 →
  ∃ (p125 : Option Addr) (l125 c125 : Nat) (w125 : World), (Builtin.append_ #[25, 25] 25 #[.slice p6_2 l6_2 c6_2, .slice (some ⟨b124, 0, none⟩) 1 1]).run Try.prog w124 = .ok (.slice p125 l125 c125) w125 ∧
  ((0 : Int) ≤ x11 ∧ x11 < (l1 : Int)) ∧ ∃ b129 o129, p1 = some ⟨b129, o129, none⟩ ∧ ∃ n131 : Int, w125.cell? ⟨b129, o129 + (x11).toNat * 2 + 1, none⟩ = some (.int .i64 n131) ∧ Does Try.prog 36 #[.int .i64 n131] w125 fun e132 w132 =>
  ∃ (p132 : Option Addr) (l132 c132 : Nat), e132 = .returned (.slice p132 l132 c132) ∧ ∃ (p133 : Option Addr) (l133 c133 : Nat) (w133 : World), (Builtin.append_ #[25, 25] 25 #[.slice p125 l125 c125, .slice p132 l132 c132]).run Try.prog w132 = .ok (.slice p133 l133 c133) w133 ∧
  InK .i64 (x11 + 1) ∧ ∃ ml28, ml28 < nl28 ∧ I28 p133 l133 c133 (x11 + 1) ml28 w133)
  (Br (decide (((l6_2 : Int)) > 1048576))
  (R (.returned (.tuple #[.slice none 0 0, .int .i64 3])) wl28)
  (R (.returned (.tuple #[.slice p6_2 l6_2 c6_2, .int .i64 0])) wl28)))))
def f18_ann : Ann := { loops := [(5, [(6, .slice), (7, .int .i64)]), (14, [(6, .slice), (9, .int .i64)]), (28, [(6, .slice), (11, .int .i64)])], cuts := [], flip := [], throws := [] }
theorem f18_eq (a0 : Option Addr) (p1 : Option Addr) (l1 c1 : Nat) (w : World) (R : Ending → World → Prop) : vc Try.prog f18_ann (bodyOf Try.f18) (retQ Try.prog Try.f18 R) (envOf Try.f18.ntmps [.v (.pointer a0), .v (.slice p1 l1 c1)]) [] w = f18_vc a0 p1 l1 c1 w R := by kernel_rfl
theorem f18_does (a0 : Option Addr) (p1 : Option Addr) (l1 c1 : Nat) {w : World} {R : Ending → World → Prop} (h : f18_vc a0 p1 l1 c1 w R) : Does Try.prog 18 #[.pointer a0, .slice p1 l1 c1] w R :=
  does_of_vc (ss := [.v (.pointer a0), .v (.slice p1 l1 c1)]) f18_ann mixed call18 Try.func18 rfl rfl (show 2 ≤ Try.f18.ntmps by decide) ((f18_eq a0 p1 l1 c1 w R).symm ▸ h)
/-- Of escritoire/escritoireref18.SameNodes (function 19): the condition. -/
def f19_vc (p0 : Option Addr) (l0 c0 : Nat) (p1 : Option Addr) (l1 c1 : Nat) (w : World) (R : Ending → World → Prop) : Prop :=
  Br (((l0 : Int)) != ((l1 : Int)))
  (R (.returned (.bool false)) w)
  (∃ I4 : Int → Nat → World → Prop, (∃ nl4, I4 0 nl4 w) ∧ ∀ x5 : Int, ∀ (nl4 : Nat) (wl4 : World), I4 x5 nl4 wl4 →
  Br (decide (x5 < ((l0 : Int))))
  (∀ wd6, Drew wl4 wd6 →
  ((0 : Int) ≤ x5 ∧ x5 < (l0 : Int)) ∧ ∃ b19 o19, p0 = some ⟨b19, o19, none⟩ ∧ ∃ n21 : Int, wd6.cell? ⟨b19, o19 + (x5).toNat * 3, none⟩ = some (.int .i64 n21) ∧ ((0 : Int) ≤ x5 ∧ x5 < (l1 : Int)) ∧ ∃ b24 o24, p1 = some ⟨b24, o24, none⟩ ∧ ∃ n26 : Int, wd6.cell? ⟨b24, o24 + (x5).toNat * 3, none⟩ = some (.int .i64 n26) ∧ Br (n21 != n26)
  (R (.returned (.bool false)) wd6)
  (((0 : Int) ≤ x5 ∧ x5 < (l0 : Int)) ∧ ∃ b31 o31, p0 = some ⟨b31, o31, none⟩ ∧ ∃ n33 : Int, wd6.cell? ⟨b31, o31 + (x5).toNat * 3 + 2, none⟩ = some (.int .i64 n33) ∧ ((0 : Int) ≤ x5 ∧ x5 < (l1 : Int)) ∧ ∃ b36 o36, p1 = some ⟨b36, o36, none⟩ ∧ ∃ n38 : Int, wd6.cell? ⟨b36, o36 + (x5).toNat * 3 + 2, none⟩ = some (.int .i64 n38) ∧ Br (n33 != n38)
  (R (.returned (.bool false)) wd6)
  (((0 : Int) ≤ x5 ∧ x5 < (l0 : Int)) ∧ ∃ b44 o44, p0 = some ⟨b44, o44, none⟩ ∧ ∃ (p46 : Option Addr) (l46 c46 : Nat), wd6.cell? ⟨b44, o44 + (x5).toNat * 3 + 1, none⟩ = some (.slice p46 l46 c46) ∧ ((0 : Int) ≤ x5 ∧ x5 < (l1 : Int)) ∧ ∃ b49 o49, p1 = some ⟨b49, o49, none⟩ ∧ ∃ (p51 : Option Addr) (l51 c51 : Nat), wd6.cell? ⟨b49, o49 + (x5).toNat * 3 + 1, none⟩ = some (.slice p51 l51 c51) ∧ Does Try.prog 39 #[.slice p46 l46 c46, .slice p51 l51 c51] wd6 fun e52 w52 =>
  ∃ b52 : Bool, e52 = .returned (.bool b52) ∧ Br (!b52)
  (R (.returned (.bool false)) w52)
  (InK .i64 (x5 + 1) ∧ ∃ ml4, ml4 < nl4 ∧ I4 (x5 + 1) ml4 w52))))
  (R (.returned (.bool true)) wl4))
def f19_ann : Ann := { loops := [(4, [(5, .int .i64)])], cuts := [], flip := [], throws := [] }
theorem f19_eq (p0 : Option Addr) (l0 c0 : Nat) (p1 : Option Addr) (l1 c1 : Nat) (w : World) (R : Ending → World → Prop) : vc Try.prog f19_ann (bodyOf Try.f19) (retQ Try.prog Try.f19 R) (envOf Try.f19.ntmps [.v (.slice p0 l0 c0), .v (.slice p1 l1 c1)]) [] w = f19_vc p0 l0 c0 p1 l1 c1 w R := by kernel_rfl
theorem f19_does (p0 : Option Addr) (l0 c0 : Nat) (p1 : Option Addr) (l1 c1 : Nat) {w : World} {R : Ending → World → Prop} (h : f19_vc p0 l0 c0 p1 l1 c1 w R) : Does Try.prog 19 #[.slice p0 l0 c0, .slice p1 l1 c1] w R :=
  does_of_vc (ss := [.v (.slice p0 l0 c0), .v (.slice p1 l1 c1)]) f19_ann mixed call19 Try.func19 rfl rfl (show 2 ≤ Try.f19.ntmps by decide) ((f19_eq p0 l0 c0 p1 l1 c1 w R).symm ▸ h)
/-- Of (*escritoire/history.History).Nodes (function 20): the condition. -/
def f20_vc (a0 : Option Addr) (w : World) (R : Ending → World → Prop) : Prop :=
  Does Try.prog 14 #[.pointer a0] w fun e8 w8 =>
  ∃ n8 : Int, e8 = .returned (.int .i64 n8) ∧ ∃ I3 : Option Addr → Nat → Nat → Int → Nat → World → Prop, (∃ nl3, I3 none 0 0 0 nl3 w8) ∧ ∀ (p3 : Option Addr) (l3 c3 : Nat), ∀ x9 : Int, ∀ (nl3 : Nat) (wl3 : World), I3 p3 l3 c3 x9 nl3 wl3 →
  Br (decide (x9 < n8))
  (Does Try.prog 40 #[.pointer a0, .int .i64 x9] wl3 fun e15 w15 =>
  ∃ n15 : Int, ∃ (p15 : Option Addr) (l15 c15 : Nat), ∃ n15_1 : Int, ∃ b15 : Bool, e15 = .returned (.tuple #[.agg #[.int .i64 n15, .slice p15 l15 c15, .int .i64 n15_1], .bool b15]) ∧ ∀ b5 w5, NewBlk w15 b5 [.int .i64 0, .slice none 0 0, .int .i64 0] 63 w5 →
  CanStore w5 b5 0 ∧ ∀ ws, Stored w5 b5 0 (.int .i64 n15) ws →
  CanStore ws b5 1 ∧ ∀ ws_1, Stored ws b5 1 (.slice p15 l15 c15) ws_1 →
  CanStore ws_1 b5 2 ∧ ∀ ws_2, Stored ws_1 b5 2 (.int .i64 n15_1) ws_2 →
  ∃ n19 : Int, ws_2.cell? ⟨b5, 0, none⟩ = some (.int .i64 n19) ∧ ∃ (p19 : Option Addr) (l19 c19 : Nat), ws_2.cell? ⟨b5, 1, none⟩ = some (.slice p19 l19 c19) ∧ ∃ n19_1 : Int, ws_2.cell? ⟨b5, 2, none⟩ = some (.int .i64 n19_1) ∧ ∀ b20 w20, NewBlk ws_2 b20 [.int .i64 n19, .slice p19 l19 c19, .int .i64 n19_1] 63 w20 →
  ∃ (p21 : Option Addr) (l21 c21 : Nat) (w21 : World), (Builtin.append_ #[35, 35] 35 #[.slice p3 l3 c3, .slice (some ⟨b20, 0, none⟩) 1 1]).run Try.prog w20 = .ok (.slice p21 l21 c21) w21 ∧
  InK .i64 (x9 + 1) ∧ ∃ ml3, ml3 < nl3 ∧ I3 p21 l21 c21 (x9 + 1) ml3 w21)
  (R (.returned (.slice p3 l3 c3)) wl3)
def f20_ann : Ann := { loops := [(3, [(3, .slice), (9, .int .i64)])], cuts := [], flip := [], throws := [] }
theorem f20_eq (a0 : Option Addr) (w : World) (R : Ending → World → Prop) : vc Try.prog f20_ann (bodyOf Try.f20) (retQ Try.prog Try.f20 R) (envOf Try.f20.ntmps [.v (.pointer a0)]) [] w = f20_vc a0 w R := by kernel_rfl
theorem f20_does (a0 : Option Addr) {w : World} {R : Ending → World → Prop} (h : f20_vc a0 w R) : Does Try.prog 20 #[.pointer a0] w R :=
  does_of_vc (ss := [.v (.pointer a0)]) f20_ann mixed call20 Try.func20 rfl rfl (show 1 ≤ Try.f20.ntmps by decide) ((f20_eq a0 w R).symm ▸ h)
/-- Of (*escritoire/history.History).Current (function 21): the condition. -/
def f21_vc (a0 : Option Addr) (w : World) (R : Ending → World → Prop) : Prop :=
  Does Try.prog 31 #[.pointer a0] w fun e4 w4 =>
  ∃ b4 : Bool, e4 = .returned (.bool b4) ∧ Br (!b4)
  (R (.returned (.int .i64 0)) w4)
  (∃ b7 o7, a0 = some ⟨b7, o7, none⟩ ∧ ∃ n9 : Int, w4.cell? ⟨b7, o7 + 1, none⟩ = some (.int .i64 n9) ∧ R (.returned (.int .i64 n9)) w4)
def f21_ann : Ann := { loops := [], cuts := [], flip := [], throws := [] }
theorem f21_eq (a0 : Option Addr) (w : World) (R : Ending → World → Prop) : vc Try.prog f21_ann (bodyOf Try.f21) (retQ Try.prog Try.f21 R) (envOf Try.f21.ntmps [.v (.pointer a0)]) [] w = f21_vc a0 w R := by kernel_rfl
theorem f21_does (a0 : Option Addr) {w : World} {R : Ending → World → Prop} (h : f21_vc a0 w R) : Does Try.prog 21 #[.pointer a0] w R :=
  does_of_vc (ss := [.v (.pointer a0)]) f21_ann mixed call21 Try.func21 rfl rfl (show 1 ≤ Try.f21.ntmps by decide) ((f21_eq a0 w R).symm ▸ h)
/-- Of escritoire/escritoireref18.SameMarks (function 22): the condition. -/
def f22_vc (p0 : Option Addr) (l0 c0 : Nat) (p1 : Option Addr) (l1 c1 : Nat) (w : World) (R : Ending → World → Prop) : Prop :=
  Br (((l0 : Int)) != ((l1 : Int)))
  (R (.returned (.bool false)) w)
  (∃ I4 : Int → Nat → World → Prop, (∃ nl4, I4 0 nl4 w) ∧ ∀ x5 : Int, ∀ (nl4 : Nat) (wl4 : World), I4 x5 nl4 wl4 →
  Br (decide (x5 < ((l0 : Int))))
  (∀ wd6, Drew wl4 wd6 →
  ((0 : Int) ≤ x5 ∧ x5 < (l0 : Int)) ∧ ∃ b19 o19, p0 = some ⟨b19, o19, none⟩ ∧ ∃ n20 : Int, wd6.cell? ⟨b19, o19 + (x5).toNat * 2, none⟩ = some (.int .u8 n20) ∧ ∃ n20_1 : Int, wd6.cell? ⟨b19, o19 + (x5).toNat * 2 + 1, none⟩ = some (.int .i64 n20_1) ∧ ((0 : Int) ≤ x5 ∧ x5 < (l1 : Int)) ∧ ∃ b23 o23, p1 = some ⟨b23, o23, none⟩ ∧ ∃ n24 : Int, wd6.cell? ⟨b23, o23 + (x5).toNat * 2, none⟩ = some (.int .u8 n24) ∧ ∃ n24_1 : Int, wd6.cell? ⟨b23, o23 + (x5).toNat * 2 + 1, none⟩ = some (.int .i64 n24_1) ∧ Br (!((n20 == n24) && ((n20_1 == n24_1) && true)))
  (R (.returned (.bool false)) wd6)
  (InK .i64 (x5 + 1) ∧ ∃ ml4, ml4 < nl4 ∧ I4 (x5 + 1) ml4 wd6))
  (R (.returned (.bool true)) wl4))
def f22_ann : Ann := { loops := [(4, [(5, .int .i64)])], cuts := [], flip := [], throws := [] }
theorem f22_eq (p0 : Option Addr) (l0 c0 : Nat) (p1 : Option Addr) (l1 c1 : Nat) (w : World) (R : Ending → World → Prop) : vc Try.prog f22_ann (bodyOf Try.f22) (retQ Try.prog Try.f22 R) (envOf Try.f22.ntmps [.v (.slice p0 l0 c0), .v (.slice p1 l1 c1)]) [] w = f22_vc p0 l0 c0 p1 l1 c1 w R := by kernel_rfl
theorem f22_does (p0 : Option Addr) (l0 c0 : Nat) (p1 : Option Addr) (l1 c1 : Nat) {w : World} {R : Ending → World → Prop} (h : f22_vc p0 l0 c0 p1 l1 c1 w R) : Does Try.prog 22 #[.slice p0 l0 c0, .slice p1 l1 c1] w R :=
  does_of_vc (ss := [.v (.slice p0 l0 c0), .v (.slice p1 l1 c1)]) f22_ann mixed call22 Try.func22 rfl rfl (show 2 ≤ Try.f22.ntmps by decide) ((f22_eq p0 l0 c0 p1 l1 c1 w R).symm ▸ h)
/-- Of escritoire/escritoireref18.Decode (function 23): the condition. -/
def f23_vc (p0 : Option Addr) (l0 c0 : Nat) (w : World) (R : Ending → World → Prop) : Prop :=
  Br (((l0 : Int)) == 0)
  (Does Try.prog 41 #[] w fun e25 w25 =>
  ∃ p25 : Option Addr, e25 = .returned (.pointer p25) ∧ R (.returned (.tuple #[.pointer p25, .slice none 0 0, .int .i64 0])) w25)
  (∀ b28 w28, NewBlk w b28 [.slice p0 l0 c0, .bool false] 89 w28 →
  Does Try.prog 42 #[.pointer (some ⟨b28, 0, none⟩), .int .i64 4] w28 fun e30 w30 =>
  ∃ n30 : Int, e30 = .returned (.int .i64 n30) ∧ Does Try.prog 42 #[.pointer (some ⟨b28, 0, none⟩), .int .i64 4] w30 fun e32 w32 =>
  ∃ n32 : Int, e32 = .returned (.int .i64 n32) ∧ ∀ b34 w34, NewBlk w32 b34 [.int .i64 (-1), .slice none 0 0, .int .i64 0] 63 w34 →
  ∃ J20 : Option Addr → Nat → Nat → Nat → World → Prop, (∃ I8 : Option Addr → Nat → Nat → Int → Nat → World → Prop, (∃ nl8, I8 (some ⟨b34, 0, none⟩) 1 1 1 nl8 w34) ∧ ∀ (p8 : Option Addr) (l8 c8 : Nat), ∀ x9 : Int, ∀ (nl8 : Nat) (wl8 : World), I8 p8 l8 c8 x9 nl8 wl8 →
  Br (decide (x9 < n30))
  (∃ b42 : Bool, wl8.cell? ⟨b28, 1, none⟩ = some (.bool b42) ∧ Br (!b42)
  (Does Try.prog 42 #[.pointer (some ⟨b28, 0, none⟩), .int .i64 4] wl8 fun e48 w48 =>
  ∃ n48 : Int, e48 = .returned (.int .i64 n48) ∧ Does Try.prog 42 #[.pointer (some ⟨b28, 0, none⟩), .int .i64 4] w48 fun e50 w50 =>
  ∃ n50 : Int, e50 = .returned (.int .i64 n50) ∧ ∀ b10 w10, NewBlk w50 b10 [.int .i64 0, .slice none 0 0, .int .i64 0] 63 w10 →
  CanStore w10 b10 0 ∧ ∀ ws, Stored w10 b10 0 (.int .i64 n48) ws →
  CanStore ws b10 1 ∧ ∀ ws_1, Stored ws b10 1 (.slice none 0 0) ws_1 →
  CanStore ws_1 b10 2 ∧ ∀ ws_2, Stored ws_1 b10 2 (.int .i64 n50) ws_2 →
  Does Try.prog 42 #[.pointer (some ⟨b28, 0, none⟩), .int .i64 4] ws_2 fun e53 w53 =>
  ∃ n53 : Int, e53 = .returned (.int .i64 n53) ∧ ∃ J19 : Nat → World → Prop, (∃ I13 : Int → Nat → World → Prop, (∃ nl13, I13 0 nl13 w53) ∧ ∀ x12 : Int, ∀ (nl13 : Nat) (wl13 : World), I13 x12 nl13 wl13 →
  Br (decide (x12 < n53))
  (∃ b61 : Bool, wl13.cell? ⟨b28, 1, none⟩ = some (.bool b61) ∧ Br (!b61)
  (Does Try.prog 42 #[.pointer (some ⟨b28, 0, none⟩), .int .i64 4] wl13 fun e67 w67 =>
  ∃ n67 : Int, e67 = .returned (.int .i64 n67) ∧ ∀ b13 w13, NewBlk w67 b13 [.int .i64 0, .slice none 0 0, .slice none 0 0] 58 w13 →
  CanStore w13 b13 0 ∧ ∀ ws_3, Stored w13 b13 0 (.int .i64 n67) ws_3 →
  CanStore ws_3 b13 1 ∧ ∀ ws_4, Stored ws_3 b13 1 (.slice none 0 0) ws_4 →
  CanStore ws_4 b13 2 ∧ ∀ ws_5, Stored ws_4 b13 2 (.slice none 0 0) ws_5 →
  Does Try.prog 42 #[.pointer (some ⟨b28, 0, none⟩), .int .i64 4] ws_5 fun e71 w71 =>
  ∃ n71 : Int, e71 = .returned (.int .i64 n71) ∧ Does Try.prog 43 #[.pointer (some ⟨b28, 0, none⟩), .int .i64 n71] w71 fun e72 w72 =>
  ∃ (p72 : Option Addr) (l72 c72 : Nat), e72 = .returned (.slice p72 l72 c72) ∧ Does Try.prog 12 #[.slice p72 l72 c72] w72 fun e73 w73 =>
  ∃ (p73 : Option Addr) (l73 c73 : Nat), e73 = .returned (.slice p73 l73 c73) ∧ CanStore w73 b13 1 ∧ ∀ ws_6, Stored w73 b13 1 (.slice p73 l73 c73) ws_6 →
  Does Try.prog 42 #[.pointer (some ⟨b28, 0, none⟩), .int .i64 4] ws_6 fun e77 w77 =>
  ∃ n77 : Int, e77 = .returned (.int .i64 n77) ∧ Does Try.prog 43 #[.pointer (some ⟨b28, 0, none⟩), .int .i64 n77] w77 fun e78 w78 =>
  ∃ (p78 : Option Addr) (l78 c78 : Nat), e78 = .returned (.slice p78 l78 c78) ∧ Does Try.prog 12 #[.slice p78 l78 c78] w78 fun e79 w79 =>
  ∃ (p79 : Option Addr) (l79 c79 : Nat), e79 = .returned (.slice p79 l79 c79) ∧ CanStore w79 b13 2 ∧ ∀ ws_7, Stored w79 b13 2 (.slice p79 l79 c79) ws_7 →
  ∃ (p82 : Option Addr) (l82 c82 : Nat), ws_7.cell? ⟨b10, 1, none⟩ = some (.slice p82 l82 c82) ∧ ∃ n83 : Int, ws_7.cell? ⟨b13, 0, none⟩ = some (.int .i64 n83) ∧ ∃ (p83 : Option Addr) (l83 c83 : Nat), ws_7.cell? ⟨b13, 1, none⟩ = some (.slice p83 l83 c83) ∧ ∃ (p83_1 : Option Addr) (l83_1 c83_1 : Nat), ws_7.cell? ⟨b13, 2, none⟩ = some (.slice p83_1 l83_1 c83_1) ∧ ∀ b84 w84, NewBlk ws_7 b84 [.int .i64 n83, .slice p83 l83 c83, .slice p83_1 l83_1 c83_1] 58 w84 →
  ∃ (p85 : Option Addr) (l85 c85 : Nat) (w85 : World), (Builtin.append_ #[59, 59] 59 #[.slice p82 l82 c82, .slice (some ⟨b84, 0, none⟩) 1 1]).run Try.prog w84 = .ok (.slice p85 l85 c85) w85 ∧
  CanStore w85 b10 1 ∧ ∀ ws_8, Stored w85 b10 1 (.slice p85 l85 c85) ws_8 →
  InK .i64 (x12 + 1) ∧ ∃ ml13, ml13 < nl13 ∧ I13 (x12 + 1) ml13 ws_8)
  (∃ nc19, J19  nc19 wl13))
  (∃ nc19, J19  nc19 wl13)) ∧ ∀ (nc19 : Nat) (wc19 : World), J19  nc19 wc19 →
  ∃ n88 : Int, wc19.cell? ⟨b10, 0, none⟩ = some (.int .i64 n88) ∧ ∃ (p88 : Option Addr) (l88 c88 : Nat), wc19.cell? ⟨b10, 1, none⟩ = some (.slice p88 l88 c88) ∧ ∃ n88_1 : Int, wc19.cell? ⟨b10, 2, none⟩ = some (.int .i64 n88_1) ∧ ∀ b89 w89, NewBlk wc19 b89 [.int .i64 n88, .slice p88 l88 c88, .int .i64 n88_1] 63 w89 →
  ∃ (p90 : Option Addr) (l90 c90 : Nat) (w90 : World), (Builtin.append_ #[35, 35] 35 #[.slice p8 l8 c8, .slice (some ⟨b89, 0, none⟩) 1 1]).run Try.prog w89 = .ok (.slice p90 l90 c90) w90 ∧
  InK .i64 (x9 + 1) ∧ ∃ ml8, ml8 < nl8 ∧ I8 p90 l90 c90 (x9 + 1) ml8 w90)
  (∃ nc20, J20 p8 l8 c8 nc20 wl8))
  (∃ nc20, J20 p8 l8 c8 nc20 wl8)) ∧ ∀ (p8_1 : Option Addr) (l8_1 c8_1 : Nat), ∀ (nc20 : Nat) (wc20 : World), J20 p8_1 l8_1 c8_1 nc20 wc20 →
  Does Try.prog 42 #[.pointer (some ⟨b28, 0, none⟩), .int .i64 1] wc20 fun e92 w92 =>
  ∃ n92 : Int, e92 = .returned (.int .i64 n92) ∧ ∃ J31 : Option Addr → Nat → Nat → Nat → World → Prop, (∃ I23 : Option Addr → Nat → Nat → Int → Nat → World → Prop, (∃ nl23, I23 none 0 0 0 nl23 w92) ∧ ∀ (p14 : Option Addr) (l14 c14 : Nat), ∀ x16 : Int, ∀ (nl23 : Nat) (wl23 : World), I23 p14 l14 c14 x16 nl23 wl23 →
  Br (decide (x16 < n92))
  (∃ b100 : Bool, wl23.cell? ⟨b28, 1, none⟩ = some (.bool b100) ∧ Br (!b100)
  (∀ b17 w17, NewBlk wl23 b17 [.int .u8 0, .int .i64 0] 61 w17 →
  CanStore w17 b17 0 ∧ ∀ ws_9, Stored w17 b17 0 (.int .u8 0) ws_9 →
  CanStore ws_9 b17 1 ∧ ∀ ws_10, Stored ws_9 b17 1 (.int .i64 0) ws_10 →
  Does Try.prog 43 #[.pointer (some ⟨b28, 0, none⟩), .int .i64 1] ws_10 fun e107 w107 =>
  ∃ (p107 : Option Addr) (l107 c107 : Nat), e107 = .returned (.slice p107 l107 c107) ∧ ∃ J29 : Nat → World → Prop, (Br (((l107 : Int)) == 1)
  (((0 : Int) ≤ 0 ∧ 0 < (l107 : Int)) ∧ ∃ b112 o112, p107 = some ⟨b112, o112, none⟩ ∧ ∃ n113 : Int, w107.cell? ⟨b112, o112 + (0 : Int).toNat, none⟩ = some (.int .u8 n113) ∧ CanStore w107 b17 0 ∧ ∀ ws_11, Stored w107 b17 0 (.int .u8 n113) ws_11 →
  ∃ nc29, J29  nc29 ws_11)
  (∃ nc29, J29  nc29 w107)) ∧ ∀ (nc29 : Nat) (wc29 : World), J29  nc29 wc29 →
  Does Try.prog 42 #[.pointer (some ⟨b28, 0, none⟩), .int .i64 4] wc29 fun e116 w116 =>
  ∃ n116 : Int, e116 = .returned (.int .i64 n116) ∧ CanStore w116 b17 1 ∧ ∀ ws_12, Stored w116 b17 1 (.int .i64 n116) ws_12 →
  ∃ n119 : Int, ws_12.cell? ⟨b17, 0, none⟩ = some (.int .u8 n119) ∧ ∃ n119_1 : Int, ws_12.cell? ⟨b17, 1, none⟩ = some (.int .i64 n119_1) ∧ ∀ b120 w120, NewBlk ws_12 b120 [.int .u8 n119, .int .i64 n119_1] 61 w120 →
  ∃ (p121 : Option Addr) (l121 c121 : Nat) (w121 : World), (Builtin.append_ #[29, 29] 29 #[.slice p14 l14 c14, .slice (some ⟨b120, 0, none⟩) 1 1]).run Try.prog w120 = .ok (.slice p121 l121 c121) w121 ∧
  InK .i64 (x16 + 1) ∧ ∃ ml23, ml23 < nl23 ∧ I23 p121 l121 c121 (x16 + 1) ml23 w121)
  (∃ nc31, J31 p14 l14 c14 nc31 wl23))
  (∃ nc31, J31 p14 l14 c14 nc31 wl23)) ∧ ∀ (p14_1 : Option Addr) (l14_1 c14_1 : Nat), ∀ (nc31 : Nat) (wc31 : World), J31 p14_1 l14_1 c14_1 nc31 wc31 →
  ∃ b125 : Bool, wc31.cell? ⟨b28, 1, none⟩ = some (.bool b125) ∧ Br b125
  (R (.returned (.tuple #[.pointer none, .slice none 0 0, .int .i64 2])) wc31)
  (∃ (p129 : Option Addr) (l129 c129 : Nat), wc31.cell? ⟨b28, 0, none⟩ = some (.slice p129 l129 c129) ∧ Br (decide (((l129 : Int)) > 0))
  (R (.returned (.tuple #[.pointer none, .slice none 0 0, .int .i64 3])) wc31)
  (Does Try.prog 17 #[.slice p8_1 l8_1 c8_1, .int .i64 n32] wc31 fun e135 w135 =>
  ∃ p135 : Option Addr, ∃ n135 : Int, e135 = .returned (.tuple #[.pointer p135, .int .i64 n135]) ∧ Br (n135 != 0)
  (R (.returned (.tuple #[.pointer none, .slice none 0 0, .int .i64 4])) w135)
  (Br (decide (n30 < 1))
  (R (.returned (.tuple #[.pointer none, .slice none 0 0, .int .i64 4])) w135)
  (Does Try.prog 18 #[.pointer p135, .slice p14_1 l14_1 c14_1] w135 fun e147 w147 =>
  ∃ (p147 : Option Addr) (l147 c147 : Nat), ∃ n147 : Int, e147 = .returned (.tuple #[.slice p147 l147 c147, .int .i64 n147]) ∧ Br (n147 != 0)
  (R (.returned (.tuple #[.pointer none, .slice none 0 0, .int .i64 4])) w147)
  (Does Try.prog 13 #[.slice p0 l0 c0, .slice p147 l147 c147] w147 fun e155 w155 =>
  ∃ b155 : Bool, e155 = .returned (.bool b155) ∧ Br (!b155)
  (R (.returned (.tuple #[.pointer none, .slice none 0 0, .int .i64 4])) w155)
  (R (.returned (.tuple #[.pointer p135, .slice p14_1 l14_1 c14_1, .int .i64 0])) w155)))))))
def f23_ann : Ann := { loops := [(8, [(8, .slice), (9, .int .i64)]), (13, [(12, .int .i64)]), (23, [(14, .slice), (16, .int .i64)])], cuts := [(20, [(8, .slice)]), (19, []), (31, [(14, .slice)]), (29, [])], flip := [], throws := [] }
theorem f23_eq (p0 : Option Addr) (l0 c0 : Nat) (w : World) (R : Ending → World → Prop) : vc Try.prog f23_ann (bodyOf Try.f23) (retQ Try.prog Try.f23 R) (envOf Try.f23.ntmps [.v (.slice p0 l0 c0)]) [] w = f23_vc p0 l0 c0 w R := by kernel_rfl
theorem f23_does (p0 : Option Addr) (l0 c0 : Nat) {w : World} {R : Ending → World → Prop} (h : f23_vc p0 l0 c0 w R) : Does Try.prog 23 #[.slice p0 l0 c0] w R :=
  does_of_vc (ss := [.v (.slice p0 l0 c0)]) f23_ann mixed call23 Try.func23 rfl rfl (show 1 ≤ Try.f23.ntmps by decide) ((f23_eq p0 l0 c0 w R).symm ▸ h)
/-- Of (*escritoire/history.History).Add (function 24): the condition. -/
def f24_vc (a0 : Option Addr) (p1 : Option Addr) (l1 c1 : Nat) (a2 : Int) (w : World) (R : Ending → World → Prop) : Prop :=
  Does Try.prog 31 #[.pointer a0] w fun e10 w10 =>
  ∃ b10 : Bool, e10 = .returned (.bool b10) ∧ Br (!b10)
  (R (.returned (.tuple #[.int .i64 0, .int .i64 10])) w10)
  (Br (((l1 : Int)) == 0)
  (R (.returned (.tuple #[.int .i64 0, .int .i64 1])) w10)
  (Br (decide (a2 < 0))
  (R (.returned (.tuple #[.int .i64 0, .int .i64 1])) w10)
  (∃ b22 o22, a0 = some ⟨b22, o22, none⟩ ∧ ∃ (p24 : Option Addr) (l24 c24 : Nat), w10.cell? ⟨b22, o22, none⟩ = some (.slice p24 l24 c24) ∧ Br (decide (((l24 : Int)) ≥ 65536))
  (R (.returned (.tuple #[.int .i64 0, .int .i64 6])) w10)
  (∀ wd7, Drew w10 wd7 →
  ∃ S7 : World → Prop, S7 wd7 ∧ ∃ b29 o29, a0 = some ⟨b29, o29, none⟩ ∧ ∃ (p31 : Option Addr) (l31 c31 : Nat), wd7.cell? ⟨b29, o29, none⟩ = some (.slice p31 l31 c31) ∧ Does Try.prog 44 #[.slice p31 l31 c31] wd7 fun e32 w32 =>
  ∃ (p32 : Option Addr) (l32 c32 : Nat), e32 = .returned (.slice p32 l32 c32) ∧ S7 w32 ∧ ∃ b34 o34, a0 = some ⟨b34, o34, none⟩ ∧ ∃ n36 : Int, (∀ w, S7 w → w.cell? ⟨b34, o34 + 1, none⟩ = some (.int .i64 n36)) ∧ Does Try.prog 34 #[.slice p1 l1 c1] w32 fun e38 w38 =>
  ∃ (p38 : Option Addr) (l38 c38 : Nat), e38 = .returned (.slice p38 l38 c38) ∧ S7 w38 ∧ ∀ b41 w41, NewBlk w38 b41 [.int .i64 n36, .slice p38 l38 c38, .int .i64 a2] 63 w41 →
  ∃ (p42 : Option Addr) (l42 c42 : Nat) (w42 : World), (Builtin.append_ #[35, 35] 35 #[.slice p32 l32 c32, .slice (some ⟨b41, 0, none⟩) 1 1]).run Try.prog w41 = .ok (.slice p42 l42 c42) w42 ∧
  ∃ b43 o43, a0 = some ⟨b43, o43, none⟩ ∧ CanStore w42 b43 o43 ∧ ∀ ws, Stored w42 b43 o43 (.slice p42 l42 c42) ws →
  ∃ b47 o47, a0 = some ⟨b47, o47, none⟩ ∧ ∃ (p49 : Option Addr) (l49 c49 : Nat), ws.cell? ⟨b47, o47, none⟩ = some (.slice p49 l49 c49) ∧ InK .i64 (((l49 : Int)) - 1) ∧ ∃ b52 o52, a0 = some ⟨b52, o52, none⟩ ∧ CanStore ws b52 (o52 + 1) ∧ ∀ ws_1, Stored ws b52 (o52 + 1) (.int .i64 (((l49 : Int)) - 1)) ws_1 →
  ∃ b55 o55, a0 = some ⟨b55, o55, none⟩ ∧ ∃ n57 : Int, ws_1.cell? ⟨b55, o55 + 1, none⟩ = some (.int .i64 n57) ∧ R (.returned (.tuple #[.int .i64 n57, .int .i64 0])) ws_1))))
def f24_ann : Ann := { loops := [], cuts := [], flip := [], throws := [] }
theorem f24_eq (a0 : Option Addr) (p1 : Option Addr) (l1 c1 : Nat) (a2 : Int) (w : World) (R : Ending → World → Prop) : vc Try.prog f24_ann (bodyOf Try.f24) (retQ Try.prog Try.f24 R) (envOf Try.f24.ntmps [.v (.pointer a0), .v (.slice p1 l1 c1), .v (.int .i64 a2)]) [] w = f24_vc a0 p1 l1 c1 a2 w R := by kernel_rfl
theorem f24_does (a0 : Option Addr) (p1 : Option Addr) (l1 c1 : Nat) (a2 : Int) {w : World} {R : Ending → World → Prop} (h : f24_vc a0 p1 l1 c1 a2 w R) : Does Try.prog 24 #[.pointer a0, .slice p1 l1 c1, .int .i64 a2] w R :=
  does_of_vc (ss := [.v (.pointer a0), .v (.slice p1 l1 c1), .v (.int .i64 a2)]) f24_ann mixed call24 Try.func24 rfl rfl (show 3 ≤ Try.f24.ntmps by decide) ((f24_eq a0 p1 l1 c1 a2 w R).symm ▸ h)
/-- Of escritoire/state.marked (function 25): the condition. -/
def f25_vc (p0 : Option Addr) (l0 c0 : Nat) (w : World) (R : Ending → World → Prop) : Prop :=
  ∃ I3 : Int → Int → Nat → World → Prop, (∃ nl3, I3 96 0 nl3 w) ∧ ∀ x3 : Int, ∀ x8 : Int, ∀ (nl3 : Nat) (wl3 : World), I3 x3 x8 nl3 wl3 →
  Br (decide (x8 < ((l0 : Int))))
  (((0 : Int) ≤ x8 ∧ x8 < (l0 : Int)) ∧ ∃ b10 o10, p0 = some ⟨b10, o10, none⟩ ∧ ∃ n11 : Int, wl3.cell? ⟨b10, o10 + (x8).toNat * 2, none⟩ = some (.int .u8 n11) ∧ ∃ n11_1 : Int, wl3.cell? ⟨b10, o10 + (x8).toNat * 2 + 1, none⟩ = some (.int .i64 n11_1) ∧ ∀ b5 w5, NewBlk wl3 b5 [.int .u8 0, .int .i64 0] 61 w5 →
  CanStore w5 b5 0 ∧ ∀ ws, Stored w5 b5 0 (.int .u8 n11) ws →
  CanStore ws b5 1 ∧ ∀ ws_1, Stored ws b5 1 (.int .i64 n11_1) ws_1 →
  ∃ n13 : Int, ws_1.cell? ⟨b5, 0, none⟩ = some (.int .u8 n13) ∧ Br (decide (n13 ≤ x3))
  (R (.returned (.bool false)) ws_1)
  (∃ n18 : Int, ws_1.cell? ⟨b5, 0, none⟩ = some (.int .u8 n18) ∧ Br (decide (n18 > 122))
  (R (.returned (.bool false)) ws_1)
  (∃ n23 : Int, ws_1.cell? ⟨b5, 1, none⟩ = some (.int .i64 n23) ∧ Does Try.prog 45 #[.int .i64 n23] ws_1 fun e24 w24 =>
  ∃ b24 : Bool, e24 = .returned (.bool b24) ∧ Br (!b24)
  (R (.returned (.bool false)) w24)
  (∃ n28 : Int, w24.cell? ⟨b5, 0, none⟩ = some (.int .u8 n28) ∧ InK .i64 (x8 + 1) ∧ ∃ ml3, ml3 < nl3 ∧ I3 n28 (x8 + 1) ml3 w24))))
  (R (.returned (.bool true)) wl3)
def f25_ann : Ann := { loops := [(3, [(3, .int .u8), (8, .int .i64)])], cuts := [], flip := [], throws := [] }
theorem f25_eq (p0 : Option Addr) (l0 c0 : Nat) (w : World) (R : Ending → World → Prop) : vc Try.prog f25_ann (bodyOf Try.f25) (retQ Try.prog Try.f25 R) (envOf Try.f25.ntmps [.v (.slice p0 l0 c0)]) [] w = f25_vc p0 l0 c0 w R := by kernel_rfl
theorem f25_does (p0 : Option Addr) (l0 c0 : Nat) {w : World} {R : Ending → World → Prop} (h : f25_vc p0 l0 c0 w R) : Does Try.prog 25 #[.slice p0 l0 c0] w R :=
  does_of_vc (ss := [.v (.slice p0 l0 c0)]) f25_ann mixed call25 Try.func25 rfl rfl (show 1 ≤ Try.f25.ntmps by decide) ((f25_eq p0 l0 c0 w R).symm ▸ h)
/-- Of escritoire/state.placed (function 26): the condition. -/
def f26_vc (a0_0 : Int) (p0_1 : Option Addr) (l0_1 c0_1 : Nat) (a0_2 : Int) (w : World) (R : Ending → World → Prop) : Prop :=
  ∀ b1 w1, NewBlk w b1 [.int .i64 a0_0, .slice p0_1 l0_1 c0_1, .int .i64 a0_2] 63 w1 →
  ∃ (p6 : Option Addr) (l6 c6 : Nat), w1.cell? ⟨b1, 1, none⟩ = some (.slice p6 l6 c6) ∧ ∃ I2 : Int → Nat → World → Prop, (∃ nl2, I2 0 nl2 w1) ∧ ∀ x8 : Int, ∀ (nl2 : Nat) (wl2 : World), I2 x8 nl2 wl2 →
  Br (decide (x8 < ((l6 : Int))))
  (((0 : Int) ≤ x8 ∧ x8 < (l6 : Int)) ∧ ∃ b10 o10, p6 = some ⟨b10, o10, none⟩ ∧ ∃ n11 : Int, wl2.cell? ⟨b10, o10 + (x8).toNat * 3, none⟩ = some (.int .i64 n11) ∧ ∃ (p11 : Option Addr) (l11 c11 : Nat), wl2.cell? ⟨b10, o10 + (x8).toNat * 3 + 1, none⟩ = some (.slice p11 l11 c11) ∧ ∃ (p11_1 : Option Addr) (l11_1 c11_1 : Nat), wl2.cell? ⟨b10, o10 + (x8).toNat * 3 + 2, none⟩ = some (.slice p11_1 l11_1 c11_1) ∧ ∀ b4 w4, NewBlk wl2 b4 [.int .i64 0, .slice none 0 0, .slice none 0 0] 58 w4 →
  CanStore w4 b4 0 ∧ ∀ ws, Stored w4 b4 0 (.int .i64 n11) ws →
  CanStore ws b4 1 ∧ ∀ ws_1, Stored ws b4 1 (.slice p11 l11 c11) ws_1 →
  CanStore ws_1 b4 2 ∧ ∀ ws_2, Stored ws_1 b4 2 (.slice p11_1 l11_1 c11_1) ws_2 →
  ∃ n13 : Int, ws_2.cell? ⟨b4, 0, none⟩ = some (.int .i64 n13) ∧ Does Try.prog 45 #[.int .i64 n13] ws_2 fun e14 w14 =>
  ∃ b14 : Bool, e14 = .returned (.bool b14) ∧ Br (!b14)
  (R (.returned (.bool false)) w14)
  (InK .i64 (x8 + 1) ∧ ∃ ml2, ml2 < nl2 ∧ I2 (x8 + 1) ml2 w14))
  (∃ n18 : Int, wl2.cell? ⟨b1, 2, none⟩ = some (.int .i64 n18) ∧ Does Try.prog 45 #[.int .i64 n18] wl2 fun e19 w19 =>
  ∃ b19 : Bool, e19 = .returned (.bool b19) ∧ R (.returned (.bool b19)) w19)
def f26_ann : Ann := { loops := [(2, [(8, .int .i64)])], cuts := [], flip := [], throws := [] }
theorem f26_eq (a0_0 : Int) (p0_1 : Option Addr) (l0_1 c0_1 : Nat) (a0_2 : Int) (w : World) (R : Ending → World → Prop) : vc Try.prog f26_ann (bodyOf Try.f26) (retQ Try.prog Try.f26 R) (envOf Try.f26.ntmps [.v (.agg #[.int .i64 a0_0, .slice p0_1 l0_1 c0_1, .int .i64 a0_2])]) [] w = f26_vc a0_0 p0_1 l0_1 c0_1 a0_2 w R := by kernel_rfl
theorem f26_does (a0_0 : Int) (p0_1 : Option Addr) (l0_1 c0_1 : Nat) (a0_2 : Int) {w : World} {R : Ending → World → Prop} (h : f26_vc a0_0 p0_1 l0_1 c0_1 a0_2 w R) : Does Try.prog 26 #[.agg #[.int .i64 a0_0, .slice p0_1 l0_1 c0_1, .int .i64 a0_2]] w R :=
  does_of_vc (ss := [.v (.agg #[.int .i64 a0_0, .slice p0_1 l0_1 c0_1, .int .i64 a0_2])]) f26_ann mixed call26 Try.func26 rfl rfl (show 1 ≤ Try.f26.ntmps by decide) ((f26_eq a0_0 p0_1 l0_1 c0_1 a0_2 w R).symm ▸ h)
/-- Of (*escritoire/state.writer).num (function 27): the condition. -/
def f27_vc (a0 : Option Addr) (a1 : Int) (w : World) (R : Ending → World → Prop) : Prop :=
  ((0 : Int) ≤ (4 : Int) ∧ (4 : Int) ≤ (4 : Int) ∧ (4 : Int) * ((1 : Nat) : Int) ≤ 140737488355328 ∧ (4 : Int) ≤ 9223372036854775807) ∧ ∀ b7 w7, NewBlk w b7 (zerosL (.int .u8 0) (4 : Int).toNat) 5 w7 →
  Does Try.prog 46 #[.slice (some ⟨b7, 0, none⟩) ((4 : Int).toNat) ((4 : Int).toNat), .int .i64 0, .int .i64 4, .int .i64 a1] w7 fun e9 w9 =>
  ∃ (p9 : Option Addr) (l9 c9 : Nat), ∃ b9 : Bool, e9 = .returned (.tuple #[.slice p9 l9 c9, .bool b9]) ∧ ∃ b14 o14, a0 = some ⟨b14, o14, none⟩ ∧ ∃ (p16 : Option Addr) (l16 c16 : Nat), w9.cell? ⟨b14, o14, none⟩ = some (.slice p16 l16 c16) ∧ ∃ (p18 : Option Addr) (l18 c18 : Nat) (w18 : World), (Builtin.append_ #[25, 25] 25 #[.slice p16 l16 c16, .slice p9 l9 c9]).run Try.prog w9 = .ok (.slice p18 l18 c18) w18 ∧
  ∃ b19 o19, a0 = some ⟨b19, o19, none⟩ ∧ CanStore w18 b19 o19 ∧ ∀ ws, Stored w18 b19 o19 (.slice p18 l18 c18) ws →
  R (.returned (.tuple #[])) ws
def f27_ann : Ann := { loops := [], cuts := [], flip := [], throws := [] }
theorem f27_eq (a0 : Option Addr) (a1 : Int) (w : World) (R : Ending → World → Prop) : vc Try.prog f27_ann (bodyOf Try.f27) (retQ Try.prog Try.f27 R) (envOf Try.f27.ntmps [.v (.pointer a0), .v (.int .i64 a1)]) [] w = f27_vc a0 a1 w R := by kernel_rfl
theorem f27_does (a0 : Option Addr) (a1 : Int) {w : World} {R : Ending → World → Prop} (h : f27_vc a0 a1 w R) : Does Try.prog 27 #[.pointer a0, .int .i64 a1] w R :=
  does_of_vc (ss := [.v (.pointer a0), .v (.int .i64 a1)]) f27_ann mixed call27 Try.func27 rfl rfl (show 2 ≤ Try.f27.ntmps by decide) ((f27_eq a0 a1 w R).symm ▸ h)
/-- Of (*escritoire/state.writer).node (function 28): the condition. -/
def f28_vc (a0 : Option Addr) (a1_0 : Int) (p1_1 : Option Addr) (l1_1 c1_1 : Nat) (a1_2 : Int) (w : World) (R : Ending → World → Prop) : Prop :=
  ∀ b3 w3, NewBlk w b3 [.int .i64 a1_0, .slice p1_1 l1_1 c1_1, .int .i64 a1_2] 63 w3 →
  ∃ n8 : Int, w3.cell? ⟨b3, 0, none⟩ = some (.int .i64 n8) ∧ Does Try.prog 27 #[.pointer a0, .int .i64 n8] w3 fun e9 w9 =>
  e9 = .returned (.tuple #[]) ∧ ∃ n12 : Int, w9.cell? ⟨b3, 2, none⟩ = some (.int .i64 n12) ∧ Does Try.prog 27 #[.pointer a0, .int .i64 n12] w9 fun e13 w13 =>
  e13 = .returned (.tuple #[]) ∧ ∃ (p16 : Option Addr) (l16 c16 : Nat), w13.cell? ⟨b3, 1, none⟩ = some (.slice p16 l16 c16) ∧ Does Try.prog 27 #[.pointer a0, .int .i64 ((l16 : Int))] w13 fun e18 w18 =>
  e18 = .returned (.tuple #[]) ∧ ∃ (p20 : Option Addr) (l20 c20 : Nat), w18.cell? ⟨b3, 1, none⟩ = some (.slice p20 l20 c20) ∧ ∃ I5 : Int → Nat → World → Prop, (∃ nl5, I5 0 nl5 w18) ∧ ∀ x22 : Int, ∀ (nl5 : Nat) (wl5 : World), I5 x22 nl5 wl5 →
  Br (decide (x22 < ((l20 : Int))))
  (((0 : Int) ≤ x22 ∧ x22 < (l20 : Int)) ∧ ∃ b24 o24, p20 = some ⟨b24, o24, none⟩ ∧ ∃ n25 : Int, wl5.cell? ⟨b24, o24 + (x22).toNat * 3, none⟩ = some (.int .i64 n25) ∧ ∃ (p25 : Option Addr) (l25 c25 : Nat), wl5.cell? ⟨b24, o24 + (x22).toNat * 3 + 1, none⟩ = some (.slice p25 l25 c25) ∧ ∃ (p25_1 : Option Addr) (l25_1 c25_1 : Nat), wl5.cell? ⟨b24, o24 + (x22).toNat * 3 + 2, none⟩ = some (.slice p25_1 l25_1 c25_1) ∧ ∀ b5 w5, NewBlk wl5 b5 [.int .i64 0, .slice none 0 0, .slice none 0 0] 58 w5 →
  CanStore w5 b5 0 ∧ ∀ ws, Stored w5 b5 0 (.int .i64 n25) ws →
  CanStore ws b5 1 ∧ ∀ ws_1, Stored ws b5 1 (.slice p25 l25 c25) ws_1 →
  CanStore ws_1 b5 2 ∧ ∀ ws_2, Stored ws_1 b5 2 (.slice p25_1 l25_1 c25_1) ws_2 →
  ∃ n28 : Int, ws_2.cell? ⟨b5, 0, none⟩ = some (.int .i64 n28) ∧ Does Try.prog 27 #[.pointer a0, .int .i64 n28] ws_2 fun e29 w29 =>
  e29 = .returned (.tuple #[]) ∧ ∃ (p32 : Option Addr) (l32 c32 : Nat), w29.cell? ⟨b5, 1, none⟩ = some (.slice p32 l32 c32) ∧ Does Try.prog 47 #[.pointer a0, .slice p32 l32 c32] w29 fun e33 w33 =>
  e33 = .returned (.tuple #[]) ∧ ∃ (p36 : Option Addr) (l36 c36 : Nat), w33.cell? ⟨b5, 2, none⟩ = some (.slice p36 l36 c36) ∧ Does Try.prog 47 #[.pointer a0, .slice p36 l36 c36] w33 fun e37 w37 =>
  e37 = .returned (.tuple #[]) ∧ InK .i64 (x22 + 1) ∧ ∃ ml5, ml5 < nl5 ∧ I5 (x22 + 1) ml5 w37)
  (R (.returned (.tuple #[])) wl5)
def f28_ann : Ann := { loops := [(5, [(22, .int .i64)])], cuts := [], flip := [], throws := [] }
theorem f28_eq (a0 : Option Addr) (a1_0 : Int) (p1_1 : Option Addr) (l1_1 c1_1 : Nat) (a1_2 : Int) (w : World) (R : Ending → World → Prop) : vc Try.prog f28_ann (bodyOf Try.f28) (retQ Try.prog Try.f28 R) (envOf Try.f28.ntmps [.v (.pointer a0), .v (.agg #[.int .i64 a1_0, .slice p1_1 l1_1 c1_1, .int .i64 a1_2])]) [] w = f28_vc a0 a1_0 p1_1 l1_1 c1_1 a1_2 w R := by kernel_rfl
theorem f28_does (a0 : Option Addr) (a1_0 : Int) (p1_1 : Option Addr) (l1_1 c1_1 : Nat) (a1_2 : Int) {w : World} {R : Ending → World → Prop} (h : f28_vc a0 a1_0 p1_1 l1_1 c1_1 a1_2 w R) : Does Try.prog 28 #[.pointer a0, .agg #[.int .i64 a1_0, .slice p1_1 l1_1 c1_1, .int .i64 a1_2]] w R :=
  does_of_vc (ss := [.v (.pointer a0), .v (.agg #[.int .i64 a1_0, .slice p1_1 l1_1 c1_1, .int .i64 a1_2])]) f28_ann mixed call28 Try.func28 rfl rfl (show 2 ≤ Try.f28.ntmps by decide) ((f28_eq a0 a1_0 p1_1 l1_1 c1_1 a1_2 w R).symm ▸ h)
/-- Of (*escritoire/state.reader).read (function 29): the condition. -/
def f29_vc (a0 : Option Addr) (w : World) (R : Ending → World → Prop) : Prop :=
  ∀ b2 w2, NewBlk w b2 [.int .i64 0] 26 w2 →
  ∀ b12 w12, NewBlk w2 b12 [.func (.func 49) #[.pointer a0] #[], .func (.func 50) #[.pointer a0] #[], .func (.func 51) #[.pointer a0] #[]] 1 w12 →
  ∃ I3 : Int → Nat → World → Prop, (∃ nl3, I3 0 nl3 w12) ∧ ∀ x14 : Int, ∀ (nl3 : Nat) (wl3 : World), I3 x14 nl3 wl3 →
  Br (decide (x14 < ((3 : Int))))
  (((0 : Int) ≤ x14 ∧ x14 < (3 : Int)) ∧ ∃ b16 o16, (some ⟨b12, 0, none⟩ : Option Addr) = some ⟨b16, o16, none⟩ ∧ ∃ (g17 : Go.Fn) (fs17 cs17 : Array Value), wl3.cell? ⟨b16, o16 + (x14).toNat, none⟩ = some (.func g17 fs17 cs17) ∧ DoesF Try.prog g17 fs17 #[] cs17 wl3 fun e19 w19 =>
  (e19 = .returned (.tuple #[]) ∧ InK .i64 (x14 + 1) ∧ ∃ ml3, ml3 < nl3 ∧ I3 (x14 + 1) ml3 w19) ∨ (∃ ch19, e19 = .panicked ch19 ∧ LeavesV (fun wk => ∃ n2 : Int, wk.cell? ⟨b2, 0, none⟩ = some (.int .i64 n2) ∧ R (.returned (.int .i64 n2)) wk) (fun chk wp => R (.panicked chk) wp) Try.prog ({ target := .fn (.func 48) #[.pointer (some ⟨b2, 0, none⟩)], args := #[] } :: []) (.panicking ch19) w19))
  (CanStore wl3 b2 0 ∧ ∀ ws, Stored wl3 b2 0 (.int .i64 0) ws →
  LeavesV (fun wk_1 => ∃ n2_1 : Int, wk_1.cell? ⟨b2, 0, none⟩ = some (.int .i64 n2_1) ∧ R (.returned (.int .i64 n2_1)) wk_1) (fun chk_1 wp_1 => R (.panicked chk_1) wp_1) Try.prog ({ target := .fn (.func 48) #[.pointer (some ⟨b2, 0, none⟩)], args := #[] } :: []) (.returning) ws)
def f29_ann : Ann := { loops := [(3, [(14, .int .i64)])], cuts := [], flip := [], throws := [0] }
theorem f29_eq (a0 : Option Addr) (w : World) (R : Ending → World → Prop) : vc Try.prog f29_ann (bodyOf Try.f29) (retQ Try.prog Try.f29 R) (envOf Try.f29.ntmps [.v (.pointer a0)]) [] w = f29_vc a0 w R := by kernel_rfl
theorem f29_does (a0 : Option Addr) {w : World} {R : Ending → World → Prop} (h : f29_vc a0 w R) : Does Try.prog 29 #[.pointer a0] w R :=
  does_of_vc (ss := [.v (.pointer a0)]) f29_ann mixed call29 Try.func29 rfl rfl (show 1 ≤ Try.f29.ntmps by decide) ((f29_eq a0 w R).symm ▸ h)
/-- Of bytes.Equal (function 30): the condition. -/
def f30_vc (p0 : Option Addr) (l0 c0 : Nat) (p1 : Option Addr) (l1 c1 : Nat) (w : World) (R : Ending → World → Prop) : Prop :=
  ∃ s6 : ByteArray, ∃ w6, (convert 25 9 (.slice p0 l0 c0)).run Try.prog w = .ok (.string s6) w6 ∧ ∃ s8 : ByteArray, ∃ w8, (convert 25 9 (.slice p1 l1 c1)).run Try.prog w6 = .ok (.string s8) w8 ∧ R (.returned (.bool (s6.toList == s8.toList))) w8
def f30_ann : Ann := { loops := [], cuts := [], flip := [], throws := [] }
theorem f30_eq (p0 : Option Addr) (l0 c0 : Nat) (p1 : Option Addr) (l1 c1 : Nat) (w : World) (R : Ending → World → Prop) : vc Try.prog f30_ann (bodyOf Try.f30) (retQ Try.prog Try.f30 R) (envOf Try.f30.ntmps [.v (.slice p0 l0 c0), .v (.slice p1 l1 c1)]) [] w = f30_vc p0 l0 c0 p1 l1 c1 w R := by kernel_rfl
theorem f30_does (p0 : Option Addr) (l0 c0 : Nat) (p1 : Option Addr) (l1 c1 : Nat) {w : World} {R : Ending → World → Prop} (h : f30_vc p0 l0 c0 p1 l1 c1 w R) : Does Try.prog 30 #[.slice p0 l0 c0, .slice p1 l1 c1] w R :=
  does_of_vc (ss := [.v (.slice p0 l0 c0), .v (.slice p1 l1 c1)]) f30_ann mixed call30 Try.func30 rfl rfl (show 2 ≤ Try.f30.ntmps by decide) ((f30_eq p0 l0 c0 p1 l1 c1 w R).symm ▸ h)
/-- Of (*escritoire/history.History).made (function 31): the condition. -/
def f31_vc (a0 : Option Addr) (w : World) (R : Ending → World → Prop) : Prop :=
  Br (!a0.isNone)
  (∃ b7 o7, a0 = some ⟨b7, o7, none⟩ ∧ ∃ (p9 : Option Addr) (l9 c9 : Nat), w.cell? ⟨b7, o7, none⟩ = some (.slice p9 l9 c9) ∧ R (.returned (.bool (decide (((l9 : Int)) > 0)))) w)
  (R (.returned (.bool false)) w)
def f31_ann : Ann := { loops := [], cuts := [], flip := [], throws := [] }
theorem f31_eq (a0 : Option Addr) (w : World) (R : Ending → World → Prop) : vc Try.prog f31_ann (bodyOf Try.f31) (retQ Try.prog Try.f31 R) (envOf Try.f31.ntmps [.v (.pointer a0)]) [] w = f31_vc a0 w R := by kernel_rfl
theorem f31_does (a0 : Option Addr) {w : World} {R : Ending → World → Prop} (h : f31_vc a0 w R) : Does Try.prog 31 #[.pointer a0] w R :=
  does_of_vc (ss := [.v (.pointer a0)]) f31_ann mixed call31 Try.func31 rfl rfl (show 1 ≤ Try.f31.ntmps by decide) ((f31_eq a0 w R).symm ▸ h)
/-- Of escritoire/escritoirelaw18.Room (function 32): the condition. -/
def f32_vc (p0 : Option Addr) (l0 c0 : Nat) (a1 : Int) (w : World) (R : Ending → World → Prop) : Prop :=
  Br (decide (((l0 : Int)) > a1))
  (R (.returned (.bool false)) w)
  (∃ I4 : Int → Nat → World → Prop, (∃ nl4, I4 0 nl4 w) ∧ ∀ x5 : Int, ∀ (nl4 : Nat) (wl4 : World), I4 x5 nl4 wl4 →
  Br (decide (x5 < ((l0 : Int))))
  (((0 : Int) ≤ x5 ∧ x5 < (l0 : Int)) ∧ ∃ b18 o18, p0 = some ⟨b18, o18, none⟩ ∧ ∃ (p20 : Option Addr) (l20 c20 : Nat), wl4.cell? ⟨b18, o18 + (x5).toNat * 3 + 1, none⟩ = some (.slice p20 l20 c20) ∧ Br (decide (((l20 : Int)) > 300))
  (R (.returned (.bool false)) wl4)
  (((0 : Int) ≤ x5 ∧ x5 < (l0 : Int)) ∧ ∃ b26 o26, p0 = some ⟨b26, o26, none⟩ ∧ ∃ (p28 : Option Addr) (l28 c28 : Nat), wl4.cell? ⟨b26, o26 + (x5).toNat * 3 + 2, none⟩ = some (.slice p28 l28 c28) ∧ Br (decide (((l28 : Int)) > 300))
  (R (.returned (.bool false)) wl4)
  (InK .i64 (x5 + 1) ∧ ∃ ml4, ml4 < nl4 ∧ I4 (x5 + 1) ml4 wl4)))
  (R (.returned (.bool true)) wl4))
def f32_ann : Ann := { loops := [(4, [(5, .int .i64)])], cuts := [], flip := [], throws := [] }
theorem f32_eq (p0 : Option Addr) (l0 c0 : Nat) (a1 : Int) (w : World) (R : Ending → World → Prop) : vc Try.prog f32_ann (bodyOf Try.f32) (retQ Try.prog Try.f32 R) (envOf Try.f32.ntmps [.v (.slice p0 l0 c0), .v (.int .i64 a1)]) [] w = f32_vc p0 l0 c0 a1 w R := by kernel_rfl
theorem f32_does (p0 : Option Addr) (l0 c0 : Nat) (a1 : Int) {w : World} {R : Ending → World → Prop} (h : f32_vc p0 l0 c0 a1 w R) : Does Try.prog 32 #[.slice p0 l0 c0, .int .i64 a1] w R :=
  does_of_vc (ss := [.v (.slice p0 l0 c0), .v (.int .i64 a1)]) f32_ann mixed call32 Try.func32 rfl rfl (show 2 ≤ Try.f32.ntmps by decide) ((f32_eq p0 l0 c0 a1 w R).symm ▸ h)
/-- Of escritoire/history.may (function 33): the condition. -/
def f33_vc (a0 : Int) (a1_0 : Int) (p1_1 : Option Addr) (l1_1 c1_1 : Nat) (a1_2 : Int) (w : World) (R : Ending → World → Prop) : Prop :=
  ∀ b3 w3, NewBlk w b3 [.int .i64 a1_0, .slice p1_1 l1_1 c1_1, .int .i64 a1_2] 63 w3 →
  Br (a0 == 0)
  (∃ n8 : Int, w3.cell? ⟨b3, 0, none⟩ = some (.int .i64 n8) ∧ Br (n8 == (-1))
  (∃ (p12 : Option Addr) (l12 c12 : Nat), w3.cell? ⟨b3, 1, none⟩ = some (.slice p12 l12 c12) ∧ Br (((l12 : Int)) == 0)
  (∃ n18 : Int, w3.cell? ⟨b3, 2, none⟩ = some (.int .i64 n18) ∧ R (.returned (.bool (n18 == 0))) w3)
  (R (.returned (.bool false)) w3))
  (R (.returned (.bool false)) w3))
  (∃ n22 : Int, w3.cell? ⟨b3, 0, none⟩ = some (.int .i64 n22) ∧ Br (decide (n22 ≥ 0))
  (∃ n26 : Int, w3.cell? ⟨b3, 0, none⟩ = some (.int .i64 n26) ∧ Br (decide (n26 < a0))
  (∃ (p32 : Option Addr) (l32 c32 : Nat), w3.cell? ⟨b3, 1, none⟩ = some (.slice p32 l32 c32) ∧ Br (decide (((l32 : Int)) > 0))
  (∃ n38 : Int, w3.cell? ⟨b3, 2, none⟩ = some (.int .i64 n38) ∧ R (.returned (.bool (decide (n38 ≥ 0)))) w3)
  (R (.returned (.bool false)) w3))
  (R (.returned (.bool false)) w3))
  (R (.returned (.bool false)) w3))
def f33_ann : Ann := { loops := [], cuts := [], flip := [], throws := [] }
theorem f33_eq (a0 : Int) (a1_0 : Int) (p1_1 : Option Addr) (l1_1 c1_1 : Nat) (a1_2 : Int) (w : World) (R : Ending → World → Prop) : vc Try.prog f33_ann (bodyOf Try.f33) (retQ Try.prog Try.f33 R) (envOf Try.f33.ntmps [.v (.int .i64 a0), .v (.agg #[.int .i64 a1_0, .slice p1_1 l1_1 c1_1, .int .i64 a1_2])]) [] w = f33_vc a0 a1_0 p1_1 l1_1 c1_1 a1_2 w R := by kernel_rfl
theorem f33_does (a0 : Int) (a1_0 : Int) (p1_1 : Option Addr) (l1_1 c1_1 : Nat) (a1_2 : Int) {w : World} {R : Ending → World → Prop} (h : f33_vc a0 a1_0 p1_1 l1_1 c1_1 a1_2 w R) : Does Try.prog 33 #[.int .i64 a0, .agg #[.int .i64 a1_0, .slice p1_1 l1_1 c1_1, .int .i64 a1_2]] w R :=
  does_of_vc (ss := [.v (.int .i64 a0), .v (.agg #[.int .i64 a1_0, .slice p1_1 l1_1 c1_1, .int .i64 a1_2])]) f33_ann mixed call33 Try.func33 rfl rfl (show 2 ≤ Try.f33.ntmps by decide) ((f33_eq a0 a1_0 p1_1 l1_1 c1_1 a1_2 w R).symm ▸ h)
/-- Of escritoire/history.own (function 34): the condition. -/
def f34_vc (p0 : Option Addr) (l0 c0 : Nat) (w : World) (R : Ending → World → Prop) : Prop :=
  ∃ I3 : Option Addr → Nat → Nat → Int → Nat → World → Prop, (∃ nl3, I3 none 0 0 0 nl3 w) ∧ ∀ (p3 : Option Addr) (l3 c3 : Nat), ∀ x8 : Int, ∀ (nl3 : Nat) (wl3 : World), I3 p3 l3 c3 x8 nl3 wl3 →
  Br (decide (x8 < ((l0 : Int))))
  (((0 : Int) ≤ x8 ∧ x8 < (l0 : Int)) ∧ ∃ b10 o10, p0 = some ⟨b10, o10, none⟩ ∧ ∃ n11 : Int, wl3.cell? ⟨b10, o10 + (x8).toNat * 3, none⟩ = some (.int .i64 n11) ∧ ∃ (p11 : Option Addr) (l11 c11 : Nat), wl3.cell? ⟨b10, o10 + (x8).toNat * 3 + 1, none⟩ = some (.slice p11 l11 c11) ∧ ∃ (p11_1 : Option Addr) (l11_1 c11_1 : Nat), wl3.cell? ⟨b10, o10 + (x8).toNat * 3 + 2, none⟩ = some (.slice p11_1 l11_1 c11_1) ∧ ∀ b5 w5, NewBlk wl3 b5 [.int .i64 0, .slice none 0 0, .slice none 0 0] 58 w5 →
  CanStore w5 b5 0 ∧ ∀ ws, Stored w5 b5 0 (.int .i64 n11) ws →
  CanStore ws b5 1 ∧ ∀ ws_1, Stored ws b5 1 (.slice p11 l11 c11) ws_1 →
  CanStore ws_1 b5 2 ∧ ∀ ws_2, Stored ws_1 b5 2 (.slice p11_1 l11_1 c11_1) ws_2 →
  ∀ wd5, Drew ws_2 wd5 →
  ∃ S5 : World → Prop, S5 wd5 ∧ ∃ n14 : Int, (∀ w, S5 w → w.cell? ⟨b5, 0, none⟩ = some (.int .i64 n14)) ∧ ∃ (p16 : Option Addr) (l16 c16 : Nat), wd5.cell? ⟨b5, 1, none⟩ = some (.slice p16 l16 c16) ∧ Does Try.prog 52 #[.slice p16 l16 c16] wd5 fun e17 w17 =>
  ∃ (p17 : Option Addr) (l17 c17 : Nat), e17 = .returned (.slice p17 l17 c17) ∧ S5 w17 ∧ ∃ (p19 : Option Addr) (l19 c19 : Nat), (∀ w, S5 w → w.cell? ⟨b5, 2, none⟩ = some (.slice p19 l19 c19)) ∧ Does Try.prog 52 #[.slice p19 l19 c19] w17 fun e20 w20 =>
  ∃ (p20 : Option Addr) (l20 c20 : Nat), e20 = .returned (.slice p20 l20 c20) ∧ S5 w20 ∧ ∀ b22 w22, NewBlk w20 b22 [.int .i64 n14, .slice p17 l17 c17, .slice p20 l20 c20] 58 w22 →
  ∃ (p23 : Option Addr) (l23 c23 : Nat) (w23 : World), (Builtin.append_ #[59, 59] 59 #[.slice p3 l3 c3, .slice (some ⟨b22, 0, none⟩) 1 1]).run Try.prog w22 = .ok (.slice p23 l23 c23) w23 ∧
  InK .i64 (x8 + 1) ∧ ∃ ml3, ml3 < nl3 ∧ I3 p23 l23 c23 (x8 + 1) ml3 w23)
  (R (.returned (.slice p3 l3 c3)) wl3)
def f34_ann : Ann := { loops := [(3, [(3, .slice), (8, .int .i64)])], cuts := [], flip := [], throws := [] }
theorem f34_eq (p0 : Option Addr) (l0 c0 : Nat) (w : World) (R : Ending → World → Prop) : vc Try.prog f34_ann (bodyOf Try.f34) (retQ Try.prog Try.f34 R) (envOf Try.f34.ntmps [.v (.slice p0 l0 c0)]) [] w = f34_vc p0 l0 c0 w R := by kernel_rfl
theorem f34_does (p0 : Option Addr) (l0 c0 : Nat) {w : World} {R : Ending → World → Prop} (h : f34_vc p0 l0 c0 w R) : Does Try.prog 34 #[.slice p0 l0 c0] w R :=
  does_of_vc (ss := [.v (.slice p0 l0 c0)]) f34_ann mixed call34 Try.func34 rfl rfl (show 1 ≤ Try.f34.ntmps by decide) ((f34_eq p0 l0 c0 w R).symm ▸ h)
/-- Of escritoire/escritoireref18.CopyNodes (function 35): the condition. -/
def f35_vc (p0 : Option Addr) (l0 c0 : Nat) (w : World) (R : Ending → World → Prop) : Prop :=
  ∃ I3 : Option Addr → Nat → Nat → Int → Nat → World → Prop, (∃ nl3, I3 none 0 0 0 nl3 w) ∧ ∀ (p3 : Option Addr) (l3 c3 : Nat), ∀ x4 : Int, ∀ (nl3 : Nat) (wl3 : World), I3 p3 l3 c3 x4 nl3 wl3 →
  Br (decide (x4 < ((l0 : Int))))
  (∀ wd5, Drew wl3 wd5 →
  ∃ S5 : World → Prop, S5 wd5 ∧ ((0 : Int) ≤ x4 ∧ x4 < (l0 : Int)) ∧ ∃ b14 o14, p0 = some ⟨b14, o14, none⟩ ∧ ∃ n16 : Int, (∀ w, S5 w → w.cell? ⟨b14, o14 + (x4).toNat * 3, none⟩ = some (.int .i64 n16)) ∧ ((0 : Int) ≤ x4 ∧ x4 < (l0 : Int)) ∧ ∃ b19 o19, p0 = some ⟨b19, o19, none⟩ ∧ ∃ n21 : Int, (∀ w, S5 w → w.cell? ⟨b19, o19 + (x4).toNat * 3 + 2, none⟩ = some (.int .i64 n21)) ∧ ((0 : Int) ≤ x4 ∧ x4 < (l0 : Int)) ∧ ∃ b24 o24, p0 = some ⟨b24, o24, none⟩ ∧ ∃ (p26 : Option Addr) (l26 c26 : Nat), wd5.cell? ⟨b24, o24 + (x4).toNat * 3 + 1, none⟩ = some (.slice p26 l26 c26) ∧ Does Try.prog 53 #[.slice p26 l26 c26] wd5 fun e27 w27 =>
  ∃ (p27 : Option Addr) (l27 c27 : Nat), e27 = .returned (.slice p27 l27 c27) ∧ S5 w27 ∧ ∀ b29 w29, NewBlk w27 b29 [.int .i64 n16, .slice p27 l27 c27, .int .i64 n21] 63 w29 →
  ∃ (p30 : Option Addr) (l30 c30 : Nat) (w30 : World), (Builtin.append_ #[35, 35] 35 #[.slice p3 l3 c3, .slice (some ⟨b29, 0, none⟩) 1 1]).run Try.prog w29 = .ok (.slice p30 l30 c30) w30 ∧
  InK .i64 (x4 + 1) ∧ ∃ ml3, ml3 < nl3 ∧ I3 p30 l30 c30 (x4 + 1) ml3 w30)
  (R (.returned (.slice p3 l3 c3)) wl3)
def f35_ann : Ann := { loops := [(3, [(3, .slice), (4, .int .i64)])], cuts := [], flip := [], throws := [] }
theorem f35_eq (p0 : Option Addr) (l0 c0 : Nat) (w : World) (R : Ending → World → Prop) : vc Try.prog f35_ann (bodyOf Try.f35) (retQ Try.prog Try.f35 R) (envOf Try.f35.ntmps [.v (.slice p0 l0 c0)]) [] w = f35_vc p0 l0 c0 w R := by kernel_rfl
theorem f35_does (p0 : Option Addr) (l0 c0 : Nat) {w : World} {R : Ending → World → Prop} (h : f35_vc p0 l0 c0 w R) : Does Try.prog 35 #[.slice p0 l0 c0] w R :=
  does_of_vc (ss := [.v (.slice p0 l0 c0)]) f35_ann mixed call35 Try.func35 rfl rfl (show 1 ≤ Try.f35.ntmps by decide) ((f35_eq p0 l0 c0 w R).symm ▸ h)
/-- Of escritoire/escritoireref18.put (function 36): the condition. -/
def f36_vc (a0 : Int) (w : World) (R : Ending → World → Prop) : Prop :=
  (0 : Int) ≤ 24 ∧ (0 : Int) ≤ 16 ∧ (0 : Int) ≤ 8 ∧ ∀ b14 w14, NewBlk w b14 [.int .u8 (IntKind.wrap .u8 (a0.fdiv (2 ^ 24))), .int .u8 (IntKind.wrap .u8 (a0.fdiv (2 ^ 16))), .int .u8 (IntKind.wrap .u8 (a0.fdiv (2 ^ 8))), .int .u8 (IntKind.wrap .u8 (a0))] 5 w14 →
  R (.returned (.slice (some ⟨b14, 0, none⟩) 4 4)) w14
def f36_ann : Ann := { loops := [], cuts := [], flip := [], throws := [] }
theorem f36_eq (a0 : Int) (w : World) (R : Ending → World → Prop) : vc Try.prog f36_ann (bodyOf Try.f36) (retQ Try.prog Try.f36 R) (envOf Try.f36.ntmps [.v (.int .i64 a0)]) [] w = f36_vc a0 w R := by kernel_rfl
theorem f36_does (a0 : Int) {w : World} {R : Ending → World → Prop} (h : f36_vc a0 w R) : Does Try.prog 36 #[.int .i64 a0] w R :=
  does_of_vc (ss := [.v (.int .i64 a0)]) f36_ann mixed call36 Try.func36 rfl rfl (show 1 ≤ Try.f36.ntmps by decide) ((f36_eq a0 w R).symm ▸ h)
/-- Of escritoire/escritoireref18.good (function 37): the condition. -/
def f37_vc (a0 : Int) (w : World) (R : Ending → World → Prop) : Prop :=
  Br (decide (a0 ≥ 0))
  (R (.returned (.bool (decide (a0 ≤ 1048576)))) w)
  (R (.returned (.bool false)) w)
def f37_ann : Ann := { loops := [], cuts := [], flip := [], throws := [] }
theorem f37_eq (a0 : Int) (w : World) (R : Ending → World → Prop) : vc Try.prog f37_ann (bodyOf Try.f37) (retQ Try.prog Try.f37 R) (envOf Try.f37.ntmps [.v (.int .i64 a0)]) [] w = f37_vc a0 w R := by kernel_rfl
theorem f37_does (a0 : Int) {w : World} {R : Ending → World → Prop} (h : f37_vc a0 w R) : Does Try.prog 37 #[.int .i64 a0] w R :=
  does_of_vc (ss := [.v (.int .i64 a0)]) f37_ann mixed call37 Try.func37 rfl rfl (show 1 ≤ Try.f37.ntmps by decide) ((f37_eq a0 w R).symm ▸ h)
/-- Of escritoire/escritoireref18.MayMarks (function 38): the condition. -/
def f38_vc (p0 : Option Addr) (l0 c0 : Nat) (w : World) (R : Ending → World → Prop) : Prop :=
  ∃ I2 : Int → Nat → World → Prop, (∃ nl2, I2 0 nl2 w) ∧ ∀ x3 : Int, ∀ (nl2 : Nat) (wl2 : World), I2 x3 nl2 wl2 →
  Br (decide (x3 < ((l0 : Int))))
  (∀ wd4, Drew wl2 wd4 →
  ∃ S4 : World → Prop, S4 wd4 ∧ ((0 : Int) ≤ x3 ∧ x3 < (l0 : Int)) ∧ ∃ b12 o12, p0 = some ⟨b12, o12, none⟩ ∧ ∃ n14 : Int, wd4.cell? ⟨b12, o12 + (x3).toNat * 2, none⟩ = some (.int .u8 n14) ∧ Br (decide (n14 < 97))
  (R (.returned (.bool false)) wd4)
  (((0 : Int) ≤ x3 ∧ x3 < (l0 : Int)) ∧ ∃ b19 o19, p0 = some ⟨b19, o19, none⟩ ∧ ∃ n21 : Int, wd4.cell? ⟨b19, o19 + (x3).toNat * 2, none⟩ = some (.int .u8 n21) ∧ Br (decide (n21 > 122))
  (R (.returned (.bool false)) wd4)
  (((0 : Int) ≤ x3 ∧ x3 < (l0 : Int)) ∧ ∃ b27 o27, p0 = some ⟨b27, o27, none⟩ ∧ ∃ n29 : Int, wd4.cell? ⟨b27, o27 + (x3).toNat * 2 + 1, none⟩ = some (.int .i64 n29) ∧ Does Try.prog 37 #[.int .i64 n29] wd4 fun e30 w30 =>
  ∃ b30 : Bool, e30 = .returned (.bool b30) ∧ S4 w30 ∧ Br (!b30)
  (R (.returned (.bool false)) w30)
  (Br (decide (x3 > 0))
  (((0 : Int) ≤ x3 ∧ x3 < (l0 : Int)) ∧ ∃ b39 o39, p0 = some ⟨b39, o39, none⟩ ∧ ∃ n41 : Int, (∀ w, S4 w → w.cell? ⟨b39, o39 + (x3).toNat * 2, none⟩ = some (.int .u8 n41)) ∧ InK .i64 (x3 - 1) ∧ ((0 : Int) ≤ (x3 - 1) ∧ (x3 - 1) < (l0 : Int)) ∧ ∃ b45 o45, p0 = some ⟨b45, o45, none⟩ ∧ ∃ n47 : Int, (∀ w, S4 w → w.cell? ⟨b45, o45 + (x3 - 1).toNat * 2, none⟩ = some (.int .u8 n47)) ∧ Br (decide (n41 ≤ n47))
  (R (.returned (.bool false)) w30)
  (InK .i64 (x3 + 1) ∧ ∃ ml2, ml2 < nl2 ∧ I2 (x3 + 1) ml2 w30))
  (InK .i64 (x3 + 1) ∧ ∃ ml2, ml2 < nl2 ∧ I2 (x3 + 1) ml2 w30)))))
  (R (.returned (.bool true)) wl2)
def f38_ann : Ann := { loops := [(2, [(3, .int .i64)])], cuts := [], flip := [], throws := [] }
theorem f38_eq (p0 : Option Addr) (l0 c0 : Nat) (w : World) (R : Ending → World → Prop) : vc Try.prog f38_ann (bodyOf Try.f38) (retQ Try.prog Try.f38 R) (envOf Try.f38.ntmps [.v (.slice p0 l0 c0)]) [] w = f38_vc p0 l0 c0 w R := by kernel_rfl
theorem f38_does (p0 : Option Addr) (l0 c0 : Nat) {w : World} {R : Ending → World → Prop} (h : f38_vc p0 l0 c0 w R) : Does Try.prog 38 #[.slice p0 l0 c0] w R :=
  does_of_vc (ss := [.v (.slice p0 l0 c0)]) f38_ann mixed call38 Try.func38 rfl rfl (show 1 ≤ Try.f38.ntmps by decide) ((f38_eq p0 l0 c0 w R).symm ▸ h)
/-- Of escritoire/escritoireref18.Same (function 39): the condition. -/
def f39_vc (p0 : Option Addr) (l0 c0 : Nat) (p1 : Option Addr) (l1 c1 : Nat) (w : World) (R : Ending → World → Prop) : Prop :=
  Br (((l0 : Int)) != ((l1 : Int)))
  (R (.returned (.bool false)) w)
  (∃ I4 : Int → Nat → World → Prop, (∃ nl4, I4 0 nl4 w) ∧ ∀ x5 : Int, ∀ (nl4 : Nat) (wl4 : World), I4 x5 nl4 wl4 →
  Br (decide (x5 < ((l0 : Int))))
  (∀ wd6, Drew wl4 wd6 →
  ∃ S6 : World → Prop, S6 wd6 ∧ ((0 : Int) ≤ x5 ∧ x5 < (l0 : Int)) ∧ ∃ b19 o19, p0 = some ⟨b19, o19, none⟩ ∧ ∃ n21 : Int, wd6.cell? ⟨b19, o19 + (x5).toNat * 3, none⟩ = some (.int .i64 n21) ∧ ((0 : Int) ≤ x5 ∧ x5 < (l1 : Int)) ∧ ∃ b24 o24, p1 = some ⟨b24, o24, none⟩ ∧ ∃ n26 : Int, wd6.cell? ⟨b24, o24 + (x5).toNat * 3, none⟩ = some (.int .i64 n26) ∧ Br (n21 != n26)
  (R (.returned (.bool false)) wd6)
  (((0 : Int) ≤ x5 ∧ x5 < (l0 : Int)) ∧ ∃ b31 o31, p0 = some ⟨b31, o31, none⟩ ∧ ∃ (p33 : Option Addr) (l33 c33 : Nat), wd6.cell? ⟨b31, o31 + (x5).toNat * 3 + 1, none⟩ = some (.slice p33 l33 c33) ∧ ((0 : Int) ≤ x5 ∧ x5 < (l1 : Int)) ∧ ∃ b36 o36, p1 = some ⟨b36, o36, none⟩ ∧ ∃ (p38 : Option Addr) (l38 c38 : Nat), wd6.cell? ⟨b36, o36 + (x5).toNat * 3 + 1, none⟩ = some (.slice p38 l38 c38) ∧ Does Try.prog 13 #[.slice p33 l33 c33, .slice p38 l38 c38] wd6 fun e39 w39 =>
  ∃ b39 : Bool, e39 = .returned (.bool b39) ∧ S6 w39 ∧ Br (!b39)
  (R (.returned (.bool false)) w39)
  (((0 : Int) ≤ x5 ∧ x5 < (l0 : Int)) ∧ ∃ b45 o45, p0 = some ⟨b45, o45, none⟩ ∧ ∃ (p47 : Option Addr) (l47 c47 : Nat), (∀ w, S6 w → w.cell? ⟨b45, o45 + (x5).toNat * 3 + 2, none⟩ = some (.slice p47 l47 c47)) ∧ ((0 : Int) ≤ x5 ∧ x5 < (l1 : Int)) ∧ ∃ b50 o50, p1 = some ⟨b50, o50, none⟩ ∧ ∃ (p52 : Option Addr) (l52 c52 : Nat), (∀ w, S6 w → w.cell? ⟨b50, o50 + (x5).toNat * 3 + 2, none⟩ = some (.slice p52 l52 c52)) ∧ Does Try.prog 13 #[.slice p47 l47 c47, .slice p52 l52 c52] w39 fun e53 w53 =>
  ∃ b53 : Bool, e53 = .returned (.bool b53) ∧ Br (!b53)
  (R (.returned (.bool false)) w53)
  (InK .i64 (x5 + 1) ∧ ∃ ml4, ml4 < nl4 ∧ I4 (x5 + 1) ml4 w53))))
  (R (.returned (.bool true)) wl4))
def f39_ann : Ann := { loops := [(4, [(5, .int .i64)])], cuts := [], flip := [], throws := [] }
theorem f39_eq (p0 : Option Addr) (l0 c0 : Nat) (p1 : Option Addr) (l1 c1 : Nat) (w : World) (R : Ending → World → Prop) : vc Try.prog f39_ann (bodyOf Try.f39) (retQ Try.prog Try.f39 R) (envOf Try.f39.ntmps [.v (.slice p0 l0 c0), .v (.slice p1 l1 c1)]) [] w = f39_vc p0 l0 c0 p1 l1 c1 w R := by kernel_rfl
theorem f39_does (p0 : Option Addr) (l0 c0 : Nat) (p1 : Option Addr) (l1 c1 : Nat) {w : World} {R : Ending → World → Prop} (h : f39_vc p0 l0 c0 p1 l1 c1 w R) : Does Try.prog 39 #[.slice p0 l0 c0, .slice p1 l1 c1] w R :=
  does_of_vc (ss := [.v (.slice p0 l0 c0), .v (.slice p1 l1 c1)]) f39_ann mixed call39 Try.func39 rfl rfl (show 2 ≤ Try.f39.ntmps by decide) ((f39_eq p0 l0 c0 p1 l1 c1 w R).symm ▸ h)
/-- Of (*escritoire/history.History).Node (function 40): the condition. -/
def f40_vc (a0 : Option Addr) (a1 : Int) (w : World) (R : Ending → World → Prop) : Prop :=
  ∀ b4 w4, NewBlk w b4 [.int .i64 0, .slice none 0 0, .int .i64 0] 63 w4 →
  Does Try.prog 54 #[.pointer a0, .int .i64 a1] w4 fun e9 w9 =>
  ∃ b9 : Bool, e9 = .returned (.bool b9) ∧ Br (!b9)
  (CanStore w9 b4 0 ∧ ∀ ws, Stored w9 b4 0 (.int .i64 0) ws →
  CanStore ws b4 1 ∧ ∀ ws_1, Stored ws b4 1 (.slice none 0 0) ws_1 →
  CanStore ws_1 b4 2 ∧ ∀ ws_2, Stored ws_1 b4 2 (.int .i64 0) ws_2 →
  ∃ n4 : Int, ws_2.cell? ⟨b4, 0, none⟩ = some (.int .i64 n4) ∧ ∃ (p4 : Option Addr) (l4 c4 : Nat), ws_2.cell? ⟨b4, 1, none⟩ = some (.slice p4 l4 c4) ∧ ∃ n4_1 : Int, ws_2.cell? ⟨b4, 2, none⟩ = some (.int .i64 n4_1) ∧ R (.returned (.tuple #[.agg #[.int .i64 n4, .slice p4 l4 c4, .int .i64 n4_1], .bool false])) ws_2)
  (∃ b13 o13, a0 = some ⟨b13, o13, none⟩ ∧ ∃ (p15 : Option Addr) (l15 c15 : Nat), w9.cell? ⟨b13, o13, none⟩ = some (.slice p15 l15 c15) ∧ ((0 : Int) ≤ a1 ∧ a1 < (l15 : Int)) ∧ ∃ b17 o17, p15 = some ⟨b17, o17, none⟩ ∧ ∃ n18 : Int, w9.cell? ⟨b17, o17 + (a1).toNat * 3, none⟩ = some (.int .i64 n18) ∧ ∃ (p18 : Option Addr) (l18 c18 : Nat), w9.cell? ⟨b17, o17 + (a1).toNat * 3 + 1, none⟩ = some (.slice p18 l18 c18) ∧ ∃ n18_1 : Int, w9.cell? ⟨b17, o17 + (a1).toNat * 3 + 2, none⟩ = some (.int .i64 n18_1) ∧ ∀ b6 w6, NewBlk w9 b6 [.int .i64 0, .slice none 0 0, .int .i64 0] 63 w6 →
  CanStore w6 b6 0 ∧ ∀ ws_3, Stored w6 b6 0 (.int .i64 n18) ws_3 →
  CanStore ws_3 b6 1 ∧ ∀ ws_4, Stored ws_3 b6 1 (.slice p18 l18 c18) ws_4 →
  CanStore ws_4 b6 2 ∧ ∀ ws_5, Stored ws_4 b6 2 (.int .i64 n18_1) ws_5 →
  ∃ (p20 : Option Addr) (l20 c20 : Nat), ws_5.cell? ⟨b6, 1, none⟩ = some (.slice p20 l20 c20) ∧ Does Try.prog 34 #[.slice p20 l20 c20] ws_5 fun e21 w21 =>
  ∃ (p21 : Option Addr) (l21 c21 : Nat), e21 = .returned (.slice p21 l21 c21) ∧ CanStore w21 b6 1 ∧ ∀ ws_6, Stored w21 b6 1 (.slice p21 l21 c21) ws_6 →
  ∃ n23 : Int, ws_6.cell? ⟨b6, 0, none⟩ = some (.int .i64 n23) ∧ ∃ (p23 : Option Addr) (l23 c23 : Nat), ws_6.cell? ⟨b6, 1, none⟩ = some (.slice p23 l23 c23) ∧ ∃ n23_1 : Int, ws_6.cell? ⟨b6, 2, none⟩ = some (.int .i64 n23_1) ∧ CanStore ws_6 b4 0 ∧ ∀ ws_7, Stored ws_6 b4 0 (.int .i64 n23) ws_7 →
  CanStore ws_7 b4 1 ∧ ∀ ws_8, Stored ws_7 b4 1 (.slice p23 l23 c23) ws_8 →
  CanStore ws_8 b4 2 ∧ ∀ ws_9, Stored ws_8 b4 2 (.int .i64 n23_1) ws_9 →
  ∃ n4_2 : Int, ws_9.cell? ⟨b4, 0, none⟩ = some (.int .i64 n4_2) ∧ ∃ (p4_1 : Option Addr) (l4_1 c4_1 : Nat), ws_9.cell? ⟨b4, 1, none⟩ = some (.slice p4_1 l4_1 c4_1) ∧ ∃ n4_3 : Int, ws_9.cell? ⟨b4, 2, none⟩ = some (.int .i64 n4_3) ∧ R (.returned (.tuple #[.agg #[.int .i64 n4_2, .slice p4_1 l4_1 c4_1, .int .i64 n4_3], .bool true])) ws_9)
def f40_ann : Ann := { loops := [], cuts := [], flip := [], throws := [] }
theorem f40_eq (a0 : Option Addr) (a1 : Int) (w : World) (R : Ending → World → Prop) : vc Try.prog f40_ann (bodyOf Try.f40) (retQ Try.prog Try.f40 R) (envOf Try.f40.ntmps [.v (.pointer a0), .v (.int .i64 a1)]) [] w = f40_vc a0 a1 w R := by kernel_rfl
theorem f40_does (a0 : Option Addr) (a1 : Int) {w : World} {R : Ending → World → Prop} (h : f40_vc a0 a1 w R) : Does Try.prog 40 #[.pointer a0, .int .i64 a1] w R :=
  does_of_vc (ss := [.v (.pointer a0), .v (.int .i64 a1)]) f40_ann mixed call40 Try.func40 rfl rfl (show 2 ≤ Try.f40.ntmps by decide) ((f40_eq a0 a1 w R).symm ▸ h)
/-- Of escritoire/escritoireref18.New (function 41): the condition. -/
def f41_vc  (w : World) (R : Ending → World → Prop) : Prop :=
  ∀ b2 w2, NewBlk w b2 [.int .i64 (-1), .slice none 0 0, .int .i64 0] 63 w2 →
  ∀ b4 w4, NewBlk w2 b4 [.slice (some ⟨b2, 0, none⟩) 1 1, .int .i64 0] 51 w4 →
  R (.returned (.pointer (some ⟨b4, 0, none⟩))) w4
def f41_ann : Ann := { loops := [], cuts := [], flip := [], throws := [] }
theorem f41_eq  (w : World) (R : Ending → World → Prop) : vc Try.prog f41_ann (bodyOf Try.f41) (retQ Try.prog Try.f41 R) (envOf Try.f41.ntmps []) [] w = f41_vc  w R := by kernel_rfl
theorem f41_does  {w : World} {R : Ending → World → Prop} (h : f41_vc  w R) : Does Try.prog 41 #[] w R :=
  does_of_vc (ss := []) f41_ann mixed call41 Try.func41 rfl rfl (show 0 ≤ Try.f41.ntmps by decide) ((f41_eq  w R).symm ▸ h)
/-- Of (*escritoire/escritoireref18.reader).num (function 42): the condition. -/
def f42_vc (a0 : Option Addr) (a1 : Int) (w : World) (R : Ending → World → Prop) : Prop :=
  Does Try.prog 43 #[.pointer a0, .int .i64 a1] w fun e10 w10 =>
  ∃ (p10 : Option Addr) (l10 c10 : Nat), e10 = .returned (.slice p10 l10 c10) ∧ ∃ I4 : Int → Int → Nat → World → Prop, (∃ nl4, I4 0 0 nl4 w10) ∧ ∀ x6 : Int, ∀ x7 : Int, ∀ (nl4 : Nat) (wl4 : World), I4 x6 x7 nl4 wl4 →
  Br (decide (x7 < ((l10 : Int))))
  ((0 : Int) ≤ 8 ∧ InK .i64 (x6 * 2 ^ 8) ∧ ((0 : Int) ≤ x7 ∧ x7 < (l10 : Int)) ∧ ∃ b21 o21, p10 = some ⟨b21, o21, none⟩ ∧ ∃ n22 : Int, wl4.cell? ⟨b21, o21 + (x7).toNat, none⟩ = some (.int .u8 n22) ∧ InK .i64 (n22) ∧ InK .i64 (x7 + 1) ∧ ∃ ml4, ml4 < nl4 ∧ I4 (bits .or .i64 (x6 * 2 ^ 8) n22) (x7 + 1) ml4 wl4)
  (R (.returned (.int .i64 x6)) wl4)
def f42_ann : Ann := { loops := [(4, [(6, .int .i64), (7, .int .i64)])], cuts := [], flip := [], throws := [] }
theorem f42_eq (a0 : Option Addr) (a1 : Int) (w : World) (R : Ending → World → Prop) : vc Try.prog f42_ann (bodyOf Try.f42) (retQ Try.prog Try.f42 R) (envOf Try.f42.ntmps [.v (.pointer a0), .v (.int .i64 a1)]) [] w = f42_vc a0 a1 w R := by kernel_rfl
theorem f42_does (a0 : Option Addr) (a1 : Int) {w : World} {R : Ending → World → Prop} (h : f42_vc a0 a1 w R) : Does Try.prog 42 #[.pointer a0, .int .i64 a1] w R :=
  does_of_vc (ss := [.v (.pointer a0), .v (.int .i64 a1)]) f42_ann mixed call42 Try.func42 rfl rfl (show 2 ≤ Try.f42.ntmps by decide) ((f42_eq a0 a1 w R).symm ▸ h)
/-- Of (*escritoire/escritoireref18.reader).take (function 43): the condition. -/
def f43_vc (a0 : Option Addr) (a1 : Int) (w : World) (R : Ending → World → Prop) : Prop :=
  ∃ b7 o7, a0 = some ⟨b7, o7, none⟩ ∧ ∃ b9 : Bool, w.cell? ⟨b7, o7 + 1, none⟩ = some (.bool b9) ∧ Br b9
  (∃ b20 o20, a0 = some ⟨b20, o20, none⟩ ∧ CanStore w b20 (o20 + 1) ∧ ∀ ws, Stored w b20 (o20 + 1) (.bool true) ws →
  ((0 : Int) ≤ (0 : Int) ∧ (0 : Int) ≤ (0 : Int) ∧ (0 : Int) * ((1 : Nat) : Int) ≤ 140737488355328 ∧ (0 : Int) ≤ 9223372036854775807) ∧ ∀ b22 w22, NewBlk ws b22 (zerosL (.int .u8 0) (0 : Int).toNat) 5 w22 →
  R (.returned (.slice (some ⟨b22, 0, none⟩) ((0 : Int).toNat) ((0 : Int).toNat))) w22)
  (∃ b13 o13, a0 = some ⟨b13, o13, none⟩ ∧ ∃ (p15 : Option Addr) (l15 c15 : Nat), w.cell? ⟨b13, o13, none⟩ = some (.slice p15 l15 c15) ∧ Br (decide (a1 > ((l15 : Int))))
  (∃ b20_1 o20_1, a0 = some ⟨b20_1, o20_1, none⟩ ∧ CanStore w b20_1 (o20_1 + 1) ∧ ∀ ws_1, Stored w b20_1 (o20_1 + 1) (.bool true) ws_1 →
  ((0 : Int) ≤ (0 : Int) ∧ (0 : Int) ≤ (0 : Int) ∧ (0 : Int) * ((1 : Nat) : Int) ≤ 140737488355328 ∧ (0 : Int) ≤ 9223372036854775807) ∧ ∀ b22_1 w22_1, NewBlk ws_1 b22_1 (zerosL (.int .u8 0) (0 : Int).toNat) 5 w22_1 →
  R (.returned (.slice (some ⟨b22_1, 0, none⟩) ((0 : Int).toNat) ((0 : Int).toNat))) w22_1)
  (∃ b24 o24, a0 = some ⟨b24, o24, none⟩ ∧ ∃ (p26 : Option Addr) (l26 c26 : Nat), w.cell? ⟨b24, o24, none⟩ = some (.slice p26 l26 c26) ∧ ((0 : Int) ≤ a1 ∧ a1 ≤ (c26 : Int)) ∧ ∃ b31 o31, a0 = some ⟨b31, o31, none⟩ ∧ ∃ (p33 : Option Addr) (l33 c33 : Nat), w.cell? ⟨b31, o31, none⟩ = some (.slice p33 l33 c33) ∧ ((0 : Int) ≤ a1 ∧ a1 ≤ (l33 : Int)) ∧ ∃ b36 o36, a0 = some ⟨b36, o36, none⟩ ∧ CanStore w b36 o36 ∧ ∀ ws_2, Stored w b36 o36 (.slice (subp p33 ((a1).toNat) c33 1) (l33 - ((a1).toNat)) (c33 - ((a1).toNat))) ws_2 →
  R (.returned (.slice (subp p26 0 c26 1) (((a1).toNat) - 0) (c26 - 0))) ws_2))
def f43_ann : Ann := { loops := [], cuts := [], flip := [], throws := [] }
theorem f43_eq (a0 : Option Addr) (a1 : Int) (w : World) (R : Ending → World → Prop) : vc Try.prog f43_ann (bodyOf Try.f43) (retQ Try.prog Try.f43 R) (envOf Try.f43.ntmps [.v (.pointer a0), .v (.int .i64 a1)]) [] w = f43_vc a0 a1 w R := by kernel_rfl
theorem f43_does (a0 : Option Addr) (a1 : Int) {w : World} {R : Ending → World → Prop} (h : f43_vc a0 a1 w R) : Does Try.prog 43 #[.pointer a0, .int .i64 a1] w R :=
  does_of_vc (ss := [.v (.pointer a0), .v (.int .i64 a1)]) f43_ann mixed call43 Try.func43 rfl rfl (show 2 ≤ Try.f43.ntmps by decide) ((f43_eq a0 a1 w R).symm ▸ h)
/-- Of slices.Clip[[]escritoire/api.Node,escritoire/api.Node] (function 44): the condition. -/
def f44_vc (p0 : Option Addr) (l0 c0 : Nat) (w : World) (R : Ending → World → Prop) : Prop :=
  ((0 : Int) ≤ ((l0 : Int)) ∧ ((l0 : Int)) ≤ (c0 : Int)) ∧ ((0 : Int) ≤ ((l0 : Int)) ∧ ((l0 : Int)) ≤ ((l0 : Int))) ∧ R (.returned (.slice (subp p0 0 (((l0 : Int)).toNat) 3) ((((l0 : Int)).toNat) - 0) ((((l0 : Int)).toNat) - 0))) w
def f44_ann : Ann := { loops := [], cuts := [], flip := [], throws := [] }
theorem f44_eq (p0 : Option Addr) (l0 c0 : Nat) (w : World) (R : Ending → World → Prop) : vc Try.prog f44_ann (bodyOf Try.f44) (retQ Try.prog Try.f44 R) (envOf Try.f44.ntmps [.v (.slice p0 l0 c0)]) [] w = f44_vc p0 l0 c0 w R := by kernel_rfl
theorem f44_does (p0 : Option Addr) (l0 c0 : Nat) {w : World} {R : Ending → World → Prop} (h : f44_vc p0 l0 c0 w R) : Does Try.prog 44 #[.slice p0 l0 c0] w R :=
  does_of_vc (ss := [.v (.slice p0 l0 c0)]) f44_ann mixed call44 Try.func44 rfl rfl (show 1 ≤ Try.f44.ntmps by decide) ((f44_eq p0 l0 c0 w R).symm ▸ h)
/-- Of escritoire/state.place (function 45): the condition. -/
def f45_vc (a0 : Int) (w : World) (R : Ending → World → Prop) : Prop :=
  Br (decide (a0 ≥ 0))
  (R (.returned (.bool (decide (a0 ≤ 1048576)))) w)
  (R (.returned (.bool false)) w)
def f45_ann : Ann := { loops := [], cuts := [], flip := [], throws := [] }
theorem f45_eq (a0 : Int) (w : World) (R : Ending → World → Prop) : vc Try.prog f45_ann (bodyOf Try.f45) (retQ Try.prog Try.f45 R) (envOf Try.f45.ntmps [.v (.int .i64 a0)]) [] w = f45_vc a0 w R := by kernel_rfl
theorem f45_does (a0 : Int) {w : World} {R : Ending → World → Prop} (h : f45_vc a0 w R) : Does Try.prog 45 #[.int .i64 a0] w R :=
  does_of_vc (ss := [.v (.int .i64 a0)]) f45_ann mixed call45 Try.func45 rfl rfl (show 1 ≤ Try.f45.ntmps by decide) ((f45_eq a0 w R).symm ▸ h)
/-- Of escritoire/octet.Put (function 46): the condition. -/
def f46_vc (p0 : Option Addr) (l0 c0 : Nat) (a1 : Int) (a2 : Int) (a3 : Int) (w : World) (R : Ending → World → Prop) : Prop :=
  ∃ J3 : Nat → World → Prop, (Does Try.prog 55 #[.slice p0 l0 c0, .int .i64 a1, .int .i64 a2] w fun e15 w15 =>
  ∃ b15 : Bool, e15 = .returned (.bool b15) ∧ Br (!b15)
  (R (.returned (.tuple #[.slice none 0 0, .bool false])) w15)
  (Br (decide (a3 < 0))
  (R (.returned (.tuple #[.slice none 0 0, .bool false])) w15)
  (Br (decide (a3 > 4611686018427387904))
  (R (.returned (.tuple #[.slice none 0 0, .bool false])) w15)
  (Br (decide (a2 < 8))
  (InK .i64 (8 * a2) ∧ (0 : Int) ≤ (8 * a2) ∧ Br ((a3.fdiv (2 ^ (min (8 * a2).toNat 64))) != 0)
  (R (.returned (.tuple #[.slice none 0 0, .bool false])) w15)
  (∃ nc3, J3  nc3 w15))
  (∃ nc3, J3  nc3 w15))))) ∧ ∀ (nc3 : Nat) (wc3 : World), J3  nc3 wc3 →
  ∃ (p37 : Option Addr) (l37 c37 : Nat) (w37 : World), (Builtin.append_ #[25, 25] 25 #[.slice none 0 0, .slice p0 l0 c0]).run Try.prog wc3 = .ok (.slice p37 l37 c37) w37 ∧
  InK .i64 (a2 - 1) ∧ ∃ I5 : Int → Int → Nat → World → Prop, (∃ nl5, I5 a3 (a2 - 1) nl5 w37) ∧ ∀ x3 : Int, ∀ x11 : Int, ∀ (nl5 : Nat) (wl5 : World), I5 x3 x11 nl5 wl5 →
  Br (decide (x11 ≥ 0))
  (InK .i64 (a1 + x11) ∧ ((0 : Int) ≤ (a1 + x11) ∧ (a1 + x11) < (l37 : Int)) ∧ ∃ b50 o50, p37 = some ⟨b50, o50, none⟩ ∧ CanStore wl5 b50 (o50 + (a1 + x11).toNat) ∧ ∀ ws, Stored wl5 b50 (o50 + (a1 + x11).toNat) (.int .u8 (IntKind.wrap .u8 (x3))) ws →
  (0 : Int) ≤ 8 ∧ InK .i64 (x11 - 1) ∧ ∃ ml5, ml5 < nl5 ∧ I5 (x3.fdiv (2 ^ 8)) (x11 - 1) ml5 ws)
  (R (.returned (.tuple #[.slice p37 l37 c37, .bool true])) wl5)
def f46_ann : Ann := { loops := [(5, [(3, .int .i64), (11, .int .i64)])], cuts := [(3, [])], flip := [], throws := [] }
theorem f46_eq (p0 : Option Addr) (l0 c0 : Nat) (a1 : Int) (a2 : Int) (a3 : Int) (w : World) (R : Ending → World → Prop) : vc Try.prog f46_ann (bodyOf Try.f46) (retQ Try.prog Try.f46 R) (envOf Try.f46.ntmps [.v (.slice p0 l0 c0), .v (.int .i64 a1), .v (.int .i64 a2), .v (.int .i64 a3)]) [] w = f46_vc p0 l0 c0 a1 a2 a3 w R := by kernel_rfl
theorem f46_does (p0 : Option Addr) (l0 c0 : Nat) (a1 : Int) (a2 : Int) (a3 : Int) {w : World} {R : Ending → World → Prop} (h : f46_vc p0 l0 c0 a1 a2 a3 w R) : Does Try.prog 46 #[.slice p0 l0 c0, .int .i64 a1, .int .i64 a2, .int .i64 a3] w R :=
  does_of_vc (ss := [.v (.slice p0 l0 c0), .v (.int .i64 a1), .v (.int .i64 a2), .v (.int .i64 a3)]) f46_ann mixed call46 Try.func46 rfl rfl (show 4 ≤ Try.f46.ntmps by decide) ((f46_eq p0 l0 c0 a1 a2 a3 w R).symm ▸ h)
/-- Of (*escritoire/state.writer).text (function 47): the condition. -/
def f47_vc (a0 : Option Addr) (p1 : Option Addr) (l1 c1 : Nat) (w : World) (R : Ending → World → Prop) : Prop :=
  Does Try.prog 27 #[.pointer a0, .int .i64 ((l1 : Int))] w fun e7 w7 =>
  e7 = .returned (.tuple #[]) ∧ ∃ b10 o10, a0 = some ⟨b10, o10, none⟩ ∧ ∃ (p12 : Option Addr) (l12 c12 : Nat), w7.cell? ⟨b10, o10, none⟩ = some (.slice p12 l12 c12) ∧ ∃ (p14 : Option Addr) (l14 c14 : Nat) (w14 : World), (Builtin.append_ #[25, 25] 25 #[.slice p12 l12 c12, .slice p1 l1 c1]).run Try.prog w7 = .ok (.slice p14 l14 c14) w14 ∧
  ∃ b15 o15, a0 = some ⟨b15, o15, none⟩ ∧ CanStore w14 b15 o15 ∧ ∀ ws, Stored w14 b15 o15 (.slice p14 l14 c14) ws →
  R (.returned (.tuple #[])) ws
def f47_ann : Ann := { loops := [], cuts := [], flip := [], throws := [] }
theorem f47_eq (a0 : Option Addr) (p1 : Option Addr) (l1 c1 : Nat) (w : World) (R : Ending → World → Prop) : vc Try.prog f47_ann (bodyOf Try.f47) (retQ Try.prog Try.f47 R) (envOf Try.f47.ntmps [.v (.pointer a0), .v (.slice p1 l1 c1)]) [] w = f47_vc a0 p1 l1 c1 w R := by kernel_rfl
theorem f47_does (a0 : Option Addr) (p1 : Option Addr) (l1 c1 : Nat) {w : World} {R : Ending → World → Prop} (h : f47_vc a0 p1 l1 c1 w R) : Does Try.prog 47 #[.pointer a0, .slice p1 l1 c1] w R :=
  does_of_vc (ss := [.v (.pointer a0), .v (.slice p1 l1 c1)]) f47_ann mixed call47 Try.func47 rfl rfl (show 2 ≤ Try.f47.ntmps by decide) ((f47_eq a0 p1 l1 c1 w R).symm ▸ h)
/-- Of (*escritoire/state.reader).tree (function 49): the condition. -/
def f49_vc (a0 : Option Addr) (w : World) (R : Ending → World → Prop) : Prop :=
  Does Try.prog 56 #[.pointer a0] w fun e5 w5 =>
  (∃ n5 : Int, e5 = .returned (.int .i64 n5) ∧ Does Try.prog 56 #[.pointer a0] w5 fun e8 w8 =>
  (∃ n8 : Int, e8 = .returned (.int .i64 n8) ∧ ∃ b9 o9, a0 = some ⟨b9, o9, none⟩ ∧ CanStore w8 b9 (o9 + 3) ∧ ∀ ws, Stored w8 b9 (o9 + 3) (.int .i64 n8) ws →
  ∃ J4 : Nat → World → Prop, (Br (decide (n5 > 0))
  (∀ b15 w15, NewBlk ws b15 [.int .i64 (-1), .slice none 0 0, .int .i64 0] 63 w15 →
  ∃ b16 o16, a0 = some ⟨b16, o16, none⟩ ∧ CanStore w15 b16 (o16 + 1) ∧ ∀ ws_1, Stored w15 b16 (o16 + 1) (.slice (some ⟨b15, 0, none⟩) 1 1) ws_1 →
  ∃ nc4, J4  nc4 ws_1)
  (∃ nc4, J4  nc4 ws)) ∧ ∀ (nc4 : Nat) (wc4 : World), J4  nc4 wc4 →
  ∃ I5 : Int → Nat → World → Prop, (∃ nl5, I5 1 nl5 wc4) ∧ ∀ x3 : Int, ∀ (nl5 : Nat) (wl5 : World), I5 x3 nl5 wl5 →
  Br (decide (x3 < n5))
  (Does Try.prog 57 #[.pointer a0] wl5 fun e24 w24 =>
  (e24 = .returned (.tuple #[]) ∧ InK .i64 (x3 + 1) ∧ ∃ ml5, ml5 < nl5 ∧ I5 (x3 + 1) ml5 w24) ∨ (∃ ch24, e24 = .panicked ch24 ∧ R (.panicked ch24) w24))
  (R (.returned (.tuple #[])) wl5)) ∨ (∃ ch8, e8 = .panicked ch8 ∧ R (.panicked ch8) w8)) ∨ (∃ ch5, e5 = .panicked ch5 ∧ R (.panicked ch5) w5)
def f49_ann : Ann := { loops := [(5, [(3, .int .i64)])], cuts := [(4, [])], flip := [], throws := [56, 57] }
theorem f49_eq (a0 : Option Addr) (w : World) (R : Ending → World → Prop) : vc Try.prog f49_ann (bodyOf Try.f49) (retQ Try.prog Try.f49 R) (envOf Try.f49.ntmps [.v (.pointer a0)]) [] w = f49_vc a0 w R := by kernel_rfl
theorem f49_does (a0 : Option Addr) {w : World} {R : Ending → World → Prop} (h : f49_vc a0 w R) : Does Try.prog 49 #[.pointer a0] w R :=
  does_of_vc (ss := [.v (.pointer a0)]) f49_ann mixed call49 Try.func49 rfl rfl (show 1 ≤ Try.f49.ntmps by decide) ((f49_eq a0 w R).symm ▸ h)
/-- Of (*escritoire/state.reader).places (function 50): the condition. -/
def f50_vc (a0 : Option Addr) (w : World) (R : Ending → World → Prop) : Prop :=
  Does Try.prog 58 #[.pointer a0, .int .i64 1] w fun e4 w4 =>
  (∃ (p4 : Option Addr) (l4 c4 : Nat), e4 = .returned (.slice p4 l4 c4) ∧ ((0 : Int) ≤ 0 ∧ 0 < (l4 : Int)) ∧ ∃ b5 o5, p4 = some ⟨b5, o5, none⟩ ∧ ∃ n6 : Int, w4.cell? ⟨b5, o5 + (0 : Int).toNat, none⟩ = some (.int .u8 n6) ∧ ∃ I1 : Int → Nat → World → Prop, (∃ nl1, I1 0 nl1 w4) ∧ ∀ x7 : Int, ∀ (nl1 : Nat) (wl1 : World), I1 x7 nl1 wl1 →
  Br (decide (x7 < n6))
  (Does Try.prog 58 #[.pointer a0, .int .i64 1] wl1 fun e10 w10 =>
  (∃ (p10 : Option Addr) (l10 c10 : Nat), e10 = .returned (.slice p10 l10 c10) ∧ ((0 : Int) ≤ 0 ∧ 0 < (l10 : Int)) ∧ ∃ b11 o11, p10 = some ⟨b11, o11, none⟩ ∧ ∃ n12 : Int, w10.cell? ⟨b11, o11 + (0 : Int).toNat, none⟩ = some (.int .u8 n12) ∧ ∀ wd3, Drew w10 wd3 →
  ∃ S3 : World → Prop, S3 wd3 ∧ ∃ b15 o15, a0 = some ⟨b15, o15, none⟩ ∧ ∃ (p17 : Option Addr) (l17 c17 : Nat), (∀ w, S3 w → w.cell? ⟨b15, o15 + 2, none⟩ = some (.slice p17 l17 c17)) ∧ Does Try.prog 56 #[.pointer a0] wd3 fun e20 w20 =>
  (∃ n20 : Int, e20 = .returned (.int .i64 n20) ∧ S3 w20 ∧ ∀ b22 w22, NewBlk w20 b22 [.int .u8 n12, .int .i64 n20] 61 w22 →
  S3 w22 ∧ ∃ (p23 : Option Addr) (l23 c23 : Nat) (w23 : World), (Builtin.append_ #[29, 29] 29 #[.slice p17 l17 c17, .slice (some ⟨b22, 0, none⟩) 1 1]).run Try.prog w22 = .ok (.slice p23 l23 c23) w23 ∧
  ∃ b24 o24, a0 = some ⟨b24, o24, none⟩ ∧ CanStore w23 b24 (o24 + 2) ∧ ∀ ws, Stored w23 b24 (o24 + 2) (.slice p23 l23 c23) ws →
  ∃ ml1, ml1 < nl1 ∧ I1 (IntKind.wrap .u8 (x7 + 1)) ml1 ws) ∨ (∃ ch20, e20 = .panicked ch20 ∧ R (.panicked ch20) w20)) ∨ (∃ ch10, e10 = .panicked ch10 ∧ R (.panicked ch10) w10))
  (R (.returned (.tuple #[])) wl1)) ∨ (∃ ch4, e4 = .panicked ch4 ∧ R (.panicked ch4) w4)
def f50_ann : Ann := { loops := [(1, [(7, .int .u8)])], cuts := [], flip := [], throws := [56, 58] }
theorem f50_eq (a0 : Option Addr) (w : World) (R : Ending → World → Prop) : vc Try.prog f50_ann (bodyOf Try.f50) (retQ Try.prog Try.f50 R) (envOf Try.f50.ntmps [.v (.pointer a0)]) [] w = f50_vc a0 w R := by kernel_rfl
theorem f50_does (a0 : Option Addr) {w : World} {R : Ending → World → Prop} (h : f50_vc a0 w R) : Does Try.prog 50 #[.pointer a0] w R :=
  does_of_vc (ss := [.v (.pointer a0)]) f50_ann mixed call50 Try.func50 rfl rfl (show 1 ≤ Try.f50.ntmps by decide) ((f50_eq a0 w R).symm ▸ h)
/-- Of (*escritoire/state.reader).end (function 51): the condition. -/
def f51_vc (a0 : Option Addr) (w : World) (R : Ending → World → Prop) : Prop :=
  ∃ b3 o3, a0 = some ⟨b3, o3, none⟩ ∧ ∃ (p5 : Option Addr) (l5 c5 : Nat), w.cell? ⟨b3, o3, none⟩ = some (.slice p5 l5 c5) ∧ Br (decide (((l5 : Int)) > 0))
  (R (.panicked [{ v := .iface 26 (.int .i64 3), recovered := false }]) w)
  (R (.returned (.tuple #[])) w)
def f51_ann : Ann := { loops := [], cuts := [], flip := [], throws := [] }
theorem f51_eq (a0 : Option Addr) (w : World) (R : Ending → World → Prop) : vc Try.prog f51_ann (bodyOf Try.f51) (retQ Try.prog Try.f51 R) (envOf Try.f51.ntmps [.v (.pointer a0)]) [] w = f51_vc a0 w R := by kernel_rfl
theorem f51_does (a0 : Option Addr) {w : World} {R : Ending → World → Prop} (h : f51_vc a0 w R) : Does Try.prog 51 #[.pointer a0] w R :=
  does_of_vc (ss := [.v (.pointer a0)]) f51_ann mixed call51 Try.func51 rfl rfl (show 1 ≤ Try.f51.ntmps by decide) ((f51_eq a0 w R).symm ▸ h)
/-- Of slices.Clone[[]byte,byte] (function 52): the condition. -/
def f52_vc (p0 : Option Addr) (l0 c0 : Nat) (w : World) (R : Ending → World → Prop) : Prop :=
  Br p0.isNone
  (R (.returned (.slice none 0 0)) w)
  (∀ b5 w5, NewBlk w b5 [] 5 w5 →
  ∃ (p7 : Option Addr) (l7 c7 : Nat) (w7 : World), (Builtin.append_ #[25, 25] 25 #[.slice (some ⟨b5, 0, none⟩) 0 0, .slice p0 l0 c0]).run Try.prog w5 = .ok (.slice p7 l7 c7) w7 ∧
  R (.returned (.slice p7 l7 c7)) w7)
def f52_ann : Ann := { loops := [], cuts := [], flip := [], throws := [] }
theorem f52_eq (p0 : Option Addr) (l0 c0 : Nat) (w : World) (R : Ending → World → Prop) : vc Try.prog f52_ann (bodyOf Try.f52) (retQ Try.prog Try.f52 R) (envOf Try.f52.ntmps [.v (.slice p0 l0 c0)]) [] w = f52_vc p0 l0 c0 w R := by kernel_rfl
theorem f52_does (p0 : Option Addr) (l0 c0 : Nat) {w : World} {R : Ending → World → Prop} (h : f52_vc p0 l0 c0 w R) : Does Try.prog 52 #[.slice p0 l0 c0] w R :=
  does_of_vc (ss := [.v (.slice p0 l0 c0)]) f52_ann mixed call52 Try.func52 rfl rfl (show 1 ≤ Try.f52.ntmps by decide) ((f52_eq p0 l0 c0 w R).symm ▸ h)
/-- Of escritoire/escritoireref18.CopyEdits (function 53): the condition. -/
def f53_vc (p0 : Option Addr) (l0 c0 : Nat) (w : World) (R : Ending → World → Prop) : Prop :=
  ∃ I3 : Option Addr → Nat → Nat → Int → Nat → World → Prop, (∃ nl3, I3 none 0 0 0 nl3 w) ∧ ∀ (p3 : Option Addr) (l3 c3 : Nat), ∀ x4 : Int, ∀ (nl3 : Nat) (wl3 : World), I3 p3 l3 c3 x4 nl3 wl3 →
  Br (decide (x4 < ((l0 : Int))))
  (∀ wd5, Drew wl3 wd5 →
  ∃ S5 : World → Prop, S5 wd5 ∧ ((0 : Int) ≤ x4 ∧ x4 < (l0 : Int)) ∧ ∃ b14 o14, p0 = some ⟨b14, o14, none⟩ ∧ ∃ n16 : Int, (∀ w, S5 w → w.cell? ⟨b14, o14 + (x4).toNat * 3, none⟩ = some (.int .i64 n16)) ∧ ((0 : Int) ≤ x4 ∧ x4 < (l0 : Int)) ∧ ∃ b19 o19, p0 = some ⟨b19, o19, none⟩ ∧ ∃ (p21 : Option Addr) (l21 c21 : Nat), wd5.cell? ⟨b19, o19 + (x4).toNat * 3 + 1, none⟩ = some (.slice p21 l21 c21) ∧ Does Try.prog 12 #[.slice p21 l21 c21] wd5 fun e22 w22 =>
  ∃ (p22 : Option Addr) (l22 c22 : Nat), e22 = .returned (.slice p22 l22 c22) ∧ S5 w22 ∧ ((0 : Int) ≤ x4 ∧ x4 < (l0 : Int)) ∧ ∃ b25 o25, p0 = some ⟨b25, o25, none⟩ ∧ ∃ (p27 : Option Addr) (l27 c27 : Nat), (∀ w, S5 w → w.cell? ⟨b25, o25 + (x4).toNat * 3 + 2, none⟩ = some (.slice p27 l27 c27)) ∧ Does Try.prog 12 #[.slice p27 l27 c27] w22 fun e28 w28 =>
  ∃ (p28 : Option Addr) (l28 c28 : Nat), e28 = .returned (.slice p28 l28 c28) ∧ S5 w28 ∧ ∀ b30 w30, NewBlk w28 b30 [.int .i64 n16, .slice p22 l22 c22, .slice p28 l28 c28] 58 w30 →
  ∃ (p31 : Option Addr) (l31 c31 : Nat) (w31 : World), (Builtin.append_ #[59, 59] 59 #[.slice p3 l3 c3, .slice (some ⟨b30, 0, none⟩) 1 1]).run Try.prog w30 = .ok (.slice p31 l31 c31) w31 ∧
  InK .i64 (x4 + 1) ∧ ∃ ml3, ml3 < nl3 ∧ I3 p31 l31 c31 (x4 + 1) ml3 w31)
  (R (.returned (.slice p3 l3 c3)) wl3)
def f53_ann : Ann := { loops := [(3, [(3, .slice), (4, .int .i64)])], cuts := [], flip := [], throws := [] }
theorem f53_eq (p0 : Option Addr) (l0 c0 : Nat) (w : World) (R : Ending → World → Prop) : vc Try.prog f53_ann (bodyOf Try.f53) (retQ Try.prog Try.f53 R) (envOf Try.f53.ntmps [.v (.slice p0 l0 c0)]) [] w = f53_vc p0 l0 c0 w R := by kernel_rfl
theorem f53_does (p0 : Option Addr) (l0 c0 : Nat) {w : World} {R : Ending → World → Prop} (h : f53_vc p0 l0 c0 w R) : Does Try.prog 53 #[.slice p0 l0 c0] w R :=
  does_of_vc (ss := [.v (.slice p0 l0 c0)]) f53_ann mixed call53 Try.func53 rfl rfl (show 1 ≤ Try.f53.ntmps by decide) ((f53_eq p0 l0 c0 w R).symm ▸ h)
/-- Of (*escritoire/history.History).there (function 54): the condition. -/
def f54_vc (a0 : Option Addr) (a1 : Int) (w : World) (R : Ending → World → Prop) : Prop :=
  Does Try.prog 31 #[.pointer a0] w fun e6 w6 =>
  ∃ b6 : Bool, e6 = .returned (.bool b6) ∧ Br b6
  (Br (decide (a1 ≥ 0))
  (∃ b14 o14, a0 = some ⟨b14, o14, none⟩ ∧ ∃ (p16 : Option Addr) (l16 c16 : Nat), w6.cell? ⟨b14, o14, none⟩ = some (.slice p16 l16 c16) ∧ R (.returned (.bool (decide (a1 < ((l16 : Int)))))) w6)
  (R (.returned (.bool false)) w6))
  (R (.returned (.bool false)) w6)
def f54_ann : Ann := { loops := [], cuts := [], flip := [], throws := [] }
theorem f54_eq (a0 : Option Addr) (a1 : Int) (w : World) (R : Ending → World → Prop) : vc Try.prog f54_ann (bodyOf Try.f54) (retQ Try.prog Try.f54 R) (envOf Try.f54.ntmps [.v (.pointer a0), .v (.int .i64 a1)]) [] w = f54_vc a0 a1 w R := by kernel_rfl
theorem f54_does (a0 : Option Addr) (a1 : Int) {w : World} {R : Ending → World → Prop} (h : f54_vc a0 a1 w R) : Does Try.prog 54 #[.pointer a0, .int .i64 a1] w R :=
  does_of_vc (ss := [.v (.pointer a0), .v (.int .i64 a1)]) f54_ann mixed call54 Try.func54 rfl rfl (show 2 ≤ Try.f54.ntmps by decide) ((f54_eq a0 a1 w R).symm ▸ h)
/-- Of escritoire/octet.lies (function 55): the condition. -/
def f55_vc (p0 : Option Addr) (l0 c0 : Nat) (a1 : Int) (a2 : Int) (w : World) (R : Ending → World → Prop) : Prop :=
  Br (decide (a2 ≥ 1))
  (Br (decide (a2 ≤ 8))
  (Br (decide (a1 ≥ 0))
  (Br (decide (a2 ≤ ((l0 : Int))))
  (InK .i64 (((l0 : Int)) - a2) ∧ R (.returned (.bool (decide (a1 ≤ (((l0 : Int)) - a2))))) w)
  (R (.returned (.bool false)) w))
  (R (.returned (.bool false)) w))
  (R (.returned (.bool false)) w))
  (R (.returned (.bool false)) w)
def f55_ann : Ann := { loops := [], cuts := [], flip := [], throws := [] }
theorem f55_eq (p0 : Option Addr) (l0 c0 : Nat) (a1 : Int) (a2 : Int) (w : World) (R : Ending → World → Prop) : vc Try.prog f55_ann (bodyOf Try.f55) (retQ Try.prog Try.f55 R) (envOf Try.f55.ntmps [.v (.slice p0 l0 c0), .v (.int .i64 a1), .v (.int .i64 a2)]) [] w = f55_vc p0 l0 c0 a1 a2 w R := by kernel_rfl
theorem f55_does (p0 : Option Addr) (l0 c0 : Nat) (a1 : Int) (a2 : Int) {w : World} {R : Ending → World → Prop} (h : f55_vc p0 l0 c0 a1 a2 w R) : Does Try.prog 55 #[.slice p0 l0 c0, .int .i64 a1, .int .i64 a2] w R :=
  does_of_vc (ss := [.v (.slice p0 l0 c0), .v (.int .i64 a1), .v (.int .i64 a2)]) f55_ann mixed call55 Try.func55 rfl rfl (show 3 ≤ Try.f55.ntmps by decide) ((f55_eq p0 l0 c0 a1 a2 w R).symm ▸ h)
/-- Of (*escritoire/state.reader).num (function 56): the condition. -/
def f56_vc (a0 : Option Addr) (w : World) (R : Ending → World → Prop) : Prop :=
  Does Try.prog 58 #[.pointer a0, .int .i64 4] w fun e7 w7 =>
  (∃ (p7 : Option Addr) (l7 c7 : Nat), e7 = .returned (.slice p7 l7 c7) ∧ Does Try.prog 59 #[.slice p7 l7 c7, .int .i64 0, .int .i64 4] w7 fun e8 w8 =>
  ∃ n8 : Int, ∃ b8 : Bool, e8 = .returned (.tuple #[.int .i64 n8, .bool b8]) ∧ R (.returned (.int .i64 n8)) w8) ∨ (∃ ch7, e7 = .panicked ch7 ∧ R (.panicked ch7) w7)
def f56_ann : Ann := { loops := [], cuts := [], flip := [], throws := [58] }
theorem f56_eq (a0 : Option Addr) (w : World) (R : Ending → World → Prop) : vc Try.prog f56_ann (bodyOf Try.f56) (retQ Try.prog Try.f56 R) (envOf Try.f56.ntmps [.v (.pointer a0)]) [] w = f56_vc a0 w R := by kernel_rfl
theorem f56_does (a0 : Option Addr) {w : World} {R : Ending → World → Prop} (h : f56_vc a0 w R) : Does Try.prog 56 #[.pointer a0] w R :=
  does_of_vc (ss := [.v (.pointer a0)]) f56_ann mixed call56 Try.func56 rfl rfl (show 1 ≤ Try.f56.ntmps by decide) ((f56_eq a0 w R).symm ▸ h)
/-- Of (*escritoire/state.reader).node (function 57): the condition. -/
def f57_vc (a0 : Option Addr) (w : World) (R : Ending → World → Prop) : Prop :=
  Does Try.prog 56 #[.pointer a0] w fun e4 w4 =>
  (∃ n4 : Int, e4 = .returned (.int .i64 n4) ∧ ∀ b2 w2, NewBlk w4 b2 [.int .i64 0, .slice none 0 0, .int .i64 0] 63 w2 →
  CanStore w2 b2 0 ∧ ∀ ws, Stored w2 b2 0 (.int .i64 n4) ws →
  CanStore ws b2 1 ∧ ∀ ws_1, Stored ws b2 1 (.slice none 0 0) ws_1 →
  CanStore ws_1 b2 2 ∧ ∀ ws_2, Stored ws_1 b2 2 (.int .i64 0) ws_2 →
  Does Try.prog 56 #[.pointer a0] ws_2 fun e7 w7 =>
  (∃ n7 : Int, e7 = .returned (.int .i64 n7) ∧ CanStore w7 b2 2 ∧ ∀ ws_3, Stored w7 b2 2 (.int .i64 n7) ws_3 →
  Does Try.prog 56 #[.pointer a0] ws_3 fun e10 w10 =>
  (∃ n10 : Int, e10 = .returned (.int .i64 n10) ∧ ∃ I3 : Int → Nat → World → Prop, (∃ nl3, I3 0 nl3 w10) ∧ ∀ x11 : Int, ∀ (nl3 : Nat) (wl3 : World), I3 x11 nl3 wl3 →
  Br (decide (x11 < n10))
  (∀ wd4, Drew wl3 wd4 →
  ∃ S4 : World → Prop, S4 wd4 ∧ ∃ (p14 : Option Addr) (l14 c14 : Nat), (∀ w, S4 w → w.cell? ⟨b2, 1, none⟩ = some (.slice p14 l14 c14)) ∧ Does Try.prog 60 #[.pointer a0] wd4 fun e16 w16 =>
  (∃ n16 : Int, ∃ (p16 : Option Addr) (l16 c16 : Nat), ∃ (p16_1 : Option Addr) (l16_1 c16_1 : Nat), e16 = .returned (.agg #[.int .i64 n16, .slice p16 l16 c16, .slice p16_1 l16_1 c16_1]) ∧ S4 w16 ∧ ∀ b17 w17, NewBlk w16 b17 [.int .i64 n16, .slice p16 l16 c16, .slice p16_1 l16_1 c16_1] 58 w17 →
  S4 w17 ∧ ∃ (p18 : Option Addr) (l18 c18 : Nat) (w18 : World), (Builtin.append_ #[59, 59] 59 #[.slice p14 l14 c14, .slice (some ⟨b17, 0, none⟩) 1 1]).run Try.prog w17 = .ok (.slice p18 l18 c18) w18 ∧
  CanStore w18 b2 1 ∧ ∀ ws_4, Stored w18 b2 1 (.slice p18 l18 c18) ws_4 →
  InK .i64 (x11 + 1) ∧ ∃ ml3, ml3 < nl3 ∧ I3 (x11 + 1) ml3 ws_4) ∨ (∃ ch16, e16 = .panicked ch16 ∧ R (.panicked ch16) w16))
  (∀ wd6, Drew wl3 wd6 →
  ∃ S6 : World → Prop, S6 wd6 ∧ ∃ b23 o23, a0 = some ⟨b23, o23, none⟩ ∧ ∃ (p25 : Option Addr) (l25 c25 : Nat), (∀ w, S6 w → w.cell? ⟨b23, o23 + 1, none⟩ = some (.slice p25 l25 c25)) ∧ ∃ n26 : Int, (∀ w, S6 w → w.cell? ⟨b2, 0, none⟩ = some (.int .i64 n26)) ∧ ∃ (p26 : Option Addr) (l26 c26 : Nat), (∀ w, S6 w → w.cell? ⟨b2, 1, none⟩ = some (.slice p26 l26 c26)) ∧ ∃ n26_1 : Int, (∀ w, S6 w → w.cell? ⟨b2, 2, none⟩ = some (.int .i64 n26_1)) ∧ ∀ b27 w27, NewBlk wd6 b27 [.int .i64 n26, .slice p26 l26 c26, .int .i64 n26_1] 63 w27 →
  S6 w27 ∧ ∃ (p28 : Option Addr) (l28 c28 : Nat) (w28 : World), (Builtin.append_ #[35, 35] 35 #[.slice p25 l25 c25, .slice (some ⟨b27, 0, none⟩) 1 1]).run Try.prog w27 = .ok (.slice p28 l28 c28) w28 ∧
  ∃ b29 o29, a0 = some ⟨b29, o29, none⟩ ∧ CanStore w28 b29 (o29 + 1) ∧ ∀ ws_5, Stored w28 b29 (o29 + 1) (.slice p28 l28 c28) ws_5 →
  R (.returned (.tuple #[])) ws_5)) ∨ (∃ ch10, e10 = .panicked ch10 ∧ R (.panicked ch10) w10)) ∨ (∃ ch7, e7 = .panicked ch7 ∧ R (.panicked ch7) w7)) ∨ (∃ ch4, e4 = .panicked ch4 ∧ R (.panicked ch4) w4)
def f57_ann : Ann := { loops := [(3, [(11, .int .i64)])], cuts := [], flip := [], throws := [56, 60] }
theorem f57_eq (a0 : Option Addr) (w : World) (R : Ending → World → Prop) : vc Try.prog f57_ann (bodyOf Try.f57) (retQ Try.prog Try.f57 R) (envOf Try.f57.ntmps [.v (.pointer a0)]) [] w = f57_vc a0 w R := by kernel_rfl
theorem f57_does (a0 : Option Addr) {w : World} {R : Ending → World → Prop} (h : f57_vc a0 w R) : Does Try.prog 57 #[.pointer a0] w R :=
  does_of_vc (ss := [.v (.pointer a0)]) f57_ann mixed call57 Try.func57 rfl rfl (show 1 ≤ Try.f57.ntmps by decide) ((f57_eq a0 w R).symm ▸ h)
/-- Of (*escritoire/state.reader).take (function 58): the condition. -/
def f58_vc (a0 : Option Addr) (a1 : Int) (w : World) (R : Ending → World → Prop) : Prop :=
  ∃ b8 o8, a0 = some ⟨b8, o8, none⟩ ∧ ∃ (p10 : Option Addr) (l10 c10 : Nat), w.cell? ⟨b8, o8, none⟩ = some (.slice p10 l10 c10) ∧ Br (decide (a1 > ((l10 : Int))))
  (R (.panicked [{ v := .iface 26 (.int .i64 2), recovered := false }]) w)
  (∃ b15 o15, a0 = some ⟨b15, o15, none⟩ ∧ ∃ (p17 : Option Addr) (l17 c17 : Nat), w.cell? ⟨b15, o15, none⟩ = some (.slice p17 l17 c17) ∧ ((0 : Int) ≤ a1 ∧ a1 ≤ (c17 : Int)) ∧ ((0 : Int) ≤ a1 ∧ a1 ≤ a1) ∧ ∃ b23 o23, a0 = some ⟨b23, o23, none⟩ ∧ ∃ (p25 : Option Addr) (l25 c25 : Nat), w.cell? ⟨b23, o23, none⟩ = some (.slice p25 l25 c25) ∧ ((0 : Int) ≤ a1 ∧ a1 ≤ (l25 : Int)) ∧ ∃ b28 o28, a0 = some ⟨b28, o28, none⟩ ∧ CanStore w b28 o28 ∧ ∀ ws, Stored w b28 o28 (.slice (subp p25 ((a1).toNat) c25 1) (l25 - ((a1).toNat)) (c25 - ((a1).toNat))) ws →
  R (.returned (.slice (subp p17 0 ((a1).toNat) 1) (((a1).toNat) - 0) (((a1).toNat) - 0))) ws)
def f58_ann : Ann := { loops := [], cuts := [], flip := [], throws := [] }
theorem f58_eq (a0 : Option Addr) (a1 : Int) (w : World) (R : Ending → World → Prop) : vc Try.prog f58_ann (bodyOf Try.f58) (retQ Try.prog Try.f58 R) (envOf Try.f58.ntmps [.v (.pointer a0), .v (.int .i64 a1)]) [] w = f58_vc a0 a1 w R := by kernel_rfl
theorem f58_does (a0 : Option Addr) (a1 : Int) {w : World} {R : Ending → World → Prop} (h : f58_vc a0 a1 w R) : Does Try.prog 58 #[.pointer a0, .int .i64 a1] w R :=
  does_of_vc (ss := [.v (.pointer a0), .v (.int .i64 a1)]) f58_ann mixed call58 Try.func58 rfl rfl (show 2 ≤ Try.f58.ntmps by decide) ((f58_eq a0 a1 w R).symm ▸ h)
/-- Of escritoire/octet.Get (function 59): the condition. -/
def f59_vc (p0 : Option Addr) (l0 c0 : Nat) (a1 : Int) (a2 : Int) (w : World) (R : Ending → World → Prop) : Prop :=
  ∀ b3 w3, NewBlk w b3 [.slice p0 l0 c0] 25 w3 →
  ∀ b4 w4, NewBlk w3 b4 [.int .i64 a1] 3 w4 →
  ∃ (p10 : Option Addr) (l10 c10 : Nat), w4.cell? ⟨b3, 0, none⟩ = some (.slice p10 l10 c10) ∧ ∃ n11 : Int, w4.cell? ⟨b4, 0, none⟩ = some (.int .i64 n11) ∧ Does Try.prog 55 #[.slice p10 l10 c10, .int .i64 n11, .int .i64 a2] w4 fun e13 w13 =>
  ∃ b13 : Bool, e13 = .returned (.bool b13) ∧ Br (!b13)
  (R (.returned (.tuple #[.int .i64 0, .bool false])) w13)
  (∀ b8 w8, NewBlk w13 b8 [.int .u64 0] 101 w8 →
  CanStore w8 b8 0 ∧ ∀ ws, Stored w8 b8 0 (.int .u64 0) ws →
  ∃ I6 : Int → Nat → World → Prop, (∃ nl6, I6 0 nl6 ws) ∧ ∀ x17 : Int, ∀ (nl6 : Nat) (wl6 : World), I6 x17 nl6 wl6 →
  Br (decide (x17 < a2))
  (Does Try.prog 61 #[.pointer (some ⟨b8, 0, none⟩), .pointer (some ⟨b3, 0, none⟩), .pointer (some ⟨b4, 0, none⟩)] wl6 fun e20 w20 =>
  e20 = .returned (.tuple #[]) ∧ InK .i64 (x17 + 1) ∧ ∃ ml6, ml6 < nl6 ∧ I6 (x17 + 1) ml6 w20)
  (∃ n22 : Int, wl6.cell? ⟨b8, 0, none⟩ = some (.int .u64 n22) ∧ Br (decide (n22 > 4611686018427387904))
  (R (.returned (.tuple #[.int .i64 0, .bool false])) wl6)
  (∃ n24 : Int, wl6.cell? ⟨b8, 0, none⟩ = some (.int .u64 n24) ∧ InK .i64 (n24) ∧ R (.returned (.tuple #[.int .i64 n24, .bool true])) wl6)))
def f59_ann : Ann := { loops := [(6, [(17, .int .i64)])], cuts := [], flip := [], throws := [] }
theorem f59_eq (p0 : Option Addr) (l0 c0 : Nat) (a1 : Int) (a2 : Int) (w : World) (R : Ending → World → Prop) : vc Try.prog f59_ann (bodyOf Try.f59) (retQ Try.prog Try.f59 R) (envOf Try.f59.ntmps [.v (.slice p0 l0 c0), .v (.int .i64 a1), .v (.int .i64 a2)]) [] w = f59_vc p0 l0 c0 a1 a2 w R := by kernel_rfl
theorem f59_does (p0 : Option Addr) (l0 c0 : Nat) (a1 : Int) (a2 : Int) {w : World} {R : Ending → World → Prop} (h : f59_vc p0 l0 c0 a1 a2 w R) : Does Try.prog 59 #[.slice p0 l0 c0, .int .i64 a1, .int .i64 a2] w R :=
  does_of_vc (ss := [.v (.slice p0 l0 c0), .v (.int .i64 a1), .v (.int .i64 a2)]) f59_ann mixed call59 Try.func59 rfl rfl (show 3 ≤ Try.f59.ntmps by decide) ((f59_eq p0 l0 c0 a1 a2 w R).symm ▸ h)
/-- Of (*escritoire/state.reader).edit (function 60): the condition. -/
def f60_vc (a0 : Option Addr) (w : World) (R : Ending → World → Prop) : Prop :=
  ∀ b2 w2, NewBlk w b2 [.int .i64 0, .slice none 0 0, .slice none 0 0] 58 w2 →
  Does Try.prog 56 #[.pointer a0] w2 fun e6 w6 =>
  (∃ n6 : Int, e6 = .returned (.int .i64 n6) ∧ Does Try.prog 62 #[.pointer a0] w6 fun e8 w8 =>
  (∃ (p8 : Option Addr) (l8 c8 : Nat), e8 = .returned (.slice p8 l8 c8) ∧ Does Try.prog 62 #[.pointer a0] w8 fun e12 w12 =>
  (∃ (p12 : Option Addr) (l12 c12 : Nat), e12 = .returned (.slice p12 l12 c12) ∧ CanStore w12 b2 0 ∧ ∀ ws, Stored w12 b2 0 (.int .i64 n6) ws →
  CanStore ws b2 1 ∧ ∀ ws_1, Stored ws b2 1 (.slice p8 l8 c8) ws_1 →
  CanStore ws_1 b2 2 ∧ ∀ ws_2, Stored ws_1 b2 2 (.slice p12 l12 c12) ws_2 →
  ∃ n2 : Int, ws_2.cell? ⟨b2, 0, none⟩ = some (.int .i64 n2) ∧ ∃ (p2 : Option Addr) (l2 c2 : Nat), ws_2.cell? ⟨b2, 1, none⟩ = some (.slice p2 l2 c2) ∧ ∃ (p2_1 : Option Addr) (l2_1 c2_1 : Nat), ws_2.cell? ⟨b2, 2, none⟩ = some (.slice p2_1 l2_1 c2_1) ∧ R (.returned (.agg #[.int .i64 n2, .slice p2 l2 c2, .slice p2_1 l2_1 c2_1])) ws_2) ∨ (∃ ch12, e12 = .panicked ch12 ∧ R (.panicked ch12) w12)) ∨ (∃ ch8, e8 = .panicked ch8 ∧ R (.panicked ch8) w8)) ∨ (∃ ch6, e6 = .panicked ch6 ∧ R (.panicked ch6) w6)
def f60_ann : Ann := { loops := [], cuts := [], flip := [], throws := [56, 62] }
theorem f60_eq (a0 : Option Addr) (w : World) (R : Ending → World → Prop) : vc Try.prog f60_ann (bodyOf Try.f60) (retQ Try.prog Try.f60 R) (envOf Try.f60.ntmps [.v (.pointer a0)]) [] w = f60_vc a0 w R := by kernel_rfl
theorem f60_does (a0 : Option Addr) {w : World} {R : Ending → World → Prop} (h : f60_vc a0 w R) : Does Try.prog 60 #[.pointer a0] w R :=
  does_of_vc (ss := [.v (.pointer a0)]) f60_ann mixed call60 Try.func60 rfl rfl (show 1 ≤ Try.f60.ntmps by decide) ((f60_eq a0 w R).symm ▸ h)
/-- Of escritoire/octet.Get$1 (function 61): the condition. -/
def f61_vc (a0 : Option Addr) (a1 : Option Addr) (a2 : Option Addr) (w : World) (R : Ending → World → Prop) : Prop :=
  ∀ wd0, Drew w wd0 →
  ∃ b3 o3, a0 = some ⟨b3, o3, none⟩ ∧ ∃ n3 : Int, wd0.cell? ⟨b3, o3, none⟩ = some (.int .u64 n3) ∧ (0 : Int) ≤ 8 ∧ ∃ b5 o5, a1 = some ⟨b5, o5, none⟩ ∧ ∃ (p5 : Option Addr) (l5 c5 : Nat), wd0.cell? ⟨b5, o5, none⟩ = some (.slice p5 l5 c5) ∧ ∃ b6 o6, a2 = some ⟨b6, o6, none⟩ ∧ ∃ n6 : Int, wd0.cell? ⟨b6, o6, none⟩ = some (.int .i64 n6) ∧ ((0 : Int) ≤ n6 ∧ n6 < (l5 : Int)) ∧ ∃ b7 o7, p5 = some ⟨b7, o7, none⟩ ∧ ∃ n8 : Int, wd0.cell? ⟨b7, o7 + (n6).toNat, none⟩ = some (.int .u8 n8) ∧ ∃ bx ox, a0 = some ⟨bx, ox, none⟩ ∧ CanStore wd0 bx ox ∧ ∀ ws, Stored wd0 bx ox (.int .u64 (bits .or .u64 (IntKind.wrap .u64 (n3 * 2 ^ 8)) (IntKind.wrap .u64 (n8)))) ws →
  ∃ b11 o11, a2 = some ⟨b11, o11, none⟩ ∧ ∃ n11 : Int, ws.cell? ⟨b11, o11, none⟩ = some (.int .i64 n11) ∧ InK .i64 (n11 + 1) ∧ ∃ bx_1 ox_1, a2 = some ⟨bx_1, ox_1, none⟩ ∧ CanStore ws bx_1 ox_1 ∧ ∀ ws_1, Stored ws bx_1 ox_1 (.int .i64 (n11 + 1)) ws_1 →
  R (.returned (.tuple #[])) ws_1
def f61_ann : Ann := { loops := [], cuts := [], flip := [], throws := [] }
theorem f61_eq (a0 : Option Addr) (a1 : Option Addr) (a2 : Option Addr) (w : World) (R : Ending → World → Prop) : vc Try.prog f61_ann (bodyOf Try.f61) (retQ Try.prog Try.f61 R) (envOf Try.f61.ntmps [.v (.pointer a0), .v (.pointer a1), .v (.pointer a2)]) [] w = f61_vc a0 a1 a2 w R := by kernel_rfl
theorem f61_does (a0 : Option Addr) (a1 : Option Addr) (a2 : Option Addr) {w : World} {R : Ending → World → Prop} (h : f61_vc a0 a1 a2 w R) : Does Try.prog 61 #[.pointer a0, .pointer a1, .pointer a2] w R :=
  does_of_vc (ss := [.v (.pointer a0), .v (.pointer a1), .v (.pointer a2)]) f61_ann mixed call61 Try.func61 rfl rfl (show 3 ≤ Try.f61.ntmps by decide) ((f61_eq a0 a1 a2 w R).symm ▸ h)
/-- Of (*escritoire/state.reader).text (function 62): the condition. -/
def f62_vc (a0 : Option Addr) (w : World) (R : Ending → World → Prop) : Prop :=
  Does Try.prog 56 #[.pointer a0] w fun e5 w5 =>
  (∃ n5 : Int, e5 = .returned (.int .i64 n5) ∧ Does Try.prog 58 #[.pointer a0, .int .i64 n5] w5 fun e6 w6 =>
  (∃ (p6 : Option Addr) (l6 c6 : Nat), e6 = .returned (.slice p6 l6 c6) ∧ ∃ (p7 : Option Addr) (l7 c7 : Nat) (w7 : World), (Builtin.append_ #[25, 25] 25 #[.slice none 0 0, .slice p6 l6 c6]).run Try.prog w6 = .ok (.slice p7 l7 c7) w7 ∧
  R (.returned (.slice p7 l7 c7)) w7) ∨ (∃ ch6, e6 = .panicked ch6 ∧ R (.panicked ch6) w6)) ∨ (∃ ch5, e5 = .panicked ch5 ∧ R (.panicked ch5) w5)
def f62_ann : Ann := { loops := [], cuts := [], flip := [], throws := [56, 58] }
theorem f62_eq (a0 : Option Addr) (w : World) (R : Ending → World → Prop) : vc Try.prog f62_ann (bodyOf Try.f62) (retQ Try.prog Try.f62 R) (envOf Try.f62.ntmps [.v (.pointer a0)]) [] w = f62_vc a0 w R := by kernel_rfl
theorem f62_does (a0 : Option Addr) {w : World} {R : Ending → World → Prop} (h : f62_vc a0 w R) : Does Try.prog 62 #[.pointer a0] w R :=
  does_of_vc (ss := [.v (.pointer a0)]) f62_ann mixed call62 Try.func62 rfl rfl (show 1 ≤ Try.f62.ntmps by decide) ((f62_eq a0 w R).symm ▸ h)
end Go.Proofs.Ytlenmnffdbgkkaa
