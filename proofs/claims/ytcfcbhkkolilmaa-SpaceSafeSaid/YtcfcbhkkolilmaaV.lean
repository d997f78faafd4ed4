/-
  Of each function of the code: its verification condition, and that it suffices.
-/
import Derived.Test.YtcfcbhkkolilmaaVcDoes
import Derived.Test.YtcfcbhkkolilmaaProg
set_option maxRecDepth 100000
namespace Go.Proofs.Ytcfcbhkkolilmaa
open Go.RowKit Go.Vc
def bodyOf (fn : Func) : Code := match fn.body with | some c => c | none => .skip
theorem mixed : Try.prog.follows .mixedOrders = true := by kernel_rfl
theorem call3 : callableB Try.prog 3 = true := by kernel_rfl
theorem call4 : callableB Try.prog 4 = true := by kernel_rfl
theorem call5 : callableB Try.prog 5 = true := by kernel_rfl
theorem call6 : callableB Try.prog 6 = true := by kernel_rfl
theorem call7 : callableB Try.prog 7 = true := by kernel_rfl
theorem call8 : callableB Try.prog 8 = true := by kernel_rfl
theorem call9 : callableB Try.prog 9 = true := by kernel_rfl
theorem call10 : callableB Try.prog 10 = true := by kernel_rfl
theorem call11 : callableB Try.prog 11 = true := by kernel_rfl
theorem call12 : callableB Try.prog 12 = true := by kernel_rfl
theorem call13 : callableB Try.prog 13 = true := by kernel_rfl
theorem call14 : callableB Try.prog 14 = true := by kernel_rfl
theorem call15 : callableB Try.prog 15 = true := by kernel_rfl
theorem call16 : callableB Try.prog 16 = true := by kernel_rfl
theorem call17 : callableB Try.prog 17 = true := by kernel_rfl
theorem call18 : callableB Try.prog 18 = true := by kernel_rfl
theorem call19 : callableB Try.prog 19 = true := by kernel_rfl
theorem call20 : callableB Try.prog 20 = true := by kernel_rfl
theorem call21 : callableB Try.prog 21 = true := by kernel_rfl
theorem call22 : callableB Try.prog 22 = true := by kernel_rfl
theorem call23 : callableB Try.prog 23 = true := by kernel_rfl
theorem call24 : callableB Try.prog 24 = true := by kernel_rfl
theorem call25 : callableB Try.prog 25 = true := by kernel_rfl
theorem call26 : callableB Try.prog 26 = true := by kernel_rfl
theorem call27 : callableB Try.prog 27 = true := by kernel_rfl
theorem call28 : callableB Try.prog 28 = true := by kernel_rfl
theorem call29 : callableB Try.prog 29 = true := by kernel_rfl
theorem call30 : callableB Try.prog 30 = true := by kernel_rfl
theorem call31 : callableB Try.prog 31 = true := by kernel_rfl
theorem call32 : callableB Try.prog 32 = true := by kernel_rfl
theorem call33 : callableB Try.prog 33 = true := by kernel_rfl
theorem call34 : callableB Try.prog 34 = true := by kernel_rfl
theorem call35 : callableB Try.prog 35 = true := by kernel_rfl
theorem call36 : callableB Try.prog 36 = true := by kernel_rfl
theorem call37 : callableB Try.prog 37 = true := by kernel_rfl
theorem call38 : callableB Try.prog 38 = true := by kernel_rfl
theorem call39 : callableB Try.prog 39 = true := by kernel_rfl
theorem call40 : callableB Try.prog 40 = true := by kernel_rfl
theorem call41 : callableB Try.prog 41 = true := by kernel_rfl
/-- Of escritoire/escritoirelaw10.SpaceKnown (function 3): the condition. -/
def f3_vc  (w : World) (R : Ending → World → Prop) : Prop :=
  Does Try.prog 8 #[] w fun e13 w13 =>
  ∃ b13 : Bool, e13 = .returned (.bool b13) ∧ Br (!b13)
  (R (.returned (.bool false)) w13)
  (Does Try.prog 9 #[.int .i64 10] w13 fun e16 w16 =>
  ∃ p16 : Option Addr, ∃ n16 : Int, e16 = .returned (.tuple #[.pointer p16, .int .i64 n16]) ∧ Br p16.isNone
  (R (.returned (.bool false)) w16)
  (Does Try.prog 10 #[.pointer p16] w16 fun e22 w22 =>
  ∃ n22 : Int, ∃ n22_1 : Int, e22 = .returned (.tuple #[.int .i64 n22, .int .i64 n22_1]) ∧ Does Try.prog 10 #[.pointer p16] w22 fun e24 w24 =>
  ∃ n24 : Int, ∃ n24_1 : Int, e24 = .returned (.tuple #[.int .i64 n24, .int .i64 n24_1]) ∧ Does Try.prog 11 #[.pointer p16, .int .i64 2] w24 fun e26 w26 =>
  ∃ n26 : Int, e26 = .returned (.int .i64 n26) ∧ Does Try.prog 10 #[.pointer p16] w26 fun e29 w29 =>
  ∃ n29 : Int, ∃ n29_1 : Int, e29 = .returned (.tuple #[.int .i64 n29, .int .i64 n29_1]) ∧ Does Try.prog 12 #[.pointer p16] w29 fun e33 w33 =>
  e33 = .returned (.tuple #[]) ∧ Does Try.prog 11 #[.pointer p16, .int .i64 3] w33 fun e35 w35 =>
  ∃ n35 : Int, e35 = .returned (.int .i64 n35) ∧ Does Try.prog 10 #[.pointer p16] w35 fun e38 w38 =>
  ∃ n38 : Int, ∃ n38_1 : Int, e38 = .returned (.tuple #[.int .i64 n38, .int .i64 n38_1]) ∧ Does Try.prog 13 #[.pointer p16] w38 fun e42 w42 =>
  ∃ n42 : Int, e42 = .returned (.int .i64 n42) ∧ Does Try.prog 11 #[.pointer p16, .int .i64 3] w42 fun e44 w44 =>
  ∃ n44 : Int, e44 = .returned (.int .i64 n44) ∧ Does Try.prog 11 #[.pointer p16, .int .i64 0] w44 fun e46 w46 =>
  ∃ n46 : Int, e46 = .returned (.int .i64 n46) ∧ Does Try.prog 12 #[.pointer p16] w46 fun e48 w48 =>
  e48 = .returned (.tuple #[]) ∧ Does Try.prog 10 #[.pointer p16] w48 fun e51 w51 =>
  ∃ n51 : Int, ∃ n51_1 : Int, e51 = .returned (.tuple #[.int .i64 n51, .int .i64 n51_1]) ∧ Br (n29 == 2)
  (Br (n35 == 0)
  (Br (n38 == 4)
  (Br (n42 == 5)
  (Br (n44 == 10)
  (Br (n46 == 1)
  (R (.returned (.bool (n51 == 3))) w51)
  (R (.returned (.bool false)) w51))
  (R (.returned (.bool false)) w51))
  (R (.returned (.bool false)) w51))
  (R (.returned (.bool false)) w51))
  (R (.returned (.bool false)) w51))
  (R (.returned (.bool false)) w51)))
def f3_ann : Ann := { loops := [], cuts := [], flip := [], throws := [] }
theorem f3_eq  (w : World) (R : Ending → World → Prop) : vc Try.prog f3_ann (bodyOf Try.f3) (retQ Try.prog Try.f3 R) (envOf Try.f3.ntmps []) w = f3_vc  w R := by kernel_rfl
theorem f3_does  {w : World} {R : Ending → World → Prop} (h : f3_vc  w R) : Does Try.prog 3 #[] w R :=
  does_of_vc (ss := []) f3_ann mixed call3 Try.func3 rfl rfl (show 0 ≤ Try.f3.ntmps by decide) ((f3_eq  w R).symm ▸ h)
/-- Of escritoire/escritoirelaw10.SpaceCounts (function 4): the condition. -/
def f4_vc (a0 : Int) (p1 : Option Addr) (l1 c1 : Nat) (w : World) (R : Ending → World → Prop) : Prop :=
  Does Try.prog 8 #[] w fun e13 w13 =>
  ∃ b13 : Bool, e13 = .returned (.bool b13) ∧ Br (!b13)
  (R (.returned (.bool false)) w13)
  (Br (decide (a0 < 8))
  (R (.returned (.bool true)) w13)
  (Br (decide (a0 > 200))
  (R (.returned (.bool true)) w13)
  (Br (decide (((l1 : Int)) > 100))
  (R (.returned (.bool true)) w13)
  (Does Try.prog 9 #[.int .i64 a0] w13 fun e28 w28 =>
  ∃ p28 : Option Addr, ∃ n28 : Int, e28 = .returned (.tuple #[.pointer p28, .int .i64 n28]) ∧ Br (n28 != 0)
  (R (.returned (.bool false)) w28)
  (Br p28.isNone
  (R (.returned (.bool false)) w28)
  (((0 : Int) ≤ a0 ∧ a0 ≤ a0 ∧ a0 * ((1 : Nat) : Int) ≤ 140737488355328 ∧ a0 ≤ 9223372036854775807) ∧ ∀ b38 w38, NewBlk w28 b38 (zerosL (.bool false) (a0).toNat) 4 w38 →
  ∃ I10 : Int → Nat → World → Prop, (∃ nl10, I10 0 nl10 w38) ∧ ∀ x8 : Int, ∀ (nl10 : Nat) (wl10 : World), I10 x8 nl10 wl10 →
  InK .i64 (a0 - 2) ∧ Br (decide (x8 < (a0 - 2)))
  (Does Try.prog 10 #[.pointer p28] wl10 fun e47 w47 =>
  ∃ n47 : Int, ∃ n47_1 : Int, e47 = .returned (.tuple #[.int .i64 n47, .int .i64 n47_1]) ∧ Br (n47_1 != 0)
  (R (.returned (.bool false)) w47)
  (Br (decide (n47 < 2))
  (R (.returned (.bool false)) w47)
  (Br (decide (n47 ≥ a0))
  (R (.returned (.bool false)) w47)
  (((0 : Int) ≤ n47 ∧ n47 < (((a0).toNat : Nat) : Int)) ∧ ∃ b64 o64, (some ⟨b38, 0, none⟩ : Option Addr) = some ⟨b64, o64, none⟩ ∧ ∃ b65 : Bool, w47.cell? ⟨b64, o64 + (n47).toNat, none⟩ = some (.bool b65) ∧ Br b65
  (R (.returned (.bool false)) w47)
  (Does Try.prog 13 #[.pointer p28] w47 fun e69 w69 =>
  ∃ n69 : Int, e69 = .returned (.int .i64 n69) ∧ InK .i64 (a0 - 3) ∧ InK .i64 ((a0 - 3) - x8) ∧ Br (n69 != ((a0 - 3) - x8))
  (R (.returned (.bool false)) w69)
  (((0 : Int) ≤ n47 ∧ n47 < (((a0).toNat : Nat) : Int)) ∧ ∃ b78 o78, (some ⟨b38, 0, none⟩ : Option Addr) = some ⟨b78, o78, none⟩ ∧ CanStore w69 b78 (o78 + (n47).toNat) ∧ ∀ ws, Stored w69 b78 (o78 + (n47).toNat) (.bool true) ws →
  InK .i64 (x8 + 1) ∧ ∃ ml10, ml10 < nl10 ∧ I10 (x8 + 1) ml10 ws))))))
  (Does Try.prog 10 #[.pointer p28] wl10 fun e81 w81 =>
  ∃ n81 : Int, ∃ n81_1 : Int, e81 = .returned (.tuple #[.int .i64 n81, .int .i64 n81_1]) ∧ Br (n81_1 != 6)
  (R (.returned (.bool false)) w81)
  (Does Try.prog 12 #[.pointer p28] w81 fun e87 w87 =>
  e87 = .returned (.tuple #[]) ∧ ∃ I22 : Int → Int → Nat → World → Prop, (∃ nl22, I22 0 0 nl22 w87) ∧ ∀ x11 : Int, ∀ x12 : Int, ∀ (nl22 : Nat) (wl22 : World), I22 x11 x12 nl22 wl22 →
  Br (decide (x12 < ((l1 : Int))))
  (((0 : Int) ≤ x12 ∧ x12 < (l1 : Int)) ∧ ∃ b97 o97, p1 = some ⟨b97, o97, none⟩ ∧ ∃ n98 : Int, wl22.cell? ⟨b97, o97 + (x12).toNat, none⟩ = some (.int .i64 n98) ∧ Does Try.prog 11 #[.pointer p28, .int .i64 n98] wl22 fun e99 w99 =>
  ∃ n99 : Int, e99 = .returned (.int .i64 n99) ∧ Br (n99 == 0)
  (InK .i64 (x11 + 1) ∧ InK .i64 (x12 + 1) ∧ ∃ ml22, ml22 < nl22 ∧ I22 (x11 + 1) (x12 + 1) ml22 w99)
  (InK .i64 (x12 + 1) ∧ ∃ ml22, ml22 < nl22 ∧ I22 x11 (x12 + 1) ml22 w99))
  (Does Try.prog 13 #[.pointer p28] wl22 fun e104 w104 =>
  ∃ n104 : Int, e104 = .returned (.int .i64 n104) ∧ Br (n104 != 0)
  (R (.returned (.bool false)) w104)
  (Does Try.prog 12 #[.pointer p28] w104 fun e107 w107 =>
  e107 = .returned (.tuple #[]) ∧ Does Try.prog 13 #[.pointer p28] w107 fun e109 w109 =>
  ∃ n109 : Int, e109 = .returned (.int .i64 n109) ∧ R (.returned (.bool (n109 == x11))) w109))))))))))
def f4_ann : Ann := { loops := [(10, [(8, .int .i64)]), (22, [(11, .int .i64), (12, .int .i64)])], cuts := [], flip := [], throws := [] }
theorem f4_eq (a0 : Int) (p1 : Option Addr) (l1 c1 : Nat) (w : World) (R : Ending → World → Prop) : vc Try.prog f4_ann (bodyOf Try.f4) (retQ Try.prog Try.f4 R) (envOf Try.f4.ntmps [.v (.int .i64 a0), .v (.slice p1 l1 c1)]) w = f4_vc a0 p1 l1 c1 w R := by kernel_rfl
theorem f4_does (a0 : Int) (p1 : Option Addr) (l1 c1 : Nat) {w : World} {R : Ending → World → Prop} (h : f4_vc a0 p1 l1 c1 w R) : Does Try.prog 4 #[.int .i64 a0, .slice p1 l1 c1] w R :=
  does_of_vc (ss := [.v (.int .i64 a0), .v (.slice p1 l1 c1)]) f4_ann mixed call4 Try.func4 rfl rfl (show 2 ≤ Try.f4.ntmps by decide) ((f4_eq a0 p1 l1 c1 w R).symm ▸ h)
/-- Of escritoire/escritoirelaw10.SpaceSafe (function 5): the condition. -/
def f5_vc (p0 : Option Addr) (l0 c0 : Nat) (p1 : Option Addr) (l1 c1 : Nat) (w : World) (R : Ending → World → Prop) : Prop :=
  Does Try.prog 8 #[] w fun e13 w13 =>
  ∃ b13 : Bool, e13 = .returned (.bool b13) ∧ Br (!b13)
  (R (.returned (.bool false)) w13)
  (Br (decide (((l0 : Int)) > 200))
  (R (.returned (.bool true)) w13)
  (Br (decide (((l1 : Int)) > 200))
  (R (.returned (.bool true)) w13)
  (Does Try.prog 9 #[.int .i64 20] w13 fun e24 w24 =>
  ∃ p24 : Option Addr, ∃ n24 : Int, e24 = .returned (.tuple #[.pointer p24, .int .i64 n24]) ∧ Br (n24 != 0)
  (R (.returned (.bool false)) w24)
  (Br p24.isNone
  (R (.returned (.bool false)) w24)
  (∃ I9 : Int → Nat → World → Prop, (∃ nl9, I9 0 nl9 w24) ∧ ∀ x7 : Int, ∀ (nl9 : Nat) (wl9 : World), I9 x7 nl9 wl9 →
  Br (decide (x7 < ((l0 : Int))))
  (((0 : Int) ≤ x7 ∧ x7 < (l0 : Int)) ∧ ∃ b41 o41, p0 = some ⟨b41, o41, none⟩ ∧ ∃ n43 : Int, wl9.cell? ⟨b41, o41 + (x7).toNat * 2, none⟩ = some (.int .i64 n43) ∧ Br (decide (n43 ≤ 4))
  (Does Try.prog 10 #[.pointer p24] wl9 fun e46 w46 =>
  ∃ n46 : Int, ∃ n46_1 : Int, e46 = .returned (.tuple #[.int .i64 n46, .int .i64 n46_1]) ∧ InK .i64 (x7 + 1) ∧ ∃ ml9, ml9 < nl9 ∧ I9 (x7 + 1) ml9 w46)
  (((0 : Int) ≤ x7 ∧ x7 < (l0 : Int)) ∧ ∃ b50 o50, p0 = some ⟨b50, o50, none⟩ ∧ ∃ n52 : Int, wl9.cell? ⟨b50, o50 + (x7).toNat * 2 + 1, none⟩ = some (.int .i64 n52) ∧ Does Try.prog 11 #[.pointer p24, .int .i64 n52] wl9 fun e53 w53 =>
  ∃ n53 : Int, e53 = .returned (.int .i64 n53) ∧ InK .i64 (x7 + 1) ∧ ∃ ml9, ml9 < nl9 ∧ I9 (x7 + 1) ml9 w53))
  (Does Try.prog 12 #[.pointer p24] wl9 fun e55 w55 =>
  e55 = .returned (.tuple #[]) ∧ Does Try.prog 14 #[.pointer p24] w55 fun e57 w57 =>
  ∃ (p57 : Option Addr) (l57 c57 : Nat), e57 = .returned (.slice p57 l57 c57) ∧ Does Try.prog 13 #[.pointer p24] w57 fun e59 w59 =>
  ∃ n59 : Int, e59 = .returned (.int .i64 n59) ∧ ∃ I18 : Int → Nat → World → Prop, (∃ nl18, I18 0 nl18 w59) ∧ ∀ x10 : Int, ∀ (nl18 : Nat) (wl18 : World), I18 x10 nl18 wl18 →
  Br (decide (x10 < ((l1 : Int))))
  (((0 : Int) ≤ x10 ∧ x10 < (l1 : Int)) ∧ ∃ b68 o68, p1 = some ⟨b68, o68, none⟩ ∧ ∃ n70 : Int, wl18.cell? ⟨b68, o68 + (x10).toNat * 2, none⟩ = some (.int .i64 n70) ∧ Br (decide (n70 ≤ 4))
  (Does Try.prog 10 #[.pointer p24] wl18 fun e74 w74 =>
  ∃ n74 : Int, ∃ n74_1 : Int, e74 = .returned (.tuple #[.int .i64 n74, .int .i64 n74_1]) ∧ Br (n74_1 == 0)
  ((8 : Int) ≠ 0 ∧ InK .i64 (n74.tdiv 8) ∧ ((0 : Int) ≤ (n74.tdiv 8) ∧ (n74.tdiv 8) < (l57 : Int)) ∧ ∃ b83 o83, p57 = some ⟨b83, o83, none⟩ ∧ ∃ n84 : Int, w74.cell? ⟨b83, o83 + (n74.tdiv 8).toNat, none⟩ = some (.int .u8 n84) ∧ (8 : Int) ≠ 0 ∧ (0 : Int) ≤ (IntKind.wrap .u64 (n74.tmod 8)) ∧ Br ((bits .and .u8 (n84.fdiv (2 ^ (min (IntKind.wrap .u64 (n74.tmod 8)).toNat 8))) 1) == 1)
  (R (.returned (.bool false)) w74)
  (InK .i64 (x10 + 1) ∧ ∃ ml18, ml18 < nl18 ∧ I18 (x10 + 1) ml18 w74))
  (InK .i64 (x10 + 1) ∧ ∃ ml18, ml18 < nl18 ∧ I18 (x10 + 1) ml18 w74))
  (((0 : Int) ≤ x10 ∧ x10 < (l1 : Int)) ∧ ∃ b95 o95, p1 = some ⟨b95, o95, none⟩ ∧ ∃ n97 : Int, wl18.cell? ⟨b95, o95 + (x10).toNat * 2 + 1, none⟩ = some (.int .i64 n97) ∧ Does Try.prog 11 #[.pointer p24, .int .i64 n97] wl18 fun e98 w98 =>
  ∃ n98 : Int, e98 = .returned (.int .i64 n98) ∧ InK .i64 (x10 + 1) ∧ ∃ ml18, ml18 < nl18 ∧ I18 (x10 + 1) ml18 w98))
  (Does Try.prog 15 #[.pointer p24] wl18 fun e100 w100 =>
  e100 = .returned (.tuple #[]) ∧ Does Try.prog 13 #[.pointer p24] w100 fun e102 w102 =>
  ∃ n102 : Int, e102 = .returned (.int .i64 n102) ∧ Br (n102 == n59)
  (Does Try.prog 14 #[.pointer p24] w102 fun e107 w107 =>
  ∃ (p107 : Option Addr) (l107 c107 : Nat), e107 = .returned (.slice p107 l107 c107) ∧ Does Try.prog 16 #[.slice p107 l107 c107, .slice p57 l57 c57] w107 fun e109 w109 =>
  ∃ b109 : Bool, e109 = .returned (.bool b109) ∧ R (.returned (.bool b109)) w109)
  (R (.returned (.bool false)) w102))))))))
def f5_ann : Ann := { loops := [(9, [(7, .int .i64)]), (18, [(10, .int .i64)])], cuts := [], flip := [], throws := [] }
theorem f5_eq (p0 : Option Addr) (l0 c0 : Nat) (p1 : Option Addr) (l1 c1 : Nat) (w : World) (R : Ending → World → Prop) : vc Try.prog f5_ann (bodyOf Try.f5) (retQ Try.prog Try.f5 R) (envOf Try.f5.ntmps [.v (.slice p0 l0 c0), .v (.slice p1 l1 c1)]) w = f5_vc p0 l0 c0 p1 l1 c1 w R := by kernel_rfl
theorem f5_does (p0 : Option Addr) (l0 c0 : Nat) (p1 : Option Addr) (l1 c1 : Nat) {w : World} {R : Ending → World → Prop} (h : f5_vc p0 l0 c0 p1 l1 c1 w R) : Does Try.prog 5 #[.slice p0 l0 c0, .slice p1 l1 c1] w R :=
  does_of_vc (ss := [.v (.slice p0 l0 c0), .v (.slice p1 l1 c1)]) f5_ann mixed call5 Try.func5 rfl rfl (show 2 ≤ Try.f5.ntmps by decide) ((f5_eq p0 l0 c0 p1 l1 c1 w R).symm ▸ h)
/-- Of escritoire/escritoirelaw10.SpaceLoads (function 6): the condition. -/
def f6_vc (a0 : Int) (p1 : Option Addr) (l1 c1 : Nat) (w : World) (R : Ending → World → Prop) : Prop :=
  Does Try.prog 8 #[] w fun e9 w9 =>
  ∃ b9 : Bool, e9 = .returned (.bool b9) ∧ Br (!b9)
  (R (.returned (.bool false)) w9)
  (Br (decide (a0 > 200))
  (R (.returned (.bool true)) w9)
  (Br (decide (((l1 : Int)) > 200))
  (R (.returned (.bool true)) w9)
  (Does Try.prog 17 #[.int .i64 a0, .slice p1 l1 c1] w9 fun e21 w21 =>
  ∃ p21 : Option Addr, ∃ n21 : Int, e21 = .returned (.tuple #[.pointer p21, .int .i64 n21]) ∧ Does Try.prog 18 #[.int .i64 a0, .slice p1 l1 c1] w21 fun e27 w27 =>
  ∃ p27 : Option Addr, ∃ n27 : Int, e27 = .returned (.tuple #[.pointer p27, .int .i64 n27]) ∧ Br (n21 != n27)
  (R (.returned (.bool false)) w27)
  (Br (n27 != 0)
  (Br p21.isNone
  (R (.returned (.bool true)) w27)
  (Br (n27 == 0)
  (Does Try.prog 14 #[.pointer p21] w27 fun e44 w44 =>
  ∃ (p44 : Option Addr) (l44 c44 : Nat), e44 = .returned (.slice p44 l44 c44) ∧ Does Try.prog 16 #[.slice p44 l44 c44, .slice p1 l1 c1] w44 fun e46 w46 =>
  ∃ b46 : Bool, e46 = .returned (.bool b46) ∧ R (.returned (.bool b46)) w46)
  (R (.returned (.bool false)) w27)))
  (Br (n27 == 0)
  (Does Try.prog 14 #[.pointer p21] w27 fun e44_1 w44_1 =>
  ∃ (p44_1 : Option Addr) (l44_1 c44_1 : Nat), e44_1 = .returned (.slice p44_1 l44_1 c44_1) ∧ Does Try.prog 16 #[.slice p44_1 l44_1 c44_1, .slice p1 l1 c1] w44_1 fun e46_1 w46_1 =>
  ∃ b46_1 : Bool, e46_1 = .returned (.bool b46_1) ∧ R (.returned (.bool b46_1)) w46_1)
  (R (.returned (.bool false)) w27))))))
def f6_ann : Ann := { loops := [], cuts := [], flip := [], throws := [] }
theorem f6_eq (a0 : Int) (p1 : Option Addr) (l1 c1 : Nat) (w : World) (R : Ending → World → Prop) : vc Try.prog f6_ann (bodyOf Try.f6) (retQ Try.prog Try.f6 R) (envOf Try.f6.ntmps [.v (.int .i64 a0), .v (.slice p1 l1 c1)]) w = f6_vc a0 p1 l1 c1 w R := by kernel_rfl
theorem f6_does (a0 : Int) (p1 : Option Addr) (l1 c1 : Nat) {w : World} {R : Ending → World → Prop} (h : f6_vc a0 p1 l1 c1 w R) : Does Try.prog 6 #[.int .i64 a0, .slice p1 l1 c1] w R :=
  does_of_vc (ss := [.v (.int .i64 a0), .v (.slice p1 l1 c1)]) f6_ann mixed call6 Try.func6 rfl rfl (show 2 ≤ Try.f6.ntmps by decide) ((f6_eq a0 p1 l1 c1 w R).symm ▸ h)
/-- Of escritoire/escritoirelaw10.SpacePlays (function 7): the condition. -/
def f7_vc (a0 : Int) (p1 : Option Addr) (l1 c1 : Nat) (w : World) (R : Ending → World → Prop) : Prop :=
  Does Try.prog 8 #[] w fun e18 w18 =>
  ∃ b18 : Bool, e18 = .returned (.bool b18) ∧ Br (!b18)
  (R (.returned (.bool false)) w18)
  (Br (decide (a0 > 100))
  (R (.returned (.bool true)) w18)
  (Br (decide (((l1 : Int)) > 300))
  (R (.returned (.bool true)) w18)
  (Does Try.prog 9 #[.int .i64 a0] w18 fun e29 w29 =>
  ∃ p29 : Option Addr, ∃ n29 : Int, e29 = .returned (.tuple #[.pointer p29, .int .i64 n29]) ∧ Does Try.prog 19 #[.int .i64 a0] w29 fun e34 w34 =>
  ∃ p34 : Option Addr, ∃ n34 : Int, e34 = .returned (.tuple #[.pointer p34, .int .i64 n34]) ∧ Br (n29 != n34)
  (R (.returned (.bool false)) w34)
  (Br (n34 != 0)
  (R (.returned (.bool p29.isNone)) w34)
  (∃ I12 : Option Addr → Int → Nat → World → Prop, (∃ nl12, I12 p29 0 nl12 w34) ∧ ∀ p5 : Option Addr, ∀ x9 : Int, ∀ (nl12 : Nat) (wl12 : World), I12 p5 x9 nl12 wl12 →
  Br (decide (x9 < ((l1 : Int))))
  (((0 : Int) ≤ x9 ∧ x9 < (l1 : Int)) ∧ ∃ b52 o52, p1 = some ⟨b52, o52, none⟩ ∧ ∃ n53 : Int, wl12.cell? ⟨b52, o52 + (x9).toNat * 2, none⟩ = some (.int .i64 n53) ∧ ∃ n53_1 : Int, wl12.cell? ⟨b52, o52 + (x9).toNat * 2 + 1, none⟩ = some (.int .i64 n53_1) ∧ ∀ b10 w10, NewBlk wl12 b10 [.int .i64 0, .int .i64 0] 36 w10 →
  CanStore w10 b10 0 ∧ ∀ ws, Stored w10 b10 0 (.int .i64 n53) ws →
  CanStore ws b10 1 ∧ ∀ ws_1, Stored ws b10 1 (.int .i64 n53_1) ws_1 →
  ∃ J36 : Option Addr → Bool → Nat → World → Prop, (∃ n63 : Int, ws_1.cell? ⟨b10, 0, none⟩ = some (.int .i64 n63) ∧ Br (decide (n63 ≤ 4))
  (Does Try.prog 10 #[.pointer p5] ws_1 fun e67 w67 =>
  ∃ n67 : Int, ∃ n67_1 : Int, e67 = .returned (.tuple #[.int .i64 n67, .int .i64 n67_1]) ∧ Does Try.prog 20 #[.pointer p34] w67 fun e72 w72 =>
  ∃ n72 : Int, ∃ n72_1 : Int, e72 = .returned (.tuple #[.int .i64 n72, .int .i64 n72_1]) ∧ Br (n67 == n72)
  (∃ nc36, J36 p5 (n67_1 == n72_1) nc36 w72)
  (∃ nc36, J36 p5 false nc36 w72))
  (∃ n85 : Int, ws_1.cell? ⟨b10, 0, none⟩ = some (.int .i64 n85) ∧ Br (decide (n85 ≤ 8))
  (∃ n89 : Int, ws_1.cell? ⟨b10, 1, none⟩ = some (.int .i64 n89) ∧ Does Try.prog 11 #[.pointer p5, .int .i64 n89] ws_1 fun e90 w90 =>
  ∃ n90 : Int, e90 = .returned (.int .i64 n90) ∧ ∃ n94 : Int, w90.cell? ⟨b10, 1, none⟩ = some (.int .i64 n94) ∧ Does Try.prog 21 #[.pointer p34, .int .i64 n94] w90 fun e95 w95 =>
  ∃ n95 : Int, e95 = .returned (.int .i64 n95) ∧ ∃ nc36, J36 p5 (n90 == n95) nc36 w95)
  (∃ n99 : Int, ws_1.cell? ⟨b10, 0, none⟩ = some (.int .i64 n99) ∧ Br (n99 == 9)
  (Does Try.prog 12 #[.pointer p5] ws_1 fun e102 w102 =>
  e102 = .returned (.tuple #[]) ∧ Does Try.prog 22 #[.pointer p34] w102 fun e104 w104 =>
  e104 = .returned (.tuple #[]) ∧ ∃ nc36, J36 p5 true nc36 w104)
  (∃ n107 : Int, ws_1.cell? ⟨b10, 0, none⟩ = some (.int .i64 n107) ∧ Br (n107 == 10)
  (Does Try.prog 23 #[.pointer p5] ws_1 fun e110 w110 =>
  e110 = .returned (.tuple #[]) ∧ Does Try.prog 24 #[.pointer p34] w110 fun e112 w112 =>
  e112 = .returned (.tuple #[]) ∧ ∃ nc36, J36 p5 true nc36 w112)
  (∃ n115 : Int, ws_1.cell? ⟨b10, 0, none⟩ = some (.int .i64 n115) ∧ Br (n115 == 11)
  (Does Try.prog 15 #[.pointer p5] ws_1 fun e118 w118 =>
  e118 = .returned (.tuple #[]) ∧ Does Try.prog 25 #[.pointer p34] w118 fun e120 w120 =>
  e120 = .returned (.tuple #[]) ∧ ∃ nc36, J36 p5 true nc36 w120)
  (Does Try.prog 26 #[.pointer p5] ws_1 fun e55 w55 =>
  ∃ p55 : Option Addr, e55 = .returned (.pointer p55) ∧ Does Try.prog 10 #[.pointer p5] w55 fun e57 w57 =>
  ∃ n57 : Int, ∃ n57_1 : Int, e57 = .returned (.tuple #[.int .i64 n57, .int .i64 n57_1]) ∧ Does Try.prog 12 #[.pointer p5] w57 fun e59 w59 =>
  e59 = .returned (.tuple #[]) ∧ ∃ nc36, J36 p55 true nc36 w59)))))) ∧ ∀ p5_1 : Option Addr, ∀ b11 : Bool, ∀ (nc36 : Nat) (wc36 : World), J36 p5_1 b11 nc36 wc36 →
  ∀ wd36, Drew wc36 wd36 →
  ∃ S36 : World → Prop, S36 wd36 ∧ Br (!b11)
  (R (.returned (.bool false)) wd36)
  (Does Try.prog 13 #[.pointer p5_1] wd36 fun e125 w125 =>
  ∃ n125 : Int, e125 = .returned (.int .i64 n125) ∧ S36 w125 ∧ Does Try.prog 27 #[.pointer p34, .int .i64 0] w125 fun e127 w127 =>
  ∃ n127 : Int, e127 = .returned (.int .i64 n127) ∧ S36 w127 ∧ Br (n125 != n127)
  (R (.returned (.bool false)) w127)
  (∃ n133 : Int, (∀ w, S36 w → w.cell? ⟨b10, 1, none⟩ = some (.int .i64 n133)) ∧ Does Try.prog 28 #[.pointer p5_1, .int .i64 n133] w127 fun e134 w134 =>
  ∃ b134 : Bool, e134 = .returned (.bool b134) ∧ S36 w134 ∧ ∃ n137 : Int, (∀ w, S36 w → w.cell? ⟨b10, 1, none⟩ = some (.int .i64 n137)) ∧ Does Try.prog 29 #[.pointer p34, .int .i64 n137, .int .i64 2] w134 fun e138 w138 =>
  ∃ b138 : Bool, e138 = .returned (.bool b138) ∧ S36 w138 ∧ Br (!(b134 == b138))
  (R (.returned (.bool false)) w138)
  (∃ n144 : Int, (∀ w, S36 w → w.cell? ⟨b10, 1, none⟩ = some (.int .i64 n144)) ∧ Does Try.prog 30 #[.pointer p5_1, .int .i64 n144] w138 fun e145 w145 =>
  ∃ b145 : Bool, e145 = .returned (.bool b145) ∧ S36 w145 ∧ ∃ n147 : Int, (∀ w, S36 w → w.cell? ⟨b10, 1, none⟩ = some (.int .i64 n147)) ∧ Br (decide (n147 ≥ 0))
  (∃ n151 : Int, (∀ w, S36 w → w.cell? ⟨b10, 1, none⟩ = some (.int .i64 n151)) ∧ Br (decide (n151 < a0))
  (∃ n158 : Int, (∀ w, S36 w → w.cell? ⟨b10, 1, none⟩ = some (.int .i64 n158)) ∧ Does Try.prog 29 #[.pointer p34, .int .i64 n158, .int .i64 0] w145 fun e159 w159 =>
  ∃ b159 : Bool, e159 = .returned (.bool b159) ∧ Br (!(b145 == (!b159)))
  (R (.returned (.bool false)) w159)
  (Does Try.prog 14 #[.pointer p5_1] w159 fun e166 w166 =>
  ∃ (p166 : Option Addr) (l166 c166 : Nat), e166 = .returned (.slice p166 l166 c166) ∧ Does Try.prog 31 #[.pointer p34] w166 fun e168 w168 =>
  ∃ (p168 : Option Addr) (l168 c168 : Nat), e168 = .returned (.slice p168 l168 c168) ∧ Does Try.prog 16 #[.slice p166 l166 c166, .slice p168 l168 c168] w168 fun e169 w169 =>
  ∃ b169 : Bool, e169 = .returned (.bool b169) ∧ Br (!b169)
  (R (.returned (.bool false)) w169)
  (InK .i64 (x9 + 1) ∧ ∃ ml12, ml12 < nl12 ∧ I12 p5_1 (x9 + 1) ml12 w169)))
  (Br (!(b145 == false))
  (R (.returned (.bool false)) w145)
  (Does Try.prog 14 #[.pointer p5_1] w145 fun e166_1 w166_1 =>
  ∃ (p166_1 : Option Addr) (l166_1 c166_1 : Nat), e166_1 = .returned (.slice p166_1 l166_1 c166_1) ∧ Does Try.prog 31 #[.pointer p34] w166_1 fun e168_1 w168_1 =>
  ∃ (p168_1 : Option Addr) (l168_1 c168_1 : Nat), e168_1 = .returned (.slice p168_1 l168_1 c168_1) ∧ Does Try.prog 16 #[.slice p166_1 l166_1 c166_1, .slice p168_1 l168_1 c168_1] w168_1 fun e169_1 w169_1 =>
  ∃ b169_1 : Bool, e169_1 = .returned (.bool b169_1) ∧ Br (!b169_1)
  (R (.returned (.bool false)) w169_1)
  (InK .i64 (x9 + 1) ∧ ∃ ml12, ml12 < nl12 ∧ I12 p5_1 (x9 + 1) ml12 w169_1))))
  (Br (!(b145 == false))
  (R (.returned (.bool false)) w145)
  (Does Try.prog 14 #[.pointer p5_1] w145 fun e166_2 w166_2 =>
  ∃ (p166_2 : Option Addr) (l166_2 c166_2 : Nat), e166_2 = .returned (.slice p166_2 l166_2 c166_2) ∧ Does Try.prog 31 #[.pointer p34] w166_2 fun e168_2 w168_2 =>
  ∃ (p168_2 : Option Addr) (l168_2 c168_2 : Nat), e168_2 = .returned (.slice p168_2 l168_2 c168_2) ∧ Does Try.prog 16 #[.slice p166_2 l166_2 c166_2, .slice p168_2 l168_2 c168_2] w168_2 fun e169_2 w169_2 =>
  ∃ b169_2 : Bool, e169_2 = .returned (.bool b169_2) ∧ Br (!b169_2)
  (R (.returned (.bool false)) w169_2)
  (InK .i64 (x9 + 1) ∧ ∃ ml12, ml12 < nl12 ∧ I12 p5_1 (x9 + 1) ml12 w169_2)))))))
  (R (.returned (.bool true)) wl12))))))
def f7_ann : Ann := { loops := [(12, [(5, .ptr), (9, .int .i64)])], cuts := [(36, [(5, .ptr), (11, .bool)])], flip := [], throws := [] }
theorem f7_eq (a0 : Int) (p1 : Option Addr) (l1 c1 : Nat) (w : World) (R : Ending → World → Prop) : vc Try.prog f7_ann (bodyOf Try.f7) (retQ Try.prog Try.f7 R) (envOf Try.f7.ntmps [.v (.int .i64 a0), .v (.slice p1 l1 c1)]) w = f7_vc a0 p1 l1 c1 w R := by kernel_rfl
theorem f7_does (a0 : Int) (p1 : Option Addr) (l1 c1 : Nat) {w : World} {R : Ending → World → Prop} (h : f7_vc a0 p1 l1 c1 w R) : Does Try.prog 7 #[.int .i64 a0, .slice p1 l1 c1] w R :=
  does_of_vc (ss := [.v (.int .i64 a0), .v (.slice p1 l1 c1)]) f7_ann mixed call7 Try.func7 rfl rfl (show 2 ≤ Try.f7.ntmps by decide) ((f7_eq a0 p1 l1 c1 w R).symm ▸ h)
/-- Of escritoire/escritoirelaw10.awake (function 8): the condition. -/
def f8_vc  (w : World) (R : Ending → World → Prop) : Prop :=
  Does Try.prog 9 #[.int .i64 10] w fun e8 w8 =>
  ∃ p8 : Option Addr, ∃ n8 : Int, e8 = .returned (.tuple #[.pointer p8, .int .i64 n8]) ∧ Br (n8 != 0)
  (R (.returned (.bool false)) w8)
  (Br p8.isNone
  (R (.returned (.bool false)) w8)
  (Does Try.prog 10 #[.pointer p8] w8 fun e19 w19 =>
  ∃ n19 : Int, ∃ n19_1 : Int, e19 = .returned (.tuple #[.int .i64 n19, .int .i64 n19_1]) ∧ Does Try.prog 10 #[.pointer p8] w19 fun e24 w24 =>
  ∃ n24 : Int, ∃ n24_1 : Int, e24 = .returned (.tuple #[.int .i64 n24, .int .i64 n24_1]) ∧ Br (n19_1 == 0)
  (Br (n24_1 == 0)
  (Br (n19 == 2)
  (Br (n24 == 3)
  (Does Try.prog 11 #[.pointer p8, .int .i64 2] w24 fun e43 w43 =>
  ∃ n43 : Int, e43 = .returned (.int .i64 n43) ∧ Br (n43 == 0)
  (Does Try.prog 13 #[.pointer p8] w43 fun e48 w48 =>
  ∃ n48 : Int, e48 = .returned (.int .i64 n48) ∧ Br (n48 == 7)
  (Does Try.prog 28 #[.pointer p8, .int .i64 3] w48 fun e53 w53 =>
  ∃ b53 : Bool, e53 = .returned (.bool b53) ∧ R (.returned (.bool b53)) w53)
  (R (.returned (.bool false)) w48))
  (R (.returned (.bool false)) w43))
  (R (.returned (.bool false)) w24))
  (R (.returned (.bool false)) w24))
  (R (.returned (.bool false)) w24))
  (R (.returned (.bool false)) w24)))
def f8_ann : Ann := { loops := [], cuts := [], flip := [], throws := [] }
theorem f8_eq  (w : World) (R : Ending → World → Prop) : vc Try.prog f8_ann (bodyOf Try.f8) (retQ Try.prog Try.f8 R) (envOf Try.f8.ntmps []) w = f8_vc  w R := by kernel_rfl
theorem f8_does  {w : World} {R : Ending → World → Prop} (h : f8_vc  w R) : Does Try.prog 8 #[] w R :=
  does_of_vc (ss := []) f8_ann mixed call8 Try.func8 rfl rfl (show 0 ≤ Try.f8.ntmps by decide) ((f8_eq  w R).symm ▸ h)
/-- Of escritoire/space.New (function 9): the condition. -/
def f9_vc (a0 : Int) (w : World) (R : Ending → World → Prop) : Prop :=
  Br (decide (a0 < 8))
  (R (.returned (.tuple #[.pointer none, .int .i64 1])) w)
  (Br (decide (a0 > 4096))
  (R (.returned (.tuple #[.pointer none, .int .i64 1])) w)
  (((0 : Int) ≤ a0 ∧ a0 ≤ a0 ∧ a0 * ((1 : Nat) : Int) ≤ 140737488355328 ∧ a0 ≤ 9223372036854775807) ∧ ∀ b12 w12, NewBlk w b12 (zerosL (.int .u8 0) (a0).toNat) 5 w12 →
  ∀ b14 w14, NewBlk w12 b14 [.slice (some ⟨b12, 0, none⟩) ((a0).toNat) ((a0).toNat)] 56 w14 →
  ∀ wd4, Drew w14 wd4 →
  ∃ (p18 : Option Addr) (l18 c18 : Nat), wd4.cell? ⟨b14, 0, none⟩ = some (.slice p18 l18 c18) ∧ ∃ (p22 : Option Addr) (l22 c22 : Nat), wd4.cell? ⟨b14, 0, none⟩ = some (.slice p22 l22 c22) ∧ ((0 : Int) ≤ 0 ∧ 0 < (l18 : Int)) ∧ ∃ b23 o23, p18 = some ⟨b23, o23, none⟩ ∧ CanStore wd4 b23 (o23 + (0 : Int).toNat) ∧ ∀ ws, Stored wd4 b23 (o23 + (0 : Int).toNat) (.int .u8 1) ws →
  ((0 : Int) ≤ 1 ∧ 1 < (l22 : Int)) ∧ ∃ b24 o24, p22 = some ⟨b24, o24, none⟩ ∧ CanStore ws b24 (o24 + (1 : Int).toNat) ∧ ∀ ws_1, Stored ws b24 (o24 + (1 : Int).toNat) (.int .u8 1) ws_1 →
  R (.returned (.tuple #[.pointer (some ⟨b14, 0, none⟩), .int .i64 0])) ws_1))
def f9_ann : Ann := { loops := [], cuts := [], flip := [], throws := [] }
theorem f9_eq (a0 : Int) (w : World) (R : Ending → World → Prop) : vc Try.prog f9_ann (bodyOf Try.f9) (retQ Try.prog Try.f9 R) (envOf Try.f9.ntmps [.v (.int .i64 a0)]) w = f9_vc a0 w R := by kernel_rfl
theorem f9_does (a0 : Int) {w : World} {R : Ending → World → Prop} (h : f9_vc a0 w R) : Does Try.prog 9 #[.int .i64 a0] w R :=
  does_of_vc (ss := [.v (.int .i64 a0)]) f9_ann mixed call9 Try.func9 rfl rfl (show 1 ≤ Try.f9.ntmps by decide) ((f9_eq a0 w R).symm ▸ h)
/-- Of (*escritoire/space.Space).Alloc (function 10): the condition. -/
def f10_vc (a0 : Option Addr) (w : World) (R : Ending → World → Prop) : Prop :=
  Does Try.prog 32 #[.pointer a0, .func (.func 33) #[] #[]] w fun e5 w5 =>
  ∃ n5 : Int, ∃ n5_1 : Int, e5 = .returned (.tuple #[.int .i64 n5, .int .i64 n5_1]) ∧ R (.returned (.tuple #[.int .i64 n5, .int .i64 n5_1])) w5
def f10_ann : Ann := { loops := [], cuts := [], flip := [], throws := [] }
theorem f10_eq (a0 : Option Addr) (w : World) (R : Ending → World → Prop) : vc Try.prog f10_ann (bodyOf Try.f10) (retQ Try.prog Try.f10 R) (envOf Try.f10.ntmps [.v (.pointer a0)]) w = f10_vc a0 w R := by kernel_rfl
theorem f10_does (a0 : Option Addr) {w : World} {R : Ending → World → Prop} (h : f10_vc a0 w R) : Does Try.prog 10 #[.pointer a0] w R :=
  does_of_vc (ss := [.v (.pointer a0)]) f10_ann mixed call10 Try.func10 rfl rfl (show 1 ≤ Try.f10.ntmps by decide) ((f10_eq a0 w R).symm ▸ h)
/-- Of (*escritoire/space.Space).Give (function 11): the condition. -/
def f11_vc (a0 : Option Addr) (a1 : Int) (w : World) (R : Ending → World → Prop) : Prop :=
  Does Try.prog 34 #[.pointer a0] w fun e7 w7 =>
  ∃ b7 : Bool, e7 = .returned (.bool b7) ∧ Br (!b7)
  (R (.returned (.int .i64 10)) w7)
  (Does Try.prog 35 #[.pointer a0, .int .i64 a1] w7 fun e12 w12 =>
  ∃ b12 : Bool, e12 = .returned (.bool b12) ∧ Br (!b12)
  (R (.returned (.int .i64 1)) w12)
  (∃ b16 o16, a0 = some ⟨b16, o16, none⟩ ∧ ∃ (p18 : Option Addr) (l18 c18 : Nat), w12.cell? ⟨b16, o16, none⟩ = some (.slice p18 l18 c18) ∧ ((0 : Int) ≤ a1 ∧ a1 < (l18 : Int)) ∧ ∃ b20 o20, p18 = some ⟨b20, o20, none⟩ ∧ ∃ n21 : Int, w12.cell? ⟨b20, o20 + (a1).toNat, none⟩ = some (.int .u8 n21) ∧ Br (n21 == 0)
  (R (.returned (.int .i64 10)) w12)
  (∃ b25 o25, a0 = some ⟨b25, o25, none⟩ ∧ ∃ (p27 : Option Addr) (l27 c27 : Nat), w12.cell? ⟨b25, o25, none⟩ = some (.slice p27 l27 c27) ∧ ((0 : Int) ≤ a1 ∧ a1 < (l27 : Int)) ∧ ∃ b29 o29, p27 = some ⟨b29, o29, none⟩ ∧ ∃ n30 : Int, w12.cell? ⟨b29, o29 + (a1).toNat, none⟩ = some (.int .u8 n30) ∧ Br (n30 == 3)
  (R (.returned (.int .i64 10)) w12)
  (∀ wd7, Drew w12 wd7 →
  ∃ b34 o34, a0 = some ⟨b34, o34, none⟩ ∧ ∃ (p36 : Option Addr) (l36 c36 : Nat), wd7.cell? ⟨b34, o34, none⟩ = some (.slice p36 l36 c36) ∧ ∃ b40 o40, a0 = some ⟨b40, o40, none⟩ ∧ ∃ (p42 : Option Addr) (l42 c42 : Nat), wd7.cell? ⟨b40, o40, none⟩ = some (.slice p42 l42 c42) ∧ ((0 : Int) ≤ a1 ∧ a1 < (l42 : Int)) ∧ ∃ b44 o44, p42 = some ⟨b44, o44, none⟩ ∧ ∃ n45 : Int, wd7.cell? ⟨b44, o44 + (a1).toNat, none⟩ = some (.int .u8 n45) ∧ ((0 : Int) ≤ n45 ∧ n45 < ((3 : Nat) : Int)) ∧ (n45 = ((0 : Nat) : Int) → ((0 : Int) ≤ a1 ∧ a1 < (l36 : Int)) ∧ ∃ b47 o47, p36 = some ⟨b47, o47, none⟩ ∧ CanStore wd7 b47 (o47 + (a1).toNat) ∧ ∀ ws, Stored wd7 b47 (o47 + (a1).toNat) (.int .u8 0) ws →
  R (.returned (.int .i64 0)) ws) ∧ (n45 = ((1 : Nat) : Int) → ((0 : Int) ≤ a1 ∧ a1 < (l36 : Int)) ∧ ∃ b47_1 o47_1, p36 = some ⟨b47_1, o47_1, none⟩ ∧ CanStore wd7 b47_1 (o47_1 + (a1).toNat) ∧ ∀ ws_1, Stored wd7 b47_1 (o47_1 + (a1).toNat) (.int .u8 3) ws_1 →
  R (.returned (.int .i64 0)) ws_1) ∧ (n45 = ((2 : Nat) : Int) → ((0 : Int) ≤ a1 ∧ a1 < (l36 : Int)) ∧ ∃ b47_2 o47_2, p36 = some ⟨b47_2, o47_2, none⟩ ∧ CanStore wd7 b47_2 (o47_2 + (a1).toNat) ∧ ∀ ws_2, Stored wd7 b47_2 (o47_2 + (a1).toNat) (.int .u8 0) ws_2 →
  R (.returned (.int .i64 0)) ws_2) ∧ True))))
def f11_ann : Ann := { loops := [], cuts := [], flip := [], throws := [] }
theorem f11_eq (a0 : Option Addr) (a1 : Int) (w : World) (R : Ending → World → Prop) : vc Try.prog f11_ann (bodyOf Try.f11) (retQ Try.prog Try.f11 R) (envOf Try.f11.ntmps [.v (.pointer a0), .v (.int .i64 a1)]) w = f11_vc a0 a1 w R := by kernel_rfl
theorem f11_does (a0 : Option Addr) (a1 : Int) {w : World} {R : Ending → World → Prop} (h : f11_vc a0 a1 w R) : Does Try.prog 11 #[.pointer a0, .int .i64 a1] w R :=
  does_of_vc (ss := [.v (.pointer a0), .v (.int .i64 a1)]) f11_ann mixed call11 Try.func11 rfl rfl (show 2 ≤ Try.f11.ntmps by decide) ((f11_eq a0 a1 w R).symm ▸ h)
/-- Of (*escritoire/space.Space).Commit (function 12): the condition. -/
def f12_vc (a0 : Option Addr) (w : World) (R : Ending → World → Prop) : Prop :=
  Does Try.prog 36 #[.pointer a0, .func (.func 37) #[.pointer a0] #[], .func (.func 38) #[.pointer a0] #[]] w fun e7 w7 =>
  e7 = .returned (.tuple #[]) ∧ R (.returned (.tuple #[])) w7
def f12_ann : Ann := { loops := [], cuts := [], flip := [], throws := [] }
theorem f12_eq (a0 : Option Addr) (w : World) (R : Ending → World → Prop) : vc Try.prog f12_ann (bodyOf Try.f12) (retQ Try.prog Try.f12 R) (envOf Try.f12.ntmps [.v (.pointer a0)]) w = f12_vc a0 w R := by kernel_rfl
theorem f12_does (a0 : Option Addr) {w : World} {R : Ending → World → Prop} (h : f12_vc a0 w R) : Does Try.prog 12 #[.pointer a0] w R :=
  does_of_vc (ss := [.v (.pointer a0)]) f12_ann mixed call12 Try.func12 rfl rfl (show 1 ≤ Try.f12.ntmps by decide) ((f12_eq a0 w R).symm ▸ h)
/-- Of (*escritoire/space.Space).Free (function 13): the condition. -/
def f13_vc (a0 : Option Addr) (w : World) (R : Ending → World → Prop) : Prop :=
  Does Try.prog 34 #[.pointer a0] w fun e7 w7 =>
  ∃ b7 : Bool, e7 = .returned (.bool b7) ∧ Br (!b7)
  (R (.returned (.int .i64 0)) w7)
  (∃ b10 o10, a0 = some ⟨b10, o10, none⟩ ∧ ∃ (p12 : Option Addr) (l12 c12 : Nat), w7.cell? ⟨b10, o10, none⟩ = some (.slice p12 l12 c12) ∧ ∃ I5 : Int → Int → Nat → World → Prop, (∃ nl5, I5 0 0 nl5 w7) ∧ ∀ x3 : Int, ∀ x14 : Int, ∀ (nl5 : Nat) (wl5 : World), I5 x3 x14 nl5 wl5 →
  Br (decide (x14 < ((l12 : Int))))
  (((0 : Int) ≤ x14 ∧ x14 < (l12 : Int)) ∧ ∃ b16 o16, p12 = some ⟨b16, o16, none⟩ ∧ ∃ n17 : Int, wl5.cell? ⟨b16, o16 + (x14).toNat, none⟩ = some (.int .u8 n17) ∧ Br (n17 == 0)
  (InK .i64 (x3 + 1) ∧ InK .i64 (x14 + 1) ∧ ∃ ml5, ml5 < nl5 ∧ I5 (x3 + 1) (x14 + 1) ml5 wl5)
  (InK .i64 (x14 + 1) ∧ ∃ ml5, ml5 < nl5 ∧ I5 x3 (x14 + 1) ml5 wl5))
  (R (.returned (.int .i64 x3)) wl5))
def f13_ann : Ann := { loops := [(5, [(3, .int .i64), (14, .int .i64)])], cuts := [], flip := [], throws := [] }
theorem f13_eq (a0 : Option Addr) (w : World) (R : Ending → World → Prop) : vc Try.prog f13_ann (bodyOf Try.f13) (retQ Try.prog Try.f13 R) (envOf Try.f13.ntmps [.v (.pointer a0)]) w = f13_vc a0 w R := by kernel_rfl
theorem f13_does (a0 : Option Addr) {w : World} {R : Ending → World → Prop} (h : f13_vc a0 w R) : Does Try.prog 13 #[.pointer a0] w R :=
  does_of_vc (ss := [.v (.pointer a0)]) f13_ann mixed call13 Try.func13 rfl rfl (show 1 ≤ Try.f13.ntmps by decide) ((f13_eq a0 w R).symm ▸ h)
/-- Of (*escritoire/space.Space).Bits (function 14): the condition. -/
def f14_vc (a0 : Option Addr) (w : World) (R : Ending → World → Prop) : Prop :=
  Does Try.prog 34 #[.pointer a0] w fun e7 w7 =>
  ∃ b7 : Bool, e7 = .returned (.bool b7) ∧ Br (!b7)
  (R (.returned (.slice none 0 0)) w7)
  (∃ b10 o10, a0 = some ⟨b10, o10, none⟩ ∧ ∃ (p12 : Option Addr) (l12 c12 : Nat), w7.cell? ⟨b10, o10, none⟩ = some (.slice p12 l12 c12) ∧ InK .i64 (((l12 : Int)) + 7) ∧ (8 : Int) ≠ 0 ∧ InK .i64 ((((l12 : Int)) + 7).tdiv 8) ∧ ((0 : Int) ≤ ((((l12 : Int)) + 7).tdiv 8) ∧ ((((l12 : Int)) + 7).tdiv 8) ≤ ((((l12 : Int)) + 7).tdiv 8) ∧ ((((l12 : Int)) + 7).tdiv 8) * ((1 : Nat) : Int) ≤ 140737488355328 ∧ ((((l12 : Int)) + 7).tdiv 8) ≤ 9223372036854775807) ∧ ∀ b16 w16, NewBlk w7 b16 (zerosL (.int .u8 0) ((((l12 : Int)) + 7).tdiv 8).toNat) 5 w16 →
  ∃ b18 o18, a0 = some ⟨b18, o18, none⟩ ∧ ∃ (p20 : Option Addr) (l20 c20 : Nat), w16.cell? ⟨b18, o18, none⟩ = some (.slice p20 l20 c20) ∧ ∃ I5 : Int → Nat → World → Prop, (∃ nl5, I5 0 nl5 w16) ∧ ∀ x22 : Int, ∀ (nl5 : Nat) (wl5 : World), I5 x22 nl5 wl5 →
  Br (decide (x22 < ((l20 : Int))))
  (((0 : Int) ≤ x22 ∧ x22 < (l20 : Int)) ∧ ∃ b25 o25, p20 = some ⟨b25, o25, none⟩ ∧ ∃ n26 : Int, wl5.cell? ⟨b25, o25 + (x22).toNat, none⟩ = some (.int .u8 n26) ∧ Br (n26 == 1)
  (∀ wd8, Drew wl5 wd8 →
  (8 : Int) ≠ 0 ∧ InK .i64 (x22.tdiv 8) ∧ ((0 : Int) ≤ (x22.tdiv 8) ∧ (x22.tdiv 8) < ((((((l12 : Int)) + 7).tdiv 8).toNat : Nat) : Int)) ∧ ∃ b36 o36, (some ⟨b16, 0, none⟩ : Option Addr) = some ⟨b36, o36, none⟩ ∧ ∃ n37 : Int, wd8.cell? ⟨b36, o36 + (x22.tdiv 8).toNat, none⟩ = some (.int .u8 n37) ∧ (8 : Int) ≠ 0 ∧ (0 : Int) ≤ (x22.tmod 8) ∧ ((0 : Int) ≤ (x22.tdiv 8) ∧ (x22.tdiv 8) < ((((((l12 : Int)) + 7).tdiv 8).toNat : Nat) : Int)) ∧ ∃ b42 o42, (some ⟨b16, 0, none⟩ : Option Addr) = some ⟨b42, o42, none⟩ ∧ CanStore wd8 b42 (o42 + (x22.tdiv 8).toNat) ∧ ∀ ws, Stored wd8 b42 (o42 + (x22.tdiv 8).toNat) (.int .u8 (bits .or .u8 n37 (IntKind.wrap .u8 (1 * 2 ^ (min (x22.tmod 8).toNat 8))))) ws →
  InK .i64 (x22 + 1) ∧ ∃ ml5, ml5 < nl5 ∧ I5 (x22 + 1) ml5 ws)
  (Br (n26 == 2)
  (∀ wd8_1, Drew wl5 wd8_1 →
  (8 : Int) ≠ 0 ∧ InK .i64 (x22.tdiv 8) ∧ ((0 : Int) ≤ (x22.tdiv 8) ∧ (x22.tdiv 8) < ((((((l12 : Int)) + 7).tdiv 8).toNat : Nat) : Int)) ∧ ∃ b36_1 o36_1, (some ⟨b16, 0, none⟩ : Option Addr) = some ⟨b36_1, o36_1, none⟩ ∧ ∃ n37_1 : Int, wd8_1.cell? ⟨b36_1, o36_1 + (x22.tdiv 8).toNat, none⟩ = some (.int .u8 n37_1) ∧ (8 : Int) ≠ 0 ∧ (0 : Int) ≤ (x22.tmod 8) ∧ ((0 : Int) ≤ (x22.tdiv 8) ∧ (x22.tdiv 8) < ((((((l12 : Int)) + 7).tdiv 8).toNat : Nat) : Int)) ∧ ∃ b42_1 o42_1, (some ⟨b16, 0, none⟩ : Option Addr) = some ⟨b42_1, o42_1, none⟩ ∧ CanStore wd8_1 b42_1 (o42_1 + (x22.tdiv 8).toNat) ∧ ∀ ws_1, Stored wd8_1 b42_1 (o42_1 + (x22.tdiv 8).toNat) (.int .u8 (bits .or .u8 n37_1 (IntKind.wrap .u8 (1 * 2 ^ (min (x22.tmod 8).toNat 8))))) ws_1 →
  InK .i64 (x22 + 1) ∧ ∃ ml5, ml5 < nl5 ∧ I5 (x22 + 1) ml5 ws_1)
  (InK .i64 (x22 + 1) ∧ ∃ ml5, ml5 < nl5 ∧ I5 (x22 + 1) ml5 wl5)))
  (R (.returned (.slice (some ⟨b16, 0, none⟩) (((((l12 : Int)) + 7).tdiv 8).toNat) (((((l12 : Int)) + 7).tdiv 8).toNat))) wl5))
def f14_ann : Ann := { loops := [(5, [(22, .int .i64)])], cuts := [], flip := [], throws := [] }
theorem f14_eq (a0 : Option Addr) (w : World) (R : Ending → World → Prop) : vc Try.prog f14_ann (bodyOf Try.f14) (retQ Try.prog Try.f14 R) (envOf Try.f14.ntmps [.v (.pointer a0)]) w = f14_vc a0 w R := by kernel_rfl
theorem f14_does (a0 : Option Addr) {w : World} {R : Ending → World → Prop} (h : f14_vc a0 w R) : Does Try.prog 14 #[.pointer a0] w R :=
  does_of_vc (ss := [.v (.pointer a0)]) f14_ann mixed call14 Try.func14 rfl rfl (show 1 ≤ Try.f14.ntmps by decide) ((f14_eq a0 w R).symm ▸ h)
/-- Of (*escritoire/space.Space).Abort (function 15): the condition. -/
def f15_vc (a0 : Option Addr) (w : World) (R : Ending → World → Prop) : Prop :=
  Does Try.prog 36 #[.pointer a0, .func (.func 38) #[.pointer a0] #[], .func (.func 37) #[.pointer a0] #[]] w fun e7 w7 =>
  e7 = .returned (.tuple #[]) ∧ R (.returned (.tuple #[])) w7
def f15_ann : Ann := { loops := [], cuts := [], flip := [], throws := [] }
theorem f15_eq (a0 : Option Addr) (w : World) (R : Ending → World → Prop) : vc Try.prog f15_ann (bodyOf Try.f15) (retQ Try.prog Try.f15 R) (envOf Try.f15.ntmps [.v (.pointer a0)]) w = f15_vc a0 w R := by kernel_rfl
theorem f15_does (a0 : Option Addr) {w : World} {R : Ending → World → Prop} (h : f15_vc a0 w R) : Does Try.prog 15 #[.pointer a0] w R :=
  does_of_vc (ss := [.v (.pointer a0)]) f15_ann mixed call15 Try.func15 rfl rfl (show 1 ≤ Try.f15.ntmps by decide) ((f15_eq a0 w R).symm ▸ h)
/-- Of escritoire/escritoireref1.Same (function 16): the condition. -/
def f16_vc (p0 : Option Addr) (l0 c0 : Nat) (p1 : Option Addr) (l1 c1 : Nat) (w : World) (R : Ending → World → Prop) : Prop :=
  Br (((l0 : Int)) != ((l1 : Int)))
  (R (.returned (.bool false)) w)
  (∃ I4 : Int → Nat → World → Prop, (∃ nl4, I4 0 nl4 w) ∧ ∀ x5 : Int, ∀ (nl4 : Nat) (wl4 : World), I4 x5 nl4 wl4 →
  Br (decide (x5 < ((l0 : Int))))
  (∀ wd6, Drew wl4 wd6 →
  ((0 : Int) ≤ x5 ∧ x5 < (l0 : Int)) ∧ ∃ b19 o19, p0 = some ⟨b19, o19, none⟩ ∧ ∃ n20 : Int, wd6.cell? ⟨b19, o19 + (x5).toNat, none⟩ = some (.int .u8 n20) ∧ ((0 : Int) ≤ x5 ∧ x5 < (l1 : Int)) ∧ ∃ b23 o23, p1 = some ⟨b23, o23, none⟩ ∧ ∃ n24 : Int, wd6.cell? ⟨b23, o23 + (x5).toNat, none⟩ = some (.int .u8 n24) ∧ Br (n20 != n24)
  (R (.returned (.bool false)) wd6)
  (InK .i64 (x5 + 1) ∧ ∃ ml4, ml4 < nl4 ∧ I4 (x5 + 1) ml4 wd6))
  (R (.returned (.bool true)) wl4))
def f16_ann : Ann := { loops := [(4, [(5, .int .i64)])], cuts := [], flip := [], throws := [] }
theorem f16_eq (p0 : Option Addr) (l0 c0 : Nat) (p1 : Option Addr) (l1 c1 : Nat) (w : World) (R : Ending → World → Prop) : vc Try.prog f16_ann (bodyOf Try.f16) (retQ Try.prog Try.f16 R) (envOf Try.f16.ntmps [.v (.slice p0 l0 c0), .v (.slice p1 l1 c1)]) w = f16_vc p0 l0 c0 p1 l1 c1 w R := by kernel_rfl
theorem f16_does (p0 : Option Addr) (l0 c0 : Nat) (p1 : Option Addr) (l1 c1 : Nat) {w : World} {R : Ending → World → Prop} (h : f16_vc p0 l0 c0 p1 l1 c1 w R) : Does Try.prog 16 #[.slice p0 l0 c0, .slice p1 l1 c1] w R :=
  does_of_vc (ss := [.v (.slice p0 l0 c0), .v (.slice p1 l1 c1)]) f16_ann mixed call16 Try.func16 rfl rfl (show 2 ≤ Try.f16.ntmps by decide) ((f16_eq p0 l0 c0 p1 l1 c1 w R).symm ▸ h)
/-- Of escritoire/space.Load (function 17): the condition. -/
def f17_vc (a0 : Int) (p1 : Option Addr) (l1 c1 : Nat) (w : World) (R : Ending → World → Prop) : Prop :=
  Does Try.prog 9 #[.int .i64 a0] w fun e11 w11 =>
  ∃ p11 : Option Addr, ∃ n11 : Int, e11 = .returned (.tuple #[.pointer p11, .int .i64 n11]) ∧ Br (n11 != 0)
  (R (.returned (.tuple #[.pointer none, .int .i64 n11])) w11)
  (InK .i64 (a0 + 7) ∧ (8 : Int) ≠ 0 ∧ InK .i64 ((a0 + 7).tdiv 8) ∧ Br (((l1 : Int)) != ((a0 + 7).tdiv 8))
  (R (.returned (.tuple #[.pointer none, .int .i64 4])) w11)
  (Does Try.prog 39 #[.slice p1 l1 c1, .int .i64 0] w11 fun e25 w25 =>
  ∃ b25 : Bool, e25 = .returned (.bool b25) ∧ Br (!b25)
  (R (.returned (.tuple #[.pointer none, .int .i64 4])) w25)
  (Does Try.prog 39 #[.slice p1 l1 c1, .int .i64 1] w25 fun e30 w30 =>
  ∃ b30 : Bool, e30 = .returned (.bool b30) ∧ Br (!b30)
  (R (.returned (.tuple #[.pointer none, .int .i64 4])) w30)
  (InK .i64 (8 * ((l1 : Int))) ∧ ∃ I7 : Int → Nat → World → Prop, (∃ nl7, I7 0 nl7 w30) ∧ ∀ x36 : Int, ∀ (nl7 : Nat) (wl7 : World), I7 x36 nl7 wl7 →
  Br (decide (x36 < (8 * ((l1 : Int)))))
  (Does Try.prog 39 #[.slice p1 l1 c1, .int .i64 x36] wl7 fun e48 w48 =>
  ∃ b48 : Bool, e48 = .returned (.bool b48) ∧ Br (!b48)
  (InK .i64 (x36 + 1) ∧ ∃ ml7, ml7 < nl7 ∧ I7 (x36 + 1) ml7 w48)
  (Br (decide (x36 ≥ a0))
  (R (.returned (.tuple #[.pointer none, .int .i64 4])) w48)
  (∃ b40 o40, p11 = some ⟨b40, o40, none⟩ ∧ ∃ (p42 : Option Addr) (l42 c42 : Nat), w48.cell? ⟨b40, o40, none⟩ = some (.slice p42 l42 c42) ∧ ((0 : Int) ≤ x36 ∧ x36 < (l42 : Int)) ∧ ∃ b44 o44, p42 = some ⟨b44, o44, none⟩ ∧ CanStore w48 b44 (o44 + (x36).toNat) ∧ ∀ ws, Stored w48 b44 (o44 + (x36).toNat) (.int .u8 1) ws →
  InK .i64 (x36 + 1) ∧ ∃ ml7, ml7 < nl7 ∧ I7 (x36 + 1) ml7 ws)))
  (R (.returned (.tuple #[.pointer p11, .int .i64 0])) wl7)))))
def f17_ann : Ann := { loops := [(7, [(36, .int .i64)])], cuts := [], flip := [], throws := [] }
theorem f17_eq (a0 : Int) (p1 : Option Addr) (l1 c1 : Nat) (w : World) (R : Ending → World → Prop) : vc Try.prog f17_ann (bodyOf Try.f17) (retQ Try.prog Try.f17 R) (envOf Try.f17.ntmps [.v (.int .i64 a0), .v (.slice p1 l1 c1)]) w = f17_vc a0 p1 l1 c1 w R := by kernel_rfl
theorem f17_does (a0 : Int) (p1 : Option Addr) (l1 c1 : Nat) {w : World} {R : Ending → World → Prop} (h : f17_vc a0 p1 l1 c1 w R) : Does Try.prog 17 #[.int .i64 a0, .slice p1 l1 c1] w R :=
  does_of_vc (ss := [.v (.int .i64 a0), .v (.slice p1 l1 c1)]) f17_ann mixed call17 Try.func17 rfl rfl (show 2 ≤ Try.f17.ntmps by decide) ((f17_eq a0 p1 l1 c1 w R).symm ▸ h)
/-- Of escritoire/escritoireref5.LoadSpace (function 18): the condition. -/
def f18_vc (a0 : Int) (p1 : Option Addr) (l1 c1 : Nat) (w : World) (R : Ending → World → Prop) : Prop :=
  Does Try.prog 19 #[.int .i64 a0] w fun e12 w12 =>
  ∃ p12 : Option Addr, ∃ n12 : Int, e12 = .returned (.tuple #[.pointer p12, .int .i64 n12]) ∧ Br (n12 != 0)
  (R (.returned (.tuple #[.pointer none, .int .i64 n12])) w12)
  (InK .i64 (a0 + 7) ∧ (8 : Int) ≠ 0 ∧ InK .i64 ((a0 + 7).tdiv 8) ∧ Br (((l1 : Int)) != ((a0 + 7).tdiv 8))
  (R (.returned (.tuple #[.pointer none, .int .i64 4])) w12)
  (∃ I7 : Int → Nat → World → Prop, (∃ nl7, I7 0 nl7 w12) ∧ ∀ x8 : Int, ∀ (nl7 : Nat) (wl7 : World), I7 x8 nl7 wl7 →
  InK .i64 (((l1 : Int)) * 8) ∧ Br (decide (x8 < (((l1 : Int)) * 8)))
  ((8 : Int) ≠ 0 ∧ InK .i64 (x8.tdiv 8) ∧ ((0 : Int) ≤ (x8.tdiv 8) ∧ (x8.tdiv 8) < (l1 : Int)) ∧ ∃ b34 o34, p1 = some ⟨b34, o34, none⟩ ∧ ∃ n35 : Int, wl7.cell? ⟨b34, o34 + (x8.tdiv 8).toNat, none⟩ = some (.int .u8 n35) ∧ (8 : Int) ≠ 0 ∧ (0 : Int) ≤ (IntKind.wrap .u64 (x8.tmod 8)) ∧ Br (decide (x8 < 2))
  (Br (!((bits .and .u8 (n35.fdiv (2 ^ (min (IntKind.wrap .u64 (x8.tmod 8)).toNat 8))) 1) == 1))
  (R (.returned (.tuple #[.pointer none, .int .i64 4])) wl7)
  (Br (decide (x8 ≥ a0))
  (Br ((bits .and .u8 (n35.fdiv (2 ^ (min (IntKind.wrap .u64 (x8.tmod 8)).toNat 8))) 1) == 1)
  (R (.returned (.tuple #[.pointer none, .int .i64 4])) wl7)
  (Br ((bits .and .u8 (n35.fdiv (2 ^ (min (IntKind.wrap .u64 (x8.tmod 8)).toNat 8))) 1) == 1)
  (∃ b58 o58, p12 = some ⟨b58, o58, none⟩ ∧ ∃ (p60 : Option Addr) (l60 c60 : Nat), wl7.cell? ⟨b58, o58, none⟩ = some (.slice p60 l60 c60) ∧ ((0 : Int) ≤ x8 ∧ x8 < (l60 : Int)) ∧ ∃ b62 o62, p60 = some ⟨b62, o62, none⟩ ∧ CanStore wl7 b62 (o62 + (x8).toNat) ∧ ∀ ws, Stored wl7 b62 (o62 + (x8).toNat) (.int .i64 1) ws →
  InK .i64 (x8 + 1) ∧ ∃ ml7, ml7 < nl7 ∧ I7 (x8 + 1) ml7 ws)
  (InK .i64 (x8 + 1) ∧ ∃ ml7, ml7 < nl7 ∧ I7 (x8 + 1) ml7 wl7)))
  (Br ((bits .and .u8 (n35.fdiv (2 ^ (min (IntKind.wrap .u64 (x8.tmod 8)).toNat 8))) 1) == 1)
  (∃ b58_1 o58_1, p12 = some ⟨b58_1, o58_1, none⟩ ∧ ∃ (p60_1 : Option Addr) (l60_1 c60_1 : Nat), wl7.cell? ⟨b58_1, o58_1, none⟩ = some (.slice p60_1 l60_1 c60_1) ∧ ((0 : Int) ≤ x8 ∧ x8 < (l60_1 : Int)) ∧ ∃ b62_1 o62_1, p60_1 = some ⟨b62_1, o62_1, none⟩ ∧ CanStore wl7 b62_1 (o62_1 + (x8).toNat) ∧ ∀ ws_1, Stored wl7 b62_1 (o62_1 + (x8).toNat) (.int .i64 1) ws_1 →
  InK .i64 (x8 + 1) ∧ ∃ ml7, ml7 < nl7 ∧ I7 (x8 + 1) ml7 ws_1)
  (InK .i64 (x8 + 1) ∧ ∃ ml7, ml7 < nl7 ∧ I7 (x8 + 1) ml7 wl7))))
  (Br (decide (x8 ≥ a0))
  (Br ((bits .and .u8 (n35.fdiv (2 ^ (min (IntKind.wrap .u64 (x8.tmod 8)).toNat 8))) 1) == 1)
  (R (.returned (.tuple #[.pointer none, .int .i64 4])) wl7)
  (Br ((bits .and .u8 (n35.fdiv (2 ^ (min (IntKind.wrap .u64 (x8.tmod 8)).toNat 8))) 1) == 1)
  (∃ b58_2 o58_2, p12 = some ⟨b58_2, o58_2, none⟩ ∧ ∃ (p60_2 : Option Addr) (l60_2 c60_2 : Nat), wl7.cell? ⟨b58_2, o58_2, none⟩ = some (.slice p60_2 l60_2 c60_2) ∧ ((0 : Int) ≤ x8 ∧ x8 < (l60_2 : Int)) ∧ ∃ b62_2 o62_2, p60_2 = some ⟨b62_2, o62_2, none⟩ ∧ CanStore wl7 b62_2 (o62_2 + (x8).toNat) ∧ ∀ ws_2, Stored wl7 b62_2 (o62_2 + (x8).toNat) (.int .i64 1) ws_2 →
  InK .i64 (x8 + 1) ∧ ∃ ml7, ml7 < nl7 ∧ I7 (x8 + 1) ml7 ws_2)
  (InK .i64 (x8 + 1) ∧ ∃ ml7, ml7 < nl7 ∧ I7 (x8 + 1) ml7 wl7)))
  (Br ((bits .and .u8 (n35.fdiv (2 ^ (min (IntKind.wrap .u64 (x8.tmod 8)).toNat 8))) 1) == 1)
  (∃ b58_3 o58_3, p12 = some ⟨b58_3, o58_3, none⟩ ∧ ∃ (p60_3 : Option Addr) (l60_3 c60_3 : Nat), wl7.cell? ⟨b58_3, o58_3, none⟩ = some (.slice p60_3 l60_3 c60_3) ∧ ((0 : Int) ≤ x8 ∧ x8 < (l60_3 : Int)) ∧ ∃ b62_3 o62_3, p60_3 = some ⟨b62_3, o62_3, none⟩ ∧ CanStore wl7 b62_3 (o62_3 + (x8).toNat) ∧ ∀ ws_3, Stored wl7 b62_3 (o62_3 + (x8).toNat) (.int .i64 1) ws_3 →
  InK .i64 (x8 + 1) ∧ ∃ ml7, ml7 < nl7 ∧ I7 (x8 + 1) ml7 ws_3)
  (InK .i64 (x8 + 1) ∧ ∃ ml7, ml7 < nl7 ∧ I7 (x8 + 1) ml7 wl7))))
  (R (.returned (.tuple #[.pointer p12, .int .i64 0])) wl7)))
def f18_ann : Ann := { loops := [(7, [(8, .int .i64)])], cuts := [], flip := [], throws := [] }
theorem f18_eq (a0 : Int) (p1 : Option Addr) (l1 c1 : Nat) (w : World) (R : Ending → World → Prop) : vc Try.prog f18_ann (bodyOf Try.f18) (retQ Try.prog Try.f18 R) (envOf Try.f18.ntmps [.v (.int .i64 a0), .v (.slice p1 l1 c1)]) w = f18_vc a0 p1 l1 c1 w R := by kernel_rfl
theorem f18_does (a0 : Int) (p1 : Option Addr) (l1 c1 : Nat) {w : World} {R : Ending → World → Prop} (h : f18_vc a0 p1 l1 c1 w R) : Does Try.prog 18 #[.int .i64 a0, .slice p1 l1 c1] w R :=
  does_of_vc (ss := [.v (.int .i64 a0), .v (.slice p1 l1 c1)]) f18_ann mixed call18 Try.func18 rfl rfl (show 2 ≤ Try.f18.ntmps by decide) ((f18_eq a0 p1 l1 c1 w R).symm ▸ h)
/-- Of escritoire/escritoireref5.NewSpace (function 19): the condition. -/
def f19_vc (a0 : Int) (w : World) (R : Ending → World → Prop) : Prop :=
  Br (decide (a0 < 8))
  (R (.returned (.tuple #[.pointer none, .int .i64 1])) w)
  (Br (decide (a0 > 4096))
  (R (.returned (.tuple #[.pointer none, .int .i64 1])) w)
  (((0 : Int) ≤ a0 ∧ a0 ≤ a0 ∧ a0 * ((8 : Nat) : Int) ≤ 140737488355328 ∧ a0 ≤ 9223372036854775807) ∧ ∀ b12 w12, NewBlk w b12 (zerosL (.int .i64 0) (a0).toNat) 3 w12 →
  ∀ b14 w14, NewBlk w12 b14 [.slice (some ⟨b12, 0, none⟩) ((a0).toNat) ((a0).toNat)] 63 w14 →
  ∃ (p18 : Option Addr) (l18 c18 : Nat), w14.cell? ⟨b14, 0, none⟩ = some (.slice p18 l18 c18) ∧ ((0 : Int) ≤ 0 ∧ 0 < (l18 : Int)) ∧ ∃ b19 o19, p18 = some ⟨b19, o19, none⟩ ∧ CanStore w14 b19 (o19 + (0 : Int).toNat) ∧ ∀ ws, Stored w14 b19 (o19 + (0 : Int).toNat) (.int .i64 1) ws →
  ∃ (p23 : Option Addr) (l23 c23 : Nat), ws.cell? ⟨b14, 0, none⟩ = some (.slice p23 l23 c23) ∧ ((0 : Int) ≤ 1 ∧ 1 < (l23 : Int)) ∧ ∃ b24 o24, p23 = some ⟨b24, o24, none⟩ ∧ CanStore ws b24 (o24 + (1 : Int).toNat) ∧ ∀ ws_1, Stored ws b24 (o24 + (1 : Int).toNat) (.int .i64 1) ws_1 →
  R (.returned (.tuple #[.pointer (some ⟨b14, 0, none⟩), .int .i64 0])) ws_1))
def f19_ann : Ann := { loops := [], cuts := [], flip := [], throws := [] }
theorem f19_eq (a0 : Int) (w : World) (R : Ending → World → Prop) : vc Try.prog f19_ann (bodyOf Try.f19) (retQ Try.prog Try.f19 R) (envOf Try.f19.ntmps [.v (.int .i64 a0)]) w = f19_vc a0 w R := by kernel_rfl
theorem f19_does (a0 : Int) {w : World} {R : Ending → World → Prop} (h : f19_vc a0 w R) : Does Try.prog 19 #[.int .i64 a0] w R :=
  does_of_vc (ss := [.v (.int .i64 a0)]) f19_ann mixed call19 Try.func19 rfl rfl (show 1 ≤ Try.f19.ntmps by decide) ((f19_eq a0 w R).symm ▸ h)
/-- Of (*escritoire/escritoireref5.Space).Alloc (function 20): the condition. -/
def f20_vc (a0 : Option Addr) (w : World) (R : Ending → World → Prop) : Prop :=
  ∃ I2 : Int → Nat → World → Prop, (∃ nl2, I2 0 nl2 w) ∧ ∀ x4 : Int, ∀ (nl2 : Nat) (wl2 : World), I2 x4 nl2 wl2 →
  ∃ b7 o7, a0 = some ⟨b7, o7, none⟩ ∧ ∃ (p9 : Option Addr) (l9 c9 : Nat), wl2.cell? ⟨b7, o7, none⟩ = some (.slice p9 l9 c9) ∧ Br (decide (x4 < ((l9 : Int))))
  (∃ b15 o15, a0 = some ⟨b15, o15, none⟩ ∧ ∃ (p17 : Option Addr) (l17 c17 : Nat), wl2.cell? ⟨b15, o15, none⟩ = some (.slice p17 l17 c17) ∧ ((0 : Int) ≤ x4 ∧ x4 < (l17 : Int)) ∧ ∃ b19 o19, p17 = some ⟨b19, o19, none⟩ ∧ ∃ n20 : Int, wl2.cell? ⟨b19, o19 + (x4).toNat, none⟩ = some (.int .i64 n20) ∧ Br (n20 == 0)
  (∃ b23 o23, a0 = some ⟨b23, o23, none⟩ ∧ ∃ (p25 : Option Addr) (l25 c25 : Nat), wl2.cell? ⟨b23, o23, none⟩ = some (.slice p25 l25 c25) ∧ ((0 : Int) ≤ x4 ∧ x4 < (l25 : Int)) ∧ ∃ b27 o27, p25 = some ⟨b27, o27, none⟩ ∧ CanStore wl2 b27 (o27 + (x4).toNat) ∧ ∀ ws, Stored wl2 b27 (o27 + (x4).toNat) (.int .i64 2) ws →
  R (.returned (.tuple #[.int .i64 x4, .int .i64 0])) ws)
  (InK .i64 (x4 + 1) ∧ ∃ ml2, ml2 < nl2 ∧ I2 (x4 + 1) ml2 wl2))
  (R (.returned (.tuple #[.int .i64 0, .int .i64 6])) wl2)
def f20_ann : Ann := { loops := [(2, [(4, .int .i64)])], cuts := [], flip := [], throws := [] }
theorem f20_eq (a0 : Option Addr) (w : World) (R : Ending → World → Prop) : vc Try.prog f20_ann (bodyOf Try.f20) (retQ Try.prog Try.f20 R) (envOf Try.f20.ntmps [.v (.pointer a0)]) w = f20_vc a0 w R := by kernel_rfl
theorem f20_does (a0 : Option Addr) {w : World} {R : Ending → World → Prop} (h : f20_vc a0 w R) : Does Try.prog 20 #[.pointer a0] w R :=
  does_of_vc (ss := [.v (.pointer a0)]) f20_ann mixed call20 Try.func20 rfl rfl (show 1 ≤ Try.f20.ntmps by decide) ((f20_eq a0 w R).symm ▸ h)
/-- Of (*escritoire/escritoireref5.Space).Give (function 21): the condition. -/
def f21_vc (a0 : Option Addr) (a1 : Int) (w : World) (R : Ending → World → Prop) : Prop :=
  Br (decide (a1 < 2))
  (R (.returned (.int .i64 1)) w)
  (∃ b10 o10, a0 = some ⟨b10, o10, none⟩ ∧ ∃ (p12 : Option Addr) (l12 c12 : Nat), w.cell? ⟨b10, o10, none⟩ = some (.slice p12 l12 c12) ∧ Br (decide (a1 ≥ ((l12 : Int))))
  (R (.returned (.int .i64 1)) w)
  (∃ b17 o17, a0 = some ⟨b17, o17, none⟩ ∧ ∃ (p19 : Option Addr) (l19 c19 : Nat), w.cell? ⟨b17, o17, none⟩ = some (.slice p19 l19 c19) ∧ ((0 : Int) ≤ a1 ∧ a1 < (l19 : Int)) ∧ ∃ b21 o21, p19 = some ⟨b21, o21, none⟩ ∧ ∃ n22 : Int, w.cell? ⟨b21, o21 + (a1).toNat, none⟩ = some (.int .i64 n22) ∧ Br (n22 == 2)
  (∃ b26 o26, a0 = some ⟨b26, o26, none⟩ ∧ ∃ (p28 : Option Addr) (l28 c28 : Nat), w.cell? ⟨b26, o26, none⟩ = some (.slice p28 l28 c28) ∧ ((0 : Int) ≤ a1 ∧ a1 < (l28 : Int)) ∧ ∃ b30 o30, p28 = some ⟨b30, o30, none⟩ ∧ CanStore w b30 (o30 + (a1).toNat) ∧ ∀ ws, Stored w b30 (o30 + (a1).toNat) (.int .i64 0) ws →
  R (.returned (.int .i64 0)) ws)
  (Br (n22 == 1)
  (∃ b34 o34, a0 = some ⟨b34, o34, none⟩ ∧ ∃ (p36 : Option Addr) (l36 c36 : Nat), w.cell? ⟨b34, o34, none⟩ = some (.slice p36 l36 c36) ∧ ((0 : Int) ≤ a1 ∧ a1 < (l36 : Int)) ∧ ∃ b38 o38, p36 = some ⟨b38, o38, none⟩ ∧ CanStore w b38 (o38 + (a1).toNat) ∧ ∀ ws_1, Stored w b38 (o38 + (a1).toNat) (.int .i64 3) ws_1 →
  R (.returned (.int .i64 0)) ws_1)
  (R (.returned (.int .i64 10)) w))))
def f21_ann : Ann := { loops := [], cuts := [], flip := [], throws := [] }
theorem f21_eq (a0 : Option Addr) (a1 : Int) (w : World) (R : Ending → World → Prop) : vc Try.prog f21_ann (bodyOf Try.f21) (retQ Try.prog Try.f21 R) (envOf Try.f21.ntmps [.v (.pointer a0), .v (.int .i64 a1)]) w = f21_vc a0 a1 w R := by kernel_rfl
theorem f21_does (a0 : Option Addr) (a1 : Int) {w : World} {R : Ending → World → Prop} (h : f21_vc a0 a1 w R) : Does Try.prog 21 #[.pointer a0, .int .i64 a1] w R :=
  does_of_vc (ss := [.v (.pointer a0), .v (.int .i64 a1)]) f21_ann mixed call21 Try.func21 rfl rfl (show 2 ≤ Try.f21.ntmps by decide) ((f21_eq a0 a1 w R).symm ▸ h)
/-- Of (*escritoire/escritoireref5.Space).Commit (function 22): the condition. -/
def f22_vc (a0 : Option Addr) (w : World) (R : Ending → World → Prop) : Prop :=
  Does Try.prog 40 #[.pointer a0, .int .i64 1, .int .i64 0] w fun e3 w3 =>
  e3 = .returned (.tuple #[]) ∧ R (.returned (.tuple #[])) w3
def f22_ann : Ann := { loops := [], cuts := [], flip := [], throws := [] }
theorem f22_eq (a0 : Option Addr) (w : World) (R : Ending → World → Prop) : vc Try.prog f22_ann (bodyOf Try.f22) (retQ Try.prog Try.f22 R) (envOf Try.f22.ntmps [.v (.pointer a0)]) w = f22_vc a0 w R := by kernel_rfl
theorem f22_does (a0 : Option Addr) {w : World} {R : Ending → World → Prop} (h : f22_vc a0 w R) : Does Try.prog 22 #[.pointer a0] w R :=
  does_of_vc (ss := [.v (.pointer a0)]) f22_ann mixed call22 Try.func22 rfl rfl (show 1 ≤ Try.f22.ntmps by decide) ((f22_eq a0 w R).symm ▸ h)
/-- Of (*escritoire/space.Space).Doubt (function 23): the condition. -/
def f23_vc (a0 : Option Addr) (w : World) (R : Ending → World → Prop) : Prop :=
  Does Try.prog 36 #[.pointer a0, .func (.func 37) #[.pointer a0] #[], .func (.func 41) #[.pointer a0] #[]] w fun e7 w7 =>
  e7 = .returned (.tuple #[]) ∧ R (.returned (.tuple #[])) w7
def f23_ann : Ann := { loops := [], cuts := [], flip := [], throws := [] }
theorem f23_eq (a0 : Option Addr) (w : World) (R : Ending → World → Prop) : vc Try.prog f23_ann (bodyOf Try.f23) (retQ Try.prog Try.f23 R) (envOf Try.f23.ntmps [.v (.pointer a0)]) w = f23_vc a0 w R := by kernel_rfl
theorem f23_does (a0 : Option Addr) {w : World} {R : Ending → World → Prop} (h : f23_vc a0 w R) : Does Try.prog 23 #[.pointer a0] w R :=
  does_of_vc (ss := [.v (.pointer a0)]) f23_ann mixed call23 Try.func23 rfl rfl (show 1 ≤ Try.f23.ntmps by decide) ((f23_eq a0 w R).symm ▸ h)
/-- Of (*escritoire/escritoireref5.Space).Doubt (function 24): the condition. -/
def f24_vc (a0 : Option Addr) (w : World) (R : Ending → World → Prop) : Prop :=
  Does Try.prog 40 #[.pointer a0, .int .i64 1, .int .i64 3] w fun e3 w3 =>
  e3 = .returned (.tuple #[]) ∧ R (.returned (.tuple #[])) w3
def f24_ann : Ann := { loops := [], cuts := [], flip := [], throws := [] }
theorem f24_eq (a0 : Option Addr) (w : World) (R : Ending → World → Prop) : vc Try.prog f24_ann (bodyOf Try.f24) (retQ Try.prog Try.f24 R) (envOf Try.f24.ntmps [.v (.pointer a0)]) w = f24_vc a0 w R := by kernel_rfl
theorem f24_does (a0 : Option Addr) {w : World} {R : Ending → World → Prop} (h : f24_vc a0 w R) : Does Try.prog 24 #[.pointer a0] w R :=
  does_of_vc (ss := [.v (.pointer a0)]) f24_ann mixed call24 Try.func24 rfl rfl (show 1 ≤ Try.f24.ntmps by decide) ((f24_eq a0 w R).symm ▸ h)
/-- Of (*escritoire/escritoireref5.Space).Abort (function 25): the condition. -/
def f25_vc (a0 : Option Addr) (w : World) (R : Ending → World → Prop) : Prop :=
  Does Try.prog 40 #[.pointer a0, .int .i64 0, .int .i64 1] w fun e3 w3 =>
  e3 = .returned (.tuple #[]) ∧ R (.returned (.tuple #[])) w3
def f25_ann : Ann := { loops := [], cuts := [], flip := [], throws := [] }
theorem f25_eq (a0 : Option Addr) (w : World) (R : Ending → World → Prop) : vc Try.prog f25_ann (bodyOf Try.f25) (retQ Try.prog Try.f25 R) (envOf Try.f25.ntmps [.v (.pointer a0)]) w = f25_vc a0 w R := by kernel_rfl
theorem f25_does (a0 : Option Addr) {w : World} {R : Ending → World → Prop} (h : f25_vc a0 w R) : Does Try.prog 25 #[.pointer a0] w R :=
  does_of_vc (ss := [.v (.pointer a0)]) f25_ann mixed call25 Try.func25 rfl rfl (show 1 ≤ Try.f25.ntmps by decide) ((f25_eq a0 w R).symm ▸ h)
/-- Of (*escritoire/space.Space).Clone (function 26): the condition. -/
def f26_vc (a0 : Option Addr) (w : World) (R : Ending → World → Prop) : Prop :=
  Does Try.prog 34 #[.pointer a0] w fun e4 w4 =>
  ∃ b4 : Bool, e4 = .returned (.bool b4) ∧ Br (!b4)
  (R (.returned (.pointer none)) w4)
  (∃ b7 o7, a0 = some ⟨b7, o7, none⟩ ∧ ∃ (p9 : Option Addr) (l9 c9 : Nat), w4.cell? ⟨b7, o7, none⟩ = some (.slice p9 l9 c9) ∧ ∃ (p10 : Option Addr) (l10 c10 : Nat) (w10 : World), (Builtin.append_ #[37, 37] 37 #[.slice none 0 0, .slice p9 l9 c9]).run Try.prog w4 = .ok (.slice p10 l10 c10) w10 ∧
  ∀ b12 w12, NewBlk w10 b12 [.slice p10 l10 c10] 56 w12 →
  R (.returned (.pointer (some ⟨b12, 0, none⟩))) w12)
def f26_ann : Ann := { loops := [], cuts := [], flip := [], throws := [] }
theorem f26_eq (a0 : Option Addr) (w : World) (R : Ending → World → Prop) : vc Try.prog f26_ann (bodyOf Try.f26) (retQ Try.prog Try.f26 R) (envOf Try.f26.ntmps [.v (.pointer a0)]) w = f26_vc a0 w R := by kernel_rfl
theorem f26_does (a0 : Option Addr) {w : World} {R : Ending → World → Prop} (h : f26_vc a0 w R) : Does Try.prog 26 #[.pointer a0] w R :=
  does_of_vc (ss := [.v (.pointer a0)]) f26_ann mixed call26 Try.func26 rfl rfl (show 1 ≤ Try.f26.ntmps by decide) ((f26_eq a0 w R).symm ▸ h)
/-- Of (*escritoire/escritoireref5.Space).Count (function 27): the condition. -/
def f27_vc (a0 : Option Addr) (a1 : Int) (w : World) (R : Ending → World → Prop) : Prop :=
  ∃ I3 : Int → Int → Nat → World → Prop, (∃ nl3, I3 0 0 nl3 w) ∧ ∀ x5 : Int, ∀ x6 : Int, ∀ (nl3 : Nat) (wl3 : World), I3 x5 x6 nl3 wl3 →
  ∃ b9 o9, a0 = some ⟨b9, o9, none⟩ ∧ ∃ (p11 : Option Addr) (l11 c11 : Nat), wl3.cell? ⟨b9, o9, none⟩ = some (.slice p11 l11 c11) ∧ Br (decide (x6 < ((l11 : Int))))
  (∃ b17 o17, a0 = some ⟨b17, o17, none⟩ ∧ ∃ (p19 : Option Addr) (l19 c19 : Nat), wl3.cell? ⟨b17, o17, none⟩ = some (.slice p19 l19 c19) ∧ ((0 : Int) ≤ x6 ∧ x6 < (l19 : Int)) ∧ ∃ b21 o21, p19 = some ⟨b21, o21, none⟩ ∧ ∃ n22 : Int, wl3.cell? ⟨b21, o21 + (x6).toNat, none⟩ = some (.int .i64 n22) ∧ Br (n22 == a1)
  (InK .i64 (x5 + 1) ∧ InK .i64 (x6 + 1) ∧ ∃ ml3, ml3 < nl3 ∧ I3 (x5 + 1) (x6 + 1) ml3 wl3)
  (InK .i64 (x6 + 1) ∧ ∃ ml3, ml3 < nl3 ∧ I3 x5 (x6 + 1) ml3 wl3))
  (R (.returned (.int .i64 x5)) wl3)
def f27_ann : Ann := { loops := [(3, [(5, .int .i64), (6, .int .i64)])], cuts := [], flip := [], throws := [] }
theorem f27_eq (a0 : Option Addr) (a1 : Int) (w : World) (R : Ending → World → Prop) : vc Try.prog f27_ann (bodyOf Try.f27) (retQ Try.prog Try.f27 R) (envOf Try.f27.ntmps [.v (.pointer a0), .v (.int .i64 a1)]) w = f27_vc a0 a1 w R := by kernel_rfl
theorem f27_does (a0 : Option Addr) (a1 : Int) {w : World} {R : Ending → World → Prop} (h : f27_vc a0 a1 w R) : Does Try.prog 27 #[.pointer a0, .int .i64 a1] w R :=
  does_of_vc (ss := [.v (.pointer a0), .v (.int .i64 a1)]) f27_ann mixed call27 Try.func27 rfl rfl (show 2 ≤ Try.f27.ntmps by decide) ((f27_eq a0 a1 w R).symm ▸ h)
/-- Of (*escritoire/space.Space).Own (function 28): the condition. -/
def f28_vc (a0 : Option Addr) (a1 : Int) (w : World) (R : Ending → World → Prop) : Prop :=
  Does Try.prog 34 #[.pointer a0] w fun e6 w6 =>
  ∃ b6 : Bool, e6 = .returned (.bool b6) ∧ Br b6
  (Br (decide (a1 ≥ 0))
  (∃ b14 o14, a0 = some ⟨b14, o14, none⟩ ∧ ∃ (p16 : Option Addr) (l16 c16 : Nat), w6.cell? ⟨b14, o14, none⟩ = some (.slice p16 l16 c16) ∧ Br (decide (a1 < ((l16 : Int))))
  (∃ b22 o22, a0 = some ⟨b22, o22, none⟩ ∧ ∃ (p24 : Option Addr) (l24 c24 : Nat), w6.cell? ⟨b22, o22, none⟩ = some (.slice p24 l24 c24) ∧ ((0 : Int) ≤ a1 ∧ a1 < (l24 : Int)) ∧ ∃ b26 o26, p24 = some ⟨b26, o26, none⟩ ∧ ∃ n27 : Int, w6.cell? ⟨b26, o26 + (a1).toNat, none⟩ = some (.int .u8 n27) ∧ R (.returned (.bool (n27 == 2))) w6)
  (R (.returned (.bool false)) w6))
  (R (.returned (.bool false)) w6))
  (R (.returned (.bool false)) w6)
def f28_ann : Ann := { loops := [], cuts := [], flip := [], throws := [] }
theorem f28_eq (a0 : Option Addr) (a1 : Int) (w : World) (R : Ending → World → Prop) : vc Try.prog f28_ann (bodyOf Try.f28) (retQ Try.prog Try.f28 R) (envOf Try.f28.ntmps [.v (.pointer a0), .v (.int .i64 a1)]) w = f28_vc a0 a1 w R := by kernel_rfl
theorem f28_does (a0 : Option Addr) (a1 : Int) {w : World} {R : Ending → World → Prop} (h : f28_vc a0 a1 w R) : Does Try.prog 28 #[.pointer a0, .int .i64 a1] w R :=
  does_of_vc (ss := [.v (.pointer a0), .v (.int .i64 a1)]) f28_ann mixed call28 Try.func28 rfl rfl (show 2 ≤ Try.f28.ntmps by decide) ((f28_eq a0 a1 w R).symm ▸ h)
/-- Of (*escritoire/escritoireref5.Space).Is (function 29): the condition. -/
def f29_vc (a0 : Option Addr) (a1 : Int) (a2 : Int) (w : World) (R : Ending → World → Prop) : Prop :=
  Br (decide (a1 ≥ 0))
  (∃ b12 o12, a0 = some ⟨b12, o12, none⟩ ∧ ∃ (p14 : Option Addr) (l14 c14 : Nat), w.cell? ⟨b12, o12, none⟩ = some (.slice p14 l14 c14) ∧ Br (decide (a1 < ((l14 : Int))))
  (∃ b20 o20, a0 = some ⟨b20, o20, none⟩ ∧ ∃ (p22 : Option Addr) (l22 c22 : Nat), w.cell? ⟨b20, o20, none⟩ = some (.slice p22 l22 c22) ∧ ((0 : Int) ≤ a1 ∧ a1 < (l22 : Int)) ∧ ∃ b24 o24, p22 = some ⟨b24, o24, none⟩ ∧ ∃ n25 : Int, w.cell? ⟨b24, o24 + (a1).toNat, none⟩ = some (.int .i64 n25) ∧ R (.returned (.bool (n25 == a2))) w)
  (R (.returned (.bool false)) w))
  (R (.returned (.bool false)) w)
def f29_ann : Ann := { loops := [], cuts := [], flip := [], throws := [] }
theorem f29_eq (a0 : Option Addr) (a1 : Int) (a2 : Int) (w : World) (R : Ending → World → Prop) : vc Try.prog f29_ann (bodyOf Try.f29) (retQ Try.prog Try.f29 R) (envOf Try.f29.ntmps [.v (.pointer a0), .v (.int .i64 a1), .v (.int .i64 a2)]) w = f29_vc a0 a1 a2 w R := by kernel_rfl
theorem f29_does (a0 : Option Addr) (a1 : Int) (a2 : Int) {w : World} {R : Ending → World → Prop} (h : f29_vc a0 a1 a2 w R) : Does Try.prog 29 #[.pointer a0, .int .i64 a1, .int .i64 a2] w R :=
  does_of_vc (ss := [.v (.pointer a0), .v (.int .i64 a1), .v (.int .i64 a2)]) f29_ann mixed call29 Try.func29 rfl rfl (show 3 ≤ Try.f29.ntmps by decide) ((f29_eq a0 a1 a2 w R).symm ▸ h)
/-- Of (*escritoire/space.Space).Used (function 30): the condition. -/
def f30_vc (a0 : Option Addr) (a1 : Int) (w : World) (R : Ending → World → Prop) : Prop :=
  Does Try.prog 34 #[.pointer a0] w fun e6 w6 =>
  ∃ b6 : Bool, e6 = .returned (.bool b6) ∧ Br b6
  (Br (decide (a1 ≥ 0))
  (∃ b14 o14, a0 = some ⟨b14, o14, none⟩ ∧ ∃ (p16 : Option Addr) (l16 c16 : Nat), w6.cell? ⟨b14, o14, none⟩ = some (.slice p16 l16 c16) ∧ Br (decide (a1 < ((l16 : Int))))
  (∃ b22 o22, a0 = some ⟨b22, o22, none⟩ ∧ ∃ (p24 : Option Addr) (l24 c24 : Nat), w6.cell? ⟨b22, o22, none⟩ = some (.slice p24 l24 c24) ∧ ((0 : Int) ≤ a1 ∧ a1 < (l24 : Int)) ∧ ∃ b26 o26, p24 = some ⟨b26, o26, none⟩ ∧ ∃ n27 : Int, w6.cell? ⟨b26, o26 + (a1).toNat, none⟩ = some (.int .u8 n27) ∧ R (.returned (.bool (n27 != 0))) w6)
  (R (.returned (.bool false)) w6))
  (R (.returned (.bool false)) w6))
  (R (.returned (.bool false)) w6)
def f30_ann : Ann := { loops := [], cuts := [], flip := [], throws := [] }
theorem f30_eq (a0 : Option Addr) (a1 : Int) (w : World) (R : Ending → World → Prop) : vc Try.prog f30_ann (bodyOf Try.f30) (retQ Try.prog Try.f30 R) (envOf Try.f30.ntmps [.v (.pointer a0), .v (.int .i64 a1)]) w = f30_vc a0 a1 w R := by kernel_rfl
theorem f30_does (a0 : Option Addr) (a1 : Int) {w : World} {R : Ending → World → Prop} (h : f30_vc a0 a1 w R) : Does Try.prog 30 #[.pointer a0, .int .i64 a1] w R :=
  does_of_vc (ss := [.v (.pointer a0), .v (.int .i64 a1)]) f30_ann mixed call30 Try.func30 rfl rfl (show 2 ≤ Try.f30.ntmps by decide) ((f30_eq a0 a1 w R).symm ▸ h)
/-- Of (*escritoire/escritoireref5.Space).Bits (function 31): the condition. -/
def f31_vc (a0 : Option Addr) (w : World) (R : Ending → World → Prop) : Prop :=
  ∃ b6 o6, a0 = some ⟨b6, o6, none⟩ ∧ ∃ (p8 : Option Addr) (l8 c8 : Nat), w.cell? ⟨b6, o6, none⟩ = some (.slice p8 l8 c8) ∧ InK .i64 (((l8 : Int)) + 7) ∧ (8 : Int) ≠ 0 ∧ InK .i64 ((((l8 : Int)) + 7).tdiv 8) ∧ ((0 : Int) ≤ ((((l8 : Int)) + 7).tdiv 8) ∧ ((((l8 : Int)) + 7).tdiv 8) ≤ ((((l8 : Int)) + 7).tdiv 8) ∧ ((((l8 : Int)) + 7).tdiv 8) * ((1 : Nat) : Int) ≤ 140737488355328 ∧ ((((l8 : Int)) + 7).tdiv 8) ≤ 9223372036854775807) ∧ ∀ b12 w12, NewBlk w b12 (zerosL (.int .u8 0) ((((l8 : Int)) + 7).tdiv 8).toNat) 5 w12 →
  ∃ I3 : Int → Nat → World → Prop, (∃ nl3, I3 0 nl3 w12) ∧ ∀ x4 : Int, ∀ (nl3 : Nat) (wl3 : World), I3 x4 nl3 wl3 →
  ∃ b15 o15, a0 = some ⟨b15, o15, none⟩ ∧ ∃ (p17 : Option Addr) (l17 c17 : Nat), wl3.cell? ⟨b15, o15, none⟩ = some (.slice p17 l17 c17) ∧ Br (decide (x4 < ((l17 : Int))))
  (∃ b23 o23, a0 = some ⟨b23, o23, none⟩ ∧ ∃ (p25 : Option Addr) (l25 c25 : Nat), wl3.cell? ⟨b23, o23, none⟩ = some (.slice p25 l25 c25) ∧ ((0 : Int) ≤ x4 ∧ x4 < (l25 : Int)) ∧ ∃ b27 o27, p25 = some ⟨b27, o27, none⟩ ∧ ∃ n28 : Int, wl3.cell? ⟨b27, o27 + (x4).toNat, none⟩ = some (.int .i64 n28) ∧ Br (n28 == 1)
  ((8 : Int) ≠ 0 ∧ InK .i64 (x4.tdiv 8) ∧ ((0 : Int) ≤ (x4.tdiv 8) ∧ (x4.tdiv 8) < ((((((l8 : Int)) + 7).tdiv 8).toNat : Nat) : Int)) ∧ ∃ b43 o43, (some ⟨b12, 0, none⟩ : Option Addr) = some ⟨b43, o43, none⟩ ∧ ∃ n44 : Int, wl3.cell? ⟨b43, o43 + (x4.tdiv 8).toNat, none⟩ = some (.int .u8 n44) ∧ (8 : Int) ≠ 0 ∧ (0 : Int) ≤ (IntKind.wrap .u64 (x4.tmod 8)) ∧ ((0 : Int) ≤ (x4.tdiv 8) ∧ (x4.tdiv 8) < ((((((l8 : Int)) + 7).tdiv 8).toNat : Nat) : Int)) ∧ ∃ b50 o50, (some ⟨b12, 0, none⟩ : Option Addr) = some ⟨b50, o50, none⟩ ∧ CanStore wl3 b50 (o50 + (x4.tdiv 8).toNat) ∧ ∀ ws, Stored wl3 b50 (o50 + (x4.tdiv 8).toNat) (.int .u8 (bits .or .u8 n44 (IntKind.wrap .u8 (1 * 2 ^ (min (IntKind.wrap .u64 (x4.tmod 8)).toNat 8))))) ws →
  InK .i64 (x4 + 1) ∧ ∃ ml3, ml3 < nl3 ∧ I3 (x4 + 1) ml3 ws)
  (∃ b32 o32, a0 = some ⟨b32, o32, none⟩ ∧ ∃ (p34 : Option Addr) (l34 c34 : Nat), wl3.cell? ⟨b32, o32, none⟩ = some (.slice p34 l34 c34) ∧ ((0 : Int) ≤ x4 ∧ x4 < (l34 : Int)) ∧ ∃ b36 o36, p34 = some ⟨b36, o36, none⟩ ∧ ∃ n37 : Int, wl3.cell? ⟨b36, o36 + (x4).toNat, none⟩ = some (.int .i64 n37) ∧ Br (n37 == 2)
  ((8 : Int) ≠ 0 ∧ InK .i64 (x4.tdiv 8) ∧ ((0 : Int) ≤ (x4.tdiv 8) ∧ (x4.tdiv 8) < ((((((l8 : Int)) + 7).tdiv 8).toNat : Nat) : Int)) ∧ ∃ b43_1 o43_1, (some ⟨b12, 0, none⟩ : Option Addr) = some ⟨b43_1, o43_1, none⟩ ∧ ∃ n44_1 : Int, wl3.cell? ⟨b43_1, o43_1 + (x4.tdiv 8).toNat, none⟩ = some (.int .u8 n44_1) ∧ (8 : Int) ≠ 0 ∧ (0 : Int) ≤ (IntKind.wrap .u64 (x4.tmod 8)) ∧ ((0 : Int) ≤ (x4.tdiv 8) ∧ (x4.tdiv 8) < ((((((l8 : Int)) + 7).tdiv 8).toNat : Nat) : Int)) ∧ ∃ b50_1 o50_1, (some ⟨b12, 0, none⟩ : Option Addr) = some ⟨b50_1, o50_1, none⟩ ∧ CanStore wl3 b50_1 (o50_1 + (x4.tdiv 8).toNat) ∧ ∀ ws_1, Stored wl3 b50_1 (o50_1 + (x4.tdiv 8).toNat) (.int .u8 (bits .or .u8 n44_1 (IntKind.wrap .u8 (1 * 2 ^ (min (IntKind.wrap .u64 (x4.tmod 8)).toNat 8))))) ws_1 →
  InK .i64 (x4 + 1) ∧ ∃ ml3, ml3 < nl3 ∧ I3 (x4 + 1) ml3 ws_1)
  (InK .i64 (x4 + 1) ∧ ∃ ml3, ml3 < nl3 ∧ I3 (x4 + 1) ml3 wl3)))
  (R (.returned (.slice (some ⟨b12, 0, none⟩) (((((l8 : Int)) + 7).tdiv 8).toNat) (((((l8 : Int)) + 7).tdiv 8).toNat))) wl3)
def f31_ann : Ann := { loops := [(3, [(4, .int .i64)])], cuts := [], flip := [], throws := [] }
theorem f31_eq (a0 : Option Addr) (w : World) (R : Ending → World → Prop) : vc Try.prog f31_ann (bodyOf Try.f31) (retQ Try.prog Try.f31 R) (envOf Try.f31.ntmps [.v (.pointer a0)]) w = f31_vc a0 w R := by kernel_rfl
theorem f31_does (a0 : Option Addr) {w : World} {R : Ending → World → Prop} (h : f31_vc a0 w R) : Does Try.prog 31 #[.pointer a0] w R :=
  does_of_vc (ss := [.v (.pointer a0)]) f31_ann mixed call31 Try.func31 rfl rfl (show 1 ≤ Try.f31.ntmps by decide) ((f31_eq a0 w R).symm ▸ h)
/-- Of (*escritoire/space.Space).Take (function 32): the condition. -/
def f32_vc (a0 : Option Addr) (g1 : FuncId) (fs1 cs1 : Array Value) (w : World) (R : Ending → World → Prop) : Prop :=
  Does Try.prog 34 #[.pointer a0] w fun e9 w9 =>
  ∃ b9 : Bool, e9 = .returned (.bool b9) ∧ Br (!b9)
  (R (.returned (.tuple #[.int .i64 0, .int .i64 10])) w9)
  (∃ b12 o12, a0 = some ⟨b12, o12, none⟩ ∧ ∃ (p14 : Option Addr) (l14 c14 : Nat), w9.cell? ⟨b12, o12, none⟩ = some (.slice p14 l14 c14) ∧ ∃ I4 : Int → Nat → World → Prop, (∃ nl4, I4 0 nl4 w9) ∧ ∀ x16 : Int, ∀ (nl4 : Nat) (wl4 : World), I4 x16 nl4 wl4 →
  Br (decide (x16 < ((l14 : Int))))
  (((0 : Int) ≤ x16 ∧ x16 < (l14 : Int)) ∧ ∃ b19 o19, p14 = some ⟨b19, o19, none⟩ ∧ ∃ n20 : Int, wl4.cell? ⟨b19, o19 + (x16).toNat, none⟩ = some (.int .u8 n20) ∧ Br (n20 == 0)
  (Does Try.prog g1 (fs1 ++ #[.int .i64 x16] ++ cs1) wl4 fun e26 w26 =>
  ∃ b26 : Bool, e26 = .returned (.bool b26) ∧ Br b26
  (∃ b29 o29, a0 = some ⟨b29, o29, none⟩ ∧ ∃ (p31 : Option Addr) (l31 c31 : Nat), w26.cell? ⟨b29, o29, none⟩ = some (.slice p31 l31 c31) ∧ ((0 : Int) ≤ x16 ∧ x16 < (l31 : Int)) ∧ ∃ b33 o33, p31 = some ⟨b33, o33, none⟩ ∧ CanStore w26 b33 (o33 + (x16).toNat) ∧ ∀ ws, Stored w26 b33 (o33 + (x16).toNat) (.int .u8 2) ws →
  R (.returned (.tuple #[.int .i64 x16, .int .i64 0])) ws)
  (InK .i64 (x16 + 1) ∧ ∃ ml4, ml4 < nl4 ∧ I4 (x16 + 1) ml4 w26))
  (InK .i64 (x16 + 1) ∧ ∃ ml4, ml4 < nl4 ∧ I4 (x16 + 1) ml4 wl4))
  (R (.returned (.tuple #[.int .i64 0, .int .i64 6])) wl4))
def f32_ann : Ann := { loops := [(4, [(16, .int .i64)])], cuts := [], flip := [], throws := [] }
theorem f32_eq (a0 : Option Addr) (g1 : FuncId) (fs1 cs1 : Array Value) (w : World) (R : Ending → World → Prop) : vc Try.prog f32_ann (bodyOf Try.f32) (retQ Try.prog Try.f32 R) (envOf Try.f32.ntmps [.v (.pointer a0), .v (.func (.func g1) fs1 cs1)]) w = f32_vc a0 g1 fs1 cs1 w R := by kernel_rfl
theorem f32_does (a0 : Option Addr) (g1 : FuncId) (fs1 cs1 : Array Value) {w : World} {R : Ending → World → Prop} (h : f32_vc a0 g1 fs1 cs1 w R) : Does Try.prog 32 #[.pointer a0, .func (.func g1) fs1 cs1] w R :=
  does_of_vc (ss := [.v (.pointer a0), .v (.func (.func g1) fs1 cs1)]) f32_ann mixed call32 Try.func32 rfl rfl (show 2 ≤ Try.f32.ntmps by decide) ((f32_eq a0 g1 fs1 cs1 w R).symm ▸ h)
/-- Of escritoire/space.any (function 33): the condition. -/
def f33_vc (a0 : Int) (w : World) (R : Ending → World → Prop) : Prop :=
  R (.returned (.bool true)) w
def f33_ann : Ann := { loops := [], cuts := [], flip := [], throws := [] }
theorem f33_eq (a0 : Int) (w : World) (R : Ending → World → Prop) : vc Try.prog f33_ann (bodyOf Try.f33) (retQ Try.prog Try.f33 R) (envOf Try.f33.ntmps [.v (.int .i64 a0)]) w = f33_vc a0 w R := by kernel_rfl
theorem f33_does (a0 : Int) {w : World} {R : Ending → World → Prop} (h : f33_vc a0 w R) : Does Try.prog 33 #[.int .i64 a0] w R :=
  does_of_vc (ss := [.v (.int .i64 a0)]) f33_ann mixed call33 Try.func33 rfl rfl (show 1 ≤ Try.f33.ntmps by decide) ((f33_eq a0 w R).symm ▸ h)
/-- Of (*escritoire/space.Space).made (function 34): the condition. -/
def f34_vc (a0 : Option Addr) (w : World) (R : Ending → World → Prop) : Prop :=
  Br (!a0.isNone)
  (∃ b7 o7, a0 = some ⟨b7, o7, none⟩ ∧ ∃ (p9 : Option Addr) (l9 c9 : Nat), w.cell? ⟨b7, o7, none⟩ = some (.slice p9 l9 c9) ∧ R (.returned (.bool (decide (((l9 : Int)) > 0)))) w)
  (R (.returned (.bool false)) w)
def f34_ann : Ann := { loops := [], cuts := [], flip := [], throws := [] }
theorem f34_eq (a0 : Option Addr) (w : World) (R : Ending → World → Prop) : vc Try.prog f34_ann (bodyOf Try.f34) (retQ Try.prog Try.f34 R) (envOf Try.f34.ntmps [.v (.pointer a0)]) w = f34_vc a0 w R := by kernel_rfl
theorem f34_does (a0 : Option Addr) {w : World} {R : Ending → World → Prop} (h : f34_vc a0 w R) : Does Try.prog 34 #[.pointer a0] w R :=
  does_of_vc (ss := [.v (.pointer a0)]) f34_ann mixed call34 Try.func34 rfl rfl (show 1 ≤ Try.f34.ntmps by decide) ((f34_eq a0 w R).symm ▸ h)
/-- Of (*escritoire/space.Space).there (function 35): the condition. -/
def f35_vc (a0 : Option Addr) (a1 : Int) (w : World) (R : Ending → World → Prop) : Prop :=
  Br (decide (a1 ≥ 2))
  (∃ b10 o10, a0 = some ⟨b10, o10, none⟩ ∧ ∃ (p12 : Option Addr) (l12 c12 : Nat), w.cell? ⟨b10, o10, none⟩ = some (.slice p12 l12 c12) ∧ R (.returned (.bool (decide (a1 < ((l12 : Int)))))) w)
  (R (.returned (.bool false)) w)
def f35_ann : Ann := { loops := [], cuts := [], flip := [], throws := [] }
theorem f35_eq (a0 : Option Addr) (a1 : Int) (w : World) (R : Ending → World → Prop) : vc Try.prog f35_ann (bodyOf Try.f35) (retQ Try.prog Try.f35 R) (envOf Try.f35.ntmps [.v (.pointer a0), .v (.int .i64 a1)]) w = f35_vc a0 a1 w R := by kernel_rfl
theorem f35_does (a0 : Option Addr) (a1 : Int) {w : World} {R : Ending → World → Prop} (h : f35_vc a0 a1 w R) : Does Try.prog 35 #[.pointer a0, .int .i64 a1] w R :=
  does_of_vc (ss := [.v (.pointer a0), .v (.int .i64 a1)]) f35_ann mixed call35 Try.func35 rfl rfl (show 2 ≤ Try.f35.ntmps by decide) ((f35_eq a0 a1 w R).symm ▸ h)
/-- Of (*escritoire/space.Space).end (function 36): the condition. -/
def f36_vc (a0 : Option Addr) (g1 : FuncId) (fs1 cs1 : Array Value) (g2 : FuncId) (fs2 cs2 : Array Value) (w : World) (R : Ending → World → Prop) : Prop :=
  Does Try.prog 34 #[.pointer a0] w fun e10 w10 =>
  ∃ b10 : Bool, e10 = .returned (.bool b10) ∧ Br (!b10)
  (R (.returned (.tuple #[])) w10)
  (∀ b6 w6, NewBlk w10 b6 [.nilFunc, .nilFunc, .nilFunc, .nilFunc] 65 w6 →
  CanStore w6 b6 0 ∧ ∀ ws, Stored w6 b6 0 (.func (.func 41) #[.pointer a0] #[]) ws →
  CanStore ws b6 1 ∧ ∀ ws_1, Stored ws b6 1 (.func (.func 41) #[.pointer a0] #[]) ws_1 →
  CanStore ws_1 b6 2 ∧ ∀ ws_2, Stored ws_1 b6 2 (.func (.func g1) fs1 cs1) ws_2 →
  CanStore ws_2 b6 3 ∧ ∀ ws_3, Stored ws_2 b6 3 (.func (.func g2) fs2 cs2) ws_3 →
  ∃ b20 o20, a0 = some ⟨b20, o20, none⟩ ∧ ∃ (p22 : Option Addr) (l22 c22 : Nat), ws_3.cell? ⟨b20, o20, none⟩ = some (.slice p22 l22 c22) ∧ ∃ I3 : Int → Nat → World → Prop, (∃ nl3, I3 0 nl3 ws_3) ∧ ∀ x24 : Int, ∀ (nl3 : Nat) (wl3 : World), I3 x24 nl3 wl3 →
  Br (decide (x24 < ((l22 : Int))))
  (((0 : Int) ≤ x24 ∧ x24 < (l22 : Int)) ∧ ∃ b27 o27, p22 = some ⟨b27, o27, none⟩ ∧ ∃ n28 : Int, wl3.cell? ⟨b27, o27 + (x24).toNat, none⟩ = some (.int .u8 n28) ∧ ((0 : Int) ≤ n28 ∧ n28 < ((4 : Nat) : Int)) ∧ ∃ (g31 : FuncId) (fs31 cs31 : Array Value), wl3.cell? ⟨b6, 0 + (n28).toNat, none⟩ = some (.func (.func g31) fs31 cs31) ∧ Does Try.prog g31 (fs31 ++ #[.int .i64 x24] ++ cs31) wl3 fun e33 w33 =>
  e33 = .returned (.tuple #[]) ∧ InK .i64 (x24 + 1) ∧ ∃ ml3, ml3 < nl3 ∧ I3 (x24 + 1) ml3 w33)
  (R (.returned (.tuple #[])) wl3))
def f36_ann : Ann := { loops := [(3, [(24, .int .i64)])], cuts := [], flip := [], throws := [] }
theorem f36_eq (a0 : Option Addr) (g1 : FuncId) (fs1 cs1 : Array Value) (g2 : FuncId) (fs2 cs2 : Array Value) (w : World) (R : Ending → World → Prop) : vc Try.prog f36_ann (bodyOf Try.f36) (retQ Try.prog Try.f36 R) (envOf Try.f36.ntmps [.v (.pointer a0), .v (.func (.func g1) fs1 cs1), .v (.func (.func g2) fs2 cs2)]) w = f36_vc a0 g1 fs1 cs1 g2 fs2 cs2 w R := by kernel_rfl
theorem f36_does (a0 : Option Addr) (g1 : FuncId) (fs1 cs1 : Array Value) (g2 : FuncId) (fs2 cs2 : Array Value) {w : World} {R : Ending → World → Prop} (h : f36_vc a0 g1 fs1 cs1 g2 fs2 cs2 w R) : Does Try.prog 36 #[.pointer a0, .func (.func g1) fs1 cs1, .func (.func g2) fs2 cs2] w R :=
  does_of_vc (ss := [.v (.pointer a0), .v (.func (.func g1) fs1 cs1), .v (.func (.func g2) fs2 cs2)]) f36_ann mixed call36 Try.func36 rfl rfl (show 3 ≤ Try.f36.ntmps by decide) ((f36_eq a0 g1 fs1 cs1 g2 fs2 cs2 w R).symm ▸ h)
/-- Of (*escritoire/space.Space).use (function 37): the condition. -/
def f37_vc (a0 : Option Addr) (a1 : Int) (w : World) (R : Ending → World → Prop) : Prop :=
  ∃ b5 o5, a0 = some ⟨b5, o5, none⟩ ∧ ∃ (p7 : Option Addr) (l7 c7 : Nat), w.cell? ⟨b5, o5, none⟩ = some (.slice p7 l7 c7) ∧ ((0 : Int) ≤ a1 ∧ a1 < (l7 : Int)) ∧ ∃ b9 o9, p7 = some ⟨b9, o9, none⟩ ∧ CanStore w b9 (o9 + (a1).toNat) ∧ ∀ ws, Stored w b9 (o9 + (a1).toNat) (.int .u8 1) ws →
  R (.returned (.tuple #[])) ws
def f37_ann : Ann := { loops := [], cuts := [], flip := [], throws := [] }
theorem f37_eq (a0 : Option Addr) (a1 : Int) (w : World) (R : Ending → World → Prop) : vc Try.prog f37_ann (bodyOf Try.f37) (retQ Try.prog Try.f37 R) (envOf Try.f37.ntmps [.v (.pointer a0), .v (.int .i64 a1)]) w = f37_vc a0 a1 w R := by kernel_rfl
theorem f37_does (a0 : Option Addr) (a1 : Int) {w : World} {R : Ending → World → Prop} (h : f37_vc a0 a1 w R) : Does Try.prog 37 #[.pointer a0, .int .i64 a1] w R :=
  does_of_vc (ss := [.v (.pointer a0), .v (.int .i64 a1)]) f37_ann mixed call37 Try.func37 rfl rfl (show 2 ≤ Try.f37.ntmps by decide) ((f37_eq a0 a1 w R).symm ▸ h)
/-- Of (*escritoire/space.Space).free (function 38): the condition. -/
def f38_vc (a0 : Option Addr) (a1 : Int) (w : World) (R : Ending → World → Prop) : Prop :=
  ∃ b5 o5, a0 = some ⟨b5, o5, none⟩ ∧ ∃ (p7 : Option Addr) (l7 c7 : Nat), w.cell? ⟨b5, o5, none⟩ = some (.slice p7 l7 c7) ∧ ((0 : Int) ≤ a1 ∧ a1 < (l7 : Int)) ∧ ∃ b9 o9, p7 = some ⟨b9, o9, none⟩ ∧ CanStore w b9 (o9 + (a1).toNat) ∧ ∀ ws, Stored w b9 (o9 + (a1).toNat) (.int .u8 0) ws →
  R (.returned (.tuple #[])) ws
def f38_ann : Ann := { loops := [], cuts := [], flip := [], throws := [] }
theorem f38_eq (a0 : Option Addr) (a1 : Int) (w : World) (R : Ending → World → Prop) : vc Try.prog f38_ann (bodyOf Try.f38) (retQ Try.prog Try.f38 R) (envOf Try.f38.ntmps [.v (.pointer a0), .v (.int .i64 a1)]) w = f38_vc a0 a1 w R := by kernel_rfl
theorem f38_does (a0 : Option Addr) (a1 : Int) {w : World} {R : Ending → World → Prop} (h : f38_vc a0 a1 w R) : Does Try.prog 38 #[.pointer a0, .int .i64 a1] w R :=
  does_of_vc (ss := [.v (.pointer a0), .v (.int .i64 a1)]) f38_ann mixed call38 Try.func38 rfl rfl (show 2 ≤ Try.f38.ntmps by decide) ((f38_eq a0 a1 w R).symm ▸ h)
/-- Of escritoire/space.bit (function 39): the condition. -/
def f39_vc (p0 : Option Addr) (l0 c0 : Nat) (a1 : Int) (w : World) (R : Ending → World → Prop) : Prop :=
  (8 : Int) ≠ 0 ∧ InK .i64 (a1.tdiv 8) ∧ ((0 : Int) ≤ (a1.tdiv 8) ∧ (a1.tdiv 8) < (l0 : Int)) ∧ ∃ b8 o8, p0 = some ⟨b8, o8, none⟩ ∧ ∃ n9 : Int, w.cell? ⟨b8, o8 + (a1.tdiv 8).toNat, none⟩ = some (.int .u8 n9) ∧ (8 : Int) ≠ 0 ∧ (0 : Int) ≤ (a1.tmod 8) ∧ R (.returned (.bool ((bits .and .u8 (n9.fdiv (2 ^ (min (a1.tmod 8).toNat 8))) 1) == 1))) w
def f39_ann : Ann := { loops := [], cuts := [], flip := [], throws := [] }
theorem f39_eq (p0 : Option Addr) (l0 c0 : Nat) (a1 : Int) (w : World) (R : Ending → World → Prop) : vc Try.prog f39_ann (bodyOf Try.f39) (retQ Try.prog Try.f39 R) (envOf Try.f39.ntmps [.v (.slice p0 l0 c0), .v (.int .i64 a1)]) w = f39_vc p0 l0 c0 a1 w R := by kernel_rfl
theorem f39_does (p0 : Option Addr) (l0 c0 : Nat) (a1 : Int) {w : World} {R : Ending → World → Prop} (h : f39_vc p0 l0 c0 a1 w R) : Does Try.prog 39 #[.slice p0 l0 c0, .int .i64 a1] w R :=
  does_of_vc (ss := [.v (.slice p0 l0 c0), .v (.int .i64 a1)]) f39_ann mixed call39 Try.func39 rfl rfl (show 2 ≤ Try.f39.ntmps by decide) ((f39_eq p0 l0 c0 a1 w R).symm ▸ h)
/-- Of (*escritoire/escritoireref5.Space).turn (function 40): the condition. -/
def f40_vc (a0 : Option Addr) (a1 : Int) (a2 : Int) (w : World) (R : Ending → World → Prop) : Prop :=
  ∃ I1 : Int → Nat → World → Prop, (∃ nl1, I1 0 nl1 w) ∧ ∀ x6 : Int, ∀ (nl1 : Nat) (wl1 : World), I1 x6 nl1 wl1 →
  ∃ b9 o9, a0 = some ⟨b9, o9, none⟩ ∧ ∃ (p11 : Option Addr) (l11 c11 : Nat), wl1.cell? ⟨b9, o9, none⟩ = some (.slice p11 l11 c11) ∧ Br (decide (x6 < ((l11 : Int))))
  (∃ b17 o17, a0 = some ⟨b17, o17, none⟩ ∧ ∃ (p19 : Option Addr) (l19 c19 : Nat), wl1.cell? ⟨b17, o17, none⟩ = some (.slice p19 l19 c19) ∧ ((0 : Int) ≤ x6 ∧ x6 < (l19 : Int)) ∧ ∃ b21 o21, p19 = some ⟨b21, o21, none⟩ ∧ ∃ n22 : Int, wl1.cell? ⟨b21, o21 + (x6).toNat, none⟩ = some (.int .i64 n22) ∧ Br (n22 == 2)
  (∃ b26 o26, a0 = some ⟨b26, o26, none⟩ ∧ ∃ (p28 : Option Addr) (l28 c28 : Nat), wl1.cell? ⟨b26, o26, none⟩ = some (.slice p28 l28 c28) ∧ ((0 : Int) ≤ x6 ∧ x6 < (l28 : Int)) ∧ ∃ b31 o31, p28 = some ⟨b31, o31, none⟩ ∧ CanStore wl1 b31 (o31 + (x6).toNat) ∧ ∀ ws, Stored wl1 b31 (o31 + (x6).toNat) (.int .i64 a1) ws →
  InK .i64 (x6 + 1) ∧ ∃ ml1, ml1 < nl1 ∧ I1 (x6 + 1) ml1 ws)
  (Br (n22 == 3)
  (∃ b35 o35, a0 = some ⟨b35, o35, none⟩ ∧ ∃ (p37 : Option Addr) (l37 c37 : Nat), wl1.cell? ⟨b35, o35, none⟩ = some (.slice p37 l37 c37) ∧ ((0 : Int) ≤ x6 ∧ x6 < (l37 : Int)) ∧ ∃ b40 o40, p37 = some ⟨b40, o40, none⟩ ∧ CanStore wl1 b40 (o40 + (x6).toNat) ∧ ∀ ws_1, Stored wl1 b40 (o40 + (x6).toNat) (.int .i64 a2) ws_1 →
  InK .i64 (x6 + 1) ∧ ∃ ml1, ml1 < nl1 ∧ I1 (x6 + 1) ml1 ws_1)
  (InK .i64 (x6 + 1) ∧ ∃ ml1, ml1 < nl1 ∧ I1 (x6 + 1) ml1 wl1)))
  (R (.returned (.tuple #[])) wl1)
def f40_ann : Ann := { loops := [(1, [(6, .int .i64)])], cuts := [], flip := [], throws := [] }
theorem f40_eq (a0 : Option Addr) (a1 : Int) (a2 : Int) (w : World) (R : Ending → World → Prop) : vc Try.prog f40_ann (bodyOf Try.f40) (retQ Try.prog Try.f40 R) (envOf Try.f40.ntmps [.v (.pointer a0), .v (.int .i64 a1), .v (.int .i64 a2)]) w = f40_vc a0 a1 a2 w R := by kernel_rfl
theorem f40_does (a0 : Option Addr) (a1 : Int) (a2 : Int) {w : World} {R : Ending → World → Prop} (h : f40_vc a0 a1 a2 w R) : Does Try.prog 40 #[.pointer a0, .int .i64 a1, .int .i64 a2] w R :=
  does_of_vc (ss := [.v (.pointer a0), .v (.int .i64 a1), .v (.int .i64 a2)]) f40_ann mixed call40 Try.func40 rfl rfl (show 3 ≤ Try.f40.ntmps by decide) ((f40_eq a0 a1 a2 w R).symm ▸ h)
/-- Of (*escritoire/space.Space).stay (function 41): the condition. -/
def f41_vc (a0 : Option Addr) (a1 : Int) (w : World) (R : Ending → World → Prop) : Prop :=
  R (.returned (.tuple #[])) w
def f41_ann : Ann := { loops := [], cuts := [], flip := [], throws := [] }
theorem f41_eq (a0 : Option Addr) (a1 : Int) (w : World) (R : Ending → World → Prop) : vc Try.prog f41_ann (bodyOf Try.f41) (retQ Try.prog Try.f41 R) (envOf Try.f41.ntmps [.v (.pointer a0), .v (.int .i64 a1)]) w = f41_vc a0 a1 w R := by kernel_rfl
theorem f41_does (a0 : Option Addr) (a1 : Int) {w : World} {R : Ending → World → Prop} (h : f41_vc a0 a1 w R) : Does Try.prog 41 #[.pointer a0, .int .i64 a1] w R :=
  does_of_vc (ss := [.v (.pointer a0), .v (.int .i64 a1)]) f41_ann mixed call41 Try.func41 rfl rfl (show 2 ≤ Try.f41.ntmps by decide) ((f41_eq a0 a1 w R).symm ▸ h)
end Go.Proofs.Ytcfcbhkkolilmaa
