/-
  Of each function of the code: its verification condition, and that it suffices.
-/
import Derived.Test.YtnjacafdoggmaaaVcDoes
import Derived.Test.YtnjacafdoggmaaaProg
set_option maxRecDepth 100000
namespace Go.Proofs.Ytnjacafdoggmaaa
open Go.RowKit Go.Vc
def bodyOf (fn : Func) : Code := match fn.body with | some c => c | none => .skip
theorem mixed : Try.prog.follows .mixedOrders = true := by kernel_rfl
theorem call3 : callableB Try.prog 3 = true := by kernel_rfl
theorem call4 : callableB Try.prog 4 = true := by kernel_rfl
theorem call5 : callableB Try.prog 5 = true := by kernel_rfl
theorem call6 : callableB Try.prog 6 = true := by kernel_rfl
theorem call7 : callableB Try.prog 7 = true := by kernel_rfl
theorem call8 : callableB Try.prog 8 = true := by kernel_rfl
theorem call9 : callableB Try.prog 9 = true := by kernel_rfl
theorem call10 : callableB Try.prog 10 = true := by kernel_rfl
theorem call11 : callableB Try.prog 11 = true := by kernel_rfl
theorem call12 : callableB Try.prog 12 = true := by kernel_rfl
theorem call13 : callableB Try.prog 13 = true := by kernel_rfl
theorem call14 : callableB Try.prog 14 = true := by kernel_rfl
theorem call15 : callableB Try.prog 15 = true := by kernel_rfl
theorem call16 : callableB Try.prog 16 = true := by kernel_rfl
theorem call17 : callableB Try.prog 17 = true := by kernel_rfl
theorem call18 : callableB Try.prog 18 = true := by kernel_rfl
theorem call19 : callableB Try.prog 19 = true := by kernel_rfl
theorem call20 : callableB Try.prog 20 = true := by kernel_rfl
theorem call21 : callableB Try.prog 21 = true := by kernel_rfl
theorem call22 : callableB Try.prog 22 = true := by kernel_rfl
theorem call23 : callableB Try.prog 23 = true := by kernel_rfl
theorem call24 : callableB Try.prog 24 = true := by kernel_rfl
theorem call25 : callableB Try.prog 25 = true := by kernel_rfl
theorem call26 : callableB Try.prog 26 = true := by kernel_rfl
theorem call27 : callableB Try.prog 27 = true := by kernel_rfl
/-- Of escritoire/escritoirelaw22.MarkOrders (function 3): the condition. -/
def f3_vc (a0 : Int) (a1 : Int) (p2 : Option Addr) (l2 c2 : Nat) (w : World) (R : Ending → World → Prop) : Prop :=
  Does Try.prog 7 #[] w fun e13 w13 =>
  ∃ b13 : Bool, e13 = .returned (.bool b13) ∧ Br (!b13)
  (R (.returned (.bool false)) w13)
  (Br (decide (a0 < 0))
  (R (.returned (.bool true)) w13)
  (Br (decide (a1 < a0))
  (R (.returned (.bool true)) w13)
  (Br (decide (a1 > 5000))
  (R (.returned (.bool true)) w13)
  (Does Try.prog 8 #[.slice p2 l2 c2, .int .i64 30] w13 fun e28 w28 =>
  ∃ b28 : Bool, e28 = .returned (.bool b28) ∧ Br (!b28)
  (R (.returned (.bool true)) w28)
  (∃ I6 : Int → Nat → World → Prop, (∃ nl6, I6 0 nl6 w28) ∧ ∀ x7 : Int, ∀ (nl6 : Nat) (wl6 : World), I6 x7 nl6 wl6 →
  Br (decide (x7 < ((l2 : Int))))
  (((0 : Int) ≤ x7 ∧ x7 < (l2 : Int)) ∧ ∃ b39 o39, p2 = some ⟨b39, o39, none⟩ ∧ ∃ n41 : Int, wl6.cell? ⟨b39, o39 + (x7).toNat * 3, none⟩ = some (.int .i64 n41) ∧ Br (decide (n41 < 0))
  (R (.returned (.bool true)) wl6)
  (((0 : Int) ≤ x7 ∧ x7 < (l2 : Int)) ∧ ∃ b46 o46, p2 = some ⟨b46, o46, none⟩ ∧ ∃ n48 : Int, wl6.cell? ⟨b46, o46 + (x7).toNat * 3, none⟩ = some (.int .i64 n48) ∧ Br (decide (n48 > 1099511627776))
  (R (.returned (.bool true)) wl6)
  (InK .i64 (x7 + 1) ∧ ∃ ml6, ml6 < nl6 ∧ I6 (x7 + 1) ml6 wl6)))
  (Does Try.prog 9 #[] wl6 fun e51 w51 =>
  ∃ p51 : Option Addr, e51 = .returned (.pointer p51) ∧ Br p51.isNone
  (R (.returned (.bool false)) w51)
  (Does Try.prog 10 #[.pointer p51, .int .u8 97, .int .i64 a0] w51 fun e57 w57 =>
  ∃ b57 : Bool, e57 = .returned (.bool b57) ∧ Br (!b57)
  (R (.returned (.bool false)) w57)
  (Does Try.prog 10 #[.pointer p51, .int .u8 98, .int .i64 a1] w57 fun e63 w63 =>
  ∃ b63 : Bool, e63 = .returned (.bool b63) ∧ Br (!b63)
  (R (.returned (.bool false)) w63)
  (Does Try.prog 11 #[.pointer p51, .slice p2 l2 c2] w63 fun e68 w68 =>
  e68 = .returned (.tuple #[]) ∧ Does Try.prog 12 #[.pointer p51, .int .u8 97] w68 fun e71 w71 =>
  ∃ n71 : Int, ∃ b71 : Bool, e71 = .returned (.tuple #[.int .i64 n71, .bool b71]) ∧ Does Try.prog 12 #[.pointer p51, .int .u8 98] w71 fun e76 w76 =>
  ∃ n76 : Int, ∃ b76 : Bool, e76 = .returned (.tuple #[.int .i64 n76, .bool b76]) ∧ Br b71
  (Br b76
  (Br (decide (n71 ≤ n76))
  (R (.returned (.bool (decide (n71 ≥ 0)))) w76)
  (R (.returned (.bool false)) w76))
  (R (.returned (.bool false)) w76))
  (R (.returned (.bool false)) w76))))))))))
def f3_ann : Ann := { loops := [(6, [(7, .int .i64)])], cuts := [], flip := [], throws := [] }
theorem f3_eq (a0 : Int) (a1 : Int) (p2 : Option Addr) (l2 c2 : Nat) (w : World) (R : Ending → World → Prop) : vc Try.prog f3_ann (bodyOf Try.f3) (retQ Try.prog Try.f3 R) (envOf Try.f3.ntmps [.v (.int .i64 a0), .v (.int .i64 a1), .v (.slice p2 l2 c2)]) [] w = f3_vc a0 a1 p2 l2 c2 w R := by kernel_rfl
theorem f3_does (a0 : Int) (a1 : Int) (p2 : Option Addr) (l2 c2 : Nat) {w : World} {R : Ending → World → Prop} (h : f3_vc a0 a1 p2 l2 c2 w R) : Does Try.prog 3 #[.int .i64 a0, .int .i64 a1, .slice p2 l2 c2] w R :=
  does_of_vc (ss := [.v (.int .i64 a0), .v (.int .i64 a1), .v (.slice p2 l2 c2)]) f3_ann mixed call3 Try.func3 rfl rfl (show 3 ≤ Try.f3.ntmps by decide) ((f3_eq a0 a1 p2 l2 c2 w R).symm ▸ h)
/-- Of escritoire/escritoirelaw22.MarkBack (function 4): the condition. -/
def f4_vc (a0 : Int) (p1 : Option Addr) (l1 c1 : Nat) (w : World) (R : Ending → World → Prop) : Prop :=
  Does Try.prog 7 #[] w fun e12 w12 =>
  ∃ b12 : Bool, e12 = .returned (.bool b12) ∧ Br (!b12)
  (R (.returned (.bool false)) w12)
  (Br (decide (a0 < 0))
  (R (.returned (.bool true)) w12)
  (Br (decide (a0 > 5000))
  (R (.returned (.bool true)) w12)
  (Does Try.prog 8 #[.slice p1 l1 c1, .int .i64 20] w12 fun e22 w22 =>
  ∃ b22 : Bool, e22 = .returned (.bool b22) ∧ Br (!b22)
  (R (.returned (.bool true)) w22)
  (Does Try.prog 9 #[] w22 fun e25 w25 =>
  ∃ p25 : Option Addr, e25 = .returned (.pointer p25) ∧ Br p25.isNone
  (R (.returned (.bool false)) w25)
  (Does Try.prog 10 #[.pointer p25, .int .u8 113, .int .i64 a0] w25 fun e31 w31 =>
  ∃ b31 : Bool, e31 = .returned (.bool b31) ∧ Br (!b31)
  (R (.returned (.bool false)) w31)
  (∃ I10 : Int → Int → Nat → World → Prop, (∃ nl10, I10 a0 0 nl10 w31) ∧ ∀ x6 : Int, ∀ x7 : Int, ∀ (nl10 : Nat) (wl10 : World), I10 x6 x7 nl10 wl10 →
  Br (decide (x7 < ((l1 : Int))))
  (∀ wd12, Drew wl10 wd12 →
  ((0 : Int) ≤ x7 ∧ x7 < (l1 : Int)) ∧ ∃ b43 o43, p1 = some ⟨b43, o43, none⟩ ∧ ∃ n45 : Int, wd12.cell? ⟨b43, o43 + (x7).toNat * 3, none⟩ = some (.int .i64 n45) ∧ Br (decide (n45 < 0))
  (R (.returned (.bool true)) wd12)
  (((0 : Int) ≤ x7 ∧ x7 < (l1 : Int)) ∧ ∃ b50 o50, p1 = some ⟨b50, o50, none⟩ ∧ ∃ n52 : Int, wd12.cell? ⟨b50, o50 + (x7).toNat * 3, none⟩ = some (.int .i64 n52) ∧ Br (decide (n52 > 1099511627776))
  (R (.returned (.bool true)) wd12)
  (((0 : Int) ≤ x7 ∧ x7 < (l1 : Int)) ∧ ∃ b59 o59, p1 = some ⟨b59, o59, none⟩ ∧ ∃ n61 : Int, wd12.cell? ⟨b59, o59 + (x7).toNat * 3, none⟩ = some (.int .i64 n61) ∧ Br (decide (x6 ≥ n61))
  (((0 : Int) ≤ x7 ∧ x7 < (l1 : Int)) ∧ ∃ b67 o67, p1 = some ⟨b67, o67, none⟩ ∧ ∃ n69 : Int, wd12.cell? ⟨b67, o67 + (x7).toNat * 3, none⟩ = some (.int .i64 n69) ∧ ((0 : Int) ≤ x7 ∧ x7 < (l1 : Int)) ∧ ∃ b72 o72, p1 = some ⟨b72, o72, none⟩ ∧ ∃ (p74 : Option Addr) (l74 c74 : Nat), wd12.cell? ⟨b72, o72 + (x7).toNat * 3 + 1, none⟩ = some (.slice p74 l74 c74) ∧ InK .i64 (n69 + ((l74 : Int))) ∧ Br (decide (x6 < (n69 + ((l74 : Int)))))
  (R (.returned (.bool true)) wd12)
  (Br (decide (x6 > 524288))
  (R (.returned (.bool true)) wd12)
  (((0 : Int) ≤ x7 ∧ x7 < (l1 : Int)) ∧ ∃ b87 o87, p1 = some ⟨b87, o87, none⟩ ∧ ∃ n89 : Int, wd12.cell? ⟨b87, o87 + (x7).toNat * 3, none⟩ = some (.int .i64 n89) ∧ Br (decide (x6 ≥ n89))
  (∀ wd15, Drew wd12 wd15 →
  ((0 : Int) ≤ x7 ∧ x7 < (l1 : Int)) ∧ ∃ b94 o94, p1 = some ⟨b94, o94, none⟩ ∧ ∃ (p96 : Option Addr) (l96 c96 : Nat), wd15.cell? ⟨b94, o94 + (x7).toNat * 3 + 1, none⟩ = some (.slice p96 l96 c96) ∧ InK .i64 (x6 - ((l96 : Int))) ∧ ((0 : Int) ≤ x7 ∧ x7 < (l1 : Int)) ∧ ∃ b101 o101, p1 = some ⟨b101, o101, none⟩ ∧ ∃ (p103 : Option Addr) (l103 c103 : Nat), wd15.cell? ⟨b101, o101 + (x7).toNat * 3 + 2, none⟩ = some (.slice p103 l103 c103) ∧ InK .i64 ((x6 - ((l96 : Int))) + ((l103 : Int))) ∧ InK .i64 (x7 + 1) ∧ ∃ ml10, ml10 < nl10 ∧ I10 ((x6 - ((l96 : Int))) + ((l103 : Int))) (x7 + 1) ml10 wd15)
  (InK .i64 (x7 + 1) ∧ ∃ ml10, ml10 < nl10 ∧ I10 x6 (x7 + 1) ml10 wd12))))
  (Br (decide (x6 > 524288))
  (R (.returned (.bool true)) wd12)
  (((0 : Int) ≤ x7 ∧ x7 < (l1 : Int)) ∧ ∃ b87_1 o87_1, p1 = some ⟨b87_1, o87_1, none⟩ ∧ ∃ n89_1 : Int, wd12.cell? ⟨b87_1, o87_1 + (x7).toNat * 3, none⟩ = some (.int .i64 n89_1) ∧ Br (decide (x6 ≥ n89_1))
  (∀ wd15_1, Drew wd12 wd15_1 →
  ((0 : Int) ≤ x7 ∧ x7 < (l1 : Int)) ∧ ∃ b94_1 o94_1, p1 = some ⟨b94_1, o94_1, none⟩ ∧ ∃ (p96_1 : Option Addr) (l96_1 c96_1 : Nat), wd15_1.cell? ⟨b94_1, o94_1 + (x7).toNat * 3 + 1, none⟩ = some (.slice p96_1 l96_1 c96_1) ∧ InK .i64 (x6 - ((l96_1 : Int))) ∧ ((0 : Int) ≤ x7 ∧ x7 < (l1 : Int)) ∧ ∃ b101_1 o101_1, p1 = some ⟨b101_1, o101_1, none⟩ ∧ ∃ (p103_1 : Option Addr) (l103_1 c103_1 : Nat), wd15_1.cell? ⟨b101_1, o101_1 + (x7).toNat * 3 + 2, none⟩ = some (.slice p103_1 l103_1 c103_1) ∧ InK .i64 ((x6 - ((l96_1 : Int))) + ((l103_1 : Int))) ∧ InK .i64 (x7 + 1) ∧ ∃ ml10, ml10 < nl10 ∧ I10 ((x6 - ((l96_1 : Int))) + ((l103_1 : Int))) (x7 + 1) ml10 wd15_1)
  (InK .i64 (x7 + 1) ∧ ∃ ml10, ml10 < nl10 ∧ I10 x6 (x7 + 1) ml10 wd12))))))
  (Does Try.prog 11 #[.pointer p25, .slice p1 l1 c1] wl10 fun e108 w108 =>
  e108 = .returned (.tuple #[]) ∧ Does Try.prog 12 #[.pointer p25, .int .u8 113] w108 fun e111 w111 =>
  ∃ n111 : Int, ∃ b111 : Bool, e111 = .returned (.tuple #[.int .i64 n111, .bool b111]) ∧ Does Try.prog 13 #[.slice p1 l1 c1] w111 fun e116 w116 =>
  ∃ (p116 : Option Addr) (l116 c116 : Nat), e116 = .returned (.slice p116 l116 c116) ∧ Does Try.prog 11 #[.pointer p25, .slice p116 l116 c116] w116 fun e117 w117 =>
  e117 = .returned (.tuple #[]) ∧ Does Try.prog 12 #[.pointer p25, .int .u8 113] w117 fun e120 w120 =>
  ∃ n120 : Int, ∃ b120 : Bool, e120 = .returned (.tuple #[.int .i64 n120, .bool b120]) ∧ Br b111
  (Br b120
  (Br (n111 == x6)
  (R (.returned (.bool (n120 == a0))) w120)
  (R (.returned (.bool false)) w120))
  (R (.returned (.bool false)) w120))
  (R (.returned (.bool false)) w120))))))))
def f4_ann : Ann := { loops := [(10, [(6, .int .i64), (7, .int .i64)])], cuts := [], flip := [], throws := [] }
theorem f4_eq (a0 : Int) (p1 : Option Addr) (l1 c1 : Nat) (w : World) (R : Ending → World → Prop) : vc Try.prog f4_ann (bodyOf Try.f4) (retQ Try.prog Try.f4 R) (envOf Try.f4.ntmps [.v (.int .i64 a0), .v (.slice p1 l1 c1)]) [] w = f4_vc a0 p1 l1 c1 w R := by kernel_rfl
theorem f4_does (a0 : Int) (p1 : Option Addr) (l1 c1 : Nat) {w : World} {R : Ending → World → Prop} (h : f4_vc a0 p1 l1 c1 w R) : Does Try.prog 4 #[.int .i64 a0, .slice p1 l1 c1] w R :=
  does_of_vc (ss := [.v (.int .i64 a0), .v (.slice p1 l1 c1)]) f4_ann mixed call4 Try.func4 rfl rfl (show 2 ≤ Try.f4.ntmps by decide) ((f4_eq a0 p1 l1 c1 w R).symm ▸ h)
/-- Of escritoire/escritoirelaw22.MarkKnown (function 5): the condition. -/
def f5_vc  (w : World) (R : Ending → World → Prop) : Prop :=
  Does Try.prog 7 #[] w fun e8 w8 =>
  ∃ b8 : Bool, e8 = .returned (.bool b8) ∧ Br (!b8)
  (R (.returned (.bool false)) w8)
  (Does Try.prog 9 #[] w8 fun e10 w10 =>
  ∃ p10 : Option Addr, e10 = .returned (.pointer p10) ∧ Br p10.isNone
  (R (.returned (.bool false)) w10)
  (Does Try.prog 10 #[.pointer p10, .int .u8 97, .int .i64 4] w10 fun e14 w14 =>
  ∃ b14 : Bool, e14 = .returned (.bool b14) ∧ ∀ b16 w16, NewBlk w14 b16 [.int .u8 120, .int .u8 121, .int .u8 122] 5 w16 →
  ∃ (p17 : Option Addr) (l17 c17 : Nat), ∃ w17, (convert 25 25 (.slice (some ⟨b16, 0, none⟩) 3 3)).run Try.prog w16 = .ok (.slice p17 l17 c17) w17 ∧ ∀ b19 w19, NewBlk w17 b19 [.int .i64 3, .slice p17 l17 c17, .slice none 0 0] 27 w19 →
  Does Try.prog 11 #[.pointer p10, .slice (some ⟨b19, 0, none⟩) 1 1] w19 fun e20 w20 =>
  e20 = .returned (.tuple #[]) ∧ Does Try.prog 12 #[.pointer p10, .int .u8 97] w20 fun e23 w23 =>
  ∃ n23 : Int, ∃ b23 : Bool, e23 = .returned (.tuple #[.int .i64 n23, .bool b23]) ∧ Does Try.prog 12 #[.pointer p10, .int .u8 98] w23 fun e28 w28 =>
  ∃ n28 : Int, ∃ b28 : Bool, e28 = .returned (.tuple #[.int .i64 n28, .bool b28]) ∧ ∀ b34 w34, NewBlk w28 b34 [.int .u8 98, .int .i64 0, .int .u8 97, .int .i64 0] 40 w34 →
  Does Try.prog 14 #[.slice (some ⟨b34, 0, none⟩) 2 2] w34 fun e35 w35 =>
  ∃ p35 : Option Addr, ∃ b35 : Bool, e35 = .returned (.tuple #[.pointer p35, .bool b35]) ∧ Br (n23 == 3)
  (Br (!b28)
  (Does Try.prog 10 #[.pointer p10, .int .u8 65, .int .i64 1] w35 fun e46 w46 =>
  ∃ b46 : Bool, e46 = .returned (.bool b46) ∧ Br (!b46)
  (Does Try.prog 10 #[.pointer p10, .int .u8 97, .int .i64 (-1)] w46 fun e51 w51 =>
  ∃ b51 : Bool, e51 = .returned (.bool b51) ∧ Br (!b51)
  (R (.returned (.bool (!b35))) w51)
  (R (.returned (.bool false)) w51))
  (R (.returned (.bool false)) w46))
  (R (.returned (.bool false)) w35))
  (R (.returned (.bool false)) w35)))
def f5_ann : Ann := { loops := [], cuts := [], flip := [], throws := [] }
theorem f5_eq  (w : World) (R : Ending → World → Prop) : vc Try.prog f5_ann (bodyOf Try.f5) (retQ Try.prog Try.f5 R) (envOf Try.f5.ntmps []) [] w = f5_vc  w R := by kernel_rfl
theorem f5_does  {w : World} {R : Ending → World → Prop} (h : f5_vc  w R) : Does Try.prog 5 #[] w R :=
  does_of_vc (ss := []) f5_ann mixed call5 Try.func5 rfl rfl (show 0 ≤ Try.f5.ntmps by decide) ((f5_eq  w R).symm ▸ h)
/-- Of escritoire/escritoirelaw22.MarkPlays (function 6): the condition. -/
def f6_vc (p0 : Option Addr) (l0 c0 : Nat) (p1 : Option Addr) (l1 c1 : Nat) (p2 : Option Addr) (l2 c2 : Nat) (w : World) (R : Ending → World → Prop) : Prop :=
  Does Try.prog 7 #[] w fun e16 w16 =>
  ∃ b16 : Bool, e16 = .returned (.bool b16) ∧ Br (!b16)
  (R (.returned (.bool false)) w16)
  (Br (decide (((l0 : Int)) > 60))
  (R (.returned (.bool true)) w16)
  (Br (decide (((l2 : Int)) > 60))
  (R (.returned (.bool true)) w16)
  (Does Try.prog 8 #[.slice p1 l1 c1, .int .i64 30] w16 fun e28 w28 =>
  ∃ b28 : Bool, e28 = .returned (.bool b28) ∧ Br (!b28)
  (R (.returned (.bool true)) w28)
  (∃ I6 : Int → Nat → World → Prop, (∃ nl6, I6 0 nl6 w28) ∧ ∀ x7 : Int, ∀ (nl6 : Nat) (wl6 : World), I6 x7 nl6 wl6 →
  Br (decide (x7 < ((l1 : Int))))
  (((0 : Int) ≤ x7 ∧ x7 < (l1 : Int)) ∧ ∃ b39 o39, p1 = some ⟨b39, o39, none⟩ ∧ ∃ n41 : Int, wl6.cell? ⟨b39, o39 + (x7).toNat * 3, none⟩ = some (.int .i64 n41) ∧ Br (decide (n41 < 0))
  (R (.returned (.bool true)) wl6)
  (((0 : Int) ≤ x7 ∧ x7 < (l1 : Int)) ∧ ∃ b46 o46, p1 = some ⟨b46, o46, none⟩ ∧ ∃ n48 : Int, wl6.cell? ⟨b46, o46 + (x7).toNat * 3, none⟩ = some (.int .i64 n48) ∧ Br (decide (n48 > 1099511627776))
  (R (.returned (.bool true)) wl6)
  (InK .i64 (x7 + 1) ∧ ∃ ml6, ml6 < nl6 ∧ I6 (x7 + 1) ml6 wl6)))
  (Does Try.prog 9 #[] wl6 fun e51 w51 =>
  ∃ p51 : Option Addr, e51 = .returned (.pointer p51) ∧ Br p51.isNone
  (R (.returned (.bool false)) w51)
  (∃ I15 : Option Addr → Nat → Nat → Int → Nat → World → Prop, (∃ nl15, I15 none 0 0 0 nl15 w51) ∧ ∀ (p9 : Option Addr) (l9 c9 : Nat), ∀ x10 : Int, ∀ (nl15 : Nat) (wl15 : World), I15 p9 l9 c9 x10 nl15 wl15 →
  Br (decide (x10 < ((l0 : Int))))
  (∀ wd17, Drew wl15 wd17 →
  ((0 : Int) ≤ x10 ∧ x10 < (l0 : Int)) ∧ ∃ b64 o64, p0 = some ⟨b64, o64, none⟩ ∧ ∃ n66 : Int, wd17.cell? ⟨b64, o64 + (x10).toNat * 2, none⟩ = some (.int .u8 n66) ∧ ((0 : Int) ≤ x10 ∧ x10 < (l0 : Int)) ∧ ∃ b69 o69, p0 = some ⟨b69, o69, none⟩ ∧ ∃ n71 : Int, wd17.cell? ⟨b69, o69 + (x10).toNat * 2 + 1, none⟩ = some (.int .i64 n71) ∧ Does Try.prog 15 #[.slice p9 l9 c9, .int .u8 n66, .int .i64 n71] wd17 fun e72 w72 =>
  ∃ (p72 : Option Addr) (l72 c72 : Nat), ∃ b72 : Bool, e72 = .returned (.tuple #[.slice p72 l72 c72, .bool b72]) ∧ ∀ wd18, Drew w72 wd18 →
  ((0 : Int) ≤ x10 ∧ x10 < (l0 : Int)) ∧ ∃ b78 o78, p0 = some ⟨b78, o78, none⟩ ∧ ∃ n80 : Int, wd18.cell? ⟨b78, o78 + (x10).toNat * 2, none⟩ = some (.int .u8 n80) ∧ ((0 : Int) ≤ x10 ∧ x10 < (l0 : Int)) ∧ ∃ b83 o83, p0 = some ⟨b83, o83, none⟩ ∧ ∃ n85 : Int, wd18.cell? ⟨b83, o83 + (x10).toNat * 2 + 1, none⟩ = some (.int .i64 n85) ∧ Does Try.prog 10 #[.pointer p51, .int .u8 n80, .int .i64 n85] wd18 fun e86 w86 =>
  ∃ b86 : Bool, e86 = .returned (.bool b86) ∧ Br (!(b86 == b72))
  (R (.returned (.bool false)) w86)
  (InK .i64 (x10 + 1) ∧ ∃ ml15, ml15 < nl15 ∧ I15 p72 l72 c72 (x10 + 1) ml15 w86))
  (Does Try.prog 16 #[.pointer p51] wl15 fun e91 w91 =>
  ∃ p91 : Option Addr, e91 = .returned (.pointer p91) ∧ Does Try.prog 11 #[.pointer p51, .slice p1 l1 c1] w91 fun e94 w94 =>
  e94 = .returned (.tuple #[]) ∧ Does Try.prog 14 #[.slice p2 l2 c2] w94 fun e97 w97 =>
  ∃ p97 : Option Addr, ∃ b97 : Bool, e97 = .returned (.tuple #[.pointer p97, .bool b97]) ∧ Does Try.prog 17 #[.slice p2 l2 c2] w97 fun e102 w102 =>
  ∃ b102 : Bool, e102 = .returned (.bool b102) ∧ Br (!(b97 == b102))
  (R (.returned (.bool false)) w102)
  (Br (!((!p97.isNone) == b97))
  (R (.returned (.bool false)) w102)
  (Br b97
  (Does Try.prog 19 #[.pointer p97] w102 fun e114 w114 =>
  ∃ (p114 : Option Addr) (l114 c114 : Nat), e114 = .returned (.slice p114 l114 c114) ∧ Does Try.prog 18 #[.slice p114 l114 c114, .slice p2 l2 c2] w114 fun e116 w116 =>
  ∃ b116 : Bool, e116 = .returned (.bool b116) ∧ Br (!b116)
  (R (.returned (.bool false)) w116)
  (Does Try.prog 19 #[.pointer p91] w116 fun e121 w121 =>
  ∃ (p121 : Option Addr) (l121 c121 : Nat), e121 = .returned (.slice p121 l121 c121) ∧ Does Try.prog 18 #[.slice p121 l121 c121, .slice p9 l9 c9] w121 fun e123 w123 =>
  ∃ b123 : Bool, e123 = .returned (.bool b123) ∧ Br b123
  (Does Try.prog 19 #[.pointer p51] w123 fun e126 w126 =>
  ∃ (p126 : Option Addr) (l126 c126 : Nat), e126 = .returned (.slice p126 l126 c126) ∧ Does Try.prog 20 #[.slice p9 l9 c9, .slice p1 l1 c1] w126 fun e129 w129 =>
  ∃ (p129 : Option Addr) (l129 c129 : Nat), e129 = .returned (.slice p129 l129 c129) ∧ Does Try.prog 18 #[.slice p126 l126 c126, .slice p129 l129 c129] w129 fun e130 w130 =>
  ∃ b130 : Bool, e130 = .returned (.bool b130) ∧ R (.returned (.bool b130)) w130)
  (R (.returned (.bool false)) w123)))
  (Does Try.prog 19 #[.pointer p91] w102 fun e121_1 w121_1 =>
  ∃ (p121_1 : Option Addr) (l121_1 c121_1 : Nat), e121_1 = .returned (.slice p121_1 l121_1 c121_1) ∧ Does Try.prog 18 #[.slice p121_1 l121_1 c121_1, .slice p9 l9 c9] w121_1 fun e123_1 w123_1 =>
  ∃ b123_1 : Bool, e123_1 = .returned (.bool b123_1) ∧ Br b123_1
  (Does Try.prog 19 #[.pointer p51] w123_1 fun e126_1 w126_1 =>
  ∃ (p126_1 : Option Addr) (l126_1 c126_1 : Nat), e126_1 = .returned (.slice p126_1 l126_1 c126_1) ∧ Does Try.prog 20 #[.slice p9 l9 c9, .slice p1 l1 c1] w126_1 fun e129_1 w129_1 =>
  ∃ (p129_1 : Option Addr) (l129_1 c129_1 : Nat), e129_1 = .returned (.slice p129_1 l129_1 c129_1) ∧ Does Try.prog 18 #[.slice p126_1 l126_1 c126_1, .slice p129_1 l129_1 c129_1] w129_1 fun e130_1 w130_1 =>
  ∃ b130_1 : Bool, e130_1 = .returned (.bool b130_1) ∧ R (.returned (.bool b130_1)) w130_1)
  (R (.returned (.bool false)) w123_1)))))))))))
def f6_ann : Ann := { loops := [(6, [(7, .int .i64)]), (15, [(9, .slice), (10, .int .i64)])], cuts := [], flip := [], throws := [] }
theorem f6_eq (p0 : Option Addr) (l0 c0 : Nat) (p1 : Option Addr) (l1 c1 : Nat) (p2 : Option Addr) (l2 c2 : Nat) (w : World) (R : Ending → World → Prop) : vc Try.prog f6_ann (bodyOf Try.f6) (retQ Try.prog Try.f6 R) (envOf Try.f6.ntmps [.v (.slice p0 l0 c0), .v (.slice p1 l1 c1), .v (.slice p2 l2 c2)]) [] w = f6_vc p0 l0 c0 p1 l1 c1 p2 l2 c2 w R := by kernel_rfl
theorem f6_does (p0 : Option Addr) (l0 c0 : Nat) (p1 : Option Addr) (l1 c1 : Nat) (p2 : Option Addr) (l2 c2 : Nat) {w : World} {R : Ending → World → Prop} (h : f6_vc p0 l0 c0 p1 l1 c1 p2 l2 c2 w R) : Does Try.prog 6 #[.slice p0 l0 c0, .slice p1 l1 c1, .slice p2 l2 c2] w R :=
  does_of_vc (ss := [.v (.slice p0 l0 c0), .v (.slice p1 l1 c1), .v (.slice p2 l2 c2)]) f6_ann mixed call6 Try.func6 rfl rfl (show 3 ≤ Try.f6.ntmps by decide) ((f6_eq p0 l0 c0 p1 l1 c1 p2 l2 c2 w R).symm ▸ h)
/-- Of escritoire/escritoirelaw22.awake (function 7): the condition. -/
def f7_vc  (w : World) (R : Ending → World → Prop) : Prop :=
  Does Try.prog 9 #[] w fun e4 w4 =>
  ∃ p4 : Option Addr, e4 = .returned (.pointer p4) ∧ Br p4.isNone
  (R (.returned (.bool false)) w4)
  (Does Try.prog 10 #[.pointer p4, .int .u8 97, .int .i64 5] w4 fun e9 w9 =>
  ∃ b9 : Bool, e9 = .returned (.bool b9) ∧ Br (!b9)
  (R (.returned (.bool false)) w9)
  (∀ b13 w13, NewBlk w9 b13 [.int .u8 120] 5 w13 →
  ∃ (p14 : Option Addr) (l14 c14 : Nat), ∃ w14, (convert 25 25 (.slice (some ⟨b13, 0, none⟩) 1 1)).run Try.prog w13 = .ok (.slice p14 l14 c14) w14 ∧ ∀ b16 w16, NewBlk w14 b16 [.int .i64 2, .slice p14 l14 c14, .slice none 0 0] 27 w16 →
  Does Try.prog 11 #[.pointer p4, .slice (some ⟨b16, 0, none⟩) 1 1] w16 fun e17 w17 =>
  e17 = .returned (.tuple #[]) ∧ Does Try.prog 12 #[.pointer p4, .int .u8 97] w17 fun e20 w20 =>
  ∃ n20 : Int, ∃ b20 : Bool, e20 = .returned (.tuple #[.int .i64 n20, .bool b20]) ∧ Br b20
  (R (.returned (.bool (n20 == 4))) w20)
  (R (.returned (.bool false)) w20)))
def f7_ann : Ann := { loops := [], cuts := [], flip := [], throws := [] }
theorem f7_eq  (w : World) (R : Ending → World → Prop) : vc Try.prog f7_ann (bodyOf Try.f7) (retQ Try.prog Try.f7 R) (envOf Try.f7.ntmps []) [] w = f7_vc  w R := by kernel_rfl
theorem f7_does  {w : World} {R : Ending → World → Prop} (h : f7_vc  w R) : Does Try.prog 7 #[] w R :=
  does_of_vc (ss := []) f7_ann mixed call7 Try.func7 rfl rfl (show 0 ≤ Try.f7.ntmps by decide) ((f7_eq  w R).symm ▸ h)
/-- Of escritoire/escritoirelaw18.Room (function 8): the condition. -/
def f8_vc (p0 : Option Addr) (l0 c0 : Nat) (a1 : Int) (w : World) (R : Ending → World → Prop) : Prop :=
  Br (decide (((l0 : Int)) > a1))
  (R (.returned (.bool false)) w)
  (∃ I4 : Int → Nat → World → Prop, (∃ nl4, I4 0 nl4 w) ∧ ∀ x5 : Int, ∀ (nl4 : Nat) (wl4 : World), I4 x5 nl4 wl4 →
  Br (decide (x5 < ((l0 : Int))))
  (((0 : Int) ≤ x5 ∧ x5 < (l0 : Int)) ∧ ∃ b18 o18, p0 = some ⟨b18, o18, none⟩ ∧ ∃ (p20 : Option Addr) (l20 c20 : Nat), wl4.cell? ⟨b18, o18 + (x5).toNat * 3 + 1, none⟩ = some (.slice p20 l20 c20) ∧ Br (decide (((l20 : Int)) > 300))
  (R (.returned (.bool false)) wl4)
  (((0 : Int) ≤ x5 ∧ x5 < (l0 : Int)) ∧ ∃ b26 o26, p0 = some ⟨b26, o26, none⟩ ∧ ∃ (p28 : Option Addr) (l28 c28 : Nat), wl4.cell? ⟨b26, o26 + (x5).toNat * 3 + 2, none⟩ = some (.slice p28 l28 c28) ∧ Br (decide (((l28 : Int)) > 300))
  (R (.returned (.bool false)) wl4)
  (InK .i64 (x5 + 1) ∧ ∃ ml4, ml4 < nl4 ∧ I4 (x5 + 1) ml4 wl4)))
  (R (.returned (.bool true)) wl4))
def f8_ann : Ann := { loops := [(4, [(5, .int .i64)])], cuts := [], flip := [], throws := [] }
theorem f8_eq (p0 : Option Addr) (l0 c0 : Nat) (a1 : Int) (w : World) (R : Ending → World → Prop) : vc Try.prog f8_ann (bodyOf Try.f8) (retQ Try.prog Try.f8 R) (envOf Try.f8.ntmps [.v (.slice p0 l0 c0), .v (.int .i64 a1)]) [] w = f8_vc p0 l0 c0 a1 w R := by kernel_rfl
theorem f8_does (p0 : Option Addr) (l0 c0 : Nat) (a1 : Int) {w : World} {R : Ending → World → Prop} (h : f8_vc p0 l0 c0 a1 w R) : Does Try.prog 8 #[.slice p0 l0 c0, .int .i64 a1] w R :=
  does_of_vc (ss := [.v (.slice p0 l0 c0), .v (.int .i64 a1)]) f8_ann mixed call8 Try.func8 rfl rfl (show 2 ≤ Try.f8.ntmps by decide) ((f8_eq p0 l0 c0 a1 w R).symm ▸ h)
/-- Of escritoire/mark.New (function 9): the condition. -/
def f9_vc  (w : World) (R : Ending → World → Prop) : Prop :=
  ∀ b2 w2, NewBlk w b2 [.bool true, .int .i64 0, .int .i64 0, .int .i64 0, .int .i64 0, .int .i64 0, .int .i64 0, .int .i64 0, .int .i64 0, .int .i64 0, .int .i64 0, .int .i64 0, .int .i64 0, .int .i64 0, .int .i64 0, .int .i64 0, .int .i64 0, .int .i64 0, .int .i64 0, .int .i64 0, .int .i64 0, .int .i64 0, .int .i64 0, .int .i64 0, .int .i64 0, .int .i64 0, .int .i64 0] 51 w2 →
  R (.returned (.pointer (some ⟨b2, 0, none⟩))) w2
def f9_ann : Ann := { loops := [], cuts := [], flip := [], throws := [] }
theorem f9_eq  (w : World) (R : Ending → World → Prop) : vc Try.prog f9_ann (bodyOf Try.f9) (retQ Try.prog Try.f9 R) (envOf Try.f9.ntmps []) [] w = f9_vc  w R := by kernel_rfl
theorem f9_does  {w : World} {R : Ending → World → Prop} (h : f9_vc  w R) : Does Try.prog 9 #[] w R :=
  does_of_vc (ss := []) f9_ann mixed call9 Try.func9 rfl rfl (show 0 ≤ Try.f9.ntmps by decide) ((f9_eq  w R).symm ▸ h)
/-- Of (*escritoire/mark.Marks).Set (function 10): the condition. -/
def f10_vc (a0 : Option Addr) (a1 : Int) (a2 : Int) (w : World) (R : Ending → World → Prop) : Prop :=
  Br a0.isNone
  (R (.returned (.bool false)) w)
  (∃ b11 o11, a0 = some ⟨b11, o11, none⟩ ∧ ∃ b13 : Bool, w.cell? ⟨b11, o11, none⟩ = some (.bool b13) ∧ Br (!b13)
  (R (.returned (.bool false)) w)
  (Does Try.prog 21 #[.int .u8 a1] w fun e18 w18 =>
  ∃ b18 : Bool, e18 = .returned (.bool b18) ∧ Br (!b18)
  (R (.returned (.bool false)) w18)
  (Br (decide (a2 < 0))
  (R (.returned (.bool false)) w18)
  (Br (decide (a2 > 1048576))
  (R (.returned (.bool false)) w18)
  (InK .i64 (a2 + 1) ∧ ∃ b34 o34, a0 = some ⟨b34, o34, none⟩ ∧ ((0 : Int) ≤ (IntKind.wrap .u8 (a1 - 97)) ∧ (IntKind.wrap .u8 (a1 - 97)) < ((26 : Nat) : Int)) ∧ CanStore w18 b34 (o34 + 1 + (IntKind.wrap .u8 (a1 - 97)).toNat) ∧ ∀ ws, Stored w18 b34 (o34 + 1 + (IntKind.wrap .u8 (a1 - 97)).toNat) (.int .i64 (a2 + 1)) ws →
  R (.returned (.bool true)) ws)))))
def f10_ann : Ann := { loops := [], cuts := [], flip := [], throws := [] }
theorem f10_eq (a0 : Option Addr) (a1 : Int) (a2 : Int) (w : World) (R : Ending → World → Prop) : vc Try.prog f10_ann (bodyOf Try.f10) (retQ Try.prog Try.f10 R) (envOf Try.f10.ntmps [.v (.pointer a0), .v (.int .u8 a1), .v (.int .i64 a2)]) [] w = f10_vc a0 a1 a2 w R := by kernel_rfl
theorem f10_does (a0 : Option Addr) (a1 : Int) (a2 : Int) {w : World} {R : Ending → World → Prop} (h : f10_vc a0 a1 a2 w R) : Does Try.prog 10 #[.pointer a0, .int .u8 a1, .int .i64 a2] w R :=
  does_of_vc (ss := [.v (.pointer a0), .v (.int .u8 a1), .v (.int .i64 a2)]) f10_ann mixed call10 Try.func10 rfl rfl (show 3 ≤ Try.f10.ntmps by decide) ((f10_eq a0 a1 a2 w R).symm ▸ h)
/-- Of (*escritoire/mark.Marks).Shift (function 11): the condition. -/
def f11_vc (a0 : Option Addr) (p1 : Option Addr) (l1 c1 : Nat) (w : World) (R : Ending → World → Prop) : Prop :=
  ∀ b2 w2, NewBlk w b2 [.pointer a0] 28 w2 →
  ∃ p8 : Option Addr, w2.cell? ⟨b2, 0, none⟩ = some (.pointer p8) ∧ Br p8.isNone
  (R (.returned (.tuple #[])) w2)
  (∃ I3 : List Deferred → Int → Nat → World → Prop, (∃ nl3, I3 [] 0 nl3 w2) ∧ ∀ es3 : List Deferred, ∀ x12 : Int, ∀ (nl3 : Nat) (wl3 : World), I3 es3 x12 nl3 wl3 →
  Br (decide (x12 < ((l1 : Int))))
  (((0 : Int) ≤ x12 ∧ x12 < (l1 : Int)) ∧ ∃ b14 o14, p1 = some ⟨b14, o14, none⟩ ∧ ∃ n15 : Int, wl3.cell? ⟨b14, o14 + (x12).toNat * 3, none⟩ = some (.int .i64 n15) ∧ ∃ (p15 : Option Addr) (l15 c15 : Nat), wl3.cell? ⟨b14, o14 + (x12).toNat * 3 + 1, none⟩ = some (.slice p15 l15 c15) ∧ ∃ (p15_1 : Option Addr) (l15_1 c15_1 : Nat), wl3.cell? ⟨b14, o14 + (x12).toNat * 3 + 2, none⟩ = some (.slice p15_1 l15_1 c15_1) ∧ ∀ b5 w5, NewBlk wl3 b5 [.int .i64 0, .slice none 0 0, .slice none 0 0] 27 w5 →
  CanStore w5 b5 0 ∧ ∀ ws, Stored w5 b5 0 (.int .i64 n15) ws →
  CanStore ws b5 1 ∧ ∀ ws_1, Stored ws b5 1 (.slice p15 l15 c15) ws_1 →
  CanStore ws_1 b5 2 ∧ ∀ ws_2, Stored ws_1 b5 2 (.slice p15_1 l15_1 c15_1) ws_2 →
  ∃ p16 : Option Addr, ws_2.cell? ⟨b2, 0, none⟩ = some (.pointer p16) ∧ Does Try.prog 22 #[.pointer p16] ws_2 fun e17 w17 =>
  ∃ (g17 : Go.Fn) (fs17 cs17 : Array Value), e17 = .returned (.func g17 fs17 cs17) ∧ ∀ (Dr8 lr8 : Nat) (recr8 : Loop) (wr8 : World), Opened w17 Dr8 lr8 recr8 wr8 →
  (∀ x18 : Int, ∀ x19 : Int, ∀ (wyr8 : World) (Rr8 : Ending → World → Prop), LoopAt wyr8 lr8 recr8 .ready →
  (LoopAt wyr8 lr8 recr8 .ready ∧ ∀ wbr8, Turned wyr8 lr8 wbr8 → LoopAt wbr8 lr8 recr8 .busy →
  ∀ wd8, Drew wbr8 wd8 →
  ∃ S8 : World → Prop, S8 wd8 ∧ ∃ p20 : Option Addr, (∀ w, S8 w → w.cell? ⟨b2, 0, none⟩ = some (.pointer p20)) ∧ ∃ n24 : Int, wd8.cell? ⟨b5, 0, none⟩ = some (.int .i64 n24) ∧ ∃ (p24 : Option Addr) (l24 c24 : Nat), wd8.cell? ⟨b5, 1, none⟩ = some (.slice p24 l24 c24) ∧ ∃ (p24_1 : Option Addr) (l24_1 c24_1 : Nat), wd8.cell? ⟨b5, 2, none⟩ = some (.slice p24_1 l24_1 c24_1) ∧ Does Try.prog 23 #[.int .i64 x19, .agg #[.int .i64 n24, .slice p24 l24 c24, .slice p24_1 l24_1 c24_1]] wd8 fun e25 w25 =>
  ∃ n25 : Int, e25 = .returned (.int .i64 n25) ∧ S8 w25 ∧ InK .i64 ((if 1048576 < n25 then 1048576 else n25) + 1) ∧ ∃ b28 o28, p20 = some ⟨b28, o28, none⟩ ∧ ((0 : Int) ≤ (IntKind.wrap .u8 (x18 - 97)) ∧ (IntKind.wrap .u8 (x18 - 97)) < ((26 : Nat) : Int)) ∧ CanStore w25 b28 (o28 + 1 + (IntKind.wrap .u8 (x18 - 97)).toNat) ∧ ∀ ws_3, Stored w25 b28 (o28 + 1 + (IntKind.wrap .u8 (x18 - 97)).toNat) (.int .i64 ((if 1048576 < n25 then 1048576 else n25) + 1)) ws_3 →
  LoopAt ws_3 lr8 recr8 .busy ∧ ∀ wdr8, Turned ws_3 lr8 wdr8 → LoopAt wdr8 lr8 recr8 .ready → Rr8 (.returned (.bool true)) wdr8) →
  YieldsV Try.prog lr8 #[.int .u8 x18, .int .i64 x19] wyr8 Rr8) →
  DoesG Try.prog g17 fs17 #[.func (.yield lr8) #[] #[]] cs17 wr8 fun er8 wer8 =>
  ∃ vr8, er8 = .returned vr8 ∧ LoopAt wer8 lr8 recr8 .ready ∧ ∀ wzr8, Turned wer8 lr8 wzr8 →
  InK .i64 (x12 + 1) ∧ ∃ ml3, ml3 < nl3 ∧ ∃ es3_, (markOf Dr8 :: (es3 ++ [])) = es3_ ++ [] ∧ I3 es3_ (x12 + 1) ml3 wzr8)
  (LeavesV (fun wk => R (.returned (.tuple #[])) wk) (fun chk wp => R (.panicked chk) wp) Try.prog (es3 ++ []) (.returning) wl3))
def f11_ann : Ann := { loops := [(3, [(12, .int .i64)])], cuts := [], flip := [], throws := [], ranges := [(8, [(18, .int .u8), (19, .int .i64)])] }
theorem f11_eq (a0 : Option Addr) (p1 : Option Addr) (l1 c1 : Nat) (w : World) (R : Ending → World → Prop) : vc Try.prog f11_ann (bodyOf Try.f11) (retQ Try.prog Try.f11 R) (envOf Try.f11.ntmps [.v (.pointer a0), .v (.slice p1 l1 c1)]) [] w = f11_vc a0 p1 l1 c1 w R := by kernel_rfl
theorem f11_does (a0 : Option Addr) (p1 : Option Addr) (l1 c1 : Nat) {w : World} {R : Ending → World → Prop} (h : f11_vc a0 p1 l1 c1 w R) : Does Try.prog 11 #[.pointer a0, .slice p1 l1 c1] w R :=
  does_of_vc (ss := [.v (.pointer a0), .v (.slice p1 l1 c1)]) f11_ann mixed call11 Try.func11 rfl rfl (show 2 ≤ Try.f11.ntmps by decide) ((f11_eq a0 p1 l1 c1 w R).symm ▸ h)
/-- Of (*escritoire/mark.Marks).Get (function 12): the condition. -/
def f12_vc (a0 : Option Addr) (a1 : Int) (w : World) (R : Ending → World → Prop) : Prop :=
  Br a0.isNone
  (R (.returned (.tuple #[.int .i64 0, .bool false])) w)
  (Does Try.prog 21 #[.int .u8 a1] w fun e10 w10 =>
  ∃ b10 : Bool, e10 = .returned (.bool b10) ∧ Br (!b10)
  (R (.returned (.tuple #[.int .i64 0, .bool false])) w10)
  (∃ b17 o17, a0 = some ⟨b17, o17, none⟩ ∧ ((0 : Int) ≤ (IntKind.wrap .u8 (a1 - 97)) ∧ (IntKind.wrap .u8 (a1 - 97)) < ((26 : Nat) : Int)) ∧ ∃ n20 : Int, w10.cell? ⟨b17, o17 + 1 + (IntKind.wrap .u8 (a1 - 97)).toNat, none⟩ = some (.int .i64 n20) ∧ Br (n20 == 0)
  (R (.returned (.tuple #[.int .i64 0, .bool false])) w10)
  (∃ b26 o26, a0 = some ⟨b26, o26, none⟩ ∧ ((0 : Int) ≤ (IntKind.wrap .u8 (a1 - 97)) ∧ (IntKind.wrap .u8 (a1 - 97)) < ((26 : Nat) : Int)) ∧ ∃ n29 : Int, w10.cell? ⟨b26, o26 + 1 + (IntKind.wrap .u8 (a1 - 97)).toNat, none⟩ = some (.int .i64 n29) ∧ InK .i64 (n29 - 1) ∧ R (.returned (.tuple #[.int .i64 (n29 - 1), .bool true])) w10)))
def f12_ann : Ann := { loops := [], cuts := [], flip := [], throws := [] }
theorem f12_eq (a0 : Option Addr) (a1 : Int) (w : World) (R : Ending → World → Prop) : vc Try.prog f12_ann (bodyOf Try.f12) (retQ Try.prog Try.f12 R) (envOf Try.f12.ntmps [.v (.pointer a0), .v (.int .u8 a1)]) [] w = f12_vc a0 a1 w R := by kernel_rfl
theorem f12_does (a0 : Option Addr) (a1 : Int) {w : World} {R : Ending → World → Prop} (h : f12_vc a0 a1 w R) : Does Try.prog 12 #[.pointer a0, .int .u8 a1] w R :=
  does_of_vc (ss := [.v (.pointer a0), .v (.int .u8 a1)]) f12_ann mixed call12 Try.func12 rfl rfl (show 2 ≤ Try.f12.ntmps by decide) ((f12_eq a0 a1 w R).symm ▸ h)
/-- Of escritoire/escritoireref18.Turn (function 13): the condition. -/
def f13_vc (p0 : Option Addr) (l0 c0 : Nat) (w : World) (R : Ending → World → Prop) : Prop :=
  InK .i64 (((l0 : Int)) - 1) ∧ ∃ I3 : Option Addr → Nat → Nat → Int → Nat → World → Prop, (∃ nl3, I3 none 0 0 (((l0 : Int)) - 1) nl3 w) ∧ ∀ (p3 : Option Addr) (l3 c3 : Nat), ∀ x4 : Int, ∀ (nl3 : Nat) (wl3 : World), I3 p3 l3 c3 x4 nl3 wl3 →
  Br (decide (x4 ≥ 0))
  (∀ wd5, Drew wl3 wd5 →
  ∃ S5 : World → Prop, S5 wd5 ∧ ((0 : Int) ≤ x4 ∧ x4 < (l0 : Int)) ∧ ∃ b15 o15, p0 = some ⟨b15, o15, none⟩ ∧ ∃ n17 : Int, (∀ w, S5 w → w.cell? ⟨b15, o15 + (x4).toNat * 3, none⟩ = some (.int .i64 n17)) ∧ ((0 : Int) ≤ x4 ∧ x4 < (l0 : Int)) ∧ ∃ b20 o20, p0 = some ⟨b20, o20, none⟩ ∧ ∃ (p22 : Option Addr) (l22 c22 : Nat), wd5.cell? ⟨b20, o20 + (x4).toNat * 3 + 2, none⟩ = some (.slice p22 l22 c22) ∧ Does Try.prog 24 #[.slice p22 l22 c22] wd5 fun e23 w23 =>
  ∃ (p23 : Option Addr) (l23 c23 : Nat), e23 = .returned (.slice p23 l23 c23) ∧ S5 w23 ∧ ((0 : Int) ≤ x4 ∧ x4 < (l0 : Int)) ∧ ∃ b26 o26, p0 = some ⟨b26, o26, none⟩ ∧ ∃ (p28 : Option Addr) (l28 c28 : Nat), (∀ w, S5 w → w.cell? ⟨b26, o26 + (x4).toNat * 3 + 1, none⟩ = some (.slice p28 l28 c28)) ∧ Does Try.prog 24 #[.slice p28 l28 c28] w23 fun e29 w29 =>
  ∃ (p29 : Option Addr) (l29 c29 : Nat), e29 = .returned (.slice p29 l29 c29) ∧ S5 w29 ∧ ∀ b31 w31, NewBlk w29 b31 [.int .i64 n17, .slice p23 l23 c23, .slice p29 l29 c29] 27 w31 →
  ∃ (p32 : Option Addr) (l32 c32 : Nat) (w32 : World), (Builtin.append_ #[22, 22] 22 #[.slice p3 l3 c3, .slice (some ⟨b31, 0, none⟩) 1 1]).run Try.prog w31 = .ok (.slice p32 l32 c32) w32 ∧
  InK .i64 (x4 - 1) ∧ ∃ ml3, ml3 < nl3 ∧ I3 p32 l32 c32 (x4 - 1) ml3 w32)
  (R (.returned (.slice p3 l3 c3)) wl3)
def f13_ann : Ann := { loops := [(3, [(3, .slice), (4, .int .i64)])], cuts := [], flip := [], throws := [] }
theorem f13_eq (p0 : Option Addr) (l0 c0 : Nat) (w : World) (R : Ending → World → Prop) : vc Try.prog f13_ann (bodyOf Try.f13) (retQ Try.prog Try.f13 R) (envOf Try.f13.ntmps [.v (.slice p0 l0 c0)]) [] w = f13_vc p0 l0 c0 w R := by kernel_rfl
theorem f13_does (p0 : Option Addr) (l0 c0 : Nat) {w : World} {R : Ending → World → Prop} (h : f13_vc p0 l0 c0 w R) : Does Try.prog 13 #[.slice p0 l0 c0] w R :=
  does_of_vc (ss := [.v (.slice p0 l0 c0)]) f13_ann mixed call13 Try.func13 rfl rfl (show 1 ≤ Try.f13.ntmps by decide) ((f13_eq p0 l0 c0 w R).symm ▸ h)
/-- Of escritoire/mark.Load (function 14): the condition. -/
def f14_vc (p0 : Option Addr) (l0 c0 : Nat) (w : World) (R : Ending → World → Prop) : Prop :=
  Does Try.prog 9 #[] w fun e7 w7 =>
  ∃ p7 : Option Addr, e7 = .returned (.pointer p7) ∧ ∃ I3 : Int → Nat → World → Prop, (∃ nl3, I3 0 nl3 w7) ∧ ∀ x10 : Int, ∀ (nl3 : Nat) (wl3 : World), I3 x10 nl3 wl3 →
  Br (decide (x10 < ((l0 : Int))))
  (((0 : Int) ≤ x10 ∧ x10 < (l0 : Int)) ∧ ∃ b13 o13, p0 = some ⟨b13, o13, none⟩ ∧ ∃ n14 : Int, wl3.cell? ⟨b13, o13 + (x10).toNat * 2, none⟩ = some (.int .u8 n14) ∧ ∃ n14_1 : Int, wl3.cell? ⟨b13, o13 + (x10).toNat * 2 + 1, none⟩ = some (.int .i64 n14_1) ∧ ∀ b6 w6, NewBlk wl3 b6 [.int .u8 0, .int .i64 0] 40 w6 →
  CanStore w6 b6 0 ∧ ∀ ws, Stored w6 b6 0 (.int .u8 n14) ws →
  CanStore ws b6 1 ∧ ∀ ws_1, Stored ws b6 1 (.int .i64 n14_1) ws_1 →
  ∀ wd5, Drew ws_1 wd5 →
  Br (decide (x10 > 0))
  (InK .i64 (x10 - 1) ∧ ((0 : Int) ≤ (x10 - 1) ∧ (x10 - 1) < (l0 : Int)) ∧ ∃ b21 o21, p0 = some ⟨b21, o21, none⟩ ∧ ∃ n23 : Int, wd5.cell? ⟨b21, o21 + (x10 - 1).toNat * 2, none⟩ = some (.int .u8 n23) ∧ ∃ n25 : Int, wd5.cell? ⟨b6, 0, none⟩ = some (.int .u8 n25) ∧ Br (decide (n23 ≥ n25))
  (R (.returned (.tuple #[.pointer none, .bool false])) wd5)
  (∃ n31 : Int, wd5.cell? ⟨b6, 0, none⟩ = some (.int .u8 n31) ∧ ∃ n33 : Int, wd5.cell? ⟨b6, 1, none⟩ = some (.int .i64 n33) ∧ Does Try.prog 10 #[.pointer p7, .int .u8 n31, .int .i64 n33] wd5 fun e34 w34 =>
  ∃ b34 : Bool, e34 = .returned (.bool b34) ∧ Br (!b34)
  (R (.returned (.tuple #[.pointer none, .bool false])) w34)
  (InK .i64 (x10 + 1) ∧ ∃ ml3, ml3 < nl3 ∧ I3 (x10 + 1) ml3 w34)))
  (∃ n31_1 : Int, wd5.cell? ⟨b6, 0, none⟩ = some (.int .u8 n31_1) ∧ ∃ n33_1 : Int, wd5.cell? ⟨b6, 1, none⟩ = some (.int .i64 n33_1) ∧ Does Try.prog 10 #[.pointer p7, .int .u8 n31_1, .int .i64 n33_1] wd5 fun e34_1 w34_1 =>
  ∃ b34_1 : Bool, e34_1 = .returned (.bool b34_1) ∧ Br (!b34_1)
  (R (.returned (.tuple #[.pointer none, .bool false])) w34_1)
  (InK .i64 (x10 + 1) ∧ ∃ ml3, ml3 < nl3 ∧ I3 (x10 + 1) ml3 w34_1)))
  (R (.returned (.tuple #[.pointer p7, .bool true])) wl3)
def f14_ann : Ann := { loops := [(3, [(10, .int .i64)])], cuts := [], flip := [], throws := [] }
theorem f14_eq (p0 : Option Addr) (l0 c0 : Nat) (w : World) (R : Ending → World → Prop) : vc Try.prog f14_ann (bodyOf Try.f14) (retQ Try.prog Try.f14 R) (envOf Try.f14.ntmps [.v (.slice p0 l0 c0)]) [] w = f14_vc p0 l0 c0 w R := by kernel_rfl
theorem f14_does (p0 : Option Addr) (l0 c0 : Nat) {w : World} {R : Ending → World → Prop} (h : f14_vc p0 l0 c0 w R) : Does Try.prog 14 #[.slice p0 l0 c0] w R :=
  does_of_vc (ss := [.v (.slice p0 l0 c0)]) f14_ann mixed call14 Try.func14 rfl rfl (show 1 ≤ Try.f14.ntmps by decide) ((f14_eq p0 l0 c0 w R).symm ▸ h)
/-- Of escritoire/escritoireref18.SetMark (function 15): the condition. -/
def f15_vc (p0 : Option Addr) (l0 c0 : Nat) (a1 : Int) (a2 : Int) (w : World) (R : Ending → World → Prop) : Prop :=
  Br (decide (a1 < 97))
  (R (.returned (.tuple #[.slice p0 l0 c0, .bool false])) w)
  (Br (decide (a1 > 122))
  (R (.returned (.tuple #[.slice p0 l0 c0, .bool false])) w)
  (Does Try.prog 25 #[.int .i64 a2] w fun e19 w19 =>
  ∃ b19 : Bool, e19 = .returned (.bool b19) ∧ Br (!b19)
  (R (.returned (.tuple #[.slice p0 l0 c0, .bool false])) w19)
  (∃ I6 : Option Addr → Nat → Nat → Bool → Int → Nat → World → Prop, (∃ nl6, I6 none 0 0 false 0 nl6 w19) ∧ ∀ (p8 : Option Addr) (l8 c8 : Nat), ∀ b9 : Bool, ∀ x10 : Int, ∀ (nl6 : Nat) (wl6 : World), I6 p8 l8 c8 b9 x10 nl6 wl6 →
  Br (decide (x10 < ((l0 : Int))))
  (Br (!b9)
  (((0 : Int) ≤ x10 ∧ x10 < (l0 : Int)) ∧ ∃ b34 o34, p0 = some ⟨b34, o34, none⟩ ∧ ∃ n36 : Int, wl6.cell? ⟨b34, o34 + (x10).toNat * 2, none⟩ = some (.int .u8 n36) ∧ Br (decide (n36 ≥ a1))
  (∀ b44 w44, NewBlk wl6 b44 [.int .u8 a1, .int .i64 a2] 40 w44 →
  ∃ (p45 : Option Addr) (l45 c45 : Nat) (w45 : World), (Builtin.append_ #[41, 41] 41 #[.slice p8 l8 c8, .slice (some ⟨b44, 0, none⟩) 1 1]).run Try.prog w44 = .ok (.slice p45 l45 c45) w45 ∧
  ((0 : Int) ≤ x10 ∧ x10 < (l0 : Int)) ∧ ∃ b48 o48, p0 = some ⟨b48, o48, none⟩ ∧ ∃ n50 : Int, w45.cell? ⟨b48, o48 + (x10).toNat * 2, none⟩ = some (.int .u8 n50) ∧ Br (n50 != a1)
  (((0 : Int) ≤ x10 ∧ x10 < (l0 : Int)) ∧ ∃ b56 o56, p0 = some ⟨b56, o56, none⟩ ∧ ∃ n57 : Int, w45.cell? ⟨b56, o56 + (x10).toNat * 2, none⟩ = some (.int .u8 n57) ∧ ∃ n57_1 : Int, w45.cell? ⟨b56, o56 + (x10).toNat * 2 + 1, none⟩ = some (.int .i64 n57_1) ∧ ∀ b58 w58, NewBlk w45 b58 [.int .u8 n57, .int .i64 n57_1] 40 w58 →
  ∃ (p59 : Option Addr) (l59 c59 : Nat) (w59 : World), (Builtin.append_ #[41, 41] 41 #[.slice p45 l45 c45, .slice (some ⟨b58, 0, none⟩) 1 1]).run Try.prog w58 = .ok (.slice p59 l59 c59) w59 ∧
  InK .i64 (x10 + 1) ∧ ∃ ml6, ml6 < nl6 ∧ I6 p59 l59 c59 true (x10 + 1) ml6 w59)
  (InK .i64 (x10 + 1) ∧ ∃ ml6, ml6 < nl6 ∧ I6 p45 l45 c45 true (x10 + 1) ml6 w45))
  (((0 : Int) ≤ x10 ∧ x10 < (l0 : Int)) ∧ ∃ b48_1 o48_1, p0 = some ⟨b48_1, o48_1, none⟩ ∧ ∃ n50_1 : Int, wl6.cell? ⟨b48_1, o48_1 + (x10).toNat * 2, none⟩ = some (.int .u8 n50_1) ∧ Br (n50_1 != a1)
  (((0 : Int) ≤ x10 ∧ x10 < (l0 : Int)) ∧ ∃ b56_1 o56_1, p0 = some ⟨b56_1, o56_1, none⟩ ∧ ∃ n57_2 : Int, wl6.cell? ⟨b56_1, o56_1 + (x10).toNat * 2, none⟩ = some (.int .u8 n57_2) ∧ ∃ n57_3 : Int, wl6.cell? ⟨b56_1, o56_1 + (x10).toNat * 2 + 1, none⟩ = some (.int .i64 n57_3) ∧ ∀ b58_1 w58_1, NewBlk wl6 b58_1 [.int .u8 n57_2, .int .i64 n57_3] 40 w58_1 →
  ∃ (p59_1 : Option Addr) (l59_1 c59_1 : Nat) (w59_1 : World), (Builtin.append_ #[41, 41] 41 #[.slice p8 l8 c8, .slice (some ⟨b58_1, 0, none⟩) 1 1]).run Try.prog w58_1 = .ok (.slice p59_1 l59_1 c59_1) w59_1 ∧
  InK .i64 (x10 + 1) ∧ ∃ ml6, ml6 < nl6 ∧ I6 p59_1 l59_1 c59_1 b9 (x10 + 1) ml6 w59_1)
  (InK .i64 (x10 + 1) ∧ ∃ ml6, ml6 < nl6 ∧ I6 p8 l8 c8 b9 (x10 + 1) ml6 wl6)))
  (((0 : Int) ≤ x10 ∧ x10 < (l0 : Int)) ∧ ∃ b48_2 o48_2, p0 = some ⟨b48_2, o48_2, none⟩ ∧ ∃ n50_2 : Int, wl6.cell? ⟨b48_2, o48_2 + (x10).toNat * 2, none⟩ = some (.int .u8 n50_2) ∧ Br (n50_2 != a1)
  (((0 : Int) ≤ x10 ∧ x10 < (l0 : Int)) ∧ ∃ b56_2 o56_2, p0 = some ⟨b56_2, o56_2, none⟩ ∧ ∃ n57_4 : Int, wl6.cell? ⟨b56_2, o56_2 + (x10).toNat * 2, none⟩ = some (.int .u8 n57_4) ∧ ∃ n57_5 : Int, wl6.cell? ⟨b56_2, o56_2 + (x10).toNat * 2 + 1, none⟩ = some (.int .i64 n57_5) ∧ ∀ b58_2 w58_2, NewBlk wl6 b58_2 [.int .u8 n57_4, .int .i64 n57_5] 40 w58_2 →
  ∃ (p59_2 : Option Addr) (l59_2 c59_2 : Nat) (w59_2 : World), (Builtin.append_ #[41, 41] 41 #[.slice p8 l8 c8, .slice (some ⟨b58_2, 0, none⟩) 1 1]).run Try.prog w58_2 = .ok (.slice p59_2 l59_2 c59_2) w59_2 ∧
  InK .i64 (x10 + 1) ∧ ∃ ml6, ml6 < nl6 ∧ I6 p59_2 l59_2 c59_2 b9 (x10 + 1) ml6 w59_2)
  (InK .i64 (x10 + 1) ∧ ∃ ml6, ml6 < nl6 ∧ I6 p8 l8 c8 b9 (x10 + 1) ml6 wl6)))
  (Br (!b9)
  (∀ b66 w66, NewBlk wl6 b66 [.int .u8 a1, .int .i64 a2] 40 w66 →
  ∃ (p67 : Option Addr) (l67 c67 : Nat) (w67 : World), (Builtin.append_ #[41, 41] 41 #[.slice p8 l8 c8, .slice (some ⟨b66, 0, none⟩) 1 1]).run Try.prog w66 = .ok (.slice p67 l67 c67) w67 ∧
  R (.returned (.tuple #[.slice p67 l67 c67, .bool true])) w67)
  (R (.returned (.tuple #[.slice p8 l8 c8, .bool true])) wl6)))))
def f15_ann : Ann := { loops := [(6, [(8, .slice), (9, .bool), (10, .int .i64)])], cuts := [], flip := [], throws := [] }
theorem f15_eq (p0 : Option Addr) (l0 c0 : Nat) (a1 : Int) (a2 : Int) (w : World) (R : Ending → World → Prop) : vc Try.prog f15_ann (bodyOf Try.f15) (retQ Try.prog Try.f15 R) (envOf Try.f15.ntmps [.v (.slice p0 l0 c0), .v (.int .u8 a1), .v (.int .i64 a2)]) [] w = f15_vc p0 l0 c0 a1 a2 w R := by kernel_rfl
theorem f15_does (p0 : Option Addr) (l0 c0 : Nat) (a1 : Int) (a2 : Int) {w : World} {R : Ending → World → Prop} (h : f15_vc p0 l0 c0 a1 a2 w R) : Does Try.prog 15 #[.slice p0 l0 c0, .int .u8 a1, .int .i64 a2] w R :=
  does_of_vc (ss := [.v (.slice p0 l0 c0), .v (.int .u8 a1), .v (.int .i64 a2)]) f15_ann mixed call15 Try.func15 rfl rfl (show 3 ≤ Try.f15.ntmps by decide) ((f15_eq p0 l0 c0 a1 a2 w R).symm ▸ h)
/-- Of (*escritoire/mark.Marks).Clone (function 16): the condition. -/
def f16_vc (a0 : Option Addr) (w : World) (R : Ending → World → Prop) : Prop :=
  Br a0.isNone
  (R (.returned (.pointer none)) w)
  (∃ b8 o8, a0 = some ⟨b8, o8, none⟩ ∧ ∃ b10 : Bool, w.cell? ⟨b8, o8, none⟩ = some (.bool b10) ∧ Br (!b10)
  (R (.returned (.pointer none)) w)
  (∃ b14 o14, a0 = some ⟨b14, o14, none⟩ ∧ ∃ b15 : Bool, w.cell? ⟨b14, o14, none⟩ = some (.bool b15) ∧ ∃ n15 : Int, w.cell? ⟨b14, o14 + 1, none⟩ = some (.int .i64 n15) ∧ ∃ n15_1 : Int, w.cell? ⟨b14, o14 + 2, none⟩ = some (.int .i64 n15_1) ∧ ∃ n15_2 : Int, w.cell? ⟨b14, o14 + 3, none⟩ = some (.int .i64 n15_2) ∧ ∃ n15_3 : Int, w.cell? ⟨b14, o14 + 4, none⟩ = some (.int .i64 n15_3) ∧ ∃ n15_4 : Int, w.cell? ⟨b14, o14 + 5, none⟩ = some (.int .i64 n15_4) ∧ ∃ n15_5 : Int, w.cell? ⟨b14, o14 + 6, none⟩ = some (.int .i64 n15_5) ∧ ∃ n15_6 : Int, w.cell? ⟨b14, o14 + 7, none⟩ = some (.int .i64 n15_6) ∧ ∃ n15_7 : Int, w.cell? ⟨b14, o14 + 8, none⟩ = some (.int .i64 n15_7) ∧ ∃ n15_8 : Int, w.cell? ⟨b14, o14 + 9, none⟩ = some (.int .i64 n15_8) ∧ ∃ n15_9 : Int, w.cell? ⟨b14, o14 + 10, none⟩ = some (.int .i64 n15_9) ∧ ∃ n15_10 : Int, w.cell? ⟨b14, o14 + 11, none⟩ = some (.int .i64 n15_10) ∧ ∃ n15_11 : Int, w.cell? ⟨b14, o14 + 12, none⟩ = some (.int .i64 n15_11) ∧ ∃ n15_12 : Int, w.cell? ⟨b14, o14 + 13, none⟩ = some (.int .i64 n15_12) ∧ ∃ n15_13 : Int, w.cell? ⟨b14, o14 + 14, none⟩ = some (.int .i64 n15_13) ∧ ∃ n15_14 : Int, w.cell? ⟨b14, o14 + 15, none⟩ = some (.int .i64 n15_14) ∧ ∃ n15_15 : Int, w.cell? ⟨b14, o14 + 16, none⟩ = some (.int .i64 n15_15) ∧ ∃ n15_16 : Int, w.cell? ⟨b14, o14 + 17, none⟩ = some (.int .i64 n15_16) ∧ ∃ n15_17 : Int, w.cell? ⟨b14, o14 + 18, none⟩ = some (.int .i64 n15_17) ∧ ∃ n15_18 : Int, w.cell? ⟨b14, o14 + 19, none⟩ = some (.int .i64 n15_18) ∧ ∃ n15_19 : Int, w.cell? ⟨b14, o14 + 20, none⟩ = some (.int .i64 n15_19) ∧ ∃ n15_20 : Int, w.cell? ⟨b14, o14 + 21, none⟩ = some (.int .i64 n15_20) ∧ ∃ n15_21 : Int, w.cell? ⟨b14, o14 + 22, none⟩ = some (.int .i64 n15_21) ∧ ∃ n15_22 : Int, w.cell? ⟨b14, o14 + 23, none⟩ = some (.int .i64 n15_22) ∧ ∃ n15_23 : Int, w.cell? ⟨b14, o14 + 24, none⟩ = some (.int .i64 n15_23) ∧ ∃ n15_24 : Int, w.cell? ⟨b14, o14 + 25, none⟩ = some (.int .i64 n15_24) ∧ ∃ n15_25 : Int, w.cell? ⟨b14, o14 + 26, none⟩ = some (.int .i64 n15_25) ∧ ∀ b3 w3, NewBlk w b3 [.bool false, .int .i64 0, .int .i64 0, .int .i64 0, .int .i64 0, .int .i64 0, .int .i64 0, .int .i64 0, .int .i64 0, .int .i64 0, .int .i64 0, .int .i64 0, .int .i64 0, .int .i64 0, .int .i64 0, .int .i64 0, .int .i64 0, .int .i64 0, .int .i64 0, .int .i64 0, .int .i64 0, .int .i64 0, .int .i64 0, .int .i64 0, .int .i64 0, .int .i64 0, .int .i64 0] 51 w3 →
  CanStore w3 b3 0 ∧ ∀ ws, Stored w3 b3 0 (.bool b15) ws →
  CanStore ws b3 1 ∧ ∀ ws_1, Stored ws b3 1 (.int .i64 n15) ws_1 →
  CanStore ws_1 b3 2 ∧ ∀ ws_2, Stored ws_1 b3 2 (.int .i64 n15_1) ws_2 →
  CanStore ws_2 b3 3 ∧ ∀ ws_3, Stored ws_2 b3 3 (.int .i64 n15_2) ws_3 →
  CanStore ws_3 b3 4 ∧ ∀ ws_4, Stored ws_3 b3 4 (.int .i64 n15_3) ws_4 →
  CanStore ws_4 b3 5 ∧ ∀ ws_5, Stored ws_4 b3 5 (.int .i64 n15_4) ws_5 →
  CanStore ws_5 b3 6 ∧ ∀ ws_6, Stored ws_5 b3 6 (.int .i64 n15_5) ws_6 →
  CanStore ws_6 b3 7 ∧ ∀ ws_7, Stored ws_6 b3 7 (.int .i64 n15_6) ws_7 →
  CanStore ws_7 b3 8 ∧ ∀ ws_8, Stored ws_7 b3 8 (.int .i64 n15_7) ws_8 →
  CanStore ws_8 b3 9 ∧ ∀ ws_9, Stored ws_8 b3 9 (.int .i64 n15_8) ws_9 →
  CanStore ws_9 b3 10 ∧ ∀ ws_10, Stored ws_9 b3 10 (.int .i64 n15_9) ws_10 →
  CanStore ws_10 b3 11 ∧ ∀ ws_11, Stored ws_10 b3 11 (.int .i64 n15_10) ws_11 →
  CanStore ws_11 b3 12 ∧ ∀ ws_12, Stored ws_11 b3 12 (.int .i64 n15_11) ws_12 →
  CanStore ws_12 b3 13 ∧ ∀ ws_13, Stored ws_12 b3 13 (.int .i64 n15_12) ws_13 →
  CanStore ws_13 b3 14 ∧ ∀ ws_14, Stored ws_13 b3 14 (.int .i64 n15_13) ws_14 →
  CanStore ws_14 b3 15 ∧ ∀ ws_15, Stored ws_14 b3 15 (.int .i64 n15_14) ws_15 →
  CanStore ws_15 b3 16 ∧ ∀ ws_16, Stored ws_15 b3 16 (.int .i64 n15_15) ws_16 →
  CanStore ws_16 b3 17 ∧ ∀ ws_17, Stored ws_16 b3 17 (.int .i64 n15_16) ws_17 →
  CanStore ws_17 b3 18 ∧ ∀ ws_18, Stored ws_17 b3 18 (.int .i64 n15_17) ws_18 →
  CanStore ws_18 b3 19 ∧ ∀ ws_19, Stored ws_18 b3 19 (.int .i64 n15_18) ws_19 →
  CanStore ws_19 b3 20 ∧ ∀ ws_20, Stored ws_19 b3 20 (.int .i64 n15_19) ws_20 →
  CanStore ws_20 b3 21 ∧ ∀ ws_21, Stored ws_20 b3 21 (.int .i64 n15_20) ws_21 →
  CanStore ws_21 b3 22 ∧ ∀ ws_22, Stored ws_21 b3 22 (.int .i64 n15_21) ws_22 →
  CanStore ws_22 b3 23 ∧ ∀ ws_23, Stored ws_22 b3 23 (.int .i64 n15_22) ws_23 →
  CanStore ws_23 b3 24 ∧ ∀ ws_24, Stored ws_23 b3 24 (.int .i64 n15_23) ws_24 →
  CanStore ws_24 b3 25 ∧ ∀ ws_25, Stored ws_24 b3 25 (.int .i64 n15_24) ws_25 →
  CanStore ws_25 b3 26 ∧ ∀ ws_26, Stored ws_25 b3 26 (.int .i64 n15_25) ws_26 →
  R (.returned (.pointer (some ⟨b3, 0, none⟩))) ws_26))
def f16_ann : Ann := { loops := [], cuts := [], flip := [], throws := [] }
theorem f16_eq (a0 : Option Addr) (w : World) (R : Ending → World → Prop) : vc Try.prog f16_ann (bodyOf Try.f16) (retQ Try.prog Try.f16 R) (envOf Try.f16.ntmps [.v (.pointer a0)]) [] w = f16_vc a0 w R := by kernel_rfl
theorem f16_does (a0 : Option Addr) {w : World} {R : Ending → World → Prop} (h : f16_vc a0 w R) : Does Try.prog 16 #[.pointer a0] w R :=
  does_of_vc (ss := [.v (.pointer a0)]) f16_ann mixed call16 Try.func16 rfl rfl (show 1 ≤ Try.f16.ntmps by decide) ((f16_eq a0 w R).symm ▸ h)
/-- Of escritoire/escritoireref18.MayMarks (function 17): the condition. -/
def f17_vc (p0 : Option Addr) (l0 c0 : Nat) (w : World) (R : Ending → World → Prop) : Prop :=
  ∃ I2 : Int → Nat → World → Prop, (∃ nl2, I2 0 nl2 w) ∧ ∀ x3 : Int, ∀ (nl2 : Nat) (wl2 : World), I2 x3 nl2 wl2 →
  Br (decide (x3 < ((l0 : Int))))
  (∀ wd4, Drew wl2 wd4 →
  ∃ S4 : World → Prop, S4 wd4 ∧ ((0 : Int) ≤ x3 ∧ x3 < (l0 : Int)) ∧ ∃ b12 o12, p0 = some ⟨b12, o12, none⟩ ∧ ∃ n14 : Int, wd4.cell? ⟨b12, o12 + (x3).toNat * 2, none⟩ = some (.int .u8 n14) ∧ Br (decide (n14 < 97))
  (R (.returned (.bool false)) wd4)
  (((0 : Int) ≤ x3 ∧ x3 < (l0 : Int)) ∧ ∃ b19 o19, p0 = some ⟨b19, o19, none⟩ ∧ ∃ n21 : Int, wd4.cell? ⟨b19, o19 + (x3).toNat * 2, none⟩ = some (.int .u8 n21) ∧ Br (decide (n21 > 122))
  (R (.returned (.bool false)) wd4)
  (((0 : Int) ≤ x3 ∧ x3 < (l0 : Int)) ∧ ∃ b27 o27, p0 = some ⟨b27, o27, none⟩ ∧ ∃ n29 : Int, wd4.cell? ⟨b27, o27 + (x3).toNat * 2 + 1, none⟩ = some (.int .i64 n29) ∧ Does Try.prog 25 #[.int .i64 n29] wd4 fun e30 w30 =>
  ∃ b30 : Bool, e30 = .returned (.bool b30) ∧ S4 w30 ∧ Br (!b30)
  (R (.returned (.bool false)) w30)
  (Br (decide (x3 > 0))
  (((0 : Int) ≤ x3 ∧ x3 < (l0 : Int)) ∧ ∃ b39 o39, p0 = some ⟨b39, o39, none⟩ ∧ ∃ n41 : Int, (∀ w, S4 w → w.cell? ⟨b39, o39 + (x3).toNat * 2, none⟩ = some (.int .u8 n41)) ∧ InK .i64 (x3 - 1) ∧ ((0 : Int) ≤ (x3 - 1) ∧ (x3 - 1) < (l0 : Int)) ∧ ∃ b45 o45, p0 = some ⟨b45, o45, none⟩ ∧ ∃ n47 : Int, (∀ w, S4 w → w.cell? ⟨b45, o45 + (x3 - 1).toNat * 2, none⟩ = some (.int .u8 n47)) ∧ Br (decide (n41 ≤ n47))
  (R (.returned (.bool false)) w30)
  (InK .i64 (x3 + 1) ∧ ∃ ml2, ml2 < nl2 ∧ I2 (x3 + 1) ml2 w30))
  (InK .i64 (x3 + 1) ∧ ∃ ml2, ml2 < nl2 ∧ I2 (x3 + 1) ml2 w30)))))
  (R (.returned (.bool true)) wl2)
def f17_ann : Ann := { loops := [(2, [(3, .int .i64)])], cuts := [], flip := [], throws := [] }
theorem f17_eq (p0 : Option Addr) (l0 c0 : Nat) (w : World) (R : Ending → World → Prop) : vc Try.prog f17_ann (bodyOf Try.f17) (retQ Try.prog Try.f17 R) (envOf Try.f17.ntmps [.v (.slice p0 l0 c0)]) [] w = f17_vc p0 l0 c0 w R := by kernel_rfl
theorem f17_does (p0 : Option Addr) (l0 c0 : Nat) {w : World} {R : Ending → World → Prop} (h : f17_vc p0 l0 c0 w R) : Does Try.prog 17 #[.slice p0 l0 c0] w R :=
  does_of_vc (ss := [.v (.slice p0 l0 c0)]) f17_ann mixed call17 Try.func17 rfl rfl (show 1 ≤ Try.f17.ntmps by decide) ((f17_eq p0 l0 c0 w R).symm ▸ h)
/-- Of escritoire/escritoireref18.SameMarks (function 18): the condition. -/
def f18_vc (p0 : Option Addr) (l0 c0 : Nat) (p1 : Option Addr) (l1 c1 : Nat) (w : World) (R : Ending → World → Prop) : Prop :=
  Br (((l0 : Int)) != ((l1 : Int)))
  (R (.returned (.bool false)) w)
  (∃ I4 : Int → Nat → World → Prop, (∃ nl4, I4 0 nl4 w) ∧ ∀ x5 : Int, ∀ (nl4 : Nat) (wl4 : World), I4 x5 nl4 wl4 →
  Br (decide (x5 < ((l0 : Int))))
  (∀ wd6, Drew wl4 wd6 →
  ((0 : Int) ≤ x5 ∧ x5 < (l0 : Int)) ∧ ∃ b19 o19, p0 = some ⟨b19, o19, none⟩ ∧ ∃ n20 : Int, wd6.cell? ⟨b19, o19 + (x5).toNat * 2, none⟩ = some (.int .u8 n20) ∧ ∃ n20_1 : Int, wd6.cell? ⟨b19, o19 + (x5).toNat * 2 + 1, none⟩ = some (.int .i64 n20_1) ∧ ((0 : Int) ≤ x5 ∧ x5 < (l1 : Int)) ∧ ∃ b23 o23, p1 = some ⟨b23, o23, none⟩ ∧ ∃ n24 : Int, wd6.cell? ⟨b23, o23 + (x5).toNat * 2, none⟩ = some (.int .u8 n24) ∧ ∃ n24_1 : Int, wd6.cell? ⟨b23, o23 + (x5).toNat * 2 + 1, none⟩ = some (.int .i64 n24_1) ∧ Br (!((n20 == n24) && ((n20_1 == n24_1) && true)))
  (R (.returned (.bool false)) wd6)
  (InK .i64 (x5 + 1) ∧ ∃ ml4, ml4 < nl4 ∧ I4 (x5 + 1) ml4 wd6))
  (R (.returned (.bool true)) wl4))
def f18_ann : Ann := { loops := [(4, [(5, .int .i64)])], cuts := [], flip := [], throws := [] }
theorem f18_eq (p0 : Option Addr) (l0 c0 : Nat) (p1 : Option Addr) (l1 c1 : Nat) (w : World) (R : Ending → World → Prop) : vc Try.prog f18_ann (bodyOf Try.f18) (retQ Try.prog Try.f18 R) (envOf Try.f18.ntmps [.v (.slice p0 l0 c0), .v (.slice p1 l1 c1)]) [] w = f18_vc p0 l0 c0 p1 l1 c1 w R := by kernel_rfl
theorem f18_does (p0 : Option Addr) (l0 c0 : Nat) (p1 : Option Addr) (l1 c1 : Nat) {w : World} {R : Ending → World → Prop} (h : f18_vc p0 l0 c0 p1 l1 c1 w R) : Does Try.prog 18 #[.slice p0 l0 c0, .slice p1 l1 c1] w R :=
  does_of_vc (ss := [.v (.slice p0 l0 c0), .v (.slice p1 l1 c1)]) f18_ann mixed call18 Try.func18 rfl rfl (show 2 ≤ Try.f18.ntmps by decide) ((f18_eq p0 l0 c0 p1 l1 c1 w R).symm ▸ h)
/-- Of (*escritoire/mark.Marks).All (function 19): the condition. -/
def f19_vc (a0 : Option Addr) (w : World) (R : Ending → World → Prop) : Prop :=
  Br a0.isNone
  (R (.returned (.slice none 0 0)) w)
  (∀ b3 w3, NewBlk w b3 [.slice none 0 0] 41 w3 →
  Does Try.prog 22 #[.pointer a0] w3 fun e9 w9 =>
  ∃ (g9 : Go.Fn) (fs9 cs9 : Array Value), e9 = .returned (.func g9 fs9 cs9) ∧ ∀ (Dr7 lr7 : Nat) (recr7 : Loop) (wr7 : World), Opened w9 Dr7 lr7 recr7 wr7 →
  (∀ x10 : Int, ∀ x11 : Int, ∀ (wyr7 : World) (Rr7 : Ending → World → Prop), LoopAt wyr7 lr7 recr7 .ready →
  (LoopAt wyr7 lr7 recr7 .ready ∧ ∀ wbr7, Turned wyr7 lr7 wbr7 → LoopAt wbr7 lr7 recr7 .busy →
  ∃ (p12 : Option Addr) (l12 c12 : Nat), wbr7.cell? ⟨b3, 0, none⟩ = some (.slice p12 l12 c12) ∧ ∀ b16 w16, NewBlk wbr7 b16 [.int .u8 x10, .int .i64 x11] 40 w16 →
  ∃ (p17 : Option Addr) (l17 c17 : Nat) (w17 : World), (Builtin.append_ #[41, 41] 41 #[.slice p12 l12 c12, .slice (some ⟨b16, 0, none⟩) 1 1]).run Try.prog w16 = .ok (.slice p17 l17 c17) w17 ∧
  CanStore w17 b3 0 ∧ ∀ ws, Stored w17 b3 0 (.slice p17 l17 c17) ws →
  LoopAt ws lr7 recr7 .busy ∧ ∀ wdr7, Turned ws lr7 wdr7 → LoopAt wdr7 lr7 recr7 .ready → Rr7 (.returned (.bool true)) wdr7) →
  YieldsV Try.prog lr7 #[.int .u8 x10, .int .i64 x11] wyr7 Rr7) →
  DoesG Try.prog g9 fs9 #[.func (.yield lr7) #[] #[]] cs9 wr7 fun er7 wer7 =>
  ∃ vr7, er7 = .returned vr7 ∧ LoopAt wer7 lr7 recr7 .ready ∧ ∀ wzr7, Turned wer7 lr7 wzr7 →
  ∃ (p18 : Option Addr) (l18 c18 : Nat), wzr7.cell? ⟨b3, 0, none⟩ = some (.slice p18 l18 c18) ∧ LeavesV (fun wk => R (.returned (.slice p18 l18 c18)) wk) (fun chk wp => R (.panicked chk) wp) Try.prog (markOf Dr7 :: []) (.returning) wzr7)
def f19_ann : Ann := { loops := [], cuts := [], flip := [], throws := [], ranges := [(7, [(10, .int .u8), (11, .int .i64)])] }
theorem f19_eq (a0 : Option Addr) (w : World) (R : Ending → World → Prop) : vc Try.prog f19_ann (bodyOf Try.f19) (retQ Try.prog Try.f19 R) (envOf Try.f19.ntmps [.v (.pointer a0)]) [] w = f19_vc a0 w R := by kernel_rfl
theorem f19_does (a0 : Option Addr) {w : World} {R : Ending → World → Prop} (h : f19_vc a0 w R) : Does Try.prog 19 #[.pointer a0] w R :=
  does_of_vc (ss := [.v (.pointer a0)]) f19_ann mixed call19 Try.func19 rfl rfl (show 1 ≤ Try.f19.ntmps by decide) ((f19_eq a0 w R).symm ▸ h)
/-- Of escritoire/escritoireref18.Shift (function 20): the condition. -/
def f20_vc (p0 : Option Addr) (l0 c0 : Nat) (p1 : Option Addr) (l1 c1 : Nat) (w : World) (R : Ending → World → Prop) : Prop :=
  ∃ I3 : Option Addr → Nat → Nat → Int → Nat → World → Prop, (∃ nl3, I3 none 0 0 0 nl3 w) ∧ ∀ (p5 : Option Addr) (l5 c5 : Nat), ∀ x6 : Int, ∀ (nl3 : Nat) (wl3 : World), I3 p5 l5 c5 x6 nl3 wl3 →
  Br (decide (x6 < ((l0 : Int))))
  (((0 : Int) ≤ x6 ∧ x6 < (l0 : Int)) ∧ ∃ b17 o17, p0 = some ⟨b17, o17, none⟩ ∧ ∃ n18 : Int, wl3.cell? ⟨b17, o17 + (x6).toNat * 2, none⟩ = some (.int .u8 n18) ∧ ∃ n18_1 : Int, wl3.cell? ⟨b17, o17 + (x6).toNat * 2 + 1, none⟩ = some (.int .i64 n18_1) ∧ ∀ b7 w7, NewBlk wl3 b7 [.int .u8 0, .int .i64 0] 40 w7 →
  CanStore w7 b7 0 ∧ ∀ ws, Stored w7 b7 0 (.int .u8 n18) ws →
  CanStore ws b7 1 ∧ ∀ ws_1, Stored ws b7 1 (.int .i64 n18_1) ws_1 →
  ∃ I7 : Int → Nat → World → Prop, (∃ nl7, I7 0 nl7 ws_1) ∧ ∀ x8 : Int, ∀ (nl7 : Nat) (wl7 : World), I7 x8 nl7 wl7 →
  Br (decide (x8 < ((l1 : Int))))
  (∀ wd9, Drew wl7 wd9 →
  ∃ n26 : Int, wd9.cell? ⟨b7, 1, none⟩ = some (.int .i64 n26) ∧ ((0 : Int) ≤ x8 ∧ x8 < (l1 : Int)) ∧ ∃ b29 o29, p1 = some ⟨b29, o29, none⟩ ∧ ∃ n30 : Int, wd9.cell? ⟨b29, o29 + (x8).toNat * 3, none⟩ = some (.int .i64 n30) ∧ ∃ (p30 : Option Addr) (l30 c30 : Nat), wd9.cell? ⟨b29, o29 + (x8).toNat * 3 + 1, none⟩ = some (.slice p30 l30 c30) ∧ ∃ (p30_1 : Option Addr) (l30_1 c30_1 : Nat), wd9.cell? ⟨b29, o29 + (x8).toNat * 3 + 2, none⟩ = some (.slice p30_1 l30_1 c30_1) ∧ Does Try.prog 26 #[.int .i64 n26, .agg #[.int .i64 n30, .slice p30 l30 c30, .slice p30_1 l30_1 c30_1]] wd9 fun e31 w31 =>
  ∃ n31 : Int, e31 = .returned (.int .i64 n31) ∧ CanStore w31 b7 1 ∧ ∀ ws_2, Stored w31 b7 1 (.int .i64 (if 1048576 < n31 then 1048576 else n31)) ws_2 →
  InK .i64 (x8 + 1) ∧ ∃ ml7, ml7 < nl7 ∧ I7 (x8 + 1) ml7 ws_2)
  (∃ n35 : Int, wl7.cell? ⟨b7, 0, none⟩ = some (.int .u8 n35) ∧ ∃ n35_1 : Int, wl7.cell? ⟨b7, 1, none⟩ = some (.int .i64 n35_1) ∧ ∀ b36 w36, NewBlk wl7 b36 [.int .u8 n35, .int .i64 n35_1] 40 w36 →
  ∃ (p37 : Option Addr) (l37 c37 : Nat) (w37 : World), (Builtin.append_ #[41, 41] 41 #[.slice p5 l5 c5, .slice (some ⟨b36, 0, none⟩) 1 1]).run Try.prog w36 = .ok (.slice p37 l37 c37) w37 ∧
  InK .i64 (x6 + 1) ∧ ∃ ml3, ml3 < nl3 ∧ I3 p37 l37 c37 (x6 + 1) ml3 w37))
  (R (.returned (.slice p5 l5 c5)) wl3)
def f20_ann : Ann := { loops := [(3, [(5, .slice), (6, .int .i64)]), (7, [(8, .int .i64)])], cuts := [], flip := [], throws := [] }
theorem f20_eq (p0 : Option Addr) (l0 c0 : Nat) (p1 : Option Addr) (l1 c1 : Nat) (w : World) (R : Ending → World → Prop) : vc Try.prog f20_ann (bodyOf Try.f20) (retQ Try.prog Try.f20 R) (envOf Try.f20.ntmps [.v (.slice p0 l0 c0), .v (.slice p1 l1 c1)]) [] w = f20_vc p0 l0 c0 p1 l1 c1 w R := by kernel_rfl
theorem f20_does (p0 : Option Addr) (l0 c0 : Nat) (p1 : Option Addr) (l1 c1 : Nat) {w : World} {R : Ending → World → Prop} (h : f20_vc p0 l0 c0 p1 l1 c1 w R) : Does Try.prog 20 #[.slice p0 l0 c0, .slice p1 l1 c1] w R :=
  does_of_vc (ss := [.v (.slice p0 l0 c0), .v (.slice p1 l1 c1)]) f20_ann mixed call20 Try.func20 rfl rfl (show 2 ≤ Try.f20.ntmps by decide) ((f20_eq p0 l0 c0 p1 l1 c1 w R).symm ▸ h)
/-- Of escritoire/mark.named (function 21): the condition. -/
def f21_vc (a0 : Int) (w : World) (R : Ending → World → Prop) : Prop :=
  Br (decide (a0 ≥ 97))
  (R (.returned (.bool (decide (a0 ≤ 122)))) w)
  (R (.returned (.bool false)) w)
def f21_ann : Ann := { loops := [], cuts := [], flip := [], throws := [] }
theorem f21_eq (a0 : Int) (w : World) (R : Ending → World → Prop) : vc Try.prog f21_ann (bodyOf Try.f21) (retQ Try.prog Try.f21 R) (envOf Try.f21.ntmps [.v (.int .u8 a0)]) [] w = f21_vc a0 w R := by kernel_rfl
theorem f21_does (a0 : Int) {w : World} {R : Ending → World → Prop} (h : f21_vc a0 w R) : Does Try.prog 21 #[.int .u8 a0] w R :=
  does_of_vc (ss := [.v (.int .u8 a0)]) f21_ann mixed call21 Try.func21 rfl rfl (show 1 ≤ Try.f21.ntmps by decide) ((f21_eq a0 w R).symm ▸ h)
/-- Of (*escritoire/mark.Marks).each (function 22): the condition. -/
def f22_vc (a0 : Option Addr) (w : World) (R : Ending → World → Prop) : Prop :=
  ∀ b1 w1, NewBlk w b1 [.pointer a0] 28 w1 →
  R (.returned (.func (.func 27) #[] #[.pointer (some ⟨b1, 0, none⟩)])) w1
def f22_ann : Ann := { loops := [], cuts := [], flip := [], throws := [] }
theorem f22_eq (a0 : Option Addr) (w : World) (R : Ending → World → Prop) : vc Try.prog f22_ann (bodyOf Try.f22) (retQ Try.prog Try.f22 R) (envOf Try.f22.ntmps [.v (.pointer a0)]) [] w = f22_vc a0 w R := by kernel_rfl
theorem f22_does (a0 : Option Addr) {w : World} {R : Ending → World → Prop} (h : f22_vc a0 w R) : Does Try.prog 22 #[.pointer a0] w R :=
  does_of_vc (ss := [.v (.pointer a0)]) f22_ann mixed call22 Try.func22 rfl rfl (show 1 ≤ Try.f22.ntmps by decide) ((f22_eq a0 w R).symm ▸ h)
/-- Of escritoire/edit.Place (function 23): the condition. -/
def f23_vc (a0 : Int) (a1_0 : Int) (p1_1 : Option Addr) (l1_1 c1_1 : Nat) (p1_2 : Option Addr) (l1_2 c1_2 : Nat) (w : World) (R : Ending → World → Prop) : Prop :=
  ∀ b3 w3, NewBlk w b3 [.int .i64 a1_0, .slice p1_1 l1_1 c1_1, .slice p1_2 l1_2 c1_2] 27 w3 →
  ∃ n8 : Int, w3.cell? ⟨b3, 0, none⟩ = some (.int .i64 n8) ∧ Br (decide (a0 < n8))
  (R (.returned (.int .i64 a0)) w3)
  (∃ n14 : Int, w3.cell? ⟨b3, 0, none⟩ = some (.int .i64 n14) ∧ InK .i64 (a0 - n14) ∧ ∃ (p17 : Option Addr) (l17 c17 : Nat), w3.cell? ⟨b3, 1, none⟩ = some (.slice p17 l17 c17) ∧ Br (decide ((a0 - n14) ≥ ((l17 : Int))))
  (∃ (p22 : Option Addr) (l22 c22 : Nat), w3.cell? ⟨b3, 2, none⟩ = some (.slice p22 l22 c22) ∧ InK .i64 (a0 + ((l22 : Int))) ∧ ∃ (p26 : Option Addr) (l26 c26 : Nat), w3.cell? ⟨b3, 1, none⟩ = some (.slice p26 l26 c26) ∧ InK .i64 ((a0 + ((l22 : Int))) - ((l26 : Int))) ∧ R (.returned (.int .i64 ((a0 + ((l22 : Int))) - ((l26 : Int))))) w3)
  (∃ n30 : Int, w3.cell? ⟨b3, 0, none⟩ = some (.int .i64 n30) ∧ R (.returned (.int .i64 n30)) w3))
def f23_ann : Ann := { loops := [], cuts := [], flip := [], throws := [] }
theorem f23_eq (a0 : Int) (a1_0 : Int) (p1_1 : Option Addr) (l1_1 c1_1 : Nat) (p1_2 : Option Addr) (l1_2 c1_2 : Nat) (w : World) (R : Ending → World → Prop) : vc Try.prog f23_ann (bodyOf Try.f23) (retQ Try.prog Try.f23 R) (envOf Try.f23.ntmps [.v (.int .i64 a0), .v (.agg #[.int .i64 a1_0, .slice p1_1 l1_1 c1_1, .slice p1_2 l1_2 c1_2])]) [] w = f23_vc a0 a1_0 p1_1 l1_1 c1_1 p1_2 l1_2 c1_2 w R := by kernel_rfl
theorem f23_does (a0 : Int) (a1_0 : Int) (p1_1 : Option Addr) (l1_1 c1_1 : Nat) (p1_2 : Option Addr) (l1_2 c1_2 : Nat) {w : World} {R : Ending → World → Prop} (h : f23_vc a0 a1_0 p1_1 l1_1 c1_1 p1_2 l1_2 c1_2 w R) : Does Try.prog 23 #[.int .i64 a0, .agg #[.int .i64 a1_0, .slice p1_1 l1_1 c1_1, .slice p1_2 l1_2 c1_2]] w R :=
  does_of_vc (ss := [.v (.int .i64 a0), .v (.agg #[.int .i64 a1_0, .slice p1_1 l1_1 c1_1, .slice p1_2 l1_2 c1_2])]) f23_ann mixed call23 Try.func23 rfl rfl (show 2 ≤ Try.f23.ntmps by decide) ((f23_eq a0 a1_0 p1_1 l1_1 c1_1 p1_2 l1_2 c1_2 w R).symm ▸ h)
/-- Of escritoire/escritoireref1.Copy (function 24): the condition. -/
def f24_vc (p0 : Option Addr) (l0 c0 : Nat) (w : World) (R : Ending → World → Prop) : Prop :=
  ∃ I3 : Option Addr → Nat → Nat → Int → Nat → World → Prop, (∃ nl3, I3 none 0 0 0 nl3 w) ∧ ∀ (p3 : Option Addr) (l3 c3 : Nat), ∀ x4 : Int, ∀ (nl3 : Nat) (wl3 : World), I3 p3 l3 c3 x4 nl3 wl3 →
  Br (decide (x4 < ((l0 : Int))))
  (((0 : Int) ≤ x4 ∧ x4 < (l0 : Int)) ∧ ∃ b14 o14, p0 = some ⟨b14, o14, none⟩ ∧ ∃ n15 : Int, wl3.cell? ⟨b14, o14 + (x4).toNat, none⟩ = some (.int .u8 n15) ∧ ∀ b16 w16, NewBlk wl3 b16 [.int .u8 n15] 5 w16 →
  ∃ (p17 : Option Addr) (l17 c17 : Nat) (w17 : World), (Builtin.append_ #[25, 25] 25 #[.slice p3 l3 c3, .slice (some ⟨b16, 0, none⟩) 1 1]).run Try.prog w16 = .ok (.slice p17 l17 c17) w17 ∧
  InK .i64 (x4 + 1) ∧ ∃ ml3, ml3 < nl3 ∧ I3 p17 l17 c17 (x4 + 1) ml3 w17)
  (R (.returned (.slice p3 l3 c3)) wl3)
def f24_ann : Ann := { loops := [(3, [(3, .slice), (4, .int .i64)])], cuts := [], flip := [], throws := [] }
theorem f24_eq (p0 : Option Addr) (l0 c0 : Nat) (w : World) (R : Ending → World → Prop) : vc Try.prog f24_ann (bodyOf Try.f24) (retQ Try.prog Try.f24 R) (envOf Try.f24.ntmps [.v (.slice p0 l0 c0)]) [] w = f24_vc p0 l0 c0 w R := by kernel_rfl
theorem f24_does (p0 : Option Addr) (l0 c0 : Nat) {w : World} {R : Ending → World → Prop} (h : f24_vc p0 l0 c0 w R) : Does Try.prog 24 #[.slice p0 l0 c0] w R :=
  does_of_vc (ss := [.v (.slice p0 l0 c0)]) f24_ann mixed call24 Try.func24 rfl rfl (show 1 ≤ Try.f24.ntmps by decide) ((f24_eq p0 l0 c0 w R).symm ▸ h)
/-- Of escritoire/escritoireref18.good (function 25): the condition. -/
def f25_vc (a0 : Int) (w : World) (R : Ending → World → Prop) : Prop :=
  Br (decide (a0 ≥ 0))
  (R (.returned (.bool (decide (a0 ≤ 1048576)))) w)
  (R (.returned (.bool false)) w)
def f25_ann : Ann := { loops := [], cuts := [], flip := [], throws := [] }
theorem f25_eq (a0 : Int) (w : World) (R : Ending → World → Prop) : vc Try.prog f25_ann (bodyOf Try.f25) (retQ Try.prog Try.f25 R) (envOf Try.f25.ntmps [.v (.int .i64 a0)]) [] w = f25_vc a0 w R := by kernel_rfl
theorem f25_does (a0 : Int) {w : World} {R : Ending → World → Prop} (h : f25_vc a0 w R) : Does Try.prog 25 #[.int .i64 a0] w R :=
  does_of_vc (ss := [.v (.int .i64 a0)]) f25_ann mixed call25 Try.func25 rfl rfl (show 1 ≤ Try.f25.ntmps by decide) ((f25_eq a0 w R).symm ▸ h)
/-- Of escritoire/escritoireref18.Place (function 26): the condition. -/
def f26_vc (a0 : Int) (a1_0 : Int) (p1_1 : Option Addr) (l1_1 c1_1 : Nat) (p1_2 : Option Addr) (l1_2 c1_2 : Nat) (w : World) (R : Ending → World → Prop) : Prop :=
  ∀ b3 w3, NewBlk w b3 [.int .i64 a1_0, .slice p1_1 l1_1 c1_1, .slice p1_2 l1_2 c1_2] 27 w3 →
  ∃ n8 : Int, w3.cell? ⟨b3, 0, none⟩ = some (.int .i64 n8) ∧ Br (decide (a0 < n8))
  (R (.returned (.int .i64 a0)) w3)
  (∃ n14 : Int, w3.cell? ⟨b3, 0, none⟩ = some (.int .i64 n14) ∧ InK .i64 (a0 - n14) ∧ ∃ (p17 : Option Addr) (l17 c17 : Nat), w3.cell? ⟨b3, 1, none⟩ = some (.slice p17 l17 c17) ∧ Br (decide ((a0 - n14) ≥ ((l17 : Int))))
  (∃ (p22 : Option Addr) (l22 c22 : Nat), w3.cell? ⟨b3, 1, none⟩ = some (.slice p22 l22 c22) ∧ InK .i64 (a0 - ((l22 : Int))) ∧ ∃ (p26 : Option Addr) (l26 c26 : Nat), w3.cell? ⟨b3, 2, none⟩ = some (.slice p26 l26 c26) ∧ InK .i64 ((a0 - ((l22 : Int))) + ((l26 : Int))) ∧ R (.returned (.int .i64 ((a0 - ((l22 : Int))) + ((l26 : Int))))) w3)
  (∃ n30 : Int, w3.cell? ⟨b3, 0, none⟩ = some (.int .i64 n30) ∧ R (.returned (.int .i64 n30)) w3))
def f26_ann : Ann := { loops := [], cuts := [], flip := [], throws := [] }
theorem f26_eq (a0 : Int) (a1_0 : Int) (p1_1 : Option Addr) (l1_1 c1_1 : Nat) (p1_2 : Option Addr) (l1_2 c1_2 : Nat) (w : World) (R : Ending → World → Prop) : vc Try.prog f26_ann (bodyOf Try.f26) (retQ Try.prog Try.f26 R) (envOf Try.f26.ntmps [.v (.int .i64 a0), .v (.agg #[.int .i64 a1_0, .slice p1_1 l1_1 c1_1, .slice p1_2 l1_2 c1_2])]) [] w = f26_vc a0 a1_0 p1_1 l1_1 c1_1 p1_2 l1_2 c1_2 w R := by kernel_rfl
theorem f26_does (a0 : Int) (a1_0 : Int) (p1_1 : Option Addr) (l1_1 c1_1 : Nat) (p1_2 : Option Addr) (l1_2 c1_2 : Nat) {w : World} {R : Ending → World → Prop} (h : f26_vc a0 a1_0 p1_1 l1_1 c1_1 p1_2 l1_2 c1_2 w R) : Does Try.prog 26 #[.int .i64 a0, .agg #[.int .i64 a1_0, .slice p1_1 l1_1 c1_1, .slice p1_2 l1_2 c1_2]] w R :=
  does_of_vc (ss := [.v (.int .i64 a0), .v (.agg #[.int .i64 a1_0, .slice p1_1 l1_1 c1_1, .slice p1_2 l1_2 c1_2])]) f26_ann mixed call26 Try.func26 rfl rfl (show 2 ≤ Try.f26.ntmps by decide) ((f26_eq a0 a1_0 p1_1 l1_1 c1_1 p1_2 l1_2 c1_2 w R).symm ▸ h)
/-- Of (*escritoire/mark.Marks).each$1 (function 27): the condition. -/
def f27_vc (g0 : Go.Fn) (fs0 cs0 : Array Value) (a1 : Option Addr) (w : World) (R : Ending → World → Prop) : Prop :=
  ∃ b5 o5, a1 = some ⟨b5, o5, none⟩ ∧ ∃ p5 : Option Addr, w.cell? ⟨b5, o5, none⟩ = some (.pointer p5) ∧ ∃ b6 o6, p5 = some ⟨b6, o6, none⟩ ∧ ∃ n8 : Int, w.cell? ⟨b6, o6 + 1, none⟩ = some (.int .i64 n8) ∧ ∃ n8_1 : Int, w.cell? ⟨b6, o6 + 2, none⟩ = some (.int .i64 n8_1) ∧ ∃ n8_2 : Int, w.cell? ⟨b6, o6 + 3, none⟩ = some (.int .i64 n8_2) ∧ ∃ n8_3 : Int, w.cell? ⟨b6, o6 + 4, none⟩ = some (.int .i64 n8_3) ∧ ∃ n8_4 : Int, w.cell? ⟨b6, o6 + 5, none⟩ = some (.int .i64 n8_4) ∧ ∃ n8_5 : Int, w.cell? ⟨b6, o6 + 6, none⟩ = some (.int .i64 n8_5) ∧ ∃ n8_6 : Int, w.cell? ⟨b6, o6 + 7, none⟩ = some (.int .i64 n8_6) ∧ ∃ n8_7 : Int, w.cell? ⟨b6, o6 + 8, none⟩ = some (.int .i64 n8_7) ∧ ∃ n8_8 : Int, w.cell? ⟨b6, o6 + 9, none⟩ = some (.int .i64 n8_8) ∧ ∃ n8_9 : Int, w.cell? ⟨b6, o6 + 10, none⟩ = some (.int .i64 n8_9) ∧ ∃ n8_10 : Int, w.cell? ⟨b6, o6 + 11, none⟩ = some (.int .i64 n8_10) ∧ ∃ n8_11 : Int, w.cell? ⟨b6, o6 + 12, none⟩ = some (.int .i64 n8_11) ∧ ∃ n8_12 : Int, w.cell? ⟨b6, o6 + 13, none⟩ = some (.int .i64 n8_12) ∧ ∃ n8_13 : Int, w.cell? ⟨b6, o6 + 14, none⟩ = some (.int .i64 n8_13) ∧ ∃ n8_14 : Int, w.cell? ⟨b6, o6 + 15, none⟩ = some (.int .i64 n8_14) ∧ ∃ n8_15 : Int, w.cell? ⟨b6, o6 + 16, none⟩ = some (.int .i64 n8_15) ∧ ∃ n8_16 : Int, w.cell? ⟨b6, o6 + 17, none⟩ = some (.int .i64 n8_16) ∧ ∃ n8_17 : Int, w.cell? ⟨b6, o6 + 18, none⟩ = some (.int .i64 n8_17) ∧ ∃ n8_18 : Int, w.cell? ⟨b6, o6 + 19, none⟩ = some (.int .i64 n8_18) ∧ ∃ n8_19 : Int, w.cell? ⟨b6, o6 + 20, none⟩ = some (.int .i64 n8_19) ∧ ∃ n8_20 : Int, w.cell? ⟨b6, o6 + 21, none⟩ = some (.int .i64 n8_20) ∧ ∃ n8_21 : Int, w.cell? ⟨b6, o6 + 22, none⟩ = some (.int .i64 n8_21) ∧ ∃ n8_22 : Int, w.cell? ⟨b6, o6 + 23, none⟩ = some (.int .i64 n8_22) ∧ ∃ n8_23 : Int, w.cell? ⟨b6, o6 + 24, none⟩ = some (.int .i64 n8_23) ∧ ∃ n8_24 : Int, w.cell? ⟨b6, o6 + 25, none⟩ = some (.int .i64 n8_24) ∧ ∃ n8_25 : Int, w.cell? ⟨b6, o6 + 26, none⟩ = some (.int .i64 n8_25) ∧ ∃ I1 : Int → Nat → World → Prop, (∃ nl1, I1 0 nl1 w) ∧ ∀ x9 : Int, ∀ (nl1 : Nat) (wl1 : World), I1 x9 nl1 wl1 →
  Br (decide (x9 < 26))
  (((0 : Int) ≤ x9 ∧ x9 < ((26 : Nat) : Int)) ∧ (x9 = ((0 : Nat) : Int) → Br (decide (n8 > 0))
  (InK .i64 (97 + x9) ∧ InK .i64 (n8 - 1) ∧ DoesV Try.prog g0 fs0 #[.int .u8 (IntKind.wrap .u8 (97 + x9)), .int .i64 (n8 - 1)] cs0 wl1 fun e22 w22 =>
  ∃ b22 : Bool, e22 = .returned (.bool b22) ∧ Br (!b22)
  (R (.returned (.tuple #[])) w22)
  (InK .i64 (x9 + 1) ∧ ∃ ml1, ml1 < nl1 ∧ I1 (x9 + 1) ml1 w22))
  (InK .i64 (x9 + 1) ∧ ∃ ml1, ml1 < nl1 ∧ I1 (x9 + 1) ml1 wl1)) ∧ (x9 = ((1 : Nat) : Int) → Br (decide (n8_1 > 0))
  (InK .i64 (97 + x9) ∧ InK .i64 (n8_1 - 1) ∧ DoesV Try.prog g0 fs0 #[.int .u8 (IntKind.wrap .u8 (97 + x9)), .int .i64 (n8_1 - 1)] cs0 wl1 fun e22_1 w22_1 =>
  ∃ b22_1 : Bool, e22_1 = .returned (.bool b22_1) ∧ Br (!b22_1)
  (R (.returned (.tuple #[])) w22_1)
  (InK .i64 (x9 + 1) ∧ ∃ ml1, ml1 < nl1 ∧ I1 (x9 + 1) ml1 w22_1))
  (InK .i64 (x9 + 1) ∧ ∃ ml1, ml1 < nl1 ∧ I1 (x9 + 1) ml1 wl1)) ∧ (x9 = ((2 : Nat) : Int) → Br (decide (n8_2 > 0))
  (InK .i64 (97 + x9) ∧ InK .i64 (n8_2 - 1) ∧ DoesV Try.prog g0 fs0 #[.int .u8 (IntKind.wrap .u8 (97 + x9)), .int .i64 (n8_2 - 1)] cs0 wl1 fun e22_2 w22_2 =>
  ∃ b22_2 : Bool, e22_2 = .returned (.bool b22_2) ∧ Br (!b22_2)
  (R (.returned (.tuple #[])) w22_2)
  (InK .i64 (x9 + 1) ∧ ∃ ml1, ml1 < nl1 ∧ I1 (x9 + 1) ml1 w22_2))
  (InK .i64 (x9 + 1) ∧ ∃ ml1, ml1 < nl1 ∧ I1 (x9 + 1) ml1 wl1)) ∧ (x9 = ((3 : Nat) : Int) → Br (decide (n8_3 > 0))
  (InK .i64 (97 + x9) ∧ InK .i64 (n8_3 - 1) ∧ DoesV Try.prog g0 fs0 #[.int .u8 (IntKind.wrap .u8 (97 + x9)), .int .i64 (n8_3 - 1)] cs0 wl1 fun e22_3 w22_3 =>
  ∃ b22_3 : Bool, e22_3 = .returned (.bool b22_3) ∧ Br (!b22_3)
  (R (.returned (.tuple #[])) w22_3)
  (InK .i64 (x9 + 1) ∧ ∃ ml1, ml1 < nl1 ∧ I1 (x9 + 1) ml1 w22_3))
  (InK .i64 (x9 + 1) ∧ ∃ ml1, ml1 < nl1 ∧ I1 (x9 + 1) ml1 wl1)) ∧ (x9 = ((4 : Nat) : Int) → Br (decide (n8_4 > 0))
  (InK .i64 (97 + x9) ∧ InK .i64 (n8_4 - 1) ∧ DoesV Try.prog g0 fs0 #[.int .u8 (IntKind.wrap .u8 (97 + x9)), .int .i64 (n8_4 - 1)] cs0 wl1 fun e22_4 w22_4 =>
  ∃ b22_4 : Bool, e22_4 = .returned (.bool b22_4) ∧ Br (!b22_4)
  (R (.returned (.tuple #[])) w22_4)
  (InK .i64 (x9 + 1) ∧ ∃ ml1, ml1 < nl1 ∧ I1 (x9 + 1) ml1 w22_4))
  (InK .i64 (x9 + 1) ∧ ∃ ml1, ml1 < nl1 ∧ I1 (x9 + 1) ml1 wl1)) ∧ (x9 = ((5 : Nat) : Int) → Br (decide (n8_5 > 0))
  (InK .i64 (97 + x9) ∧ InK .i64 (n8_5 - 1) ∧ DoesV Try.prog g0 fs0 #[.int .u8 (IntKind.wrap .u8 (97 + x9)), .int .i64 (n8_5 - 1)] cs0 wl1 fun e22_5 w22_5 =>
  ∃ b22_5 : Bool, e22_5 = .returned (.bool b22_5) ∧ Br (!b22_5)
  (R (.returned (.tuple #[])) w22_5)
  (InK .i64 (x9 + 1) ∧ ∃ ml1, ml1 < nl1 ∧ I1 (x9 + 1) ml1 w22_5))
  (InK .i64 (x9 + 1) ∧ ∃ ml1, ml1 < nl1 ∧ I1 (x9 + 1) ml1 wl1)) ∧ (x9 = ((6 : Nat) : Int) → Br (decide (n8_6 > 0))
  (InK .i64 (97 + x9) ∧ InK .i64 (n8_6 - 1) ∧ DoesV Try.prog g0 fs0 #[.int .u8 (IntKind.wrap .u8 (97 + x9)), .int .i64 (n8_6 - 1)] cs0 wl1 fun e22_6 w22_6 =>
  ∃ b22_6 : Bool, e22_6 = .returned (.bool b22_6) ∧ Br (!b22_6)
  (R (.returned (.tuple #[])) w22_6)
  (InK .i64 (x9 + 1) ∧ ∃ ml1, ml1 < nl1 ∧ I1 (x9 + 1) ml1 w22_6))
  (InK .i64 (x9 + 1) ∧ ∃ ml1, ml1 < nl1 ∧ I1 (x9 + 1) ml1 wl1)) ∧ (x9 = ((7 : Nat) : Int) → Br (decide (n8_7 > 0))
  (InK .i64 (97 + x9) ∧ InK .i64 (n8_7 - 1) ∧ DoesV Try.prog g0 fs0 #[.int .u8 (IntKind.wrap .u8 (97 + x9)), .int .i64 (n8_7 - 1)] cs0 wl1 fun e22_7 w22_7 =>
  ∃ b22_7 : Bool, e22_7 = .returned (.bool b22_7) ∧ Br (!b22_7)
  (R (.returned (.tuple #[])) w22_7)
  (InK .i64 (x9 + 1) ∧ ∃ ml1, ml1 < nl1 ∧ I1 (x9 + 1) ml1 w22_7))
  (InK .i64 (x9 + 1) ∧ ∃ ml1, ml1 < nl1 ∧ I1 (x9 + 1) ml1 wl1)) ∧ (x9 = ((8 : Nat) : Int) → Br (decide (n8_8 > 0))
  (InK .i64 (97 + x9) ∧ InK .i64 (n8_8 - 1) ∧ DoesV Try.prog g0 fs0 #[.int .u8 (IntKind.wrap .u8 (97 + x9)), .int .i64 (n8_8 - 1)] cs0 wl1 fun e22_8 w22_8 =>
  ∃ b22_8 : Bool, e22_8 = .returned (.bool b22_8) ∧ Br (!b22_8)
  (R (.returned (.tuple #[])) w22_8)
  (InK .i64 (x9 + 1) ∧ ∃ ml1, ml1 < nl1 ∧ I1 (x9 + 1) ml1 w22_8))
  (InK .i64 (x9 + 1) ∧ ∃ ml1, ml1 < nl1 ∧ I1 (x9 + 1) ml1 wl1)) ∧ (x9 = ((9 : Nat) : Int) → Br (decide (n8_9 > 0))
  (InK .i64 (97 + x9) ∧ InK .i64 (n8_9 - 1) ∧ DoesV Try.prog g0 fs0 #[.int .u8 (IntKind.wrap .u8 (97 + x9)), .int .i64 (n8_9 - 1)] cs0 wl1 fun e22_9 w22_9 =>
  ∃ b22_9 : Bool, e22_9 = .returned (.bool b22_9) ∧ Br (!b22_9)
  (R (.returned (.tuple #[])) w22_9)
  (InK .i64 (x9 + 1) ∧ ∃ ml1, ml1 < nl1 ∧ I1 (x9 + 1) ml1 w22_9))
  (InK .i64 (x9 + 1) ∧ ∃ ml1, ml1 < nl1 ∧ I1 (x9 + 1) ml1 wl1)) ∧ (x9 = ((10 : Nat) : Int) → Br (decide (n8_10 > 0))
  (InK .i64 (97 + x9) ∧ InK .i64 (n8_10 - 1) ∧ DoesV Try.prog g0 fs0 #[.int .u8 (IntKind.wrap .u8 (97 + x9)), .int .i64 (n8_10 - 1)] cs0 wl1 fun e22_10 w22_10 =>
  ∃ b22_10 : Bool, e22_10 = .returned (.bool b22_10) ∧ Br (!b22_10)
  (R (.returned (.tuple #[])) w22_10)
  (InK .i64 (x9 + 1) ∧ ∃ ml1, ml1 < nl1 ∧ I1 (x9 + 1) ml1 w22_10))
  (InK .i64 (x9 + 1) ∧ ∃ ml1, ml1 < nl1 ∧ I1 (x9 + 1) ml1 wl1)) ∧ (x9 = ((11 : Nat) : Int) → Br (decide (n8_11 > 0))
  (InK .i64 (97 + x9) ∧ InK .i64 (n8_11 - 1) ∧ DoesV Try.prog g0 fs0 #[.int .u8 (IntKind.wrap .u8 (97 + x9)), .int .i64 (n8_11 - 1)] cs0 wl1 fun e22_11 w22_11 =>
  ∃ b22_11 : Bool, e22_11 = .returned (.bool b22_11) ∧ Br (!b22_11)
  (R (.returned (.tuple #[])) w22_11)
  (InK .i64 (x9 + 1) ∧ ∃ ml1, ml1 < nl1 ∧ I1 (x9 + 1) ml1 w22_11))
  (InK .i64 (x9 + 1) ∧ ∃ ml1, ml1 < nl1 ∧ I1 (x9 + 1) ml1 wl1)) ∧ (x9 = ((12 : Nat) : Int) → Br (decide (n8_12 > 0))
  (InK .i64 (97 + x9) ∧ InK .i64 (n8_12 - 1) ∧ DoesV Try.prog g0 fs0 #[.int .u8 (IntKind.wrap .u8 (97 + x9)), .int .i64 (n8_12 - 1)] cs0 wl1 fun e22_12 w22_12 =>
  ∃ b22_12 : Bool, e22_12 = .returned (.bool b22_12) ∧ Br (!b22_12)
  (R (.returned (.tuple #[])) w22_12)
  (InK .i64 (x9 + 1) ∧ ∃ ml1, ml1 < nl1 ∧ I1 (x9 + 1) ml1 w22_12))
  (InK .i64 (x9 + 1) ∧ ∃ ml1, ml1 < nl1 ∧ I1 (x9 + 1) ml1 wl1)) ∧ (x9 = ((13 : Nat) : Int) → Br (decide (n8_13 > 0))
  (InK .i64 (97 + x9) ∧ InK .i64 (n8_13 - 1) ∧ DoesV Try.prog g0 fs0 #[.int .u8 (IntKind.wrap .u8 (97 + x9)), .int .i64 (n8_13 - 1)] cs0 wl1 fun e22_13 w22_13 =>
  ∃ b22_13 : Bool, e22_13 = .returned (.bool b22_13) ∧ Br (!b22_13)
  (R (.returned (.tuple #[])) w22_13)
  (InK .i64 (x9 + 1) ∧ ∃ ml1, ml1 < nl1 ∧ I1 (x9 + 1) ml1 w22_13))
  (InK .i64 (x9 + 1) ∧ ∃ ml1, ml1 < nl1 ∧ I1 (x9 + 1) ml1 wl1)) ∧ (x9 = ((14 : Nat) : Int) → Br (decide (n8_14 > 0))
  (InK .i64 (97 + x9) ∧ InK .i64 (n8_14 - 1) ∧ DoesV Try.prog g0 fs0 #[.int .u8 (IntKind.wrap .u8 (97 + x9)), .int .i64 (n8_14 - 1)] cs0 wl1 fun e22_14 w22_14 =>
  ∃ b22_14 : Bool, e22_14 = .returned (.bool b22_14) ∧ Br (!b22_14)
  (R (.returned (.tuple #[])) w22_14)
  (InK .i64 (x9 + 1) ∧ ∃ ml1, ml1 < nl1 ∧ I1 (x9 + 1) ml1 w22_14))
  (InK .i64 (x9 + 1) ∧ ∃ ml1, ml1 < nl1 ∧ I1 (x9 + 1) ml1 wl1)) ∧ (x9 = ((15 : Nat) : Int) → Br (decide (n8_15 > 0))
  (InK .i64 (97 + x9) ∧ InK .i64 (n8_15 - 1) ∧ DoesV Try.prog g0 fs0 #[.int .u8 (IntKind.wrap .u8 (97 + x9)), .int .i64 (n8_15 - 1)] cs0 wl1 fun e22_15 w22_15 =>
  ∃ b22_15 : Bool, e22_15 = .returned (.bool b22_15) ∧ Br (!b22_15)
  (R (.returned (.tuple #[])) w22_15)
  (InK .i64 (x9 + 1) ∧ ∃ ml1, ml1 < nl1 ∧ I1 (x9 + 1) ml1 w22_15))
  (InK .i64 (x9 + 1) ∧ ∃ ml1, ml1 < nl1 ∧ I1 (x9 + 1) ml1 wl1)) ∧ (x9 = ((16 : Nat) : Int) → Br (decide (n8_16 > 0))
  (InK .i64 (97 + x9) ∧ InK .i64 (n8_16 - 1) ∧ DoesV Try.prog g0 fs0 #[.int .u8 (IntKind.wrap .u8 (97 + x9)), .int .i64 (n8_16 - 1)] cs0 wl1 fun e22_16 w22_16 =>
  ∃ b22_16 : Bool, e22_16 = .returned (.bool b22_16) ∧ Br (!b22_16)
  (R (.returned (.tuple #[])) w22_16)
  (InK .i64 (x9 + 1) ∧ ∃ ml1, ml1 < nl1 ∧ I1 (x9 + 1) ml1 w22_16))
  (InK .i64 (x9 + 1) ∧ ∃ ml1, ml1 < nl1 ∧ I1 (x9 + 1) ml1 wl1)) ∧ (x9 = ((17 : Nat) : Int) → Br (decide (n8_17 > 0))
  (InK .i64 (97 + x9) ∧ InK .i64 (n8_17 - 1) ∧ DoesV Try.prog g0 fs0 #[.int .u8 (IntKind.wrap .u8 (97 + x9)), .int .i64 (n8_17 - 1)] cs0 wl1 fun e22_17 w22_17 =>
  ∃ b22_17 : Bool, e22_17 = .returned (.bool b22_17) ∧ Br (!b22_17)
  (R (.returned (.tuple #[])) w22_17)
  (InK .i64 (x9 + 1) ∧ ∃ ml1, ml1 < nl1 ∧ I1 (x9 + 1) ml1 w22_17))
  (InK .i64 (x9 + 1) ∧ ∃ ml1, ml1 < nl1 ∧ I1 (x9 + 1) ml1 wl1)) ∧ (x9 = ((18 : Nat) : Int) → Br (decide (n8_18 > 0))
  (InK .i64 (97 + x9) ∧ InK .i64 (n8_18 - 1) ∧ DoesV Try.prog g0 fs0 #[.int .u8 (IntKind.wrap .u8 (97 + x9)), .int .i64 (n8_18 - 1)] cs0 wl1 fun e22_18 w22_18 =>
  ∃ b22_18 : Bool, e22_18 = .returned (.bool b22_18) ∧ Br (!b22_18)
  (R (.returned (.tuple #[])) w22_18)
  (InK .i64 (x9 + 1) ∧ ∃ ml1, ml1 < nl1 ∧ I1 (x9 + 1) ml1 w22_18))
  (InK .i64 (x9 + 1) ∧ ∃ ml1, ml1 < nl1 ∧ I1 (x9 + 1) ml1 wl1)) ∧ (x9 = ((19 : Nat) : Int) → Br (decide (n8_19 > 0))
  (InK .i64 (97 + x9) ∧ InK .i64 (n8_19 - 1) ∧ DoesV Try.prog g0 fs0 #[.int .u8 (IntKind.wrap .u8 (97 + x9)), .int .i64 (n8_19 - 1)] cs0 wl1 fun e22_19 w22_19 =>
  ∃ b22_19 : Bool, e22_19 = .returned (.bool b22_19) ∧ Br (!b22_19)
  (R (.returned (.tuple #[])) w22_19)
  (InK .i64 (x9 + 1) ∧ ∃ ml1, ml1 < nl1 ∧ I1 (x9 + 1) ml1 w22_19))
  (InK .i64 (x9 + 1) ∧ ∃ ml1, ml1 < nl1 ∧ I1 (x9 + 1) ml1 wl1)) ∧ (x9 = ((20 : Nat) : Int) → Br (decide (n8_20 > 0))
  (InK .i64 (97 + x9) ∧ InK .i64 (n8_20 - 1) ∧ DoesV Try.prog g0 fs0 #[.int .u8 (IntKind.wrap .u8 (97 + x9)), .int .i64 (n8_20 - 1)] cs0 wl1 fun e22_20 w22_20 =>
  ∃ b22_20 : Bool, e22_20 = .returned (.bool b22_20) ∧ Br (!b22_20)
  (R (.returned (.tuple #[])) w22_20)
  (InK .i64 (x9 + 1) ∧ ∃ ml1, ml1 < nl1 ∧ I1 (x9 + 1) ml1 w22_20))
  (InK .i64 (x9 + 1) ∧ ∃ ml1, ml1 < nl1 ∧ I1 (x9 + 1) ml1 wl1)) ∧ (x9 = ((21 : Nat) : Int) → Br (decide (n8_21 > 0))
  (InK .i64 (97 + x9) ∧ InK .i64 (n8_21 - 1) ∧ DoesV Try.prog g0 fs0 #[.int .u8 (IntKind.wrap .u8 (97 + x9)), .int .i64 (n8_21 - 1)] cs0 wl1 fun e22_21 w22_21 =>
  ∃ b22_21 : Bool, e22_21 = .returned (.bool b22_21) ∧ Br (!b22_21)
  (R (.returned (.tuple #[])) w22_21)
  (InK .i64 (x9 + 1) ∧ ∃ ml1, ml1 < nl1 ∧ I1 (x9 + 1) ml1 w22_21))
  (InK .i64 (x9 + 1) ∧ ∃ ml1, ml1 < nl1 ∧ I1 (x9 + 1) ml1 wl1)) ∧ (x9 = ((22 : Nat) : Int) → Br (decide (n8_22 > 0))
  (InK .i64 (97 + x9) ∧ InK .i64 (n8_22 - 1) ∧ DoesV Try.prog g0 fs0 #[.int .u8 (IntKind.wrap .u8 (97 + x9)), .int .i64 (n8_22 - 1)] cs0 wl1 fun e22_22 w22_22 =>
  ∃ b22_22 : Bool, e22_22 = .returned (.bool b22_22) ∧ Br (!b22_22)
  (R (.returned (.tuple #[])) w22_22)
  (InK .i64 (x9 + 1) ∧ ∃ ml1, ml1 < nl1 ∧ I1 (x9 + 1) ml1 w22_22))
  (InK .i64 (x9 + 1) ∧ ∃ ml1, ml1 < nl1 ∧ I1 (x9 + 1) ml1 wl1)) ∧ (x9 = ((23 : Nat) : Int) → Br (decide (n8_23 > 0))
  (InK .i64 (97 + x9) ∧ InK .i64 (n8_23 - 1) ∧ DoesV Try.prog g0 fs0 #[.int .u8 (IntKind.wrap .u8 (97 + x9)), .int .i64 (n8_23 - 1)] cs0 wl1 fun e22_23 w22_23 =>
  ∃ b22_23 : Bool, e22_23 = .returned (.bool b22_23) ∧ Br (!b22_23)
  (R (.returned (.tuple #[])) w22_23)
  (InK .i64 (x9 + 1) ∧ ∃ ml1, ml1 < nl1 ∧ I1 (x9 + 1) ml1 w22_23))
  (InK .i64 (x9 + 1) ∧ ∃ ml1, ml1 < nl1 ∧ I1 (x9 + 1) ml1 wl1)) ∧ (x9 = ((24 : Nat) : Int) → Br (decide (n8_24 > 0))
  (InK .i64 (97 + x9) ∧ InK .i64 (n8_24 - 1) ∧ DoesV Try.prog g0 fs0 #[.int .u8 (IntKind.wrap .u8 (97 + x9)), .int .i64 (n8_24 - 1)] cs0 wl1 fun e22_24 w22_24 =>
  ∃ b22_24 : Bool, e22_24 = .returned (.bool b22_24) ∧ Br (!b22_24)
  (R (.returned (.tuple #[])) w22_24)
  (InK .i64 (x9 + 1) ∧ ∃ ml1, ml1 < nl1 ∧ I1 (x9 + 1) ml1 w22_24))
  (InK .i64 (x9 + 1) ∧ ∃ ml1, ml1 < nl1 ∧ I1 (x9 + 1) ml1 wl1)) ∧ (x9 = ((25 : Nat) : Int) → Br (decide (n8_25 > 0))
  (InK .i64 (97 + x9) ∧ InK .i64 (n8_25 - 1) ∧ DoesV Try.prog g0 fs0 #[.int .u8 (IntKind.wrap .u8 (97 + x9)), .int .i64 (n8_25 - 1)] cs0 wl1 fun e22_25 w22_25 =>
  ∃ b22_25 : Bool, e22_25 = .returned (.bool b22_25) ∧ Br (!b22_25)
  (R (.returned (.tuple #[])) w22_25)
  (InK .i64 (x9 + 1) ∧ ∃ ml1, ml1 < nl1 ∧ I1 (x9 + 1) ml1 w22_25))
  (InK .i64 (x9 + 1) ∧ ∃ ml1, ml1 < nl1 ∧ I1 (x9 + 1) ml1 wl1)) ∧ True)
  (R (.returned (.tuple #[])) wl1)
def f27_ann : Ann := { loops := [(1, [(9, .int .i64)])], cuts := [], flip := [], throws := [] }
theorem f27_eq (g0 : Go.Fn) (fs0 cs0 : Array Value) (a1 : Option Addr) (w : World) (R : Ending → World → Prop) : vc Try.prog f27_ann (bodyOf Try.f27) (retQ Try.prog Try.f27 R) (envOf Try.f27.ntmps [.v (.func g0 fs0 cs0), .v (.pointer a1)]) [] w = f27_vc g0 fs0 cs0 a1 w R := by kernel_rfl
theorem f27_does (g0 : Go.Fn) (fs0 cs0 : Array Value) (a1 : Option Addr) {w : World} {R : Ending → World → Prop} (h : f27_vc g0 fs0 cs0 a1 w R) : Does Try.prog 27 #[.func g0 fs0 cs0, .pointer a1] w R :=
  does_of_vc (ss := [.v (.func g0 fs0 cs0), .v (.pointer a1)]) f27_ann mixed call27 Try.func27 rfl rfl (show 2 ≤ Try.f27.ntmps by decide) ((f27_eq g0 fs0 cs0 a1 w R).symm ▸ h)
end Go.Proofs.Ytnjacafdoggmaaa
