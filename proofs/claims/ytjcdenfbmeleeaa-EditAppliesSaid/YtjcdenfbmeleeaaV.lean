/-
  Of each function of the code: its verification condition, and that it suffices.
-/
import Derived.Test.YtjcdenfbmeleeaaVcDoes
import Derived.Test.YtjcdenfbmeleeaaProg
set_option maxRecDepth 100000
namespace Go.Proofs.Ytjcdenfbmeleeaa
open Go.RowKit Go.Vc
def bodyOf (fn : Func) : Code := match fn.body with | some c => c | none => .skip
theorem mixed : Try.prog.follows .mixedOrders = true := by kernel_rfl
theorem call3 : callableB Try.prog 3 = true := by kernel_rfl
theorem call4 : callableB Try.prog 4 = true := by kernel_rfl
theorem call5 : callableB Try.prog 5 = true := by kernel_rfl
theorem call6 : callableB Try.prog 6 = true := by kernel_rfl
theorem call7 : callableB Try.prog 7 = true := by kernel_rfl
theorem call8 : callableB Try.prog 8 = true := by kernel_rfl
theorem call9 : callableB Try.prog 9 = true := by kernel_rfl
theorem call10 : callableB Try.prog 10 = true := by kernel_rfl
theorem call11 : callableB Try.prog 11 = true := by kernel_rfl
theorem call12 : callableB Try.prog 12 = true := by kernel_rfl
theorem call13 : callableB Try.prog 13 = true := by kernel_rfl
theorem call14 : callableB Try.prog 14 = true := by kernel_rfl
theorem call15 : callableB Try.prog 15 = true := by kernel_rfl
theorem call16 : callableB Try.prog 16 = true := by kernel_rfl
theorem call17 : callableB Try.prog 17 = true := by kernel_rfl
theorem call18 : callableB Try.prog 18 = true := by kernel_rfl
theorem call19 : callableB Try.prog 19 = true := by kernel_rfl
theorem call20 : callableB Try.prog 20 = true := by kernel_rfl
theorem call21 : callableB Try.prog 21 = true := by kernel_rfl
theorem call22 : callableB Try.prog 22 = true := by kernel_rfl
theorem call23 : callableB Try.prog 23 = true := by kernel_rfl
theorem call24 : callableB Try.prog 24 = true := by kernel_rfl
theorem call25 : callableB Try.prog 25 = true := by kernel_rfl
theorem call26 : callableB Try.prog 26 = true := by kernel_rfl
/-- Of escritoire/escritoirelaw18.EditKnown (function 3): the condition. -/
def f3_vc  (w : World) (R : Ending → World → Prop) : Prop :=
  Does Try.prog 8 #[] w fun e3 w3 =>
  ∃ b3 : Bool, e3 = .returned (.bool b3) ∧ Br (!b3)
  (R (.returned (.bool false)) w3)
  (∀ b6 w6, NewBlk w3 b6 [.int .u8 97, .int .u8 98, .int .u8 99] 5 w6 →
  ∃ (p7 : Option Addr) (l7 c7 : Nat), ∃ w7, (convert 23 23 (.slice (some ⟨b6, 0, none⟩) 3 3)).run Try.prog w6 = .ok (.slice p7 l7 c7) w7 ∧ ∀ b8 w8, NewBlk w7 b8 [.int .u8 99] 5 w8 →
  ∃ (p9 : Option Addr) (l9 c9 : Nat), ∃ w9, (convert 23 23 (.slice (some ⟨b8, 0, none⟩) 1 1)).run Try.prog w8 = .ok (.slice p9 l9 c9) w9 ∧ ∀ b10 w10, NewBlk w9 b10 [.int .u8 120] 5 w10 →
  ∃ (p11 : Option Addr) (l11 c11 : Nat), ∃ w11, (convert 23 23 (.slice (some ⟨b10, 0, none⟩) 1 1)).run Try.prog w10 = .ok (.slice p11 l11 c11) w11 ∧ Does Try.prog 9 #[.slice p7 l7 c7, .agg #[.int .i64 1, .slice p9 l9 c9, .slice p11 l11 c11]] w11 fun e13 w13 =>
  ∃ (p13 : Option Addr) (l13 c13 : Nat), ∃ n13 : Int, e13 = .returned (.tuple #[.slice p13 l13 c13, .int .i64 n13]) ∧ Br (n13 == 1)
  (∀ b19 w19, NewBlk w13 b19 [.int .u8 98] 5 w19 →
  ∃ (p20 : Option Addr) (l20 c20 : Nat), ∃ w20, (convert 23 23 (.slice (some ⟨b19, 0, none⟩) 1 1)).run Try.prog w19 = .ok (.slice p20 l20 c20) w20 ∧ ∀ b21 w21, NewBlk w20 b21 [.int .u8 120, .int .u8 121] 5 w21 →
  ∃ (p22 : Option Addr) (l22 c22 : Nat), ∃ w22, (convert 23 23 (.slice (some ⟨b21, 0, none⟩) 2 2)).run Try.prog w21 = .ok (.slice p22 l22 c22) w22 ∧ Does Try.prog 10 #[.int .i64 1, .agg #[.int .i64 1, .slice p20 l20 c20, .slice p22 l22 c22]] w22 fun e24 w24 =>
  ∃ n24 : Int, e24 = .returned (.int .i64 n24) ∧ Br (n24 == 1)
  (∀ b28 w28, NewBlk w24 b28 [.int .u8 120] 5 w28 →
  ∃ (p29 : Option Addr) (l29 c29 : Nat), ∃ w29, (convert 23 23 (.slice (some ⟨b28, 0, none⟩) 1 1)).run Try.prog w28 = .ok (.slice p29 l29 c29) w29 ∧ Does Try.prog 10 #[.int .i64 0, .agg #[.int .i64 0, .slice none 0 0, .slice p29 l29 c29]] w29 fun e31 w31 =>
  ∃ n31 : Int, e31 = .returned (.int .i64 n31) ∧ R (.returned (.bool (n31 == 1))) w31)
  (R (.returned (.bool false)) w24))
  (R (.returned (.bool false)) w13))
def f3_ann : Ann := { loops := [], cuts := [], flip := [], throws := [] }
theorem f3_eq  (w : World) (R : Ending → World → Prop) : vc Try.prog f3_ann (bodyOf Try.f3) (retQ Try.prog Try.f3 R) (envOf Try.f3.ntmps []) w = f3_vc  w R := by kernel_rfl
theorem f3_does  {w : World} {R : Ending → World → Prop} (h : f3_vc  w R) : Does Try.prog 3 #[] w R :=
  does_of_vc (ss := []) f3_ann mixed call3 Try.func3 rfl rfl (show 0 ≤ Try.f3.ntmps by decide) ((f3_eq  w R).symm ▸ h)
/-- Of escritoire/escritoirelaw18.EditBack (function 4): the condition. -/
def f4_vc (p0 : Option Addr) (l0 c0 : Nat) (p1 : Option Addr) (l1 c1 : Nat) (w : World) (R : Ending → World → Prop) : Prop :=
  Does Try.prog 8 #[] w fun e9 w9 =>
  ∃ b9 : Bool, e9 = .returned (.bool b9) ∧ Br (!b9)
  (R (.returned (.bool false)) w9)
  (Br (decide (((l0 : Int)) > 2000))
  (R (.returned (.bool true)) w9)
  (Does Try.prog 11 #[.slice p1 l1 c1, .int .i64 30] w9 fun e16 w16 =>
  ∃ b16 : Bool, e16 = .returned (.bool b16) ∧ Br (!b16)
  (R (.returned (.bool true)) w16)
  (Does Try.prog 12 #[.slice p0 l0 c0, .slice p1 l1 c1] w16 fun e22 w22 =>
  ∃ (p22 : Option Addr) (l22 c22 : Nat), ∃ n22 : Int, e22 = .returned (.tuple #[.slice p22 l22 c22, .int .i64 n22]) ∧ Does Try.prog 14 #[.slice p1 l1 c1] w22 fun e26 w26 =>
  ∃ (p26 : Option Addr) (l26 c26 : Nat), e26 = .returned (.slice p26 l26 c26) ∧ Does Try.prog 14 #[.slice p26 l26 c26] w26 fun e27 w27 =>
  ∃ (p27 : Option Addr) (l27 c27 : Nat), e27 = .returned (.slice p27 l27 c27) ∧ Does Try.prog 13 #[.slice p27 l27 c27, .slice p1 l1 c1] w27 fun e29 w29 =>
  ∃ b29 : Bool, e29 = .returned (.bool b29) ∧ Br (!b29)
  (R (.returned (.bool false)) w29)
  (Br (n22 != 0)
  (R (.returned (.bool (((l22 : Int)) == 0))) w29)
  (Does Try.prog 14 #[.slice p1 l1 c1] w29 fun e39 w39 =>
  ∃ (p39 : Option Addr) (l39 c39 : Nat), e39 = .returned (.slice p39 l39 c39) ∧ Does Try.prog 12 #[.slice p22 l22 c22, .slice p39 l39 c39] w39 fun e40 w40 =>
  ∃ (p40 : Option Addr) (l40 c40 : Nat), ∃ n40 : Int, e40 = .returned (.tuple #[.slice p40 l40 c40, .int .i64 n40]) ∧ Br (n40 == 0)
  (Does Try.prog 15 #[.slice p40 l40 c40, .slice p0 l0 c0] w40 fun e48 w48 =>
  ∃ b48 : Bool, e48 = .returned (.bool b48) ∧ R (.returned (.bool b48)) w48)
  (R (.returned (.bool false)) w40))))))
def f4_ann : Ann := { loops := [], cuts := [], flip := [], throws := [] }
theorem f4_eq (p0 : Option Addr) (l0 c0 : Nat) (p1 : Option Addr) (l1 c1 : Nat) (w : World) (R : Ending → World → Prop) : vc Try.prog f4_ann (bodyOf Try.f4) (retQ Try.prog Try.f4 R) (envOf Try.f4.ntmps [.v (.slice p0 l0 c0), .v (.slice p1 l1 c1)]) w = f4_vc p0 l0 c0 p1 l1 c1 w R := by kernel_rfl
theorem f4_does (p0 : Option Addr) (l0 c0 : Nat) (p1 : Option Addr) (l1 c1 : Nat) {w : World} {R : Ending → World → Prop} (h : f4_vc p0 l0 c0 p1 l1 c1 w R) : Does Try.prog 4 #[.slice p0 l0 c0, .slice p1 l1 c1] w R :=
  does_of_vc (ss := [.v (.slice p0 l0 c0), .v (.slice p1 l1 c1)]) f4_ann mixed call4 Try.func4 rfl rfl (show 2 ≤ Try.f4.ntmps by decide) ((f4_eq p0 l0 c0 p1 l1 c1 w R).symm ▸ h)
/-- Of escritoire/escritoirelaw18.EditPlaces (function 5): the condition. -/
def f5_vc (p0 : Option Addr) (l0 c0 : Nat) (a1_0 : Int) (p1_1 : Option Addr) (l1_1 c1_1 : Nat) (p1_2 : Option Addr) (l1_2 c1_2 : Nat) (a2 : Int) (w : World) (R : Ending → World → Prop) : Prop :=
  ∀ b4 w4, NewBlk w b4 [.int .i64 a1_0, .slice p1_1 l1_1 c1_1, .slice p1_2 l1_2 c1_2] 28 w4 →
  Does Try.prog 8 #[] w4 fun e12 w12 =>
  ∃ b12 : Bool, e12 = .returned (.bool b12) ∧ Br (!b12)
  (R (.returned (.bool false)) w12)
  (Br (decide (((l0 : Int)) > 2000))
  (R (.returned (.bool true)) w12)
  (∃ (p19 : Option Addr) (l19 c19 : Nat), w12.cell? ⟨b4, 1, none⟩ = some (.slice p19 l19 c19) ∧ Br (decide (((l19 : Int)) > 300))
  (R (.returned (.bool true)) w12)
  (∃ (p25 : Option Addr) (l25 c25 : Nat), w12.cell? ⟨b4, 2, none⟩ = some (.slice p25 l25 c25) ∧ Br (decide (((l25 : Int)) > 300))
  (R (.returned (.bool true)) w12)
  (∃ n31 : Int, w12.cell? ⟨b4, 0, none⟩ = some (.int .i64 n31) ∧ ∃ (p31 : Option Addr) (l31 c31 : Nat), w12.cell? ⟨b4, 1, none⟩ = some (.slice p31 l31 c31) ∧ ∃ (p31_1 : Option Addr) (l31_1 c31_1 : Nat), w12.cell? ⟨b4, 2, none⟩ = some (.slice p31_1 l31_1 c31_1) ∧ Does Try.prog 9 #[.slice p0 l0 c0, .agg #[.int .i64 n31, .slice p31 l31 c31, .slice p31_1 l31_1 c31_1]] w12 fun e32 w32 =>
  ∃ (p32 : Option Addr) (l32 c32 : Nat), ∃ n32 : Int, e32 = .returned (.tuple #[.slice p32 l32 c32, .int .i64 n32]) ∧ Br (n32 != 0)
  (R (.returned (.bool true)) w32)
  (Br (decide (a2 < 0))
  (R (.returned (.bool true)) w32)
  (Br (decide (a2 ≥ ((l0 : Int))))
  (R (.returned (.bool true)) w32)
  (∃ n48 : Int, w32.cell? ⟨b4, 0, none⟩ = some (.int .i64 n48) ∧ ∃ (p48 : Option Addr) (l48 c48 : Nat), w32.cell? ⟨b4, 1, none⟩ = some (.slice p48 l48 c48) ∧ ∃ (p48_1 : Option Addr) (l48_1 c48_1 : Nat), w32.cell? ⟨b4, 2, none⟩ = some (.slice p48_1 l48_1 c48_1) ∧ Does Try.prog 10 #[.int .i64 a2, .agg #[.int .i64 n48, .slice p48 l48 c48, .slice p48_1 l48_1 c48_1]] w32 fun e49 w49 =>
  ∃ n49 : Int, e49 = .returned (.int .i64 n49) ∧ InK .i64 (a2 + 1) ∧ ∃ n52 : Int, w49.cell? ⟨b4, 0, none⟩ = some (.int .i64 n52) ∧ ∃ (p52 : Option Addr) (l52 c52 : Nat), w49.cell? ⟨b4, 1, none⟩ = some (.slice p52 l52 c52) ∧ ∃ (p52_1 : Option Addr) (l52_1 c52_1 : Nat), w49.cell? ⟨b4, 2, none⟩ = some (.slice p52_1 l52_1 c52_1) ∧ Does Try.prog 10 #[.int .i64 (a2 + 1), .agg #[.int .i64 n52, .slice p52 l52 c52, .slice p52_1 l52_1 c52_1]] w49 fun e53 w53 =>
  ∃ n53 : Int, e53 = .returned (.int .i64 n53) ∧ ∃ n56 : Int, w53.cell? ⟨b4, 0, none⟩ = some (.int .i64 n56) ∧ Br (decide (a2 < n56))
  (∀ wd11, Drew w53 wd11 →
  Br (decide (n49 ≤ n53))
  (Br (decide (n49 ≥ 0))
  (Br (decide (n53 ≤ ((l32 : Int))))
  (Br (decide (n49 < ((l32 : Int))))
  ((0 ≤ n49 ∧ n49 < (l32 : Int)) ∧ ∃ b92 o92, p32 = some ⟨b92, o92, none⟩ ∧ ∃ n93 : Int, wd11.cell? ⟨b92, o92 + (n49).toNat, none⟩ = some (.int .u8 n93) ∧ (0 ≤ a2 ∧ a2 < (l0 : Int)) ∧ ∃ b96 o96, p0 = some ⟨b96, o96, none⟩ ∧ ∃ n97 : Int, wd11.cell? ⟨b96, o96 + (a2).toNat, none⟩ = some (.int .u8 n97) ∧ Br (n93 == n97)
  (∃ n105 : Int, wd11.cell? ⟨b4, 0, none⟩ = some (.int .i64 n105) ∧ ∃ (p105 : Option Addr) (l105 c105 : Nat), wd11.cell? ⟨b4, 1, none⟩ = some (.slice p105 l105 c105) ∧ ∃ (p105_1 : Option Addr) (l105_1 c105_1 : Nat), wd11.cell? ⟨b4, 2, none⟩ = some (.slice p105_1 l105_1 c105_1) ∧ Does Try.prog 16 #[.int .i64 a2, .agg #[.int .i64 n105, .slice p105 l105 c105, .slice p105_1 l105_1 c105_1]] wd11 fun e106 w106 =>
  ∃ n106 : Int, e106 = .returned (.int .i64 n106) ∧ R (.returned (.bool (n49 == n106))) w106)
  (R (.returned (.bool false)) wd11))
  (R (.returned (.bool false)) wd11))
  (R (.returned (.bool false)) wd11))
  (R (.returned (.bool false)) wd11))
  (R (.returned (.bool false)) wd11))
  (∃ n61 : Int, w53.cell? ⟨b4, 0, none⟩ = some (.int .i64 n61) ∧ ∃ (p63 : Option Addr) (l63 c63 : Nat), w53.cell? ⟨b4, 1, none⟩ = some (.slice p63 l63 c63) ∧ InK .i64 (n61 + ((l63 : Int))) ∧ ∀ wd11_1, Drew w53 wd11_1 →
  Br (decide (n49 ≤ n53))
  (Br (decide (n49 ≥ 0))
  (Br (decide (n53 ≤ ((l32 : Int))))
  (Br (!(decide (a2 ≥ (n61 + ((l63 : Int))))))
  (∃ n105_1 : Int, wd11_1.cell? ⟨b4, 0, none⟩ = some (.int .i64 n105_1) ∧ ∃ (p105_2 : Option Addr) (l105_2 c105_2 : Nat), wd11_1.cell? ⟨b4, 1, none⟩ = some (.slice p105_2 l105_2 c105_2) ∧ ∃ (p105_3 : Option Addr) (l105_3 c105_3 : Nat), wd11_1.cell? ⟨b4, 2, none⟩ = some (.slice p105_3 l105_3 c105_3) ∧ Does Try.prog 16 #[.int .i64 a2, .agg #[.int .i64 n105_1, .slice p105_2 l105_2 c105_2, .slice p105_3 l105_3 c105_3]] wd11_1 fun e106_1 w106_1 =>
  ∃ n106_1 : Int, e106_1 = .returned (.int .i64 n106_1) ∧ R (.returned (.bool (n49 == n106_1))) w106_1)
  (Br (decide (n49 < ((l32 : Int))))
  ((0 ≤ n49 ∧ n49 < (l32 : Int)) ∧ ∃ b92_1 o92_1, p32 = some ⟨b92_1, o92_1, none⟩ ∧ ∃ n93_1 : Int, wd11_1.cell? ⟨b92_1, o92_1 + (n49).toNat, none⟩ = some (.int .u8 n93_1) ∧ (0 ≤ a2 ∧ a2 < (l0 : Int)) ∧ ∃ b96_1 o96_1, p0 = some ⟨b96_1, o96_1, none⟩ ∧ ∃ n97_1 : Int, wd11_1.cell? ⟨b96_1, o96_1 + (a2).toNat, none⟩ = some (.int .u8 n97_1) ∧ Br (n93_1 == n97_1)
  (∃ n105_2 : Int, wd11_1.cell? ⟨b4, 0, none⟩ = some (.int .i64 n105_2) ∧ ∃ (p105_4 : Option Addr) (l105_4 c105_4 : Nat), wd11_1.cell? ⟨b4, 1, none⟩ = some (.slice p105_4 l105_4 c105_4) ∧ ∃ (p105_5 : Option Addr) (l105_5 c105_5 : Nat), wd11_1.cell? ⟨b4, 2, none⟩ = some (.slice p105_5 l105_5 c105_5) ∧ Does Try.prog 16 #[.int .i64 a2, .agg #[.int .i64 n105_2, .slice p105_4 l105_4 c105_4, .slice p105_5 l105_5 c105_5]] wd11_1 fun e106_2 w106_2 =>
  ∃ n106_2 : Int, e106_2 = .returned (.int .i64 n106_2) ∧ R (.returned (.bool (n49 == n106_2))) w106_2)
  (R (.returned (.bool false)) wd11_1))
  (R (.returned (.bool false)) wd11_1)))
  (R (.returned (.bool false)) wd11_1))
  (R (.returned (.bool false)) wd11_1))
  (R (.returned (.bool false)) wd11_1)))))))))
def f5_ann : Ann := { loops := [], cuts := [], flip := [], throws := [] }
theorem f5_eq (p0 : Option Addr) (l0 c0 : Nat) (a1_0 : Int) (p1_1 : Option Addr) (l1_1 c1_1 : Nat) (p1_2 : Option Addr) (l1_2 c1_2 : Nat) (a2 : Int) (w : World) (R : Ending → World → Prop) : vc Try.prog f5_ann (bodyOf Try.f5) (retQ Try.prog Try.f5 R) (envOf Try.f5.ntmps [.v (.slice p0 l0 c0), .v (.agg #[.int .i64 a1_0, .slice p1_1 l1_1 c1_1, .slice p1_2 l1_2 c1_2]), .v (.int .i64 a2)]) w = f5_vc p0 l0 c0 a1_0 p1_1 l1_1 c1_1 p1_2 l1_2 c1_2 a2 w R := by kernel_rfl
theorem f5_does (p0 : Option Addr) (l0 c0 : Nat) (a1_0 : Int) (p1_1 : Option Addr) (l1_1 c1_1 : Nat) (p1_2 : Option Addr) (l1_2 c1_2 : Nat) (a2 : Int) {w : World} {R : Ending → World → Prop} (h : f5_vc p0 l0 c0 a1_0 p1_1 l1_1 c1_1 p1_2 l1_2 c1_2 a2 w R) : Does Try.prog 5 #[.slice p0 l0 c0, .agg #[.int .i64 a1_0, .slice p1_1 l1_1 c1_1, .slice p1_2 l1_2 c1_2], .int .i64 a2] w R :=
  does_of_vc (ss := [.v (.slice p0 l0 c0), .v (.agg #[.int .i64 a1_0, .slice p1_1 l1_1 c1_1, .slice p1_2 l1_2 c1_2]), .v (.int .i64 a2)]) f5_ann mixed call5 Try.func5 rfl rfl (show 3 ≤ Try.f5.ntmps by decide) ((f5_eq p0 l0 c0 a1_0 p1_1 l1_1 c1_1 p1_2 l1_2 c1_2 a2 w R).symm ▸ h)
/-- Of escritoire/escritoirelaw18.EditParts (function 6): the condition. -/
def f6_vc (p0 : Option Addr) (l0 c0 : Nat) (p1 : Option Addr) (l1 c1 : Nat) (a2 : Int) (w : World) (R : Ending → World → Prop) : Prop :=
  Does Try.prog 8 #[] w fun e14 w14 =>
  ∃ b14 : Bool, e14 = .returned (.bool b14) ∧ Br (!b14)
  (R (.returned (.bool false)) w14)
  (Br (decide (((l0 : Int)) > 1000))
  (R (.returned (.bool true)) w14)
  (Does Try.prog 11 #[.slice p1 l1 c1, .int .i64 30] w14 fun e21 w21 =>
  ∃ b21 : Bool, e21 = .returned (.bool b21) ∧ Br (!b21)
  (R (.returned (.bool true)) w21)
  (InK .i64 (((l1 : Int)) + 1) ∧ (((l1 : Int)) + 1) ≠ 0 ∧ InK .i64 ((a2.tmod (((l1 : Int)) + 1)) + ((l1 : Int))) ∧ InK .i64 (((a2.tmod (((l1 : Int)) + 1)) + ((l1 : Int))) + 1) ∧ InK .i64 (((l1 : Int)) + 1) ∧ (((l1 : Int)) + 1) ≠ 0 ∧ Does Try.prog 17 #[.slice p0 l0 c0] w21 fun e38 w38 =>
  ∃ (p38 : Option Addr) (l38 c38 : Nat), e38 = .returned (.slice p38 l38 c38) ∧ Does Try.prog 12 #[.slice p0 l0 c0, .slice p1 l1 c1] w38 fun e42 w42 =>
  ∃ (p42 : Option Addr) (l42 c42 : Nat), ∃ n42 : Int, e42 = .returned (.tuple #[.slice p42 l42 c42, .int .i64 n42]) ∧ (0 ≤ ((((a2.tmod (((l1 : Int)) + 1)) + ((l1 : Int))) + 1).tmod (((l1 : Int)) + 1)) ∧ ((((a2.tmod (((l1 : Int)) + 1)) + ((l1 : Int))) + 1).tmod (((l1 : Int)) + 1)) ≤ (c1 : Int)) ∧ Does Try.prog 12 #[.slice p0 l0 c0, .slice (subp p1 0 c1 3) ((((((a2.tmod (((l1 : Int)) + 1)) + ((l1 : Int))) + 1).tmod (((l1 : Int)) + 1)).toNat) - 0) (c1 - 0)] w42 fun e50 w50 =>
  ∃ (p50 : Option Addr) (l50 c50 : Nat), ∃ n50 : Int, e50 = .returned (.tuple #[.slice p50 l50 c50, .int .i64 n50]) ∧ (0 ≤ ((((a2.tmod (((l1 : Int)) + 1)) + ((l1 : Int))) + 1).tmod (((l1 : Int)) + 1)) ∧ ((((a2.tmod (((l1 : Int)) + 1)) + ((l1 : Int))) + 1).tmod (((l1 : Int)) + 1)) ≤ (l1 : Int)) ∧ Does Try.prog 12 #[.slice p50 l50 c50, .slice (subp p1 (((((a2.tmod (((l1 : Int)) + 1)) + ((l1 : Int))) + 1).tmod (((l1 : Int)) + 1)).toNat) c1 3) (l1 - (((((a2.tmod (((l1 : Int)) + 1)) + ((l1 : Int))) + 1).tmod (((l1 : Int)) + 1)).toNat)) (c1 - (((((a2.tmod (((l1 : Int)) + 1)) + ((l1 : Int))) + 1).tmod (((l1 : Int)) + 1)).toNat))] w50 fun e58 w58 =>
  ∃ (p58 : Option Addr) (l58 c58 : Nat), ∃ n58 : Int, e58 = .returned (.tuple #[.slice p58 l58 c58, .int .i64 n58]) ∧ Does Try.prog 15 #[.slice p0 l0 c0, .slice p38 l38 c38] w58 fun e63 w63 =>
  ∃ b63 : Bool, e63 = .returned (.bool b63) ∧ Br (!b63)
  (R (.returned (.bool false)) w63)
  (Br (n50 != 0)
  (Br (n42 == n50)
  (R (.returned (.bool (((l42 : Int)) == 0))) w63)
  (R (.returned (.bool false)) w63))
  (Br (n42 == n58)
  (Does Try.prog 15 #[.slice p42 l42 c42, .slice p58 l58 c58] w63 fun e81 w81 =>
  ∃ b81 : Bool, e81 = .returned (.bool b81) ∧ R (.returned (.bool b81)) w81)
  (R (.returned (.bool false)) w63))))))
def f6_ann : Ann := { loops := [], cuts := [], flip := [], throws := [] }
theorem f6_eq (p0 : Option Addr) (l0 c0 : Nat) (p1 : Option Addr) (l1 c1 : Nat) (a2 : Int) (w : World) (R : Ending → World → Prop) : vc Try.prog f6_ann (bodyOf Try.f6) (retQ Try.prog Try.f6 R) (envOf Try.f6.ntmps [.v (.slice p0 l0 c0), .v (.slice p1 l1 c1), .v (.int .i64 a2)]) w = f6_vc p0 l0 c0 p1 l1 c1 a2 w R := by kernel_rfl
theorem f6_does (p0 : Option Addr) (l0 c0 : Nat) (p1 : Option Addr) (l1 c1 : Nat) (a2 : Int) {w : World} {R : Ending → World → Prop} (h : f6_vc p0 l0 c0 p1 l1 c1 a2 w R) : Does Try.prog 6 #[.slice p0 l0 c0, .slice p1 l1 c1, .int .i64 a2] w R :=
  does_of_vc (ss := [.v (.slice p0 l0 c0), .v (.slice p1 l1 c1), .v (.int .i64 a2)]) f6_ann mixed call6 Try.func6 rfl rfl (show 3 ≤ Try.f6.ntmps by decide) ((f6_eq p0 l0 c0 p1 l1 c1 a2 w R).symm ▸ h)
/-- Of escritoire/escritoirelaw18.EditApplies (function 7): the condition. -/
def f7_vc (p0 : Option Addr) (l0 c0 : Nat) (p1 : Option Addr) (l1 c1 : Nat) (p2 : Option Addr) (l2 c2 : Nat) (w : World) (R : Ending → World → Prop) : Prop :=
  Does Try.prog 8 #[] w fun e11 w11 =>
  ∃ b11 : Bool, e11 = .returned (.bool b11) ∧ Br (!b11)
  (R (.returned (.bool false)) w11)
  (Br (decide (((l0 : Int)) > 2000))
  (R (.returned (.bool true)) w11)
  (Does Try.prog 11 #[.slice p1 l1 c1, .int .i64 30] w11 fun e18 w18 =>
  ∃ b18 : Bool, e18 = .returned (.bool b18) ∧ Br (!b18)
  (R (.returned (.bool true)) w18)
  (Does Try.prog 11 #[.slice p2 l2 c2, .int .i64 30] w18 fun e23 w23 =>
  ∃ b23 : Bool, e23 = .returned (.bool b23) ∧ Br (!b23)
  (R (.returned (.bool true)) w23)
  (Does Try.prog 12 #[.slice p0 l0 c0, .slice p1 l1 c1] w23 fun e29 w29 =>
  ∃ (p29 : Option Addr) (l29 c29 : Nat), ∃ n29 : Int, e29 = .returned (.tuple #[.slice p29 l29 c29, .int .i64 n29]) ∧ Does Try.prog 18 #[.slice p0 l0 c0, .slice p1 l1 c1] w29 fun e35 w35 =>
  ∃ (p35 : Option Addr) (l35 c35 : Nat), ∃ n35 : Int, e35 = .returned (.tuple #[.slice p35 l35 c35, .int .i64 n35]) ∧ Br (n29 == n35)
  (Does Try.prog 15 #[.slice p29 l29 c29, .slice p35 l35 c35] w35 fun e44 w44 =>
  ∃ b44 : Bool, e44 = .returned (.bool b44) ∧ Br b44
  (Does Try.prog 14 #[.slice p1 l1 c1] w44 fun e48 w48 =>
  ∃ (p48 : Option Addr) (l48 c48 : Nat), e48 = .returned (.slice p48 l48 c48) ∧ Does Try.prog 19 #[.slice p1 l1 c1] w48 fun e50 w50 =>
  ∃ (p50 : Option Addr) (l50 c50 : Nat), e50 = .returned (.slice p50 l50 c50) ∧ Does Try.prog 13 #[.slice p48 l48 c48, .slice p50 l50 c50] w50 fun e51 w51 =>
  ∃ b51 : Bool, e51 = .returned (.bool b51) ∧ Br b51
  (Does Try.prog 20 #[.slice p1 l1 c1, .slice p2 l2 c2] w51 fun e56 w56 =>
  ∃ b56 : Bool, e56 = .returned (.bool b56) ∧ Does Try.prog 13 #[.slice p1 l1 c1, .slice p2 l2 c2] w56 fun e59 w59 =>
  ∃ b59 : Bool, e59 = .returned (.bool b59) ∧ Br (b56 == b59)
  (Does Try.prog 20 #[.slice p1 l1 c1, .slice p1 l1 c1] w59 fun e65 w65 =>
  ∃ b65 : Bool, e65 = .returned (.bool b65) ∧ R (.returned (.bool b65)) w65)
  (R (.returned (.bool false)) w59))
  (R (.returned (.bool false)) w51))
  (R (.returned (.bool false)) w44))
  (R (.returned (.bool false)) w35)))))
def f7_ann : Ann := { loops := [], cuts := [], flip := [], throws := [] }
theorem f7_eq (p0 : Option Addr) (l0 c0 : Nat) (p1 : Option Addr) (l1 c1 : Nat) (p2 : Option Addr) (l2 c2 : Nat) (w : World) (R : Ending → World → Prop) : vc Try.prog f7_ann (bodyOf Try.f7) (retQ Try.prog Try.f7 R) (envOf Try.f7.ntmps [.v (.slice p0 l0 c0), .v (.slice p1 l1 c1), .v (.slice p2 l2 c2)]) w = f7_vc p0 l0 c0 p1 l1 c1 p2 l2 c2 w R := by kernel_rfl
theorem f7_does (p0 : Option Addr) (l0 c0 : Nat) (p1 : Option Addr) (l1 c1 : Nat) (p2 : Option Addr) (l2 c2 : Nat) {w : World} {R : Ending → World → Prop} (h : f7_vc p0 l0 c0 p1 l1 c1 p2 l2 c2 w R) : Does Try.prog 7 #[.slice p0 l0 c0, .slice p1 l1 c1, .slice p2 l2 c2] w R :=
  does_of_vc (ss := [.v (.slice p0 l0 c0), .v (.slice p1 l1 c1), .v (.slice p2 l2 c2)]) f7_ann mixed call7 Try.func7 rfl rfl (show 3 ≤ Try.f7.ntmps by decide) ((f7_eq p0 l0 c0 p1 l1 c1 p2 l2 c2 w R).symm ▸ h)
/-- Of escritoire/escritoirelaw18.awake (function 8): the condition. -/
def f8_vc  (w : World) (R : Ending → World → Prop) : Prop :=
  ∀ b6 w6, NewBlk w b6 [.int .u8 98] 5 w6 →
  ∃ (p7 : Option Addr) (l7 c7 : Nat), ∃ w7, (convert 23 23 (.slice (some ⟨b6, 0, none⟩) 1 1)).run Try.prog w6 = .ok (.slice p7 l7 c7) w7 ∧ ∀ b8 w8, NewBlk w7 b8 [.int .u8 120, .int .u8 121] 5 w8 →
  ∃ (p9 : Option Addr) (l9 c9 : Nat), ∃ w9, (convert 23 23 (.slice (some ⟨b8, 0, none⟩) 2 2)).run Try.prog w8 = .ok (.slice p9 l9 c9) w9 ∧ ∀ b1 w1, NewBlk w9 b1 [.int .i64 0, .slice none 0 0, .slice none 0 0] 28 w1 →
  CanStore w1 b1 0 ∧ ∀ ws, Stored w1 b1 0 (.int .i64 1) ws →
  CanStore ws b1 1 ∧ ∀ ws_1, Stored ws b1 1 (.slice p7 l7 c7) ws_1 →
  CanStore ws_1 b1 2 ∧ ∀ ws_2, Stored ws_1 b1 2 (.slice p9 l9 c9) ws_2 →
  ∀ b12 w12, NewBlk ws_2 b12 [.int .u8 97, .int .u8 98, .int .u8 99] 5 w12 →
  ∃ (p13 : Option Addr) (l13 c13 : Nat), ∃ w13, (convert 23 23 (.slice (some ⟨b12, 0, none⟩) 3 3)).run Try.prog w12 = .ok (.slice p13 l13 c13) w13 ∧ ∃ n14 : Int, w13.cell? ⟨b1, 0, none⟩ = some (.int .i64 n14) ∧ ∃ (p14 : Option Addr) (l14 c14 : Nat), w13.cell? ⟨b1, 1, none⟩ = some (.slice p14 l14 c14) ∧ ∃ (p14_1 : Option Addr) (l14_1 c14_1 : Nat), w13.cell? ⟨b1, 2, none⟩ = some (.slice p14_1 l14_1 c14_1) ∧ Does Try.prog 9 #[.slice p13 l13 c13, .agg #[.int .i64 n14, .slice p14 l14 c14, .slice p14_1 l14_1 c14_1]] w13 fun e15 w15 =>
  ∃ (p15 : Option Addr) (l15 c15 : Nat), ∃ n15 : Int, e15 = .returned (.tuple #[.slice p15 l15 c15, .int .i64 n15]) ∧ ∃ n20 : Int, w15.cell? ⟨b1, 0, none⟩ = some (.int .i64 n20) ∧ ∃ (p20 : Option Addr) (l20 c20 : Nat), w15.cell? ⟨b1, 1, none⟩ = some (.slice p20 l20 c20) ∧ ∃ (p20_1 : Option Addr) (l20_1 c20_1 : Nat), w15.cell? ⟨b1, 2, none⟩ = some (.slice p20_1 l20_1 c20_1) ∧ ∀ b21 w21, NewBlk w15 b21 [.int .i64 n20, .slice p20 l20 c20, .slice p20_1 l20_1 c20_1] 28 w21 →
  Does Try.prog 14 #[.slice (some ⟨b21, 0, none⟩) 1 1] w21 fun e22 w22 =>
  ∃ (p22 : Option Addr) (l22 c22 : Nat), e22 = .returned (.slice p22 l22 c22) ∧ Does Try.prog 12 #[.slice p15 l15 c15, .slice p22 l22 c22] w22 fun e23 w23 =>
  ∃ (p23 : Option Addr) (l23 c23 : Nat), ∃ n23 : Int, e23 = .returned (.tuple #[.slice p23 l23 c23, .int .i64 n23]) ∧ Br (n15 == 0)
  (Br (n23 == 0)
  (∃ s34 : ByteArray, ∃ w34, (convert 23 9 (.slice p15 l15 c15)).run Try.prog w23 = .ok (.string s34) w34 ∧ Br (s34.toList == (({ data := #[97, 120, 121, 99] } : ByteArray)).toList)
  (∃ s39 : ByteArray, ∃ w39, (convert 23 9 (.slice p23 l23 c23)).run Try.prog w34 = .ok (.string s39) w39 ∧ Br (s39.toList == (({ data := #[97, 98, 99] } : ByteArray)).toList)
  (∃ n43 : Int, w39.cell? ⟨b1, 0, none⟩ = some (.int .i64 n43) ∧ ∃ (p43 : Option Addr) (l43 c43 : Nat), w39.cell? ⟨b1, 1, none⟩ = some (.slice p43 l43 c43) ∧ ∃ (p43_1 : Option Addr) (l43_1 c43_1 : Nat), w39.cell? ⟨b1, 2, none⟩ = some (.slice p43_1 l43_1 c43_1) ∧ Does Try.prog 10 #[.int .i64 2, .agg #[.int .i64 n43, .slice p43 l43 c43, .slice p43_1 l43_1 c43_1]] w39 fun e44 w44 =>
  ∃ n44 : Int, e44 = .returned (.int .i64 n44) ∧ R (.returned (.bool (n44 == 3))) w44)
  (R (.returned (.bool false)) w39))
  (R (.returned (.bool false)) w34))
  (R (.returned (.bool false)) w23))
  (R (.returned (.bool false)) w23)
def f8_ann : Ann := { loops := [], cuts := [], flip := [], throws := [] }
theorem f8_eq  (w : World) (R : Ending → World → Prop) : vc Try.prog f8_ann (bodyOf Try.f8) (retQ Try.prog Try.f8 R) (envOf Try.f8.ntmps []) w = f8_vc  w R := by kernel_rfl
theorem f8_does  {w : World} {R : Ending → World → Prop} (h : f8_vc  w R) : Does Try.prog 8 #[] w R :=
  does_of_vc (ss := []) f8_ann mixed call8 Try.func8 rfl rfl (show 0 ≤ Try.f8.ntmps by decide) ((f8_eq  w R).symm ▸ h)
/-- Of escritoire/edit.Apply (function 9): the condition. -/
def f9_vc (p0 : Option Addr) (l0 c0 : Nat) (a1_0 : Int) (p1_1 : Option Addr) (l1_1 c1_1 : Nat) (p1_2 : Option Addr) (l1_2 c1_2 : Nat) (w : World) (R : Ending → World → Prop) : Prop :=
  ∀ b3 w3, NewBlk w b3 [.int .i64 a1_0, .slice p1_1 l1_1 c1_1, .slice p1_2 l1_2 c1_2] 28 w3 →
  ∃ n10 : Int, w3.cell? ⟨b3, 0, none⟩ = some (.int .i64 n10) ∧ ∃ (p10 : Option Addr) (l10 c10 : Nat), w3.cell? ⟨b3, 1, none⟩ = some (.slice p10 l10 c10) ∧ ∃ (p10_1 : Option Addr) (l10_1 c10_1 : Nat), w3.cell? ⟨b3, 2, none⟩ = some (.slice p10_1 l10_1 c10_1) ∧ ∀ b12 w12, NewBlk w3 b12 [.slice p0 l0 c0, .int .i64 n10, .slice p10 l10 c10, .slice p10_1 l10_1 c10_1] 45 w12 →
  ∀ b13 w13, NewBlk w12 b13 [.func (.func 21) #[] #[], .func (.func 22) #[] #[]] 46 w13 →
  ∃ I3 : Int → Nat → World → Prop, (∃ nl3, I3 0 nl3 w13) ∧ ∀ x15 : Int, ∀ (nl3 : Nat) (wl3 : World), I3 x15 nl3 wl3 →
  Br (decide (x15 < ((2 : Int))))
  ((0 ≤ x15 ∧ x15 < (2 : Int)) ∧ ∃ b17 o17, (some ⟨b13, 0, none⟩ : Option Addr) = some ⟨b17, o17, none⟩ ∧ ∃ (g18 : FuncId) (cs18 : Array Value), wl3.cell? ⟨b17, o17 + (x15).toNat, none⟩ = some (.func (.func g18) #[] cs18) ∧ Does Try.prog g18 (#[.pointer (some ⟨b12, 0, none⟩)] ++ cs18) wl3 fun e21 w21 =>
  ∃ b21 : Bool, e21 = .returned (.bool b21) ∧ Br (!b21)
  (R (.returned (.tuple #[.slice none 0 0, .int .i64 1])) w21)
  (InK .i64 (x15 + 1) ∧ ∃ ml3, ml3 < nl3 ∧ I3 (x15 + 1) ml3 w21))
  (∃ (p27 : Option Addr) (l27 c27 : Nat), wl3.cell? ⟨b12, 0, none⟩ = some (.slice p27 l27 c27) ∧ R (.returned (.tuple #[.slice p27 l27 c27, .int .i64 0])) wl3)
def f9_ann : Ann := { loops := [(3, [(15, .int .i64)])], cuts := [], flip := [], throws := [] }
theorem f9_eq (p0 : Option Addr) (l0 c0 : Nat) (a1_0 : Int) (p1_1 : Option Addr) (l1_1 c1_1 : Nat) (p1_2 : Option Addr) (l1_2 c1_2 : Nat) (w : World) (R : Ending → World → Prop) : vc Try.prog f9_ann (bodyOf Try.f9) (retQ Try.prog Try.f9 R) (envOf Try.f9.ntmps [.v (.slice p0 l0 c0), .v (.agg #[.int .i64 a1_0, .slice p1_1 l1_1 c1_1, .slice p1_2 l1_2 c1_2])]) w = f9_vc p0 l0 c0 a1_0 p1_1 l1_1 c1_1 p1_2 l1_2 c1_2 w R := by kernel_rfl
theorem f9_does (p0 : Option Addr) (l0 c0 : Nat) (a1_0 : Int) (p1_1 : Option Addr) (l1_1 c1_1 : Nat) (p1_2 : Option Addr) (l1_2 c1_2 : Nat) {w : World} {R : Ending → World → Prop} (h : f9_vc p0 l0 c0 a1_0 p1_1 l1_1 c1_1 p1_2 l1_2 c1_2 w R) : Does Try.prog 9 #[.slice p0 l0 c0, .agg #[.int .i64 a1_0, .slice p1_1 l1_1 c1_1, .slice p1_2 l1_2 c1_2]] w R :=
  does_of_vc (ss := [.v (.slice p0 l0 c0), .v (.agg #[.int .i64 a1_0, .slice p1_1 l1_1 c1_1, .slice p1_2 l1_2 c1_2])]) f9_ann mixed call9 Try.func9 rfl rfl (show 2 ≤ Try.f9.ntmps by decide) ((f9_eq p0 l0 c0 a1_0 p1_1 l1_1 c1_1 p1_2 l1_2 c1_2 w R).symm ▸ h)
/-- Of escritoire/edit.Place (function 10): the condition. -/
def f10_vc (a0 : Int) (a1_0 : Int) (p1_1 : Option Addr) (l1_1 c1_1 : Nat) (p1_2 : Option Addr) (l1_2 c1_2 : Nat) (w : World) (R : Ending → World → Prop) : Prop :=
  ∀ b3 w3, NewBlk w b3 [.int .i64 a1_0, .slice p1_1 l1_1 c1_1, .slice p1_2 l1_2 c1_2] 28 w3 →
  ∃ n8 : Int, w3.cell? ⟨b3, 0, none⟩ = some (.int .i64 n8) ∧ Br (decide (a0 < n8))
  (R (.returned (.int .i64 a0)) w3)
  (∃ n14 : Int, w3.cell? ⟨b3, 0, none⟩ = some (.int .i64 n14) ∧ InK .i64 (a0 - n14) ∧ ∃ (p17 : Option Addr) (l17 c17 : Nat), w3.cell? ⟨b3, 1, none⟩ = some (.slice p17 l17 c17) ∧ Br (decide ((a0 - n14) ≥ ((l17 : Int))))
  (∃ (p22 : Option Addr) (l22 c22 : Nat), w3.cell? ⟨b3, 2, none⟩ = some (.slice p22 l22 c22) ∧ InK .i64 (a0 + ((l22 : Int))) ∧ ∃ (p26 : Option Addr) (l26 c26 : Nat), w3.cell? ⟨b3, 1, none⟩ = some (.slice p26 l26 c26) ∧ InK .i64 ((a0 + ((l22 : Int))) - ((l26 : Int))) ∧ R (.returned (.int .i64 ((a0 + ((l22 : Int))) - ((l26 : Int))))) w3)
  (∃ n30 : Int, w3.cell? ⟨b3, 0, none⟩ = some (.int .i64 n30) ∧ R (.returned (.int .i64 n30)) w3))
def f10_ann : Ann := { loops := [], cuts := [], flip := [], throws := [] }
theorem f10_eq (a0 : Int) (a1_0 : Int) (p1_1 : Option Addr) (l1_1 c1_1 : Nat) (p1_2 : Option Addr) (l1_2 c1_2 : Nat) (w : World) (R : Ending → World → Prop) : vc Try.prog f10_ann (bodyOf Try.f10) (retQ Try.prog Try.f10 R) (envOf Try.f10.ntmps [.v (.int .i64 a0), .v (.agg #[.int .i64 a1_0, .slice p1_1 l1_1 c1_1, .slice p1_2 l1_2 c1_2])]) w = f10_vc a0 a1_0 p1_1 l1_1 c1_1 p1_2 l1_2 c1_2 w R := by kernel_rfl
theorem f10_does (a0 : Int) (a1_0 : Int) (p1_1 : Option Addr) (l1_1 c1_1 : Nat) (p1_2 : Option Addr) (l1_2 c1_2 : Nat) {w : World} {R : Ending → World → Prop} (h : f10_vc a0 a1_0 p1_1 l1_1 c1_1 p1_2 l1_2 c1_2 w R) : Does Try.prog 10 #[.int .i64 a0, .agg #[.int .i64 a1_0, .slice p1_1 l1_1 c1_1, .slice p1_2 l1_2 c1_2]] w R :=
  does_of_vc (ss := [.v (.int .i64 a0), .v (.agg #[.int .i64 a1_0, .slice p1_1 l1_1 c1_1, .slice p1_2 l1_2 c1_2])]) f10_ann mixed call10 Try.func10 rfl rfl (show 2 ≤ Try.f10.ntmps by decide) ((f10_eq a0 a1_0 p1_1 l1_1 c1_1 p1_2 l1_2 c1_2 w R).symm ▸ h)
/-- Of escritoire/escritoirelaw18.Room (function 11): the condition. -/
def f11_vc (p0 : Option Addr) (l0 c0 : Nat) (a1 : Int) (w : World) (R : Ending → World → Prop) : Prop :=
  Br (decide (((l0 : Int)) > a1))
  (R (.returned (.bool false)) w)
  (∃ I4 : Int → Nat → World → Prop, (∃ nl4, I4 0 nl4 w) ∧ ∀ x5 : Int, ∀ (nl4 : Nat) (wl4 : World), I4 x5 nl4 wl4 →
  Br (decide (x5 < ((l0 : Int))))
  ((0 ≤ x5 ∧ x5 < (l0 : Int)) ∧ ∃ b18 o18, p0 = some ⟨b18, o18, none⟩ ∧ ∃ (p20 : Option Addr) (l20 c20 : Nat), wl4.cell? ⟨b18, o18 + (x5).toNat * 3 + 1, none⟩ = some (.slice p20 l20 c20) ∧ Br (decide (((l20 : Int)) > 300))
  (R (.returned (.bool false)) wl4)
  ((0 ≤ x5 ∧ x5 < (l0 : Int)) ∧ ∃ b26 o26, p0 = some ⟨b26, o26, none⟩ ∧ ∃ (p28 : Option Addr) (l28 c28 : Nat), wl4.cell? ⟨b26, o26 + (x5).toNat * 3 + 2, none⟩ = some (.slice p28 l28 c28) ∧ Br (decide (((l28 : Int)) > 300))
  (R (.returned (.bool false)) wl4)
  (InK .i64 (x5 + 1) ∧ ∃ ml4, ml4 < nl4 ∧ I4 (x5 + 1) ml4 wl4)))
  (R (.returned (.bool true)) wl4))
def f11_ann : Ann := { loops := [(4, [(5, .int .i64)])], cuts := [], flip := [], throws := [] }
theorem f11_eq (p0 : Option Addr) (l0 c0 : Nat) (a1 : Int) (w : World) (R : Ending → World → Prop) : vc Try.prog f11_ann (bodyOf Try.f11) (retQ Try.prog Try.f11 R) (envOf Try.f11.ntmps [.v (.slice p0 l0 c0), .v (.int .i64 a1)]) w = f11_vc p0 l0 c0 a1 w R := by kernel_rfl
theorem f11_does (p0 : Option Addr) (l0 c0 : Nat) (a1 : Int) {w : World} {R : Ending → World → Prop} (h : f11_vc p0 l0 c0 a1 w R) : Does Try.prog 11 #[.slice p0 l0 c0, .int .i64 a1] w R :=
  does_of_vc (ss := [.v (.slice p0 l0 c0), .v (.int .i64 a1)]) f11_ann mixed call11 Try.func11 rfl rfl (show 2 ≤ Try.f11.ntmps by decide) ((f11_eq p0 l0 c0 a1 w R).symm ▸ h)
/-- Of escritoire/edit.All (function 12): the condition. -/
def f12_vc (p0 : Option Addr) (l0 c0 : Nat) (p1 : Option Addr) (l1 c1 : Nat) (w : World) (R : Ending → World → Prop) : Prop :=
  ∃ (p11 : Option Addr) (l11 c11 : Nat) (w11 : World), (Builtin.append_ #[23, 23] 23 #[.slice none 0 0, .slice p0 l0 c0]).run Try.prog w = .ok (.slice p11 l11 c11) w11 ∧
  ∃ I3 : Option Addr → Nat → Nat → Int → Nat → World → Prop, (∃ nl3, I3 p11 l11 c11 0 nl3 w11) ∧ ∀ (p0 : Option Addr) (l0 c0 : Nat), ∀ x14 : Int, ∀ (nl3 : Nat) (wl3 : World), I3 p0 l0 c0 x14 nl3 wl3 →
  Br (decide (x14 < ((l1 : Int))))
  ((0 ≤ x14 ∧ x14 < (l1 : Int)) ∧ ∃ b16 o16, p1 = some ⟨b16, o16, none⟩ ∧ ∃ n17 : Int, wl3.cell? ⟨b16, o16 + (x14).toNat * 3, none⟩ = some (.int .i64 n17) ∧ ∃ (p17 : Option Addr) (l17 c17 : Nat), wl3.cell? ⟨b16, o16 + (x14).toNat * 3 + 1, none⟩ = some (.slice p17 l17 c17) ∧ ∃ (p17_1 : Option Addr) (l17_1 c17_1 : Nat), wl3.cell? ⟨b16, o16 + (x14).toNat * 3 + 2, none⟩ = some (.slice p17_1 l17_1 c17_1) ∧ ∀ b7 w7, NewBlk wl3 b7 [.int .i64 0, .slice none 0 0, .slice none 0 0] 28 w7 →
  CanStore w7 b7 0 ∧ ∀ ws, Stored w7 b7 0 (.int .i64 n17) ws →
  CanStore ws b7 1 ∧ ∀ ws_1, Stored ws b7 1 (.slice p17 l17 c17) ws_1 →
  CanStore ws_1 b7 2 ∧ ∀ ws_2, Stored ws_1 b7 2 (.slice p17_1 l17_1 c17_1) ws_2 →
  ∃ n20 : Int, ws_2.cell? ⟨b7, 0, none⟩ = some (.int .i64 n20) ∧ ∃ (p20 : Option Addr) (l20 c20 : Nat), ws_2.cell? ⟨b7, 1, none⟩ = some (.slice p20 l20 c20) ∧ ∃ (p20_1 : Option Addr) (l20_1 c20_1 : Nat), ws_2.cell? ⟨b7, 2, none⟩ = some (.slice p20_1 l20_1 c20_1) ∧ Does Try.prog 9 #[.slice p0 l0 c0, .agg #[.int .i64 n20, .slice p20 l20 c20, .slice p20_1 l20_1 c20_1]] ws_2 fun e21 w21 =>
  ∃ (p21 : Option Addr) (l21 c21 : Nat), ∃ n21 : Int, e21 = .returned (.tuple #[.slice p21 l21 c21, .int .i64 n21]) ∧ Br (n21 != 0)
  (R (.returned (.tuple #[.slice none 0 0, .int .i64 n21])) w21)
  (InK .i64 (x14 + 1) ∧ ∃ ml3, ml3 < nl3 ∧ I3 p21 l21 c21 (x14 + 1) ml3 w21))
  (R (.returned (.tuple #[.slice p0 l0 c0, .int .i64 0])) wl3)
def f12_ann : Ann := { loops := [(3, [(0, .slice), (14, .int .i64)])], cuts := [], flip := [], throws := [] }
theorem f12_eq (p0 : Option Addr) (l0 c0 : Nat) (p1 : Option Addr) (l1 c1 : Nat) (w : World) (R : Ending → World → Prop) : vc Try.prog f12_ann (bodyOf Try.f12) (retQ Try.prog Try.f12 R) (envOf Try.f12.ntmps [.v (.slice p0 l0 c0), .v (.slice p1 l1 c1)]) w = f12_vc p0 l0 c0 p1 l1 c1 w R := by kernel_rfl
theorem f12_does (p0 : Option Addr) (l0 c0 : Nat) (p1 : Option Addr) (l1 c1 : Nat) {w : World} {R : Ending → World → Prop} (h : f12_vc p0 l0 c0 p1 l1 c1 w R) : Does Try.prog 12 #[.slice p0 l0 c0, .slice p1 l1 c1] w R :=
  does_of_vc (ss := [.v (.slice p0 l0 c0), .v (.slice p1 l1 c1)]) f12_ann mixed call12 Try.func12 rfl rfl (show 2 ≤ Try.f12.ntmps by decide) ((f12_eq p0 l0 c0 p1 l1 c1 w R).symm ▸ h)
/-- Of escritoire/escritoireref18.Same (function 13): the condition. -/
def f13_vc (p0 : Option Addr) (l0 c0 : Nat) (p1 : Option Addr) (l1 c1 : Nat) (w : World) (R : Ending → World → Prop) : Prop :=
  Br (((l0 : Int)) != ((l1 : Int)))
  (R (.returned (.bool false)) w)
  (∃ I4 : Int → Nat → World → Prop, (∃ nl4, I4 0 nl4 w) ∧ ∀ x5 : Int, ∀ (nl4 : Nat) (wl4 : World), I4 x5 nl4 wl4 →
  Br (decide (x5 < ((l0 : Int))))
  (∀ wd6, Drew wl4 wd6 →
  ∃ S6 : World → Prop, S6 wd6 ∧ (0 ≤ x5 ∧ x5 < (l0 : Int)) ∧ ∃ b19 o19, p0 = some ⟨b19, o19, none⟩ ∧ ∃ n21 : Int, wd6.cell? ⟨b19, o19 + (x5).toNat * 3, none⟩ = some (.int .i64 n21) ∧ (0 ≤ x5 ∧ x5 < (l1 : Int)) ∧ ∃ b24 o24, p1 = some ⟨b24, o24, none⟩ ∧ ∃ n26 : Int, wd6.cell? ⟨b24, o24 + (x5).toNat * 3, none⟩ = some (.int .i64 n26) ∧ Br (n21 != n26)
  (R (.returned (.bool false)) wd6)
  ((0 ≤ x5 ∧ x5 < (l0 : Int)) ∧ ∃ b31 o31, p0 = some ⟨b31, o31, none⟩ ∧ ∃ (p33 : Option Addr) (l33 c33 : Nat), wd6.cell? ⟨b31, o31 + (x5).toNat * 3 + 1, none⟩ = some (.slice p33 l33 c33) ∧ (0 ≤ x5 ∧ x5 < (l1 : Int)) ∧ ∃ b36 o36, p1 = some ⟨b36, o36, none⟩ ∧ ∃ (p38 : Option Addr) (l38 c38 : Nat), wd6.cell? ⟨b36, o36 + (x5).toNat * 3 + 1, none⟩ = some (.slice p38 l38 c38) ∧ Does Try.prog 15 #[.slice p33 l33 c33, .slice p38 l38 c38] wd6 fun e39 w39 =>
  ∃ b39 : Bool, e39 = .returned (.bool b39) ∧ S6 w39 ∧ Br (!b39)
  (R (.returned (.bool false)) w39)
  ((0 ≤ x5 ∧ x5 < (l0 : Int)) ∧ ∃ b45 o45, p0 = some ⟨b45, o45, none⟩ ∧ ∃ (p47 : Option Addr) (l47 c47 : Nat), (∀ w, S6 w → w.cell? ⟨b45, o45 + (x5).toNat * 3 + 2, none⟩ = some (.slice p47 l47 c47)) ∧ (0 ≤ x5 ∧ x5 < (l1 : Int)) ∧ ∃ b50 o50, p1 = some ⟨b50, o50, none⟩ ∧ ∃ (p52 : Option Addr) (l52 c52 : Nat), (∀ w, S6 w → w.cell? ⟨b50, o50 + (x5).toNat * 3 + 2, none⟩ = some (.slice p52 l52 c52)) ∧ Does Try.prog 15 #[.slice p47 l47 c47, .slice p52 l52 c52] w39 fun e53 w53 =>
  ∃ b53 : Bool, e53 = .returned (.bool b53) ∧ Br (!b53)
  (R (.returned (.bool false)) w53)
  (InK .i64 (x5 + 1) ∧ ∃ ml4, ml4 < nl4 ∧ I4 (x5 + 1) ml4 w53))))
  (R (.returned (.bool true)) wl4))
def f13_ann : Ann := { loops := [(4, [(5, .int .i64)])], cuts := [], flip := [], throws := [] }
theorem f13_eq (p0 : Option Addr) (l0 c0 : Nat) (p1 : Option Addr) (l1 c1 : Nat) (w : World) (R : Ending → World → Prop) : vc Try.prog f13_ann (bodyOf Try.f13) (retQ Try.prog Try.f13 R) (envOf Try.f13.ntmps [.v (.slice p0 l0 c0), .v (.slice p1 l1 c1)]) w = f13_vc p0 l0 c0 p1 l1 c1 w R := by kernel_rfl
theorem f13_does (p0 : Option Addr) (l0 c0 : Nat) (p1 : Option Addr) (l1 c1 : Nat) {w : World} {R : Ending → World → Prop} (h : f13_vc p0 l0 c0 p1 l1 c1 w R) : Does Try.prog 13 #[.slice p0 l0 c0, .slice p1 l1 c1] w R :=
  does_of_vc (ss := [.v (.slice p0 l0 c0), .v (.slice p1 l1 c1)]) f13_ann mixed call13 Try.func13 rfl rfl (show 2 ≤ Try.f13.ntmps by decide) ((f13_eq p0 l0 c0 p1 l1 c1 w R).symm ▸ h)
/-- Of escritoire/edit.Turn (function 14): the condition. -/
def f14_vc (p0 : Option Addr) (l0 c0 : Nat) (w : World) (R : Ending → World → Prop) : Prop :=
  InK .i64 (((l0 : Int)) - 1) ∧ ∃ I3 : Option Addr → Nat → Nat → Int → Nat → World → Prop, (∃ nl3, I3 none 0 0 (((l0 : Int)) - 1) nl3 w) ∧ ∀ (p3 : Option Addr) (l3 c3 : Nat), ∀ x4 : Int, ∀ (nl3 : Nat) (wl3 : World), I3 p3 l3 c3 x4 nl3 wl3 →
  Br (decide (x4 ≥ 0))
  (∀ wd5, Drew wl3 wd5 →
  ∃ S5 : World → Prop, S5 wd5 ∧ (0 ≤ x4 ∧ x4 < (l0 : Int)) ∧ ∃ b15 o15, p0 = some ⟨b15, o15, none⟩ ∧ ∃ n17 : Int, (∀ w, S5 w → w.cell? ⟨b15, o15 + (x4).toNat * 3, none⟩ = some (.int .i64 n17)) ∧ (0 ≤ x4 ∧ x4 < (l0 : Int)) ∧ ∃ b20 o20, p0 = some ⟨b20, o20, none⟩ ∧ ∃ (p22 : Option Addr) (l22 c22 : Nat), wd5.cell? ⟨b20, o20 + (x4).toNat * 3 + 2, none⟩ = some (.slice p22 l22 c22) ∧ Does Try.prog 23 #[.slice p22 l22 c22] wd5 fun e23 w23 =>
  ∃ (p23 : Option Addr) (l23 c23 : Nat), e23 = .returned (.slice p23 l23 c23) ∧ S5 w23 ∧ (0 ≤ x4 ∧ x4 < (l0 : Int)) ∧ ∃ b26 o26, p0 = some ⟨b26, o26, none⟩ ∧ ∃ (p28 : Option Addr) (l28 c28 : Nat), (∀ w, S5 w → w.cell? ⟨b26, o26 + (x4).toNat * 3 + 1, none⟩ = some (.slice p28 l28 c28)) ∧ Does Try.prog 23 #[.slice p28 l28 c28] w23 fun e29 w29 =>
  ∃ (p29 : Option Addr) (l29 c29 : Nat), e29 = .returned (.slice p29 l29 c29) ∧ S5 w29 ∧ ∀ b31 w31, NewBlk w29 b31 [.int .i64 n17, .slice p23 l23 c23, .slice p29 l29 c29] 28 w31 →
  ∃ (p32 : Option Addr) (l32 c32 : Nat) (w32 : World), (Builtin.append_ #[30, 30] 30 #[.slice p3 l3 c3, .slice (some ⟨b31, 0, none⟩) 1 1]).run Try.prog w31 = .ok (.slice p32 l32 c32) w32 ∧
  InK .i64 (x4 - 1) ∧ ∃ ml3, ml3 < nl3 ∧ I3 p32 l32 c32 (x4 - 1) ml3 w32)
  (R (.returned (.slice p3 l3 c3)) wl3)
def f14_ann : Ann := { loops := [(3, [(3, .slice), (4, .int .i64)])], cuts := [], flip := [], throws := [] }
theorem f14_eq (p0 : Option Addr) (l0 c0 : Nat) (w : World) (R : Ending → World → Prop) : vc Try.prog f14_ann (bodyOf Try.f14) (retQ Try.prog Try.f14 R) (envOf Try.f14.ntmps [.v (.slice p0 l0 c0)]) w = f14_vc p0 l0 c0 w R := by kernel_rfl
theorem f14_does (p0 : Option Addr) (l0 c0 : Nat) {w : World} {R : Ending → World → Prop} (h : f14_vc p0 l0 c0 w R) : Does Try.prog 14 #[.slice p0 l0 c0] w R :=
  does_of_vc (ss := [.v (.slice p0 l0 c0)]) f14_ann mixed call14 Try.func14 rfl rfl (show 1 ≤ Try.f14.ntmps by decide) ((f14_eq p0 l0 c0 w R).symm ▸ h)
/-- Of escritoire/escritoireref1.Same (function 15): the condition. -/
def f15_vc (p0 : Option Addr) (l0 c0 : Nat) (p1 : Option Addr) (l1 c1 : Nat) (w : World) (R : Ending → World → Prop) : Prop :=
  Br (((l0 : Int)) != ((l1 : Int)))
  (R (.returned (.bool false)) w)
  (∃ I4 : Int → Nat → World → Prop, (∃ nl4, I4 0 nl4 w) ∧ ∀ x5 : Int, ∀ (nl4 : Nat) (wl4 : World), I4 x5 nl4 wl4 →
  Br (decide (x5 < ((l0 : Int))))
  (∀ wd6, Drew wl4 wd6 →
  (0 ≤ x5 ∧ x5 < (l0 : Int)) ∧ ∃ b19 o19, p0 = some ⟨b19, o19, none⟩ ∧ ∃ n20 : Int, wd6.cell? ⟨b19, o19 + (x5).toNat, none⟩ = some (.int .u8 n20) ∧ (0 ≤ x5 ∧ x5 < (l1 : Int)) ∧ ∃ b23 o23, p1 = some ⟨b23, o23, none⟩ ∧ ∃ n24 : Int, wd6.cell? ⟨b23, o23 + (x5).toNat, none⟩ = some (.int .u8 n24) ∧ Br (n20 != n24)
  (R (.returned (.bool false)) wd6)
  (InK .i64 (x5 + 1) ∧ ∃ ml4, ml4 < nl4 ∧ I4 (x5 + 1) ml4 wd6))
  (R (.returned (.bool true)) wl4))
def f15_ann : Ann := { loops := [(4, [(5, .int .i64)])], cuts := [], flip := [], throws := [] }
theorem f15_eq (p0 : Option Addr) (l0 c0 : Nat) (p1 : Option Addr) (l1 c1 : Nat) (w : World) (R : Ending → World → Prop) : vc Try.prog f15_ann (bodyOf Try.f15) (retQ Try.prog Try.f15 R) (envOf Try.f15.ntmps [.v (.slice p0 l0 c0), .v (.slice p1 l1 c1)]) w = f15_vc p0 l0 c0 p1 l1 c1 w R := by kernel_rfl
theorem f15_does (p0 : Option Addr) (l0 c0 : Nat) (p1 : Option Addr) (l1 c1 : Nat) {w : World} {R : Ending → World → Prop} (h : f15_vc p0 l0 c0 p1 l1 c1 w R) : Does Try.prog 15 #[.slice p0 l0 c0, .slice p1 l1 c1] w R :=
  does_of_vc (ss := [.v (.slice p0 l0 c0), .v (.slice p1 l1 c1)]) f15_ann mixed call15 Try.func15 rfl rfl (show 2 ≤ Try.f15.ntmps by decide) ((f15_eq p0 l0 c0 p1 l1 c1 w R).symm ▸ h)
/-- Of escritoire/escritoireref18.Place (function 16): the condition. -/
def f16_vc (a0 : Int) (a1_0 : Int) (p1_1 : Option Addr) (l1_1 c1_1 : Nat) (p1_2 : Option Addr) (l1_2 c1_2 : Nat) (w : World) (R : Ending → World → Prop) : Prop :=
  ∀ b3 w3, NewBlk w b3 [.int .i64 a1_0, .slice p1_1 l1_1 c1_1, .slice p1_2 l1_2 c1_2] 28 w3 →
  ∃ n8 : Int, w3.cell? ⟨b3, 0, none⟩ = some (.int .i64 n8) ∧ Br (decide (a0 < n8))
  (R (.returned (.int .i64 a0)) w3)
  (∃ n14 : Int, w3.cell? ⟨b3, 0, none⟩ = some (.int .i64 n14) ∧ InK .i64 (a0 - n14) ∧ ∃ (p17 : Option Addr) (l17 c17 : Nat), w3.cell? ⟨b3, 1, none⟩ = some (.slice p17 l17 c17) ∧ Br (decide ((a0 - n14) ≥ ((l17 : Int))))
  (∃ (p22 : Option Addr) (l22 c22 : Nat), w3.cell? ⟨b3, 1, none⟩ = some (.slice p22 l22 c22) ∧ InK .i64 (a0 - ((l22 : Int))) ∧ ∃ (p26 : Option Addr) (l26 c26 : Nat), w3.cell? ⟨b3, 2, none⟩ = some (.slice p26 l26 c26) ∧ InK .i64 ((a0 - ((l22 : Int))) + ((l26 : Int))) ∧ R (.returned (.int .i64 ((a0 - ((l22 : Int))) + ((l26 : Int))))) w3)
  (∃ n30 : Int, w3.cell? ⟨b3, 0, none⟩ = some (.int .i64 n30) ∧ R (.returned (.int .i64 n30)) w3))
def f16_ann : Ann := { loops := [], cuts := [], flip := [], throws := [] }
theorem f16_eq (a0 : Int) (a1_0 : Int) (p1_1 : Option Addr) (l1_1 c1_1 : Nat) (p1_2 : Option Addr) (l1_2 c1_2 : Nat) (w : World) (R : Ending → World → Prop) : vc Try.prog f16_ann (bodyOf Try.f16) (retQ Try.prog Try.f16 R) (envOf Try.f16.ntmps [.v (.int .i64 a0), .v (.agg #[.int .i64 a1_0, .slice p1_1 l1_1 c1_1, .slice p1_2 l1_2 c1_2])]) w = f16_vc a0 a1_0 p1_1 l1_1 c1_1 p1_2 l1_2 c1_2 w R := by kernel_rfl
theorem f16_does (a0 : Int) (a1_0 : Int) (p1_1 : Option Addr) (l1_1 c1_1 : Nat) (p1_2 : Option Addr) (l1_2 c1_2 : Nat) {w : World} {R : Ending → World → Prop} (h : f16_vc a0 a1_0 p1_1 l1_1 c1_1 p1_2 l1_2 c1_2 w R) : Does Try.prog 16 #[.int .i64 a0, .agg #[.int .i64 a1_0, .slice p1_1 l1_1 c1_1, .slice p1_2 l1_2 c1_2]] w R :=
  does_of_vc (ss := [.v (.int .i64 a0), .v (.agg #[.int .i64 a1_0, .slice p1_1 l1_1 c1_1, .slice p1_2 l1_2 c1_2])]) f16_ann mixed call16 Try.func16 rfl rfl (show 2 ≤ Try.f16.ntmps by decide) ((f16_eq a0 a1_0 p1_1 l1_1 c1_1 p1_2 l1_2 c1_2 w R).symm ▸ h)
/-- Of escritoire/escritoireref1.Copy (function 17): the condition. -/
def f17_vc (p0 : Option Addr) (l0 c0 : Nat) (w : World) (R : Ending → World → Prop) : Prop :=
  ∃ I3 : Option Addr → Nat → Nat → Int → Nat → World → Prop, (∃ nl3, I3 none 0 0 0 nl3 w) ∧ ∀ (p3 : Option Addr) (l3 c3 : Nat), ∀ x4 : Int, ∀ (nl3 : Nat) (wl3 : World), I3 p3 l3 c3 x4 nl3 wl3 →
  Br (decide (x4 < ((l0 : Int))))
  ((0 ≤ x4 ∧ x4 < (l0 : Int)) ∧ ∃ b14 o14, p0 = some ⟨b14, o14, none⟩ ∧ ∃ n15 : Int, wl3.cell? ⟨b14, o14 + (x4).toNat, none⟩ = some (.int .u8 n15) ∧ ∀ b16 w16, NewBlk wl3 b16 [.int .u8 n15] 5 w16 →
  ∃ (p17 : Option Addr) (l17 c17 : Nat) (w17 : World), (Builtin.append_ #[23, 23] 23 #[.slice p3 l3 c3, .slice (some ⟨b16, 0, none⟩) 1 1]).run Try.prog w16 = .ok (.slice p17 l17 c17) w17 ∧
  InK .i64 (x4 + 1) ∧ ∃ ml3, ml3 < nl3 ∧ I3 p17 l17 c17 (x4 + 1) ml3 w17)
  (R (.returned (.slice p3 l3 c3)) wl3)
def f17_ann : Ann := { loops := [(3, [(3, .slice), (4, .int .i64)])], cuts := [], flip := [], throws := [] }
theorem f17_eq (p0 : Option Addr) (l0 c0 : Nat) (w : World) (R : Ending → World → Prop) : vc Try.prog f17_ann (bodyOf Try.f17) (retQ Try.prog Try.f17 R) (envOf Try.f17.ntmps [.v (.slice p0 l0 c0)]) w = f17_vc p0 l0 c0 w R := by kernel_rfl
theorem f17_does (p0 : Option Addr) (l0 c0 : Nat) {w : World} {R : Ending → World → Prop} (h : f17_vc p0 l0 c0 w R) : Does Try.prog 17 #[.slice p0 l0 c0] w R :=
  does_of_vc (ss := [.v (.slice p0 l0 c0)]) f17_ann mixed call17 Try.func17 rfl rfl (show 1 ≤ Try.f17.ntmps by decide) ((f17_eq p0 l0 c0 w R).symm ▸ h)
/-- Of escritoire/escritoireref18.All (function 18): the condition. -/
def f18_vc (p0 : Option Addr) (l0 c0 : Nat) (p1 : Option Addr) (l1 c1 : Nat) (w : World) (R : Ending → World → Prop) : Prop :=
  Does Try.prog 17 #[.slice p0 l0 c0] w fun e10 w10 =>
  ∃ (p10 : Option Addr) (l10 c10 : Nat), e10 = .returned (.slice p10 l10 c10) ∧ ∃ I3 : Option Addr → Nat → Nat → Int → Nat → World → Prop, (∃ nl3, I3 p10 l10 c10 0 nl3 w10) ∧ ∀ (p0 : Option Addr) (l0 c0 : Nat), ∀ x6 : Int, ∀ (nl3 : Nat) (wl3 : World), I3 p0 l0 c0 x6 nl3 wl3 →
  Br (decide (x6 < ((l1 : Int))))
  ((0 ≤ x6 ∧ x6 < (l1 : Int)) ∧ ∃ b21 o21, p1 = some ⟨b21, o21, none⟩ ∧ ∃ n22 : Int, wl3.cell? ⟨b21, o21 + (x6).toNat * 3, none⟩ = some (.int .i64 n22) ∧ ∃ (p22 : Option Addr) (l22 c22 : Nat), wl3.cell? ⟨b21, o21 + (x6).toNat * 3 + 1, none⟩ = some (.slice p22 l22 c22) ∧ ∃ (p22_1 : Option Addr) (l22_1 c22_1 : Nat), wl3.cell? ⟨b21, o21 + (x6).toNat * 3 + 2, none⟩ = some (.slice p22_1 l22_1 c22_1) ∧ Does Try.prog 24 #[.slice p0 l0 c0, .agg #[.int .i64 n22, .slice p22 l22 c22, .slice p22_1 l22_1 c22_1]] wl3 fun e23 w23 =>
  ∃ (p23 : Option Addr) (l23 c23 : Nat), ∃ n23 : Int, e23 = .returned (.tuple #[.slice p23 l23 c23, .int .i64 n23]) ∧ Br (n23 != 0)
  (R (.returned (.tuple #[.slice none 0 0, .int .i64 n23])) w23)
  (InK .i64 (x6 + 1) ∧ ∃ ml3, ml3 < nl3 ∧ I3 p23 l23 c23 (x6 + 1) ml3 w23))
  (R (.returned (.tuple #[.slice p0 l0 c0, .int .i64 0])) wl3)
def f18_ann : Ann := { loops := [(3, [(0, .slice), (6, .int .i64)])], cuts := [], flip := [], throws := [] }
theorem f18_eq (p0 : Option Addr) (l0 c0 : Nat) (p1 : Option Addr) (l1 c1 : Nat) (w : World) (R : Ending → World → Prop) : vc Try.prog f18_ann (bodyOf Try.f18) (retQ Try.prog Try.f18 R) (envOf Try.f18.ntmps [.v (.slice p0 l0 c0), .v (.slice p1 l1 c1)]) w = f18_vc p0 l0 c0 p1 l1 c1 w R := by kernel_rfl
theorem f18_does (p0 : Option Addr) (l0 c0 : Nat) (p1 : Option Addr) (l1 c1 : Nat) {w : World} {R : Ending → World → Prop} (h : f18_vc p0 l0 c0 p1 l1 c1 w R) : Does Try.prog 18 #[.slice p0 l0 c0, .slice p1 l1 c1] w R :=
  does_of_vc (ss := [.v (.slice p0 l0 c0), .v (.slice p1 l1 c1)]) f18_ann mixed call18 Try.func18 rfl rfl (show 2 ≤ Try.f18.ntmps by decide) ((f18_eq p0 l0 c0 p1 l1 c1 w R).symm ▸ h)
/-- Of escritoire/escritoireref18.Turn (function 19): the condition. -/
def f19_vc (p0 : Option Addr) (l0 c0 : Nat) (w : World) (R : Ending → World → Prop) : Prop :=
  InK .i64 (((l0 : Int)) - 1) ∧ ∃ I3 : Option Addr → Nat → Nat → Int → Nat → World → Prop, (∃ nl3, I3 none 0 0 (((l0 : Int)) - 1) nl3 w) ∧ ∀ (p3 : Option Addr) (l3 c3 : Nat), ∀ x4 : Int, ∀ (nl3 : Nat) (wl3 : World), I3 p3 l3 c3 x4 nl3 wl3 →
  Br (decide (x4 ≥ 0))
  (∀ wd5, Drew wl3 wd5 →
  ∃ S5 : World → Prop, S5 wd5 ∧ (0 ≤ x4 ∧ x4 < (l0 : Int)) ∧ ∃ b15 o15, p0 = some ⟨b15, o15, none⟩ ∧ ∃ n17 : Int, (∀ w, S5 w → w.cell? ⟨b15, o15 + (x4).toNat * 3, none⟩ = some (.int .i64 n17)) ∧ (0 ≤ x4 ∧ x4 < (l0 : Int)) ∧ ∃ b20 o20, p0 = some ⟨b20, o20, none⟩ ∧ ∃ (p22 : Option Addr) (l22 c22 : Nat), wd5.cell? ⟨b20, o20 + (x4).toNat * 3 + 2, none⟩ = some (.slice p22 l22 c22) ∧ Does Try.prog 17 #[.slice p22 l22 c22] wd5 fun e23 w23 =>
  ∃ (p23 : Option Addr) (l23 c23 : Nat), e23 = .returned (.slice p23 l23 c23) ∧ S5 w23 ∧ (0 ≤ x4 ∧ x4 < (l0 : Int)) ∧ ∃ b26 o26, p0 = some ⟨b26, o26, none⟩ ∧ ∃ (p28 : Option Addr) (l28 c28 : Nat), (∀ w, S5 w → w.cell? ⟨b26, o26 + (x4).toNat * 3 + 1, none⟩ = some (.slice p28 l28 c28)) ∧ Does Try.prog 17 #[.slice p28 l28 c28] w23 fun e29 w29 =>
  ∃ (p29 : Option Addr) (l29 c29 : Nat), e29 = .returned (.slice p29 l29 c29) ∧ S5 w29 ∧ ∀ b31 w31, NewBlk w29 b31 [.int .i64 n17, .slice p23 l23 c23, .slice p29 l29 c29] 28 w31 →
  ∃ (p32 : Option Addr) (l32 c32 : Nat) (w32 : World), (Builtin.append_ #[30, 30] 30 #[.slice p3 l3 c3, .slice (some ⟨b31, 0, none⟩) 1 1]).run Try.prog w31 = .ok (.slice p32 l32 c32) w32 ∧
  InK .i64 (x4 - 1) ∧ ∃ ml3, ml3 < nl3 ∧ I3 p32 l32 c32 (x4 - 1) ml3 w32)
  (R (.returned (.slice p3 l3 c3)) wl3)
def f19_ann : Ann := { loops := [(3, [(3, .slice), (4, .int .i64)])], cuts := [], flip := [], throws := [] }
theorem f19_eq (p0 : Option Addr) (l0 c0 : Nat) (w : World) (R : Ending → World → Prop) : vc Try.prog f19_ann (bodyOf Try.f19) (retQ Try.prog Try.f19 R) (envOf Try.f19.ntmps [.v (.slice p0 l0 c0)]) w = f19_vc p0 l0 c0 w R := by kernel_rfl
theorem f19_does (p0 : Option Addr) (l0 c0 : Nat) {w : World} {R : Ending → World → Prop} (h : f19_vc p0 l0 c0 w R) : Does Try.prog 19 #[.slice p0 l0 c0] w R :=
  does_of_vc (ss := [.v (.slice p0 l0 c0)]) f19_ann mixed call19 Try.func19 rfl rfl (show 1 ≤ Try.f19.ntmps by decide) ((f19_eq p0 l0 c0 w R).symm ▸ h)
/-- Of escritoire/edit.Same (function 20): the condition. -/
def f20_vc (p0 : Option Addr) (l0 c0 : Nat) (p1 : Option Addr) (l1 c1 : Nat) (w : World) (R : Ending → World → Prop) : Prop :=
  Br (((l0 : Int)) != ((l1 : Int)))
  (R (.returned (.bool false)) w)
  (∃ I4 : Int → Nat → World → Prop, (∃ nl4, I4 0 nl4 w) ∧ ∀ x15 : Int, ∀ (nl4 : Nat) (wl4 : World), I4 x15 nl4 wl4 →
  Br (decide (x15 < ((l0 : Int))))
  ((0 ≤ x15 ∧ x15 < (l0 : Int)) ∧ ∃ b18 o18, p0 = some ⟨b18, o18, none⟩ ∧ ∃ n19 : Int, wl4.cell? ⟨b18, o18 + (x15).toNat * 3, none⟩ = some (.int .i64 n19) ∧ ∃ (p19 : Option Addr) (l19 c19 : Nat), wl4.cell? ⟨b18, o18 + (x15).toNat * 3 + 1, none⟩ = some (.slice p19 l19 c19) ∧ ∃ (p19_1 : Option Addr) (l19_1 c19_1 : Nat), wl4.cell? ⟨b18, o18 + (x15).toNat * 3 + 2, none⟩ = some (.slice p19_1 l19_1 c19_1) ∧ ∀ b6 w6, NewBlk wl4 b6 [.int .i64 0, .slice none 0 0, .slice none 0 0] 28 w6 →
  CanStore w6 b6 0 ∧ ∀ ws, Stored w6 b6 0 (.int .i64 n19) ws →
  CanStore ws b6 1 ∧ ∀ ws_1, Stored ws b6 1 (.slice p19 l19 c19) ws_1 →
  CanStore ws_1 b6 2 ∧ ∀ ws_2, Stored ws_1 b6 2 (.slice p19_1 l19_1 c19_1) ws_2 →
  (0 ≤ x15 ∧ x15 < (l1 : Int)) ∧ ∃ b22 o22, p1 = some ⟨b22, o22, none⟩ ∧ ∃ n23 : Int, ws_2.cell? ⟨b22, o22 + (x15).toNat * 3, none⟩ = some (.int .i64 n23) ∧ ∃ (p23 : Option Addr) (l23 c23 : Nat), ws_2.cell? ⟨b22, o22 + (x15).toNat * 3 + 1, none⟩ = some (.slice p23 l23 c23) ∧ ∃ (p23_1 : Option Addr) (l23_1 c23_1 : Nat), ws_2.cell? ⟨b22, o22 + (x15).toNat * 3 + 2, none⟩ = some (.slice p23_1 l23_1 c23_1) ∧ ∀ b7 w7, NewBlk ws_2 b7 [.int .i64 0, .slice none 0 0, .slice none 0 0] 28 w7 →
  CanStore w7 b7 0 ∧ ∀ ws_3, Stored w7 b7 0 (.int .i64 n23) ws_3 →
  CanStore ws_3 b7 1 ∧ ∀ ws_4, Stored ws_3 b7 1 (.slice p23 l23 c23) ws_4 →
  CanStore ws_4 b7 2 ∧ ∀ ws_5, Stored ws_4 b7 2 (.slice p23_1 l23_1 c23_1) ws_5 →
  ∃ n25 : Int, ws_5.cell? ⟨b6, 0, none⟩ = some (.int .i64 n25) ∧ ∃ n27 : Int, ws_5.cell? ⟨b7, 0, none⟩ = some (.int .i64 n27) ∧ Br (n25 != n27)
  (R (.returned (.bool false)) ws_5)
  (∃ (p31 : Option Addr) (l31 c31 : Nat), ws_5.cell? ⟨b6, 1, none⟩ = some (.slice p31 l31 c31) ∧ ∃ (p33 : Option Addr) (l33 c33 : Nat), ws_5.cell? ⟨b7, 1, none⟩ = some (.slice p33 l33 c33) ∧ Does Try.prog 25 #[.slice p31 l31 c31, .slice p33 l33 c33] ws_5 fun e34 w34 =>
  ∃ b34 : Bool, e34 = .returned (.bool b34) ∧ Br (!b34)
  (R (.returned (.bool false)) w34)
  (∃ (p39 : Option Addr) (l39 c39 : Nat), w34.cell? ⟨b6, 2, none⟩ = some (.slice p39 l39 c39) ∧ ∃ (p41 : Option Addr) (l41 c41 : Nat), w34.cell? ⟨b7, 2, none⟩ = some (.slice p41 l41 c41) ∧ Does Try.prog 25 #[.slice p39 l39 c39, .slice p41 l41 c41] w34 fun e42 w42 =>
  ∃ b42 : Bool, e42 = .returned (.bool b42) ∧ Br (!b42)
  (R (.returned (.bool false)) w42)
  (InK .i64 (x15 + 1) ∧ ∃ ml4, ml4 < nl4 ∧ I4 (x15 + 1) ml4 w42))))
  (R (.returned (.bool true)) wl4))
def f20_ann : Ann := { loops := [(4, [(15, .int .i64)])], cuts := [], flip := [], throws := [] }
theorem f20_eq (p0 : Option Addr) (l0 c0 : Nat) (p1 : Option Addr) (l1 c1 : Nat) (w : World) (R : Ending → World → Prop) : vc Try.prog f20_ann (bodyOf Try.f20) (retQ Try.prog Try.f20 R) (envOf Try.f20.ntmps [.v (.slice p0 l0 c0), .v (.slice p1 l1 c1)]) w = f20_vc p0 l0 c0 p1 l1 c1 w R := by kernel_rfl
theorem f20_does (p0 : Option Addr) (l0 c0 : Nat) (p1 : Option Addr) (l1 c1 : Nat) {w : World} {R : Ending → World → Prop} (h : f20_vc p0 l0 c0 p1 l1 c1 w R) : Does Try.prog 20 #[.slice p0 l0 c0, .slice p1 l1 c1] w R :=
  does_of_vc (ss := [.v (.slice p0 l0 c0), .v (.slice p1 l1 c1)]) f20_ann mixed call20 Try.func20 rfl rfl (show 2 ≤ Try.f20.ntmps by decide) ((f20_eq p0 l0 c0 p1 l1 c1 w R).symm ▸ h)
/-- Of (*escritoire/edit.buffer).holds (function 21): the condition. -/
def f21_vc (a0 : Option Addr) (w : World) (R : Ending → World → Prop) : Prop :=
  ∀ wd1, Drew w wd1 →
  ∃ b4 o4, a0 = some ⟨b4, o4, none⟩ ∧ ∃ n7 : Int, wd1.cell? ⟨b4, o4 + 1, none⟩ = some (.int .i64 n7) ∧ Br (decide (n7 ≥ 0))
  (∃ b11 o11, a0 = some ⟨b11, o11, none⟩ ∧ ∃ n14 : Int, wd1.cell? ⟨b11, o11 + 1, none⟩ = some (.int .i64 n14) ∧ ∃ b16 o16, a0 = some ⟨b16, o16, none⟩ ∧ ∃ (p18 : Option Addr) (l18 c18 : Nat), wd1.cell? ⟨b16, o16, none⟩ = some (.slice p18 l18 c18) ∧ Br (decide (n14 ≤ ((l18 : Int))))
  (∃ b24 o24, a0 = some ⟨b24, o24, none⟩ ∧ ∃ (p26 : Option Addr) (l26 c26 : Nat), wd1.cell? ⟨b24, o24, none⟩ = some (.slice p26 l26 c26) ∧ ∃ b28 o28, a0 = some ⟨b28, o28, none⟩ ∧ ∃ n31 : Int, wd1.cell? ⟨b28, o28 + 1, none⟩ = some (.int .i64 n31) ∧ (0 ≤ n31 ∧ n31 ≤ (l26 : Int)) ∧ ∃ b34 o34, a0 = some ⟨b34, o34, none⟩ ∧ ∃ (p37 : Option Addr) (l37 c37 : Nat), wd1.cell? ⟨b34, o34 + 2, none⟩ = some (.slice p37 l37 c37) ∧ Does Try.prog 26 #[.slice (subp p26 ((n31).toNat) c26 1) (l26 - ((n31).toNat)) (c26 - ((n31).toNat)), .slice p37 l37 c37] wd1 fun e38 w38 =>
  ∃ b38 : Bool, e38 = .returned (.bool b38) ∧ R (.returned (.bool b38)) w38)
  (R (.returned (.bool false)) wd1))
  (R (.returned (.bool false)) wd1)
def f21_ann : Ann := { loops := [], cuts := [], flip := [], throws := [] }
theorem f21_eq (a0 : Option Addr) (w : World) (R : Ending → World → Prop) : vc Try.prog f21_ann (bodyOf Try.f21) (retQ Try.prog Try.f21 R) (envOf Try.f21.ntmps [.v (.pointer a0)]) w = f21_vc a0 w R := by kernel_rfl
theorem f21_does (a0 : Option Addr) {w : World} {R : Ending → World → Prop} (h : f21_vc a0 w R) : Does Try.prog 21 #[.pointer a0] w R :=
  does_of_vc (ss := [.v (.pointer a0)]) f21_ann mixed call21 Try.func21 rfl rfl (show 1 ≤ Try.f21.ntmps by decide) ((f21_eq a0 w R).symm ▸ h)
/-- Of (*escritoire/edit.buffer).change (function 22): the condition. -/
def f22_vc (a0 : Option Addr) (w : World) (R : Ending → World → Prop) : Prop :=
  ∀ wd1, Drew w wd1 →
  ∃ b5 o5, a0 = some ⟨b5, o5, none⟩ ∧ ∃ (p7 : Option Addr) (l7 c7 : Nat), wd1.cell? ⟨b5, o5, none⟩ = some (.slice p7 l7 c7) ∧ ∃ b9 o9, a0 = some ⟨b9, o9, none⟩ ∧ ∃ n12 : Int, wd1.cell? ⟨b9, o9 + 1, none⟩ = some (.int .i64 n12) ∧ (0 ≤ n12 ∧ n12 ≤ (c7 : Int)) ∧ ∃ (p14 : Option Addr) (l14 c14 : Nat) (w14 : World), (Builtin.append_ #[23, 23] 23 #[.slice none 0 0, .slice (subp p7 0 c7 1) (((n12).toNat) - 0) (c7 - 0)]).run Try.prog wd1 = .ok (.slice p14 l14 c14) w14 ∧
  ∃ b17 o17, a0 = some ⟨b17, o17, none⟩ ∧ ∃ (p20 : Option Addr) (l20 c20 : Nat), w14.cell? ⟨b17, o17 + 3, none⟩ = some (.slice p20 l20 c20) ∧ ∃ (p21 : Option Addr) (l21 c21 : Nat) (w21 : World), (Builtin.append_ #[23, 23] 23 #[.slice p14 l14 c14, .slice p20 l20 c20]).run Try.prog w14 = .ok (.slice p21 l21 c21) w21 ∧
  ∀ wd3, Drew w21 wd3 →
  ∃ b25 o25, a0 = some ⟨b25, o25, none⟩ ∧ ∃ (p27 : Option Addr) (l27 c27 : Nat), wd3.cell? ⟨b25, o25, none⟩ = some (.slice p27 l27 c27) ∧ ∃ b29 o29, a0 = some ⟨b29, o29, none⟩ ∧ ∃ n32 : Int, wd3.cell? ⟨b29, o29 + 1, none⟩ = some (.int .i64 n32) ∧ ∃ b34 o34, a0 = some ⟨b34, o34, none⟩ ∧ ∃ (p37 : Option Addr) (l37 c37 : Nat), wd3.cell? ⟨b34, o34 + 2, none⟩ = some (.slice p37 l37 c37) ∧ InK .i64 (n32 + ((l37 : Int))) ∧ (0 ≤ (n32 + ((l37 : Int))) ∧ (n32 + ((l37 : Int))) ≤ (l27 : Int)) ∧ ∃ (p41 : Option Addr) (l41 c41 : Nat) (w41 : World), (Builtin.append_ #[23, 23] 23 #[.slice p21 l21 c21, .slice (subp p27 ((n32 + ((l37 : Int))).toNat) c27 1) (l27 - ((n32 + ((l37 : Int))).toNat)) (c27 - ((n32 + ((l37 : Int))).toNat))]).run Try.prog wd3 = .ok (.slice p41 l41 c41) w41 ∧
  ∃ b42 o42, a0 = some ⟨b42, o42, none⟩ ∧ CanStore w41 b42 o42 ∧ ∀ ws, Stored w41 b42 o42 (.slice p41 l41 c41) ws →
  R (.returned (.bool true)) ws
def f22_ann : Ann := { loops := [], cuts := [], flip := [], throws := [] }
theorem f22_eq (a0 : Option Addr) (w : World) (R : Ending → World → Prop) : vc Try.prog f22_ann (bodyOf Try.f22) (retQ Try.prog Try.f22 R) (envOf Try.f22.ntmps [.v (.pointer a0)]) w = f22_vc a0 w R := by kernel_rfl
theorem f22_does (a0 : Option Addr) {w : World} {R : Ending → World → Prop} (h : f22_vc a0 w R) : Does Try.prog 22 #[.pointer a0] w R :=
  does_of_vc (ss := [.v (.pointer a0)]) f22_ann mixed call22 Try.func22 rfl rfl (show 1 ≤ Try.f22.ntmps by decide) ((f22_eq a0 w R).symm ▸ h)
/-- Of escritoire/edit.own (function 23): the condition. -/
def f23_vc (p0 : Option Addr) (l0 c0 : Nat) (w : World) (R : Ending → World → Prop) : Prop :=
  ∃ (p4 : Option Addr) (l4 c4 : Nat) (w4 : World), (Builtin.append_ #[23, 23] 23 #[.slice none 0 0, .slice p0 l0 c0]).run Try.prog w = .ok (.slice p4 l4 c4) w4 ∧
  R (.returned (.slice p4 l4 c4)) w4
def f23_ann : Ann := { loops := [], cuts := [], flip := [], throws := [] }
theorem f23_eq (p0 : Option Addr) (l0 c0 : Nat) (w : World) (R : Ending → World → Prop) : vc Try.prog f23_ann (bodyOf Try.f23) (retQ Try.prog Try.f23 R) (envOf Try.f23.ntmps [.v (.slice p0 l0 c0)]) w = f23_vc p0 l0 c0 w R := by kernel_rfl
theorem f23_does (p0 : Option Addr) (l0 c0 : Nat) {w : World} {R : Ending → World → Prop} (h : f23_vc p0 l0 c0 w R) : Does Try.prog 23 #[.slice p0 l0 c0] w R :=
  does_of_vc (ss := [.v (.slice p0 l0 c0)]) f23_ann mixed call23 Try.func23 rfl rfl (show 1 ≤ Try.f23.ntmps by decide) ((f23_eq p0 l0 c0 w R).symm ▸ h)
/-- Of escritoire/escritoireref18.Apply (function 24): the condition. -/
def f24_vc (p0 : Option Addr) (l0 c0 : Nat) (a1_0 : Int) (p1_1 : Option Addr) (l1_1 c1_1 : Nat) (p1_2 : Option Addr) (l1_2 c1_2 : Nat) (w : World) (R : Ending → World → Prop) : Prop :=
  ∀ b3 w3, NewBlk w b3 [.int .i64 a1_0, .slice p1_1 l1_1 c1_1, .slice p1_2 l1_2 c1_2] 28 w3 →
  ∀ wd1, Drew w3 wd1 →
  ∃ n8 : Int, wd1.cell? ⟨b3, 0, none⟩ = some (.int .i64 n8) ∧ Br (decide (n8 < 0))
  (R (.returned (.tuple #[.slice none 0 0, .int .i64 1])) wd1)
  (∃ n12 : Int, wd1.cell? ⟨b3, 0, none⟩ = some (.int .i64 n12) ∧ Br (decide (n12 > ((l0 : Int))))
  (R (.returned (.tuple #[.slice none 0 0, .int .i64 1])) wd1)
  (∃ (p19 : Option Addr) (l19 c19 : Nat), wd1.cell? ⟨b3, 1, none⟩ = some (.slice p19 l19 c19) ∧ ∃ n24 : Int, wd1.cell? ⟨b3, 0, none⟩ = some (.int .i64 n24) ∧ InK .i64 (((l0 : Int)) - n24) ∧ Br (decide (((l19 : Int)) > (((l0 : Int)) - n24)))
  (R (.returned (.tuple #[.slice none 0 0, .int .i64 1])) wd1)
  (∃ n31 : Int, wd1.cell? ⟨b3, 0, none⟩ = some (.int .i64 n31) ∧ ∃ n33 : Int, wd1.cell? ⟨b3, 0, none⟩ = some (.int .i64 n33) ∧ ∃ (p35 : Option Addr) (l35 c35 : Nat), wd1.cell? ⟨b3, 1, none⟩ = some (.slice p35 l35 c35) ∧ InK .i64 (n33 + ((l35 : Int))) ∧ (0 ≤ (n33 + ((l35 : Int))) ∧ (n33 + ((l35 : Int))) ≤ (c0 : Int)) ∧ (0 ≤ n31 ∧ n31 ≤ (n33 + ((l35 : Int)))) ∧ ∃ (p40 : Option Addr) (l40 c40 : Nat), wd1.cell? ⟨b3, 1, none⟩ = some (.slice p40 l40 c40) ∧ Does Try.prog 15 #[.slice (subp p0 ((n31).toNat) c0 1) (((n33 + ((l35 : Int))).toNat) - ((n31).toNat)) (c0 - ((n31).toNat)), .slice p40 l40 c40] wd1 fun e41 w41 =>
  ∃ b41 : Bool, e41 = .returned (.bool b41) ∧ Br (!b41)
  (R (.returned (.tuple #[.slice none 0 0, .int .i64 1])) w41)
  (∀ wd3, Drew w41 wd3 →
  ∃ S3 : World → Prop, S3 wd3 ∧ ∃ n46 : Int, wd3.cell? ⟨b3, 0, none⟩ = some (.int .i64 n46) ∧ (0 ≤ n46 ∧ n46 ≤ (c0 : Int)) ∧ Does Try.prog 17 #[.slice (subp p0 0 c0 1) (((n46).toNat) - 0) (c0 - 0)] wd3 fun e48 w48 =>
  ∃ (p48 : Option Addr) (l48 c48 : Nat), e48 = .returned (.slice p48 l48 c48) ∧ S3 w48 ∧ ∃ (p50 : Option Addr) (l50 c50 : Nat), (∀ w, S3 w → w.cell? ⟨b3, 2, none⟩ = some (.slice p50 l50 c50)) ∧ ∃ (p51 : Option Addr) (l51 c51 : Nat) (w51 : World), (Builtin.append_ #[23, 23] 23 #[.slice p48 l48 c48, .slice p50 l50 c50]).run Try.prog w48 = .ok (.slice p51 l51 c51) w51 ∧
  ∃ n55 : Int, w51.cell? ⟨b3, 0, none⟩ = some (.int .i64 n55) ∧ ∃ (p57 : Option Addr) (l57 c57 : Nat), w51.cell? ⟨b3, 1, none⟩ = some (.slice p57 l57 c57) ∧ InK .i64 (n55 + ((l57 : Int))) ∧ (0 ≤ (n55 + ((l57 : Int))) ∧ (n55 + ((l57 : Int))) ≤ (l0 : Int)) ∧ ∃ (p61 : Option Addr) (l61 c61 : Nat) (w61 : World), (Builtin.append_ #[23, 23] 23 #[.slice p51 l51 c51, .slice (subp p0 ((n55 + ((l57 : Int))).toNat) c0 1) (l0 - ((n55 + ((l57 : Int))).toNat)) (c0 - ((n55 + ((l57 : Int))).toNat))]).run Try.prog w51 = .ok (.slice p61 l61 c61) w61 ∧
  R (.returned (.tuple #[.slice p61 l61 c61, .int .i64 0])) w61))))
def f24_ann : Ann := { loops := [], cuts := [], flip := [], throws := [] }
theorem f24_eq (p0 : Option Addr) (l0 c0 : Nat) (a1_0 : Int) (p1_1 : Option Addr) (l1_1 c1_1 : Nat) (p1_2 : Option Addr) (l1_2 c1_2 : Nat) (w : World) (R : Ending → World → Prop) : vc Try.prog f24_ann (bodyOf Try.f24) (retQ Try.prog Try.f24 R) (envOf Try.f24.ntmps [.v (.slice p0 l0 c0), .v (.agg #[.int .i64 a1_0, .slice p1_1 l1_1 c1_1, .slice p1_2 l1_2 c1_2])]) w = f24_vc p0 l0 c0 a1_0 p1_1 l1_1 c1_1 p1_2 l1_2 c1_2 w R := by kernel_rfl
theorem f24_does (p0 : Option Addr) (l0 c0 : Nat) (a1_0 : Int) (p1_1 : Option Addr) (l1_1 c1_1 : Nat) (p1_2 : Option Addr) (l1_2 c1_2 : Nat) {w : World} {R : Ending → World → Prop} (h : f24_vc p0 l0 c0 a1_0 p1_1 l1_1 c1_1 p1_2 l1_2 c1_2 w R) : Does Try.prog 24 #[.slice p0 l0 c0, .agg #[.int .i64 a1_0, .slice p1_1 l1_1 c1_1, .slice p1_2 l1_2 c1_2]] w R :=
  does_of_vc (ss := [.v (.slice p0 l0 c0), .v (.agg #[.int .i64 a1_0, .slice p1_1 l1_1 c1_1, .slice p1_2 l1_2 c1_2])]) f24_ann mixed call24 Try.func24 rfl rfl (show 2 ≤ Try.f24.ntmps by decide) ((f24_eq p0 l0 c0 a1_0 p1_1 l1_1 c1_1 p1_2 l1_2 c1_2 w R).symm ▸ h)
/-- Of bytes.Equal (function 25): the condition. -/
def f25_vc (p0 : Option Addr) (l0 c0 : Nat) (p1 : Option Addr) (l1 c1 : Nat) (w : World) (R : Ending → World → Prop) : Prop :=
  ∃ s6 : ByteArray, ∃ w6, (convert 23 9 (.slice p0 l0 c0)).run Try.prog w = .ok (.string s6) w6 ∧ ∃ s8 : ByteArray, ∃ w8, (convert 23 9 (.slice p1 l1 c1)).run Try.prog w6 = .ok (.string s8) w8 ∧ R (.returned (.bool (s6.toList == s8.toList))) w8
def f25_ann : Ann := { loops := [], cuts := [], flip := [], throws := [] }
theorem f25_eq (p0 : Option Addr) (l0 c0 : Nat) (p1 : Option Addr) (l1 c1 : Nat) (w : World) (R : Ending → World → Prop) : vc Try.prog f25_ann (bodyOf Try.f25) (retQ Try.prog Try.f25 R) (envOf Try.f25.ntmps [.v (.slice p0 l0 c0), .v (.slice p1 l1 c1)]) w = f25_vc p0 l0 c0 p1 l1 c1 w R := by kernel_rfl
theorem f25_does (p0 : Option Addr) (l0 c0 : Nat) (p1 : Option Addr) (l1 c1 : Nat) {w : World} {R : Ending → World → Prop} (h : f25_vc p0 l0 c0 p1 l1 c1 w R) : Does Try.prog 25 #[.slice p0 l0 c0, .slice p1 l1 c1] w R :=
  does_of_vc (ss := [.v (.slice p0 l0 c0), .v (.slice p1 l1 c1)]) f25_ann mixed call25 Try.func25 rfl rfl (show 2 ≤ Try.f25.ntmps by decide) ((f25_eq p0 l0 c0 p1 l1 c1 w R).symm ▸ h)
/-- Of bytes.HasPrefix (function 26): the condition. -/
def f26_vc (p0 : Option Addr) (l0 c0 : Nat) (p1 : Option Addr) (l1 c1 : Nat) (w : World) (R : Ending → World → Prop) : Prop :=
  Br (decide (((l0 : Int)) ≥ ((l1 : Int))))
  ((0 ≤ ((l1 : Int)) ∧ ((l1 : Int)) ≤ (c0 : Int)) ∧ Does Try.prog 25 #[.slice (subp p0 0 c0 1) ((((l1 : Int)).toNat) - 0) (c0 - 0), .slice p1 l1 c1] w fun e16 w16 =>
  ∃ b16 : Bool, e16 = .returned (.bool b16) ∧ R (.returned (.bool b16)) w16)
  (R (.returned (.bool false)) w)
def f26_ann : Ann := { loops := [], cuts := [], flip := [], throws := [] }
theorem f26_eq (p0 : Option Addr) (l0 c0 : Nat) (p1 : Option Addr) (l1 c1 : Nat) (w : World) (R : Ending → World → Prop) : vc Try.prog f26_ann (bodyOf Try.f26) (retQ Try.prog Try.f26 R) (envOf Try.f26.ntmps [.v (.slice p0 l0 c0), .v (.slice p1 l1 c1)]) w = f26_vc p0 l0 c0 p1 l1 c1 w R := by kernel_rfl
theorem f26_does (p0 : Option Addr) (l0 c0 : Nat) (p1 : Option Addr) (l1 c1 : Nat) {w : World} {R : Ending → World → Prop} (h : f26_vc p0 l0 c0 p1 l1 c1 w R) : Does Try.prog 26 #[.slice p0 l0 c0, .slice p1 l1 c1] w R :=
  does_of_vc (ss := [.v (.slice p0 l0 c0), .v (.slice p1 l1 c1)]) f26_ann mixed call26 Try.func26 rfl rfl (show 2 ≤ Try.f26.ntmps by decide) ((f26_eq p0 l0 c0 p1 l1 c1 w R).symm ▸ h)
end Go.Proofs.Ytjcdenfbmeleeaa
