/-
  Of each function of the code: its verification condition, and that it suffices.
-/
import Derived.Test.YtgfdgopmbfljeaaVcDoes
import Derived.Test.YtgfdgopmbfljeaaProg
set_option maxRecDepth 100000
namespace Go.Proofs.Ytgfdgopmbfljeaa
open Go.RowKit Go.Vc
def bodyOf (fn : Func) : Code := match fn.body with | some c => c | none => .skip
theorem mixed : Try.prog.follows .mixedOrders = true := by kernel_rfl
theorem call3 : callableB Try.prog 3 = true := by kernel_rfl
theorem call4 : callableB Try.prog 4 = true := by kernel_rfl
theorem call5 : callableB Try.prog 5 = true := by kernel_rfl
theorem call6 : callableB Try.prog 6 = true := by kernel_rfl
theorem call7 : callableB Try.prog 7 = true := by kernel_rfl
theorem call8 : callableB Try.prog 8 = true := by kernel_rfl
theorem call9 : callableB Try.prog 9 = true := by kernel_rfl
theorem call10 : callableB Try.prog 10 = true := by kernel_rfl
theorem call11 : callableB Try.prog 11 = true := by kernel_rfl
theorem call12 : callableB Try.prog 12 = true := by kernel_rfl
theorem call13 : callableB Try.prog 13 = true := by kernel_rfl
theorem call14 : callableB Try.prog 14 = true := by kernel_rfl
theorem call15 : callableB Try.prog 15 = true := by kernel_rfl
theorem call16 : callableB Try.prog 16 = true := by kernel_rfl
theorem call17 : callableB Try.prog 17 = true := by kernel_rfl
theorem call18 : callableB Try.prog 18 = true := by kernel_rfl
theorem call19 : callableB Try.prog 19 = true := by kernel_rfl
theorem call20 : callableB Try.prog 20 = true := by kernel_rfl
theorem call21 : callableB Try.prog 21 = true := by kernel_rfl
theorem call22 : callableB Try.prog 22 = true := by kernel_rfl
theorem call23 : callableB Try.prog 23 = true := by kernel_rfl
theorem call24 : callableB Try.prog 24 = true := by kernel_rfl
theorem call25 : callableB Try.prog 25 = true := by kernel_rfl
theorem call26 : callableB Try.prog 26 = true := by kernel_rfl
theorem call27 : callableB Try.prog 27 = true := by kernel_rfl
theorem call28 : callableB Try.prog 28 = true := by kernel_rfl
theorem call29 : callableB Try.prog 29 = true := by kernel_rfl
theorem call30 : callableB Try.prog 30 = true := by kernel_rfl
theorem call32 : callableB Try.prog 32 = true := by kernel_rfl
theorem call33 : callableB Try.prog 33 = true := by kernel_rfl
/-- Of escritoire/escritoirelaw2.UtfKnown (function 3): the condition. -/
def f3_vc  (w : World) (R : Ending → World → Prop) : Prop :=
  Does Try.prog 9 #[] w fun e5 w5 =>
  ∃ b5 : Bool, e5 = .returned (.bool b5) ∧ Br (!b5)
  (R (.returned (.bool false)) w5)
  (∀ b8 w8, NewBlk w5 b8 [.int .u8 195, .int .u8 65] 5 w8 →
  Does Try.prog 10 #[.slice (some ⟨b8, 0, none⟩) 2 2, .int .i64 0] w8 fun e9 w9 =>
  ∃ n9 : Int, ∃ n9_1 : Int, e9 = .returned (.tuple #[.int .i64 n9, .int .i64 n9_1]) ∧ ∀ b13 w13, NewBlk w9 b13 [.int .u8 237, .int .u8 160, .int .u8 128] 5 w13 →
  Does Try.prog 10 #[.slice (some ⟨b13, 0, none⟩) 3 3, .int .i64 0] w13 fun e14 w14 =>
  ∃ n14 : Int, ∃ n14_1 : Int, e14 = .returned (.tuple #[.int .i64 n14, .int .i64 n14_1]) ∧ Br (n9 == (-1))
  (Br (n9_1 == 1)
  (Br (n14 == (-1))
  (Br (n14_1 == 1)
  (∀ b32 w32, NewBlk w14 b32 [.int .u8 164] 5 w32 →
  Does Try.prog 11 #[.slice (some ⟨b32, 0, none⟩) 1 1, .int .i64 1] w32 fun e33 w33 =>
  ∃ n33 : Int, e33 = .returned (.int .i64 n33) ∧ Br (n33 == 1)
  (∀ b37 w37, NewBlk w33 b37 [.int .u8 195, .int .u8 164] 5 w37 →
  Does Try.prog 12 #[.slice (some ⟨b37, 0, none⟩) 2 2, .int .i64 1] w37 fun e38 w38 =>
  ∃ b38 : Bool, e38 = .returned (.bool b38) ∧ Br (!b38)
  (∀ b42 w42, NewBlk w38 b42 [.int .u8 195, .int .u8 65] 5 w42 →
  Does Try.prog 12 #[.slice (some ⟨b42, 0, none⟩) 2 2, .int .i64 1] w42 fun e43 w43 =>
  ∃ b43 : Bool, e43 = .returned (.bool b43) ∧ Br b43
  (∀ b46 w46, NewBlk w43 b46 [.int .u8 195, .int .u8 164, .int .u8 164] 5 w46 →
  Does Try.prog 13 #[.slice (some ⟨b46, 0, none⟩) 3 3] w46 fun e47 w47 =>
  ∃ n47 : Int, e47 = .returned (.int .i64 n47) ∧ R (.returned (.bool (n47 == 2))) w47)
  (R (.returned (.bool false)) w43))
  (R (.returned (.bool false)) w38))
  (R (.returned (.bool false)) w33))
  (R (.returned (.bool false)) w14))
  (R (.returned (.bool false)) w14))
  (R (.returned (.bool false)) w14))
  (R (.returned (.bool false)) w14))
def f3_ann : Ann := { loops := [], cuts := [], flip := [], throws := [] }
theorem f3_eq  (w : World) (R : Ending → World → Prop) : vc Try.prog f3_ann (bodyOf Try.f3) (retQ Try.prog Try.f3 R) (envOf Try.f3.ntmps []) [] w = f3_vc  w R := by kernel_rfl
theorem f3_does  {w : World} {R : Ending → World → Prop} (h : f3_vc  w R) : Does Try.prog 3 #[] w R :=
  does_of_vc (ss := []) f3_ann mixed call3 Try.func3 rfl rfl (show 0 ≤ Try.f3.ntmps by decide) ((f3_eq  w R).symm ▸ h)
/-- Of escritoire/escritoirelaw2.UtfCuts (function 4): the condition. -/
def f4_vc (p0 : Option Addr) (l0 c0 : Nat) (a1 : Int) (w : World) (R : Ending → World → Prop) : Prop :=
  Does Try.prog 9 #[] w fun e9 w9 =>
  ∃ b9 : Bool, e9 = .returned (.bool b9) ∧ Br (!b9)
  (R (.returned (.bool false)) w9)
  (Br (decide (((l0 : Int)) > 20000))
  (R (.returned (.bool true)) w9)
  (Does Try.prog 10 #[.slice p0 l0 c0, .int .i64 a1] w9 fun e17 w17 =>
  ∃ n17 : Int, ∃ n17_1 : Int, e17 = .returned (.tuple #[.int .i64 n17, .int .i64 n17_1]) ∧ Does Try.prog 14 #[.slice p0 l0 c0, .int .i64 a1] w17 fun e23 w23 =>
  ∃ n23 : Int, ∃ n23_1 : Int, e23 = .returned (.tuple #[.int .i64 n23, .int .i64 n23_1]) ∧ Br (n17 == n23)
  (Br (n17_1 == n23_1)
  (Does Try.prog 11 #[.slice p0 l0 c0, .int .i64 a1] w23 fun e37 w37 =>
  ∃ n37 : Int, e37 = .returned (.int .i64 n37) ∧ Does Try.prog 15 #[.slice p0 l0 c0, .int .i64 a1] w37 fun e40 w40 =>
  ∃ n40 : Int, e40 = .returned (.int .i64 n40) ∧ Br (n37 == n40)
  (Does Try.prog 12 #[.slice p0 l0 c0, .int .i64 a1] w40 fun e46 w46 =>
  ∃ b46 : Bool, e46 = .returned (.bool b46) ∧ Does Try.prog 16 #[.slice p0 l0 c0, .int .i64 a1] w46 fun e49 w49 =>
  ∃ b49 : Bool, e49 = .returned (.bool b49) ∧ Br (b46 == b49)
  (Does Try.prog 13 #[.slice p0 l0 c0] w49 fun e54 w54 =>
  ∃ n54 : Int, e54 = .returned (.int .i64 n54) ∧ Does Try.prog 17 #[.slice p0 l0 c0] w54 fun e56 w56 =>
  ∃ n56 : Int, e56 = .returned (.int .i64 n56) ∧ R (.returned (.bool (n54 == n56))) w56)
  (R (.returned (.bool false)) w49))
  (R (.returned (.bool false)) w40))
  (R (.returned (.bool false)) w23))
  (R (.returned (.bool false)) w23)))
def f4_ann : Ann := { loops := [], cuts := [], flip := [], throws := [] }
theorem f4_eq (p0 : Option Addr) (l0 c0 : Nat) (a1 : Int) (w : World) (R : Ending → World → Prop) : vc Try.prog f4_ann (bodyOf Try.f4) (retQ Try.prog Try.f4 R) (envOf Try.f4.ntmps [.v (.slice p0 l0 c0), .v (.int .i64 a1)]) [] w = f4_vc p0 l0 c0 a1 w R := by kernel_rfl
theorem f4_does (p0 : Option Addr) (l0 c0 : Nat) (a1 : Int) {w : World} {R : Ending → World → Prop} (h : f4_vc p0 l0 c0 a1 w R) : Does Try.prog 4 #[.slice p0 l0 c0, .int .i64 a1] w R :=
  does_of_vc (ss := [.v (.slice p0 l0 c0), .v (.int .i64 a1)]) f4_ann mixed call4 Try.func4 rfl rfl (show 2 ≤ Try.f4.ntmps by decide) ((f4_eq p0 l0 c0 a1 w R).symm ▸ h)
/-- Of escritoire/escritoirelaw2.UtfWalks (function 5): the condition. -/
def f5_vc (p0 : Option Addr) (l0 c0 : Nat) (w : World) (R : Ending → World → Prop) : Prop :=
  Does Try.prog 9 #[] w fun e13 w13 =>
  ∃ b13 : Bool, e13 = .returned (.bool b13) ∧ Br (!b13)
  (R (.returned (.bool false)) w13)
  (Br (decide (((l0 : Int)) > 20000))
  (R (.returned (.bool true)) w13)
  (∃ I7 : Option Addr → Nat → Nat → Int → Nat → World → Prop, (∃ nl7, I7 none 0 0 0 nl7 w13) ∧ ∀ (p3 : Option Addr) (l3 c3 : Nat), ∀ x4 : Int, ∀ (nl7 : Nat) (wl7 : World), I7 p3 l3 c3 x4 nl7 wl7 →
  Br (decide (x4 < ((l0 : Int))))
  (∀ b24 w24, NewBlk wl7 b24 [.int .i64 x4] 3 w24 →
  ∃ (p25 : Option Addr) (l25 c25 : Nat) (w25 : World), (Builtin.append_ #[29, 29] 29 #[.slice p3 l3 c3, .slice (some ⟨b24, 0, none⟩) 1 1]).run Try.prog w24 = .ok (.slice p25 l25 c25) w25 ∧
  Does Try.prog 10 #[.slice p0 l0 c0, .int .i64 x4] w25 fun e29 w29 =>
  ∃ n29 : Int, ∃ n29_1 : Int, e29 = .returned (.tuple #[.int .i64 n29, .int .i64 n29_1]) ∧ Br (decide (n29_1 < 1))
  (R (.returned (.bool false)) w29)
  (InK .i64 (x4 + n29_1) ∧ ∃ ml7, ml7 < nl7 ∧ I7 p25 l25 c25 (x4 + n29_1) ml7 w29))
  (Does Try.prog 13 #[.slice p0 l0 c0] wl7 fun e38 w38 =>
  ∃ n38 : Int, e38 = .returned (.int .i64 n38) ∧ Br (n38 != ((l3 : Int)))
  (R (.returned (.bool false)) w38)
  (∃ I17 : Int → Int → Nat → World → Prop, (∃ nl17, I17 ((l3 : Int)) ((l0 : Int)) nl17 w38) ∧ ∀ x7 : Int, ∀ x8 : Int, ∀ (nl17 : Nat) (wl17 : World), I17 x7 x8 nl17 wl17 →
  Br (decide (x8 > 0))
  (Does Try.prog 11 #[.slice p0 l0 c0, .int .i64 x8] wl17 fun e50 w50 =>
  ∃ n50 : Int, e50 = .returned (.int .i64 n50) ∧ Br (decide (n50 < 1))
  (R (.returned (.bool false)) w50)
  (Br (x7 == 0)
  (R (.returned (.bool false)) w50)
  (InK .i64 (x8 - n50) ∧ InK .i64 (x7 - 1) ∧ ((0 : Int) ≤ (x7 - 1) ∧ (x7 - 1) < (l3 : Int)) ∧ ∃ b64 o64, p3 = some ⟨b64, o64, none⟩ ∧ ∃ n65 : Int, w50.cell? ⟨b64, o64 + (x7 - 1).toNat, none⟩ = some (.int .i64 n65) ∧ Br (n65 != (x8 - n50))
  (R (.returned (.bool false)) w50)
  (∃ ml17, ml17 < nl17 ∧ I17 (x7 - 1) (x8 - n50) ml17 w50))))
  (∃ I27 : Int → Int → Nat → World → Prop, (∃ nl27, I27 0 0 nl27 wl17) ∧ ∀ x10 : Int, ∀ x11 : Int, ∀ (nl27 : Nat) (wl27 : World), I27 x10 x11 nl27 wl27 →
  Br (decide (x11 < ((l0 : Int))))
  (Br (decide (x10 < ((l3 : Int))))
  (((0 : Int) ≤ x10 ∧ x10 < (l3 : Int)) ∧ ∃ b81 o81, p3 = some ⟨b81, o81, none⟩ ∧ ∃ n82 : Int, wl27.cell? ⟨b81, o81 + (x10).toNat, none⟩ = some (.int .i64 n82) ∧ Does Try.prog 12 #[.slice p0 l0 c0, .int .i64 x11] wl27 fun e88 w88 =>
  ∃ b88 : Bool, e88 = .returned (.bool b88) ∧ Br (!(b88 == (n82 == x11)))
  (R (.returned (.bool false)) w88)
  (Br (n82 == x11)
  (InK .i64 (x10 + 1) ∧ InK .i64 (x11 + 1) ∧ ∃ ml27, ml27 < nl27 ∧ I27 (x10 + 1) (x11 + 1) ml27 w88)
  (InK .i64 (x11 + 1) ∧ ∃ ml27, ml27 < nl27 ∧ I27 x10 (x11 + 1) ml27 w88)))
  (Does Try.prog 12 #[.slice p0 l0 c0, .int .i64 x11] wl27 fun e88_1 w88_1 =>
  ∃ b88_1 : Bool, e88_1 = .returned (.bool b88_1) ∧ Br (!(b88_1 == false))
  (R (.returned (.bool false)) w88_1)
  (InK .i64 (x11 + 1) ∧ ∃ ml27, ml27 < nl27 ∧ I27 x10 (x11 + 1) ml27 w88_1)))
  (R (.returned (.bool (x7 == 0))) wl27))))))
def f5_ann : Ann := { loops := [(7, [(3, .slice), (4, .int .i64)]), (17, [(7, .int .i64), (8, .int .i64)]), (27, [(10, .int .i64), (11, .int .i64)])], cuts := [], flip := [], throws := [] }
theorem f5_eq (p0 : Option Addr) (l0 c0 : Nat) (w : World) (R : Ending → World → Prop) : vc Try.prog f5_ann (bodyOf Try.f5) (retQ Try.prog Try.f5 R) (envOf Try.f5.ntmps [.v (.slice p0 l0 c0)]) [] w = f5_vc p0 l0 c0 w R := by kernel_rfl
theorem f5_does (p0 : Option Addr) (l0 c0 : Nat) {w : World} {R : Ending → World → Prop} (h : f5_vc p0 l0 c0 w R) : Does Try.prog 5 #[.slice p0 l0 c0] w R :=
  does_of_vc (ss := [.v (.slice p0 l0 c0)]) f5_ann mixed call5 Try.func5 rfl rfl (show 1 ≤ Try.f5.ntmps by decide) ((f5_eq p0 l0 c0 w R).symm ▸ h)
/-- Of escritoire/escritoirelaw2.UtfJoins (function 6): the condition. -/
def f6_vc (p0 : Option Addr) (l0 c0 : Nat) (p1 : Option Addr) (l1 c1 : Nat) (w : World) (R : Ending → World → Prop) : Prop :=
  Does Try.prog 9 #[] w fun e8 w8 =>
  ∃ b8 : Bool, e8 = .returned (.bool b8) ∧ Br (!b8)
  (R (.returned (.bool false)) w8)
  (Br (decide (((l0 : Int)) > 10000))
  (R (.returned (.bool true)) w8)
  (Br (decide (((l1 : Int)) > 10000))
  (R (.returned (.bool true)) w8)
  (Does Try.prog 18 #[.slice p0 l0 c0] w8 fun e19 w19 =>
  ∃ (p19 : Option Addr) (l19 c19 : Nat), e19 = .returned (.slice p19 l19 c19) ∧ ∃ (p21 : Option Addr) (l21 c21 : Nat) (w21 : World), (Builtin.append_ #[25, 25] 25 #[.slice p19 l19 c19, .slice p1 l1 c1]).run Try.prog w19 = .ok (.slice p21 l21 c21) w21 ∧
  Does Try.prog 13 #[.slice p0 l0 c0] w21 fun e23 w23 =>
  ∃ n23 : Int, e23 = .returned (.int .i64 n23) ∧ Does Try.prog 13 #[.slice p1 l1 c1] w23 fun e25 w25 =>
  ∃ n25 : Int, e25 = .returned (.int .i64 n25) ∧ InK .i64 (n23 + n25) ∧ Does Try.prog 13 #[.slice p21 l21 c21] w25 fun e28 w28 =>
  ∃ n28 : Int, e28 = .returned (.int .i64 n28) ∧ Br (decide (n28 > (n23 + n25)))
  (R (.returned (.bool false)) w28)
  (Does Try.prog 13 #[.slice p21 l21 c21] w28 fun e33 w33 =>
  ∃ n33 : Int, e33 = .returned (.int .i64 n33) ∧ InK .i64 ((n23 + n25) - 3) ∧ Br (decide (n33 < ((n23 + n25) - 3)))
  (R (.returned (.bool false)) w33)
  (Does Try.prog 12 #[.slice p21 l21 c21, .int .i64 ((l0 : Int))] w33 fun e41 w41 =>
  ∃ b41 : Bool, e41 = .returned (.bool b41) ∧ Does Try.prog 13 #[.slice p21 l21 c21] w41 fun e43 w43 =>
  ∃ n43 : Int, e43 = .returned (.int .i64 n43) ∧ Br (!(b41 == (n43 == (n23 + n25))))
  (R (.returned (.bool false)) w43)
  (∃ I12 : Int → Nat → World → Prop, (∃ nl12, I12 0 nl12 w43) ∧ ∀ x7 : Int, ∀ (nl12 : Nat) (wl12 : World), I12 x7 nl12 wl12 →
  InK .i64 (x7 + 3) ∧ Br (decide ((x7 + 3) < ((l0 : Int))))
  (Does Try.prog 12 #[.slice p21 l21 c21, .int .i64 x7] wl12 fun e56 w56 =>
  ∃ b56 : Bool, e56 = .returned (.bool b56) ∧ Does Try.prog 12 #[.slice p0 l0 c0, .int .i64 x7] w56 fun e59 w59 =>
  ∃ b59 : Bool, e59 = .returned (.bool b59) ∧ Br (!(b56 == b59))
  (R (.returned (.bool false)) w59)
  (InK .i64 (x7 + 1) ∧ ∃ ml12, ml12 < nl12 ∧ I12 (x7 + 1) ml12 w59))
  (R (.returned (.bool true)) wl12)))))))
def f6_ann : Ann := { loops := [(12, [(7, .int .i64)])], cuts := [], flip := [], throws := [] }
theorem f6_eq (p0 : Option Addr) (l0 c0 : Nat) (p1 : Option Addr) (l1 c1 : Nat) (w : World) (R : Ending → World → Prop) : vc Try.prog f6_ann (bodyOf Try.f6) (retQ Try.prog Try.f6 R) (envOf Try.f6.ntmps [.v (.slice p0 l0 c0), .v (.slice p1 l1 c1)]) [] w = f6_vc p0 l0 c0 p1 l1 c1 w R := by kernel_rfl
theorem f6_does (p0 : Option Addr) (l0 c0 : Nat) (p1 : Option Addr) (l1 c1 : Nat) {w : World} {R : Ending → World → Prop} (h : f6_vc p0 l0 c0 p1 l1 c1 w R) : Does Try.prog 6 #[.slice p0 l0 c0, .slice p1 l1 c1] w R :=
  does_of_vc (ss := [.v (.slice p0 l0 c0), .v (.slice p1 l1 c1)]) f6_ann mixed call6 Try.func6 rfl rfl (show 2 ≤ Try.f6.ntmps by decide) ((f6_eq p0 l0 c0 p1 l1 c1 w R).symm ▸ h)
/-- Of escritoire/escritoirelaw2.UtfEncodes (function 7): the condition. -/
def f7_vc (a0 : Int) (p1 : Option Addr) (l1 c1 : Nat) (w : World) (R : Ending → World → Prop) : Prop :=
  Does Try.prog 9 #[] w fun e8 w8 =>
  ∃ b8 : Bool, e8 = .returned (.bool b8) ∧ Br (!b8)
  (R (.returned (.bool false)) w8)
  (Br (decide (((l1 : Int)) > 20000))
  (R (.returned (.bool true)) w8)
  (Does Try.prog 19 #[.int .i64 a0] w8 fun e14 w14 =>
  ∃ (p14 : Option Addr) (l14 c14 : Nat), e14 = .returned (.slice p14 l14 c14) ∧ Does Try.prog 21 #[.int .i64 a0] w14 fun e17 w17 =>
  ∃ (p17 : Option Addr) (l17 c17 : Nat), e17 = .returned (.slice p17 l17 c17) ∧ Does Try.prog 20 #[.slice p14 l14 c14, .slice p17 l17 c17] w17 fun e18 w18 =>
  ∃ b18 : Bool, e18 = .returned (.bool b18) ∧ Br (!b18)
  (R (.returned (.bool false)) w18)
  (Does Try.prog 22 #[.int .i64 a0] w18 fun e22 w22 =>
  ∃ n22 : Int, e22 = .returned (.int .i64 n22) ∧ Does Try.prog 23 #[.int .i64 a0] w22 fun e24 w24 =>
  ∃ n24 : Int, e24 = .returned (.int .i64 n24) ∧ Br (n22 != n24)
  (R (.returned (.bool false)) w24)
  (Does Try.prog 24 #[.int .i64 a0] w24 fun e29 w29 =>
  ∃ n29 : Int, e29 = .returned (.int .i64 n29) ∧ Does Try.prog 25 #[.int .i64 a0] w29 fun e31 w31 =>
  ∃ n31 : Int, e31 = .returned (.int .i64 n31) ∧ Br (n29 != n31)
  (R (.returned (.bool false)) w31)
  (Does Try.prog 24 #[.int .i64 a0] w31 fun e36 w36 =>
  ∃ n36 : Int, e36 = .returned (.int .i64 n36) ∧ Does Try.prog 24 #[.int .i64 n36] w36 fun e37 w37 =>
  ∃ n37 : Int, e37 = .returned (.int .i64 n37) ∧ Br (n37 != a0)
  (R (.returned (.bool false)) w37)
  (Br (((l14 : Int)) == 0)
  (Br (decide (a0 < 0))
  (R (.returned (.bool true)) w37)
  (Br (decide (a0 > 1114111))
  (R (.returned (.bool true)) w37)
  (Br (decide (a0 ≥ 55296))
  (R (.returned (.bool (decide (a0 ≤ 57343)))) w37)
  (R (.returned (.bool false)) w37))))
  (Does Try.prog 18 #[.slice p14 l14 c14] w37 fun e60 w60 =>
  ∃ (p60 : Option Addr) (l60 c60 : Nat), e60 = .returned (.slice p60 l60 c60) ∧ ∃ (p62 : Option Addr) (l62 c62 : Nat) (w62 : World), (Builtin.append_ #[25, 25] 25 #[.slice p60 l60 c60, .slice p1 l1 c1]).run Try.prog w60 = .ok (.slice p62 l62 c62) w62 ∧
  Does Try.prog 10 #[.slice p62 l62 c62, .int .i64 0] w62 fun e63 w63 =>
  ∃ n63 : Int, ∃ n63_1 : Int, e63 = .returned (.tuple #[.int .i64 n63, .int .i64 n63_1]) ∧ Br (n63 == a0)
  (R (.returned (.bool (n63_1 == ((l14 : Int))))) w63)
  (R (.returned (.bool false)) w63))))))))
def f7_ann : Ann := { loops := [], cuts := [], flip := [], throws := [] }
theorem f7_eq (a0 : Int) (p1 : Option Addr) (l1 c1 : Nat) (w : World) (R : Ending → World → Prop) : vc Try.prog f7_ann (bodyOf Try.f7) (retQ Try.prog Try.f7 R) (envOf Try.f7.ntmps [.v (.int .i64 a0), .v (.slice p1 l1 c1)]) [] w = f7_vc a0 p1 l1 c1 w R := by kernel_rfl
theorem f7_does (a0 : Int) (p1 : Option Addr) (l1 c1 : Nat) {w : World} {R : Ending → World → Prop} (h : f7_vc a0 p1 l1 c1 w R) : Does Try.prog 7 #[.int .i64 a0, .slice p1 l1 c1] w R :=
  does_of_vc (ss := [.v (.int .i64 a0), .v (.slice p1 l1 c1)]) f7_ann mixed call7 Try.func7 rfl rfl (show 2 ≤ Try.f7.ntmps by decide) ((f7_eq a0 p1 l1 c1 w R).symm ▸ h)
/-- Of escritoire/escritoirelaw2.UtfAll (function 8): the condition. -/
def f8_vc (p0 : Option Addr) (l0 c0 : Nat) (w : World) (R : Ending → World → Prop) : Prop :=
  Does Try.prog 9 #[] w fun e11 w11 =>
  ∃ b11 : Bool, e11 = .returned (.bool b11) ∧ Br (!b11)
  (R (.returned (.bool false)) w11)
  (Br (decide (((l0 : Int)) > 500))
  (R (.returned (.bool true)) w11)
  (∃ I8 : Option Addr → Nat → Nat → Int → Int → Nat → World → Prop, (∃ nl8, I8 none 0 0 0 0 nl8 w11) ∧ ∀ (p3 : Option Addr) (l3 c3 : Nat), ∀ x4 : Int, ∀ x5 : Int, ∀ (nl8 : Nat) (wl8 : World), I8 p3 l3 c3 x4 x5 nl8 wl8 →
  Br (decide (x5 < ((l0 : Int))))
  (((0 : Int) ≤ x5 ∧ x5 < (l0 : Int)) ∧ ∃ b24 o24, p0 = some ⟨b24, o24, none⟩ ∧ ∃ n25 : Int, wl8.cell? ⟨b24, o24 + (x5).toNat, none⟩ = some (.int .i64 n25) ∧ Does Try.prog 19 #[.int .i64 n25] wl8 fun e26 w26 =>
  ∃ (p26 : Option Addr) (l26 c26 : Nat), e26 = .returned (.slice p26 l26 c26) ∧ Br (decide (((l26 : Int)) > 0))
  (InK .i64 (x4 + 1) ∧ ∃ (p34 : Option Addr) (l34 c34 : Nat) (w34 : World), (Builtin.append_ #[25, 25] 25 #[.slice p3 l3 c3, .slice p26 l26 c26]).run Try.prog w26 = .ok (.slice p34 l34 c34) w34 ∧
  InK .i64 (x5 + 1) ∧ ∃ ml8, ml8 < nl8 ∧ I8 p34 l34 c34 (x4 + 1) (x5 + 1) ml8 w34)
  (∃ (p34_1 : Option Addr) (l34_1 c34_1 : Nat) (w34_1 : World), (Builtin.append_ #[25, 25] 25 #[.slice p3 l3 c3, .slice p26 l26 c26]).run Try.prog w26 = .ok (.slice p34_1 l34_1 c34_1) w34_1 ∧
  InK .i64 (x5 + 1) ∧ ∃ ml8, ml8 < nl8 ∧ I8 p34_1 l34_1 c34_1 x4 (x5 + 1) ml8 w34_1))
  (Does Try.prog 13 #[.slice p3 l3 c3] wl8 fun e36 w36 =>
  ∃ n36 : Int, e36 = .returned (.int .i64 n36) ∧ Br (n36 != x4)
  (R (.returned (.bool false)) w36)
  (∃ I18 : Int → Int → Nat → World → Prop, (∃ nl18, I18 0 0 nl18 w36) ∧ ∀ x7 : Int, ∀ x8 : Int, ∀ (nl18 : Nat) (wl18 : World), I18 x7 x8 nl18 wl18 →
  Br (decide (x8 < ((l0 : Int))))
  (((0 : Int) ≤ x8 ∧ x8 < (l0 : Int)) ∧ ∃ b47 o47, p0 = some ⟨b47, o47, none⟩ ∧ ∃ n48 : Int, wl18.cell? ⟨b47, o47 + (x8).toNat, none⟩ = some (.int .i64 n48) ∧ Does Try.prog 19 #[.int .i64 n48] wl18 fun e49 w49 =>
  ∃ (p49 : Option Addr) (l49 c49 : Nat), e49 = .returned (.slice p49 l49 c49) ∧ Br (((l49 : Int)) == 0)
  (InK .i64 (x8 + 1) ∧ ∃ ml18, ml18 < nl18 ∧ I18 x7 (x8 + 1) ml18 w49)
  (Does Try.prog 10 #[.slice p3 l3 c3, .int .i64 x7] w49 fun e55 w55 =>
  ∃ n55 : Int, ∃ n55_1 : Int, e55 = .returned (.tuple #[.int .i64 n55, .int .i64 n55_1]) ∧ ((0 : Int) ≤ x8 ∧ x8 < (l0 : Int)) ∧ ∃ b61 o61, p0 = some ⟨b61, o61, none⟩ ∧ ∃ n62 : Int, w55.cell? ⟨b61, o61 + (x8).toNat, none⟩ = some (.int .i64 n62) ∧ Br (n55 != n62)
  (R (.returned (.bool false)) w55)
  (InK .i64 (x7 + n55_1) ∧ Does Try.prog 11 #[.slice p3 l3 c3, .int .i64 (x7 + n55_1)] w55 fun e69 w69 =>
  ∃ n69 : Int, e69 = .returned (.int .i64 n69) ∧ Br (n69 != n55_1)
  (R (.returned (.bool false)) w69)
  (Does Try.prog 12 #[.slice p3 l3 c3, .int .i64 x7] w69 fun e76 w76 =>
  ∃ b76 : Bool, e76 = .returned (.bool b76) ∧ Br (!b76)
  (R (.returned (.bool false)) w76)
  (InK .i64 (x7 + n55_1) ∧ InK .i64 (x8 + 1) ∧ ∃ ml18, ml18 < nl18 ∧ I18 (x7 + n55_1) (x8 + 1) ml18 w76)))))
  (R (.returned (.bool (x7 == ((l3 : Int))))) wl18)))))
def f8_ann : Ann := { loops := [(8, [(3, .slice), (4, .int .i64), (5, .int .i64)]), (18, [(7, .int .i64), (8, .int .i64)])], cuts := [], flip := [], throws := [] }
theorem f8_eq (p0 : Option Addr) (l0 c0 : Nat) (w : World) (R : Ending → World → Prop) : vc Try.prog f8_ann (bodyOf Try.f8) (retQ Try.prog Try.f8 R) (envOf Try.f8.ntmps [.v (.slice p0 l0 c0)]) [] w = f8_vc p0 l0 c0 w R := by kernel_rfl
theorem f8_does (p0 : Option Addr) (l0 c0 : Nat) {w : World} {R : Ending → World → Prop} (h : f8_vc p0 l0 c0 w R) : Does Try.prog 8 #[.slice p0 l0 c0] w R :=
  does_of_vc (ss := [.v (.slice p0 l0 c0)]) f8_ann mixed call8 Try.func8 rfl rfl (show 1 ≤ Try.f8.ntmps by decide) ((f8_eq p0 l0 c0 w R).symm ▸ h)
/-- Of escritoire/escritoirelaw2.awake (function 9): the condition. -/
def f9_vc  (w : World) (R : Ending → World → Prop) : Prop :=
  ∀ b4 w4, NewBlk w b4 [.int .u8 195, .int .u8 164, .int .u8 65] 5 w4 →
  Does Try.prog 10 #[.slice (some ⟨b4, 0, none⟩) 3 3, .int .i64 0] w4 fun e5 w5 =>
  ∃ n5 : Int, ∃ n5_1 : Int, e5 = .returned (.tuple #[.int .i64 n5, .int .i64 n5_1]) ∧ Br (n5 == 228)
  (Br (n5_1 == 2)
  (∀ b15 w15, NewBlk w5 b15 [.int .u8 195, .int .u8 164] 5 w15 →
  Does Try.prog 11 #[.slice (some ⟨b15, 0, none⟩) 2 2, .int .i64 2] w15 fun e16 w16 =>
  ∃ n16 : Int, e16 = .returned (.int .i64 n16) ∧ R (.returned (.bool (n16 == 2))) w16)
  (R (.returned (.bool false)) w5))
  (R (.returned (.bool false)) w5)
def f9_ann : Ann := { loops := [], cuts := [], flip := [], throws := [] }
theorem f9_eq  (w : World) (R : Ending → World → Prop) : vc Try.prog f9_ann (bodyOf Try.f9) (retQ Try.prog Try.f9 R) (envOf Try.f9.ntmps []) [] w = f9_vc  w R := by kernel_rfl
theorem f9_does  {w : World} {R : Ending → World → Prop} (h : f9_vc  w R) : Does Try.prog 9 #[] w R :=
  does_of_vc (ss := []) f9_ann mixed call9 Try.func9 rfl rfl (show 0 ≤ Try.f9.ntmps by decide) ((f9_eq  w R).symm ▸ h)
/-- Of escritoire/utf.Next (function 10): the condition. -/
def f10_vc (p0 : Option Addr) (l0 c0 : Nat) (a1 : Int) (w : World) (R : Ending → World → Prop) : Prop :=
  Br (decide (a1 < 0))
  (R (.returned (.tuple #[.int .i64 0, .int .i64 0])) w)
  (Br (decide (a1 ≥ ((l0 : Int))))
  (R (.returned (.tuple #[.int .i64 0, .int .i64 0])) w)
  (((0 : Int) ≤ a1 ∧ a1 ≤ (l0 : Int)) ∧ Does Try.prog 26 #[.slice (subp p0 ((a1).toNat) c0 1) (l0 - ((a1).toNat)) (c0 - ((a1).toNat))] w fun e20 w20 =>
  ∃ n20 : Int, ∃ n20_1 : Int, e20 = .returned (.tuple #[.int .i64 n20, .int .i64 n20_1]) ∧ Br (decide (n20_1 > 0))
  (R (.returned (.tuple #[.int .i64 n20, .int .i64 n20_1])) w20)
  (((0 : Int) ≤ a1 ∧ a1 < (l0 : Int)) ∧ ∃ b29 o29, p0 = some ⟨b29, o29, none⟩ ∧ ∃ n30 : Int, w20.cell? ⟨b29, o29 + (a1).toNat, none⟩ = some (.int .u8 n30) ∧ Br (decide (n30 < 128))
  (((0 : Int) ≤ a1 ∧ a1 < (l0 : Int)) ∧ ∃ b34 o34, p0 = some ⟨b34, o34, none⟩ ∧ ∃ n35 : Int, w20.cell? ⟨b34, o34 + (a1).toNat, none⟩ = some (.int .u8 n35) ∧ InK .i64 (n35) ∧ R (.returned (.tuple #[.int .i64 n35, .int .i64 1])) w20)
  (R (.returned (.tuple #[.int .i64 (-1), .int .i64 1])) w20))))
def f10_ann : Ann := { loops := [], cuts := [], flip := [], throws := [] }
theorem f10_eq (p0 : Option Addr) (l0 c0 : Nat) (a1 : Int) (w : World) (R : Ending → World → Prop) : vc Try.prog f10_ann (bodyOf Try.f10) (retQ Try.prog Try.f10 R) (envOf Try.f10.ntmps [.v (.slice p0 l0 c0), .v (.int .i64 a1)]) [] w = f10_vc p0 l0 c0 a1 w R := by kernel_rfl
theorem f10_does (p0 : Option Addr) (l0 c0 : Nat) (a1 : Int) {w : World} {R : Ending → World → Prop} (h : f10_vc p0 l0 c0 a1 w R) : Does Try.prog 10 #[.slice p0 l0 c0, .int .i64 a1] w R :=
  does_of_vc (ss := [.v (.slice p0 l0 c0), .v (.int .i64 a1)]) f10_ann mixed call10 Try.func10 rfl rfl (show 2 ≤ Try.f10.ntmps by decide) ((f10_eq p0 l0 c0 a1 w R).symm ▸ h)
/-- Of escritoire/utf.Last (function 11): the condition. -/
def f11_vc (p0 : Option Addr) (l0 c0 : Nat) (a1 : Int) (w : World) (R : Ending → World → Prop) : Prop :=
  Br (decide (a1 < 1))
  (R (.returned (.int .i64 0)) w)
  (Br (decide (a1 > ((l0 : Int))))
  (R (.returned (.int .i64 0)) w)
  (∃ I4 : Int → Nat → World → Prop, (∃ nl4, I4 2 nl4 w) ∧ ∀ x5 : Int, ∀ (nl4 : Nat) (wl4 : World), I4 x5 nl4 wl4 →
  Br (decide (x5 ≤ (if a1 < 4 then a1 else 4)))
  (InK .i64 (a1 - x5) ∧ ((0 : Int) ≤ a1 ∧ a1 ≤ (c0 : Int)) ∧ ((0 : Int) ≤ (a1 - x5) ∧ (a1 - x5) ≤ a1) ∧ Does Try.prog 26 #[.slice (subp p0 ((a1 - x5).toNat) c0 1) (((a1).toNat) - ((a1 - x5).toNat)) (c0 - ((a1 - x5).toNat))] wl4 fun e29 w29 =>
  ∃ n29 : Int, ∃ n29_1 : Int, e29 = .returned (.tuple #[.int .i64 n29, .int .i64 n29_1]) ∧ Br (n29_1 == x5)
  (R (.returned (.int .i64 x5)) w29)
  (InK .i64 (x5 + 1) ∧ ∃ ml4, ml4 < nl4 ∧ I4 (x5 + 1) ml4 w29))
  (R (.returned (.int .i64 1)) wl4)))
def f11_ann : Ann := { loops := [(4, [(5, .int .i64)])], cuts := [], flip := [], throws := [] }
theorem f11_eq (p0 : Option Addr) (l0 c0 : Nat) (a1 : Int) (w : World) (R : Ending → World → Prop) : vc Try.prog f11_ann (bodyOf Try.f11) (retQ Try.prog Try.f11 R) (envOf Try.f11.ntmps [.v (.slice p0 l0 c0), .v (.int .i64 a1)]) [] w = f11_vc p0 l0 c0 a1 w R := by kernel_rfl
theorem f11_does (p0 : Option Addr) (l0 c0 : Nat) (a1 : Int) {w : World} {R : Ending → World → Prop} (h : f11_vc p0 l0 c0 a1 w R) : Does Try.prog 11 #[.slice p0 l0 c0, .int .i64 a1] w R :=
  does_of_vc (ss := [.v (.slice p0 l0 c0), .v (.int .i64 a1)]) f11_ann mixed call11 Try.func11 rfl rfl (show 2 ≤ Try.f11.ntmps by decide) ((f11_eq p0 l0 c0 a1 w R).symm ▸ h)
/-- Of escritoire/utf.Begins (function 12): the condition. -/
def f12_vc (p0 : Option Addr) (l0 c0 : Nat) (a1 : Int) (w : World) (R : Ending → World → Prop) : Prop :=
  Br (decide (a1 < 0))
  (R (.returned (.bool false)) w)
  (Br (decide (a1 > ((l0 : Int))))
  (R (.returned (.bool false)) w)
  (InK .i64 (a1 - 4) ∧ InK .i64 ((a1 - 4) + 1) ∧ ∃ I4 : Int → Nat → World → Prop, (∃ nl4, I4 (if 0 < (a1 - 4) + 1 then (a1 - 4) + 1 else 0) nl4 w) ∧ ∀ x5 : Int, ∀ (nl4 : Nat) (wl4 : World), I4 x5 nl4 wl4 →
  Br (decide (x5 < a1))
  (((0 : Int) ≤ x5 ∧ x5 ≤ (l0 : Int)) ∧ Does Try.prog 26 #[.slice (subp p0 ((x5).toNat) c0 1) (l0 - ((x5).toNat)) (c0 - ((x5).toNat))] wl4 fun e29 w29 =>
  ∃ n29 : Int, ∃ n29_1 : Int, e29 = .returned (.tuple #[.int .i64 n29, .int .i64 n29_1]) ∧ InK .i64 (x5 + n29_1) ∧ Br (decide ((x5 + n29_1) > a1))
  (R (.returned (.bool false)) w29)
  (InK .i64 (x5 + 1) ∧ ∃ ml4, ml4 < nl4 ∧ I4 (x5 + 1) ml4 w29))
  (R (.returned (.bool true)) wl4)))
def f12_ann : Ann := { loops := [(4, [(5, .int .i64)])], cuts := [], flip := [], throws := [] }
theorem f12_eq (p0 : Option Addr) (l0 c0 : Nat) (a1 : Int) (w : World) (R : Ending → World → Prop) : vc Try.prog f12_ann (bodyOf Try.f12) (retQ Try.prog Try.f12 R) (envOf Try.f12.ntmps [.v (.slice p0 l0 c0), .v (.int .i64 a1)]) [] w = f12_vc p0 l0 c0 a1 w R := by kernel_rfl
theorem f12_does (p0 : Option Addr) (l0 c0 : Nat) (a1 : Int) {w : World} {R : Ending → World → Prop} (h : f12_vc p0 l0 c0 a1 w R) : Does Try.prog 12 #[.slice p0 l0 c0, .int .i64 a1] w R :=
  does_of_vc (ss := [.v (.slice p0 l0 c0), .v (.int .i64 a1)]) f12_ann mixed call12 Try.func12 rfl rfl (show 2 ≤ Try.f12.ntmps by decide) ((f12_eq p0 l0 c0 a1 w R).symm ▸ h)
/-- Of escritoire/utf.Count (function 13): the condition. -/
def f13_vc (p0 : Option Addr) (l0 c0 : Nat) (w : World) (R : Ending → World → Prop) : Prop :=
  ∃ I3 : Int → Int → Nat → World → Prop, (∃ nl3, I3 0 0 nl3 w) ∧ ∀ x3 : Int, ∀ x4 : Int, ∀ (nl3 : Nat) (wl3 : World), I3 x3 x4 nl3 wl3 →
  Br (decide (x4 < ((l0 : Int))))
  (Does Try.prog 10 #[.slice p0 l0 c0, .int .i64 x4] wl3 fun e16 w16 =>
  ∃ n16 : Int, ∃ n16_1 : Int, e16 = .returned (.tuple #[.int .i64 n16, .int .i64 n16_1]) ∧ InK .i64 (x4 + n16_1) ∧ InK .i64 (x3 + 1) ∧ ∃ ml3, ml3 < nl3 ∧ I3 (x3 + 1) (x4 + n16_1) ml3 w16)
  (R (.returned (.int .i64 x3)) wl3)
def f13_ann : Ann := { loops := [(3, [(3, .int .i64), (4, .int .i64)])], cuts := [], flip := [], throws := [] }
theorem f13_eq (p0 : Option Addr) (l0 c0 : Nat) (w : World) (R : Ending → World → Prop) : vc Try.prog f13_ann (bodyOf Try.f13) (retQ Try.prog Try.f13 R) (envOf Try.f13.ntmps [.v (.slice p0 l0 c0)]) [] w = f13_vc p0 l0 c0 w R := by kernel_rfl
theorem f13_does (p0 : Option Addr) (l0 c0 : Nat) {w : World} {R : Ending → World → Prop} (h : f13_vc p0 l0 c0 w R) : Does Try.prog 13 #[.slice p0 l0 c0] w R :=
  does_of_vc (ss := [.v (.slice p0 l0 c0)]) f13_ann mixed call13 Try.func13 rfl rfl (show 1 ≤ Try.f13.ntmps by decide) ((f13_eq p0 l0 c0 w R).symm ▸ h)
/-- Of escritoire/escritoireref1.Next (function 14): the condition. -/
def f14_vc (p0 : Option Addr) (l0 c0 : Nat) (a1 : Int) (w : World) (R : Ending → World → Prop) : Prop :=
  Br (decide (a1 < 0))
  (R (.returned (.tuple #[.int .i64 0, .int .i64 0])) w)
  (Br (decide (a1 ≥ ((l0 : Int))))
  (R (.returned (.tuple #[.int .i64 0, .int .i64 0])) w)
  (Does Try.prog 27 #[.slice p0 l0 c0, .int .i64 a1] w fun e19 w19 =>
  ∃ n19 : Int, ∃ n19_1 : Int, e19 = .returned (.tuple #[.int .i64 n19, .int .i64 n19_1]) ∧ Br (decide (n19_1 > 0))
  (R (.returned (.tuple #[.int .i64 n19, .int .i64 n19_1])) w19)
  (((0 : Int) ≤ a1 ∧ a1 < (l0 : Int)) ∧ ∃ b28 o28, p0 = some ⟨b28, o28, none⟩ ∧ ∃ n29 : Int, w19.cell? ⟨b28, o28 + (a1).toNat, none⟩ = some (.int .u8 n29) ∧ Br (decide (n29 < 128))
  (((0 : Int) ≤ a1 ∧ a1 < (l0 : Int)) ∧ ∃ b33 o33, p0 = some ⟨b33, o33, none⟩ ∧ ∃ n34 : Int, w19.cell? ⟨b33, o33 + (a1).toNat, none⟩ = some (.int .u8 n34) ∧ InK .i64 (n34) ∧ R (.returned (.tuple #[.int .i64 n34, .int .i64 1])) w19)
  (R (.returned (.tuple #[.int .i64 (-1), .int .i64 1])) w19))))
def f14_ann : Ann := { loops := [], cuts := [], flip := [], throws := [] }
theorem f14_eq (p0 : Option Addr) (l0 c0 : Nat) (a1 : Int) (w : World) (R : Ending → World → Prop) : vc Try.prog f14_ann (bodyOf Try.f14) (retQ Try.prog Try.f14 R) (envOf Try.f14.ntmps [.v (.slice p0 l0 c0), .v (.int .i64 a1)]) [] w = f14_vc p0 l0 c0 a1 w R := by kernel_rfl
theorem f14_does (p0 : Option Addr) (l0 c0 : Nat) (a1 : Int) {w : World} {R : Ending → World → Prop} (h : f14_vc p0 l0 c0 a1 w R) : Does Try.prog 14 #[.slice p0 l0 c0, .int .i64 a1] w R :=
  does_of_vc (ss := [.v (.slice p0 l0 c0), .v (.int .i64 a1)]) f14_ann mixed call14 Try.func14 rfl rfl (show 2 ≤ Try.f14.ntmps by decide) ((f14_eq p0 l0 c0 a1 w R).symm ▸ h)
/-- Of escritoire/escritoireref1.Last (function 15): the condition. -/
def f15_vc (p0 : Option Addr) (l0 c0 : Nat) (a1 : Int) (w : World) (R : Ending → World → Prop) : Prop :=
  Br (decide (a1 < 1))
  (R (.returned (.int .i64 0)) w)
  (Br (decide (a1 > ((l0 : Int))))
  (R (.returned (.int .i64 0)) w)
  (∃ I4 : Int → Nat → World → Prop, (∃ nl4, I4 2 nl4 w) ∧ ∀ x5 : Int, ∀ (nl4 : Nat) (wl4 : World), I4 x5 nl4 wl4 →
  Br (decide (x5 ≤ 4))
  (Br (decide (x5 ≤ a1))
  (InK .i64 (a1 - x5) ∧ Does Try.prog 27 #[.slice p0 l0 c0, .int .i64 (a1 - x5)] wl4 fun e30 w30 =>
  ∃ n30 : Int, ∃ n30_1 : Int, e30 = .returned (.tuple #[.int .i64 n30, .int .i64 n30_1]) ∧ Br (n30_1 == x5)
  (R (.returned (.int .i64 x5)) w30)
  (InK .i64 (x5 + 1) ∧ ∃ ml4, ml4 < nl4 ∧ I4 (x5 + 1) ml4 w30))
  (R (.returned (.int .i64 1)) wl4))
  (R (.returned (.int .i64 1)) wl4)))
def f15_ann : Ann := { loops := [(4, [(5, .int .i64)])], cuts := [], flip := [], throws := [] }
theorem f15_eq (p0 : Option Addr) (l0 c0 : Nat) (a1 : Int) (w : World) (R : Ending → World → Prop) : vc Try.prog f15_ann (bodyOf Try.f15) (retQ Try.prog Try.f15 R) (envOf Try.f15.ntmps [.v (.slice p0 l0 c0), .v (.int .i64 a1)]) [] w = f15_vc p0 l0 c0 a1 w R := by kernel_rfl
theorem f15_does (p0 : Option Addr) (l0 c0 : Nat) (a1 : Int) {w : World} {R : Ending → World → Prop} (h : f15_vc p0 l0 c0 a1 w R) : Does Try.prog 15 #[.slice p0 l0 c0, .int .i64 a1] w R :=
  does_of_vc (ss := [.v (.slice p0 l0 c0), .v (.int .i64 a1)]) f15_ann mixed call15 Try.func15 rfl rfl (show 2 ≤ Try.f15.ntmps by decide) ((f15_eq p0 l0 c0 a1 w R).symm ▸ h)
/-- Of escritoire/escritoireref1.Begins (function 16): the condition. -/
def f16_vc (p0 : Option Addr) (l0 c0 : Nat) (a1 : Int) (w : World) (R : Ending → World → Prop) : Prop :=
  Br (decide (a1 < 0))
  (R (.returned (.bool false)) w)
  (Br (decide (a1 > ((l0 : Int))))
  (R (.returned (.bool false)) w)
  (∃ I4 : Int → Nat → World → Prop, (∃ nl4, I4 1 nl4 w) ∧ ∀ x5 : Int, ∀ (nl4 : Nat) (wl4 : World), I4 x5 nl4 wl4 →
  Br (decide (x5 ≤ 3))
  (Br (decide (x5 ≤ a1))
  (Br (decide (a1 < ((l0 : Int))))
  (InK .i64 (a1 - x5) ∧ Does Try.prog 27 #[.slice p0 l0 c0, .int .i64 (a1 - x5)] wl4 fun e36 w36 =>
  ∃ n36 : Int, ∃ n36_1 : Int, e36 = .returned (.tuple #[.int .i64 n36, .int .i64 n36_1]) ∧ Br (decide (n36_1 > x5))
  (R (.returned (.bool false)) w36)
  (InK .i64 (x5 + 1) ∧ ∃ ml4, ml4 < nl4 ∧ I4 (x5 + 1) ml4 w36))
  (R (.returned (.bool true)) wl4))
  (R (.returned (.bool true)) wl4))
  (R (.returned (.bool true)) wl4)))
def f16_ann : Ann := { loops := [(4, [(5, .int .i64)])], cuts := [], flip := [], throws := [] }
theorem f16_eq (p0 : Option Addr) (l0 c0 : Nat) (a1 : Int) (w : World) (R : Ending → World → Prop) : vc Try.prog f16_ann (bodyOf Try.f16) (retQ Try.prog Try.f16 R) (envOf Try.f16.ntmps [.v (.slice p0 l0 c0), .v (.int .i64 a1)]) [] w = f16_vc p0 l0 c0 a1 w R := by kernel_rfl
theorem f16_does (p0 : Option Addr) (l0 c0 : Nat) (a1 : Int) {w : World} {R : Ending → World → Prop} (h : f16_vc p0 l0 c0 a1 w R) : Does Try.prog 16 #[.slice p0 l0 c0, .int .i64 a1] w R :=
  does_of_vc (ss := [.v (.slice p0 l0 c0), .v (.int .i64 a1)]) f16_ann mixed call16 Try.func16 rfl rfl (show 2 ≤ Try.f16.ntmps by decide) ((f16_eq p0 l0 c0 a1 w R).symm ▸ h)
/-- Of escritoire/escritoireref1.Count (function 17): the condition. -/
def f17_vc (p0 : Option Addr) (l0 c0 : Nat) (w : World) (R : Ending → World → Prop) : Prop :=
  ∃ I3 : Int → Int → Nat → World → Prop, (∃ nl3, I3 0 0 nl3 w) ∧ ∀ x3 : Int, ∀ x4 : Int, ∀ (nl3 : Nat) (wl3 : World), I3 x3 x4 nl3 wl3 →
  Br (decide (x4 < ((l0 : Int))))
  (Does Try.prog 14 #[.slice p0 l0 c0, .int .i64 x4] wl3 fun e14 w14 =>
  ∃ n14 : Int, ∃ n14_1 : Int, e14 = .returned (.tuple #[.int .i64 n14, .int .i64 n14_1]) ∧ InK .i64 (x4 + n14_1) ∧ InK .i64 (x3 + 1) ∧ ∃ ml3, ml3 < nl3 ∧ I3 (x3 + 1) (x4 + n14_1) ml3 w14)
  (R (.returned (.int .i64 x3)) wl3)
def f17_ann : Ann := { loops := [(3, [(3, .int .i64), (4, .int .i64)])], cuts := [], flip := [], throws := [] }
theorem f17_eq (p0 : Option Addr) (l0 c0 : Nat) (w : World) (R : Ending → World → Prop) : vc Try.prog f17_ann (bodyOf Try.f17) (retQ Try.prog Try.f17 R) (envOf Try.f17.ntmps [.v (.slice p0 l0 c0)]) [] w = f17_vc p0 l0 c0 w R := by kernel_rfl
theorem f17_does (p0 : Option Addr) (l0 c0 : Nat) {w : World} {R : Ending → World → Prop} (h : f17_vc p0 l0 c0 w R) : Does Try.prog 17 #[.slice p0 l0 c0] w R :=
  does_of_vc (ss := [.v (.slice p0 l0 c0)]) f17_ann mixed call17 Try.func17 rfl rfl (show 1 ≤ Try.f17.ntmps by decide) ((f17_eq p0 l0 c0 w R).symm ▸ h)
/-- Of escritoire/escritoireref1.Copy (function 18): the condition. -/
def f18_vc (p0 : Option Addr) (l0 c0 : Nat) (w : World) (R : Ending → World → Prop) : Prop :=
  ∃ I3 : Option Addr → Nat → Nat → Int → Nat → World → Prop, (∃ nl3, I3 none 0 0 0 nl3 w) ∧ ∀ (p3 : Option Addr) (l3 c3 : Nat), ∀ x4 : Int, ∀ (nl3 : Nat) (wl3 : World), I3 p3 l3 c3 x4 nl3 wl3 →
  Br (decide (x4 < ((l0 : Int))))
  (((0 : Int) ≤ x4 ∧ x4 < (l0 : Int)) ∧ ∃ b14 o14, p0 = some ⟨b14, o14, none⟩ ∧ ∃ n15 : Int, wl3.cell? ⟨b14, o14 + (x4).toNat, none⟩ = some (.int .u8 n15) ∧ ∀ b16 w16, NewBlk wl3 b16 [.int .u8 n15] 5 w16 →
  ∃ (p17 : Option Addr) (l17 c17 : Nat) (w17 : World), (Builtin.append_ #[25, 25] 25 #[.slice p3 l3 c3, .slice (some ⟨b16, 0, none⟩) 1 1]).run Try.prog w16 = .ok (.slice p17 l17 c17) w17 ∧
  InK .i64 (x4 + 1) ∧ ∃ ml3, ml3 < nl3 ∧ I3 p17 l17 c17 (x4 + 1) ml3 w17)
  (R (.returned (.slice p3 l3 c3)) wl3)
def f18_ann : Ann := { loops := [(3, [(3, .slice), (4, .int .i64)])], cuts := [], flip := [], throws := [] }
theorem f18_eq (p0 : Option Addr) (l0 c0 : Nat) (w : World) (R : Ending → World → Prop) : vc Try.prog f18_ann (bodyOf Try.f18) (retQ Try.prog Try.f18 R) (envOf Try.f18.ntmps [.v (.slice p0 l0 c0)]) [] w = f18_vc p0 l0 c0 w R := by kernel_rfl
theorem f18_does (p0 : Option Addr) (l0 c0 : Nat) {w : World} {R : Ending → World → Prop} (h : f18_vc p0 l0 c0 w R) : Does Try.prog 18 #[.slice p0 l0 c0] w R :=
  does_of_vc (ss := [.v (.slice p0 l0 c0)]) f18_ann mixed call18 Try.func18 rfl rfl (show 1 ≤ Try.f18.ntmps by decide) ((f18_eq p0 l0 c0 w R).symm ▸ h)
/-- Of escritoire/utf.Encode (function 19): the condition. -/
def f19_vc (a0 : Int) (w : World) (R : Ending → World → Prop) : Prop :=
  Does Try.prog 28 #[.int .i64 a0] w fun e5 w5 =>
  ∃ b5 : Bool, e5 = .returned (.bool b5) ∧ Br (!b5)
  (R (.returned (.slice none 0 0)) w5)
  (Br (decide (a0 < 128))
  (∀ b12 w12, NewBlk w5 b12 [.int .u8 (IntKind.wrap .u8 (a0))] 5 w12 →
  R (.returned (.slice (some ⟨b12, 0, none⟩) 1 1)) w12)
  (Br (decide (a0 < 2048))
  ((0 : Int) ≤ 6 ∧ Does Try.prog 29 #[.int .i64 a0] w5 fun e21 w21 =>
  ∃ n21 : Int, e21 = .returned (.int .u8 n21) ∧ ∀ b22 w22, NewBlk w21 b22 [.int .u8 (bits .or .u8 192 (IntKind.wrap .u8 (a0.fdiv (2 ^ 6)))), .int .u8 n21] 5 w22 →
  R (.returned (.slice (some ⟨b22, 0, none⟩) 2 2)) w22)
  (Br (decide (a0 < 65536))
  ((0 : Int) ≤ 12 ∧ (0 : Int) ≤ 6 ∧ Does Try.prog 29 #[.int .i64 (a0.fdiv (2 ^ 6))] w5 fun e32 w32 =>
  ∃ n32 : Int, e32 = .returned (.int .u8 n32) ∧ Does Try.prog 29 #[.int .i64 a0] w32 fun e34 w34 =>
  ∃ n34 : Int, e34 = .returned (.int .u8 n34) ∧ ∀ b35 w35, NewBlk w34 b35 [.int .u8 (bits .or .u8 224 (IntKind.wrap .u8 (a0.fdiv (2 ^ 12)))), .int .u8 n32, .int .u8 n34] 5 w35 →
  R (.returned (.slice (some ⟨b35, 0, none⟩) 3 3)) w35)
  ((0 : Int) ≤ 18 ∧ (0 : Int) ≤ 12 ∧ Does Try.prog 29 #[.int .i64 (a0.fdiv (2 ^ 12))] w5 fun e42 w42 =>
  ∃ n42 : Int, e42 = .returned (.int .u8 n42) ∧ (0 : Int) ≤ 6 ∧ Does Try.prog 29 #[.int .i64 (a0.fdiv (2 ^ 6))] w42 fun e45 w45 =>
  ∃ n45 : Int, e45 = .returned (.int .u8 n45) ∧ Does Try.prog 29 #[.int .i64 a0] w45 fun e47 w47 =>
  ∃ n47 : Int, e47 = .returned (.int .u8 n47) ∧ ∀ b48 w48, NewBlk w47 b48 [.int .u8 (bits .or .u8 240 (IntKind.wrap .u8 (a0.fdiv (2 ^ 18)))), .int .u8 n42, .int .u8 n45, .int .u8 n47] 5 w48 →
  R (.returned (.slice (some ⟨b48, 0, none⟩) 4 4)) w48))))
def f19_ann : Ann := { loops := [], cuts := [], flip := [], throws := [] }
theorem f19_eq (a0 : Int) (w : World) (R : Ending → World → Prop) : vc Try.prog f19_ann (bodyOf Try.f19) (retQ Try.prog Try.f19 R) (envOf Try.f19.ntmps [.v (.int .i64 a0)]) [] w = f19_vc a0 w R := by kernel_rfl
theorem f19_does (a0 : Int) {w : World} {R : Ending → World → Prop} (h : f19_vc a0 w R) : Does Try.prog 19 #[.int .i64 a0] w R :=
  does_of_vc (ss := [.v (.int .i64 a0)]) f19_ann mixed call19 Try.func19 rfl rfl (show 1 ≤ Try.f19.ntmps by decide) ((f19_eq a0 w R).symm ▸ h)
/-- Of escritoire/escritoireref1.Same (function 20): the condition. -/
def f20_vc (p0 : Option Addr) (l0 c0 : Nat) (p1 : Option Addr) (l1 c1 : Nat) (w : World) (R : Ending → World → Prop) : Prop :=
  Br (((l0 : Int)) != ((l1 : Int)))
  (R (.returned (.bool false)) w)
  (∃ I4 : Int → Nat → World → Prop, (∃ nl4, I4 0 nl4 w) ∧ ∀ x5 : Int, ∀ (nl4 : Nat) (wl4 : World), I4 x5 nl4 wl4 →
  Br (decide (x5 < ((l0 : Int))))
  (∀ wd6, Drew wl4 wd6 →
  ((0 : Int) ≤ x5 ∧ x5 < (l0 : Int)) ∧ ∃ b19 o19, p0 = some ⟨b19, o19, none⟩ ∧ ∃ n20 : Int, wd6.cell? ⟨b19, o19 + (x5).toNat, none⟩ = some (.int .u8 n20) ∧ ((0 : Int) ≤ x5 ∧ x5 < (l1 : Int)) ∧ ∃ b23 o23, p1 = some ⟨b23, o23, none⟩ ∧ ∃ n24 : Int, wd6.cell? ⟨b23, o23 + (x5).toNat, none⟩ = some (.int .u8 n24) ∧ Br (n20 != n24)
  (R (.returned (.bool false)) wd6)
  (InK .i64 (x5 + 1) ∧ ∃ ml4, ml4 < nl4 ∧ I4 (x5 + 1) ml4 wd6))
  (R (.returned (.bool true)) wl4))
def f20_ann : Ann := { loops := [(4, [(5, .int .i64)])], cuts := [], flip := [], throws := [] }
theorem f20_eq (p0 : Option Addr) (l0 c0 : Nat) (p1 : Option Addr) (l1 c1 : Nat) (w : World) (R : Ending → World → Prop) : vc Try.prog f20_ann (bodyOf Try.f20) (retQ Try.prog Try.f20 R) (envOf Try.f20.ntmps [.v (.slice p0 l0 c0), .v (.slice p1 l1 c1)]) [] w = f20_vc p0 l0 c0 p1 l1 c1 w R := by kernel_rfl
theorem f20_does (p0 : Option Addr) (l0 c0 : Nat) (p1 : Option Addr) (l1 c1 : Nat) {w : World} {R : Ending → World → Prop} (h : f20_vc p0 l0 c0 p1 l1 c1 w R) : Does Try.prog 20 #[.slice p0 l0 c0, .slice p1 l1 c1] w R :=
  does_of_vc (ss := [.v (.slice p0 l0 c0), .v (.slice p1 l1 c1)]) f20_ann mixed call20 Try.func20 rfl rfl (show 2 ≤ Try.f20.ntmps by decide) ((f20_eq p0 l0 c0 p1 l1 c1 w R).symm ▸ h)
/-- Of escritoire/escritoireref1.Encode (function 21): the condition. -/
def f21_vc (a0 : Int) (w : World) (R : Ending → World → Prop) : Prop :=
  Br (decide (a0 < 0))
  (R (.returned (.slice none 0 0)) w)
  (Br (decide (a0 > 1114111))
  (R (.returned (.slice none 0 0)) w)
  (Br (decide (a0 ≥ 55296))
  (Br (decide (a0 ≤ 57343))
  (R (.returned (.slice none 0 0)) w)
  (Br (decide (a0 < 128))
  (∀ b23 w23, NewBlk w b23 [.int .u8 (IntKind.wrap .u8 (a0))] 5 w23 →
  R (.returned (.slice (some ⟨b23, 0, none⟩) 1 1)) w23)
  (Br (decide (a0 < 2048))
  ((0 : Int) ≤ 6 ∧ ∀ b35 w35, NewBlk w b35 [.int .u8 (IntKind.wrap .u8 (bits .or .i64 192 (a0.fdiv (2 ^ 6)))), .int .u8 (IntKind.wrap .u8 (bits .or .i64 128 (bits .and .i64 a0 63)))] 5 w35 →
  R (.returned (.slice (some ⟨b35, 0, none⟩) 2 2)) w35)
  (Br (decide (a0 < 65536))
  ((0 : Int) ≤ 12 ∧ (0 : Int) ≤ 6 ∧ ∀ b52 w52, NewBlk w b52 [.int .u8 (IntKind.wrap .u8 (bits .or .i64 224 (a0.fdiv (2 ^ 12)))), .int .u8 (IntKind.wrap .u8 (bits .or .i64 128 (bits .and .i64 (a0.fdiv (2 ^ 6)) 63))), .int .u8 (IntKind.wrap .u8 (bits .or .i64 128 (bits .and .i64 a0 63)))] 5 w52 →
  R (.returned (.slice (some ⟨b52, 0, none⟩) 3 3)) w52)
  ((0 : Int) ≤ 18 ∧ (0 : Int) ≤ 12 ∧ (0 : Int) ≤ 6 ∧ ∀ b71 w71, NewBlk w b71 [.int .u8 (IntKind.wrap .u8 (bits .or .i64 240 (a0.fdiv (2 ^ 18)))), .int .u8 (IntKind.wrap .u8 (bits .or .i64 128 (bits .and .i64 (a0.fdiv (2 ^ 12)) 63))), .int .u8 (IntKind.wrap .u8 (bits .or .i64 128 (bits .and .i64 (a0.fdiv (2 ^ 6)) 63))), .int .u8 (IntKind.wrap .u8 (bits .or .i64 128 (bits .and .i64 a0 63)))] 5 w71 →
  R (.returned (.slice (some ⟨b71, 0, none⟩) 4 4)) w71)))))
  (Br (decide (a0 < 128))
  (∀ b23_1 w23_1, NewBlk w b23_1 [.int .u8 (IntKind.wrap .u8 (a0))] 5 w23_1 →
  R (.returned (.slice (some ⟨b23_1, 0, none⟩) 1 1)) w23_1)
  (Br (decide (a0 < 2048))
  ((0 : Int) ≤ 6 ∧ ∀ b35_1 w35_1, NewBlk w b35_1 [.int .u8 (IntKind.wrap .u8 (bits .or .i64 192 (a0.fdiv (2 ^ 6)))), .int .u8 (IntKind.wrap .u8 (bits .or .i64 128 (bits .and .i64 a0 63)))] 5 w35_1 →
  R (.returned (.slice (some ⟨b35_1, 0, none⟩) 2 2)) w35_1)
  (Br (decide (a0 < 65536))
  ((0 : Int) ≤ 12 ∧ (0 : Int) ≤ 6 ∧ ∀ b52_1 w52_1, NewBlk w b52_1 [.int .u8 (IntKind.wrap .u8 (bits .or .i64 224 (a0.fdiv (2 ^ 12)))), .int .u8 (IntKind.wrap .u8 (bits .or .i64 128 (bits .and .i64 (a0.fdiv (2 ^ 6)) 63))), .int .u8 (IntKind.wrap .u8 (bits .or .i64 128 (bits .and .i64 a0 63)))] 5 w52_1 →
  R (.returned (.slice (some ⟨b52_1, 0, none⟩) 3 3)) w52_1)
  ((0 : Int) ≤ 18 ∧ (0 : Int) ≤ 12 ∧ (0 : Int) ≤ 6 ∧ ∀ b71_1 w71_1, NewBlk w b71_1 [.int .u8 (IntKind.wrap .u8 (bits .or .i64 240 (a0.fdiv (2 ^ 18)))), .int .u8 (IntKind.wrap .u8 (bits .or .i64 128 (bits .and .i64 (a0.fdiv (2 ^ 12)) 63))), .int .u8 (IntKind.wrap .u8 (bits .or .i64 128 (bits .and .i64 (a0.fdiv (2 ^ 6)) 63))), .int .u8 (IntKind.wrap .u8 (bits .or .i64 128 (bits .and .i64 a0 63)))] 5 w71_1 →
  R (.returned (.slice (some ⟨b71_1, 0, none⟩) 4 4)) w71_1))))))
def f21_ann : Ann := { loops := [], cuts := [], flip := [], throws := [] }
theorem f21_eq (a0 : Int) (w : World) (R : Ending → World → Prop) : vc Try.prog f21_ann (bodyOf Try.f21) (retQ Try.prog Try.f21 R) (envOf Try.f21.ntmps [.v (.int .i64 a0)]) [] w = f21_vc a0 w R := by kernel_rfl
theorem f21_does (a0 : Int) {w : World} {R : Ending → World → Prop} (h : f21_vc a0 w R) : Does Try.prog 21 #[.int .i64 a0] w R :=
  does_of_vc (ss := [.v (.int .i64 a0)]) f21_ann mixed call21 Try.func21 rfl rfl (show 1 ≤ Try.f21.ntmps by decide) ((f21_eq a0 w R).symm ▸ h)
/-- Of escritoire/utf.Class (function 22): the condition. -/
def f22_vc (a0 : Int) (w : World) (R : Ending → World → Prop) : Prop :=
  Br (a0 == 9)
  (R (.returned (.int .i64 0)) w)
  (Br (a0 == 10)
  (R (.returned (.int .i64 0)) w)
  (Br (a0 == 13)
  (R (.returned (.int .i64 0)) w)
  (Br (a0 == 32)
  (R (.returned (.int .i64 0)) w)
  (Does Try.prog 30 #[.int .i64 a0, .int .u8 97, .int .u8 122] w fun e20 w20 =>
  ∃ b20 : Bool, e20 = .returned (.bool b20) ∧ Br b20
  (R (.returned (.int .i64 1)) w20)
  (Does Try.prog 30 #[.int .i64 a0, .int .u8 65, .int .u8 90] w20 fun e23 w23 =>
  ∃ b23 : Bool, e23 = .returned (.bool b23) ∧ Br b23
  (R (.returned (.int .i64 1)) w23)
  (Does Try.prog 30 #[.int .i64 a0, .int .u8 48, .int .u8 57] w23 fun e27 w27 =>
  ∃ b27 : Bool, e27 = .returned (.bool b27) ∧ Br b27
  (R (.returned (.int .i64 1)) w27)
  (Br (a0 == 95)
  (R (.returned (.int .i64 1)) w27)
  (Br (decide (a0 > 127))
  (R (.returned (.int .i64 1)) w27)
  (R (.returned (.int .i64 2)) w27)))))))))
def f22_ann : Ann := { loops := [], cuts := [], flip := [], throws := [] }
theorem f22_eq (a0 : Int) (w : World) (R : Ending → World → Prop) : vc Try.prog f22_ann (bodyOf Try.f22) (retQ Try.prog Try.f22 R) (envOf Try.f22.ntmps [.v (.int .i64 a0)]) [] w = f22_vc a0 w R := by kernel_rfl
theorem f22_does (a0 : Int) {w : World} {R : Ending → World → Prop} (h : f22_vc a0 w R) : Does Try.prog 22 #[.int .i64 a0] w R :=
  does_of_vc (ss := [.v (.int .i64 a0)]) f22_ann mixed call22 Try.func22 rfl rfl (show 1 ≤ Try.f22.ntmps by decide) ((f22_eq a0 w R).symm ▸ h)
/-- Of escritoire/escritoireref1.Class (function 23): the condition. -/
def f23_vc (a0 : Int) (w : World) (R : Ending → World → Prop) : Prop :=
  Br (a0 == 9)
  (R (.returned (.int .i64 0)) w)
  (Br (a0 == 10)
  (R (.returned (.int .i64 0)) w)
  (Br (a0 == 13)
  (R (.returned (.int .i64 0)) w)
  (Br (a0 == 32)
  (R (.returned (.int .i64 0)) w)
  (Br (decide (a0 ≥ 97))
  (Br (decide (a0 ≤ 122))
  (R (.returned (.int .i64 1)) w)
  (Br (decide (a0 ≥ 65))
  (Br (decide (a0 ≤ 90))
  (R (.returned (.int .i64 1)) w)
  (Br (decide (a0 ≥ 48))
  (Br (decide (a0 ≤ 57))
  (R (.returned (.int .i64 1)) w)
  (Br (a0 == 95)
  (R (.returned (.int .i64 1)) w)
  (Br (decide (a0 > 127))
  (R (.returned (.int .i64 1)) w)
  (R (.returned (.int .i64 2)) w))))
  (Br (a0 == 95)
  (R (.returned (.int .i64 1)) w)
  (Br (decide (a0 > 127))
  (R (.returned (.int .i64 1)) w)
  (R (.returned (.int .i64 2)) w)))))
  (Br (decide (a0 ≥ 48))
  (Br (decide (a0 ≤ 57))
  (R (.returned (.int .i64 1)) w)
  (Br (a0 == 95)
  (R (.returned (.int .i64 1)) w)
  (Br (decide (a0 > 127))
  (R (.returned (.int .i64 1)) w)
  (R (.returned (.int .i64 2)) w))))
  (Br (a0 == 95)
  (R (.returned (.int .i64 1)) w)
  (Br (decide (a0 > 127))
  (R (.returned (.int .i64 1)) w)
  (R (.returned (.int .i64 2)) w))))))
  (Br (decide (a0 ≥ 65))
  (Br (decide (a0 ≤ 90))
  (R (.returned (.int .i64 1)) w)
  (Br (decide (a0 ≥ 48))
  (Br (decide (a0 ≤ 57))
  (R (.returned (.int .i64 1)) w)
  (Br (a0 == 95)
  (R (.returned (.int .i64 1)) w)
  (Br (decide (a0 > 127))
  (R (.returned (.int .i64 1)) w)
  (R (.returned (.int .i64 2)) w))))
  (Br (a0 == 95)
  (R (.returned (.int .i64 1)) w)
  (Br (decide (a0 > 127))
  (R (.returned (.int .i64 1)) w)
  (R (.returned (.int .i64 2)) w)))))
  (Br (decide (a0 ≥ 48))
  (Br (decide (a0 ≤ 57))
  (R (.returned (.int .i64 1)) w)
  (Br (a0 == 95)
  (R (.returned (.int .i64 1)) w)
  (Br (decide (a0 > 127))
  (R (.returned (.int .i64 1)) w)
  (R (.returned (.int .i64 2)) w))))
  (Br (a0 == 95)
  (R (.returned (.int .i64 1)) w)
  (Br (decide (a0 > 127))
  (R (.returned (.int .i64 1)) w)
  (R (.returned (.int .i64 2)) w)))))))))
def f23_ann : Ann := { loops := [], cuts := [], flip := [], throws := [] }
theorem f23_eq (a0 : Int) (w : World) (R : Ending → World → Prop) : vc Try.prog f23_ann (bodyOf Try.f23) (retQ Try.prog Try.f23 R) (envOf Try.f23.ntmps [.v (.int .i64 a0)]) [] w = f23_vc a0 w R := by kernel_rfl
theorem f23_does (a0 : Int) {w : World} {R : Ending → World → Prop} (h : f23_vc a0 w R) : Does Try.prog 23 #[.int .i64 a0] w R :=
  does_of_vc (ss := [.v (.int .i64 a0)]) f23_ann mixed call23 Try.func23 rfl rfl (show 1 ≤ Try.f23.ntmps by decide) ((f23_eq a0 w R).symm ▸ h)
/-- Of escritoire/utf.Flip (function 24): the condition. -/
def f24_vc (a0 : Int) (w : World) (R : Ending → World → Prop) : Prop :=
  Does Try.prog 30 #[.int .i64 a0, .int .u8 97, .int .u8 122] w fun e4 w4 =>
  ∃ b4 : Bool, e4 = .returned (.bool b4) ∧ Br b4
  (R (.returned (.int .i64 (bits .xor .i64 a0 32))) w4)
  (Does Try.prog 30 #[.int .i64 a0, .int .u8 65, .int .u8 90] w4 fun e7 w7 =>
  ∃ b7 : Bool, e7 = .returned (.bool b7) ∧ Br b7
  (R (.returned (.int .i64 (bits .xor .i64 a0 32))) w7)
  (R (.returned (.int .i64 a0)) w7))
def f24_ann : Ann := { loops := [], cuts := [], flip := [], throws := [] }
theorem f24_eq (a0 : Int) (w : World) (R : Ending → World → Prop) : vc Try.prog f24_ann (bodyOf Try.f24) (retQ Try.prog Try.f24 R) (envOf Try.f24.ntmps [.v (.int .i64 a0)]) [] w = f24_vc a0 w R := by kernel_rfl
theorem f24_does (a0 : Int) {w : World} {R : Ending → World → Prop} (h : f24_vc a0 w R) : Does Try.prog 24 #[.int .i64 a0] w R :=
  does_of_vc (ss := [.v (.int .i64 a0)]) f24_ann mixed call24 Try.func24 rfl rfl (show 1 ≤ Try.f24.ntmps by decide) ((f24_eq a0 w R).symm ▸ h)
/-- Of escritoire/escritoireref1.Flip (function 25): the condition. -/
def f25_vc (a0 : Int) (w : World) (R : Ending → World → Prop) : Prop :=
  Br (decide (a0 ≥ 97))
  (Br (decide (a0 ≤ 122))
  (InK .i64 (a0 - 32) ∧ R (.returned (.int .i64 (a0 - 32))) w)
  (Br (decide (a0 ≥ 65))
  (Br (decide (a0 ≤ 90))
  (InK .i64 (a0 + 32) ∧ R (.returned (.int .i64 (a0 + 32))) w)
  (R (.returned (.int .i64 a0)) w))
  (R (.returned (.int .i64 a0)) w)))
  (Br (decide (a0 ≥ 65))
  (Br (decide (a0 ≤ 90))
  (InK .i64 (a0 + 32) ∧ R (.returned (.int .i64 (a0 + 32))) w)
  (R (.returned (.int .i64 a0)) w))
  (R (.returned (.int .i64 a0)) w))
def f25_ann : Ann := { loops := [], cuts := [], flip := [], throws := [] }
theorem f25_eq (a0 : Int) (w : World) (R : Ending → World → Prop) : vc Try.prog f25_ann (bodyOf Try.f25) (retQ Try.prog Try.f25 R) (envOf Try.f25.ntmps [.v (.int .i64 a0)]) [] w = f25_vc a0 w R := by kernel_rfl
theorem f25_does (a0 : Int) {w : World} {R : Ending → World → Prop} (h : f25_vc a0 w R) : Does Try.prog 25 #[.int .i64 a0] w R :=
  does_of_vc (ss := [.v (.int .i64 a0)]) f25_ann mixed call25 Try.func25 rfl rfl (show 1 ≤ Try.f25.ntmps by decide) ((f25_eq a0 w R).symm ▸ h)
/-- Of escritoire/utf.several (function 26): the condition. -/
def f26_vc (p0 : Option Addr) (l0 c0 : Nat) (w : World) (R : Ending → World → Prop) : Prop :=
  ∀ b2 w2, NewBlk w b2 [.int .i64 0] 3 w2 →
  ∀ b3 w3, NewBlk w2 b3 [.int .i64 0] 3 w3 →
  Does Try.prog 32 #[.bool (decide (((l0 : Int)) > 0))] w3 fun e12 w12 =>
  (e12 = .returned (.tuple #[]) ∧ ∃ J11 : Int → Nat → World → Prop, (((0 : Int) ≤ 0 ∧ 0 < (l0 : Int)) ∧ ∃ b14 o14, p0 = some ⟨b14, o14, none⟩ ∧ ∃ n15 : Int, w12.cell? ⟨b14, o14 + (0 : Int).toNat, none⟩ = some (.int .u8 n15) ∧ InK .i64 (n15) ∧ Br (decide (n15 ≥ 192))
  (Br (decide (n15 < 224))
  (CanStore w12 b2 0 ∧ ∀ ws, Stored w12 b2 0 (.int .i64 (bits .and .i64 n15 31)) ws →
  CanStore ws b3 0 ∧ ∀ ws_1, Stored ws b3 0 (.int .i64 2) ws_1 →
  ∃ nc11, J11 128 nc11 ws_1)
  (Br (decide (n15 ≥ 224))
  (Br (decide (n15 < 240))
  (CanStore w12 b2 0 ∧ ∀ ws_2, Stored w12 b2 0 (.int .i64 (bits .and .i64 n15 15)) ws_2 →
  CanStore ws_2 b3 0 ∧ ∀ ws_3, Stored ws_2 b3 0 (.int .i64 3) ws_3 →
  ∃ nc11, J11 2048 nc11 ws_3)
  (Br (decide (n15 ≥ 240))
  (Br (decide (n15 < 248))
  (CanStore w12 b2 0 ∧ ∀ ws_4, Stored w12 b2 0 (.int .i64 (bits .and .i64 n15 7)) ws_4 →
  CanStore ws_4 b3 0 ∧ ∀ ws_5, Stored ws_4 b3 0 (.int .i64 4) ws_5 →
  ∃ nc11, J11 65536 nc11 ws_5)
  (∃ nc11, J11 0 nc11 w12))
  (∃ nc11, J11 0 nc11 w12)))
  (Br (decide (n15 ≥ 240))
  (Br (decide (n15 < 248))
  (CanStore w12 b2 0 ∧ ∀ ws_6, Stored w12 b2 0 (.int .i64 (bits .and .i64 n15 7)) ws_6 →
  CanStore ws_6 b3 0 ∧ ∀ ws_7, Stored ws_6 b3 0 (.int .i64 4) ws_7 →
  ∃ nc11, J11 65536 nc11 ws_7)
  (∃ nc11, J11 0 nc11 w12))
  (∃ nc11, J11 0 nc11 w12))))
  (Br (decide (n15 ≥ 224))
  (Br (decide (n15 < 240))
  (CanStore w12 b2 0 ∧ ∀ ws_8, Stored w12 b2 0 (.int .i64 (bits .and .i64 n15 15)) ws_8 →
  CanStore ws_8 b3 0 ∧ ∀ ws_9, Stored ws_8 b3 0 (.int .i64 3) ws_9 →
  ∃ nc11, J11 2048 nc11 ws_9)
  (Br (decide (n15 ≥ 240))
  (Br (decide (n15 < 248))
  (CanStore w12 b2 0 ∧ ∀ ws_10, Stored w12 b2 0 (.int .i64 (bits .and .i64 n15 7)) ws_10 →
  CanStore ws_10 b3 0 ∧ ∀ ws_11, Stored ws_10 b3 0 (.int .i64 4) ws_11 →
  ∃ nc11, J11 65536 nc11 ws_11)
  (∃ nc11, J11 0 nc11 w12))
  (∃ nc11, J11 0 nc11 w12)))
  (Br (decide (n15 ≥ 240))
  (Br (decide (n15 < 248))
  (CanStore w12 b2 0 ∧ ∀ ws_12, Stored w12 b2 0 (.int .i64 (bits .and .i64 n15 7)) ws_12 →
  CanStore ws_12 b3 0 ∧ ∀ ws_13, Stored ws_12 b3 0 (.int .i64 4) ws_13 →
  ∃ nc11, J11 65536 nc11 ws_13)
  (∃ nc11, J11 0 nc11 w12))
  (∃ nc11, J11 0 nc11 w12)))) ∧ ∀ x4 : Int, ∀ (nc11 : Nat) (wc11 : World), J11 x4 nc11 wc11 →
  ∃ J12 : Nat → World → Prop, (∃ n44 : Int, wc11.cell? ⟨b3, 0, none⟩ = some (.int .i64 n44) ∧ Br (decide (n44 > 0))
  (∃ n47 : Int, wc11.cell? ⟨b3, 0, none⟩ = some (.int .i64 n47) ∧ Does Try.prog 32 #[.bool (decide (n47 ≤ ((l0 : Int))))] wc11 fun e52 w52 =>
  (e52 = .returned (.tuple #[]) ∧ ∃ nc12, J12  nc12 w52) ∨ (∃ ch52, e52 = .panicked ch52 ∧ LeavesV (fun wk => ∃ n2 : Int, wk.cell? ⟨b2, 0, none⟩ = some (.int .i64 n2) ∧ ∃ n3 : Int, wk.cell? ⟨b3, 0, none⟩ = some (.int .i64 n3) ∧ R (.returned (.tuple #[.int .i64 n2, .int .i64 n3])) wk) (fun chk wp => R (.panicked chk) wp) Try.prog ({ target := .fn (.func 31) #[.pointer (some ⟨b2, 0, none⟩), .pointer (some ⟨b3, 0, none⟩)], args := #[] } :: []) (.panicking ch52) w52))
  (Does Try.prog 32 #[.bool false] wc11 fun e52_1 w52_1 =>
  (e52_1 = .returned (.tuple #[]) ∧ ∃ nc12, J12  nc12 w52_1) ∨ (∃ ch52_1, e52_1 = .panicked ch52_1 ∧ LeavesV (fun wk_1 => ∃ n2_1 : Int, wk_1.cell? ⟨b2, 0, none⟩ = some (.int .i64 n2_1) ∧ ∃ n3_1 : Int, wk_1.cell? ⟨b3, 0, none⟩ = some (.int .i64 n3_1) ∧ R (.returned (.tuple #[.int .i64 n2_1, .int .i64 n3_1])) wk_1) (fun chk_1 wp_1 => R (.panicked chk_1) wp_1) Try.prog ({ target := .fn (.func 31) #[.pointer (some ⟨b2, 0, none⟩), .pointer (some ⟨b3, 0, none⟩)], args := #[] } :: []) (.panicking ch52_1) w52_1))) ∧ ∀ (nc12 : Nat) (wc12 : World), J12  nc12 wc12 →
  ∃ J18 : Nat → World → Prop, (∃ n54 : Int, wc12.cell? ⟨b3, 0, none⟩ = some (.int .i64 n54) ∧ ((0 : Int) ≤ n54 ∧ n54 ≤ (c0 : Int)) ∧ ((0 : Int) ≤ 1 ∧ 1 ≤ n54) ∧ ∃ I13 : Int → Nat → World → Prop, (∃ nl13, I13 0 nl13 wc12) ∧ ∀ x57 : Int, ∀ (nl13 : Nat) (wl13 : World), I13 x57 nl13 wl13 →
  Br (decide (x57 < (((((n54).toNat) - ((1 : Int).toNat) : Nat) : Int))))
  (((0 : Int) ≤ x57 ∧ x57 < ((((n54).toNat) - ((1 : Int).toNat) : Nat) : Int)) ∧ ∃ b59 o59, subp p0 ((1 : Int).toNat) c0 1 = some ⟨b59, o59, none⟩ ∧ ∃ n60 : Int, wl13.cell? ⟨b59, o59 + (x57).toNat, none⟩ = some (.int .u8 n60) ∧ Does Try.prog 32 #[.bool ((bits .and .u8 n60 192) == 128)] wl13 fun e64 w64 =>
  (e64 = .returned (.tuple #[]) ∧ ∃ n65 : Int, w64.cell? ⟨b2, 0, none⟩ = some (.int .i64 n65) ∧ (0 : Int) ≤ 6 ∧ InK .i64 (n65 * 2 ^ 6) ∧ InK .i64 (bits .and .u8 n60 63) ∧ CanStore w64 b2 0 ∧ ∀ ws_14, Stored w64 b2 0 (.int .i64 (bits .or .i64 (n65 * 2 ^ 6) (bits .and .u8 n60 63))) ws_14 →
  InK .i64 (x57 + 1) ∧ ∃ ml13, ml13 < nl13 ∧ I13 (x57 + 1) ml13 ws_14) ∨ (∃ ch64, e64 = .panicked ch64 ∧ LeavesV (fun wk_2 => ∃ n2_2 : Int, wk_2.cell? ⟨b2, 0, none⟩ = some (.int .i64 n2_2) ∧ ∃ n3_2 : Int, wk_2.cell? ⟨b3, 0, none⟩ = some (.int .i64 n3_2) ∧ R (.returned (.tuple #[.int .i64 n2_2, .int .i64 n3_2])) wk_2) (fun chk_2 wp_2 => R (.panicked chk_2) wp_2) Try.prog ({ target := .fn (.func 31) #[.pointer (some ⟨b2, 0, none⟩), .pointer (some ⟨b3, 0, none⟩)], args := #[] } :: []) (.panicking ch64) w64))
  (∃ nc18, J18  nc18 wl13)) ∧ ∀ (nc18 : Nat) (wc18 : World), J18  nc18 wc18 →
  ∃ n72 : Int, wc18.cell? ⟨b2, 0, none⟩ = some (.int .i64 n72) ∧ Br (decide (n72 ≥ x4))
  (∃ n76 : Int, wc18.cell? ⟨b2, 0, none⟩ = some (.int .i64 n76) ∧ Does Try.prog 28 #[.int .i64 n76] wc18 fun e77 w77 =>
  ∃ b77 : Bool, e77 = .returned (.bool b77) ∧ Does Try.prog 32 #[.bool b77] w77 fun e79 w79 =>
  (e79 = .returned (.tuple #[]) ∧ ∀ wd19, Drew w79 wd19 →
  ∃ S19 : World → Prop, S19 wd19 ∧ ∃ n80 : Int, wd19.cell? ⟨b2, 0, none⟩ = some (.int .i64 n80) ∧ ∃ n81 : Int, (∀ w, S19 w → w.cell? ⟨b3, 0, none⟩ = some (.int .i64 n81)) ∧ CanStore wd19 b2 0 ∧ ∀ ws_15, Stored wd19 b2 0 (.int .i64 n80) ws_15 →
  S19 ws_15 ∧ CanStore ws_15 b3 0 ∧ ∀ ws_16, Stored ws_15 b3 0 (.int .i64 n81) ws_16 →
  LeavesV (fun wk_3 => ∃ n2_3 : Int, wk_3.cell? ⟨b2, 0, none⟩ = some (.int .i64 n2_3) ∧ ∃ n3_3 : Int, wk_3.cell? ⟨b3, 0, none⟩ = some (.int .i64 n3_3) ∧ R (.returned (.tuple #[.int .i64 n2_3, .int .i64 n3_3])) wk_3) (fun chk_3 wp_3 => R (.panicked chk_3) wp_3) Try.prog ({ target := .fn (.func 31) #[.pointer (some ⟨b2, 0, none⟩), .pointer (some ⟨b3, 0, none⟩)], args := #[] } :: []) (.returning) ws_16) ∨ (∃ ch79, e79 = .panicked ch79 ∧ LeavesV (fun wk_4 => ∃ n2_4 : Int, wk_4.cell? ⟨b2, 0, none⟩ = some (.int .i64 n2_4) ∧ ∃ n3_4 : Int, wk_4.cell? ⟨b3, 0, none⟩ = some (.int .i64 n3_4) ∧ R (.returned (.tuple #[.int .i64 n2_4, .int .i64 n3_4])) wk_4) (fun chk_4 wp_4 => R (.panicked chk_4) wp_4) Try.prog ({ target := .fn (.func 31) #[.pointer (some ⟨b2, 0, none⟩), .pointer (some ⟨b3, 0, none⟩)], args := #[] } :: []) (.panicking ch79) w79))
  (Does Try.prog 32 #[.bool false] wc18 fun e79_1 w79_1 =>
  (e79_1 = .returned (.tuple #[]) ∧ ∀ wd19_1, Drew w79_1 wd19_1 →
  ∃ S19_1 : World → Prop, S19_1 wd19_1 ∧ ∃ n80_1 : Int, wd19_1.cell? ⟨b2, 0, none⟩ = some (.int .i64 n80_1) ∧ ∃ n81_1 : Int, (∀ w, S19_1 w → w.cell? ⟨b3, 0, none⟩ = some (.int .i64 n81_1)) ∧ CanStore wd19_1 b2 0 ∧ ∀ ws_17, Stored wd19_1 b2 0 (.int .i64 n80_1) ws_17 →
  S19_1 ws_17 ∧ CanStore ws_17 b3 0 ∧ ∀ ws_18, Stored ws_17 b3 0 (.int .i64 n81_1) ws_18 →
  LeavesV (fun wk_5 => ∃ n2_5 : Int, wk_5.cell? ⟨b2, 0, none⟩ = some (.int .i64 n2_5) ∧ ∃ n3_5 : Int, wk_5.cell? ⟨b3, 0, none⟩ = some (.int .i64 n3_5) ∧ R (.returned (.tuple #[.int .i64 n2_5, .int .i64 n3_5])) wk_5) (fun chk_5 wp_5 => R (.panicked chk_5) wp_5) Try.prog ({ target := .fn (.func 31) #[.pointer (some ⟨b2, 0, none⟩), .pointer (some ⟨b3, 0, none⟩)], args := #[] } :: []) (.returning) ws_18) ∨ (∃ ch79_1, e79_1 = .panicked ch79_1 ∧ LeavesV (fun wk_6 => ∃ n2_6 : Int, wk_6.cell? ⟨b2, 0, none⟩ = some (.int .i64 n2_6) ∧ ∃ n3_6 : Int, wk_6.cell? ⟨b3, 0, none⟩ = some (.int .i64 n3_6) ∧ R (.returned (.tuple #[.int .i64 n2_6, .int .i64 n3_6])) wk_6) (fun chk_6 wp_6 => R (.panicked chk_6) wp_6) Try.prog ({ target := .fn (.func 31) #[.pointer (some ⟨b2, 0, none⟩), .pointer (some ⟨b3, 0, none⟩)], args := #[] } :: []) (.panicking ch79_1) w79_1))) ∨ (∃ ch12, e12 = .panicked ch12 ∧ LeavesV (fun wk_7 => ∃ n2_7 : Int, wk_7.cell? ⟨b2, 0, none⟩ = some (.int .i64 n2_7) ∧ ∃ n3_7 : Int, wk_7.cell? ⟨b3, 0, none⟩ = some (.int .i64 n3_7) ∧ R (.returned (.tuple #[.int .i64 n2_7, .int .i64 n3_7])) wk_7) (fun chk_7 wp_7 => R (.panicked chk_7) wp_7) Try.prog ({ target := .fn (.func 31) #[.pointer (some ⟨b2, 0, none⟩), .pointer (some ⟨b3, 0, none⟩)], args := #[] } :: []) (.panicking ch12) w12)
def f26_ann : Ann := { loops := [(13, [(57, .int .i64)])], cuts := [(11, [(4, .int .i64)]), (12, []), (18, [])], flip := [], throws := [32] }
theorem f26_eq (p0 : Option Addr) (l0 c0 : Nat) (w : World) (R : Ending → World → Prop) : vc Try.prog f26_ann (bodyOf Try.f26) (retQ Try.prog Try.f26 R) (envOf Try.f26.ntmps [.v (.slice p0 l0 c0)]) [] w = f26_vc p0 l0 c0 w R := by kernel_rfl
theorem f26_does (p0 : Option Addr) (l0 c0 : Nat) {w : World} {R : Ending → World → Prop} (h : f26_vc p0 l0 c0 w R) : Does Try.prog 26 #[.slice p0 l0 c0] w R :=
  does_of_vc (ss := [.v (.slice p0 l0 c0)]) f26_ann mixed call26 Try.func26 rfl rfl (show 1 ≤ Try.f26.ntmps by decide) ((f26_eq p0 l0 c0 w R).symm ▸ h)
/-- Of escritoire/escritoireref1.several (function 27): the condition. -/
def f27_vc (p0 : Option Addr) (l0 c0 : Nat) (a1 : Int) (w : World) (R : Ending → World → Prop) : Prop :=
  ((0 : Int) ≤ a1 ∧ a1 < (l0 : Int)) ∧ ∃ b13 o13, p0 = some ⟨b13, o13, none⟩ ∧ ∃ n14 : Int, w.cell? ⟨b13, o13 + (a1).toNat, none⟩ = some (.int .u8 n14) ∧ ∃ J13 : Int → Int → Nat → World → Prop, (Br (decide (n14 ≥ 194))
  (Br (decide (n14 ≤ 223))
  (InK .i64 (bits .and .u8 n14 31) ∧ ∃ nc13, J13 2 (bits .and .u8 n14 31) nc13 w)
  (Br (decide (n14 ≥ 224))
  (Br (decide (n14 ≤ 239))
  (InK .i64 (bits .and .u8 n14 15) ∧ ∃ nc13, J13 3 (bits .and .u8 n14 15) nc13 w)
  (Br (decide (n14 ≥ 240))
  (Br (decide (n14 ≤ 244))
  (InK .i64 (bits .and .u8 n14 7) ∧ ∃ nc13, J13 4 (bits .and .u8 n14 7) nc13 w)
  (∃ nc13, J13 0 0 nc13 w))
  (∃ nc13, J13 0 0 nc13 w)))
  (Br (decide (n14 ≥ 240))
  (Br (decide (n14 ≤ 244))
  (InK .i64 (bits .and .u8 n14 7) ∧ ∃ nc13, J13 4 (bits .and .u8 n14 7) nc13 w)
  (∃ nc13, J13 0 0 nc13 w))
  (∃ nc13, J13 0 0 nc13 w))))
  (Br (decide (n14 ≥ 224))
  (Br (decide (n14 ≤ 239))
  (InK .i64 (bits .and .u8 n14 15) ∧ ∃ nc13, J13 3 (bits .and .u8 n14 15) nc13 w)
  (Br (decide (n14 ≥ 240))
  (Br (decide (n14 ≤ 244))
  (InK .i64 (bits .and .u8 n14 7) ∧ ∃ nc13, J13 4 (bits .and .u8 n14 7) nc13 w)
  (∃ nc13, J13 0 0 nc13 w))
  (∃ nc13, J13 0 0 nc13 w)))
  (Br (decide (n14 ≥ 240))
  (Br (decide (n14 ≤ 244))
  (InK .i64 (bits .and .u8 n14 7) ∧ ∃ nc13, J13 4 (bits .and .u8 n14 7) nc13 w)
  (∃ nc13, J13 0 0 nc13 w))
  (∃ nc13, J13 0 0 nc13 w)))) ∧ ∀ x7 : Int, ∀ x8 : Int, ∀ (nc13 : Nat) (wc13 : World), J13 x7 x8 nc13 wc13 →
  Br (x7 == 0)
  (R (.returned (.tuple #[.int .i64 0, .int .i64 0])) wc13)
  (InK .i64 (((l0 : Int)) - x7) ∧ Br (decide (a1 > (((l0 : Int)) - x7)))
  (R (.returned (.tuple #[.int .i64 0, .int .i64 0])) wc13)
  (∃ I16 : Int → Int → Nat → World → Prop, (∃ nl16, I16 x8 1 nl16 wc13) ∧ ∀ x8_1 : Int, ∀ x9 : Int, ∀ (nl16 : Nat) (wl16 : World), I16 x8_1 x9 nl16 wl16 →
  Br (decide (x9 < x7))
  (InK .i64 (a1 + x9) ∧ ((0 : Int) ≤ (a1 + x9) ∧ (a1 + x9) < (l0 : Int)) ∧ ∃ b64 o64, p0 = some ⟨b64, o64, none⟩ ∧ ∃ n65 : Int, wl16.cell? ⟨b64, o64 + (a1 + x9).toNat, none⟩ = some (.int .u8 n65) ∧ Does Try.prog 33 #[.int .u8 n65] wl16 fun e66 w66 =>
  ∃ b66 : Bool, e66 = .returned (.bool b66) ∧ Br (!b66)
  (R (.returned (.tuple #[.int .i64 0, .int .i64 0])) w66)
  ((0 : Int) ≤ 6 ∧ InK .i64 (x8_1 * 2 ^ 6) ∧ InK .i64 (a1 + x9) ∧ ((0 : Int) ≤ (a1 + x9) ∧ (a1 + x9) < (l0 : Int)) ∧ ∃ b74 o74, p0 = some ⟨b74, o74, none⟩ ∧ ∃ n75 : Int, w66.cell? ⟨b74, o74 + (a1 + x9).toNat, none⟩ = some (.int .u8 n75) ∧ InK .i64 (bits .and .u8 n75 63) ∧ InK .i64 (x9 + 1) ∧ ∃ ml16, ml16 < nl16 ∧ I16 (bits .or .i64 (x8_1 * 2 ^ 6) (bits .and .u8 n75 63)) (x9 + 1) ml16 w66))
  (∀ b79 w79, NewBlk wl16 b79 [.int .i64 0, .int .i64 0, .int .i64 128, .int .i64 2048, .int .i64 65536] 3 w79 →
  ((0 : Int) ≤ x7 ∧ x7 < (5 : Int)) ∧ ∃ b83 o83, (some ⟨b79, 0, none⟩ : Option Addr) = some ⟨b83, o83, none⟩ ∧ ∃ n84 : Int, w79.cell? ⟨b83, o83 + (x7).toNat, none⟩ = some (.int .i64 n84) ∧ Br (decide (x8_1 < n84))
  (R (.returned (.tuple #[.int .i64 0, .int .i64 0])) w79)
  (Br (decide (x8_1 > 1114111))
  (R (.returned (.tuple #[.int .i64 0, .int .i64 0])) w79)
  (Br (decide (x8_1 ≥ 55296))
  (Br (decide (x8_1 ≤ 57343))
  (R (.returned (.tuple #[.int .i64 0, .int .i64 0])) w79)
  (R (.returned (.tuple #[.int .i64 x8_1, .int .i64 x7])) w79))
  (R (.returned (.tuple #[.int .i64 x8_1, .int .i64 x7])) w79))))))
def f27_ann : Ann := { loops := [(16, [(8, .int .i64), (9, .int .i64)])], cuts := [(13, [(7, .int .i64), (8, .int .i64)])], flip := [], throws := [] }
theorem f27_eq (p0 : Option Addr) (l0 c0 : Nat) (a1 : Int) (w : World) (R : Ending → World → Prop) : vc Try.prog f27_ann (bodyOf Try.f27) (retQ Try.prog Try.f27 R) (envOf Try.f27.ntmps [.v (.slice p0 l0 c0), .v (.int .i64 a1)]) [] w = f27_vc p0 l0 c0 a1 w R := by kernel_rfl
theorem f27_does (p0 : Option Addr) (l0 c0 : Nat) (a1 : Int) {w : World} {R : Ending → World → Prop} (h : f27_vc p0 l0 c0 a1 w R) : Does Try.prog 27 #[.slice p0 l0 c0, .int .i64 a1] w R :=
  does_of_vc (ss := [.v (.slice p0 l0 c0), .v (.int .i64 a1)]) f27_ann mixed call27 Try.func27 rfl rfl (show 2 ≤ Try.f27.ntmps by decide) ((f27_eq p0 l0 c0 a1 w R).symm ▸ h)
/-- Of escritoire/utf.may (function 28): the condition. -/
def f28_vc (a0 : Int) (w : World) (R : Ending → World → Prop) : Prop :=
  Br (decide (a0 ≥ 0))
  (Br (decide (a0 ≤ 1114111))
  (Br (decide (a0 < 55296))
  (R (.returned (.bool true)) w)
  (R (.returned (.bool (decide (a0 > 57343)))) w))
  (R (.returned (.bool false)) w))
  (R (.returned (.bool false)) w)
def f28_ann : Ann := { loops := [], cuts := [], flip := [], throws := [] }
theorem f28_eq (a0 : Int) (w : World) (R : Ending → World → Prop) : vc Try.prog f28_ann (bodyOf Try.f28) (retQ Try.prog Try.f28 R) (envOf Try.f28.ntmps [.v (.int .i64 a0)]) [] w = f28_vc a0 w R := by kernel_rfl
theorem f28_does (a0 : Int) {w : World} {R : Ending → World → Prop} (h : f28_vc a0 w R) : Does Try.prog 28 #[.int .i64 a0] w R :=
  does_of_vc (ss := [.v (.int .i64 a0)]) f28_ann mixed call28 Try.func28 rfl rfl (show 1 ≤ Try.f28.ntmps by decide) ((f28_eq a0 w R).symm ▸ h)
/-- Of escritoire/utf.tail (function 29): the condition. -/
def f29_vc (a0 : Int) (w : World) (R : Ending → World → Prop) : Prop :=
  R (.returned (.int .u8 (bits .or .u8 128 (IntKind.wrap .u8 (bits .and .i64 a0 63))))) w
def f29_ann : Ann := { loops := [], cuts := [], flip := [], throws := [] }
theorem f29_eq (a0 : Int) (w : World) (R : Ending → World → Prop) : vc Try.prog f29_ann (bodyOf Try.f29) (retQ Try.prog Try.f29 R) (envOf Try.f29.ntmps [.v (.int .i64 a0)]) [] w = f29_vc a0 w R := by kernel_rfl
theorem f29_does (a0 : Int) {w : World} {R : Ending → World → Prop} (h : f29_vc a0 w R) : Does Try.prog 29 #[.int .i64 a0] w R :=
  does_of_vc (ss := [.v (.int .i64 a0)]) f29_ann mixed call29 Try.func29 rfl rfl (show 1 ≤ Try.f29.ntmps by decide) ((f29_eq a0 w R).symm ▸ h)
/-- Of escritoire/utf.between (function 30): the condition. -/
def f30_vc (a0 : Int) (a1 : Int) (a2 : Int) (w : World) (R : Ending → World → Prop) : Prop :=
  InK .i64 (a1) ∧ Br (decide (a0 ≥ a1))
  (InK .i64 (a2) ∧ R (.returned (.bool (decide (a0 ≤ a2)))) w)
  (R (.returned (.bool false)) w)
def f30_ann : Ann := { loops := [], cuts := [], flip := [], throws := [] }
theorem f30_eq (a0 : Int) (a1 : Int) (a2 : Int) (w : World) (R : Ending → World → Prop) : vc Try.prog f30_ann (bodyOf Try.f30) (retQ Try.prog Try.f30 R) (envOf Try.f30.ntmps [.v (.int .i64 a0), .v (.int .u8 a1), .v (.int .u8 a2)]) [] w = f30_vc a0 a1 a2 w R := by kernel_rfl
theorem f30_does (a0 : Int) (a1 : Int) (a2 : Int) {w : World} {R : Ending → World → Prop} (h : f30_vc a0 a1 a2 w R) : Does Try.prog 30 #[.int .i64 a0, .int .u8 a1, .int .u8 a2] w R :=
  does_of_vc (ss := [.v (.int .i64 a0), .v (.int .u8 a1), .v (.int .u8 a2)]) f30_ann mixed call30 Try.func30 rfl rfl (show 3 ≤ Try.f30.ntmps by decide) ((f30_eq a0 a1 a2 w R).symm ▸ h)
/-- Of escritoire/utf.must (function 32): the condition. -/
def f32_vc (a0 : Bool) (w : World) (R : Ending → World → Prop) : Prop :=
  Br (!a0)
  (R (.panicked [{ v := .iface 43 (.agg #[]), recovered := false }]) w)
  (R (.returned (.tuple #[])) w)
def f32_ann : Ann := { loops := [], cuts := [], flip := [], throws := [] }
theorem f32_eq (a0 : Bool) (w : World) (R : Ending → World → Prop) : vc Try.prog f32_ann (bodyOf Try.f32) (retQ Try.prog Try.f32 R) (envOf Try.f32.ntmps [.v (.bool a0)]) [] w = f32_vc a0 w R := by kernel_rfl
theorem f32_does (a0 : Bool) {w : World} {R : Ending → World → Prop} (h : f32_vc a0 w R) : Does Try.prog 32 #[.bool a0] w R :=
  does_of_vc (ss := [.v (.bool a0)]) f32_ann mixed call32 Try.func32 rfl rfl (show 1 ≤ Try.f32.ntmps by decide) ((f32_eq a0 w R).symm ▸ h)
/-- Of escritoire/escritoireref1.follows (function 33): the condition. -/
def f33_vc (a0 : Int) (w : World) (R : Ending → World → Prop) : Prop :=
  R (.returned (.bool ((bits .and .u8 a0 192) == 128))) w
def f33_ann : Ann := { loops := [], cuts := [], flip := [], throws := [] }
theorem f33_eq (a0 : Int) (w : World) (R : Ending → World → Prop) : vc Try.prog f33_ann (bodyOf Try.f33) (retQ Try.prog Try.f33 R) (envOf Try.f33.ntmps [.v (.int .u8 a0)]) [] w = f33_vc a0 w R := by kernel_rfl
theorem f33_does (a0 : Int) {w : World} {R : Ending → World → Prop} (h : f33_vc a0 w R) : Does Try.prog 33 #[.int .u8 a0] w R :=
  does_of_vc (ss := [.v (.int .u8 a0)]) f33_ann mixed call33 Try.func33 rfl rfl (show 1 ≤ Try.f33.ntmps by decide) ((f33_eq a0 w R).symm ▸ h)
end Go.Proofs.Ytgfdgopmbfljeaa
