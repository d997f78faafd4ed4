/-
  Of each function of the code: its verification condition, and that it suffices.
-/
import Derived.Test.YtdcibnjlbkadbaaDoorVcDoes
import Derived.Test.YtdcibnjlbkadbaaDoorProg
set_option maxRecDepth 100000
namespace Go.Proofs.YtdcibnjlbkadbaaDoor
open Go.RowKit Go.Vc
def bodyOf (fn : Func) : Code := match fn.body with | some c => c | none => .skip
theorem mixed : Tryd.prog.follows .mixedOrders = true := by kernel_rfl
theorem call3 : callableB Tryd.prog 3 = true := by kernel_rfl
theorem call4 : callableB Tryd.prog 4 = true := by kernel_rfl
theorem call5 : callableB Tryd.prog 5 = true := by kernel_rfl
theorem call6 : callableB Tryd.prog 6 = true := by kernel_rfl
theorem call7 : callableB Tryd.prog 7 = true := by kernel_rfl
theorem call8 : callableB Tryd.prog 8 = true := by kernel_rfl
theorem call9 : callableB Tryd.prog 9 = true := by kernel_rfl
theorem call10 : callableB Tryd.prog 10 = true := by kernel_rfl
theorem call11 : callableB Tryd.prog 11 = true := by kernel_rfl
theorem call12 : callableB Tryd.prog 12 = true := by kernel_rfl
theorem call13 : callableB Tryd.prog 13 = true := by kernel_rfl
theorem call14 : callableB Tryd.prog 14 = true := by kernel_rfl
theorem call15 : callableB Tryd.prog 15 = true := by kernel_rfl
theorem call16 : callableB Tryd.prog 16 = true := by kernel_rfl
theorem call17 : callableB Tryd.prog 17 = true := by kernel_rfl
theorem call18 : callableB Tryd.prog 18 = true := by kernel_rfl
theorem call19 : callableB Tryd.prog 19 = true := by kernel_rfl
theorem call20 : callableB Tryd.prog 20 = true := by kernel_rfl
theorem call21 : callableB Tryd.prog 21 = true := by kernel_rfl
theorem call22 : callableB Tryd.prog 22 = true := by kernel_rfl
theorem call23 : callableB Tryd.prog 23 = true := by kernel_rfl
theorem call25 : callableB Tryd.prog 25 = true := by kernel_rfl
theorem call26 : callableB Tryd.prog 26 = true := by kernel_rfl
theorem call27 : callableB Tryd.prog 27 = true := by kernel_rfl
theorem call28 : callableB Tryd.prog 28 = true := by kernel_rfl
theorem call31 : callableB Tryd.prog 31 = true := by kernel_rfl
theorem call32 : callableB Tryd.prog 32 = true := by kernel_rfl
theorem call34 : callableB Tryd.prog 34 = true := by kernel_rfl
theorem call35 : callableB Tryd.prog 35 = true := by kernel_rfl
theorem call44 : callableB Tryd.prog 44 = true := by kernel_rfl
theorem call45 : callableB Tryd.prog 45 = true := by kernel_rfl
theorem call47 : callableB Tryd.prog 47 = true := by kernel_rfl
/-- Of escritoire/escritoirelaw3.RealSorts (function 3): the condition. -/
def f3_vc (p0 : Option Addr) (l0 c0 : Nat) (w : World) (R : Ending → World → Prop) : Prop :=
  Does Tryd.prog 7 #[] w fun e8 w8 =>
  ∃ b8 : Bool, e8 = .returned (.bool b8) ∧ Br (!b8)
  (R (.returned (.bool false)) w8)
  (Br (decide (((l0 : Int)) > 40))
  (R (.returned (.bool true)) w8)
  (∀ b13 w13, NewBlk w8 b13 [] 25 w13 →
  ∃ (p15 : Option Addr) (l15 c15 : Nat) (w15 : World), (Builtin.append_ #[22, 22] 22 #[.slice (some ⟨b13, 0, none⟩) 0 0, .slice p0 l0 c0]).run Tryd.prog w13 = .ok (.slice p15 l15 c15) w15 ∧
  ∃ I7 : Int → Nat → World → Prop, (∃ nl7, I7 1 nl7 w15) ∧ ∀ x4 : Int, ∀ (nl7 : Nat) (wl7 : World), I7 x4 nl7 wl7 →
  Br (decide (x4 < ((l15 : Int))))
  (∃ I10 : Int → Nat → World → Prop, (∃ nl10, I10 x4 nl10 wl7) ∧ ∀ x5 : Int, ∀ (nl10 : Nat) (wl10 : World), I10 x5 nl10 wl10 →
  ∀ wd10, Drew wl10 wd10 →
  Br (decide (x5 > 0))
  (((0 : Int) ≤ x5 ∧ x5 < (l15 : Int)) ∧ ∃ b28 o28, p15 = some ⟨b28, o28, none⟩ ∧ ∃ f29 : Nat, wd10.cell? ⟨b28, o28 + (x5).toNat, none⟩ = some (.float .f64 f29) ∧ InK .i64 (x5 - 1) ∧ ((0 : Int) ≤ (x5 - 1) ∧ (x5 - 1) < (l15 : Int)) ∧ ∃ b33 o33, p15 = some ⟨b33, o33, none⟩ ∧ ∃ f34 : Nat, wd10.cell? ⟨b33, o33 + (x5 - 1).toNat, none⟩ = some (.float .f64 f34) ∧ Does Tryd.prog 8 #[.float .f64 f29, .float .f64 f34] wd10 fun e35 w35 =>
  ∃ n35 : Int, e35 = .returned (.int .i64 n35) ∧ Br (decide (n35 < 0))
  (∀ wd12, Drew w35 wd12 →
  InK .i64 (x5 - 1) ∧ InK .i64 (x5 - 1) ∧ ((0 : Int) ≤ (x5 - 1) ∧ (x5 - 1) < (l15 : Int)) ∧ ∃ b48 o48, p15 = some ⟨b48, o48, none⟩ ∧ ∃ f49 : Nat, wd12.cell? ⟨b48, o48 + (x5 - 1).toNat, none⟩ = some (.float .f64 f49) ∧ ((0 : Int) ≤ x5 ∧ x5 < (l15 : Int)) ∧ ∃ b52 o52, p15 = some ⟨b52, o52, none⟩ ∧ ∃ f53 : Nat, wd12.cell? ⟨b52, o52 + (x5).toNat, none⟩ = some (.float .f64 f53) ∧ ((0 : Int) ≤ x5 ∧ x5 < (l15 : Int)) ∧ ∃ b54 o54, p15 = some ⟨b54, o54, none⟩ ∧ CanStore wd12 b54 (o54 + (x5).toNat) ∧ ∀ ws, Stored wd12 b54 (o54 + (x5).toNat) (.float .f64 f49) ws →
  ((0 : Int) ≤ (x5 - 1) ∧ (x5 - 1) < (l15 : Int)) ∧ ∃ b55 o55, p15 = some ⟨b55, o55, none⟩ ∧ CanStore ws b55 (o55 + (x5 - 1).toNat) ∧ ∀ ws_1, Stored ws b55 (o55 + (x5 - 1).toNat) (.float .f64 f53) ws_1 →
  InK .i64 (x5 - 1) ∧ ∃ ml10, ml10 < nl10 ∧ I10 (x5 - 1) ml10 ws_1)
  (InK .i64 (x4 + 1) ∧ ∃ ml7, ml7 < nl7 ∧ I7 (x4 + 1) ml7 w35))
  (InK .i64 (x4 + 1) ∧ ∃ ml7, ml7 < nl7 ∧ I7 (x4 + 1) ml7 wd10))
  (∃ I15 : Int → Int → Nat → World → Prop, (∃ nl15, I15 0 0 nl15 wl7) ∧ ∀ x6 : Int, ∀ x7 : Int, ∀ (nl15 : Nat) (wl15 : World), I15 x6 x7 nl15 wl15 →
  Br (decide (x7 < ((l15 : Int))))
  (∃ J21 : Int → Nat → World → Prop, (∀ wd17, Drew wl15 wd17 →
  ((0 : Int) ≤ x7 ∧ x7 < (l15 : Int)) ∧ ∃ b64 o64, p15 = some ⟨b64, o64, none⟩ ∧ ∃ f65 : Nat, wd17.cell? ⟨b64, o64 + (x7).toNat, none⟩ = some (.float .f64 f65) ∧ ((0 : Int) ≤ x7 ∧ x7 < (l15 : Int)) ∧ ∃ b68 o68, p15 = some ⟨b68, o68, none⟩ ∧ ∃ f69 : Nat, wd17.cell? ⟨b68, o68 + (x7).toNat, none⟩ = some (.float .f64 f69) ∧ Br ((FloatKind.f64.format.order f65 f69 != some Ordering.eq))
  (InK .i64 (x6 + 1) ∧ ∃ nc21, J21 (x6 + 1) nc21 wd17)
  (Br (decide (x6 > 0))
  (R (.returned (.bool false)) wd17)
  (∃ nc21, J21 x6 nc21 wd17))) ∧ ∀ x6_1 : Int, ∀ (nc21 : Nat) (wc21 : World), J21 x6_1 nc21 wc21 →
  ∃ J23 : Nat → World → Prop, (∀ wd21, Drew wc21 wd21 →
  ∃ S21 : World → Prop, S21 wd21 ∧ Br (decide (x7 > 0))
  (((0 : Int) ≤ x7 ∧ x7 < (l15 : Int)) ∧ ∃ b80 o80, p15 = some ⟨b80, o80, none⟩ ∧ ∃ f81 : Nat, wd21.cell? ⟨b80, o80 + (x7).toNat, none⟩ = some (.float .f64 f81) ∧ InK .i64 (x7 - 1) ∧ ((0 : Int) ≤ (x7 - 1) ∧ (x7 - 1) < (l15 : Int)) ∧ ∃ b85 o85, p15 = some ⟨b85, o85, none⟩ ∧ ∃ f86 : Nat, wd21.cell? ⟨b85, o85 + (x7 - 1).toNat, none⟩ = some (.float .f64 f86) ∧ Br ((FloatKind.f64.format.order f81 f86 == some Ordering.lt))
  (R (.returned (.bool false)) wd21)
  (InK .i64 (x7 - 1) ∧ ((0 : Int) ≤ (x7 - 1) ∧ (x7 - 1) < (l15 : Int)) ∧ ∃ b92 o92, p15 = some ⟨b92, o92, none⟩ ∧ ∃ f93 : Nat, wd21.cell? ⟨b92, o92 + (x7 - 1).toNat, none⟩ = some (.float .f64 f93) ∧ ((0 : Int) ≤ x7 ∧ x7 < (l15 : Int)) ∧ ∃ b96 o96, p15 = some ⟨b96, o96, none⟩ ∧ ∃ f97 : Nat, wd21.cell? ⟨b96, o96 + (x7).toNat, none⟩ = some (.float .f64 f97) ∧ Does Tryd.prog 8 #[.float .f64 f93, .float .f64 f97] wd21 fun e98 w98 =>
  ∃ n98 : Int, e98 = .returned (.int .i64 n98) ∧ S21 w98 ∧ Br (decide (n98 > 0))
  (R (.returned (.bool false)) w98)
  (((0 : Int) ≤ x7 ∧ x7 < (l15 : Int)) ∧ ∃ b104 o104, p15 = some ⟨b104, o104, none⟩ ∧ ∃ f105 : Nat, (∀ w, S21 w → w.cell? ⟨b104, o104 + (x7).toNat, none⟩ = some (.float .f64 f105)) ∧ InK .i64 (x7 - 1) ∧ ((0 : Int) ≤ (x7 - 1) ∧ (x7 - 1) < (l15 : Int)) ∧ ∃ b109 o109, p15 = some ⟨b109, o109, none⟩ ∧ ∃ f110 : Nat, (∀ w, S21 w → w.cell? ⟨b109, o109 + (x7 - 1).toNat, none⟩ = some (.float .f64 f110)) ∧ Does Tryd.prog 8 #[.float .f64 f105, .float .f64 f110] w98 fun e111 w111 =>
  ∃ n111 : Int, e111 = .returned (.int .i64 n111) ∧ Br (decide (n111 < 0))
  (R (.returned (.bool false)) w111)
  (∃ nc23, J23  nc23 w111))))
  (∃ nc23, J23  nc23 wd21)) ∧ ∀ (nc23 : Nat) (wc23 : World), J23  nc23 wc23 →
  ∀ wd23, Drew wc23 wd23 →
  Br (decide (x7 > 0))
  (((0 : Int) ≤ x7 ∧ x7 < (l15 : Int)) ∧ ∃ b120 o120, p15 = some ⟨b120, o120, none⟩ ∧ ∃ f121 : Nat, wd23.cell? ⟨b120, o120 + (x7).toNat, none⟩ = some (.float .f64 f121) ∧ InK .i64 (x7 - 1) ∧ ((0 : Int) ≤ (x7 - 1) ∧ (x7 - 1) < (l15 : Int)) ∧ ∃ b125 o125, p15 = some ⟨b125, o125, none⟩ ∧ ∃ f126 : Nat, wd23.cell? ⟨b125, o125 + (x7 - 1).toNat, none⟩ = some (.float .f64 f126) ∧ Br ((FloatKind.f64.format.order f121 f126 == some Ordering.eq))
  (((0 : Int) ≤ x7 ∧ x7 < (l15 : Int)) ∧ ∃ b132 o132, p15 = some ⟨b132, o132, none⟩ ∧ ∃ f133 : Nat, wd23.cell? ⟨b132, o132 + (x7).toNat, none⟩ = some (.float .f64 f133) ∧ Br ((FloatKind.f64.format.order f133 0 != some Ordering.eq))
  (((0 : Int) ≤ x7 ∧ x7 < (l15 : Int)) ∧ ∃ b139 o139, p15 = some ⟨b139, o139, none⟩ ∧ ∃ f140 : Nat, wd23.cell? ⟨b139, o139 + (x7).toNat, none⟩ = some (.float .f64 f140) ∧ InK .i64 (x7 - 1) ∧ ((0 : Int) ≤ (x7 - 1) ∧ (x7 - 1) < (l15 : Int)) ∧ ∃ b144 o144, p15 = some ⟨b144, o144, none⟩ ∧ ∃ f145 : Nat, wd23.cell? ⟨b144, o144 + (x7 - 1).toNat, none⟩ = some (.float .f64 f145) ∧ Does Tryd.prog 8 #[.float .f64 f140, .float .f64 f145] wd23 fun e146 w146 =>
  ∃ n146 : Int, e146 = .returned (.int .i64 n146) ∧ Br (n146 != 0)
  (R (.returned (.bool false)) w146)
  (InK .i64 (x7 + 1) ∧ ∃ ml15, ml15 < nl15 ∧ I15 x6_1 (x7 + 1) ml15 w146))
  (InK .i64 (x7 + 1) ∧ ∃ ml15, ml15 < nl15 ∧ I15 x6_1 (x7 + 1) ml15 wd23))
  (InK .i64 (x7 + 1) ∧ ∃ ml15, ml15 < nl15 ∧ I15 x6_1 (x7 + 1) ml15 wd23))
  (InK .i64 (x7 + 1) ∧ ∃ ml15, ml15 < nl15 ∧ I15 x6_1 (x7 + 1) ml15 wd23))
  (R (.returned (.bool true)) wl15))))
def f3_ann : Ann := { loops := [(7, [(4, .int .i64)]), (10, [(5, .int .i64)]), (15, [(6, .int .i64), (7, .int .i64)])], cuts := [(21, [(6, .int .i64)]), (23, [])], flip := [], throws := [] }
theorem f3_eq (p0 : Option Addr) (l0 c0 : Nat) (w : World) (R : Ending → World → Prop) : vc Tryd.prog f3_ann (bodyOf Tryd.f3) (retQ Tryd.prog Tryd.f3 R) (envOf Tryd.f3.ntmps [.v (.slice p0 l0 c0)]) [] w = f3_vc p0 l0 c0 w R := by kernel_rfl
theorem f3_does (p0 : Option Addr) (l0 c0 : Nat) {w : World} {R : Ending → World → Prop} (h : f3_vc p0 l0 c0 w R) : Does Tryd.prog 3 #[.slice p0 l0 c0] w R :=
  does_of_vc (ss := [.v (.slice p0 l0 c0)]) f3_ann mixed call3 Tryd.func3 rfl rfl (show 1 ≤ Tryd.f3.ntmps by decide) ((f3_eq p0 l0 c0 w R).symm ▸ h)
/-- Of escritoire/escritoirelaw3.RealOrders (function 4): the condition. -/
def f4_vc (a0 : Nat) (a1 : Nat) (a2 : Nat) (w : World) (R : Ending → World → Prop) : Prop :=
  Does Tryd.prog 7 #[] w fun e10 w10 =>
  ∃ b10 : Bool, e10 = .returned (.bool b10) ∧ Br (!b10)
  (R (.returned (.bool false)) w10)
  (Does Tryd.prog 8 #[.float .f64 a0, .float .f64 a1] w10 fun e14 w14 =>
  ∃ n14 : Int, e14 = .returned (.int .i64 n14) ∧ Does Tryd.prog 8 #[.float .f64 a1, .float .f64 a2] w14 fun e17 w17 =>
  ∃ n17 : Int, e17 = .returned (.int .i64 n17) ∧ Does Tryd.prog 8 #[.float .f64 a0, .float .f64 a2] w17 fun e20 w20 =>
  ∃ n20 : Int, e20 = .returned (.int .i64 n20) ∧ Does Tryd.prog 9 #[.float .f64 a0, .float .f64 a1] w20 fun e24 w24 =>
  ∃ n24 : Int, e24 = .returned (.int .i64 n24) ∧ Br (n14 != n24)
  (R (.returned (.bool false)) w24)
  (Does Tryd.prog 8 #[.float .f64 a1, .float .f64 a0] w24 fun e29 w29 =>
  ∃ n29 : Int, e29 = .returned (.int .i64 n29) ∧ InK .i64 (0 - n14) ∧ Br (n29 != (0 - n14))
  (R (.returned (.bool false)) w29)
  (Does Tryd.prog 10 #[.float .f64 a0] w29 fun e38 w38 =>
  ∃ n38 : Int, e38 = .returned (.int .u64 n38) ∧ Does Tryd.prog 10 #[.float .f64 a1] w38 fun e40 w40 =>
  ∃ n40 : Int, e40 = .returned (.int .u64 n40) ∧ Br (!((n14 == 0) == (n38 == n40)))
  (R (.returned (.bool false)) w40)
  (Does Tryd.prog 10 #[.float .f64 a0] w40 fun e46 w46 =>
  ∃ n46 : Int, e46 = .returned (.int .u64 n46) ∧ Does Tryd.prog 11 #[.float .f64 a0] w46 fun e48 w48 =>
  ∃ n48 : Int, e48 = .returned (.int .u64 n48) ∧ Br (n46 != n48)
  (R (.returned (.bool false)) w48)
  (Br ((FloatKind.f64.format.order a0 a1 == some Ordering.lt))
  (Br (n14 != (-1))
  (R (.returned (.bool false)) w48)
  (Br ((FloatKind.f64.format.order a0 a1 == some Ordering.gt))
  (Br (n14 != 1)
  (R (.returned (.bool false)) w48)
  (Br (decide (n14 ≤ 0))
  (Br (!(decide (n17 ≤ 0)))
  (R (.returned (.bool true)) w48)
  (Br (decide (n20 ≤ 0))
  (Br (decide (n20 < 0))
  (R (.returned (.bool true)) w48)
  (Br (n14 == 0)
  (R (.returned (.bool (n17 == 0))) w48)
  (R (.returned (.bool false)) w48)))
  (R (.returned (.bool false)) w48)))
  (R (.returned (.bool true)) w48)))
  (Br (decide (n14 ≤ 0))
  (Br (!(decide (n17 ≤ 0)))
  (R (.returned (.bool true)) w48)
  (Br (decide (n20 ≤ 0))
  (Br (decide (n20 < 0))
  (R (.returned (.bool true)) w48)
  (Br (n14 == 0)
  (R (.returned (.bool (n17 == 0))) w48)
  (R (.returned (.bool false)) w48)))
  (R (.returned (.bool false)) w48)))
  (R (.returned (.bool true)) w48))))
  (Br ((FloatKind.f64.format.order a0 a1 == some Ordering.gt))
  (Br (n14 != 1)
  (R (.returned (.bool false)) w48)
  (Br (decide (n14 ≤ 0))
  (Br (!(decide (n17 ≤ 0)))
  (R (.returned (.bool true)) w48)
  (Br (decide (n20 ≤ 0))
  (Br (decide (n20 < 0))
  (R (.returned (.bool true)) w48)
  (Br (n14 == 0)
  (R (.returned (.bool (n17 == 0))) w48)
  (R (.returned (.bool false)) w48)))
  (R (.returned (.bool false)) w48)))
  (R (.returned (.bool true)) w48)))
  (Br (decide (n14 ≤ 0))
  (Br (!(decide (n17 ≤ 0)))
  (R (.returned (.bool true)) w48)
  (Br (decide (n20 ≤ 0))
  (Br (decide (n20 < 0))
  (R (.returned (.bool true)) w48)
  (Br (n14 == 0)
  (R (.returned (.bool (n17 == 0))) w48)
  (R (.returned (.bool false)) w48)))
  (R (.returned (.bool false)) w48)))
  (R (.returned (.bool true)) w48))))))))
def f4_ann : Ann := { loops := [], cuts := [], flip := [], throws := [] }
theorem f4_eq (a0 : Nat) (a1 : Nat) (a2 : Nat) (w : World) (R : Ending → World → Prop) : vc Tryd.prog f4_ann (bodyOf Tryd.f4) (retQ Tryd.prog Tryd.f4 R) (envOf Tryd.f4.ntmps [.v (.float .f64 a0), .v (.float .f64 a1), .v (.float .f64 a2)]) [] w = f4_vc a0 a1 a2 w R := by kernel_rfl
theorem f4_does (a0 : Nat) (a1 : Nat) (a2 : Nat) {w : World} {R : Ending → World → Prop} (h : f4_vc a0 a1 a2 w R) : Does Tryd.prog 4 #[.float .f64 a0, .float .f64 a1, .float .f64 a2] w R :=
  does_of_vc (ss := [.v (.float .f64 a0), .v (.float .f64 a1), .v (.float .f64 a2)]) f4_ann mixed call4 Tryd.func4 rfl rfl (show 3 ≤ Tryd.f4.ntmps by decide) ((f4_eq a0 a1 a2 w R).symm ▸ h)
/-- Of escritoire/escritoirelaw3.RealPlaces (function 5): the condition. -/
def f5_vc (a0 : Nat) (a1 : Nat) (a2 : Int) (w : World) (R : Ending → World → Prop) : Prop :=
  Does Tryd.prog 7 #[] w fun e11 w11 =>
  ∃ b11 : Bool, e11 = .returned (.bool b11) ∧ Br (!b11)
  (R (.returned (.bool false)) w11)
  (Does Tryd.prog 12 #[.float .f64 a0, .int .i64 a2] w11 fun e16 w16 =>
  ∃ n16 : Int, ∃ b16 : Bool, e16 = .returned (.tuple #[.int .i64 n16, .bool b16]) ∧ Does Tryd.prog 12 #[.float .f64 a1, .int .i64 a2] w16 fun e22 w22 =>
  ∃ n22 : Int, ∃ b22 : Bool, e22 = .returned (.tuple #[.int .i64 n22, .bool b22]) ∧ Br ((FloatKind.f64.format.order a0 a0 == some Ordering.eq))
  (Br (!(b16 == (decide (a2 ≥ 0))))
  (R (.returned (.bool false)) w22)
  (Br (!b16)
  (Br (!b16)
  (Br (n16 == 0)
  (R (.returned (.bool true)) w22)
  (Br (!b22)
  (R (.returned (.bool (n22 == 0))) w22)
  (R (.returned (.bool false)) w22)))
  (Br (!b22)
  (R (.returned (.bool (n22 == 0))) w22)
  (R (.returned (.bool false)) w22)))
  (Br (!b22)
  (Br (!b16)
  (Br (n16 == 0)
  (R (.returned (.bool true)) w22)
  (Br (!b22)
  (R (.returned (.bool (n22 == 0))) w22)
  (R (.returned (.bool false)) w22)))
  (Br (!b22)
  (R (.returned (.bool (n22 == 0))) w22)
  (R (.returned (.bool false)) w22)))
  (Br (decide (n16 ≥ 0))
  (Br (decide (n16 ≤ a2))
  (Br (decide (n22 ≥ 0))
  (Br (decide (n22 ≤ a2))
  (Does Tryd.prog 8 #[.float .f64 a0, .float .f64 a1] w22 fun e73 w73 =>
  ∃ n73 : Int, e73 = .returned (.int .i64 n73) ∧ Br (decide (n73 > 0))
  (R (.returned (.bool true)) w73)
  (R (.returned (.bool (decide (n16 ≤ n22)))) w73))
  (R (.returned (.bool false)) w22))
  (R (.returned (.bool false)) w22))
  (R (.returned (.bool false)) w22))
  (R (.returned (.bool false)) w22)))))
  (Br (!(b16 == false))
  (R (.returned (.bool false)) w22)
  (Br (!b16)
  (Br (!b16)
  (Br (n16 == 0)
  (R (.returned (.bool true)) w22)
  (Br (!b22)
  (R (.returned (.bool (n22 == 0))) w22)
  (R (.returned (.bool false)) w22)))
  (Br (!b22)
  (R (.returned (.bool (n22 == 0))) w22)
  (R (.returned (.bool false)) w22)))
  (Br (!b22)
  (Br (!b16)
  (Br (n16 == 0)
  (R (.returned (.bool true)) w22)
  (Br (!b22)
  (R (.returned (.bool (n22 == 0))) w22)
  (R (.returned (.bool false)) w22)))
  (Br (!b22)
  (R (.returned (.bool (n22 == 0))) w22)
  (R (.returned (.bool false)) w22)))
  (Br (decide (n16 ≥ 0))
  (Br (decide (n16 ≤ a2))
  (Br (decide (n22 ≥ 0))
  (Br (decide (n22 ≤ a2))
  (Does Tryd.prog 8 #[.float .f64 a0, .float .f64 a1] w22 fun e73_1 w73_1 =>
  ∃ n73_1 : Int, e73_1 = .returned (.int .i64 n73_1) ∧ Br (decide (n73_1 > 0))
  (R (.returned (.bool true)) w73_1)
  (R (.returned (.bool (decide (n16 ≤ n22)))) w73_1))
  (R (.returned (.bool false)) w22))
  (R (.returned (.bool false)) w22))
  (R (.returned (.bool false)) w22))
  (R (.returned (.bool false)) w22))))))
def f5_ann : Ann := { loops := [], cuts := [], flip := [], throws := [] }
theorem f5_eq (a0 : Nat) (a1 : Nat) (a2 : Int) (w : World) (R : Ending → World → Prop) : vc Tryd.prog f5_ann (bodyOf Tryd.f5) (retQ Tryd.prog Tryd.f5 R) (envOf Tryd.f5.ntmps [.v (.float .f64 a0), .v (.float .f64 a1), .v (.int .i64 a2)]) [] w = f5_vc a0 a1 a2 w R := by kernel_rfl
theorem f5_does (a0 : Nat) (a1 : Nat) (a2 : Int) {w : World} {R : Ending → World → Prop} (h : f5_vc a0 a1 a2 w R) : Does Tryd.prog 5 #[.float .f64 a0, .float .f64 a1, .int .i64 a2] w R :=
  does_of_vc (ss := [.v (.float .f64 a0), .v (.float .f64 a1), .v (.int .i64 a2)]) f5_ann mixed call5 Tryd.func5 rfl rfl (show 3 ≤ Tryd.f5.ntmps by decide) ((f5_eq a0 a1 a2 w R).symm ▸ h)
/-- Of escritoire/escritoirelaw3.RealSums (function 6): the condition. -/
def f6_vc (p0 : Option Addr) (l0 c0 : Nat) (a1 : Int) (a2 : Int) (w : World) (R : Ending → World → Prop) : Prop :=
  Does Tryd.prog 7 #[] w fun e12 w12 =>
  ∃ b12 : Bool, e12 = .returned (.bool b12) ∧ Br (!b12)
  (R (.returned (.bool false)) w12)
  (Br (decide (((l0 : Int)) > 1000))
  (R (.returned (.bool true)) w12)
  (Does Tryd.prog 13 #[.int .i64 a1, .int .i64 a2] w12 fun e19 w19 =>
  ∃ f19 : Nat, e19 = .returned (.float .f64 f19) ∧ Does Tryd.prog 12 #[.float .f64 f19, .int .i64 a1] w19 fun e23 w23 =>
  ∃ n23 : Int, ∃ b23 : Bool, e23 = .returned (.tuple #[.int .i64 n23, .bool b23]) ∧ Does Tryd.prog 14 #[.float .f64 f19, .int .i64 a1] w23 fun e29 w29 =>
  ∃ n29 : Int, ∃ b29 : Bool, e29 = .returned (.tuple #[.int .i64 n29, .bool b29]) ∧ Does Tryd.prog 15 #[.slice p0 l0 c0] w29 fun e33 w33 =>
  ∃ f33 : Nat, e33 = .returned (.float .f64 f33) ∧ Does Tryd.prog 10 #[.float .f64 f33] w33 fun e34 w34 =>
  ∃ n34 : Int, e34 = .returned (.int .u64 n34) ∧ Does Tryd.prog 16 #[.slice p0 l0 c0] w34 fun e36 w36 =>
  ∃ f36 : Nat, e36 = .returned (.float .f64 f36) ∧ Does Tryd.prog 11 #[.float .f64 f36] w36 fun e37 w37 =>
  ∃ n37 : Int, e37 = .returned (.int .u64 n37) ∧ Br (n34 == n37)
  (Does Tryd.prog 10 #[.float .f64 f19] w37 fun e41 w41 =>
  ∃ n41 : Int, e41 = .returned (.int .u64 n41) ∧ Does Tryd.prog 17 #[.int .i64 a1, .int .i64 a2] w41 fun e44 w44 =>
  ∃ f44 : Nat, e44 = .returned (.float .f64 f44) ∧ Does Tryd.prog 11 #[.float .f64 f44] w44 fun e45 w45 =>
  ∃ n45 : Int, e45 = .returned (.int .u64 n45) ∧ Br (n41 == n45)
  (Br (b23 == b29)
  (R (.returned (.bool (n23 == n29))) w45)
  (R (.returned (.bool false)) w45))
  (R (.returned (.bool false)) w45))
  (R (.returned (.bool false)) w37)))
def f6_ann : Ann := { loops := [], cuts := [], flip := [], throws := [] }
theorem f6_eq (p0 : Option Addr) (l0 c0 : Nat) (a1 : Int) (a2 : Int) (w : World) (R : Ending → World → Prop) : vc Tryd.prog f6_ann (bodyOf Tryd.f6) (retQ Tryd.prog Tryd.f6 R) (envOf Tryd.f6.ntmps [.v (.slice p0 l0 c0), .v (.int .i64 a1), .v (.int .i64 a2)]) [] w = f6_vc p0 l0 c0 a1 a2 w R := by kernel_rfl
theorem f6_does (p0 : Option Addr) (l0 c0 : Nat) (a1 : Int) (a2 : Int) {w : World} {R : Ending → World → Prop} (h : f6_vc p0 l0 c0 a1 a2 w R) : Does Tryd.prog 6 #[.slice p0 l0 c0, .int .i64 a1, .int .i64 a2] w R :=
  does_of_vc (ss := [.v (.slice p0 l0 c0), .v (.int .i64 a1), .v (.int .i64 a2)]) f6_ann mixed call6 Tryd.func6 rfl rfl (show 3 ≤ Tryd.f6.ntmps by decide) ((f6_eq p0 l0 c0 a1 a2 w R).symm ▸ h)
/-- Of escritoire/escritoirelaw3.awake (function 7): the condition. -/
def f7_vc  (w : World) (R : Ending → World → Prop) : Prop :=
  Does Tryd.prog 8 #[.float .f64 0, .float .f64 0] w fun e4 w4 =>
  ∃ n4 : Int, e4 = .returned (.int .i64 n4) ∧ Br (n4 == 0)
  (∃ f8 : Nat, ∃ w8, (binOp .quo 25 (.float .f64 4607182418800017408) (.float .f64 0)).run Tryd.prog w4 = .ok (.float .f64 f8) w8 ∧ Does Tryd.prog 8 #[.float .f64 f8, .float .f64 4607182418800017408] w8 fun e9 w9 =>
  ∃ n9 : Int, e9 = .returned (.int .i64 n9) ∧ Br (n9 == 1)
  (∃ f15 : Nat, ∃ w15, (binOp .quo 25 (.float .f64 0) (.float .f64 0)).run Tryd.prog w9 = .ok (.float .f64 f15) w15 ∧ Does Tryd.prog 18 #[.float .f64 f15] w15 fun e16 w16 =>
  ∃ s16 : ByteArray, e16 = .returned (.string s16) ∧ Br (s16.toList == (({ data := #[110, 97, 110] } : ByteArray)).toList)
  (∃ f21 : Nat, ∃ w21, (binOp .quo 25 (.float .f64 13830554455654793216) (.float .f64 0)).run Tryd.prog w16 = .ok (.float .f64 f21) w21 ∧ Does Tryd.prog 18 #[.float .f64 f21] w21 fun e22 w22 =>
  ∃ s22 : ByteArray, e22 = .returned (.string s22) ∧ R (.returned (.bool (s22.toList == (({ data := #[45, 105, 110, 102] } : ByteArray)).toList))) w22)
  (R (.returned (.bool false)) w16))
  (R (.returned (.bool false)) w9))
  (R (.returned (.bool false)) w4)
def f7_ann : Ann := { loops := [], cuts := [], flip := [], throws := [] }
theorem f7_eq  (w : World) (R : Ending → World → Prop) : vc Tryd.prog f7_ann (bodyOf Tryd.f7) (retQ Tryd.prog Tryd.f7 R) (envOf Tryd.f7.ntmps []) [] w = f7_vc  w R := by kernel_rfl
theorem f7_does  {w : World} {R : Ending → World → Prop} (h : f7_vc  w R) : Does Tryd.prog 7 #[] w R :=
  does_of_vc (ss := []) f7_ann mixed call7 Tryd.func7 rfl rfl (show 0 ≤ Tryd.f7.ntmps by decide) ((f7_eq  w R).symm ▸ h)
/-- Of escritoire/real.Compare (function 8): the condition. -/
def f8_vc (a0 : Nat) (a1 : Nat) (w : World) (R : Ending → World → Prop) : Prop :=
  Br ((FloatKind.f64.format.order a0 a0 != some Ordering.eq))
  (Does Tryd.prog 20 #[.float .f64 a0] w fun e15 w15 =>
  ∃ n15 : Int, e15 = .returned (.int .i64 n15) ∧ Does Tryd.prog 20 #[.float .f64 a1] w15 fun e17 w17 =>
  ∃ n17 : Int, e17 = .returned (.int .i64 n17) ∧ Does Tryd.prog 19 #[.int .i64 n15, .int .i64 n17] w17 fun e18 w18 =>
  ∃ n18 : Int, e18 = .returned (.int .i64 n18) ∧ R (.returned (.int .i64 n18)) w18)
  (Br ((FloatKind.f64.format.order a1 a1 != some Ordering.eq))
  (Does Tryd.prog 20 #[.float .f64 a0] w fun e15_1 w15_1 =>
  ∃ n15_1 : Int, e15_1 = .returned (.int .i64 n15_1) ∧ Does Tryd.prog 20 #[.float .f64 a1] w15_1 fun e17_1 w17_1 =>
  ∃ n17_1 : Int, e17_1 = .returned (.int .i64 n17_1) ∧ Does Tryd.prog 19 #[.int .i64 n15_1, .int .i64 n17_1] w17_1 fun e18_1 w18_1 =>
  ∃ n18_1 : Int, e18_1 = .returned (.int .i64 n18_1) ∧ R (.returned (.int .i64 n18_1)) w18_1)
  (Br ((FloatKind.f64.format.order a0 0 == some Ordering.eq))
  (Br ((FloatKind.f64.format.order a1 0 == some Ordering.eq))
  (Does Tryd.prog 21 #[.float .f64 a1] w fun e27 w27 =>
  ∃ n27 : Int, e27 = .returned (.int .i64 n27) ∧ Does Tryd.prog 21 #[.float .f64 a0] w27 fun e29 w29 =>
  ∃ n29 : Int, e29 = .returned (.int .i64 n29) ∧ Does Tryd.prog 19 #[.int .i64 n27, .int .i64 n29] w29 fun e30 w30 =>
  ∃ n30 : Int, e30 = .returned (.int .i64 n30) ∧ R (.returned (.int .i64 n30)) w30)
  (Does Tryd.prog 22 #[.float .f64 a0, .float .f64 a1] w fun e33 w33 =>
  ∃ n33 : Int, e33 = .returned (.int .i64 n33) ∧ R (.returned (.int .i64 n33)) w33))
  (Does Tryd.prog 22 #[.float .f64 a0, .float .f64 a1] w fun e33_1 w33_1 =>
  ∃ n33_1 : Int, e33_1 = .returned (.int .i64 n33_1) ∧ R (.returned (.int .i64 n33_1)) w33_1)))
def f8_ann : Ann := { loops := [], cuts := [], flip := [], throws := [] }
theorem f8_eq (a0 : Nat) (a1 : Nat) (w : World) (R : Ending → World → Prop) : vc Tryd.prog f8_ann (bodyOf Tryd.f8) (retQ Tryd.prog Tryd.f8 R) (envOf Tryd.f8.ntmps [.v (.float .f64 a0), .v (.float .f64 a1)]) [] w = f8_vc a0 a1 w R := by kernel_rfl
theorem f8_does (a0 : Nat) (a1 : Nat) {w : World} {R : Ending → World → Prop} (h : f8_vc a0 a1 w R) : Does Tryd.prog 8 #[.float .f64 a0, .float .f64 a1] w R :=
  does_of_vc (ss := [.v (.float .f64 a0), .v (.float .f64 a1)]) f8_ann mixed call8 Tryd.func8 rfl rfl (show 2 ≤ Tryd.f8.ntmps by decide) ((f8_eq a0 a1 w R).symm ▸ h)
/-- Of escritoire/escritoireref3.Compare (function 9): the condition. -/
def f9_vc (a0 : Nat) (a1 : Nat) (w : World) (R : Ending → World → Prop) : Prop :=
  Does Tryd.prog 23 #[.float .f64 a0] w fun e8 w8 =>
  ∃ n8 : Int, e8 = .returned (.int .u64 n8) ∧ Does Tryd.prog 23 #[.float .f64 a1] w8 fun e10 w10 =>
  ∃ n10 : Int, e10 = .returned (.int .u64 n10) ∧ Br (decide (n8 < n10))
  (R (.returned (.int .i64 (-1))) w10)
  (Br (decide (n8 > n10))
  (R (.returned (.int .i64 1)) w10)
  (R (.returned (.int .i64 0)) w10))
def f9_ann : Ann := { loops := [], cuts := [], flip := [], throws := [] }
theorem f9_eq (a0 : Nat) (a1 : Nat) (w : World) (R : Ending → World → Prop) : vc Tryd.prog f9_ann (bodyOf Tryd.f9) (retQ Tryd.prog Tryd.f9 R) (envOf Tryd.f9.ntmps [.v (.float .f64 a0), .v (.float .f64 a1)]) [] w = f9_vc a0 a1 w R := by kernel_rfl
theorem f9_does (a0 : Nat) (a1 : Nat) {w : World} {R : Ending → World → Prop} (h : f9_vc a0 a1 w R) : Does Tryd.prog 9 #[.float .f64 a0, .float .f64 a1] w R :=
  does_of_vc (ss := [.v (.float .f64 a0), .v (.float .f64 a1)]) f9_ann mixed call9 Tryd.func9 rfl rfl (show 2 ≤ Tryd.f9.ntmps by decide) ((f9_eq a0 a1 w R).symm ▸ h)
/-- Of escritoire/real.Bits (function 10): the condition. -/
def f10_vc (a0 : Nat) (w : World) (R : Ending → World → Prop) : Prop :=
  Br ((FloatKind.f64.format.order a0 a0 != some Ordering.eq))
  (R (.returned (.int .u64 9221120237041090561)) w)
  (Does Tryd.prog 24 #[.float .f64 a0] w fun e7 w7 =>
  ∃ n7 : Int, e7 = .returned (.int .u64 n7) ∧ R (.returned (.int .u64 n7)) w7)
def f10_ann : Ann := { loops := [], cuts := [], flip := [], throws := [] }
theorem f10_eq (a0 : Nat) (w : World) (R : Ending → World → Prop) : vc Tryd.prog f10_ann (bodyOf Tryd.f10) (retQ Tryd.prog Tryd.f10 R) (envOf Tryd.f10.ntmps [.v (.float .f64 a0)]) [] w = f10_vc a0 w R := by kernel_rfl
theorem f10_does (a0 : Nat) {w : World} {R : Ending → World → Prop} (h : f10_vc a0 w R) : Does Tryd.prog 10 #[.float .f64 a0] w R :=
  does_of_vc (ss := [.v (.float .f64 a0)]) f10_ann mixed call10 Tryd.func10 rfl rfl (show 1 ≤ Tryd.f10.ntmps by decide) ((f10_eq a0 w R).symm ▸ h)
/-- Of escritoire/escritoireref3.Bits (function 11): the condition. -/
def f11_vc (a0 : Nat) (w : World) (R : Ending → World → Prop) : Prop :=
  Br ((FloatKind.f64.format.order a0 a0 != some Ordering.eq))
  (R (.returned (.int .u64 9221120237041090561)) w)
  (Does Tryd.prog 24 #[.float .f64 a0] w fun e7 w7 =>
  ∃ n7 : Int, e7 = .returned (.int .u64 n7) ∧ R (.returned (.int .u64 n7)) w7)
def f11_ann : Ann := { loops := [], cuts := [], flip := [], throws := [] }
theorem f11_eq (a0 : Nat) (w : World) (R : Ending → World → Prop) : vc Tryd.prog f11_ann (bodyOf Tryd.f11) (retQ Tryd.prog Tryd.f11 R) (envOf Tryd.f11.ntmps [.v (.float .f64 a0)]) [] w = f11_vc a0 w R := by kernel_rfl
theorem f11_does (a0 : Nat) {w : World} {R : Ending → World → Prop} (h : f11_vc a0 w R) : Does Tryd.prog 11 #[.float .f64 a0] w R :=
  does_of_vc (ss := [.v (.float .f64 a0)]) f11_ann mixed call11 Tryd.func11 rfl rfl (show 1 ≤ Tryd.f11.ntmps by decide) ((f11_eq a0 w R).symm ▸ h)
/-- Of escritoire/real.Place (function 12): the condition. -/
def f12_vc (a0 : Nat) (a1 : Int) (w : World) (R : Ending → World → Prop) : Prop :=
  Br ((FloatKind.f64.format.order a0 a0 != some Ordering.eq))
  (R (.returned (.tuple #[.int .i64 0, .bool false])) w)
  (Br (decide (a1 < 0))
  (R (.returned (.tuple #[.int .i64 0, .bool false])) w)
  (Br ((FloatKind.f64.format.order a0 0 == some Ordering.lt) || (FloatKind.f64.format.order a0 0 == some Ordering.eq))
  (R (.returned (.tuple #[.int .i64 0, .bool true])) w)
  (Br ((FloatKind.f64.format.order a0 4607182418800017408 == some Ordering.gt) || (FloatKind.f64.format.order a0 4607182418800017408 == some Ordering.eq))
  (R (.returned (.tuple #[.int .i64 a1, .bool true])) w)
  (∃ f22 : Nat, ∃ w22, (convert 3 25 (.int .i64 a1)).run Tryd.prog w = .ok (.float .f64 f22) w22 ∧ ∃ f24 : Nat, ∃ w24, (binOp .mul 25 (.float .f64 f22) (.float .f64 a0)).run Tryd.prog w22 = .ok (.float .f64 f24) w24 ∧ ∃ n25 : Int, ∃ w25, (convert 25 3 (.float .f64 f24)).run Tryd.prog w24 = .ok (.int .i64 n25) w25 ∧ R (.returned (.tuple #[.int .i64 n25, .bool true])) w25))))
def f12_ann : Ann := { loops := [], cuts := [], flip := [], throws := [] }
theorem f12_eq (a0 : Nat) (a1 : Int) (w : World) (R : Ending → World → Prop) : vc Tryd.prog f12_ann (bodyOf Tryd.f12) (retQ Tryd.prog Tryd.f12 R) (envOf Tryd.f12.ntmps [.v (.float .f64 a0), .v (.int .i64 a1)]) [] w = f12_vc a0 a1 w R := by kernel_rfl
theorem f12_does (a0 : Nat) (a1 : Int) {w : World} {R : Ending → World → Prop} (h : f12_vc a0 a1 w R) : Does Tryd.prog 12 #[.float .f64 a0, .int .i64 a1] w R :=
  does_of_vc (ss := [.v (.float .f64 a0), .v (.int .i64 a1)]) f12_ann mixed call12 Tryd.func12 rfl rfl (show 2 ≤ Tryd.f12.ntmps by decide) ((f12_eq a0 a1 w R).symm ▸ h)
/-- Of escritoire/real.Share (function 13): the condition. -/
def f13_vc (a0 : Int) (a1 : Int) (w : World) (R : Ending → World → Prop) : Prop :=
  ∃ f6 : Nat, ∃ w6, (convert 3 25 (.int .i64 a0)).run Tryd.prog w = .ok (.float .f64 f6) w6 ∧ ∃ f8 : Nat, ∃ w8, (convert 3 25 (.int .i64 a1)).run Tryd.prog w6 = .ok (.float .f64 f8) w8 ∧ ∃ f9 : Nat, ∃ w9, (binOp .quo 25 (.float .f64 f6) (.float .f64 f8)).run Tryd.prog w8 = .ok (.float .f64 f9) w9 ∧ R (.returned (.float .f64 f9)) w9
def f13_ann : Ann := { loops := [], cuts := [], flip := [], throws := [] }
theorem f13_eq (a0 : Int) (a1 : Int) (w : World) (R : Ending → World → Prop) : vc Tryd.prog f13_ann (bodyOf Tryd.f13) (retQ Tryd.prog Tryd.f13 R) (envOf Tryd.f13.ntmps [.v (.int .i64 a0), .v (.int .i64 a1)]) [] w = f13_vc a0 a1 w R := by kernel_rfl
theorem f13_does (a0 : Int) (a1 : Int) {w : World} {R : Ending → World → Prop} (h : f13_vc a0 a1 w R) : Does Tryd.prog 13 #[.int .i64 a0, .int .i64 a1] w R :=
  does_of_vc (ss := [.v (.int .i64 a0), .v (.int .i64 a1)]) f13_ann mixed call13 Tryd.func13 rfl rfl (show 2 ≤ Tryd.f13.ntmps by decide) ((f13_eq a0 a1 w R).symm ▸ h)
/-- Of escritoire/escritoireref3.Place (function 14): the condition. -/
def f14_vc (a0 : Nat) (a1 : Int) (w : World) (R : Ending → World → Prop) : Prop :=
  Br ((FloatKind.f64.format.order a0 a0 != some Ordering.eq))
  (R (.returned (.tuple #[.int .i64 0, .bool false])) w)
  (Br (decide (a1 < 0))
  (R (.returned (.tuple #[.int .i64 0, .bool false])) w)
  (Br ((FloatKind.f64.format.order a0 0 == some Ordering.lt) || (FloatKind.f64.format.order a0 0 == some Ordering.eq))
  (R (.returned (.tuple #[.int .i64 0, .bool true])) w)
  (Br ((FloatKind.f64.format.order a0 4607182418800017408 == some Ordering.gt) || (FloatKind.f64.format.order a0 4607182418800017408 == some Ordering.eq))
  (R (.returned (.tuple #[.int .i64 a1, .bool true])) w)
  (∃ f23 : Nat, ∃ w23, (convert 3 25 (.int .i64 a1)).run Tryd.prog w = .ok (.float .f64 f23) w23 ∧ ∃ f25 : Nat, ∃ w25, (binOp .mul 25 (.float .f64 f23) (.float .f64 a0)).run Tryd.prog w23 = .ok (.float .f64 f25) w25 ∧ ∃ f28 : Nat, ∃ w28, (convert 3 25 (.int .i64 a1)).run Tryd.prog w25 = .ok (.float .f64 f28) w28 ∧ Br ((FloatKind.f64.format.order f25 f28 == some Ordering.gt) || (FloatKind.f64.format.order f25 f28 == some Ordering.eq))
  (R (.returned (.tuple #[.int .i64 a1, .bool true])) w28)
  (Does Tryd.prog 25 #[.float .f64 f25] w28 fun e32 w32 =>
  ∃ f32 : Nat, e32 = .returned (.float .f64 f32) ∧ ∃ n33 : Int, ∃ w33, (convert 25 3 (.float .f64 f32)).run Tryd.prog w32 = .ok (.int .i64 n33) w33 ∧ R (.returned (.tuple #[.int .i64 n33, .bool true])) w33)))))
def f14_ann : Ann := { loops := [], cuts := [], flip := [], throws := [] }
theorem f14_eq (a0 : Nat) (a1 : Int) (w : World) (R : Ending → World → Prop) : vc Tryd.prog f14_ann (bodyOf Tryd.f14) (retQ Tryd.prog Tryd.f14 R) (envOf Tryd.f14.ntmps [.v (.float .f64 a0), .v (.int .i64 a1)]) [] w = f14_vc a0 a1 w R := by kernel_rfl
theorem f14_does (a0 : Nat) (a1 : Int) {w : World} {R : Ending → World → Prop} (h : f14_vc a0 a1 w R) : Does Tryd.prog 14 #[.float .f64 a0, .int .i64 a1] w R :=
  does_of_vc (ss := [.v (.float .f64 a0), .v (.int .i64 a1)]) f14_ann mixed call14 Tryd.func14 rfl rfl (show 2 ≤ Tryd.f14.ntmps by decide) ((f14_eq a0 a1 w R).symm ▸ h)
/-- Of escritoire/real.Sum (function 15): the condition. -/
def f15_vc (p0 : Option Addr) (l0 c0 : Nat) (w : World) (R : Ending → World → Prop) : Prop :=
  Br (((l0 : Int)) == 0)
  (R (.returned (.float .f64 0)) w)
  (((0 : Int) ≤ 0 ∧ 0 < (l0 : Int)) ∧ ∃ b10 o10, p0 = some ⟨b10, o10, none⟩ ∧ ∃ f11 : Nat, w.cell? ⟨b10, o10 + (0 : Int).toNat, none⟩ = some (.float .f64 f11) ∧ ((0 : Int) ≤ 1 ∧ 1 ≤ (l0 : Int)) ∧ ∃ I5 : Nat → Int → Nat → World → Prop, (∃ nl5, I5 f11 0 nl5 w) ∧ ∀ f3 : Nat, ∀ x15 : Int, ∀ (nl5 : Nat) (wl5 : World), I5 f3 x15 nl5 wl5 →
  Br (decide (x15 < (((l0 - ((1 : Int).toNat) : Nat) : Int))))
  (((0 : Int) ≤ x15 ∧ x15 < ((l0 - ((1 : Int).toNat) : Nat) : Int)) ∧ ∃ b17 o17, subp p0 ((1 : Int).toNat) c0 1 = some ⟨b17, o17, none⟩ ∧ ∃ f18 : Nat, wl5.cell? ⟨b17, o17 + (x15).toNat, none⟩ = some (.float .f64 f18) ∧ ∃ f21 : Nat, ∃ w21, (binOp .add 25 (.float .f64 f3) (.float .f64 f18)).run Tryd.prog wl5 = .ok (.float .f64 f21) w21 ∧ InK .i64 (x15 + 1) ∧ ∃ ml5, ml5 < nl5 ∧ I5 f21 (x15 + 1) ml5 w21)
  (R (.returned (.float .f64 f3)) wl5))
def f15_ann : Ann := { loops := [(5, [(3, .flt .f64), (15, .int .i64)])], cuts := [], flip := [], throws := [] }
theorem f15_eq (p0 : Option Addr) (l0 c0 : Nat) (w : World) (R : Ending → World → Prop) : vc Tryd.prog f15_ann (bodyOf Tryd.f15) (retQ Tryd.prog Tryd.f15 R) (envOf Tryd.f15.ntmps [.v (.slice p0 l0 c0)]) [] w = f15_vc p0 l0 c0 w R := by kernel_rfl
theorem f15_does (p0 : Option Addr) (l0 c0 : Nat) {w : World} {R : Ending → World → Prop} (h : f15_vc p0 l0 c0 w R) : Does Tryd.prog 15 #[.slice p0 l0 c0] w R :=
  does_of_vc (ss := [.v (.slice p0 l0 c0)]) f15_ann mixed call15 Tryd.func15 rfl rfl (show 1 ≤ Tryd.f15.ntmps by decide) ((f15_eq p0 l0 c0 w R).symm ▸ h)
/-- Of escritoire/escritoireref3.Sum (function 16): the condition. -/
def f16_vc (p0 : Option Addr) (l0 c0 : Nat) (w : World) (R : Ending → World → Prop) : Prop :=
  Br (((l0 : Int)) == 0)
  (R (.returned (.float .f64 0)) w)
  (((0 : Int) ≤ 0 ∧ 0 < (l0 : Int)) ∧ ∃ b9 o9, p0 = some ⟨b9, o9, none⟩ ∧ ∃ f10 : Nat, w.cell? ⟨b9, o9 + (0 : Int).toNat, none⟩ = some (.float .f64 f10) ∧ ∃ I5 : Nat → Int → Nat → World → Prop, (∃ nl5, I5 f10 1 nl5 w) ∧ ∀ f3 : Nat, ∀ x4 : Int, ∀ (nl5 : Nat) (wl5 : World), I5 f3 x4 nl5 wl5 →
  Br (decide (x4 < ((l0 : Int))))
  (((0 : Int) ≤ x4 ∧ x4 < (l0 : Int)) ∧ ∃ b20 o20, p0 = some ⟨b20, o20, none⟩ ∧ ∃ f21 : Nat, wl5.cell? ⟨b20, o20 + (x4).toNat, none⟩ = some (.float .f64 f21) ∧ ∃ f22 : Nat, ∃ w22, (binOp .add 25 (.float .f64 f3) (.float .f64 f21)).run Tryd.prog wl5 = .ok (.float .f64 f22) w22 ∧ InK .i64 (x4 + 1) ∧ ∃ ml5, ml5 < nl5 ∧ I5 f22 (x4 + 1) ml5 w22)
  (R (.returned (.float .f64 f3)) wl5))
def f16_ann : Ann := { loops := [(5, [(3, .flt .f64), (4, .int .i64)])], cuts := [], flip := [], throws := [] }
theorem f16_eq (p0 : Option Addr) (l0 c0 : Nat) (w : World) (R : Ending → World → Prop) : vc Tryd.prog f16_ann (bodyOf Tryd.f16) (retQ Tryd.prog Tryd.f16 R) (envOf Tryd.f16.ntmps [.v (.slice p0 l0 c0)]) [] w = f16_vc p0 l0 c0 w R := by kernel_rfl
theorem f16_does (p0 : Option Addr) (l0 c0 : Nat) {w : World} {R : Ending → World → Prop} (h : f16_vc p0 l0 c0 w R) : Does Tryd.prog 16 #[.slice p0 l0 c0] w R :=
  does_of_vc (ss := [.v (.slice p0 l0 c0)]) f16_ann mixed call16 Tryd.func16 rfl rfl (show 1 ≤ Tryd.f16.ntmps by decide) ((f16_eq p0 l0 c0 w R).symm ▸ h)
/-- Of escritoire/escritoireref3.Share (function 17): the condition. -/
def f17_vc (a0 : Int) (a1 : Int) (w : World) (R : Ending → World → Prop) : Prop :=
  ∃ f6 : Nat, ∃ w6, (convert 3 25 (.int .i64 a0)).run Tryd.prog w = .ok (.float .f64 f6) w6 ∧ ∃ f8 : Nat, ∃ w8, (convert 3 25 (.int .i64 a1)).run Tryd.prog w6 = .ok (.float .f64 f8) w8 ∧ ∃ f9 : Nat, ∃ w9, (binOp .quo 25 (.float .f64 f6) (.float .f64 f8)).run Tryd.prog w8 = .ok (.float .f64 f9) w9 ∧ R (.returned (.float .f64 f9)) w9
def f17_ann : Ann := { loops := [], cuts := [], flip := [], throws := [] }
theorem f17_eq (a0 : Int) (a1 : Int) (w : World) (R : Ending → World → Prop) : vc Tryd.prog f17_ann (bodyOf Tryd.f17) (retQ Tryd.prog Tryd.f17 R) (envOf Tryd.f17.ntmps [.v (.int .i64 a0), .v (.int .i64 a1)]) [] w = f17_vc a0 a1 w R := by kernel_rfl
theorem f17_does (a0 : Int) (a1 : Int) {w : World} {R : Ending → World → Prop} (h : f17_vc a0 a1 w R) : Does Tryd.prog 17 #[.int .i64 a0, .int .i64 a1] w R :=
  does_of_vc (ss := [.v (.int .i64 a0), .v (.int .i64 a1)]) f17_ann mixed call17 Tryd.func17 rfl rfl (show 2 ≤ Tryd.f17.ntmps by decide) ((f17_eq a0 a1 w R).symm ▸ h)
/-- Of escritoire/real.Show (function 18): the condition. -/
def f18_vc (a0 : Nat) (w : World) (R : Ending → World → Prop) : Prop :=
  Br ((FloatKind.f64.format.order a0 a0 != some Ordering.eq))
  (R (.returned (.string (({ data := #[110, 97, 110] } : ByteArray)))) w)
  (Does Tryd.prog 26 #[.float .f64 a0, .int .i64 1] w fun e10 w10 =>
  ∃ b10 : Bool, e10 = .returned (.bool b10) ∧ Br b10
  (R (.returned (.string (({ data := #[105, 110, 102] } : ByteArray)))) w10)
  (Does Tryd.prog 26 #[.float .f64 a0, .int .i64 (-1)] w10 fun e13 w13 =>
  ∃ b13 : Bool, e13 = .returned (.bool b13) ∧ Br b13
  (R (.returned (.string (({ data := #[45, 105, 110, 102] } : ByteArray)))) w13)
  (Does Tryd.prog 27 #[.float .f64 a0] w13 fun e15 w15 =>
  ∃ b15 : Bool, e15 = .returned (.bool b15) ∧ Br b15
  (Br ((FloatKind.f64.format.order (Op.negFloat .f64 a0) 4831355200913801216 == some Ordering.lt))
  (Does Tryd.prog 28 #[.float .f64 (Op.negFloat .f64 a0)] w15 fun e23 w23 =>
  ∃ f23 : Nat, e23 = .returned (.float .f64 f23) ∧ Br ((FloatKind.f64.format.order (Op.negFloat .f64 a0) f23 == some Ordering.eq))
  (∃ n28 : Int, ∃ w28, (convert 25 2 (.float .f64 (Op.negFloat .f64 a0))).run Tryd.prog w23 = .ok (.int .i64 n28) w28 ∧ Does Tryd.prog 29 #[.int .i64 n28, .int .i64 10] w28 fun e29 w29 =>
  ∃ s29 : ByteArray, e29 = .returned (.string s29) ∧ (((({ data := #[45] } : ByteArray)).size + s29.size : Nat) : Int) ≤ 9223372036854775807 ∧ R (.returned (.string ((({ data := #[45] } : ByteArray)) ++ s29))) w29)
  (Does Tryd.prog 30 #[.float .f64 (Op.negFloat .f64 a0)] w23 fun e33 w33 =>
  ∃ s33 : ByteArray, e33 = .returned (.string s33) ∧ (((({ data := #[45] } : ByteArray)).size + s33.size : Nat) : Int) ≤ 9223372036854775807 ∧ R (.returned (.string ((({ data := #[45] } : ByteArray)) ++ s33))) w33))
  (Does Tryd.prog 30 #[.float .f64 (Op.negFloat .f64 a0)] w15 fun e33_1 w33_1 =>
  ∃ s33_1 : ByteArray, e33_1 = .returned (.string s33_1) ∧ (((({ data := #[45] } : ByteArray)).size + s33_1.size : Nat) : Int) ≤ 9223372036854775807 ∧ R (.returned (.string ((({ data := #[45] } : ByteArray)) ++ s33_1))) w33_1))
  (Br ((FloatKind.f64.format.order a0 4831355200913801216 == some Ordering.lt))
  (Does Tryd.prog 28 #[.float .f64 a0] w15 fun e23_1 w23_1 =>
  ∃ f23_1 : Nat, e23_1 = .returned (.float .f64 f23_1) ∧ Br ((FloatKind.f64.format.order a0 f23_1 == some Ordering.eq))
  (∃ n28_1 : Int, ∃ w28_1, (convert 25 2 (.float .f64 a0)).run Tryd.prog w23_1 = .ok (.int .i64 n28_1) w28_1 ∧ Does Tryd.prog 29 #[.int .i64 n28_1, .int .i64 10] w28_1 fun e29_1 w29_1 =>
  ∃ s29_1 : ByteArray, e29_1 = .returned (.string s29_1) ∧ (((({ data := #[] } : ByteArray)).size + s29_1.size : Nat) : Int) ≤ 9223372036854775807 ∧ R (.returned (.string ((({ data := #[] } : ByteArray)) ++ s29_1))) w29_1)
  (Does Tryd.prog 30 #[.float .f64 a0] w23_1 fun e33_2 w33_2 =>
  ∃ s33_2 : ByteArray, e33_2 = .returned (.string s33_2) ∧ (((({ data := #[] } : ByteArray)).size + s33_2.size : Nat) : Int) ≤ 9223372036854775807 ∧ R (.returned (.string ((({ data := #[] } : ByteArray)) ++ s33_2))) w33_2))
  (Does Tryd.prog 30 #[.float .f64 a0] w15 fun e33_3 w33_3 =>
  ∃ s33_3 : ByteArray, e33_3 = .returned (.string s33_3) ∧ (((({ data := #[] } : ByteArray)).size + s33_3.size : Nat) : Int) ≤ 9223372036854775807 ∧ R (.returned (.string ((({ data := #[] } : ByteArray)) ++ s33_3))) w33_3)))))
def f18_ann : Ann := { loops := [], cuts := [], flip := [], throws := [] }
theorem f18_eq (a0 : Nat) (w : World) (R : Ending → World → Prop) : vc Tryd.prog f18_ann (bodyOf Tryd.f18) (retQ Tryd.prog Tryd.f18 R) (envOf Tryd.f18.ntmps [.v (.float .f64 a0)]) [] w = f18_vc a0 w R := by kernel_rfl
theorem f18_does (a0 : Nat) {w : World} {R : Ending → World → Prop} (h : f18_vc a0 w R) : Does Tryd.prog 18 #[.float .f64 a0] w R :=
  does_of_vc (ss := [.v (.float .f64 a0)]) f18_ann mixed call18 Tryd.func18 rfl rfl (show 1 ≤ Tryd.f18.ntmps by decide) ((f18_eq a0 w R).symm ▸ h)
/-- Of cmp.Compare[int] (function 19): the condition. -/
def f19_vc (a0 : Int) (a1 : Int) (w : World) (R : Ending → World → Prop) : Prop :=
  Does Tryd.prog 31 #[.int .i64 a0] w fun e8 w8 =>
  ∃ b8 : Bool, e8 = .returned (.bool b8) ∧ Does Tryd.prog 31 #[.int .i64 a1] w8 fun e10 w10 =>
  ∃ b10 : Bool, e10 = .returned (.bool b10) ∧ Br b8
  (Br b10
  (R (.returned (.int .i64 0)) w10)
  (R (.returned (.int .i64 (-1))) w10))
  (Br b10
  (R (.returned (.int .i64 1)) w10)
  (Br (decide (a0 < a1))
  (R (.returned (.int .i64 (-1))) w10)
  (Br (decide (a0 > a1))
  (R (.returned (.int .i64 1)) w10)
  (R (.returned (.int .i64 0)) w10))))
def f19_ann : Ann := { loops := [], cuts := [], flip := [], throws := [] }
theorem f19_eq (a0 : Int) (a1 : Int) (w : World) (R : Ending → World → Prop) : vc Tryd.prog f19_ann (bodyOf Tryd.f19) (retQ Tryd.prog Tryd.f19 R) (envOf Tryd.f19.ntmps [.v (.int .i64 a0), .v (.int .i64 a1)]) [] w = f19_vc a0 a1 w R := by kernel_rfl
theorem f19_does (a0 : Int) (a1 : Int) {w : World} {R : Ending → World → Prop} (h : f19_vc a0 a1 w R) : Does Tryd.prog 19 #[.int .i64 a0, .int .i64 a1] w R :=
  does_of_vc (ss := [.v (.int .i64 a0), .v (.int .i64 a1)]) f19_ann mixed call19 Tryd.func19 rfl rfl (show 2 ≤ Tryd.f19.ntmps by decide) ((f19_eq a0 a1 w R).symm ▸ h)
/-- Of escritoire/real.odd (function 20): the condition. -/
def f20_vc (a0 : Nat) (w : World) (R : Ending → World → Prop) : Prop :=
  Br ((FloatKind.f64.format.order a0 a0 != some Ordering.eq))
  (R (.returned (.int .i64 1)) w)
  (R (.returned (.int .i64 0)) w)
def f20_ann : Ann := { loops := [], cuts := [], flip := [], throws := [] }
theorem f20_eq (a0 : Nat) (w : World) (R : Ending → World → Prop) : vc Tryd.prog f20_ann (bodyOf Tryd.f20) (retQ Tryd.prog Tryd.f20 R) (envOf Tryd.f20.ntmps [.v (.float .f64 a0)]) [] w = f20_vc a0 w R := by kernel_rfl
theorem f20_does (a0 : Nat) {w : World} {R : Ending → World → Prop} (h : f20_vc a0 w R) : Does Tryd.prog 20 #[.float .f64 a0] w R :=
  does_of_vc (ss := [.v (.float .f64 a0)]) f20_ann mixed call20 Tryd.func20 rfl rfl (show 1 ≤ Tryd.f20.ntmps by decide) ((f20_eq a0 w R).symm ▸ h)
/-- Of escritoire/real.sign (function 21): the condition. -/
def f21_vc (a0 : Nat) (w : World) (R : Ending → World → Prop) : Prop :=
  Does Tryd.prog 27 #[.float .f64 a0] w fun e4 w4 =>
  ∃ b4 : Bool, e4 = .returned (.bool b4) ∧ Br b4
  (R (.returned (.int .i64 1)) w4)
  (R (.returned (.int .i64 0)) w4)
def f21_ann : Ann := { loops := [], cuts := [], flip := [], throws := [] }
theorem f21_eq (a0 : Nat) (w : World) (R : Ending → World → Prop) : vc Tryd.prog f21_ann (bodyOf Tryd.f21) (retQ Tryd.prog Tryd.f21 R) (envOf Tryd.f21.ntmps [.v (.float .f64 a0)]) [] w = f21_vc a0 w R := by kernel_rfl
theorem f21_does (a0 : Nat) {w : World} {R : Ending → World → Prop} (h : f21_vc a0 w R) : Does Tryd.prog 21 #[.float .f64 a0] w R :=
  does_of_vc (ss := [.v (.float .f64 a0)]) f21_ann mixed call21 Tryd.func21 rfl rfl (show 1 ≤ Tryd.f21.ntmps by decide) ((f21_eq a0 w R).symm ▸ h)
/-- Of cmp.Compare[float64] (function 22): the condition. -/
def f22_vc (a0 : Nat) (a1 : Nat) (w : World) (R : Ending → World → Prop) : Prop :=
  Does Tryd.prog 32 #[.float .f64 a0] w fun e8 w8 =>
  ∃ b8 : Bool, e8 = .returned (.bool b8) ∧ Does Tryd.prog 32 #[.float .f64 a1] w8 fun e10 w10 =>
  ∃ b10 : Bool, e10 = .returned (.bool b10) ∧ Br b8
  (Br b10
  (R (.returned (.int .i64 0)) w10)
  (R (.returned (.int .i64 (-1))) w10))
  (Br b10
  (R (.returned (.int .i64 1)) w10)
  (Br ((FloatKind.f64.format.order a0 a1 == some Ordering.lt))
  (R (.returned (.int .i64 (-1))) w10)
  (Br ((FloatKind.f64.format.order a0 a1 == some Ordering.gt))
  (R (.returned (.int .i64 1)) w10)
  (R (.returned (.int .i64 0)) w10))))
def f22_ann : Ann := { loops := [], cuts := [], flip := [], throws := [] }
theorem f22_eq (a0 : Nat) (a1 : Nat) (w : World) (R : Ending → World → Prop) : vc Tryd.prog f22_ann (bodyOf Tryd.f22) (retQ Tryd.prog Tryd.f22 R) (envOf Tryd.f22.ntmps [.v (.float .f64 a0), .v (.float .f64 a1)]) [] w = f22_vc a0 a1 w R := by kernel_rfl
theorem f22_does (a0 : Nat) (a1 : Nat) {w : World} {R : Ending → World → Prop} (h : f22_vc a0 a1 w R) : Does Tryd.prog 22 #[.float .f64 a0, .float .f64 a1] w R :=
  does_of_vc (ss := [.v (.float .f64 a0), .v (.float .f64 a1)]) f22_ann mixed call22 Tryd.func22 rfl rfl (show 2 ≤ Tryd.f22.ntmps by decide) ((f22_eq a0 a1 w R).symm ▸ h)
/-- Of escritoire/escritoireref3.key (function 23): the condition. -/
def f23_vc (a0 : Nat) (w : World) (R : Ending → World → Prop) : Prop :=
  Does Tryd.prog 11 #[.float .f64 a0] w fun e5 w5 =>
  ∃ n5 : Int, e5 = .returned (.int .u64 n5) ∧ Br ((FloatKind.f64.format.order a0 a0 != some Ordering.eq))
  (R (.returned (.int .u64 18446744073709551615)) w5)
  ((0 : Int) ≤ 63 ∧ Br ((n5.fdiv (2 ^ 63)) == 1)
  (R (.returned (.int .u64 (bits .xor .u64 (IntKind.max .u64) n5))) w5)
  (R (.returned (.int .u64 (bits .or .u64 n5 9223372036854775808))) w5))
def f23_ann : Ann := { loops := [], cuts := [], flip := [], throws := [] }
theorem f23_eq (a0 : Nat) (w : World) (R : Ending → World → Prop) : vc Tryd.prog f23_ann (bodyOf Tryd.f23) (retQ Tryd.prog Tryd.f23 R) (envOf Tryd.f23.ntmps [.v (.float .f64 a0)]) [] w = f23_vc a0 w R := by kernel_rfl
theorem f23_does (a0 : Nat) {w : World} {R : Ending → World → Prop} (h : f23_vc a0 w R) : Does Tryd.prog 23 #[.float .f64 a0] w R :=
  does_of_vc (ss := [.v (.float .f64 a0)]) f23_ann mixed call23 Tryd.func23 rfl rfl (show 1 ≤ Tryd.f23.ntmps by decide) ((f23_eq a0 w R).symm ▸ h)
/-- Of math.Floor (function 25): the condition. -/
def f25_vc (a0 : Nat) (w : World) (R : Ending → World → Prop) : Prop :=
  Does Tryd.prog 33 #[.float .f64 a0] w fun e4 w4 =>
  ∃ f4 : Nat, e4 = .returned (.float .f64 f4) ∧ R (.returned (.float .f64 f4)) w4
def f25_ann : Ann := { loops := [], cuts := [], flip := [], throws := [] }
theorem f25_eq (a0 : Nat) (w : World) (R : Ending → World → Prop) : vc Tryd.prog f25_ann (bodyOf Tryd.f25) (retQ Tryd.prog Tryd.f25 R) (envOf Tryd.f25.ntmps [.v (.float .f64 a0)]) [] w = f25_vc a0 w R := by kernel_rfl
theorem f25_does (a0 : Nat) {w : World} {R : Ending → World → Prop} (h : f25_vc a0 w R) : Does Tryd.prog 25 #[.float .f64 a0] w R :=
  does_of_vc (ss := [.v (.float .f64 a0)]) f25_ann mixed call25 Tryd.func25 rfl rfl (show 1 ≤ Tryd.f25.ntmps by decide) ((f25_eq a0 w R).symm ▸ h)
/-- Of math.IsInf (function 26): the condition. -/
def f26_vc (a0 : Nat) (a1 : Int) (w : World) (R : Ending → World → Prop) : Prop :=
  Br (a1 == 0)
  (Does Tryd.prog 35 #[.float .f64 a0] w fun e8 w8 =>
  ∃ f8 : Nat, e8 = .returned (.float .f64 f8) ∧ R (.returned (.bool ((FloatKind.f64.format.order f8 9218868437227405311 == some Ordering.gt)))) w8)
  (Br (decide (a1 < 0))
  (R (.returned (.bool ((FloatKind.f64.format.order (Op.negFloat .f64 a0) 9218868437227405311 == some Ordering.gt)))) w)
  (R (.returned (.bool ((FloatKind.f64.format.order a0 9218868437227405311 == some Ordering.gt)))) w))
def f26_ann : Ann := { loops := [], cuts := [], flip := [], throws := [] }
theorem f26_eq (a0 : Nat) (a1 : Int) (w : World) (R : Ending → World → Prop) : vc Tryd.prog f26_ann (bodyOf Tryd.f26) (retQ Tryd.prog Tryd.f26 R) (envOf Tryd.f26.ntmps [.v (.float .f64 a0), .v (.int .i64 a1)]) [] w = f26_vc a0 a1 w R := by kernel_rfl
theorem f26_does (a0 : Nat) (a1 : Int) {w : World} {R : Ending → World → Prop} (h : f26_vc a0 a1 w R) : Does Tryd.prog 26 #[.float .f64 a0, .int .i64 a1] w R :=
  does_of_vc (ss := [.v (.float .f64 a0), .v (.int .i64 a1)]) f26_ann mixed call26 Tryd.func26 rfl rfl (show 2 ≤ Tryd.f26.ntmps by decide) ((f26_eq a0 a1 w R).symm ▸ h)
/-- Of math.Signbit (function 27): the condition. -/
def f27_vc (a0 : Nat) (w : World) (R : Ending → World → Prop) : Prop :=
  Does Tryd.prog 24 #[.float .f64 a0] w fun e4 w4 =>
  ∃ n4 : Int, e4 = .returned (.int .u64 n4) ∧ R (.returned (.bool (decide ((IntKind.wrap .i64 (n4)) < 0)))) w4
def f27_ann : Ann := { loops := [], cuts := [], flip := [5], throws := [] }
theorem f27_eq (a0 : Nat) (w : World) (R : Ending → World → Prop) : vc Tryd.prog f27_ann (bodyOf Tryd.f27) (retQ Tryd.prog Tryd.f27 R) (envOf Tryd.f27.ntmps [.v (.float .f64 a0)]) [] w = f27_vc a0 w R := by kernel_rfl
theorem f27_does (a0 : Nat) {w : World} {R : Ending → World → Prop} (h : f27_vc a0 w R) : Does Tryd.prog 27 #[.float .f64 a0] w R :=
  does_of_vc (ss := [.v (.float .f64 a0)]) f27_ann mixed call27 Tryd.func27 rfl rfl (show 1 ≤ Tryd.f27.ntmps by decide) ((f27_eq a0 w R).symm ▸ h)
/-- Of math.Trunc (function 28): the condition. -/
def f28_vc (a0 : Nat) (w : World) (R : Ending → World → Prop) : Prop :=
  Does Tryd.prog 36 #[.float .f64 a0] w fun e4 w4 =>
  ∃ f4 : Nat, e4 = .returned (.float .f64 f4) ∧ R (.returned (.float .f64 f4)) w4
def f28_ann : Ann := { loops := [], cuts := [], flip := [], throws := [] }
theorem f28_eq (a0 : Nat) (w : World) (R : Ending → World → Prop) : vc Tryd.prog f28_ann (bodyOf Tryd.f28) (retQ Tryd.prog Tryd.f28 R) (envOf Tryd.f28.ntmps [.v (.float .f64 a0)]) [] w = f28_vc a0 w R := by kernel_rfl
theorem f28_does (a0 : Nat) {w : World} {R : Ending → World → Prop} (h : f28_vc a0 w R) : Does Tryd.prog 28 #[.float .f64 a0] w R :=
  does_of_vc (ss := [.v (.float .f64 a0)]) f28_ann mixed call28 Tryd.func28 rfl rfl (show 1 ≤ Tryd.f28.ntmps by decide) ((f28_eq a0 w R).symm ▸ h)
/-- Of cmp.isNaN[int] (function 31): the condition. -/
def f31_vc (a0 : Int) (w : World) (R : Ending → World → Prop) : Prop :=
  R (.returned (.bool (a0 != a0))) w
def f31_ann : Ann := { loops := [], cuts := [], flip := [], throws := [] }
theorem f31_eq (a0 : Int) (w : World) (R : Ending → World → Prop) : vc Tryd.prog f31_ann (bodyOf Tryd.f31) (retQ Tryd.prog Tryd.f31 R) (envOf Tryd.f31.ntmps [.v (.int .i64 a0)]) [] w = f31_vc a0 w R := by kernel_rfl
theorem f31_does (a0 : Int) {w : World} {R : Ending → World → Prop} (h : f31_vc a0 w R) : Does Tryd.prog 31 #[.int .i64 a0] w R :=
  does_of_vc (ss := [.v (.int .i64 a0)]) f31_ann mixed call31 Tryd.func31 rfl rfl (show 1 ≤ Tryd.f31.ntmps by decide) ((f31_eq a0 w R).symm ▸ h)
/-- Of cmp.isNaN[float64] (function 32): the condition. -/
def f32_vc (a0 : Nat) (w : World) (R : Ending → World → Prop) : Prop :=
  R (.returned (.bool ((FloatKind.f64.format.order a0 a0 != some Ordering.eq)))) w
def f32_ann : Ann := { loops := [], cuts := [], flip := [], throws := [] }
theorem f32_eq (a0 : Nat) (w : World) (R : Ending → World → Prop) : vc Tryd.prog f32_ann (bodyOf Tryd.f32) (retQ Tryd.prog Tryd.f32 R) (envOf Tryd.f32.ntmps [.v (.float .f64 a0)]) [] w = f32_vc a0 w R := by kernel_rfl
theorem f32_does (a0 : Nat) {w : World} {R : Ending → World → Prop} (h : f32_vc a0 w R) : Does Tryd.prog 32 #[.float .f64 a0] w R :=
  does_of_vc (ss := [.v (.float .f64 a0)]) f32_ann mixed call32 Tryd.func32 rfl rfl (show 1 ≤ Tryd.f32.ntmps by decide) ((f32_eq a0 w R).symm ▸ h)
/-- Of math.floor (function 34): the condition. -/
def f34_vc (a0 : Nat) (w : World) (R : Ending → World → Prop) : Prop :=
  Br ((FloatKind.f64.format.order a0 0 == some Ordering.eq))
  (R (.returned (.float .f64 a0)) w)
  (Does Tryd.prog 44 #[.float .f64 a0] w fun e11 w11 =>
  ∃ b11 : Bool, e11 = .returned (.bool b11) ∧ Br b11
  (R (.returned (.float .f64 a0)) w11)
  (Does Tryd.prog 26 #[.float .f64 a0, .int .i64 0] w11 fun e15 w15 =>
  ∃ b15 : Bool, e15 = .returned (.bool b15) ∧ Br b15
  (R (.returned (.float .f64 a0)) w15)
  (Br ((FloatKind.f64.format.order a0 0 == some Ordering.lt))
  (Does Tryd.prog 45 #[.float .f64 (Op.negFloat .f64 a0)] w15 fun e23 w23 =>
  ∃ f23 : Nat, ∃ f23_1 : Nat, e23 = .returned (.tuple #[.float .f64 f23, .float .f64 f23_1]) ∧ Br ((FloatKind.f64.format.order f23_1 0 != some Ordering.eq))
  (∃ f29 : Nat, ∃ w29, (binOp .add 25 (.float .f64 f23) (.float .f64 4607182418800017408)).run Tryd.prog w23 = .ok (.float .f64 f29) w29 ∧ R (.returned (.float .f64 (Op.negFloat .f64 f29))) w29)
  (R (.returned (.float .f64 (Op.negFloat .f64 f23))) w23))
  (Does Tryd.prog 45 #[.float .f64 a0] w15 fun e34 w34 =>
  ∃ f34 : Nat, ∃ f34_1 : Nat, e34 = .returned (.tuple #[.float .f64 f34, .float .f64 f34_1]) ∧ R (.returned (.float .f64 f34)) w34))))
def f34_ann : Ann := { loops := [], cuts := [], flip := [], throws := [] }
theorem f34_eq (a0 : Nat) (w : World) (R : Ending → World → Prop) : vc Tryd.prog f34_ann (bodyOf Tryd.f34) (retQ Tryd.prog Tryd.f34 R) (envOf Tryd.f34.ntmps [.v (.float .f64 a0)]) [] w = f34_vc a0 w R := by kernel_rfl
theorem f34_does (a0 : Nat) {w : World} {R : Ending → World → Prop} (h : f34_vc a0 w R) : Does Tryd.prog 34 #[.float .f64 a0] w R :=
  does_of_vc (ss := [.v (.float .f64 a0)]) f34_ann mixed call34 Tryd.func34 rfl rfl (show 1 ≤ Tryd.f34.ntmps by decide) ((f34_eq a0 w R).symm ▸ h)
/-- Of math.Abs (function 35): the condition. -/
def f35_vc (a0 : Nat) (w : World) (R : Ending → World → Prop) : Prop :=
  Does Tryd.prog 24 #[.float .f64 a0] w fun e4 w4 =>
  ∃ n4 : Int, e4 = .returned (.int .u64 n4) ∧ Does Tryd.prog 46 #[.int .u64 (bits .andNot .u64 n4 9223372036854775808)] w4 fun e6 w6 =>
  ∃ f6 : Nat, e6 = .returned (.float .f64 f6) ∧ R (.returned (.float .f64 f6)) w6
def f35_ann : Ann := { loops := [], cuts := [], flip := [], throws := [] }
theorem f35_eq (a0 : Nat) (w : World) (R : Ending → World → Prop) : vc Tryd.prog f35_ann (bodyOf Tryd.f35) (retQ Tryd.prog Tryd.f35 R) (envOf Tryd.f35.ntmps [.v (.float .f64 a0)]) [] w = f35_vc a0 w R := by kernel_rfl
theorem f35_does (a0 : Nat) {w : World} {R : Ending → World → Prop} (h : f35_vc a0 w R) : Does Tryd.prog 35 #[.float .f64 a0] w R :=
  does_of_vc (ss := [.v (.float .f64 a0)]) f35_ann mixed call35 Tryd.func35 rfl rfl (show 1 ≤ Tryd.f35.ntmps by decide) ((f35_eq a0 w R).symm ▸ h)
/-- Of math.IsNaN (function 44): the condition. -/
def f44_vc (a0 : Nat) (w : World) (R : Ending → World → Prop) : Prop :=
  R (.returned (.bool ((FloatKind.f64.format.order a0 a0 != some Ordering.eq)))) w
def f44_ann : Ann := { loops := [], cuts := [], flip := [], throws := [] }
theorem f44_eq (a0 : Nat) (w : World) (R : Ending → World → Prop) : vc Tryd.prog f44_ann (bodyOf Tryd.f44) (retQ Tryd.prog Tryd.f44 R) (envOf Tryd.f44.ntmps [.v (.float .f64 a0)]) [] w = f44_vc a0 w R := by kernel_rfl
theorem f44_does (a0 : Nat) {w : World} {R : Ending → World → Prop} (h : f44_vc a0 w R) : Does Tryd.prog 44 #[.float .f64 a0] w R :=
  does_of_vc (ss := [.v (.float .f64 a0)]) f44_ann mixed call44 Tryd.func44 rfl rfl (show 1 ≤ Tryd.f44.ntmps by decide) ((f44_eq a0 w R).symm ▸ h)
/-- Of math.Modf (function 45): the condition. -/
def f45_vc (a0 : Nat) (w : World) (R : Ending → World → Prop) : Prop :=
  Does Tryd.prog 28 #[.float .f64 a0] w fun e5 w5 =>
  ∃ f5 : Nat, e5 = .returned (.float .f64 f5) ∧ ∃ f8 : Nat, ∃ w8, (binOp .sub 25 (.float .f64 a0) (.float .f64 f5)).run Tryd.prog w5 = .ok (.float .f64 f8) w8 ∧ Does Tryd.prog 47 #[.float .f64 f8, .float .f64 a0] w8 fun e10 w10 =>
  ∃ f10 : Nat, e10 = .returned (.float .f64 f10) ∧ R (.returned (.tuple #[.float .f64 f5, .float .f64 f10])) w10
def f45_ann : Ann := { loops := [], cuts := [], flip := [], throws := [] }
theorem f45_eq (a0 : Nat) (w : World) (R : Ending → World → Prop) : vc Tryd.prog f45_ann (bodyOf Tryd.f45) (retQ Tryd.prog Tryd.f45 R) (envOf Tryd.f45.ntmps [.v (.float .f64 a0)]) [] w = f45_vc a0 w R := by kernel_rfl
theorem f45_does (a0 : Nat) {w : World} {R : Ending → World → Prop} (h : f45_vc a0 w R) : Does Tryd.prog 45 #[.float .f64 a0] w R :=
  does_of_vc (ss := [.v (.float .f64 a0)]) f45_ann mixed call45 Tryd.func45 rfl rfl (show 1 ≤ Tryd.f45.ntmps by decide) ((f45_eq a0 w R).symm ▸ h)
/-- Of math.Copysign (function 47): the condition. -/
def f47_vc (a0 : Nat) (a1 : Nat) (w : World) (R : Ending → World → Prop) : Prop :=
  Does Tryd.prog 24 #[.float .f64 a0] w fun e6 w6 =>
  ∃ n6 : Int, e6 = .returned (.int .u64 n6) ∧ Does Tryd.prog 24 #[.float .f64 a1] w6 fun e9 w9 =>
  ∃ n9 : Int, e9 = .returned (.int .u64 n9) ∧ Does Tryd.prog 46 #[.int .u64 (bits .or .u64 (bits .andNot .u64 n6 9223372036854775808) (bits .and .u64 n9 9223372036854775808))] w9 fun e12 w12 =>
  ∃ f12 : Nat, e12 = .returned (.float .f64 f12) ∧ R (.returned (.float .f64 f12)) w12
def f47_ann : Ann := { loops := [], cuts := [], flip := [], throws := [] }
theorem f47_eq (a0 : Nat) (a1 : Nat) (w : World) (R : Ending → World → Prop) : vc Tryd.prog f47_ann (bodyOf Tryd.f47) (retQ Tryd.prog Tryd.f47 R) (envOf Tryd.f47.ntmps [.v (.float .f64 a0), .v (.float .f64 a1)]) [] w = f47_vc a0 a1 w R := by kernel_rfl
theorem f47_does (a0 : Nat) (a1 : Nat) {w : World} {R : Ending → World → Prop} (h : f47_vc a0 a1 w R) : Does Tryd.prog 47 #[.float .f64 a0, .float .f64 a1] w R :=
  does_of_vc (ss := [.v (.float .f64 a0), .v (.float .f64 a1)]) f47_ann mixed call47 Tryd.func47 rfl rfl (show 2 ≤ Tryd.f47.ntmps by decide) ((f47_eq a0 a1 w R).symm ▸ h)
end Go.Proofs.YtdcibnjlbkadbaaDoor
