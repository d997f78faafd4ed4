/-
  Of each function of the code: its verification condition, and that it suffices.
-/
import Derived.Test.YtcpgapffhapclaaVcDoes
import Derived.Test.YtcpgapffhapclaaProg
set_option maxRecDepth 100000
namespace Go.Proofs.Ytcpgapffhapclaa
open Go.RowKit Go.Vc
def bodyOf (fn : Func) : Code := match fn.body with | some c => c | none => .skip
theorem mixed : Try.prog.follows .mixedOrders = true := by kernel_rfl
theorem call3 : callableB Try.prog 3 = true := by kernel_rfl
theorem call4 : callableB Try.prog 4 = true := by kernel_rfl
theorem call5 : callableB Try.prog 5 = true := by kernel_rfl
theorem call6 : callableB Try.prog 6 = true := by kernel_rfl
theorem call7 : callableB Try.prog 7 = true := by kernel_rfl
theorem call8 : callableB Try.prog 8 = true := by kernel_rfl
theorem call9 : callableB Try.prog 9 = true := by kernel_rfl
theorem call10 : callableB Try.prog 10 = true := by kernel_rfl
theorem call11 : callableB Try.prog 11 = true := by kernel_rfl
theorem call12 : callableB Try.prog 12 = true := by kernel_rfl
theorem call13 : callableB Try.prog 13 = true := by kernel_rfl
theorem call14 : callableB Try.prog 14 = true := by kernel_rfl
theorem call15 : callableB Try.prog 15 = true := by kernel_rfl
theorem call16 : callableB Try.prog 16 = true := by kernel_rfl
theorem call17 : callableB Try.prog 17 = true := by kernel_rfl
theorem call18 : callableB Try.prog 18 = true := by kernel_rfl
theorem call19 : callableB Try.prog 19 = true := by kernel_rfl
theorem call20 : callableB Try.prog 20 = true := by kernel_rfl
theorem call21 : callableB Try.prog 21 = true := by kernel_rfl
theorem call22 : callableB Try.prog 22 = true := by kernel_rfl
theorem call23 : callableB Try.prog 23 = true := by kernel_rfl
theorem call24 : callableB Try.prog 24 = true := by kernel_rfl
theorem call25 : callableB Try.prog 25 = true := by kernel_rfl
theorem call26 : callableB Try.prog 26 = true := by kernel_rfl
theorem call27 : callableB Try.prog 27 = true := by kernel_rfl
/-- Of escritoire/escritoirelaw17.KmpFails (function 3): the condition. -/
def f3_vc (p0 : Option Addr) (l0 c0 : Nat) (w : World) (R : Ending → World → Prop) : Prop :=
  Does Try.prog 8 #[] w fun e3 w3 =>
  ∃ b3 : Bool, e3 = .returned (.bool b3) ∧ Br (!b3)
  (R (.returned (.bool false)) w3)
  (Br (decide (((l0 : Int)) > 150))
  (R (.returned (.bool true)) w3)
  (Does Try.prog 10 #[.slice p0 l0 c0] w3 fun e9 w9 =>
  ∃ (p9 : Option Addr) (l9 c9 : Nat), e9 = .returned (.slice p9 l9 c9) ∧ Does Try.prog 11 #[.slice p0 l0 c0] w9 fun e11 w11 =>
  ∃ (p11 : Option Addr) (l11 c11 : Nat), e11 = .returned (.slice p11 l11 c11) ∧ Does Try.prog 9 #[.slice p9 l9 c9, .slice p11 l11 c11] w11 fun e12 w12 =>
  ∃ b12 : Bool, e12 = .returned (.bool b12) ∧ R (.returned (.bool b12)) w12))
def f3_ann : Ann := { loops := [], cuts := [], flip := [], throws := [] }
theorem f3_eq (p0 : Option Addr) (l0 c0 : Nat) (w : World) (R : Ending → World → Prop) : vc Try.prog f3_ann (bodyOf Try.f3) (retQ Try.prog Try.f3 R) (envOf Try.f3.ntmps [.v (.slice p0 l0 c0)]) w = f3_vc p0 l0 c0 w R := by kernel_rfl
theorem f3_does (p0 : Option Addr) (l0 c0 : Nat) {w : World} {R : Ending → World → Prop} (h : f3_vc p0 l0 c0 w R) : Does Try.prog 3 #[.slice p0 l0 c0] w R :=
  does_of_vc (ss := [.v (.slice p0 l0 c0)]) f3_ann mixed call3 Try.func3 rfl rfl (show 1 ≤ Try.f3.ntmps by decide) ((f3_eq p0 l0 c0 w R).symm ▸ h)
/-- Of escritoire/escritoirelaw17.KmpFinds (function 4): the condition. -/
def f4_vc (p0 : Option Addr) (l0 c0 : Nat) (p1 : Option Addr) (l1 c1 : Nat) (a2 : Int) (w : World) (R : Ending → World → Prop) : Prop :=
  Does Try.prog 8 #[] w fun e7 w7 =>
  ∃ b7 : Bool, e7 = .returned (.bool b7) ∧ Br (!b7)
  (R (.returned (.bool false)) w7)
  (Br (decide (((l0 : Int)) > 300))
  (R (.returned (.bool true)) w7)
  (Br (decide (((l1 : Int)) > 2000))
  (R (.returned (.bool true)) w7)
  (Does Try.prog 12 #[.slice p1 l1 c1, .slice p0 l0 c0, .int .i64 a2] w7 fun e20 w20 =>
  ∃ n20 : Int, e20 = .returned (.int .i64 n20) ∧ Does Try.prog 13 #[.slice p1 l1 c1, .slice p0 l0 c0, .int .i64 a2] w20 fun e24 w24 =>
  ∃ n24 : Int, e24 = .returned (.int .i64 n24) ∧ Br (n20 == n24)
  (Does Try.prog 14 #[.slice p1 l1 c1, .slice p0 l0 c0, .int .i64 a2] w24 fun e30 w30 =>
  ∃ n30 : Int, e30 = .returned (.int .i64 n30) ∧ Does Try.prog 15 #[.slice p1 l1 c1, .slice p0 l0 c0, .int .i64 a2] w30 fun e34 w34 =>
  ∃ n34 : Int, e34 = .returned (.int .i64 n34) ∧ R (.returned (.bool (n30 == n34))) w34)
  (R (.returned (.bool false)) w24))))
def f4_ann : Ann := { loops := [], cuts := [], flip := [], throws := [] }
theorem f4_eq (p0 : Option Addr) (l0 c0 : Nat) (p1 : Option Addr) (l1 c1 : Nat) (a2 : Int) (w : World) (R : Ending → World → Prop) : vc Try.prog f4_ann (bodyOf Try.f4) (retQ Try.prog Try.f4 R) (envOf Try.f4.ntmps [.v (.slice p0 l0 c0), .v (.slice p1 l1 c1), .v (.int .i64 a2)]) w = f4_vc p0 l0 c0 p1 l1 c1 a2 w R := by kernel_rfl
theorem f4_does (p0 : Option Addr) (l0 c0 : Nat) (p1 : Option Addr) (l1 c1 : Nat) (a2 : Int) {w : World} {R : Ending → World → Prop} (h : f4_vc p0 l0 c0 p1 l1 c1 a2 w R) : Does Try.prog 4 #[.slice p0 l0 c0, .slice p1 l1 c1, .int .i64 a2] w R :=
  does_of_vc (ss := [.v (.slice p0 l0 c0), .v (.slice p1 l1 c1), .v (.int .i64 a2)]) f4_ann mixed call4 Try.func4 rfl rfl (show 3 ≤ Try.f4.ntmps by decide) ((f4_eq p0 l0 c0 p1 l1 c1 a2 w R).symm ▸ h)
/-- Of escritoire/escritoirelaw17.KmpBetween (function 5): the condition. -/
def f5_vc (p0 : Option Addr) (l0 c0 : Nat) (p1 : Option Addr) (l1 c1 : Nat) (w : World) (R : Ending → World → Prop) : Prop :=
  Does Try.prog 8 #[] w fun e11 w11 =>
  ∃ b11 : Bool, e11 = .returned (.bool b11) ∧ Br (!b11)
  (R (.returned (.bool false)) w11)
  (Br (((l0 : Int)) == 0)
  (R (.returned (.bool true)) w11)
  (Br (decide (((l0 : Int)) > 100))
  (R (.returned (.bool true)) w11)
  (Br (decide (((l1 : Int)) > 1000))
  (R (.returned (.bool true)) w11)
  (Does Try.prog 16 #[.slice p0 l0 c0] w11 fun e28 w28 =>
  ∃ p28 : Option Addr, ∃ n28 : Int, e28 = .returned (.tuple #[.pointer p28, .int .i64 n28]) ∧ Br (n28 != 0)
  (R (.returned (.bool false)) w28)
  (Br p28.isNone
  (R (.returned (.bool false)) w28)
  (Does Try.prog 17 #[.pointer p28, .slice p1 l1 c1] w28 fun e39 w39 =>
  ∃ (p39 : Option Addr) (l39 c39 : Nat), e39 = .returned (.slice p39 l39 c39) ∧ Does Try.prog 12 #[.slice p1 l1 c1, .slice p0 l0 c0, .int .i64 0] w39 fun e42 w42 =>
  ∃ n42 : Int, e42 = .returned (.int .i64 n42) ∧ ∃ I11 : Int → Int → Nat → World → Prop, (∃ nl11, I11 0 n42 nl11 w42) ∧ ∀ x8 : Int, ∀ x9 : Int, ∀ (nl11 : Nat) (wl11 : World), I11 x8 x9 nl11 wl11 →
  Br (decide (x9 ≥ 0))
  (Br (decide (x8 ≥ ((l39 : Int))))
  (R (.returned (.bool false)) wl11)
  (((0 : Int) ≤ x8 ∧ x8 < (l39 : Int)) ∧ ∃ b57 o57, p39 = some ⟨b57, o57, none⟩ ∧ ∃ n58 : Int, wl11.cell? ⟨b57, o57 + (x8).toNat, none⟩ = some (.int .i64 n58) ∧ InK .i64 (x9 + ((l0 : Int))) ∧ Br (n58 != (x9 + ((l0 : Int))))
  (R (.returned (.bool false)) wl11)
  (InK .i64 (x8 + 1) ∧ InK .i64 (x9 + 1) ∧ Does Try.prog 12 #[.slice p1 l1 c1, .slice p0 l0 c0, .int .i64 (x9 + 1)] wl11 fun e49 w49 =>
  ∃ n49 : Int, e49 = .returned (.int .i64 n49) ∧ ∃ ml11, ml11 < nl11 ∧ I11 (x8 + 1) n49 ml11 w49)))
  (Br (x8 != ((l39 : Int)))
  (R (.returned (.bool false)) wl11)
  (Does Try.prog 14 #[.slice p1 l1 c1, .slice p0 l0 c0, .int .i64 ((l1 : Int))] wl11 fun e75 w75 =>
  ∃ n75 : Int, e75 = .returned (.int .i64 n75) ∧ ∃ I19 : Int → Int → Nat → World → Prop, (∃ nl19, I19 x8 n75 nl19 w75) ∧ ∀ x8_1 : Int, ∀ x10 : Int, ∀ (nl19 : Nat) (wl19 : World), I19 x8_1 x10 nl19 wl19 →
  Br (decide (x10 ≥ 0))
  (InK .i64 (x8_1 - 1) ∧ Br (decide ((x8_1 - 1) < 0))
  (R (.returned (.bool false)) wl19)
  (((0 : Int) ≤ (x8_1 - 1) ∧ (x8_1 - 1) < (l39 : Int)) ∧ ∃ b89 o89, p39 = some ⟨b89, o89, none⟩ ∧ ∃ n90 : Int, wl19.cell? ⟨b89, o89 + (x8_1 - 1).toNat, none⟩ = some (.int .i64 n90) ∧ InK .i64 (x10 + ((l0 : Int))) ∧ Br (n90 != (x10 + ((l0 : Int))))
  (R (.returned (.bool false)) wl19)
  (Does Try.prog 14 #[.slice p1 l1 c1, .slice p0 l0 c0, .int .i64 x10] wl19 fun e81 w81 =>
  ∃ n81 : Int, e81 = .returned (.int .i64 n81) ∧ ∃ ml19, ml19 < nl19 ∧ I19 (x8_1 - 1) n81 ml19 w81)))
  (R (.returned (.bool (x8_1 == 0))) wl19)))))))))
def f5_ann : Ann := { loops := [(11, [(8, .int .i64), (9, .int .i64)]), (19, [(8, .int .i64), (10, .int .i64)])], cuts := [], flip := [], throws := [] }
theorem f5_eq (p0 : Option Addr) (l0 c0 : Nat) (p1 : Option Addr) (l1 c1 : Nat) (w : World) (R : Ending → World → Prop) : vc Try.prog f5_ann (bodyOf Try.f5) (retQ Try.prog Try.f5 R) (envOf Try.f5.ntmps [.v (.slice p0 l0 c0), .v (.slice p1 l1 c1)]) w = f5_vc p0 l0 c0 p1 l1 c1 w R := by kernel_rfl
theorem f5_does (p0 : Option Addr) (l0 c0 : Nat) (p1 : Option Addr) (l1 c1 : Nat) {w : World} {R : Ending → World → Prop} (h : f5_vc p0 l0 c0 p1 l1 c1 w R) : Does Try.prog 5 #[.slice p0 l0 c0, .slice p1 l1 c1] w R :=
  does_of_vc (ss := [.v (.slice p0 l0 c0), .v (.slice p1 l1 c1)]) f5_ann mixed call5 Try.func5 rfl rfl (show 2 ≤ Try.f5.ntmps by decide) ((f5_eq p0 l0 c0 p1 l1 c1 w R).symm ▸ h)
/-- Of escritoire/escritoirelaw17.KmpFeeds (function 6): the condition. -/
def f6_vc (p0 : Option Addr) (l0 c0 : Nat) (p1 : Option Addr) (l1 c1 : Nat) (p2 : Option Addr) (l2 c2 : Nat) (w : World) (R : Ending → World → Prop) : Prop :=
  Does Try.prog 8 #[] w fun e13 w13 =>
  ∃ b13 : Bool, e13 = .returned (.bool b13) ∧ Br (!b13)
  (R (.returned (.bool false)) w13)
  (Br (decide (((l0 : Int)) > 300))
  (R (.returned (.bool true)) w13)
  (Br (decide (((l1 : Int)) > 2000))
  (R (.returned (.bool true)) w13)
  (Br (decide (((l2 : Int)) > 300))
  (R (.returned (.bool true)) w13)
  (Does Try.prog 16 #[.slice p0 l0 c0] w13 fun e30 w30 =>
  ∃ p30 : Option Addr, ∃ n30 : Int, e30 = .returned (.tuple #[.pointer p30, .int .i64 n30]) ∧ Br (((l0 : Int)) == 0)
  (Br (n30 == 1)
  (R (.returned (.bool p30.isNone)) w30)
  (R (.returned (.bool false)) w30))
  (Br (n30 != 0)
  (R (.returned (.bool false)) w30)
  (Br p30.isNone
  (R (.returned (.bool false)) w30)
  (∃ I12 : Int → Int → Nat → World → Prop, (∃ nl12, I12 0 0 nl12 w30) ∧ ∀ x9 : Int, ∀ x10 : Int, ∀ (nl12 : Nat) (wl12 : World), I12 x9 x10 nl12 wl12 →
  Br (decide (x10 ≤ ((l2 : Int))))
  (InK .i64 (((l1 : Int)) - x9) ∧ Br (decide (x10 < ((l2 : Int))))
  (((0 : Int) ≤ x10 ∧ x10 < (l2 : Int)) ∧ ∃ b64 o64, p2 = some ⟨b64, o64, none⟩ ∧ ∃ n65 : Int, wl12.cell? ⟨b64, o64 + (x10).toNat, none⟩ = some (.int .u8 n65) ∧ InK .i64 (n65) ∧ (7 : Int) ≠ 0 ∧ InK .i64 (x9 + (if ((l1 : Int)) - x9 < n65.tmod 7 then ((l1 : Int)) - x9 else n65.tmod 7)) ∧ ((0 : Int) ≤ (x9 + (if ((l1 : Int)) - x9 < n65.tmod 7 then ((l1 : Int)) - x9 else n65.tmod 7)) ∧ (x9 + (if ((l1 : Int)) - x9 < n65.tmod 7 then ((l1 : Int)) - x9 else n65.tmod 7)) ≤ (c1 : Int)) ∧ ((0 : Int) ≤ x9 ∧ x9 ≤ (x9 + (if ((l1 : Int)) - x9 < n65.tmod 7 then ((l1 : Int)) - x9 else n65.tmod 7))) ∧ Does Try.prog 17 #[.pointer p30, .slice (subp p1 ((x9).toNat) c1 1) (((x9 + (if ((l1 : Int)) - x9 < n65.tmod 7 then ((l1 : Int)) - x9 else n65.tmod 7)).toNat) - ((x9).toNat)) (c1 - ((x9).toNat))] wl12 fun e77 w77 =>
  ∃ (p77 : Option Addr) (l77 c77 : Nat), e77 = .returned (.slice p77 l77 c77) ∧ InK .i64 (x9 + (if ((l1 : Int)) - x9 < n65.tmod 7 then ((l1 : Int)) - x9 else n65.tmod 7)) ∧ ((0 : Int) ≤ (x9 + (if ((l1 : Int)) - x9 < n65.tmod 7 then ((l1 : Int)) - x9 else n65.tmod 7)) ∧ (x9 + (if ((l1 : Int)) - x9 < n65.tmod 7 then ((l1 : Int)) - x9 else n65.tmod 7)) ≤ (c1 : Int)) ∧ Does Try.prog 18 #[.slice (subp p1 0 c1 1) (((x9 + (if ((l1 : Int)) - x9 < n65.tmod 7 then ((l1 : Int)) - x9 else n65.tmod 7)).toNat) - 0) (c1 - 0), .slice p0 l0 c0, .int .i64 x9] w77 fun e86 w86 =>
  ∃ (p86 : Option Addr) (l86 c86 : Nat), e86 = .returned (.slice p86 l86 c86) ∧ Does Try.prog 9 #[.slice p77 l77 c77, .slice p86 l86 c86] w86 fun e87 w87 =>
  ∃ b87 : Bool, e87 = .returned (.bool b87) ∧ Br (!b87)
  (R (.returned (.bool false)) w87)
  (Does Try.prog 19 #[.pointer p30] w87 fun e91 w91 =>
  ∃ n91 : Int, e91 = .returned (.int .i64 n91) ∧ InK .i64 (x9 + (if ((l1 : Int)) - x9 < n65.tmod 7 then ((l1 : Int)) - x9 else n65.tmod 7)) ∧ Br (n91 != (x9 + (if ((l1 : Int)) - x9 < n65.tmod 7 then ((l1 : Int)) - x9 else n65.tmod 7)))
  (R (.returned (.bool false)) w91)
  (InK .i64 (x9 + (if ((l1 : Int)) - x9 < n65.tmod 7 then ((l1 : Int)) - x9 else n65.tmod 7)) ∧ InK .i64 (x10 + 1) ∧ ∃ ml12, ml12 < nl12 ∧ I12 (x9 + (if ((l1 : Int)) - x9 < n65.tmod 7 then ((l1 : Int)) - x9 else n65.tmod 7)) (x10 + 1) ml12 w91)))
  (InK .i64 (x9 + (((l1 : Int)) - x9)) ∧ ((0 : Int) ≤ (x9 + (((l1 : Int)) - x9)) ∧ (x9 + (((l1 : Int)) - x9)) ≤ (c1 : Int)) ∧ ((0 : Int) ≤ x9 ∧ x9 ≤ (x9 + (((l1 : Int)) - x9))) ∧ Does Try.prog 17 #[.pointer p30, .slice (subp p1 ((x9).toNat) c1 1) (((x9 + (((l1 : Int)) - x9)).toNat) - ((x9).toNat)) (c1 - ((x9).toNat))] wl12 fun e77_1 w77_1 =>
  ∃ (p77_1 : Option Addr) (l77_1 c77_1 : Nat), e77_1 = .returned (.slice p77_1 l77_1 c77_1) ∧ InK .i64 (x9 + (((l1 : Int)) - x9)) ∧ ((0 : Int) ≤ (x9 + (((l1 : Int)) - x9)) ∧ (x9 + (((l1 : Int)) - x9)) ≤ (c1 : Int)) ∧ Does Try.prog 18 #[.slice (subp p1 0 c1 1) (((x9 + (((l1 : Int)) - x9)).toNat) - 0) (c1 - 0), .slice p0 l0 c0, .int .i64 x9] w77_1 fun e86_1 w86_1 =>
  ∃ (p86_1 : Option Addr) (l86_1 c86_1 : Nat), e86_1 = .returned (.slice p86_1 l86_1 c86_1) ∧ Does Try.prog 9 #[.slice p77_1 l77_1 c77_1, .slice p86_1 l86_1 c86_1] w86_1 fun e87_1 w87_1 =>
  ∃ b87_1 : Bool, e87_1 = .returned (.bool b87_1) ∧ Br (!b87_1)
  (R (.returned (.bool false)) w87_1)
  (Does Try.prog 19 #[.pointer p30] w87_1 fun e91_1 w91_1 =>
  ∃ n91_1 : Int, e91_1 = .returned (.int .i64 n91_1) ∧ InK .i64 (x9 + (((l1 : Int)) - x9)) ∧ Br (n91_1 != (x9 + (((l1 : Int)) - x9)))
  (R (.returned (.bool false)) w91_1)
  (InK .i64 (x9 + (((l1 : Int)) - x9)) ∧ InK .i64 (x10 + 1) ∧ ∃ ml12, ml12 < nl12 ∧ I12 (x9 + (((l1 : Int)) - x9)) (x10 + 1) ml12 w91_1))))
  (Does Try.prog 20 #[.pointer p30] wl12 fun e101 w101 =>
  e101 = .returned (.tuple #[]) ∧ Does Try.prog 19 #[.pointer p30] w101 fun e103 w103 =>
  ∃ n103 : Int, e103 = .returned (.int .i64 n103) ∧ Br (n103 == 0)
  (Does Try.prog 17 #[.pointer p30, .slice p1 l1 c1] w103 fun e108 w108 =>
  ∃ (p108 : Option Addr) (l108 c108 : Nat), e108 = .returned (.slice p108 l108 c108) ∧ Does Try.prog 18 #[.slice p1 l1 c1, .slice p0 l0 c0, .int .i64 0] w108 fun e111 w111 =>
  ∃ (p111 : Option Addr) (l111 c111 : Nat), e111 = .returned (.slice p111 l111 c111) ∧ Does Try.prog 9 #[.slice p108 l108 c108, .slice p111 l111 c111] w111 fun e112 w112 =>
  ∃ b112 : Bool, e112 = .returned (.bool b112) ∧ R (.returned (.bool b112)) w112)
  (R (.returned (.bool false)) w103)))))))))
def f6_ann : Ann := { loops := [(12, [(9, .int .i64), (10, .int .i64)])], cuts := [], flip := [], throws := [] }
theorem f6_eq (p0 : Option Addr) (l0 c0 : Nat) (p1 : Option Addr) (l1 c1 : Nat) (p2 : Option Addr) (l2 c2 : Nat) (w : World) (R : Ending → World → Prop) : vc Try.prog f6_ann (bodyOf Try.f6) (retQ Try.prog Try.f6 R) (envOf Try.f6.ntmps [.v (.slice p0 l0 c0), .v (.slice p1 l1 c1), .v (.slice p2 l2 c2)]) w = f6_vc p0 l0 c0 p1 l1 c1 p2 l2 c2 w R := by kernel_rfl
theorem f6_does (p0 : Option Addr) (l0 c0 : Nat) (p1 : Option Addr) (l1 c1 : Nat) (p2 : Option Addr) (l2 c2 : Nat) {w : World} {R : Ending → World → Prop} (h : f6_vc p0 l0 c0 p1 l1 c1 p2 l2 c2 w R) : Does Try.prog 6 #[.slice p0 l0 c0, .slice p1 l1 c1, .slice p2 l2 c2] w R :=
  does_of_vc (ss := [.v (.slice p0 l0 c0), .v (.slice p1 l1 c1), .v (.slice p2 l2 c2)]) f6_ann mixed call6 Try.func6 rfl rfl (show 3 ≤ Try.f6.ntmps by decide) ((f6_eq p0 l0 c0 p1 l1 c1 p2 l2 c2 w R).symm ▸ h)
/-- Of escritoire/escritoirelaw17.KmpKnown (function 7): the condition. -/
def f7_vc  (w : World) (R : Ending → World → Prop) : Prop :=
  Does Try.prog 8 #[] w fun e6 w6 =>
  ∃ b6 : Bool, e6 = .returned (.bool b6) ∧ Br (!b6)
  (R (.returned (.bool false)) w6)
  (∀ b9 w9, NewBlk w6 b9 [.int .u8 97, .int .u8 97] 5 w9 →
  ∃ (p10 : Option Addr) (l10 c10 : Nat), ∃ w10, (convert 22 22 (.slice (some ⟨b9, 0, none⟩) 2 2)).run Try.prog w9 = .ok (.slice p10 l10 c10) w10 ∧ Does Try.prog 16 #[.slice p10 l10 c10] w10 fun e11 w11 =>
  ∃ p11 : Option Addr, ∃ n11 : Int, e11 = .returned (.tuple #[.pointer p11, .int .i64 n11]) ∧ Does Try.prog 16 #[.slice none 0 0] w11 fun e15 w15 =>
  ∃ p15 : Option Addr, ∃ n15 : Int, e15 = .returned (.tuple #[.pointer p15, .int .i64 n15]) ∧ Br p11.isNone
  (R (.returned (.bool false)) w15)
  (∀ b21 w21, NewBlk w15 b21 [.int .u8 97, .int .u8 97] 5 w21 →
  ∃ (p22 : Option Addr) (l22 c22 : Nat), ∃ w22, (convert 22 22 (.slice (some ⟨b21, 0, none⟩) 2 2)).run Try.prog w21 = .ok (.slice p22 l22 c22) w22 ∧ Does Try.prog 17 #[.pointer p11, .slice p22 l22 c22] w22 fun e23 w23 =>
  ∃ (p23 : Option Addr) (l23 c23 : Nat), e23 = .returned (.slice p23 l23 c23) ∧ ∀ b25 w25, NewBlk w23 b25 [.int .u8 97] 5 w25 →
  ∃ (p26 : Option Addr) (l26 c26 : Nat), ∃ w26, (convert 22 22 (.slice (some ⟨b25, 0, none⟩) 1 1)).run Try.prog w25 = .ok (.slice p26 l26 c26) w26 ∧ Does Try.prog 17 #[.pointer p11, .slice p26 l26 c26] w26 fun e27 w27 =>
  ∃ (p27 : Option Addr) (l27 c27 : Nat), e27 = .returned (.slice p27 l27 c27) ∧ Br (((l27 : Int)) == 1)
  (((0 : Int) ≤ 0 ∧ 0 < (l27 : Int)) ∧ ∃ b33 o33, p27 = some ⟨b33, o33, none⟩ ∧ ∃ n34 : Int, w27.cell? ⟨b33, o33 + (0 : Int).toNat, none⟩ = some (.int .i64 n34) ∧ Br (n34 == 3)
  (Does Try.prog 19 #[.pointer p11] w27 fun e39 w39 =>
  ∃ n39 : Int, e39 = .returned (.int .i64 n39) ∧ Br (n39 == 3)
  (∀ b43 w43, NewBlk w39 b43 [.int .u8 97, .int .u8 98, .int .u8 97, .int .u8 98] 5 w43 →
  ∃ (p44 : Option Addr) (l44 c44 : Nat), ∃ w44, (convert 22 22 (.slice (some ⟨b43, 0, none⟩) 4 4)).run Try.prog w43 = .ok (.slice p44 l44 c44) w44 ∧ Does Try.prog 10 #[.slice p44 l44 c44] w44 fun e45 w45 =>
  ∃ (p45 : Option Addr) (l45 c45 : Nat), e45 = .returned (.slice p45 l45 c45) ∧ ∀ b46 w46, NewBlk w45 b46 [.int .i64 0, .int .i64 0, .int .i64 1, .int .i64 2] 3 w46 →
  Does Try.prog 9 #[.slice p45 l45 c45, .slice (some ⟨b46, 0, none⟩) 4 4] w46 fun e47 w47 =>
  ∃ b47 : Bool, e47 = .returned (.bool b47) ∧ Br b47
  (∀ b50 w50, NewBlk w47 b50 [.int .u8 97, .int .u8 97, .int .u8 97] 5 w50 →
  ∃ (p51 : Option Addr) (l51 c51 : Nat), ∃ w51, (convert 22 22 (.slice (some ⟨b50, 0, none⟩) 3 3)).run Try.prog w50 = .ok (.slice p51 l51 c51) w51 ∧ ∀ b52 w52, NewBlk w51 b52 [.int .u8 97, .int .u8 97] 5 w52 →
  ∃ (p53 : Option Addr) (l53 c53 : Nat), ∃ w53, (convert 22 22 (.slice (some ⟨b52, 0, none⟩) 2 2)).run Try.prog w52 = .ok (.slice p53 l53 c53) w53 ∧ Does Try.prog 14 #[.slice p51 l51 c51, .slice p53 l53 c53, .int .i64 1] w53 fun e54 w54 =>
  ∃ n54 : Int, e54 = .returned (.int .i64 n54) ∧ Br (n54 == 0)
  (Does Try.prog 12 #[.slice none 0 0, .slice none 0 0, .int .i64 0] w54 fun e58 w58 =>
  ∃ n58 : Int, e58 = .returned (.int .i64 n58) ∧ Br (n58 == (-1))
  (R (.returned (.bool (n15 == 1))) w58)
  (R (.returned (.bool false)) w58))
  (R (.returned (.bool false)) w54))
  (R (.returned (.bool false)) w47))
  (R (.returned (.bool false)) w39))
  (R (.returned (.bool false)) w27))
  (R (.returned (.bool false)) w27)))
def f7_ann : Ann := { loops := [], cuts := [], flip := [], throws := [] }
theorem f7_eq  (w : World) (R : Ending → World → Prop) : vc Try.prog f7_ann (bodyOf Try.f7) (retQ Try.prog Try.f7 R) (envOf Try.f7.ntmps []) w = f7_vc  w R := by kernel_rfl
theorem f7_does  {w : World} {R : Ending → World → Prop} (h : f7_vc  w R) : Does Try.prog 7 #[] w R :=
  does_of_vc (ss := []) f7_ann mixed call7 Try.func7 rfl rfl (show 0 ≤ Try.f7.ntmps by decide) ((f7_eq  w R).symm ▸ h)
/-- Of escritoire/escritoirelaw17.awake (function 8): the condition. -/
def f8_vc  (w : World) (R : Ending → World → Prop) : Prop :=
  ∀ b5 w5, NewBlk w b5 [.int .u8 97, .int .u8 97] 5 w5 →
  ∃ (p6 : Option Addr) (l6 c6 : Nat), ∃ w6, (convert 22 22 (.slice (some ⟨b5, 0, none⟩) 2 2)).run Try.prog w5 = .ok (.slice p6 l6 c6) w6 ∧ Does Try.prog 16 #[.slice p6 l6 c6] w6 fun e7 w7 =>
  ∃ p7 : Option Addr, ∃ n7 : Int, e7 = .returned (.tuple #[.pointer p7, .int .i64 n7]) ∧ Br (n7 != 0)
  (R (.returned (.bool false)) w7)
  (Br p7.isNone
  (R (.returned (.bool false)) w7)
  (∀ b17 w17, NewBlk w7 b17 [.int .u8 97, .int .u8 97] 5 w17 →
  ∃ (p18 : Option Addr) (l18 c18 : Nat), ∃ w18, (convert 22 22 (.slice (some ⟨b17, 0, none⟩) 2 2)).run Try.prog w17 = .ok (.slice p18 l18 c18) w18 ∧ Does Try.prog 17 #[.pointer p7, .slice p18 l18 c18] w18 fun e19 w19 =>
  ∃ (p19 : Option Addr) (l19 c19 : Nat), e19 = .returned (.slice p19 l19 c19) ∧ Br (((l19 : Int)) == 1)
  (((0 : Int) ≤ 0 ∧ 0 < (l19 : Int)) ∧ ∃ b25 o25, p19 = some ⟨b25, o25, none⟩ ∧ ∃ n26 : Int, w19.cell? ⟨b25, o25 + (0 : Int).toNat, none⟩ = some (.int .i64 n26) ∧ Br (n26 == 2)
  (∀ b30 w30, NewBlk w19 b30 [.int .u8 97, .int .u8 97, .int .u8 97] 5 w30 →
  ∃ (p31 : Option Addr) (l31 c31 : Nat), ∃ w31, (convert 22 22 (.slice (some ⟨b30, 0, none⟩) 3 3)).run Try.prog w30 = .ok (.slice p31 l31 c31) w31 ∧ ∀ b32 w32, NewBlk w31 b32 [.int .u8 97, .int .u8 97] 5 w32 →
  ∃ (p33 : Option Addr) (l33 c33 : Nat), ∃ w33, (convert 22 22 (.slice (some ⟨b32, 0, none⟩) 2 2)).run Try.prog w32 = .ok (.slice p33 l33 c33) w33 ∧ Does Try.prog 12 #[.slice p31 l31 c31, .slice p33 l33 c33, .int .i64 1] w33 fun e34 w34 =>
  ∃ n34 : Int, e34 = .returned (.int .i64 n34) ∧ R (.returned (.bool (n34 == 1))) w34)
  (R (.returned (.bool false)) w19))
  (R (.returned (.bool false)) w19)))
def f8_ann : Ann := { loops := [], cuts := [], flip := [], throws := [] }
theorem f8_eq  (w : World) (R : Ending → World → Prop) : vc Try.prog f8_ann (bodyOf Try.f8) (retQ Try.prog Try.f8 R) (envOf Try.f8.ntmps []) w = f8_vc  w R := by kernel_rfl
theorem f8_does  {w : World} {R : Ending → World → Prop} (h : f8_vc  w R) : Does Try.prog 8 #[] w R :=
  does_of_vc (ss := []) f8_ann mixed call8 Try.func8 rfl rfl (show 0 ≤ Try.f8.ntmps by decide) ((f8_eq  w R).symm ▸ h)
/-- Of escritoire/escritoirelaw17.ints (function 9): the condition. -/
def f9_vc (p0 : Option Addr) (l0 c0 : Nat) (p1 : Option Addr) (l1 c1 : Nat) (w : World) (R : Ending → World → Prop) : Prop :=
  Br (((l0 : Int)) != ((l1 : Int)))
  (R (.returned (.bool false)) w)
  (∃ I4 : Int → Nat → World → Prop, (∃ nl4, I4 0 nl4 w) ∧ ∀ x5 : Int, ∀ (nl4 : Nat) (wl4 : World), I4 x5 nl4 wl4 →
  Br (decide (x5 < ((l0 : Int))))
  (∀ wd6, Drew wl4 wd6 →
  ((0 : Int) ≤ x5 ∧ x5 < (l0 : Int)) ∧ ∃ b19 o19, p0 = some ⟨b19, o19, none⟩ ∧ ∃ n20 : Int, wd6.cell? ⟨b19, o19 + (x5).toNat, none⟩ = some (.int .i64 n20) ∧ ((0 : Int) ≤ x5 ∧ x5 < (l1 : Int)) ∧ ∃ b23 o23, p1 = some ⟨b23, o23, none⟩ ∧ ∃ n24 : Int, wd6.cell? ⟨b23, o23 + (x5).toNat, none⟩ = some (.int .i64 n24) ∧ Br (n20 != n24)
  (R (.returned (.bool false)) wd6)
  (InK .i64 (x5 + 1) ∧ ∃ ml4, ml4 < nl4 ∧ I4 (x5 + 1) ml4 wd6))
  (R (.returned (.bool true)) wl4))
def f9_ann : Ann := { loops := [(4, [(5, .int .i64)])], cuts := [], flip := [], throws := [] }
theorem f9_eq (p0 : Option Addr) (l0 c0 : Nat) (p1 : Option Addr) (l1 c1 : Nat) (w : World) (R : Ending → World → Prop) : vc Try.prog f9_ann (bodyOf Try.f9) (retQ Try.prog Try.f9 R) (envOf Try.f9.ntmps [.v (.slice p0 l0 c0), .v (.slice p1 l1 c1)]) w = f9_vc p0 l0 c0 p1 l1 c1 w R := by kernel_rfl
theorem f9_does (p0 : Option Addr) (l0 c0 : Nat) (p1 : Option Addr) (l1 c1 : Nat) {w : World} {R : Ending → World → Prop} (h : f9_vc p0 l0 c0 p1 l1 c1 w R) : Does Try.prog 9 #[.slice p0 l0 c0, .slice p1 l1 c1] w R :=
  does_of_vc (ss := [.v (.slice p0 l0 c0), .v (.slice p1 l1 c1)]) f9_ann mixed call9 Try.func9 rfl rfl (show 2 ≤ Try.f9.ntmps by decide) ((f9_eq p0 l0 c0 p1 l1 c1 w R).symm ▸ h)
/-- Of escritoire/kmp.Fail (function 10): the condition. -/
def f10_vc (p0 : Option Addr) (l0 c0 : Nat) (w : World) (R : Ending → World → Prop) : Prop :=
  ∀ b1 w1, NewBlk w b1 [.slice p0 l0 c0] 22 w1 →
  ∃ (p7 : Option Addr) (l7 c7 : Nat), w1.cell? ⟨b1, 0, none⟩ = some (.slice p7 l7 c7) ∧ Br (((l7 : Int)) == 0)
  (R (.returned (.slice none 0 0)) w1)
  (∀ b10 w10, NewBlk w1 b10 [.int .i64 0] 3 w10 →
  ∀ b3 w3, NewBlk w10 b3 [.slice none 0 0] 25 w3 →
  CanStore w3 b3 0 ∧ ∀ ws, Stored w3 b3 0 (.slice (some ⟨b10, 0, none⟩) 1 1) ws →
  ∃ (p12 : Option Addr) (l12 c12 : Nat), ws.cell? ⟨b1, 0, none⟩ = some (.slice p12 l12 c12) ∧ ((0 : Int) ≤ 1 ∧ 1 ≤ (l12 : Int)) ∧ ∃ I6 : Int → Nat → World → Prop, (∃ nl6, I6 0 nl6 ws) ∧ ∀ x15 : Int, ∀ (nl6 : Nat) (wl6 : World), I6 x15 nl6 wl6 →
  Br (decide (x15 < (((l12 - ((1 : Int).toNat) : Nat) : Int))))
  (((0 : Int) ≤ x15 ∧ x15 < ((l12 - ((1 : Int).toNat) : Nat) : Int)) ∧ ∃ b17 o17, subp p12 ((1 : Int).toNat) c12 1 = some ⟨b17, o17, none⟩ ∧ ∃ n18 : Int, wl6.cell? ⟨b17, o17 + (x15).toNat, none⟩ = some (.int .u8 n18) ∧ Does Try.prog 21 #[.int .u8 n18, .pointer (some ⟨b3, 0, none⟩), .pointer (some ⟨b1, 0, none⟩)] wl6 fun e21 w21 =>
  e21 = .returned (.tuple #[]) ∧ InK .i64 (x15 + 1) ∧ ∃ ml6, ml6 < nl6 ∧ I6 (x15 + 1) ml6 w21)
  (∃ (p23 : Option Addr) (l23 c23 : Nat), wl6.cell? ⟨b3, 0, none⟩ = some (.slice p23 l23 c23) ∧ R (.returned (.slice p23 l23 c23)) wl6))
def f10_ann : Ann := { loops := [(6, [(15, .int .i64)])], cuts := [], flip := [], throws := [] }
theorem f10_eq (p0 : Option Addr) (l0 c0 : Nat) (w : World) (R : Ending → World → Prop) : vc Try.prog f10_ann (bodyOf Try.f10) (retQ Try.prog Try.f10 R) (envOf Try.f10.ntmps [.v (.slice p0 l0 c0)]) w = f10_vc p0 l0 c0 w R := by kernel_rfl
theorem f10_does (p0 : Option Addr) (l0 c0 : Nat) {w : World} {R : Ending → World → Prop} (h : f10_vc p0 l0 c0 w R) : Does Try.prog 10 #[.slice p0 l0 c0] w R :=
  does_of_vc (ss := [.v (.slice p0 l0 c0)]) f10_ann mixed call10 Try.func10 rfl rfl (show 1 ≤ Try.f10.ntmps by decide) ((f10_eq p0 l0 c0 w R).symm ▸ h)
/-- Of escritoire/escritoireref16.Fail (function 11): the condition. -/
def f11_vc (p0 : Option Addr) (l0 c0 : Nat) (w : World) (R : Ending → World → Prop) : Prop :=
  ∃ I3 : Option Addr → Nat → Nat → Int → Nat → World → Prop, (∃ nl3, I3 none 0 0 0 nl3 w) ∧ ∀ (p3 : Option Addr) (l3 c3 : Nat), ∀ x4 : Int, ∀ (nl3 : Nat) (wl3 : World), I3 p3 l3 c3 x4 nl3 wl3 →
  Br (decide (x4 < ((l0 : Int))))
  (∃ I7 : Int → Int → Nat → World → Prop, (∃ nl7, I7 0 1 nl7 wl3) ∧ ∀ x5 : Int, ∀ x6 : Int, ∀ (nl7 : Nat) (wl7 : World), I7 x5 x6 nl7 wl7 →
  Br (decide (x6 ≤ x4))
  (∀ wd9, Drew wl7 wd9 →
  ((0 : Int) ≤ x6 ∧ x6 ≤ (c0 : Int)) ∧ InK .i64 (x4 + 1) ∧ InK .i64 ((x4 + 1) - x6) ∧ InK .i64 (x4 + 1) ∧ ((0 : Int) ≤ (x4 + 1) ∧ (x4 + 1) ≤ (c0 : Int)) ∧ ((0 : Int) ≤ ((x4 + 1) - x6) ∧ ((x4 + 1) - x6) ≤ (x4 + 1)) ∧ Does Try.prog 23 #[.slice (subp p0 0 c0 1) (((x6).toNat) - 0) (c0 - 0), .slice (subp p0 (((x4 + 1) - x6).toNat) c0 1) (((x4 + 1).toNat) - (((x4 + 1) - x6).toNat)) (c0 - (((x4 + 1) - x6).toNat))] wd9 fun e29 w29 =>
  ∃ b29 : Bool, e29 = .returned (.bool b29) ∧ Br b29
  (InK .i64 (x6 + 1) ∧ ∃ ml7, ml7 < nl7 ∧ I7 x6 (x6 + 1) ml7 w29)
  (InK .i64 (x6 + 1) ∧ ∃ ml7, ml7 < nl7 ∧ I7 x5 (x6 + 1) ml7 w29))
  (∀ b33 w33, NewBlk wl7 b33 [.int .i64 x5] 3 w33 →
  ∃ (p34 : Option Addr) (l34 c34 : Nat) (w34 : World), (Builtin.append_ #[25, 25] 25 #[.slice p3 l3 c3, .slice (some ⟨b33, 0, none⟩) 1 1]).run Try.prog w33 = .ok (.slice p34 l34 c34) w34 ∧
  InK .i64 (x4 + 1) ∧ ∃ ml3, ml3 < nl3 ∧ I3 p34 l34 c34 (x4 + 1) ml3 w34))
  (R (.returned (.slice p3 l3 c3)) wl3)
def f11_ann : Ann := { loops := [(3, [(3, .slice), (4, .int .i64)]), (7, [(5, .int .i64), (6, .int .i64)])], cuts := [], flip := [], throws := [] }
theorem f11_eq (p0 : Option Addr) (l0 c0 : Nat) (w : World) (R : Ending → World → Prop) : vc Try.prog f11_ann (bodyOf Try.f11) (retQ Try.prog Try.f11 R) (envOf Try.f11.ntmps [.v (.slice p0 l0 c0)]) w = f11_vc p0 l0 c0 w R := by kernel_rfl
theorem f11_does (p0 : Option Addr) (l0 c0 : Nat) {w : World} {R : Ending → World → Prop} (h : f11_vc p0 l0 c0 w R) : Does Try.prog 11 #[.slice p0 l0 c0] w R :=
  does_of_vc (ss := [.v (.slice p0 l0 c0)]) f11_ann mixed call11 Try.func11 rfl rfl (show 1 ≤ Try.f11.ntmps by decide) ((f11_eq p0 l0 c0 w R).symm ▸ h)
/-- Of escritoire/kmp.First (function 12): the condition. -/
def f12_vc (p0 : Option Addr) (l0 c0 : Nat) (p1 : Option Addr) (l1 c1 : Nat) (a2 : Int) (w : World) (R : Ending → World → Prop) : Prop :=
  ∀ b5 w5, NewBlk w b5 [.int .i64 a2] 3 w5 →
  ∀ b7 w7, NewBlk w5 b7 [.int .i64 0] 3 w7 →
  CanStore w7 b7 0 ∧ ∀ ws, Stored w7 b7 0 (.int .i64 (-1)) ws →
  Does Try.prog 24 #[.slice p0 l0 c0, .slice p1 l1 c1, .func (.func 25) #[] #[.pointer (some ⟨b5, 0, none⟩), .pointer (some ⟨b7, 0, none⟩)]] ws fun e11 w11 =>
  e11 = .returned (.tuple #[]) ∧ ∃ n12 : Int, w11.cell? ⟨b7, 0, none⟩ = some (.int .i64 n12) ∧ R (.returned (.int .i64 n12)) w11
def f12_ann : Ann := { loops := [], cuts := [], flip := [], throws := [] }
theorem f12_eq (p0 : Option Addr) (l0 c0 : Nat) (p1 : Option Addr) (l1 c1 : Nat) (a2 : Int) (w : World) (R : Ending → World → Prop) : vc Try.prog f12_ann (bodyOf Try.f12) (retQ Try.prog Try.f12 R) (envOf Try.f12.ntmps [.v (.slice p0 l0 c0), .v (.slice p1 l1 c1), .v (.int .i64 a2)]) w = f12_vc p0 l0 c0 p1 l1 c1 a2 w R := by kernel_rfl
theorem f12_does (p0 : Option Addr) (l0 c0 : Nat) (p1 : Option Addr) (l1 c1 : Nat) (a2 : Int) {w : World} {R : Ending → World → Prop} (h : f12_vc p0 l0 c0 p1 l1 c1 a2 w R) : Does Try.prog 12 #[.slice p0 l0 c0, .slice p1 l1 c1, .int .i64 a2] w R :=
  does_of_vc (ss := [.v (.slice p0 l0 c0), .v (.slice p1 l1 c1), .v (.int .i64 a2)]) f12_ann mixed call12 Try.func12 rfl rfl (show 3 ≤ Try.f12.ntmps by decide) ((f12_eq p0 l0 c0 p1 l1 c1 a2 w R).symm ▸ h)
/-- Of escritoire/escritoireref16.First (function 13): the condition. -/
def f13_vc (p0 : Option Addr) (l0 c0 : Nat) (p1 : Option Addr) (l1 c1 : Nat) (a2 : Int) (w : World) (R : Ending → World → Prop) : Prop :=
  ∃ I2 : Int → Nat → World → Prop, (∃ nl2, I2 (if a2 < 0 then 0 else a2) nl2 w) ∧ ∀ x7 : Int, ∀ (nl2 : Nat) (wl2 : World), I2 x7 nl2 wl2 →
  InK .i64 (((l0 : Int)) - ((l1 : Int))) ∧ Br (decide (x7 ≤ (((l0 : Int)) - ((l1 : Int)))))
  (Does Try.prog 26 #[.slice p0 l0 c0, .slice p1 l1 c1, .int .i64 x7] wl2 fun e22 w22 =>
  ∃ b22 : Bool, e22 = .returned (.bool b22) ∧ Br b22
  (R (.returned (.int .i64 x7)) w22)
  (InK .i64 (x7 + 1) ∧ ∃ ml2, ml2 < nl2 ∧ I2 (x7 + 1) ml2 w22))
  (R (.returned (.int .i64 (-1))) wl2)
def f13_ann : Ann := { loops := [(2, [(7, .int .i64)])], cuts := [], flip := [], throws := [] }
theorem f13_eq (p0 : Option Addr) (l0 c0 : Nat) (p1 : Option Addr) (l1 c1 : Nat) (a2 : Int) (w : World) (R : Ending → World → Prop) : vc Try.prog f13_ann (bodyOf Try.f13) (retQ Try.prog Try.f13 R) (envOf Try.f13.ntmps [.v (.slice p0 l0 c0), .v (.slice p1 l1 c1), .v (.int .i64 a2)]) w = f13_vc p0 l0 c0 p1 l1 c1 a2 w R := by kernel_rfl
theorem f13_does (p0 : Option Addr) (l0 c0 : Nat) (p1 : Option Addr) (l1 c1 : Nat) (a2 : Int) {w : World} {R : Ending → World → Prop} (h : f13_vc p0 l0 c0 p1 l1 c1 a2 w R) : Does Try.prog 13 #[.slice p0 l0 c0, .slice p1 l1 c1, .int .i64 a2] w R :=
  does_of_vc (ss := [.v (.slice p0 l0 c0), .v (.slice p1 l1 c1), .v (.int .i64 a2)]) f13_ann mixed call13 Try.func13 rfl rfl (show 3 ≤ Try.f13.ntmps by decide) ((f13_eq p0 l0 c0 p1 l1 c1 a2 w R).symm ▸ h)
/-- Of escritoire/kmp.Last (function 14): the condition. -/
def f14_vc (p0 : Option Addr) (l0 c0 : Nat) (p1 : Option Addr) (l1 c1 : Nat) (a2 : Int) (w : World) (R : Ending → World → Prop) : Prop :=
  ∀ b5 w5, NewBlk w b5 [.int .i64 a2] 3 w5 →
  ∀ b7 w7, NewBlk w5 b7 [.int .i64 0] 3 w7 →
  CanStore w7 b7 0 ∧ ∀ ws, Stored w7 b7 0 (.int .i64 (-1)) ws →
  Does Try.prog 24 #[.slice p0 l0 c0, .slice p1 l1 c1, .func (.func 27) #[] #[.pointer (some ⟨b5, 0, none⟩), .pointer (some ⟨b7, 0, none⟩)]] ws fun e11 w11 =>
  e11 = .returned (.tuple #[]) ∧ ∃ n12 : Int, w11.cell? ⟨b7, 0, none⟩ = some (.int .i64 n12) ∧ R (.returned (.int .i64 n12)) w11
def f14_ann : Ann := { loops := [], cuts := [], flip := [], throws := [] }
theorem f14_eq (p0 : Option Addr) (l0 c0 : Nat) (p1 : Option Addr) (l1 c1 : Nat) (a2 : Int) (w : World) (R : Ending → World → Prop) : vc Try.prog f14_ann (bodyOf Try.f14) (retQ Try.prog Try.f14 R) (envOf Try.f14.ntmps [.v (.slice p0 l0 c0), .v (.slice p1 l1 c1), .v (.int .i64 a2)]) w = f14_vc p0 l0 c0 p1 l1 c1 a2 w R := by kernel_rfl
theorem f14_does (p0 : Option Addr) (l0 c0 : Nat) (p1 : Option Addr) (l1 c1 : Nat) (a2 : Int) {w : World} {R : Ending → World → Prop} (h : f14_vc p0 l0 c0 p1 l1 c1 a2 w R) : Does Try.prog 14 #[.slice p0 l0 c0, .slice p1 l1 c1, .int .i64 a2] w R :=
  does_of_vc (ss := [.v (.slice p0 l0 c0), .v (.slice p1 l1 c1), .v (.int .i64 a2)]) f14_ann mixed call14 Try.func14 rfl rfl (show 3 ≤ Try.f14.ntmps by decide) ((f14_eq p0 l0 c0 p1 l1 c1 a2 w R).symm ▸ h)
/-- Of escritoire/escritoireref16.Last (function 15): the condition. -/
def f15_vc (p0 : Option Addr) (l0 c0 : Nat) (p1 : Option Addr) (l1 c1 : Nat) (a2 : Int) (w : World) (R : Ending → World → Prop) : Prop :=
  InK .i64 (((l0 : Int)) - ((l1 : Int))) ∧ ∃ I2 : Int → Nat → World → Prop, (∃ nl2, I2 (if ((l0 : Int)) - ((l1 : Int)) < IntKind.wrap .i64 (a2 - 1) then ((l0 : Int)) - ((l1 : Int)) else IntKind.wrap .i64 (a2 - 1)) nl2 w) ∧ ∀ x7 : Int, ∀ (nl2 : Nat) (wl2 : World), I2 x7 nl2 wl2 →
  Br (decide (x7 ≥ 0))
  (Br (decide (a2 > 0))
  (Does Try.prog 26 #[.slice p0 l0 c0, .slice p1 l1 c1, .int .i64 x7] wl2 fun e27 w27 =>
  ∃ b27 : Bool, e27 = .returned (.bool b27) ∧ Br b27
  (R (.returned (.int .i64 x7)) w27)
  (InK .i64 (x7 - 1) ∧ ∃ ml2, ml2 < nl2 ∧ I2 (x7 - 1) ml2 w27))
  (R (.returned (.int .i64 (-1))) wl2))
  (R (.returned (.int .i64 (-1))) wl2)
def f15_ann : Ann := { loops := [(2, [(7, .int .i64)])], cuts := [], flip := [9], throws := [] }
theorem f15_eq (p0 : Option Addr) (l0 c0 : Nat) (p1 : Option Addr) (l1 c1 : Nat) (a2 : Int) (w : World) (R : Ending → World → Prop) : vc Try.prog f15_ann (bodyOf Try.f15) (retQ Try.prog Try.f15 R) (envOf Try.f15.ntmps [.v (.slice p0 l0 c0), .v (.slice p1 l1 c1), .v (.int .i64 a2)]) w = f15_vc p0 l0 c0 p1 l1 c1 a2 w R := by kernel_rfl
theorem f15_does (p0 : Option Addr) (l0 c0 : Nat) (p1 : Option Addr) (l1 c1 : Nat) (a2 : Int) {w : World} {R : Ending → World → Prop} (h : f15_vc p0 l0 c0 p1 l1 c1 a2 w R) : Does Try.prog 15 #[.slice p0 l0 c0, .slice p1 l1 c1, .int .i64 a2] w R :=
  does_of_vc (ss := [.v (.slice p0 l0 c0), .v (.slice p1 l1 c1), .v (.int .i64 a2)]) f15_ann mixed call15 Try.func15 rfl rfl (show 3 ≤ Try.f15.ntmps by decide) ((f15_eq p0 l0 c0 p1 l1 c1 a2 w R).symm ▸ h)
/-- Of escritoire/kmp.New (function 16): the condition. -/
def f16_vc (p0 : Option Addr) (l0 c0 : Nat) (w : World) (R : Ending → World → Prop) : Prop :=
  Br (((l0 : Int)) == 0)
  (R (.returned (.tuple #[.pointer none, .int .i64 1])) w)
  (Br (decide (((l0 : Int)) > 4096))
  (R (.returned (.tuple #[.pointer none, .int .i64 1])) w)
  (∃ (p13 : Option Addr) (l13 c13 : Nat) (w13 : World), (Builtin.append_ #[22, 22] 22 #[.slice none 0 0, .slice p0 l0 c0]).run Try.prog w = .ok (.slice p13 l13 c13) w13 ∧
  Does Try.prog 10 #[.slice p13 l13 c13] w13 fun e16 w16 =>
  ∃ (p16 : Option Addr) (l16 c16 : Nat), e16 = .returned (.slice p16 l16 c16) ∧ ∀ b18 w18, NewBlk w16 b18 [.slice p13 l13 c13, .slice p16 l16 c16, .int .i64 0, .int .i64 0] 43 w18 →
  R (.returned (.tuple #[.pointer (some ⟨b18, 0, none⟩), .int .i64 0])) w18))
def f16_ann : Ann := { loops := [], cuts := [], flip := [], throws := [] }
theorem f16_eq (p0 : Option Addr) (l0 c0 : Nat) (w : World) (R : Ending → World → Prop) : vc Try.prog f16_ann (bodyOf Try.f16) (retQ Try.prog Try.f16 R) (envOf Try.f16.ntmps [.v (.slice p0 l0 c0)]) w = f16_vc p0 l0 c0 w R := by kernel_rfl
theorem f16_does (p0 : Option Addr) (l0 c0 : Nat) {w : World} {R : Ending → World → Prop} (h : f16_vc p0 l0 c0 w R) : Does Try.prog 16 #[.slice p0 l0 c0] w R :=
  does_of_vc (ss := [.v (.slice p0 l0 c0)]) f16_ann mixed call16 Try.func16 rfl rfl (show 1 ≤ Try.f16.ntmps by decide) ((f16_eq p0 l0 c0 w R).symm ▸ h)
/-- Of (*escritoire/kmp.Finder).Feed (function 17): the condition. -/
def f17_vc (a0 : Option Addr) (p1 : Option Addr) (l1 c1 : Nat) (w : World) (R : Ending → World → Prop) : Prop :=
  Br a0.isNone
  (R (.returned (.slice none 0 0)) w)
  (∃ b12 o12, a0 = some ⟨b12, o12, none⟩ ∧ ∃ (p14 : Option Addr) (l14 c14 : Nat), w.cell? ⟨b12, o12, none⟩ = some (.slice p14 l14 c14) ∧ Br (((l14 : Int)) == 0)
  (R (.returned (.slice none 0 0)) w)
  (∃ I5 : Option Addr → Nat → Nat → Int → Nat → World → Prop, (∃ nl5, I5 none 0 0 0 nl5 w) ∧ ∀ (p5 : Option Addr) (l5 c5 : Nat), ∀ x20 : Int, ∀ (nl5 : Nat) (wl5 : World), I5 p5 l5 c5 x20 nl5 wl5 →
  Br (decide (x20 < ((l1 : Int))))
  (((0 : Int) ≤ x20 ∧ x20 < (l1 : Int)) ∧ ∃ b22 o22, p1 = some ⟨b22, o22, none⟩ ∧ ∃ n23 : Int, wl5.cell? ⟨b22, o22 + (x20).toNat, none⟩ = some (.int .u8 n23) ∧ ∃ b25 o25, a0 = some ⟨b25, o25, none⟩ ∧ ∃ n27 : Int, wl5.cell? ⟨b25, o25 + 3, none⟩ = some (.int .i64 n27) ∧ InK .i64 (n27 + 1) ∧ ∃ b29 o29, a0 = some ⟨b29, o29, none⟩ ∧ CanStore wl5 b29 (o29 + 3) ∧ ∀ ws, Stored wl5 b29 (o29 + 3) (.int .i64 (n27 + 1)) ws →
  ∀ wd8, Drew ws wd8 →
  ∃ b33 o33, a0 = some ⟨b33, o33, none⟩ ∧ ∃ (p35 : Option Addr) (l35 c35 : Nat), wd8.cell? ⟨b33, o33, none⟩ = some (.slice p35 l35 c35) ∧ ∃ b37 o37, a0 = some ⟨b37, o37, none⟩ ∧ ∃ (p39 : Option Addr) (l39 c39 : Nat), wd8.cell? ⟨b37, o37 + 1, none⟩ = some (.slice p39 l39 c39) ∧ ∃ b41 o41, a0 = some ⟨b41, o41, none⟩ ∧ ∃ n43 : Int, wd8.cell? ⟨b41, o41 + 2, none⟩ = some (.int .i64 n43) ∧ Does Try.prog 22 #[.slice p35 l35 c35, .slice p39 l39 c39, .int .i64 n43, .int .u8 n23] wd8 fun e45 w45 =>
  ∃ n45 : Int, e45 = .returned (.int .i64 n45) ∧ ∃ b46 o46, a0 = some ⟨b46, o46, none⟩ ∧ CanStore w45 b46 (o46 + 2) ∧ ∀ ws_1, Stored w45 b46 (o46 + 2) (.int .i64 n45) ws_1 →
  ∀ wd9, Drew ws_1 wd9 →
  ∃ b49 o49, a0 = some ⟨b49, o49, none⟩ ∧ ∃ n51 : Int, wd9.cell? ⟨b49, o49 + 2, none⟩ = some (.int .i64 n51) ∧ ∃ b53 o53, a0 = some ⟨b53, o53, none⟩ ∧ ∃ (p55 : Option Addr) (l55 c55 : Nat), wd9.cell? ⟨b53, o53, none⟩ = some (.slice p55 l55 c55) ∧ Br (n51 == ((l55 : Int)))
  (∃ b60 o60, a0 = some ⟨b60, o60, none⟩ ∧ ∃ n62 : Int, wd9.cell? ⟨b60, o60 + 3, none⟩ = some (.int .i64 n62) ∧ ∀ b63 w63, NewBlk wd9 b63 [.int .i64 n62] 3 w63 →
  ∃ (p64 : Option Addr) (l64 c64 : Nat) (w64 : World), (Builtin.append_ #[25, 25] 25 #[.slice p5 l5 c5, .slice (some ⟨b63, 0, none⟩) 1 1]).run Try.prog w63 = .ok (.slice p64 l64 c64) w64 ∧
  InK .i64 (x20 + 1) ∧ ∃ ml5, ml5 < nl5 ∧ I5 p64 l64 c64 (x20 + 1) ml5 w64)
  (InK .i64 (x20 + 1) ∧ ∃ ml5, ml5 < nl5 ∧ I5 p5 l5 c5 (x20 + 1) ml5 wd9))
  (R (.returned (.slice p5 l5 c5)) wl5)))
def f17_ann : Ann := { loops := [(5, [(5, .slice), (20, .int .i64)])], cuts := [], flip := [], throws := [] }
theorem f17_eq (a0 : Option Addr) (p1 : Option Addr) (l1 c1 : Nat) (w : World) (R : Ending → World → Prop) : vc Try.prog f17_ann (bodyOf Try.f17) (retQ Try.prog Try.f17 R) (envOf Try.f17.ntmps [.v (.pointer a0), .v (.slice p1 l1 c1)]) w = f17_vc a0 p1 l1 c1 w R := by kernel_rfl
theorem f17_does (a0 : Option Addr) (p1 : Option Addr) (l1 c1 : Nat) {w : World} {R : Ending → World → Prop} (h : f17_vc a0 p1 l1 c1 w R) : Does Try.prog 17 #[.pointer a0, .slice p1 l1 c1] w R :=
  does_of_vc (ss := [.v (.pointer a0), .v (.slice p1 l1 c1)]) f17_ann mixed call17 Try.func17 rfl rfl (show 2 ≤ Try.f17.ntmps by decide) ((f17_eq a0 p1 l1 c1 w R).symm ▸ h)
/-- Of escritoire/escritoireref16.Ends (function 18): the condition. -/
def f18_vc (p0 : Option Addr) (l0 c0 : Nat) (p1 : Option Addr) (l1 c1 : Nat) (a2 : Int) (w : World) (R : Ending → World → Prop) : Prop :=
  ∃ I3 : Option Addr → Nat → Nat → Int → Nat → World → Prop, (∃ nl3, I3 none 0 0 0 nl3 w) ∧ ∀ (p7 : Option Addr) (l7 c7 : Nat), ∀ x8 : Int, ∀ (nl3 : Nat) (wl3 : World), I3 p7 l7 c7 x8 nl3 wl3 →
  InK .i64 (((l0 : Int)) - ((l1 : Int))) ∧ Br (decide (x8 ≤ (((l0 : Int)) - ((l1 : Int)))))
  (InK .i64 (x8 + ((l1 : Int))) ∧ Br (decide ((x8 + ((l1 : Int))) > a2))
  (Does Try.prog 26 #[.slice p0 l0 c0, .slice p1 l1 c1, .int .i64 x8] wl3 fun e28 w28 =>
  ∃ b28 : Bool, e28 = .returned (.bool b28) ∧ Br b28
  (InK .i64 (x8 + ((l1 : Int))) ∧ ∀ b35 w35, NewBlk w28 b35 [.int .i64 (x8 + ((l1 : Int)))] 3 w35 →
  ∃ (p36 : Option Addr) (l36 c36 : Nat) (w36 : World), (Builtin.append_ #[25, 25] 25 #[.slice p7 l7 c7, .slice (some ⟨b35, 0, none⟩) 1 1]).run Try.prog w35 = .ok (.slice p36 l36 c36) w36 ∧
  InK .i64 (x8 + 1) ∧ ∃ ml3, ml3 < nl3 ∧ I3 p36 l36 c36 (x8 + 1) ml3 w36)
  (InK .i64 (x8 + 1) ∧ ∃ ml3, ml3 < nl3 ∧ I3 p7 l7 c7 (x8 + 1) ml3 w28))
  (InK .i64 (x8 + 1) ∧ ∃ ml3, ml3 < nl3 ∧ I3 p7 l7 c7 (x8 + 1) ml3 wl3))
  (R (.returned (.slice p7 l7 c7)) wl3)
def f18_ann : Ann := { loops := [(3, [(7, .slice), (8, .int .i64)])], cuts := [], flip := [], throws := [] }
theorem f18_eq (p0 : Option Addr) (l0 c0 : Nat) (p1 : Option Addr) (l1 c1 : Nat) (a2 : Int) (w : World) (R : Ending → World → Prop) : vc Try.prog f18_ann (bodyOf Try.f18) (retQ Try.prog Try.f18 R) (envOf Try.f18.ntmps [.v (.slice p0 l0 c0), .v (.slice p1 l1 c1), .v (.int .i64 a2)]) w = f18_vc p0 l0 c0 p1 l1 c1 a2 w R := by kernel_rfl
theorem f18_does (p0 : Option Addr) (l0 c0 : Nat) (p1 : Option Addr) (l1 c1 : Nat) (a2 : Int) {w : World} {R : Ending → World → Prop} (h : f18_vc p0 l0 c0 p1 l1 c1 a2 w R) : Does Try.prog 18 #[.slice p0 l0 c0, .slice p1 l1 c1, .int .i64 a2] w R :=
  does_of_vc (ss := [.v (.slice p0 l0 c0), .v (.slice p1 l1 c1), .v (.int .i64 a2)]) f18_ann mixed call18 Try.func18 rfl rfl (show 3 ≤ Try.f18.ntmps by decide) ((f18_eq p0 l0 c0 p1 l1 c1 a2 w R).symm ▸ h)
/-- Of (*escritoire/kmp.Finder).At (function 19): the condition. -/
def f19_vc (a0 : Option Addr) (w : World) (R : Ending → World → Prop) : Prop :=
  Br a0.isNone
  (R (.returned (.int .i64 0)) w)
  (∃ b6 o6, a0 = some ⟨b6, o6, none⟩ ∧ ∃ n8 : Int, w.cell? ⟨b6, o6 + 3, none⟩ = some (.int .i64 n8) ∧ R (.returned (.int .i64 n8)) w)
def f19_ann : Ann := { loops := [], cuts := [], flip := [], throws := [] }
theorem f19_eq (a0 : Option Addr) (w : World) (R : Ending → World → Prop) : vc Try.prog f19_ann (bodyOf Try.f19) (retQ Try.prog Try.f19 R) (envOf Try.f19.ntmps [.v (.pointer a0)]) w = f19_vc a0 w R := by kernel_rfl
theorem f19_does (a0 : Option Addr) {w : World} {R : Ending → World → Prop} (h : f19_vc a0 w R) : Does Try.prog 19 #[.pointer a0] w R :=
  does_of_vc (ss := [.v (.pointer a0)]) f19_ann mixed call19 Try.func19 rfl rfl (show 1 ≤ Try.f19.ntmps by decide) ((f19_eq a0 w R).symm ▸ h)
/-- Of (*escritoire/kmp.Finder).Reset (function 20): the condition. -/
def f20_vc (a0 : Option Addr) (w : World) (R : Ending → World → Prop) : Prop :=
  Br (!a0.isNone)
  (∃ b6 o6, a0 = some ⟨b6, o6, none⟩ ∧ CanStore w b6 (o6 + 2) ∧ ∀ ws, Stored w b6 (o6 + 2) (.int .i64 0) ws →
  ∃ b8 o8, a0 = some ⟨b8, o8, none⟩ ∧ CanStore ws b8 (o8 + 3) ∧ ∀ ws_1, Stored ws b8 (o8 + 3) (.int .i64 0) ws_1 →
  R (.returned (.tuple #[])) ws_1)
  (R (.returned (.tuple #[])) w)
def f20_ann : Ann := { loops := [], cuts := [], flip := [], throws := [] }
theorem f20_eq (a0 : Option Addr) (w : World) (R : Ending → World → Prop) : vc Try.prog f20_ann (bodyOf Try.f20) (retQ Try.prog Try.f20 R) (envOf Try.f20.ntmps [.v (.pointer a0)]) w = f20_vc a0 w R := by kernel_rfl
theorem f20_does (a0 : Option Addr) {w : World} {R : Ending → World → Prop} (h : f20_vc a0 w R) : Does Try.prog 20 #[.pointer a0] w R :=
  does_of_vc (ss := [.v (.pointer a0)]) f20_ann mixed call20 Try.func20 rfl rfl (show 1 ≤ Try.f20.ntmps by decide) ((f20_eq a0 w R).symm ▸ h)
/-- Of escritoire/kmp.Fail$1 (function 21): the condition. -/
def f21_vc (a0 : Int) (a1 : Option Addr) (a2 : Option Addr) (w : World) (R : Ending → World → Prop) : Prop :=
  ∀ wd0, Drew w wd0 →
  ∃ S0 : World → Prop, S0 wd0 ∧ ∃ b4 o4, a1 = some ⟨b4, o4, none⟩ ∧ ∃ (p4 : Option Addr) (l4 c4 : Nat), (∀ w, S0 w → w.cell? ⟨b4, o4, none⟩ = some (.slice p4 l4 c4)) ∧ ∃ b5 o5, a2 = some ⟨b5, o5, none⟩ ∧ ∃ (p5 : Option Addr) (l5 c5 : Nat), wd0.cell? ⟨b5, o5, none⟩ = some (.slice p5 l5 c5) ∧ ∃ b6 o6, a1 = some ⟨b6, o6, none⟩ ∧ ∃ (p6 : Option Addr) (l6 c6 : Nat), wd0.cell? ⟨b6, o6, none⟩ = some (.slice p6 l6 c6) ∧ ∃ b7 o7, a1 = some ⟨b7, o7, none⟩ ∧ ∃ (p7 : Option Addr) (l7 c7 : Nat), wd0.cell? ⟨b7, o7, none⟩ = some (.slice p7 l7 c7) ∧ ∃ b8 o8, a1 = some ⟨b8, o8, none⟩ ∧ ∃ (p8 : Option Addr) (l8 c8 : Nat), wd0.cell? ⟨b8, o8, none⟩ = some (.slice p8 l8 c8) ∧ InK .i64 (((l8 : Int)) - 1) ∧ ((0 : Int) ≤ (((l8 : Int)) - 1) ∧ (((l8 : Int)) - 1) < (l7 : Int)) ∧ ∃ b11 o11, p7 = some ⟨b11, o11, none⟩ ∧ ∃ n12 : Int, wd0.cell? ⟨b11, o11 + (((l8 : Int)) - 1).toNat, none⟩ = some (.int .i64 n12) ∧ Does Try.prog 22 #[.slice p5 l5 c5, .slice p6 l6 c6, .int .i64 n12, .int .u8 a0] wd0 fun e14 w14 =>
  ∃ n14 : Int, e14 = .returned (.int .i64 n14) ∧ S0 w14 ∧ ∀ b15 w15, NewBlk w14 b15 [.int .i64 n14] 3 w15 →
  S0 w15 ∧ ∃ (p16 : Option Addr) (l16 c16 : Nat) (w16 : World), (Builtin.append_ #[25, 25] 25 #[.slice p4 l4 c4, .slice (some ⟨b15, 0, none⟩) 1 1]).run Try.prog w15 = .ok (.slice p16 l16 c16) w16 ∧
  ∃ bx ox, a1 = some ⟨bx, ox, none⟩ ∧ CanStore w16 bx ox ∧ ∀ ws, Stored w16 bx ox (.slice p16 l16 c16) ws →
  R (.returned (.tuple #[])) ws
def f21_ann : Ann := { loops := [], cuts := [], flip := [], throws := [] }
theorem f21_eq (a0 : Int) (a1 : Option Addr) (a2 : Option Addr) (w : World) (R : Ending → World → Prop) : vc Try.prog f21_ann (bodyOf Try.f21) (retQ Try.prog Try.f21 R) (envOf Try.f21.ntmps [.v (.int .u8 a0), .v (.pointer a1), .v (.pointer a2)]) w = f21_vc a0 a1 a2 w R := by kernel_rfl
theorem f21_does (a0 : Int) (a1 : Option Addr) (a2 : Option Addr) {w : World} {R : Ending → World → Prop} (h : f21_vc a0 a1 a2 w R) : Does Try.prog 21 #[.int .u8 a0, .pointer a1, .pointer a2] w R :=
  does_of_vc (ss := [.v (.int .u8 a0), .v (.pointer a1), .v (.pointer a2)]) f21_ann mixed call21 Try.func21 rfl rfl (show 3 ≤ Try.f21.ntmps by decide) ((f21_eq a0 a1 a2 w R).symm ▸ h)
/-- Of escritoire/kmp.on (function 22): the condition. -/
def f22_vc (p0 : Option Addr) (l0 c0 : Nat) (p1 : Option Addr) (l1 c1 : Nat) (a2 : Int) (a3 : Int) (w : World) (R : Ending → World → Prop) : Prop :=
  ∃ I1 : Int → Nat → World → Prop, (∃ nl1, I1 a2 nl1 w) ∧ ∀ x2 : Int, ∀ (nl1 : Nat) (wl1 : World), I1 x2 nl1 wl1 →
  Br (decide (x2 < ((l0 : Int))))
  (((0 : Int) ≤ x2 ∧ x2 < (l0 : Int)) ∧ ∃ b17 o17, p0 = some ⟨b17, o17, none⟩ ∧ ∃ n18 : Int, wl1.cell? ⟨b17, o17 + (x2).toNat, none⟩ = some (.int .u8 n18) ∧ Br (n18 == a3)
  (InK .i64 (x2 + 1) ∧ R (.returned (.int .i64 (x2 + 1))) wl1)
  (Br (x2 == 0)
  (R (.returned (.int .i64 0)) wl1)
  (InK .i64 (x2 - 1) ∧ ((0 : Int) ≤ (x2 - 1) ∧ (x2 - 1) < (l1 : Int)) ∧ ∃ b30 o30, p1 = some ⟨b30, o30, none⟩ ∧ ∃ n31 : Int, wl1.cell? ⟨b30, o30 + (x2 - 1).toNat, none⟩ = some (.int .i64 n31) ∧ ∃ ml1, ml1 < nl1 ∧ I1 n31 ml1 wl1)))
  (Br (x2 == 0)
  (R (.returned (.int .i64 0)) wl1)
  (InK .i64 (x2 - 1) ∧ ((0 : Int) ≤ (x2 - 1) ∧ (x2 - 1) < (l1 : Int)) ∧ ∃ b30_1 o30_1, p1 = some ⟨b30_1, o30_1, none⟩ ∧ ∃ n31_1 : Int, wl1.cell? ⟨b30_1, o30_1 + (x2 - 1).toNat, none⟩ = some (.int .i64 n31_1) ∧ ∃ ml1, ml1 < nl1 ∧ I1 n31_1 ml1 wl1))
def f22_ann : Ann := { loops := [(1, [(2, .int .i64)])], cuts := [], flip := [], throws := [] }
theorem f22_eq (p0 : Option Addr) (l0 c0 : Nat) (p1 : Option Addr) (l1 c1 : Nat) (a2 : Int) (a3 : Int) (w : World) (R : Ending → World → Prop) : vc Try.prog f22_ann (bodyOf Try.f22) (retQ Try.prog Try.f22 R) (envOf Try.f22.ntmps [.v (.slice p0 l0 c0), .v (.slice p1 l1 c1), .v (.int .i64 a2), .v (.int .u8 a3)]) w = f22_vc p0 l0 c0 p1 l1 c1 a2 a3 w R := by kernel_rfl
theorem f22_does (p0 : Option Addr) (l0 c0 : Nat) (p1 : Option Addr) (l1 c1 : Nat) (a2 : Int) (a3 : Int) {w : World} {R : Ending → World → Prop} (h : f22_vc p0 l0 c0 p1 l1 c1 a2 a3 w R) : Does Try.prog 22 #[.slice p0 l0 c0, .slice p1 l1 c1, .int .i64 a2, .int .u8 a3] w R :=
  does_of_vc (ss := [.v (.slice p0 l0 c0), .v (.slice p1 l1 c1), .v (.int .i64 a2), .v (.int .u8 a3)]) f22_ann mixed call22 Try.func22 rfl rfl (show 4 ≤ Try.f22.ntmps by decide) ((f22_eq p0 l0 c0 p1 l1 c1 a2 a3 w R).symm ▸ h)
/-- Of escritoire/escritoireref1.Same (function 23): the condition. -/
def f23_vc (p0 : Option Addr) (l0 c0 : Nat) (p1 : Option Addr) (l1 c1 : Nat) (w : World) (R : Ending → World → Prop) : Prop :=
  Br (((l0 : Int)) != ((l1 : Int)))
  (R (.returned (.bool false)) w)
  (∃ I4 : Int → Nat → World → Prop, (∃ nl4, I4 0 nl4 w) ∧ ∀ x5 : Int, ∀ (nl4 : Nat) (wl4 : World), I4 x5 nl4 wl4 →
  Br (decide (x5 < ((l0 : Int))))
  (∀ wd6, Drew wl4 wd6 →
  ((0 : Int) ≤ x5 ∧ x5 < (l0 : Int)) ∧ ∃ b19 o19, p0 = some ⟨b19, o19, none⟩ ∧ ∃ n20 : Int, wd6.cell? ⟨b19, o19 + (x5).toNat, none⟩ = some (.int .u8 n20) ∧ ((0 : Int) ≤ x5 ∧ x5 < (l1 : Int)) ∧ ∃ b23 o23, p1 = some ⟨b23, o23, none⟩ ∧ ∃ n24 : Int, wd6.cell? ⟨b23, o23 + (x5).toNat, none⟩ = some (.int .u8 n24) ∧ Br (n20 != n24)
  (R (.returned (.bool false)) wd6)
  (InK .i64 (x5 + 1) ∧ ∃ ml4, ml4 < nl4 ∧ I4 (x5 + 1) ml4 wd6))
  (R (.returned (.bool true)) wl4))
def f23_ann : Ann := { loops := [(4, [(5, .int .i64)])], cuts := [], flip := [], throws := [] }
theorem f23_eq (p0 : Option Addr) (l0 c0 : Nat) (p1 : Option Addr) (l1 c1 : Nat) (w : World) (R : Ending → World → Prop) : vc Try.prog f23_ann (bodyOf Try.f23) (retQ Try.prog Try.f23 R) (envOf Try.f23.ntmps [.v (.slice p0 l0 c0), .v (.slice p1 l1 c1)]) w = f23_vc p0 l0 c0 p1 l1 c1 w R := by kernel_rfl
theorem f23_does (p0 : Option Addr) (l0 c0 : Nat) (p1 : Option Addr) (l1 c1 : Nat) {w : World} {R : Ending → World → Prop} (h : f23_vc p0 l0 c0 p1 l1 c1 w R) : Does Try.prog 23 #[.slice p0 l0 c0, .slice p1 l1 c1] w R :=
  does_of_vc (ss := [.v (.slice p0 l0 c0), .v (.slice p1 l1 c1)]) f23_ann mixed call23 Try.func23 rfl rfl (show 2 ≤ Try.f23.ntmps by decide) ((f23_eq p0 l0 c0 p1 l1 c1 w R).symm ▸ h)
/-- Of escritoire/kmp.each (function 24): the condition. -/
def f24_vc (p0 : Option Addr) (l0 c0 : Nat) (p1 : Option Addr) (l1 c1 : Nat) (g2 : FuncId) (fs2 cs2 : Array Value) (w : World) (R : Ending → World → Prop) : Prop :=
  Br (((l1 : Int)) == 0)
  (R (.returned (.tuple #[])) w)
  (Does Try.prog 10 #[.slice p1 l1 c1] w fun e14 w14 =>
  ∃ (p14 : Option Addr) (l14 c14 : Nat), e14 = .returned (.slice p14 l14 c14) ∧ ∃ I3 : Int → Int → Nat → World → Prop, (∃ nl3, I3 0 0 nl3 w14) ∧ ∀ x7 : Int, ∀ x17 : Int, ∀ (nl3 : Nat) (wl3 : World), I3 x7 x17 nl3 wl3 →
  Br (decide (x17 < ((l0 : Int))))
  (((0 : Int) ≤ x17 ∧ x17 < (l0 : Int)) ∧ ∃ b20 o20, p0 = some ⟨b20, o20, none⟩ ∧ ∃ n21 : Int, wl3.cell? ⟨b20, o20 + (x17).toNat, none⟩ = some (.int .u8 n21) ∧ Does Try.prog 22 #[.slice p1 l1 c1, .slice p14 l14 c14, .int .i64 x7, .int .u8 n21] wl3 fun e26 w26 =>
  ∃ n26 : Int, e26 = .returned (.int .i64 n26) ∧ Br (n26 == ((l1 : Int)))
  (InK .i64 (x17 + 1) ∧ InK .i64 ((x17 + 1) - ((l1 : Int))) ∧ Does Try.prog g2 (fs2 ++ #[.int .i64 ((x17 + 1) - ((l1 : Int)))] ++ cs2) w26 fun e38 w38 =>
  ∃ b38 : Bool, e38 = .returned (.bool b38) ∧ Br (!b38)
  (R (.returned (.tuple #[])) w38)
  (InK .i64 (x17 + 1) ∧ ∃ ml3, ml3 < nl3 ∧ I3 n26 (x17 + 1) ml3 w38))
  (InK .i64 (x17 + 1) ∧ ∃ ml3, ml3 < nl3 ∧ I3 n26 (x17 + 1) ml3 w26))
  (R (.returned (.tuple #[])) wl3))
def f24_ann : Ann := { loops := [(3, [(7, .int .i64), (17, .int .i64)])], cuts := [], flip := [], throws := [] }
theorem f24_eq (p0 : Option Addr) (l0 c0 : Nat) (p1 : Option Addr) (l1 c1 : Nat) (g2 : FuncId) (fs2 cs2 : Array Value) (w : World) (R : Ending → World → Prop) : vc Try.prog f24_ann (bodyOf Try.f24) (retQ Try.prog Try.f24 R) (envOf Try.f24.ntmps [.v (.slice p0 l0 c0), .v (.slice p1 l1 c1), .v (.func (.func g2) fs2 cs2)]) w = f24_vc p0 l0 c0 p1 l1 c1 g2 fs2 cs2 w R := by kernel_rfl
theorem f24_does (p0 : Option Addr) (l0 c0 : Nat) (p1 : Option Addr) (l1 c1 : Nat) (g2 : FuncId) (fs2 cs2 : Array Value) {w : World} {R : Ending → World → Prop} (h : f24_vc p0 l0 c0 p1 l1 c1 g2 fs2 cs2 w R) : Does Try.prog 24 #[.slice p0 l0 c0, .slice p1 l1 c1, .func (.func g2) fs2 cs2] w R :=
  does_of_vc (ss := [.v (.slice p0 l0 c0), .v (.slice p1 l1 c1), .v (.func (.func g2) fs2 cs2)]) f24_ann mixed call24 Try.func24 rfl rfl (show 3 ≤ Try.f24.ntmps by decide) ((f24_eq p0 l0 c0 p1 l1 c1 g2 fs2 cs2 w R).symm ▸ h)
/-- Of escritoire/kmp.First$1 (function 25): the condition. -/
def f25_vc (a0 : Int) (a1 : Option Addr) (a2 : Option Addr) (w : World) (R : Ending → World → Prop) : Prop :=
  ∃ b6 o6, a1 = some ⟨b6, o6, none⟩ ∧ ∃ n6 : Int, w.cell? ⟨b6, o6, none⟩ = some (.int .i64 n6) ∧ Br (decide (a0 ≥ n6))
  (∃ bx ox, a2 = some ⟨bx, ox, none⟩ ∧ CanStore w bx ox ∧ ∀ ws, Stored w bx ox (.int .i64 a0) ws →
  ∃ b9 o9, a2 = some ⟨b9, o9, none⟩ ∧ ∃ n9 : Int, ws.cell? ⟨b9, o9, none⟩ = some (.int .i64 n9) ∧ R (.returned (.bool (decide (n9 < 0)))) ws)
  (∃ b9_1 o9_1, a2 = some ⟨b9_1, o9_1, none⟩ ∧ ∃ n9_1 : Int, w.cell? ⟨b9_1, o9_1, none⟩ = some (.int .i64 n9_1) ∧ R (.returned (.bool (decide (n9_1 < 0)))) w)
def f25_ann : Ann := { loops := [], cuts := [], flip := [], throws := [] }
theorem f25_eq (a0 : Int) (a1 : Option Addr) (a2 : Option Addr) (w : World) (R : Ending → World → Prop) : vc Try.prog f25_ann (bodyOf Try.f25) (retQ Try.prog Try.f25 R) (envOf Try.f25.ntmps [.v (.int .i64 a0), .v (.pointer a1), .v (.pointer a2)]) w = f25_vc a0 a1 a2 w R := by kernel_rfl
theorem f25_does (a0 : Int) (a1 : Option Addr) (a2 : Option Addr) {w : World} {R : Ending → World → Prop} (h : f25_vc a0 a1 a2 w R) : Does Try.prog 25 #[.int .i64 a0, .pointer a1, .pointer a2] w R :=
  does_of_vc (ss := [.v (.int .i64 a0), .v (.pointer a1), .v (.pointer a2)]) f25_ann mixed call25 Try.func25 rfl rfl (show 3 ≤ Try.f25.ntmps by decide) ((f25_eq a0 a1 a2 w R).symm ▸ h)
/-- Of escritoire/escritoireref16.stands (function 26): the condition. -/
def f26_vc (p0 : Option Addr) (l0 c0 : Nat) (p1 : Option Addr) (l1 c1 : Nat) (a2 : Int) (w : World) (R : Ending → World → Prop) : Prop :=
  Br (decide (a2 ≥ 0))
  (Br (decide (((l1 : Int)) > 0))
  (Br (decide (((l1 : Int)) ≤ ((l0 : Int))))
  (InK .i64 (((l0 : Int)) - ((l1 : Int))) ∧ Br (decide (a2 ≤ (((l0 : Int)) - ((l1 : Int)))))
  (InK .i64 (a2 + ((l1 : Int))) ∧ ((0 : Int) ≤ (a2 + ((l1 : Int))) ∧ (a2 + ((l1 : Int))) ≤ (c0 : Int)) ∧ ((0 : Int) ≤ a2 ∧ a2 ≤ (a2 + ((l1 : Int)))) ∧ Does Try.prog 23 #[.slice (subp p0 ((a2).toNat) c0 1) (((a2 + ((l1 : Int))).toNat) - ((a2).toNat)) (c0 - ((a2).toNat)), .slice p1 l1 c1] w fun e39 w39 =>
  ∃ b39 : Bool, e39 = .returned (.bool b39) ∧ R (.returned (.bool b39)) w39)
  (R (.returned (.bool false)) w))
  (R (.returned (.bool false)) w))
  (R (.returned (.bool false)) w))
  (R (.returned (.bool false)) w)
def f26_ann : Ann := { loops := [], cuts := [], flip := [], throws := [] }
theorem f26_eq (p0 : Option Addr) (l0 c0 : Nat) (p1 : Option Addr) (l1 c1 : Nat) (a2 : Int) (w : World) (R : Ending → World → Prop) : vc Try.prog f26_ann (bodyOf Try.f26) (retQ Try.prog Try.f26 R) (envOf Try.f26.ntmps [.v (.slice p0 l0 c0), .v (.slice p1 l1 c1), .v (.int .i64 a2)]) w = f26_vc p0 l0 c0 p1 l1 c1 a2 w R := by kernel_rfl
theorem f26_does (p0 : Option Addr) (l0 c0 : Nat) (p1 : Option Addr) (l1 c1 : Nat) (a2 : Int) {w : World} {R : Ending → World → Prop} (h : f26_vc p0 l0 c0 p1 l1 c1 a2 w R) : Does Try.prog 26 #[.slice p0 l0 c0, .slice p1 l1 c1, .int .i64 a2] w R :=
  does_of_vc (ss := [.v (.slice p0 l0 c0), .v (.slice p1 l1 c1), .v (.int .i64 a2)]) f26_ann mixed call26 Try.func26 rfl rfl (show 3 ≤ Try.f26.ntmps by decide) ((f26_eq p0 l0 c0 p1 l1 c1 a2 w R).symm ▸ h)
/-- Of escritoire/kmp.Last$1 (function 27): the condition. -/
def f27_vc (a0 : Int) (a1 : Option Addr) (a2 : Option Addr) (w : World) (R : Ending → World → Prop) : Prop :=
  ∃ b6 o6, a1 = some ⟨b6, o6, none⟩ ∧ ∃ n6 : Int, w.cell? ⟨b6, o6, none⟩ = some (.int .i64 n6) ∧ Br (decide (a0 < n6))
  (∃ bx ox, a2 = some ⟨bx, ox, none⟩ ∧ CanStore w bx ox ∧ ∀ ws, Stored w bx ox (.int .i64 a0) ws →
  ∃ b10 o10, a1 = some ⟨b10, o10, none⟩ ∧ ∃ n10 : Int, ws.cell? ⟨b10, o10, none⟩ = some (.int .i64 n10) ∧ R (.returned (.bool (decide (a0 < n10)))) ws)
  (∃ b10_1 o10_1, a1 = some ⟨b10_1, o10_1, none⟩ ∧ ∃ n10_1 : Int, w.cell? ⟨b10_1, o10_1, none⟩ = some (.int .i64 n10_1) ∧ R (.returned (.bool (decide (a0 < n10_1)))) w)
def f27_ann : Ann := { loops := [], cuts := [], flip := [], throws := [] }
theorem f27_eq (a0 : Int) (a1 : Option Addr) (a2 : Option Addr) (w : World) (R : Ending → World → Prop) : vc Try.prog f27_ann (bodyOf Try.f27) (retQ Try.prog Try.f27 R) (envOf Try.f27.ntmps [.v (.int .i64 a0), .v (.pointer a1), .v (.pointer a2)]) w = f27_vc a0 a1 a2 w R := by kernel_rfl
theorem f27_does (a0 : Int) (a1 : Option Addr) (a2 : Option Addr) {w : World} {R : Ending → World → Prop} (h : f27_vc a0 a1 a2 w R) : Does Try.prog 27 #[.int .i64 a0, .pointer a1, .pointer a2] w R :=
  does_of_vc (ss := [.v (.int .i64 a0), .v (.pointer a1), .v (.pointer a2)]) f27_ann mixed call27 Try.func27 rfl rfl (show 3 ≤ Try.f27.ntmps by decide) ((f27_eq a0 a1 a2 w R).symm ▸ h)
end Go.Proofs.Ytcpgapffhapclaa
