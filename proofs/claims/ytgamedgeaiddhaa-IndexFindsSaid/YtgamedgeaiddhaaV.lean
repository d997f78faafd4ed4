/-
  Of each function of the code: its verification condition, and that it suffices.
-/
import Derived.Test.YtgamedgeaiddhaaVcDoes
import Derived.Test.YtgamedgeaiddhaaProg
set_option maxRecDepth 100000
namespace Go.Proofs.Ytgamedgeaiddhaa
open Go.RowKit Go.Vc
def bodyOf (fn : Func) : Code := match fn.body with | some c => c | none => .skip
theorem mixed : Try.prog.follows .mixedOrders = true := by kernel_rfl
theorem call3 : callableB Try.prog 3 = true := by kernel_rfl
theorem call4 : callableB Try.prog 4 = true := by kernel_rfl
theorem call5 : callableB Try.prog 5 = true := by kernel_rfl
theorem call6 : callableB Try.prog 6 = true := by kernel_rfl
theorem call7 : callableB Try.prog 7 = true := by kernel_rfl
theorem call8 : callableB Try.prog 8 = true := by kernel_rfl
theorem call9 : callableB Try.prog 9 = true := by kernel_rfl
theorem call10 : callableB Try.prog 10 = true := by kernel_rfl
theorem call11 : callableB Try.prog 11 = true := by kernel_rfl
theorem call12 : callableB Try.prog 12 = true := by kernel_rfl
theorem call13 : callableB Try.prog 13 = true := by kernel_rfl
theorem call14 : callableB Try.prog 14 = true := by kernel_rfl
theorem call15 : callableB Try.prog 15 = true := by kernel_rfl
theorem call16 : callableB Try.prog 16 = true := by kernel_rfl
theorem call17 : callableB Try.prog 17 = true := by kernel_rfl
theorem call18 : callableB Try.prog 18 = true := by kernel_rfl
theorem call19 : callableB Try.prog 19 = true := by kernel_rfl
theorem call20 : callableB Try.prog 20 = true := by kernel_rfl
theorem call21 : callableB Try.prog 21 = true := by kernel_rfl
theorem call22 : callableB Try.prog 22 = true := by kernel_rfl
/-- Of escritoire/escritoirelaw16.IndexParts (function 3): the condition. -/
def f3_vc (p0 : Option Addr) (l0 c0 : Nat) (p1 : Option Addr) (l1 c1 : Nat) (a2 : Int) (w : World) (R : Ending → World → Prop) : Prop :=
  Does Try.prog 7 #[] w fun e20 w20 =>
  ∃ b20 : Bool, e20 = .returned (.bool b20) ∧ Br (!b20)
  (R (.returned (.bool false)) w20)
  (Br (decide (((l0 : Int)) > 3000))
  (R (.returned (.bool true)) w20)
  (Br (decide (((l1 : Int)) > 3000))
  (R (.returned (.bool true)) w20)
  (Does Try.prog 8 #[] w20 fun e30 w30 =>
  ∃ p30 : Option Addr, e30 = .returned (.pointer p30) ∧ Does Try.prog 8 #[] w30 fun e31 w31 =>
  ∃ p31 : Option Addr, e31 = .returned (.pointer p31) ∧ Br p30.isNone
  (R (.returned (.bool false)) w31)
  (Br p31.isNone
  (R (.returned (.bool false)) w31)
  (Does Try.prog 9 #[.pointer p31, .slice p0 l0 c0] w31 fun e40 w40 =>
  e40 = .returned (.tuple #[]) ∧ ∃ I12 : Int → Int → Nat → World → Prop, (∃ nl12, I12 0 0 nl12 w40) ∧ ∀ x9 : Int, ∀ x10 : Int, ∀ (nl12 : Nat) (wl12 : World), I12 x9 x10 nl12 wl12 →
  Br (decide (x10 < ((l1 : Int))))
  ((0 ≤ x10 ∧ x10 < (l1 : Int)) ∧ ∃ b49 o49, p1 = some ⟨b49, o49, none⟩ ∧ ∃ n50 : Int, wl12.cell? ⟨b49, o49 + (x10).toNat, none⟩ = some (.int .u8 n50) ∧ InK .i64 (n50) ∧ (9 : Int) ≠ 0 ∧ InK .i64 (((l0 : Int)) - x9) ∧ InK .i64 (x9 + (if ((l0 : Int)) - x9 < n50.tmod 9 then ((l0 : Int)) - x9 else n50.tmod 9)) ∧ (0 ≤ (x9 + (if ((l0 : Int)) - x9 < n50.tmod 9 then ((l0 : Int)) - x9 else n50.tmod 9)) ∧ (x9 + (if ((l0 : Int)) - x9 < n50.tmod 9 then ((l0 : Int)) - x9 else n50.tmod 9)) ≤ (c0 : Int)) ∧ (0 ≤ x9 ∧ x9 ≤ (x9 + (if ((l0 : Int)) - x9 < n50.tmod 9 then ((l0 : Int)) - x9 else n50.tmod 9))) ∧ Does Try.prog 9 #[.pointer p30, .slice (subp p0 ((x9).toNat) c0 1) (((x9 + (if ((l0 : Int)) - x9 < n50.tmod 9 then ((l0 : Int)) - x9 else n50.tmod 9)).toNat) - ((x9).toNat)) (c0 - ((x9).toNat))] wl12 fun e65 w65 =>
  e65 = .returned (.tuple #[]) ∧ InK .i64 (x9 + (if ((l0 : Int)) - x9 < n50.tmod 9 then ((l0 : Int)) - x9 else n50.tmod 9)) ∧ InK .i64 (x10 + 1) ∧ ∃ ml12, ml12 < nl12 ∧ I12 (x9 + (if ((l0 : Int)) - x9 < n50.tmod 9 then ((l0 : Int)) - x9 else n50.tmod 9)) (x10 + 1) ml12 w65)
  ((0 ≤ x9 ∧ x9 ≤ (l0 : Int)) ∧ Does Try.prog 9 #[.pointer p30, .slice (subp p0 ((x9).toNat) c0 1) (l0 - ((x9).toNat)) (c0 - ((x9).toNat))] wl12 fun e73 w73 =>
  e73 = .returned (.tuple #[]) ∧ Does Try.prog 10 #[.pointer p30, .int .i64 a2] w73 fun e77 w77 =>
  ∃ n77 : Int, ∃ b77 : Bool, e77 = .returned (.tuple #[.int .i64 n77, .bool b77]) ∧ Does Try.prog 10 #[.pointer p31, .int .i64 a2] w77 fun e83 w83 =>
  ∃ n83 : Int, ∃ b83 : Bool, e83 = .returned (.tuple #[.int .i64 n83, .bool b83]) ∧ Does Try.prog 11 #[.pointer p30, .int .i64 a2] w83 fun e89 w89 =>
  ∃ n89 : Int, ∃ b89 : Bool, e89 = .returned (.tuple #[.int .i64 n89, .bool b89]) ∧ Does Try.prog 11 #[.pointer p31, .int .i64 a2] w89 fun e95 w95 =>
  ∃ n95 : Int, ∃ b95 : Bool, e95 = .returned (.tuple #[.int .i64 n95, .bool b95]) ∧ Does Try.prog 12 #[.pointer p30] w95 fun e99 w99 =>
  ∃ n99 : Int, e99 = .returned (.int .i64 n99) ∧ Br (n99 == ((l0 : Int)))
  (Does Try.prog 12 #[.pointer p31] w99 fun e105 w105 =>
  ∃ n105 : Int, e105 = .returned (.int .i64 n105) ∧ Br (n105 == ((l0 : Int)))
  (Does Try.prog 13 #[.pointer p30] w105 fun e112 w112 =>
  ∃ n112 : Int, e112 = .returned (.int .i64 n112) ∧ Does Try.prog 13 #[.pointer p31] w112 fun e114 w114 =>
  ∃ n114 : Int, e114 = .returned (.int .i64 n114) ∧ Br (n112 == n114)
  (Br (n77 == n83)
  (Br (b77 == b83)
  (Br (n89 == n95)
  (R (.returned (.bool (b89 == b95))) w114)
  (R (.returned (.bool false)) w114))
  (R (.returned (.bool false)) w114))
  (R (.returned (.bool false)) w114))
  (R (.returned (.bool false)) w114))
  (R (.returned (.bool false)) w105))
  (R (.returned (.bool false)) w99)))))))
def f3_ann : Ann := { loops := [(12, [(9, .int .i64), (10, .int .i64)])], cuts := [], flip := [], throws := [] }
theorem f3_eq (p0 : Option Addr) (l0 c0 : Nat) (p1 : Option Addr) (l1 c1 : Nat) (a2 : Int) (w : World) (R : Ending → World → Prop) : vc Try.prog f3_ann (bodyOf Try.f3) (retQ Try.prog Try.f3 R) (envOf Try.f3.ntmps [.v (.slice p0 l0 c0), .v (.slice p1 l1 c1), .v (.int .i64 a2)]) w = f3_vc p0 l0 c0 p1 l1 c1 a2 w R := by kernel_rfl
theorem f3_does (p0 : Option Addr) (l0 c0 : Nat) (p1 : Option Addr) (l1 c1 : Nat) (a2 : Int) {w : World} {R : Ending → World → Prop} (h : f3_vc p0 l0 c0 p1 l1 c1 a2 w R) : Does Try.prog 3 #[.slice p0 l0 c0, .slice p1 l1 c1, .int .i64 a2] w R :=
  does_of_vc (ss := [.v (.slice p0 l0 c0), .v (.slice p1 l1 c1), .v (.int .i64 a2)]) f3_ann mixed call3 Try.func3 rfl rfl (show 3 ≤ Try.f3.ntmps by decide) ((f3_eq p0 l0 c0 p1 l1 c1 a2 w R).symm ▸ h)
/-- Of escritoire/escritoirelaw16.IndexFinds (function 4): the condition. -/
def f4_vc (p0 : Option Addr) (l0 c0 : Nat) (w : World) (R : Ending → World → Prop) : Prop :=
  Does Try.prog 7 #[] w fun e11 w11 =>
  ∃ b11 : Bool, e11 = .returned (.bool b11) ∧ Br (!b11)
  (R (.returned (.bool false)) w11)
  (Br (decide (((l0 : Int)) > 1000))
  (R (.returned (.bool true)) w11)
  (Does Try.prog 8 #[] w11 fun e16 w16 =>
  ∃ p16 : Option Addr, e16 = .returned (.pointer p16) ∧ Br p16.isNone
  (R (.returned (.bool false)) w16)
  (Does Try.prog 9 #[.pointer p16, .slice p0 l0 c0] w16 fun e21 w21 =>
  e21 = .returned (.tuple #[]) ∧ ∃ I10 : Int → Nat → World → Prop, (∃ nl10, I10 0 nl10 w21) ∧ ∀ x4 : Int, ∀ (nl10 : Nat) (wl10 : World), I10 x4 nl10 wl10 →
  Does Try.prog 13 #[.pointer p16] wl10 fun e24 w24 =>
  ∃ n24 : Int, e24 = .returned (.int .i64 n24) ∧ Br (decide (x4 ≤ n24))
  (Does Try.prog 10 #[.pointer p16, .int .i64 x4] w24 fun e31 w31 =>
  ∃ n31 : Int, ∃ b31 : Bool, e31 = .returned (.tuple #[.int .i64 n31, .bool b31]) ∧ Does Try.prog 11 #[.pointer p16, .int .i64 n31] w31 fun e37 w37 =>
  ∃ n37 : Int, ∃ b37 : Bool, e37 = .returned (.tuple #[.int .i64 n37, .bool b37]) ∧ Br (!b31)
  (R (.returned (.bool false)) w37)
  (Br (!b37)
  (R (.returned (.bool false)) w37)
  (Br (n37 != x4)
  (R (.returned (.bool false)) w37)
  (Br (decide (x4 > 0))
  (InK .i64 (n31 - 1) ∧ Does Try.prog 11 #[.pointer p16, .int .i64 (n31 - 1)] w37 fun e57 w57 =>
  ∃ n57 : Int, ∃ b57 : Bool, e57 = .returned (.tuple #[.int .i64 n57, .bool b57]) ∧ Br (!b57)
  (R (.returned (.bool false)) w57)
  (InK .i64 (x4 - 1) ∧ Br (n57 != (x4 - 1))
  (R (.returned (.bool false)) w57)
  (InK .i64 (n31 - 1) ∧ (0 ≤ (n31 - 1) ∧ (n31 - 1) < (l0 : Int)) ∧ ∃ b72 o72, p0 = some ⟨b72, o72, none⟩ ∧ ∃ n73 : Int, w57.cell? ⟨b72, o72 + (n31 - 1).toNat, none⟩ = some (.int .u8 n73) ∧ Br (n73 != 10)
  (R (.returned (.bool false)) w57)
  (InK .i64 (x4 + 1) ∧ ∃ ml10, ml10 < nl10 ∧ I10 (x4 + 1) ml10 w57))))
  (InK .i64 (x4 + 1) ∧ ∃ ml10, ml10 < nl10 ∧ I10 (x4 + 1) ml10 w37)))))
  (Does Try.prog 13 #[.pointer p16] w24 fun e79 w79 =>
  ∃ n79 : Int, e79 = .returned (.int .i64 n79) ∧ InK .i64 (n79 + 1) ∧ Does Try.prog 10 #[.pointer p16, .int .i64 (n79 + 1)] w79 fun e81 w81 =>
  ∃ n81 : Int, ∃ b81 : Bool, e81 = .returned (.tuple #[.int .i64 n81, .bool b81]) ∧ Br (!b81)
  (Does Try.prog 13 #[.pointer p16] w81 fun e88 w88 =>
  ∃ n88 : Int, e88 = .returned (.int .i64 n88) ∧ Does Try.prog 14 #[.slice p0 l0 c0] w88 fun e90 w90 =>
  ∃ n90 : Int, e90 = .returned (.int .i64 n90) ∧ R (.returned (.bool (n88 == n90))) w90)
  (R (.returned (.bool false)) w81)))))
def f4_ann : Ann := { loops := [(10, [(4, .int .i64)])], cuts := [], flip := [], throws := [] }
theorem f4_eq (p0 : Option Addr) (l0 c0 : Nat) (w : World) (R : Ending → World → Prop) : vc Try.prog f4_ann (bodyOf Try.f4) (retQ Try.prog Try.f4 R) (envOf Try.f4.ntmps [.v (.slice p0 l0 c0)]) w = f4_vc p0 l0 c0 w R := by kernel_rfl
theorem f4_does (p0 : Option Addr) (l0 c0 : Nat) {w : World} {R : Ending → World → Prop} (h : f4_vc p0 l0 c0 w R) : Does Try.prog 4 #[.slice p0 l0 c0] w R :=
  does_of_vc (ss := [.v (.slice p0 l0 c0)]) f4_ann mixed call4 Try.func4 rfl rfl (show 1 ≤ Try.f4.ntmps by decide) ((f4_eq p0 l0 c0 w R).symm ▸ h)
/-- Of escritoire/escritoirelaw16.IndexKnown (function 5): the condition. -/
def f5_vc  (w : World) (R : Ending → World → Prop) : Prop :=
  Does Try.prog 7 #[] w fun e6 w6 =>
  ∃ b6 : Bool, e6 = .returned (.bool b6) ∧ Br (!b6)
  (R (.returned (.bool false)) w6)
  (Does Try.prog 8 #[] w6 fun e8 w8 =>
  ∃ p8 : Option Addr, e8 = .returned (.pointer p8) ∧ Br p8.isNone
  (R (.returned (.bool false)) w8)
  (∀ b12 w12, NewBlk w8 b12 [.int .u8 97, .int .u8 98, .int .u8 10, .int .u8 99, .int .u8 100, .int .u8 10] 5 w12 →
  ∃ (p13 : Option Addr) (l13 c13 : Nat), ∃ w13, (convert 22 22 (.slice (some ⟨b12, 0, none⟩) 6 6)).run Try.prog w12 = .ok (.slice p13 l13 c13) w13 ∧ Does Try.prog 9 #[.pointer p8, .slice p13 l13 c13] w13 fun e14 w14 =>
  e14 = .returned (.tuple #[]) ∧ ∀ b16 w16, NewBlk w14 b16 [.int .u8 10, .int .u8 10] 5 w16 →
  ∃ (p17 : Option Addr) (l17 c17 : Nat), ∃ w17, (convert 22 22 (.slice (some ⟨b16, 0, none⟩) 2 2)).run Try.prog w16 = .ok (.slice p17 l17 c17) w17 ∧ Does Try.prog 15 #[.pointer p8, .int .i64 1, .int .i64 1, .slice p17 l17 c17] w17 fun e18 w18 =>
  e18 = .returned (.tuple #[]) ∧ Does Try.prog 10 #[.pointer p8, .int .i64 1] w18 fun e21 w21 =>
  ∃ n21 : Int, ∃ b21 : Bool, e21 = .returned (.tuple #[.int .i64 n21, .bool b21]) ∧ Does Try.prog 10 #[.pointer p8, .int .i64 9] w21 fun e26 w26 =>
  ∃ n26 : Int, ∃ b26 : Bool, e26 = .returned (.tuple #[.int .i64 n26, .bool b26]) ∧ Br b21
  (Br (n21 == 2)
  (Does Try.prog 13 #[.pointer p8] w26 fun e36 w36 =>
  ∃ n36 : Int, e36 = .returned (.int .i64 n36) ∧ Br (n36 == 4)
  (Does Try.prog 12 #[.pointer p8] w36 fun e41 w41 =>
  ∃ n41 : Int, e41 = .returned (.int .i64 n41) ∧ Br (n41 == 7)
  (R (.returned (.bool (!b26))) w41)
  (R (.returned (.bool false)) w41))
  (R (.returned (.bool false)) w36))
  (R (.returned (.bool false)) w26))
  (R (.returned (.bool false)) w26)))
def f5_ann : Ann := { loops := [], cuts := [], flip := [], throws := [] }
theorem f5_eq  (w : World) (R : Ending → World → Prop) : vc Try.prog f5_ann (bodyOf Try.f5) (retQ Try.prog Try.f5 R) (envOf Try.f5.ntmps []) w = f5_vc  w R := by kernel_rfl
theorem f5_does  {w : World} {R : Ending → World → Prop} (h : f5_vc  w R) : Does Try.prog 5 #[] w R :=
  does_of_vc (ss := []) f5_ann mixed call5 Try.func5 rfl rfl (show 0 ≤ Try.f5.ntmps by decide) ((f5_eq  w R).symm ▸ h)
/-- Of escritoire/escritoirelaw16.IndexPlays (function 6): the condition. -/
def f6_vc (p0 : Option Addr) (l0 c0 : Nat) (p1 : Option Addr) (l1 c1 : Nat) (a2 : Int) (w : World) (R : Ending → World → Prop) : Prop :=
  Does Try.prog 7 #[] w fun e13 w13 =>
  ∃ b13 : Bool, e13 = .returned (.bool b13) ∧ Br (!b13)
  (R (.returned (.bool false)) w13)
  (Does Try.prog 16 #[.slice p0 l0 c0, .slice p1 l1 c1] w13 fun e17 w17 =>
  ∃ b17 : Bool, e17 = .returned (.bool b17) ∧ Br (!b17)
  (R (.returned (.bool true)) w17)
  (Does Try.prog 8 #[] w17 fun e19 w19 =>
  ∃ p19 : Option Addr, e19 = .returned (.pointer p19) ∧ Br p19.isNone
  (R (.returned (.bool false)) w19)
  (Does Try.prog 17 #[.slice p0 l0 c0] w19 fun e23 w23 =>
  ∃ (p23 : Option Addr) (l23 c23 : Nat), e23 = .returned (.slice p23 l23 c23) ∧ ∃ I11 : Option Addr → Nat → Nat → Int → Int → Nat → World → Prop, (∃ nl11, I11 p23 l23 c23 0 0 nl11 w23) ∧ ∀ (p0 : Option Addr) (l0 c0 : Nat), ∀ x8 : Int, ∀ x9 : Int, ∀ (nl11 : Nat) (wl11 : World), I11 p0 l0 c0 x8 x9 nl11 wl11 →
  Br (decide (x9 < ((l1 : Int))))
  ((0 ≤ x9 ∧ x9 < (l1 : Int)) ∧ ∃ b32 o32, p1 = some ⟨b32, o32, none⟩ ∧ ∃ n33 : Int, wl11.cell? ⟨b32, o32 + (x9).toNat * 4, none⟩ = some (.int .i64 n33) ∧ ∃ n33_1 : Int, wl11.cell? ⟨b32, o32 + (x9).toNat * 4 + 1, none⟩ = some (.int .i64 n33_1) ∧ ∃ n33_2 : Int, wl11.cell? ⟨b32, o32 + (x9).toNat * 4 + 2, none⟩ = some (.int .i64 n33_2) ∧ ∃ (p33 : Option Addr) (l33 c33 : Nat), wl11.cell? ⟨b32, o32 + (x9).toNat * 4 + 3, none⟩ = some (.slice p33 l33 c33) ∧ ∀ b10 w10, NewBlk wl11 b10 [.int .i64 0, .int .i64 0, .int .i64 0, .slice none 0 0] 38 w10 →
  CanStore w10 b10 0 ∧ ∀ ws, Stored w10 b10 0 (.int .i64 n33) ws →
  CanStore ws b10 1 ∧ ∀ ws_1, Stored ws b10 1 (.int .i64 n33_1) ws_1 →
  CanStore ws_1 b10 2 ∧ ∀ ws_2, Stored ws_1 b10 2 (.int .i64 n33_2) ws_2 →
  CanStore ws_2 b10 3 ∧ ∀ ws_3, Stored ws_2 b10 3 (.slice p33 l33 c33) ws_3 →
  ∃ n92 : Int, ws_3.cell? ⟨b10, 0, none⟩ = some (.int .i64 n92) ∧ Br (decide (n92 ≤ 2))
  (∃ n95 : Int, ws_3.cell? ⟨b10, 2, none⟩ = some (.int .i64 n95) ∧ InK .i64 (((l0 : Int)) - x8) ∧ InK .i64 (x8 + (if ((l0 : Int)) - x8 < if n95 < 0 then 0 else n95 then ((l0 : Int)) - x8 else if n95 < 0 then 0 else n95)) ∧ (0 ≤ (x8 + (if ((l0 : Int)) - x8 < if n95 < 0 then 0 else n95 then ((l0 : Int)) - x8 else if n95 < 0 then 0 else n95)) ∧ (x8 + (if ((l0 : Int)) - x8 < if n95 < 0 then 0 else n95 then ((l0 : Int)) - x8 else if n95 < 0 then 0 else n95)) ≤ (c0 : Int)) ∧ (0 ≤ x8 ∧ x8 ≤ (x8 + (if ((l0 : Int)) - x8 < if n95 < 0 then 0 else n95 then ((l0 : Int)) - x8 else if n95 < 0 then 0 else n95))) ∧ Does Try.prog 9 #[.pointer p19, .slice (subp p0 ((x8).toNat) c0 1) (((x8 + (if ((l0 : Int)) - x8 < if n95 < 0 then 0 else n95 then ((l0 : Int)) - x8 else if n95 < 0 then 0 else n95)).toNat) - ((x8).toNat)) (c0 - ((x8).toNat))] ws_3 fun e109 w109 =>
  e109 = .returned (.tuple #[]) ∧ InK .i64 (x8 + (if ((l0 : Int)) - x8 < if n95 < 0 then 0 else n95 then ((l0 : Int)) - x8 else if n95 < 0 then 0 else n95)) ∧ ∃ n136 : Int, w109.cell? ⟨b10, 1, none⟩ = some (.int .i64 n136) ∧ Does Try.prog 19 #[.pointer p19, .slice p0 l0 c0, .int .i64 (x8 + (if ((l0 : Int)) - x8 < if n95 < 0 then 0 else n95 then ((l0 : Int)) - x8 else if n95 < 0 then 0 else n95)), .int .i64 n136, .int .i64 a2] w109 fun e138 w138 =>
  ∃ b138 : Bool, e138 = .returned (.bool b138) ∧ Br (!b138)
  (R (.returned (.bool false)) w138)
  (∃ n146 : Int, w138.cell? ⟨b10, 2, none⟩ = some (.int .i64 n146) ∧ Does Try.prog 19 #[.pointer p19, .slice p0 l0 c0, .int .i64 (x8 + (if ((l0 : Int)) - x8 < if n95 < 0 then 0 else n95 then ((l0 : Int)) - x8 else if n95 < 0 then 0 else n95)), .int .i64 (x8 + (if ((l0 : Int)) - x8 < if n95 < 0 then 0 else n95 then ((l0 : Int)) - x8 else if n95 < 0 then 0 else n95)), .int .i64 n146] w138 fun e147 w147 =>
  ∃ b147 : Bool, e147 = .returned (.bool b147) ∧ Br (!b147)
  (R (.returned (.bool false)) w147)
  (InK .i64 (x9 + 1) ∧ ∃ ml11, ml11 < nl11 ∧ I11 p0 l0 c0 (x8 + (if ((l0 : Int)) - x8 < if n95 < 0 then 0 else n95 then ((l0 : Int)) - x8 else if n95 < 0 then 0 else n95)) (x9 + 1) ml11 w147)))
  (∃ n115 : Int, ws_3.cell? ⟨b10, 0, none⟩ = some (.int .i64 n115) ∧ Br (n115 == 3)
  (∃ n119 : Int, ws_3.cell? ⟨b10, 1, none⟩ = some (.int .i64 n119) ∧ Does Try.prog 18 #[.pointer p19, .int .i64 n119] ws_3 fun e120 w120 =>
  e120 = .returned (.tuple #[]) ∧ ∃ n122 : Int, w120.cell? ⟨b10, 1, none⟩ = some (.int .i64 n122) ∧ Br (decide (n122 ≥ 0))
  (∃ n126 : Int, w120.cell? ⟨b10, 1, none⟩ = some (.int .i64 n126) ∧ Br (decide (n126 ≤ x8))
  (∃ n131 : Int, w120.cell? ⟨b10, 1, none⟩ = some (.int .i64 n131) ∧ ∃ n136_1 : Int, w120.cell? ⟨b10, 1, none⟩ = some (.int .i64 n136_1) ∧ Does Try.prog 19 #[.pointer p19, .slice p0 l0 c0, .int .i64 n131, .int .i64 n136_1, .int .i64 a2] w120 fun e138_1 w138_1 =>
  ∃ b138_1 : Bool, e138_1 = .returned (.bool b138_1) ∧ Br (!b138_1)
  (R (.returned (.bool false)) w138_1)
  (∃ n146_1 : Int, w138_1.cell? ⟨b10, 2, none⟩ = some (.int .i64 n146_1) ∧ Does Try.prog 19 #[.pointer p19, .slice p0 l0 c0, .int .i64 n131, .int .i64 n131, .int .i64 n146_1] w138_1 fun e147_1 w147_1 =>
  ∃ b147_1 : Bool, e147_1 = .returned (.bool b147_1) ∧ Br (!b147_1)
  (R (.returned (.bool false)) w147_1)
  (InK .i64 (x9 + 1) ∧ ∃ ml11, ml11 < nl11 ∧ I11 p0 l0 c0 n131 (x9 + 1) ml11 w147_1)))
  (∃ n136_2 : Int, w120.cell? ⟨b10, 1, none⟩ = some (.int .i64 n136_2) ∧ Does Try.prog 19 #[.pointer p19, .slice p0 l0 c0, .int .i64 x8, .int .i64 n136_2, .int .i64 a2] w120 fun e138_2 w138_2 =>
  ∃ b138_2 : Bool, e138_2 = .returned (.bool b138_2) ∧ Br (!b138_2)
  (R (.returned (.bool false)) w138_2)
  (∃ n146_2 : Int, w138_2.cell? ⟨b10, 2, none⟩ = some (.int .i64 n146_2) ∧ Does Try.prog 19 #[.pointer p19, .slice p0 l0 c0, .int .i64 x8, .int .i64 x8, .int .i64 n146_2] w138_2 fun e147_2 w147_2 =>
  ∃ b147_2 : Bool, e147_2 = .returned (.bool b147_2) ∧ Br (!b147_2)
  (R (.returned (.bool false)) w147_2)
  (InK .i64 (x9 + 1) ∧ ∃ ml11, ml11 < nl11 ∧ I11 p0 l0 c0 x8 (x9 + 1) ml11 w147_2))))
  (∃ n136_3 : Int, w120.cell? ⟨b10, 1, none⟩ = some (.int .i64 n136_3) ∧ Does Try.prog 19 #[.pointer p19, .slice p0 l0 c0, .int .i64 x8, .int .i64 n136_3, .int .i64 a2] w120 fun e138_3 w138_3 =>
  ∃ b138_3 : Bool, e138_3 = .returned (.bool b138_3) ∧ Br (!b138_3)
  (R (.returned (.bool false)) w138_3)
  (∃ n146_3 : Int, w138_3.cell? ⟨b10, 2, none⟩ = some (.int .i64 n146_3) ∧ Does Try.prog 19 #[.pointer p19, .slice p0 l0 c0, .int .i64 x8, .int .i64 x8, .int .i64 n146_3] w138_3 fun e147_3 w147_3 =>
  ∃ b147_3 : Bool, e147_3 = .returned (.bool b147_3) ∧ Br (!b147_3)
  (R (.returned (.bool false)) w147_3)
  (InK .i64 (x9 + 1) ∧ ∃ ml11, ml11 < nl11 ∧ I11 p0 l0 c0 x8 (x9 + 1) ml11 w147_3))))
  (∃ n36 : Int, ws_3.cell? ⟨b10, 1, none⟩ = some (.int .i64 n36) ∧ ∃ n38 : Int, ws_3.cell? ⟨b10, 2, none⟩ = some (.int .i64 n38) ∧ ∃ (p40 : Option Addr) (l40 c40 : Nat), ws_3.cell? ⟨b10, 3, none⟩ = some (.slice p40 l40 c40) ∧ Does Try.prog 15 #[.pointer p19, .int .i64 n36, .int .i64 n38, .slice p40 l40 c40] ws_3 fun e41 w41 =>
  e41 = .returned (.tuple #[]) ∧ ∃ n43 : Int, w41.cell? ⟨b10, 1, none⟩ = some (.int .i64 n43) ∧ Br (decide (n43 < 0))
  (∃ n136_4 : Int, w41.cell? ⟨b10, 1, none⟩ = some (.int .i64 n136_4) ∧ Does Try.prog 19 #[.pointer p19, .slice p0 l0 c0, .int .i64 x8, .int .i64 n136_4, .int .i64 a2] w41 fun e138_4 w138_4 =>
  ∃ b138_4 : Bool, e138_4 = .returned (.bool b138_4) ∧ Br (!b138_4)
  (R (.returned (.bool false)) w138_4)
  (∃ n146_4 : Int, w138_4.cell? ⟨b10, 2, none⟩ = some (.int .i64 n146_4) ∧ Does Try.prog 19 #[.pointer p19, .slice p0 l0 c0, .int .i64 x8, .int .i64 x8, .int .i64 n146_4] w138_4 fun e147_4 w147_4 =>
  ∃ b147_4 : Bool, e147_4 = .returned (.bool b147_4) ∧ Br (!b147_4)
  (R (.returned (.bool false)) w147_4)
  (InK .i64 (x9 + 1) ∧ ∃ ml11, ml11 < nl11 ∧ I11 p0 l0 c0 x8 (x9 + 1) ml11 w147_4)))
  (∃ n47 : Int, w41.cell? ⟨b10, 2, none⟩ = some (.int .i64 n47) ∧ Br (decide (n47 < 0))
  (∃ n136_5 : Int, w41.cell? ⟨b10, 1, none⟩ = some (.int .i64 n136_5) ∧ Does Try.prog 19 #[.pointer p19, .slice p0 l0 c0, .int .i64 x8, .int .i64 n136_5, .int .i64 a2] w41 fun e138_5 w138_5 =>
  ∃ b138_5 : Bool, e138_5 = .returned (.bool b138_5) ∧ Br (!b138_5)
  (R (.returned (.bool false)) w138_5)
  (∃ n146_5 : Int, w138_5.cell? ⟨b10, 2, none⟩ = some (.int .i64 n146_5) ∧ Does Try.prog 19 #[.pointer p19, .slice p0 l0 c0, .int .i64 x8, .int .i64 x8, .int .i64 n146_5] w138_5 fun e147_5 w147_5 =>
  ∃ b147_5 : Bool, e147_5 = .returned (.bool b147_5) ∧ Br (!b147_5)
  (R (.returned (.bool false)) w147_5)
  (InK .i64 (x9 + 1) ∧ ∃ ml11, ml11 < nl11 ∧ I11 p0 l0 c0 x8 (x9 + 1) ml11 w147_5)))
  (∃ n52 : Int, w41.cell? ⟨b10, 1, none⟩ = some (.int .i64 n52) ∧ Br (decide (n52 > x8))
  (∃ n136_6 : Int, w41.cell? ⟨b10, 1, none⟩ = some (.int .i64 n136_6) ∧ Does Try.prog 19 #[.pointer p19, .slice p0 l0 c0, .int .i64 x8, .int .i64 n136_6, .int .i64 a2] w41 fun e138_6 w138_6 =>
  ∃ b138_6 : Bool, e138_6 = .returned (.bool b138_6) ∧ Br (!b138_6)
  (R (.returned (.bool false)) w138_6)
  (∃ n146_6 : Int, w138_6.cell? ⟨b10, 2, none⟩ = some (.int .i64 n146_6) ∧ Does Try.prog 19 #[.pointer p19, .slice p0 l0 c0, .int .i64 x8, .int .i64 x8, .int .i64 n146_6] w138_6 fun e147_6 w147_6 =>
  ∃ b147_6 : Bool, e147_6 = .returned (.bool b147_6) ∧ Br (!b147_6)
  (R (.returned (.bool false)) w147_6)
  (InK .i64 (x9 + 1) ∧ ∃ ml11, ml11 < nl11 ∧ I11 p0 l0 c0 x8 (x9 + 1) ml11 w147_6)))
  (∃ n57 : Int, w41.cell? ⟨b10, 2, none⟩ = some (.int .i64 n57) ∧ ∃ n60 : Int, w41.cell? ⟨b10, 1, none⟩ = some (.int .i64 n60) ∧ InK .i64 (x8 - n60) ∧ Br (decide (n57 > (x8 - n60)))
  (∃ n64 : Int, w41.cell? ⟨b10, 1, none⟩ = some (.int .i64 n64) ∧ ∃ n136_7 : Int, w41.cell? ⟨b10, 1, none⟩ = some (.int .i64 n136_7) ∧ Does Try.prog 19 #[.pointer p19, .slice p0 l0 c0, .int .i64 n64, .int .i64 n136_7, .int .i64 a2] w41 fun e138_7 w138_7 =>
  ∃ b138_7 : Bool, e138_7 = .returned (.bool b138_7) ∧ Br (!b138_7)
  (R (.returned (.bool false)) w138_7)
  (∃ n146_7 : Int, w138_7.cell? ⟨b10, 2, none⟩ = some (.int .i64 n146_7) ∧ Does Try.prog 19 #[.pointer p19, .slice p0 l0 c0, .int .i64 n64, .int .i64 n64, .int .i64 n146_7] w138_7 fun e147_7 w147_7 =>
  ∃ b147_7 : Bool, e147_7 = .returned (.bool b147_7) ∧ Br (!b147_7)
  (R (.returned (.bool false)) w147_7)
  (InK .i64 (x9 + 1) ∧ ∃ ml11, ml11 < nl11 ∧ I11 p0 l0 c0 n64 (x9 + 1) ml11 w147_7)))
  (∀ wd18, Drew w41 wd18 →
  ∃ S18 : World → Prop, S18 wd18 ∧ ∃ n67 : Int, wd18.cell? ⟨b10, 1, none⟩ = some (.int .i64 n67) ∧ (0 ≤ n67 ∧ n67 ≤ (c0 : Int)) ∧ Does Try.prog 17 #[.slice (subp p0 0 c0 1) (((n67).toNat) - 0) (c0 - 0)] wd18 fun e69 w69 =>
  ∃ (p69 : Option Addr) (l69 c69 : Nat), e69 = .returned (.slice p69 l69 c69) ∧ S18 w69 ∧ ∃ (p71 : Option Addr) (l71 c71 : Nat), (∀ w, S18 w → w.cell? ⟨b10, 3, none⟩ = some (.slice p71 l71 c71)) ∧ ∃ (p72 : Option Addr) (l72 c72 : Nat) (w72 : World), (Builtin.append_ #[22, 22] 22 #[.slice p69 l69 c69, .slice p71 l71 c71]).run Try.prog w69 = .ok (.slice p72 l72 c72) w72 ∧
  ∃ n76 : Int, w72.cell? ⟨b10, 1, none⟩ = some (.int .i64 n76) ∧ ∃ n78 : Int, w72.cell? ⟨b10, 2, none⟩ = some (.int .i64 n78) ∧ InK .i64 (n76 + n78) ∧ (0 ≤ (n76 + n78) ∧ (n76 + n78) ≤ (l0 : Int)) ∧ ∃ (p81 : Option Addr) (l81 c81 : Nat) (w81 : World), (Builtin.append_ #[22, 22] 22 #[.slice p72 l72 c72, .slice (subp p0 ((n76 + n78).toNat) c0 1) (l0 - ((n76 + n78).toNat)) (c0 - ((n76 + n78).toNat))]).run Try.prog w72 = .ok (.slice p81 l81 c81) w81 ∧
  ∃ (p84 : Option Addr) (l84 c84 : Nat), w81.cell? ⟨b10, 3, none⟩ = some (.slice p84 l84 c84) ∧ InK .i64 (x8 + ((l84 : Int))) ∧ ∃ n88 : Int, w81.cell? ⟨b10, 2, none⟩ = some (.int .i64 n88) ∧ InK .i64 ((x8 + ((l84 : Int))) - n88) ∧ ∃ n136_8 : Int, w81.cell? ⟨b10, 1, none⟩ = some (.int .i64 n136_8) ∧ Does Try.prog 19 #[.pointer p19, .slice p81 l81 c81, .int .i64 ((x8 + ((l84 : Int))) - n88), .int .i64 n136_8, .int .i64 a2] w81 fun e138_8 w138_8 =>
  ∃ b138_8 : Bool, e138_8 = .returned (.bool b138_8) ∧ Br (!b138_8)
  (R (.returned (.bool false)) w138_8)
  (∃ n146_8 : Int, w138_8.cell? ⟨b10, 2, none⟩ = some (.int .i64 n146_8) ∧ Does Try.prog 19 #[.pointer p19, .slice p81 l81 c81, .int .i64 ((x8 + ((l84 : Int))) - n88), .int .i64 ((x8 + ((l84 : Int))) - n88), .int .i64 n146_8] w138_8 fun e147_8 w147_8 =>
  ∃ b147_8 : Bool, e147_8 = .returned (.bool b147_8) ∧ Br (!b147_8)
  (R (.returned (.bool false)) w147_8)
  (InK .i64 (x9 + 1) ∧ ∃ ml11, ml11 < nl11 ∧ I11 p81 l81 c81 ((x8 + ((l84 : Int))) - n88) (x9 + 1) ml11 w147_8)))))))))
  (R (.returned (.bool true)) wl11))))
def f6_ann : Ann := { loops := [(11, [(0, .slice), (8, .int .i64), (9, .int .i64)])], cuts := [], flip := [], throws := [] }
theorem f6_eq (p0 : Option Addr) (l0 c0 : Nat) (p1 : Option Addr) (l1 c1 : Nat) (a2 : Int) (w : World) (R : Ending → World → Prop) : vc Try.prog f6_ann (bodyOf Try.f6) (retQ Try.prog Try.f6 R) (envOf Try.f6.ntmps [.v (.slice p0 l0 c0), .v (.slice p1 l1 c1), .v (.int .i64 a2)]) w = f6_vc p0 l0 c0 p1 l1 c1 a2 w R := by kernel_rfl
theorem f6_does (p0 : Option Addr) (l0 c0 : Nat) (p1 : Option Addr) (l1 c1 : Nat) (a2 : Int) {w : World} {R : Ending → World → Prop} (h : f6_vc p0 l0 c0 p1 l1 c1 a2 w R) : Does Try.prog 6 #[.slice p0 l0 c0, .slice p1 l1 c1, .int .i64 a2] w R :=
  does_of_vc (ss := [.v (.slice p0 l0 c0), .v (.slice p1 l1 c1), .v (.int .i64 a2)]) f6_ann mixed call6 Try.func6 rfl rfl (show 3 ≤ Try.f6.ntmps by decide) ((f6_eq p0 l0 c0 p1 l1 c1 a2 w R).symm ▸ h)
/-- Of escritoire/escritoirelaw16.awake (function 7): the condition. -/
def f7_vc  (w : World) (R : Ending → World → Prop) : Prop :=
  Does Try.prog 8 #[] w fun e6 w6 =>
  ∃ p6 : Option Addr, e6 = .returned (.pointer p6) ∧ Br p6.isNone
  (R (.returned (.bool false)) w6)
  (∀ b10 w10, NewBlk w6 b10 [.int .u8 97, .int .u8 98, .int .u8 10, .int .u8 99] 5 w10 →
  ∃ (p11 : Option Addr) (l11 c11 : Nat), ∃ w11, (convert 22 22 (.slice (some ⟨b10, 0, none⟩) 4 4)).run Try.prog w10 = .ok (.slice p11 l11 c11) w11 ∧ Does Try.prog 9 #[.pointer p6, .slice p11 l11 c11] w11 fun e12 w12 =>
  e12 = .returned (.tuple #[]) ∧ ∀ b14 w14, NewBlk w12 b14 [.int .u8 100, .int .u8 10] 5 w14 →
  ∃ (p15 : Option Addr) (l15 c15 : Nat), ∃ w15, (convert 22 22 (.slice (some ⟨b14, 0, none⟩) 2 2)).run Try.prog w14 = .ok (.slice p15 l15 c15) w15 ∧ Does Try.prog 9 #[.pointer p6, .slice p15 l15 c15] w15 fun e16 w16 =>
  e16 = .returned (.tuple #[]) ∧ Does Try.prog 10 #[.pointer p6, .int .i64 1] w16 fun e19 w19 =>
  ∃ n19 : Int, ∃ b19 : Bool, e19 = .returned (.tuple #[.int .i64 n19, .bool b19]) ∧ Does Try.prog 11 #[.pointer p6, .int .i64 4] w19 fun e24 w24 =>
  ∃ n24 : Int, ∃ b24 : Bool, e24 = .returned (.tuple #[.int .i64 n24, .bool b24]) ∧ Br b19
  (Br (n19 == 3)
  (Br b24
  (Br (n24 == 1)
  (Does Try.prog 12 #[.pointer p6] w24 fun e41 w41 =>
  ∃ n41 : Int, e41 = .returned (.int .i64 n41) ∧ Br (n41 == 6)
  (Does Try.prog 13 #[.pointer p6] w41 fun e46 w46 =>
  ∃ n46 : Int, e46 = .returned (.int .i64 n46) ∧ R (.returned (.bool (n46 == 2))) w46)
  (R (.returned (.bool false)) w41))
  (R (.returned (.bool false)) w24))
  (R (.returned (.bool false)) w24))
  (R (.returned (.bool false)) w24))
  (R (.returned (.bool false)) w24))
def f7_ann : Ann := { loops := [], cuts := [], flip := [], throws := [] }
theorem f7_eq  (w : World) (R : Ending → World → Prop) : vc Try.prog f7_ann (bodyOf Try.f7) (retQ Try.prog Try.f7 R) (envOf Try.f7.ntmps []) w = f7_vc  w R := by kernel_rfl
theorem f7_does  {w : World} {R : Ending → World → Prop} (h : f7_vc  w R) : Does Try.prog 7 #[] w R :=
  does_of_vc (ss := []) f7_ann mixed call7 Try.func7 rfl rfl (show 0 ≤ Try.f7.ntmps by decide) ((f7_eq  w R).symm ▸ h)
/-- Of escritoire/index.New (function 8): the condition. -/
def f8_vc  (w : World) (R : Ending → World → Prop) : Prop :=
  ∀ b2 w2, NewBlk w b2 [.int .i64 0, .slice none 0 0] 44 w2 →
  R (.returned (.pointer (some ⟨b2, 0, none⟩))) w2
def f8_ann : Ann := { loops := [], cuts := [], flip := [], throws := [] }
theorem f8_eq  (w : World) (R : Ending → World → Prop) : vc Try.prog f8_ann (bodyOf Try.f8) (retQ Try.prog Try.f8 R) (envOf Try.f8.ntmps []) w = f8_vc  w R := by kernel_rfl
theorem f8_does  {w : World} {R : Ending → World → Prop} (h : f8_vc  w R) : Does Try.prog 8 #[] w R :=
  does_of_vc (ss := []) f8_ann mixed call8 Try.func8 rfl rfl (show 0 ≤ Try.f8.ntmps by decide) ((f8_eq  w R).symm ▸ h)
/-- Of (*escritoire/index.Index).Step (function 9): the condition. -/
def f9_vc (a0 : Option Addr) (p1 : Option Addr) (l1 c1 : Nat) (w : World) (R : Ending → World → Prop) : Prop :=
  Br (!a0.isNone)
  (∀ wd1, Drew w wd1 →
  ∃ S1 : World → Prop, S1 wd1 ∧ ∃ b8 o8, a0 = some ⟨b8, o8, none⟩ ∧ ∃ (p10 : Option Addr) (l10 c10 : Nat), (∀ w, S1 w → w.cell? ⟨b8, o8 + 1, none⟩ = some (.slice p10 l10 c10)) ∧ ∃ b13 o13, a0 = some ⟨b13, o13, none⟩ ∧ ∃ n15 : Int, wd1.cell? ⟨b13, o13, none⟩ = some (.int .i64 n15) ∧ Does Try.prog 20 #[.slice p1 l1 c1, .int .i64 n15] wd1 fun e16 w16 =>
  ∃ (p16 : Option Addr) (l16 c16 : Nat), e16 = .returned (.slice p16 l16 c16) ∧ S1 w16 ∧ ∃ (p17 : Option Addr) (l17 c17 : Nat) (w17 : World), (Builtin.append_ #[42, 42] 42 #[.slice p10 l10 c10, .slice p16 l16 c16]).run Try.prog w16 = .ok (.slice p17 l17 c17) w17 ∧
  ∃ b18 o18, a0 = some ⟨b18, o18, none⟩ ∧ CanStore w17 b18 (o18 + 1) ∧ ∀ ws, Stored w17 b18 (o18 + 1) (.slice p17 l17 c17) ws →
  ∃ b21 o21, a0 = some ⟨b21, o21, none⟩ ∧ ∃ n23 : Int, ws.cell? ⟨b21, o21, none⟩ = some (.int .i64 n23) ∧ InK .i64 (n23 + ((l1 : Int))) ∧ ∃ b27 o27, a0 = some ⟨b27, o27, none⟩ ∧ CanStore ws b27 o27 ∧ ∀ ws_1, Stored ws b27 o27 (.int .i64 (n23 + ((l1 : Int)))) ws_1 →
  R (.returned (.tuple #[])) ws_1)
  (R (.returned (.tuple #[])) w)
def f9_ann : Ann := { loops := [], cuts := [], flip := [], throws := [] }
theorem f9_eq (a0 : Option Addr) (p1 : Option Addr) (l1 c1 : Nat) (w : World) (R : Ending → World → Prop) : vc Try.prog f9_ann (bodyOf Try.f9) (retQ Try.prog Try.f9 R) (envOf Try.f9.ntmps [.v (.pointer a0), .v (.slice p1 l1 c1)]) w = f9_vc a0 p1 l1 c1 w R := by kernel_rfl
theorem f9_does (a0 : Option Addr) (p1 : Option Addr) (l1 c1 : Nat) {w : World} {R : Ending → World → Prop} (h : f9_vc a0 p1 l1 c1 w R) : Does Try.prog 9 #[.pointer a0, .slice p1 l1 c1] w R :=
  does_of_vc (ss := [.v (.pointer a0), .v (.slice p1 l1 c1)]) f9_ann mixed call9 Try.func9 rfl rfl (show 2 ≤ Try.f9.ntmps by decide) ((f9_eq a0 p1 l1 c1 w R).symm ▸ h)
/-- Of (*escritoire/index.Index).Begin (function 10): the condition. -/
def f10_vc (a0 : Option Addr) (a1 : Int) (w : World) (R : Ending → World → Prop) : Prop :=
  Br a0.isNone
  (R (.returned (.tuple #[.int .i64 0, .bool false])) w)
  (Br (decide (a1 < 0))
  (R (.returned (.tuple #[.int .i64 0, .bool false])) w)
  (∃ b16 o16, a0 = some ⟨b16, o16, none⟩ ∧ ∃ (p18 : Option Addr) (l18 c18 : Nat), w.cell? ⟨b16, o16 + 1, none⟩ = some (.slice p18 l18 c18) ∧ Br (decide (a1 > ((l18 : Int))))
  (R (.returned (.tuple #[.int .i64 0, .bool false])) w)
  (Br (a1 == 0)
  (R (.returned (.tuple #[.int .i64 0, .bool true])) w)
  (∃ b26 o26, a0 = some ⟨b26, o26, none⟩ ∧ ∃ (p28 : Option Addr) (l28 c28 : Nat), w.cell? ⟨b26, o26 + 1, none⟩ = some (.slice p28 l28 c28) ∧ InK .i64 (a1 - 1) ∧ (0 ≤ (a1 - 1) ∧ (a1 - 1) < (l28 : Int)) ∧ ∃ b31 o31, p28 = some ⟨b31, o31, none⟩ ∧ ∃ n32 : Int, w.cell? ⟨b31, o31 + (a1 - 1).toNat, none⟩ = some (.int .i64 n32) ∧ R (.returned (.tuple #[.int .i64 n32, .bool true])) w))))
def f10_ann : Ann := { loops := [], cuts := [], flip := [], throws := [] }
theorem f10_eq (a0 : Option Addr) (a1 : Int) (w : World) (R : Ending → World → Prop) : vc Try.prog f10_ann (bodyOf Try.f10) (retQ Try.prog Try.f10 R) (envOf Try.f10.ntmps [.v (.pointer a0), .v (.int .i64 a1)]) w = f10_vc a0 a1 w R := by kernel_rfl
theorem f10_does (a0 : Option Addr) (a1 : Int) {w : World} {R : Ending → World → Prop} (h : f10_vc a0 a1 w R) : Does Try.prog 10 #[.pointer a0, .int .i64 a1] w R :=
  does_of_vc (ss := [.v (.pointer a0), .v (.int .i64 a1)]) f10_ann mixed call10 Try.func10 rfl rfl (show 2 ≤ Try.f10.ntmps by decide) ((f10_eq a0 a1 w R).symm ▸ h)
/-- Of (*escritoire/index.Index).Line (function 11): the condition. -/
def f11_vc (a0 : Option Addr) (a1 : Int) (w : World) (R : Ending → World → Prop) : Prop :=
  Br a0.isNone
  (R (.returned (.tuple #[.int .i64 0, .bool false])) w)
  (Br (decide (a1 < 0))
  (R (.returned (.tuple #[.int .i64 0, .bool false])) w)
  (∃ b15 o15, a0 = some ⟨b15, o15, none⟩ ∧ ∃ n17 : Int, w.cell? ⟨b15, o15, none⟩ = some (.int .i64 n17) ∧ Br (decide (a1 > n17))
  (R (.returned (.tuple #[.int .i64 0, .bool false])) w)
  (∃ b21 o21, a0 = some ⟨b21, o21, none⟩ ∧ ∃ (p23 : Option Addr) (l23 c23 : Nat), w.cell? ⟨b21, o21 + 1, none⟩ = some (.slice p23 l23 c23) ∧ Does Try.prog 21 #[.slice p23 l23 c23, .int .i64 a1] w fun e25 w25 =>
  ∃ n25 : Int, e25 = .returned (.int .i64 n25) ∧ R (.returned (.tuple #[.int .i64 n25, .bool true])) w25)))
def f11_ann : Ann := { loops := [], cuts := [], flip := [], throws := [] }
theorem f11_eq (a0 : Option Addr) (a1 : Int) (w : World) (R : Ending → World → Prop) : vc Try.prog f11_ann (bodyOf Try.f11) (retQ Try.prog Try.f11 R) (envOf Try.f11.ntmps [.v (.pointer a0), .v (.int .i64 a1)]) w = f11_vc a0 a1 w R := by kernel_rfl
theorem f11_does (a0 : Option Addr) (a1 : Int) {w : World} {R : Ending → World → Prop} (h : f11_vc a0 a1 w R) : Does Try.prog 11 #[.pointer a0, .int .i64 a1] w R :=
  does_of_vc (ss := [.v (.pointer a0), .v (.int .i64 a1)]) f11_ann mixed call11 Try.func11 rfl rfl (show 2 ≤ Try.f11.ntmps by decide) ((f11_eq a0 a1 w R).symm ▸ h)
/-- Of (*escritoire/index.Index).Seen (function 12): the condition. -/
def f12_vc (a0 : Option Addr) (w : World) (R : Ending → World → Prop) : Prop :=
  Br a0.isNone
  (R (.returned (.int .i64 0)) w)
  (∃ b6 o6, a0 = some ⟨b6, o6, none⟩ ∧ ∃ n8 : Int, w.cell? ⟨b6, o6, none⟩ = some (.int .i64 n8) ∧ R (.returned (.int .i64 n8)) w)
def f12_ann : Ann := { loops := [], cuts := [], flip := [], throws := [] }
theorem f12_eq (a0 : Option Addr) (w : World) (R : Ending → World → Prop) : vc Try.prog f12_ann (bodyOf Try.f12) (retQ Try.prog Try.f12 R) (envOf Try.f12.ntmps [.v (.pointer a0)]) w = f12_vc a0 w R := by kernel_rfl
theorem f12_does (a0 : Option Addr) {w : World} {R : Ending → World → Prop} (h : f12_vc a0 w R) : Does Try.prog 12 #[.pointer a0] w R :=
  does_of_vc (ss := [.v (.pointer a0)]) f12_ann mixed call12 Try.func12 rfl rfl (show 1 ≤ Try.f12.ntmps by decide) ((f12_eq a0 w R).symm ▸ h)
/-- Of (*escritoire/index.Index).Known (function 13): the condition. -/
def f13_vc (a0 : Option Addr) (w : World) (R : Ending → World → Prop) : Prop :=
  Br a0.isNone
  (R (.returned (.int .i64 0)) w)
  (∃ b6 o6, a0 = some ⟨b6, o6, none⟩ ∧ ∃ (p8 : Option Addr) (l8 c8 : Nat), w.cell? ⟨b6, o6 + 1, none⟩ = some (.slice p8 l8 c8) ∧ R (.returned (.int .i64 ((l8 : Int)))) w)
def f13_ann : Ann := { loops := [], cuts := [], flip := [], throws := [] }
theorem f13_eq (a0 : Option Addr) (w : World) (R : Ending → World → Prop) : vc Try.prog f13_ann (bodyOf Try.f13) (retQ Try.prog Try.f13 R) (envOf Try.f13.ntmps [.v (.pointer a0)]) w = f13_vc a0 w R := by kernel_rfl
theorem f13_does (a0 : Option Addr) {w : World} {R : Ending → World → Prop} (h : f13_vc a0 w R) : Does Try.prog 13 #[.pointer a0] w R :=
  does_of_vc (ss := [.v (.pointer a0)]) f13_ann mixed call13 Try.func13 rfl rfl (show 1 ≤ Try.f13.ntmps by decide) ((f13_eq a0 w R).symm ▸ h)
/-- Of escritoire/escritoireref16.Lines (function 14): the condition. -/
def f14_vc (p0 : Option Addr) (l0 c0 : Nat) (w : World) (R : Ending → World → Prop) : Prop :=
  ∃ I3 : Int → Int → Nat → World → Prop, (∃ nl3, I3 0 0 nl3 w) ∧ ∀ x3 : Int, ∀ x4 : Int, ∀ (nl3 : Nat) (wl3 : World), I3 x3 x4 nl3 wl3 →
  Br (decide (x4 < ((l0 : Int))))
  ((0 ≤ x4 ∧ x4 < (l0 : Int)) ∧ ∃ b13 o13, p0 = some ⟨b13, o13, none⟩ ∧ ∃ n14 : Int, wl3.cell? ⟨b13, o13 + (x4).toNat, none⟩ = some (.int .u8 n14) ∧ Br (n14 == 10)
  (InK .i64 (x3 + 1) ∧ InK .i64 (x4 + 1) ∧ ∃ ml3, ml3 < nl3 ∧ I3 (x3 + 1) (x4 + 1) ml3 wl3)
  (InK .i64 (x4 + 1) ∧ ∃ ml3, ml3 < nl3 ∧ I3 x3 (x4 + 1) ml3 wl3))
  (R (.returned (.int .i64 x3)) wl3)
def f14_ann : Ann := { loops := [(3, [(3, .int .i64), (4, .int .i64)])], cuts := [], flip := [], throws := [] }
theorem f14_eq (p0 : Option Addr) (l0 c0 : Nat) (w : World) (R : Ending → World → Prop) : vc Try.prog f14_ann (bodyOf Try.f14) (retQ Try.prog Try.f14 R) (envOf Try.f14.ntmps [.v (.slice p0 l0 c0)]) w = f14_vc p0 l0 c0 w R := by kernel_rfl
theorem f14_does (p0 : Option Addr) (l0 c0 : Nat) {w : World} {R : Ending → World → Prop} (h : f14_vc p0 l0 c0 w R) : Does Try.prog 14 #[.slice p0 l0 c0] w R :=
  does_of_vc (ss := [.v (.slice p0 l0 c0)]) f14_ann mixed call14 Try.func14 rfl rfl (show 1 ≤ Try.f14.ntmps by decide) ((f14_eq p0 l0 c0 w R).symm ▸ h)
/-- Of (*escritoire/index.Index).Edit (function 15): the condition. -/
def f15_vc (a0 : Option Addr) (a1 : Int) (a2 : Int) (p3 : Option Addr) (l3 c3 : Nat) (w : World) (R : Ending → World → Prop) : Prop :=
  Br a0.isNone
  (R (.returned (.tuple #[])) w)
  (Br (decide (a1 < 0))
  (R (.returned (.tuple #[])) w)
  (Br (decide (a2 < 0))
  (R (.returned (.tuple #[])) w)
  (∃ b26 o26, a0 = some ⟨b26, o26, none⟩ ∧ ∃ n28 : Int, w.cell? ⟨b26, o26, none⟩ = some (.int .i64 n28) ∧ Br (decide (a1 > n28))
  (R (.returned (.tuple #[])) w)
  (∃ b33 o33, a0 = some ⟨b33, o33, none⟩ ∧ ∃ n35 : Int, w.cell? ⟨b33, o33, none⟩ = some (.int .i64 n35) ∧ InK .i64 (n35 - a1) ∧ Br (decide (a2 > (n35 - a1)))
  (Does Try.prog 18 #[.pointer a0, .int .i64 a1] w fun e41 w41 =>
  e41 = .returned (.tuple #[]) ∧ R (.returned (.tuple #[])) w41)
  (∀ wd3, Drew w wd3 →
  ∃ S3 : World → Prop, S3 wd3 ∧ ∃ b43 o43, a0 = some ⟨b43, o43, none⟩ ∧ ∃ (p45 : Option Addr) (l45 c45 : Nat), wd3.cell? ⟨b43, o43 + 1, none⟩ = some (.slice p45 l45 c45) ∧ Does Try.prog 21 #[.slice p45 l45 c45, .int .i64 a1] wd3 fun e47 w47 =>
  ∃ n47 : Int, e47 = .returned (.int .i64 n47) ∧ S3 w47 ∧ ∃ b49 o49, a0 = some ⟨b49, o49, none⟩ ∧ ∃ (p51 : Option Addr) (l51 c51 : Nat), (∀ w, S3 w → w.cell? ⟨b49, o49 + 1, none⟩ = some (.slice p51 l51 c51)) ∧ InK .i64 (a1 + a2) ∧ Does Try.prog 21 #[.slice p51 l51 c51, .int .i64 (a1 + a2)] w47 fun e55 w55 =>
  ∃ n55 : Int, e55 = .returned (.int .i64 n55) ∧ ∀ wd4, Drew w55 wd4 →
  ∃ S4 : World → Prop, S4 wd4 ∧ ∃ b57 o57, a0 = some ⟨b57, o57, none⟩ ∧ ∃ (p59 : Option Addr) (l59 c59 : Nat), (∀ w, S4 w → w.cell? ⟨b57, o57 + 1, none⟩ = some (.slice p59 l59 c59)) ∧ (0 ≤ n47 ∧ n47 ≤ (c59 : Int)) ∧ (0 ≤ n47 ∧ n47 ≤ n47) ∧ Does Try.prog 20 #[.slice p3 l3 c3, .int .i64 a1] wd4 fun e65 w65 =>
  ∃ (p65 : Option Addr) (l65 c65 : Nat), e65 = .returned (.slice p65 l65 c65) ∧ S4 w65 ∧ ∃ (p66 : Option Addr) (l66 c66 : Nat) (w66 : World), (Builtin.append_ #[42, 42] 42 #[.slice (subp p59 0 ((n47).toNat) 1) (((n47).toNat) - 0) (((n47).toNat) - 0), .slice p65 l65 c65]).run Try.prog w65 = .ok (.slice p66 l66 c66) w66 ∧
  ∃ b68 o68, a0 = some ⟨b68, o68, none⟩ ∧ ∃ (p70 : Option Addr) (l70 c70 : Nat), w66.cell? ⟨b68, o68 + 1, none⟩ = some (.slice p70 l70 c70) ∧ (0 ≤ n55 ∧ n55 ≤ (l70 : Int)) ∧ ∃ I6 : Option Addr → Nat → Nat → Int → Nat → World → Prop, (∃ nl6, I6 p66 l66 c66 0 nl6 w66) ∧ ∀ (p10 : Option Addr) (l10 c10 : Nat), ∀ x74 : Int, ∀ (nl6 : Nat) (wl6 : World), I6 p10 l10 c10 x74 nl6 wl6 →
  Br (decide (x74 < (((l70 - ((n55).toNat) : Nat) : Int))))
  ((0 ≤ x74 ∧ x74 < ((l70 - ((n55).toNat) : Nat) : Int)) ∧ ∃ b76 o76, subp p70 ((n55).toNat) c70 1 = some ⟨b76, o76, none⟩ ∧ ∃ n77 : Int, wl6.cell? ⟨b76, o76 + (x74).toNat, none⟩ = some (.int .i64 n77) ∧ InK .i64 (n77 + ((l3 : Int))) ∧ InK .i64 ((n77 + ((l3 : Int))) - a2) ∧ ∀ b85 w85, NewBlk wl6 b85 [.int .i64 ((n77 + ((l3 : Int))) - a2)] 3 w85 →
  ∃ (p86 : Option Addr) (l86 c86 : Nat) (w86 : World), (Builtin.append_ #[42, 42] 42 #[.slice p10 l10 c10, .slice (some ⟨b85, 0, none⟩) 1 1]).run Try.prog w85 = .ok (.slice p86 l86 c86) w86 ∧
  InK .i64 (x74 + 1) ∧ ∃ ml6, ml6 < nl6 ∧ I6 p86 l86 c86 (x74 + 1) ml6 w86)
  (∃ b91 o91, a0 = some ⟨b91, o91, none⟩ ∧ ∃ n93 : Int, wl6.cell? ⟨b91, o91, none⟩ = some (.int .i64 n93) ∧ InK .i64 (n93 + ((l3 : Int))) ∧ InK .i64 ((n93 + ((l3 : Int))) - a2) ∧ ∃ b100 o100, a0 = some ⟨b100, o100, none⟩ ∧ CanStore wl6 b100 o100 ∧ ∀ ws, Stored wl6 b100 o100 (.int .i64 ((n93 + ((l3 : Int))) - a2)) ws →
  ∃ b102 o102, a0 = some ⟨b102, o102, none⟩ ∧ CanStore ws b102 (o102 + 1) ∧ ∀ ws_1, Stored ws b102 (o102 + 1) (.slice p10 l10 c10) ws_1 →
  R (.returned (.tuple #[])) ws_1))))))
def f15_ann : Ann := { loops := [(6, [(10, .slice), (74, .int .i64)])], cuts := [], flip := [], throws := [] }
theorem f15_eq (a0 : Option Addr) (a1 : Int) (a2 : Int) (p3 : Option Addr) (l3 c3 : Nat) (w : World) (R : Ending → World → Prop) : vc Try.prog f15_ann (bodyOf Try.f15) (retQ Try.prog Try.f15 R) (envOf Try.f15.ntmps [.v (.pointer a0), .v (.int .i64 a1), .v (.int .i64 a2), .v (.slice p3 l3 c3)]) w = f15_vc a0 a1 a2 p3 l3 c3 w R := by kernel_rfl
theorem f15_does (a0 : Option Addr) (a1 : Int) (a2 : Int) (p3 : Option Addr) (l3 c3 : Nat) {w : World} {R : Ending → World → Prop} (h : f15_vc a0 a1 a2 p3 l3 c3 w R) : Does Try.prog 15 #[.pointer a0, .int .i64 a1, .int .i64 a2, .slice p3 l3 c3] w R :=
  does_of_vc (ss := [.v (.pointer a0), .v (.int .i64 a1), .v (.int .i64 a2), .v (.slice p3 l3 c3)]) f15_ann mixed call15 Try.func15 rfl rfl (show 4 ≤ Try.f15.ntmps by decide) ((f15_eq a0 a1 a2 p3 l3 c3 w R).symm ▸ h)
/-- Of escritoire/escritoirelaw16.room (function 16): the condition. -/
def f16_vc (p0 : Option Addr) (l0 c0 : Nat) (p1 : Option Addr) (l1 c1 : Nat) (w : World) (R : Ending → World → Prop) : Prop :=
  Br (decide (((l0 : Int)) > 3000))
  (R (.returned (.bool false)) w)
  (Br (decide (((l1 : Int)) > 100))
  (R (.returned (.bool false)) w)
  (∃ I4 : Int → Nat → World → Prop, (∃ nl4, I4 0 nl4 w) ∧ ∀ x5 : Int, ∀ (nl4 : Nat) (wl4 : World), I4 x5 nl4 wl4 →
  Br (decide (x5 < ((l1 : Int))))
  ((0 ≤ x5 ∧ x5 < (l1 : Int)) ∧ ∃ b22 o22, p1 = some ⟨b22, o22, none⟩ ∧ ∃ (p24 : Option Addr) (l24 c24 : Nat), wl4.cell? ⟨b22, o22 + (x5).toNat * 4 + 3, none⟩ = some (.slice p24 l24 c24) ∧ Br (decide (((l24 : Int)) > 200))
  (R (.returned (.bool false)) wl4)
  (InK .i64 (x5 + 1) ∧ ∃ ml4, ml4 < nl4 ∧ I4 (x5 + 1) ml4 wl4))
  (R (.returned (.bool true)) wl4)))
def f16_ann : Ann := { loops := [(4, [(5, .int .i64)])], cuts := [], flip := [], throws := [] }
theorem f16_eq (p0 : Option Addr) (l0 c0 : Nat) (p1 : Option Addr) (l1 c1 : Nat) (w : World) (R : Ending → World → Prop) : vc Try.prog f16_ann (bodyOf Try.f16) (retQ Try.prog Try.f16 R) (envOf Try.f16.ntmps [.v (.slice p0 l0 c0), .v (.slice p1 l1 c1)]) w = f16_vc p0 l0 c0 p1 l1 c1 w R := by kernel_rfl
theorem f16_does (p0 : Option Addr) (l0 c0 : Nat) (p1 : Option Addr) (l1 c1 : Nat) {w : World} {R : Ending → World → Prop} (h : f16_vc p0 l0 c0 p1 l1 c1 w R) : Does Try.prog 16 #[.slice p0 l0 c0, .slice p1 l1 c1] w R :=
  does_of_vc (ss := [.v (.slice p0 l0 c0), .v (.slice p1 l1 c1)]) f16_ann mixed call16 Try.func16 rfl rfl (show 2 ≤ Try.f16.ntmps by decide) ((f16_eq p0 l0 c0 p1 l1 c1 w R).symm ▸ h)
/-- Of escritoire/escritoireref1.Copy (function 17): the condition. -/
def f17_vc (p0 : Option Addr) (l0 c0 : Nat) (w : World) (R : Ending → World → Prop) : Prop :=
  ∃ I3 : Option Addr → Nat → Nat → Int → Nat → World → Prop, (∃ nl3, I3 none 0 0 0 nl3 w) ∧ ∀ (p3 : Option Addr) (l3 c3 : Nat), ∀ x4 : Int, ∀ (nl3 : Nat) (wl3 : World), I3 p3 l3 c3 x4 nl3 wl3 →
  Br (decide (x4 < ((l0 : Int))))
  ((0 ≤ x4 ∧ x4 < (l0 : Int)) ∧ ∃ b14 o14, p0 = some ⟨b14, o14, none⟩ ∧ ∃ n15 : Int, wl3.cell? ⟨b14, o14 + (x4).toNat, none⟩ = some (.int .u8 n15) ∧ ∀ b16 w16, NewBlk wl3 b16 [.int .u8 n15] 5 w16 →
  ∃ (p17 : Option Addr) (l17 c17 : Nat) (w17 : World), (Builtin.append_ #[22, 22] 22 #[.slice p3 l3 c3, .slice (some ⟨b16, 0, none⟩) 1 1]).run Try.prog w16 = .ok (.slice p17 l17 c17) w17 ∧
  InK .i64 (x4 + 1) ∧ ∃ ml3, ml3 < nl3 ∧ I3 p17 l17 c17 (x4 + 1) ml3 w17)
  (R (.returned (.slice p3 l3 c3)) wl3)
def f17_ann : Ann := { loops := [(3, [(3, .slice), (4, .int .i64)])], cuts := [], flip := [], throws := [] }
theorem f17_eq (p0 : Option Addr) (l0 c0 : Nat) (w : World) (R : Ending → World → Prop) : vc Try.prog f17_ann (bodyOf Try.f17) (retQ Try.prog Try.f17 R) (envOf Try.f17.ntmps [.v (.slice p0 l0 c0)]) w = f17_vc p0 l0 c0 w R := by kernel_rfl
theorem f17_does (p0 : Option Addr) (l0 c0 : Nat) {w : World} {R : Ending → World → Prop} (h : f17_vc p0 l0 c0 w R) : Does Try.prog 17 #[.slice p0 l0 c0] w R :=
  does_of_vc (ss := [.v (.slice p0 l0 c0)]) f17_ann mixed call17 Try.func17 rfl rfl (show 1 ≤ Try.f17.ntmps by decide) ((f17_eq p0 l0 c0 w R).symm ▸ h)
/-- Of (*escritoire/index.Index).Cut (function 18): the condition. -/
def f18_vc (a0 : Option Addr) (a1 : Int) (w : World) (R : Ending → World → Prop) : Prop :=
  Br (!a0.isNone)
  (Br (decide (a1 ≥ 0))
  (∃ b14 o14, a0 = some ⟨b14, o14, none⟩ ∧ ∃ n16 : Int, w.cell? ⟨b14, o14, none⟩ = some (.int .i64 n16) ∧ Br (decide (a1 ≤ n16))
  (∃ b20 o20, a0 = some ⟨b20, o20, none⟩ ∧ ∃ (p22 : Option Addr) (l22 c22 : Nat), w.cell? ⟨b20, o20 + 1, none⟩ = some (.slice p22 l22 c22) ∧ Does Try.prog 21 #[.slice p22 l22 c22, .int .i64 a1] w fun e24 w24 =>
  ∃ n24 : Int, e24 = .returned (.int .i64 n24) ∧ ∀ wd2, Drew w24 wd2 →
  ∃ b29 o29, a0 = some ⟨b29, o29, none⟩ ∧ ∃ (p31 : Option Addr) (l31 c31 : Nat), wd2.cell? ⟨b29, o29 + 1, none⟩ = some (.slice p31 l31 c31) ∧ (0 ≤ n24 ∧ n24 ≤ (c31 : Int)) ∧ (0 ≤ n24 ∧ n24 ≤ n24) ∧ ∃ b35 o35, a0 = some ⟨b35, o35, none⟩ ∧ CanStore wd2 b35 o35 ∧ ∀ ws, Stored wd2 b35 o35 (.int .i64 a1) ws →
  ∃ b37 o37, a0 = some ⟨b37, o37, none⟩ ∧ CanStore ws b37 (o37 + 1) ∧ ∀ ws_1, Stored ws b37 (o37 + 1) (.slice (subp p31 0 ((n24).toNat) 1) (((n24).toNat) - 0) (((n24).toNat) - 0)) ws_1 →
  R (.returned (.tuple #[])) ws_1)
  (R (.returned (.tuple #[])) w))
  (R (.returned (.tuple #[])) w))
  (R (.returned (.tuple #[])) w)
def f18_ann : Ann := { loops := [], cuts := [], flip := [], throws := [] }
theorem f18_eq (a0 : Option Addr) (a1 : Int) (w : World) (R : Ending → World → Prop) : vc Try.prog f18_ann (bodyOf Try.f18) (retQ Try.prog Try.f18 R) (envOf Try.f18.ntmps [.v (.pointer a0), .v (.int .i64 a1)]) w = f18_vc a0 a1 w R := by kernel_rfl
theorem f18_does (a0 : Option Addr) (a1 : Int) {w : World} {R : Ending → World → Prop} (h : f18_vc a0 a1 w R) : Does Try.prog 18 #[.pointer a0, .int .i64 a1] w R :=
  does_of_vc (ss := [.v (.pointer a0), .v (.int .i64 a1)]) f18_ann mixed call18 Try.func18 rfl rfl (show 2 ≤ Try.f18.ntmps by decide) ((f18_eq a0 a1 w R).symm ▸ h)
/-- Of escritoire/escritoirelaw16.looks (function 19): the condition. -/
def f19_vc (a0 : Option Addr) (p1 : Option Addr) (l1 c1 : Nat) (a2 : Int) (a3 : Int) (a4 : Int) (w : World) (R : Ending → World → Prop) : Prop :=
  (0 ≤ a2 ∧ a2 ≤ (c1 : Int)) ∧ Does Try.prog 12 #[.pointer a0] w fun e21 w21 =>
  ∃ n21 : Int, e21 = .returned (.int .i64 n21) ∧ Br (n21 != a2)
  (R (.returned (.bool false)) w21)
  (Does Try.prog 13 #[.pointer a0] w21 fun e26 w26 =>
  ∃ n26 : Int, e26 = .returned (.int .i64 n26) ∧ Does Try.prog 14 #[.slice (subp p1 0 c1 1) (((a2).toNat) - 0) (c1 - 0)] w26 fun e28 w28 =>
  ∃ n28 : Int, e28 = .returned (.int .i64 n28) ∧ Br (n26 != n28)
  (R (.returned (.bool false)) w28)
  (Does Try.prog 10 #[.pointer a0, .int .i64 a4] w28 fun e34 w34 =>
  ∃ n34 : Int, ∃ b34 : Bool, e34 = .returned (.tuple #[.int .i64 n34, .bool b34]) ∧ Does Try.prog 22 #[.slice (subp p1 0 c1 1) (((a2).toNat) - 0) (c1 - 0), .int .i64 a4] w34 fun e40 w40 =>
  ∃ n40 : Int, ∃ b40 : Bool, e40 = .returned (.tuple #[.int .i64 n40, .bool b40]) ∧ Br (!(b34 == b40))
  (R (.returned (.bool false)) w40)
  (Br (n34 != n40)
  (R (.returned (.bool false)) w40)
  (Does Try.prog 11 #[.pointer a0, .int .i64 a3] w40 fun e54 w54 =>
  ∃ n54 : Int, ∃ b54 : Bool, e54 = .returned (.tuple #[.int .i64 n54, .bool b54]) ∧ Br (decide (a3 < 0))
  (Br (!b54)
  (R (.returned (.bool (n54 == 0))) w54)
  (R (.returned (.bool false)) w54))
  (Br (decide (a3 > a2))
  (Br (!b54)
  (R (.returned (.bool (n54 == 0))) w54)
  (R (.returned (.bool false)) w54))
  (Br b54
  ((0 ≤ a3 ∧ a3 ≤ ((c1 - 0 : Nat) : Int)) ∧ Does Try.prog 14 #[.slice (subp (subp p1 0 c1 1) 0 (c1 - 0) 1) (((a3).toNat) - 0) ((c1 - 0) - 0)] w54 fun e76 w76 =>
  ∃ n76 : Int, e76 = .returned (.int .i64 n76) ∧ R (.returned (.bool (n54 == n76))) w76)
  (R (.returned (.bool false)) w54)))))))
def f19_ann : Ann := { loops := [], cuts := [], flip := [], throws := [] }
theorem f19_eq (a0 : Option Addr) (p1 : Option Addr) (l1 c1 : Nat) (a2 : Int) (a3 : Int) (a4 : Int) (w : World) (R : Ending → World → Prop) : vc Try.prog f19_ann (bodyOf Try.f19) (retQ Try.prog Try.f19 R) (envOf Try.f19.ntmps [.v (.pointer a0), .v (.slice p1 l1 c1), .v (.int .i64 a2), .v (.int .i64 a3), .v (.int .i64 a4)]) w = f19_vc a0 p1 l1 c1 a2 a3 a4 w R := by kernel_rfl
theorem f19_does (a0 : Option Addr) (p1 : Option Addr) (l1 c1 : Nat) (a2 : Int) (a3 : Int) (a4 : Int) {w : World} {R : Ending → World → Prop} (h : f19_vc a0 p1 l1 c1 a2 a3 a4 w R) : Does Try.prog 19 #[.pointer a0, .slice p1 l1 c1, .int .i64 a2, .int .i64 a3, .int .i64 a4] w R :=
  does_of_vc (ss := [.v (.pointer a0), .v (.slice p1 l1 c1), .v (.int .i64 a2), .v (.int .i64 a3), .v (.int .i64 a4)]) f19_ann mixed call19 Try.func19 rfl rfl (show 5 ≤ Try.f19.ntmps by decide) ((f19_eq a0 p1 l1 c1 a2 a3 a4 w R).symm ▸ h)
/-- Of escritoire/index.ends (function 20): the condition. -/
def f20_vc (p0 : Option Addr) (l0 c0 : Nat) (a1 : Int) (w : World) (R : Ending → World → Prop) : Prop :=
  ∃ I3 : Option Addr → Nat → Nat → Int → Nat → World → Prop, (∃ nl3, I3 none 0 0 0 nl3 w) ∧ ∀ (p5 : Option Addr) (l5 c5 : Nat), ∀ x10 : Int, ∀ (nl3 : Nat) (wl3 : World), I3 p5 l5 c5 x10 nl3 wl3 →
  Br (decide (x10 < ((l0 : Int))))
  ((0 ≤ x10 ∧ x10 < (l0 : Int)) ∧ ∃ b13 o13, p0 = some ⟨b13, o13, none⟩ ∧ ∃ n14 : Int, wl3.cell? ⟨b13, o13 + (x10).toNat, none⟩ = some (.int .u8 n14) ∧ Br (n14 == 10)
  (InK .i64 (a1 + x10) ∧ InK .i64 ((a1 + x10) + 1) ∧ ∀ b22 w22, NewBlk wl3 b22 [.int .i64 ((a1 + x10) + 1)] 3 w22 →
  ∃ (p23 : Option Addr) (l23 c23 : Nat) (w23 : World), (Builtin.append_ #[42, 42] 42 #[.slice p5 l5 c5, .slice (some ⟨b22, 0, none⟩) 1 1]).run Try.prog w22 = .ok (.slice p23 l23 c23) w23 ∧
  InK .i64 (x10 + 1) ∧ ∃ ml3, ml3 < nl3 ∧ I3 p23 l23 c23 (x10 + 1) ml3 w23)
  (InK .i64 (x10 + 1) ∧ ∃ ml3, ml3 < nl3 ∧ I3 p5 l5 c5 (x10 + 1) ml3 wl3))
  (R (.returned (.slice p5 l5 c5)) wl3)
def f20_ann : Ann := { loops := [(3, [(5, .slice), (10, .int .i64)])], cuts := [], flip := [], throws := [] }
theorem f20_eq (p0 : Option Addr) (l0 c0 : Nat) (a1 : Int) (w : World) (R : Ending → World → Prop) : vc Try.prog f20_ann (bodyOf Try.f20) (retQ Try.prog Try.f20 R) (envOf Try.f20.ntmps [.v (.slice p0 l0 c0), .v (.int .i64 a1)]) w = f20_vc p0 l0 c0 a1 w R := by kernel_rfl
theorem f20_does (p0 : Option Addr) (l0 c0 : Nat) (a1 : Int) {w : World} {R : Ending → World → Prop} (h : f20_vc p0 l0 c0 a1 w R) : Does Try.prog 20 #[.slice p0 l0 c0, .int .i64 a1] w R :=
  does_of_vc (ss := [.v (.slice p0 l0 c0), .v (.int .i64 a1)]) f20_ann mixed call20 Try.func20 rfl rfl (show 2 ≤ Try.f20.ntmps by decide) ((f20_eq p0 l0 c0 a1 w R).symm ▸ h)
/-- Of escritoire/index.upTo[int] (function 21): the condition. -/
def f21_vc (p0 : Option Addr) (l0 c0 : Nat) (a1 : Int) (w : World) (R : Ending → World → Prop) : Prop :=
  ∃ I2 : Int → Int → Nat → World → Prop, (∃ nl2, I2 0 ((l0 : Int)) nl2 w) ∧ ∀ x5 : Int, ∀ x6 : Int, ∀ (nl2 : Nat) (wl2 : World), I2 x5 x6 nl2 wl2 →
  Br (decide (x5 < x6))
  (InK .i64 (x5 + x6) ∧ (2 : Int) ≠ 0 ∧ InK .i64 ((x5 + x6).tdiv 2) ∧ (0 ≤ ((x5 + x6).tdiv 2) ∧ ((x5 + x6).tdiv 2) < (l0 : Int)) ∧ ∃ b19 o19, p0 = some ⟨b19, o19, none⟩ ∧ ∃ n20 : Int, wl2.cell? ⟨b19, o19 + ((x5 + x6).tdiv 2).toNat, none⟩ = some (.int .i64 n20) ∧ Br (decide (n20 ≤ a1))
  (InK .i64 (((x5 + x6).tdiv 2) + 1) ∧ ∃ ml2, ml2 < nl2 ∧ I2 (((x5 + x6).tdiv 2) + 1) x6 ml2 wl2)
  (∃ ml2, ml2 < nl2 ∧ I2 x5 ((x5 + x6).tdiv 2) ml2 wl2))
  (R (.returned (.int .i64 x5)) wl2)
def f21_ann : Ann := { loops := [(2, [(5, .int .i64), (6, .int .i64)])], cuts := [], flip := [], throws := [] }
theorem f21_eq (p0 : Option Addr) (l0 c0 : Nat) (a1 : Int) (w : World) (R : Ending → World → Prop) : vc Try.prog f21_ann (bodyOf Try.f21) (retQ Try.prog Try.f21 R) (envOf Try.f21.ntmps [.v (.slice p0 l0 c0), .v (.int .i64 a1)]) w = f21_vc p0 l0 c0 a1 w R := by kernel_rfl
theorem f21_does (p0 : Option Addr) (l0 c0 : Nat) (a1 : Int) {w : World} {R : Ending → World → Prop} (h : f21_vc p0 l0 c0 a1 w R) : Does Try.prog 21 #[.slice p0 l0 c0, .int .i64 a1] w R :=
  does_of_vc (ss := [.v (.slice p0 l0 c0), .v (.int .i64 a1)]) f21_ann mixed call21 Try.func21 rfl rfl (show 2 ≤ Try.f21.ntmps by decide) ((f21_eq p0 l0 c0 a1 w R).symm ▸ h)
/-- Of escritoire/escritoireref16.Begin (function 22): the condition. -/
def f22_vc (p0 : Option Addr) (l0 c0 : Nat) (a1 : Int) (w : World) (R : Ending → World → Prop) : Prop :=
  Br (a1 == 0)
  (R (.returned (.tuple #[.int .i64 0, .bool true])) w)
  (∃ I5 : Int → Int → Nat → World → Prop, (∃ nl5, I5 0 0 nl5 w) ∧ ∀ x6 : Int, ∀ x7 : Int, ∀ (nl5 : Nat) (wl5 : World), I5 x6 x7 nl5 wl5 →
  Br (decide (x7 < ((l0 : Int))))
  ((0 ≤ x7 ∧ x7 < (l0 : Int)) ∧ ∃ b18 o18, p0 = some ⟨b18, o18, none⟩ ∧ ∃ n19 : Int, wl5.cell? ⟨b18, o18 + (x7).toNat, none⟩ = some (.int .u8 n19) ∧ Br (n19 == 10)
  (InK .i64 (x6 + 1) ∧ Br ((x6 + 1) == a1)
  (InK .i64 (x7 + 1) ∧ R (.returned (.tuple #[.int .i64 (x7 + 1), .bool true])) wl5)
  (InK .i64 (x7 + 1) ∧ ∃ ml5, ml5 < nl5 ∧ I5 (x6 + 1) (x7 + 1) ml5 wl5))
  (InK .i64 (x7 + 1) ∧ ∃ ml5, ml5 < nl5 ∧ I5 x6 (x7 + 1) ml5 wl5))
  (R (.returned (.tuple #[.int .i64 0, .bool false])) wl5))
def f22_ann : Ann := { loops := [(5, [(6, .int .i64), (7, .int .i64)])], cuts := [], flip := [], throws := [] }
theorem f22_eq (p0 : Option Addr) (l0 c0 : Nat) (a1 : Int) (w : World) (R : Ending → World → Prop) : vc Try.prog f22_ann (bodyOf Try.f22) (retQ Try.prog Try.f22 R) (envOf Try.f22.ntmps [.v (.slice p0 l0 c0), .v (.int .i64 a1)]) w = f22_vc p0 l0 c0 a1 w R := by kernel_rfl
theorem f22_does (p0 : Option Addr) (l0 c0 : Nat) (a1 : Int) {w : World} {R : Ending → World → Prop} (h : f22_vc p0 l0 c0 a1 w R) : Does Try.prog 22 #[.slice p0 l0 c0, .int .i64 a1] w R :=
  does_of_vc (ss := [.v (.slice p0 l0 c0), .v (.int .i64 a1)]) f22_ann mixed call22 Try.func22 rfl rfl (show 2 ≤ Try.f22.ntmps by decide) ((f22_eq p0 l0 c0 a1 w R).symm ▸ h)
end Go.Proofs.Ytgamedgeaiddhaa
