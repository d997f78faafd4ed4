/-
  Of each function of the code: its verification condition, and that it suffices.
-/
import Derived.Test.YtiblbjagfiigdaaVcDoes
import Derived.Test.YtiblbjagfiigdaaProg
set_option maxRecDepth 100000
namespace Go.Proofs.Ytiblbjagfiigdaa
open Go.RowKit Go.Vc
def bodyOf (fn : Func) : Code := match fn.body with | some c => c | none => .skip
theorem mixed : Try.prog.follows .mixedOrders = true := by kernel_rfl
theorem call3 : callableB Try.prog 3 = true := by kernel_rfl
theorem call4 : callableB Try.prog 4 = true := by kernel_rfl
theorem call5 : callableB Try.prog 5 = true := by kernel_rfl
theorem call6 : callableB Try.prog 6 = true := by kernel_rfl
theorem call7 : callableB Try.prog 7 = true := by kernel_rfl
theorem call8 : callableB Try.prog 8 = true := by kernel_rfl
theorem call9 : callableB Try.prog 9 = true := by kernel_rfl
theorem call10 : callableB Try.prog 10 = true := by kernel_rfl
theorem call11 : callableB Try.prog 11 = true := by kernel_rfl
theorem call12 : callableB Try.prog 12 = true := by kernel_rfl
theorem call13 : callableB Try.prog 13 = true := by kernel_rfl
theorem call14 : callableB Try.prog 14 = true := by kernel_rfl
theorem call15 : callableB Try.prog 15 = true := by kernel_rfl
theorem call16 : callableB Try.prog 16 = true := by kernel_rfl
theorem call17 : callableB Try.prog 17 = true := by kernel_rfl
theorem call18 : callableB Try.prog 18 = true := by kernel_rfl
theorem call19 : callableB Try.prog 19 = true := by kernel_rfl
theorem call20 : callableB Try.prog 20 = true := by kernel_rfl
theorem call21 : callableB Try.prog 21 = true := by kernel_rfl
theorem call22 : callableB Try.prog 22 = true := by kernel_rfl
theorem call23 : callableB Try.prog 23 = true := by kernel_rfl
theorem call24 : callableB Try.prog 24 = true := by kernel_rfl
theorem call25 : callableB Try.prog 25 = true := by kernel_rfl
theorem call26 : callableB Try.prog 26 = true := by kernel_rfl
theorem call27 : callableB Try.prog 27 = true := by kernel_rfl
theorem call28 : callableB Try.prog 28 = true := by kernel_rfl
theorem call29 : callableB Try.prog 29 = true := by kernel_rfl
theorem call30 : callableB Try.prog 30 = true := by kernel_rfl
theorem call31 : callableB Try.prog 31 = true := by kernel_rfl
theorem call32 : callableB Try.prog 32 = true := by kernel_rfl
theorem call33 : callableB Try.prog 33 = true := by kernel_rfl
theorem call34 : callableB Try.prog 34 = true := by kernel_rfl
theorem call35 : callableB Try.prog 35 = true := by kernel_rfl
theorem call36 : callableB Try.prog 36 = true := by kernel_rfl
theorem call37 : callableB Try.prog 37 = true := by kernel_rfl
theorem call38 : callableB Try.prog 38 = true := by kernel_rfl
theorem call39 : callableB Try.prog 39 = true := by kernel_rfl
theorem call40 : callableB Try.prog 40 = true := by kernel_rfl
theorem call41 : callableB Try.prog 41 = true := by kernel_rfl
theorem call42 : callableB Try.prog 42 = true := by kernel_rfl
theorem call43 : callableB Try.prog 43 = true := by kernel_rfl
theorem call44 : callableB Try.prog 44 = true := by kernel_rfl
theorem call45 : callableB Try.prog 45 = true := by kernel_rfl
theorem call46 : callableB Try.prog 46 = true := by kernel_rfl
theorem call47 : callableB Try.prog 47 = true := by kernel_rfl
theorem call48 : callableB Try.prog 48 = true := by kernel_rfl
theorem call49 : callableB Try.prog 49 = true := by kernel_rfl
/-- Of escritoire/escritoirelaw5.DeviceOutcomes (function 3): the condition. -/
def f3_vc (p0 : Option Addr) (l0 c0 : Nat) (a1 : Int) (w : World) (R : Ending → World → Prop) : Prop :=
  Does Try.prog 9 #[] w fun e15 w15 =>
  ∃ b15 : Bool, e15 = .returned (.bool b15) ∧ Br (!b15)
  (R (.returned (.bool false)) w15)
  (Br (decide (((l0 : Int)) > 100))
  (R (.returned (.bool true)) w15)
  ((8 : Int) ≠ 0 ∧ InK .i64 ((a1.tmod 8) + 8) ∧ (8 : Int) ≠ 0 ∧ Does Try.prog 10 #[.int .i64 8] w15 fun e25 w25 =>
  ∃ p25 : Option Addr, ∃ n25 : Int, e25 = .returned (.tuple #[.pointer p25, .int .i64 n25]) ∧ Br (n25 != 0)
  (R (.returned (.bool false)) w25)
  (Does Try.prog 11 #[.pointer p25, .slice p0 l0 c0] w25 fun e32 w32 =>
  e32 = .returned (.tuple #[]) ∧ ((0 : Int) ≤ (256 : Int) ∧ (256 : Int) ≤ (256 : Int) ∧ (256 : Int) * ((1 : Nat) : Int) ≤ 140737488355328 ∧ (256 : Int) ≤ 9223372036854775807) ∧ ∀ b33 w33, NewBlk w32 b33 (zerosL (.int .u8 0) (256 : Int).toNat) 5 w33 →
  ∃ I12 : Option Addr → Nat → Nat → Int → Nat → World → Prop, (∃ nl12, I12 (some ⟨b33, 0, none⟩) ((256 : Int).toNat) ((256 : Int).toNat) 0 nl12 w33) ∧ ∀ (p7 : Option Addr) (l7 c7 : Nat), ∀ x8 : Int, ∀ (nl12 : Nat) (wl12 : World), I12 p7 l7 c7 x8 nl12 wl12 →
  Br (decide (x8 < ((l0 : Int))))
  (InK .i64 (x8 + 1) ∧ Does Try.prog 12 #[.int .u8 (IntKind.wrap .u8 (x8 + 1)), .int .i64 0] wl12 fun e43 w43 =>
  ∃ (p43 : Option Addr) (l43 c43 : Nat), e43 = .returned (.slice p43 l43 c43) ∧ ((0 : Int) ≤ x8 ∧ x8 < (l0 : Int)) ∧ ∃ b46 o46, p0 = some ⟨b46, o46, none⟩ ∧ ∃ n47 : Int, w43.cell? ⟨b46, o46 + (x8).toNat, none⟩ = some (.int .u8 n47) ∧ (3 : Int) ≠ 0 ∧ (2 : Int) ≠ 0 ∧ Br ((x8.tmod 2) == 0)
  (Does Try.prog 13 #[.pointer p25, .int .i64 (((a1.tmod 8) + 8).tmod 8), .slice p43 l43 c43] w43 fun e55 w55 =>
  ∃ n55 : Int, e55 = .returned (.int .i64 n55) ∧ Br (!((n55 == 0) == ((n47.tmod 3) == 0)))
  (R (.returned (.bool false)) w55)
  (Br ((n47.tmod 3) != 1)
  (InK .i64 (x8 + 1) ∧ ∃ ml12, ml12 < nl12 ∧ I12 p43 l43 c43 (x8 + 1) ml12 w55)
  (InK .i64 (x8 + 1) ∧ ∃ ml12, ml12 < nl12 ∧ I12 p7 l7 c7 (x8 + 1) ml12 w55)))
  (Does Try.prog 14 #[.pointer p25, .int .i64 (((a1.tmod 8) + 8).tmod 8)] w43 fun e67 w67 =>
  ∃ (p67 : Option Addr) (l67 c67 : Nat), ∃ n67 : Int, e67 = .returned (.tuple #[.slice p67 l67 c67, .int .i64 n67]) ∧ Br (!((n67 == 0) == ((n47.tmod 3) != 1)))
  (R (.returned (.bool false)) w67)
  (Br (n67 == 0)
  (Does Try.prog 15 #[.slice p67 l67 c67, .slice p7 l7 c7] w67 fun e81 w81 =>
  ∃ b81 : Bool, e81 = .returned (.bool b81) ∧ Br (!b81)
  (R (.returned (.bool false)) w81)
  (InK .i64 (x8 + 1) ∧ ∃ ml12, ml12 < nl12 ∧ I12 p7 l7 c7 (x8 + 1) ml12 w81))
  (InK .i64 (x8 + 1) ∧ ∃ ml12, ml12 < nl12 ∧ I12 p7 l7 c7 (x8 + 1) ml12 w67))))
  (Does Try.prog 14 #[.pointer p25, .int .i64 (((a1.tmod 8) + 8).tmod 8)] wl12 fun e88 w88 =>
  ∃ (p88 : Option Addr) (l88 c88 : Nat), ∃ n88 : Int, e88 = .returned (.tuple #[.slice p88 l88 c88, .int .i64 n88]) ∧ Br (n88 == 0)
  (Does Try.prog 15 #[.slice p88 l88 c88, .slice p7 l7 c7] w88 fun e96 w96 =>
  ∃ b96 : Bool, e96 = .returned (.bool b96) ∧ Br b96
  (Does Try.prog 16 #[.pointer p25] w96 fun e100 w100 =>
  ∃ n100 : Int, e100 = .returned (.int .i64 n100) ∧ InK .i64 (((l0 : Int)) + 1) ∧ R (.returned (.bool (n100 == (((l0 : Int)) + 1)))) w100)
  (R (.returned (.bool false)) w96))
  (R (.returned (.bool false)) w88)))))
def f3_ann : Ann := { loops := [(12, [(7, .slice), (8, .int .i64)])], cuts := [], flip := [], throws := [] }
theorem f3_eq (p0 : Option Addr) (l0 c0 : Nat) (a1 : Int) (w : World) (R : Ending → World → Prop) : vc Try.prog f3_ann (bodyOf Try.f3) (retQ Try.prog Try.f3 R) (envOf Try.f3.ntmps [.v (.slice p0 l0 c0), .v (.int .i64 a1)]) [] w = f3_vc p0 l0 c0 a1 w R := by kernel_rfl
theorem f3_does (p0 : Option Addr) (l0 c0 : Nat) (a1 : Int) {w : World} {R : Ending → World → Prop} (h : f3_vc p0 l0 c0 a1 w R) : Does Try.prog 3 #[.slice p0 l0 c0, .int .i64 a1] w R :=
  does_of_vc (ss := [.v (.slice p0 l0 c0), .v (.int .i64 a1)]) f3_ann mixed call3 Try.func3 rfl rfl (show 2 ≤ Try.f3.ntmps by decide) ((f3_eq p0 l0 c0 a1 w R).symm ▸ h)
/-- Of escritoire/escritoirelaw5.DeviceLasts (function 4): the condition. -/
def f4_vc (p0 : Option Addr) (l0 c0 : Nat) (p1 : Option Addr) (l1 c1 : Nat) (p2 : Option Addr) (l2 c2 : Nat) (w : World) (R : Ending → World → Prop) : Prop :=
  Does Try.prog 9 #[] w fun e18 w18 =>
  ∃ b18 : Bool, e18 = .returned (.bool b18) ∧ Br (!b18)
  (R (.returned (.bool false)) w18)
  (Does Try.prog 17 #[.slice p0 l0 c0, .int .i64 60] w18 fun e21 w21 =>
  ∃ b21 : Bool, e21 = .returned (.bool b21) ∧ Br (!b21)
  (R (.returned (.bool true)) w21)
  (Does Try.prog 17 #[.slice p1 l1 c1, .int .i64 60] w21 fun e25 w25 =>
  ∃ b25 : Bool, e25 = .returned (.bool b25) ∧ Br (!b25)
  (R (.returned (.bool true)) w25)
  (Br (decide (((l2 : Int)) > 200))
  (R (.returned (.bool true)) w25)
  (Does Try.prog 10 #[.int .i64 8] w25 fun e34 w34 =>
  ∃ p34 : Option Addr, ∃ n34 : Int, e34 = .returned (.tuple #[.pointer p34, .int .i64 n34]) ∧ Br (n34 != 0)
  (R (.returned (.bool false)) w34)
  (Br p34.isNone
  (R (.returned (.bool false)) w34)
  (∃ I9 : Int → Nat → World → Prop, (∃ nl9, I9 0 nl9 w34) ∧ ∀ x9 : Int, ∀ (nl9 : Nat) (wl9 : World), I9 x9 nl9 wl9 →
  Br (decide (x9 < ((l0 : Int))))
  (∀ wd11, Drew wl9 wd11 →
  ∃ S11 : World → Prop, S11 wd11 ∧ ((0 : Int) ≤ x9 ∧ x9 < (l0 : Int)) ∧ ∃ b52 o52, p0 = some ⟨b52, o52, none⟩ ∧ ∃ n54 : Int, (∀ w, S11 w → w.cell? ⟨b52, o52 + (x9).toNat * 5 + 2, none⟩ = some (.int .i64 n54)) ∧ ((0 : Int) ≤ x9 ∧ x9 < (l0 : Int)) ∧ ∃ b57 o57, p0 = some ⟨b57, o57, none⟩ ∧ ∃ n59 : Int, wd11.cell? ⟨b57, o57 + (x9).toNat * 5 + 3, none⟩ = some (.int .u8 n59) ∧ ((0 : Int) ≤ x9 ∧ x9 < (l0 : Int)) ∧ ∃ b62 o62, p0 = some ⟨b62, o62, none⟩ ∧ ∃ n64 : Int, wd11.cell? ⟨b62, o62 + (x9).toNat * 5 + 1, none⟩ = some (.int .i64 n64) ∧ Does Try.prog 12 #[.int .u8 n59, .int .i64 n64] wd11 fun e65 w65 =>
  ∃ (p65 : Option Addr) (l65 c65 : Nat), e65 = .returned (.slice p65 l65 c65) ∧ S11 w65 ∧ Does Try.prog 13 #[.pointer p34, .int .i64 n54, .slice p65 l65 c65] w65 fun e66 w66 =>
  ∃ n66 : Int, e66 = .returned (.int .i64 n66) ∧ InK .i64 (x9 + 1) ∧ ∃ ml9, ml9 < nl9 ∧ I9 (x9 + 1) ml9 w66)
  (Does Try.prog 18 #[.pointer p34] wl9 fun e68 w68 =>
  ∃ n68 : Int, e68 = .returned (.int .i64 n68) ∧ Br (n68 != 0)
  (R (.returned (.bool false)) w68)
  (Does Try.prog 19 #[.pointer p34] w68 fun e71 w71 =>
  ∃ (p71 : Option Addr) (l71 c71 : Nat), e71 = .returned (.slice p71 l71 c71) ∧ ∃ I16 : Int → Nat → World → Prop, (∃ nl16, I16 0 nl16 w71) ∧ ∀ x11 : Int, ∀ (nl16 : Nat) (wl16 : World), I16 x11 nl16 wl16 →
  Br (decide (x11 < ((l1 : Int))))
  (∀ wd18, Drew wl16 wd18 →
  ∃ S18 : World → Prop, S18 wd18 ∧ ((0 : Int) ≤ x11 ∧ x11 < (l1 : Int)) ∧ ∃ b81 o81, p1 = some ⟨b81, o81, none⟩ ∧ ∃ n83 : Int, (∀ w, S18 w → w.cell? ⟨b81, o81 + (x11).toNat * 5 + 2, none⟩ = some (.int .i64 n83)) ∧ ((0 : Int) ≤ x11 ∧ x11 < (l1 : Int)) ∧ ∃ b86 o86, p1 = some ⟨b86, o86, none⟩ ∧ ∃ n88 : Int, wd18.cell? ⟨b86, o86 + (x11).toNat * 5 + 3, none⟩ = some (.int .u8 n88) ∧ ((0 : Int) ≤ x11 ∧ x11 < (l1 : Int)) ∧ ∃ b91 o91, p1 = some ⟨b91, o91, none⟩ ∧ ∃ n93 : Int, wd18.cell? ⟨b91, o91 + (x11).toNat * 5 + 1, none⟩ = some (.int .i64 n93) ∧ Does Try.prog 12 #[.int .u8 n88, .int .i64 n93] wd18 fun e94 w94 =>
  ∃ (p94 : Option Addr) (l94 c94 : Nat), e94 = .returned (.slice p94 l94 c94) ∧ S18 w94 ∧ Does Try.prog 13 #[.pointer p34, .int .i64 n83, .slice p94 l94 c94] w94 fun e95 w95 =>
  ∃ n95 : Int, e95 = .returned (.int .i64 n95) ∧ InK .i64 (x11 + 1) ∧ ∃ ml16, ml16 < nl16 ∧ I16 (x11 + 1) ml16 w95)
  (Does Try.prog 20 #[.pointer p34, .slice p2 l2 c2] wl16 fun e98 w98 =>
  ∃ p98 : Option Addr, e98 = .returned (.pointer p98) ∧ Does Try.prog 19 #[.pointer p98] w98 fun e99 w99 =>
  ∃ (p99 : Option Addr) (l99 c99 : Nat), e99 = .returned (.slice p99 l99 c99) ∧ ∃ I21 : Int → Nat → World → Prop, (∃ nl21, I21 0 nl21 w99) ∧ ∀ x13 : Int, ∀ (nl21 : Nat) (wl21 : World), I21 x13 nl21 wl21 →
  Br (decide (x13 < 32))
  (InK .i64 (x13 * 64) ∧ InK .i64 (x13 * 64) ∧ InK .i64 ((x13 * 64) + 64) ∧ ((0 : Int) ≤ ((x13 * 64) + 64) ∧ ((x13 * 64) + 64) ≤ (c99 : Int)) ∧ ((0 : Int) ≤ (x13 * 64) ∧ (x13 * 64) ≤ ((x13 * 64) + 64)) ∧ InK .i64 (x13 * 64) ∧ InK .i64 (x13 * 64) ∧ InK .i64 ((x13 * 64) + 64) ∧ ((0 : Int) ≤ ((x13 * 64) + 64) ∧ ((x13 * 64) + 64) ≤ (c71 : Int)) ∧ ((0 : Int) ≤ (x13 * 64) ∧ (x13 * 64) ≤ ((x13 * 64) + 64)) ∧ Does Try.prog 15 #[.slice (subp p99 ((x13 * 64).toNat) c99 1) ((((x13 * 64) + 64).toNat) - ((x13 * 64).toNat)) (c99 - ((x13 * 64).toNat)), .slice (subp p71 ((x13 * 64).toNat) c71 1) ((((x13 * 64) + 64).toNat) - ((x13 * 64).toNat)) (c71 - ((x13 * 64).toNat))] wl21 fun e119 w119 =>
  ∃ b119 : Bool, e119 = .returned (.bool b119) ∧ ∃ I26 : Bool → Int → Nat → World → Prop, (∃ nl26, I26 b119 0 nl26 w119) ∧ ∀ b15 : Bool, ∀ x16 : Int, ∀ (nl26 : Nat) (wl26 : World), I26 b15 x16 nl26 wl26 →
  Br (decide (x16 < ((l1 : Int))))
  (∀ wd28, Drew wl26 wd28 →
  ((0 : Int) ≤ x16 ∧ x16 < (l1 : Int)) ∧ ∃ b128 o128, p1 = some ⟨b128, o128, none⟩ ∧ ∃ n130 : Int, wd28.cell? ⟨b128, o128 + (x16).toNat * 5 + 3, none⟩ = some (.int .u8 n130) ∧ ((0 : Int) ≤ x16 ∧ x16 < (l1 : Int)) ∧ ∃ b133 o133, p1 = some ⟨b133, o133, none⟩ ∧ ∃ n135 : Int, wd28.cell? ⟨b133, o133 + (x16).toNat * 5 + 1, none⟩ = some (.int .i64 n135) ∧ Does Try.prog 12 #[.int .u8 n130, .int .i64 n135] wd28 fun e136 w136 =>
  ∃ (p136 : Option Addr) (l136 c136 : Nat), e136 = .returned (.slice p136 l136 c136) ∧ ((0 : Int) ≤ x16 ∧ x16 < (l1 : Int)) ∧ ∃ b139 o139, p1 = some ⟨b139, o139, none⟩ ∧ ∃ n141 : Int, w136.cell? ⟨b139, o139 + (x16).toNat * 5 + 2, none⟩ = some (.int .i64 n141) ∧ (4 : Int) ≠ 0 ∧ InK .i64 (x13.tdiv 4) ∧ Br (n141 == (x13.tdiv 4))
  (Br b15
  (InK .i64 (x16 + 1) ∧ ∃ ml26, ml26 < nl26 ∧ I26 true (x16 + 1) ml26 w136)
  ((4 : Int) ≠ 0 ∧ InK .i64 ((x13.tmod 4) * 64) ∧ (4 : Int) ≠ 0 ∧ InK .i64 ((x13.tmod 4) * 64) ∧ InK .i64 (((x13.tmod 4) * 64) + 64) ∧ ((0 : Int) ≤ (((x13.tmod 4) * 64) + 64) ∧ (((x13.tmod 4) * 64) + 64) ≤ (c136 : Int)) ∧ ((0 : Int) ≤ ((x13.tmod 4) * 64) ∧ ((x13.tmod 4) * 64) ≤ (((x13.tmod 4) * 64) + 64)) ∧ Does Try.prog 15 #[.slice (subp p99 ((x13 * 64).toNat) c99 1) ((((x13 * 64) + 64).toNat) - ((x13 * 64).toNat)) (c99 - ((x13 * 64).toNat)), .slice (subp p136 (((x13.tmod 4) * 64).toNat) c136 1) (((((x13.tmod 4) * 64) + 64).toNat) - (((x13.tmod 4) * 64).toNat)) (c136 - (((x13.tmod 4) * 64).toNat))] w136 fun e157 w157 =>
  ∃ b157 : Bool, e157 = .returned (.bool b157) ∧ InK .i64 (x16 + 1) ∧ ∃ ml26, ml26 < nl26 ∧ I26 b157 (x16 + 1) ml26 w157))
  (InK .i64 (x16 + 1) ∧ ∃ ml26, ml26 < nl26 ∧ I26 b15 (x16 + 1) ml26 w136))
  (Br (!b15)
  (R (.returned (.bool false)) wl26)
  (InK .i64 (x13 + 1) ∧ ∃ ml21, ml21 < nl21 ∧ I21 (x13 + 1) ml21 wl26)))
  (R (.returned (.bool true)) wl21))))))))))
def f4_ann : Ann := { loops := [(9, [(9, .int .i64)]), (16, [(11, .int .i64)]), (21, [(13, .int .i64)]), (26, [(15, .bool), (16, .int .i64)])], cuts := [], flip := [], throws := [] }
theorem f4_eq (p0 : Option Addr) (l0 c0 : Nat) (p1 : Option Addr) (l1 c1 : Nat) (p2 : Option Addr) (l2 c2 : Nat) (w : World) (R : Ending → World → Prop) : vc Try.prog f4_ann (bodyOf Try.f4) (retQ Try.prog Try.f4 R) (envOf Try.f4.ntmps [.v (.slice p0 l0 c0), .v (.slice p1 l1 c1), .v (.slice p2 l2 c2)]) [] w = f4_vc p0 l0 c0 p1 l1 c1 p2 l2 c2 w R := by kernel_rfl
theorem f4_does (p0 : Option Addr) (l0 c0 : Nat) (p1 : Option Addr) (l1 c1 : Nat) (p2 : Option Addr) (l2 c2 : Nat) {w : World} {R : Ending → World → Prop} (h : f4_vc p0 l0 c0 p1 l1 c1 p2 l2 c2 w R) : Does Try.prog 4 #[.slice p0 l0 c0, .slice p1 l1 c1, .slice p2 l2 c2] w R :=
  does_of_vc (ss := [.v (.slice p0 l0 c0), .v (.slice p1 l1 c1), .v (.slice p2 l2 c2)]) f4_ann mixed call4 Try.func4 rfl rfl (show 3 ≤ Try.f4.ntmps by decide) ((f4_eq p0 l0 c0 p1 l1 c1 p2 l2 c2 w R).symm ▸ h)
/-- Of escritoire/escritoirelaw5.DeviceKnown (function 5): the condition. -/
def f5_vc  (w : World) (R : Ending → World → Prop) : Prop :=
  Does Try.prog 9 #[] w fun e13 w13 =>
  ∃ b13 : Bool, e13 = .returned (.bool b13) ∧ Br (!b13)
  (R (.returned (.bool false)) w13)
  (Does Try.prog 10 #[.int .i64 8] w13 fun e16 w16 =>
  ∃ p16 : Option Addr, ∃ n16 : Int, e16 = .returned (.tuple #[.pointer p16, .int .i64 n16]) ∧ Does Try.prog 10 #[.int .i64 7] w16 fun e20 w20 =>
  ∃ p20 : Option Addr, ∃ n20 : Int, e20 = .returned (.tuple #[.pointer p20, .int .i64 n20]) ∧ Br p16.isNone
  (R (.returned (.bool false)) w20)
  (Does Try.prog 21 #[] w20 fun e26 w26 =>
  ∃ (p26 : Option Addr) (l26 c26 : Nat), e26 = .returned (.slice p26 l26 c26) ∧ Does Try.prog 13 #[.pointer p16, .int .i64 2, .slice p26 l26 c26] w26 fun e27 w27 =>
  ∃ n27 : Int, e27 = .returned (.int .i64 n27) ∧ ∀ b30 w30, NewBlk w27 b30 [.int .u8 1] 5 w30 →
  Does Try.prog 20 #[.pointer p16, .slice (some ⟨b30, 0, none⟩) 1 1] w30 fun e31 w31 =>
  ∃ p31 : Option Addr, e31 = .returned (.pointer p31) ∧ Does Try.prog 14 #[.pointer p31, .int .i64 2] w31 fun e32 w32 =>
  ∃ (p32 : Option Addr) (l32 c32 : Nat), ∃ n32 : Int, e32 = .returned (.tuple #[.slice p32 l32 c32, .int .i64 n32]) ∧ ∀ b36 w36, NewBlk w32 b36 [.int .u8 1] 5 w36 →
  Does Try.prog 11 #[.pointer p16, .slice (some ⟨b36, 0, none⟩) 1 1] w36 fun e37 w37 =>
  e37 = .returned (.tuple #[]) ∧ Does Try.prog 18 #[.pointer p16] w37 fun e39 w39 =>
  ∃ n39 : Int, e39 = .returned (.int .i64 n39) ∧ Does Try.prog 22 #[.pointer p16, .int .i64 0] w39 fun e41 w41 =>
  e41 = .returned (.tuple #[]) ∧ Does Try.prog 21 #[] w41 fun e43 w43 =>
  ∃ (p43 : Option Addr) (l43 c43 : Nat), e43 = .returned (.slice p43 l43 c43) ∧ Does Try.prog 13 #[.pointer p16, .int .i64 3, .slice p43 l43 c43] w43 fun e44 w44 =>
  ∃ n44 : Int, e44 = .returned (.int .i64 n44) ∧ Does Try.prog 14 #[.pointer p16, .int .i64 3] w44 fun e47 w47 =>
  ∃ (p47 : Option Addr) (l47 c47 : Nat), ∃ n47 : Int, e47 = .returned (.tuple #[.slice p47 l47 c47, .int .i64 n47]) ∧ Does Try.prog 20 #[.pointer p16, .slice none 0 0] w47 fun e52 w52 =>
  ∃ p52 : Option Addr, e52 = .returned (.pointer p52) ∧ Does Try.prog 14 #[.pointer p52, .int .i64 3] w52 fun e53 w53 =>
  ∃ (p53 : Option Addr) (l53 c53 : Nat), ∃ n53 : Int, e53 = .returned (.tuple #[.slice p53 l53 c53, .int .i64 n53]) ∧ Br (((l32 : Int)) == 256)
  (((0 : Int) ≤ 63 ∧ 63 < (l32 : Int)) ∧ ∃ b61 o61, p32 = some ⟨b61, o61, none⟩ ∧ ∃ n62 : Int, w53.cell? ⟨b61, o61 + (63 : Int).toNat, none⟩ = some (.int .u8 n62) ∧ Br (n62 == 1)
  (((0 : Int) ≤ 64 ∧ 64 < (l32 : Int)) ∧ ∃ b67 o67, p32 = some ⟨b67, o67, none⟩ ∧ ∃ n68 : Int, w53.cell? ⟨b67, o67 + (64 : Int).toNat, none⟩ = some (.int .u8 n68) ∧ Br (n68 == 0)
  (Br (n39 == 7)
  (Br (n44 == 7)
  (Br (n47 == 7)
  (Does Try.prog 23 #[.pointer p16] w53 fun e85 w85 =>
  ∃ b85 : Bool, e85 = .returned (.bool b85) ∧ Br b85
  (Does Try.prog 21 #[] w85 fun e89 w89 =>
  ∃ (p89 : Option Addr) (l89 c89 : Nat), e89 = .returned (.slice p89 l89 c89) ∧ Does Try.prog 15 #[.slice p53 l53 c53, .slice p89 l89 c89] w89 fun e90 w90 =>
  ∃ b90 : Bool, e90 = .returned (.bool b90) ∧ Br b90
  (R (.returned (.bool (n20 == 1))) w90)
  (R (.returned (.bool false)) w90))
  (R (.returned (.bool false)) w85))
  (R (.returned (.bool false)) w53))
  (R (.returned (.bool false)) w53))
  (R (.returned (.bool false)) w53))
  (R (.returned (.bool false)) w53))
  (R (.returned (.bool false)) w53))
  (R (.returned (.bool false)) w53)))
def f5_ann : Ann := { loops := [], cuts := [], flip := [], throws := [] }
theorem f5_eq  (w : World) (R : Ending → World → Prop) : vc Try.prog f5_ann (bodyOf Try.f5) (retQ Try.prog Try.f5 R) (envOf Try.f5.ntmps []) [] w = f5_vc  w R := by kernel_rfl
theorem f5_does  {w : World} {R : Ending → World → Prop} (h : f5_vc  w R) : Does Try.prog 5 #[] w R :=
  does_of_vc (ss := []) f5_ann mixed call5 Try.func5 rfl rfl (show 0 ≤ Try.f5.ntmps by decide) ((f5_eq  w R).symm ▸ h)
/-- Of escritoire/escritoirelaw5.DeviceLoads (function 6): the condition. -/
def f6_vc (a0 : Int) (a1 : Int) (a2 : Int) (w : World) (R : Ending → World → Prop) : Prop :=
  Does Try.prog 9 #[] w fun e13 w13 =>
  ∃ b13 : Bool, e13 = .returned (.bool b13) ∧ Br (!b13)
  (R (.returned (.bool false)) w13)
  (Br (decide (a0 < 0))
  (R (.returned (.bool true)) w13)
  (Br (decide (a0 > 40))
  (R (.returned (.bool true)) w13)
  (Br (decide (a2 < 0))
  (R (.returned (.bool true)) w13)
  (Br (decide (a2 > 300))
  (R (.returned (.bool true)) w13)
  (InK .i64 (a0 * 256) ∧ InK .i64 ((a0 * 256) + a2) ∧ ((0 : Int) ≤ ((a0 * 256) + a2) ∧ ((a0 * 256) + a2) ≤ ((a0 * 256) + a2) ∧ ((a0 * 256) + a2) * ((1 : Nat) : Int) ≤ 140737488355328 ∧ ((a0 * 256) + a2) ≤ 9223372036854775807) ∧ ∀ b33 w33, NewBlk w13 b33 (zerosL (.int .u8 0) ((a0 * 256) + a2).toNat) 5 w33 →
  ∃ I7 : Int → Nat → World → Prop, (∃ nl7, I7 0 nl7 w33) ∧ ∀ x8 : Int, ∀ (nl7 : Nat) (wl7 : World), I7 x8 nl7 wl7 →
  Br (decide (x8 < (((((a0 * 256) + a2).toNat : Nat) : Int))))
  ((100 : Int) ≠ 0 ∧ InK .i64 (x8.tdiv 100) ∧ ((0 : Int) ≤ x8 ∧ x8 < ((((a0 * 256) + a2).toNat : Nat) : Int)) ∧ ∃ b47 o47, (some ⟨b33, 0, none⟩ : Option Addr) = some ⟨b47, o47, none⟩ ∧ CanStore wl7 b47 (o47 + (x8).toNat) ∧ ∀ ws, Stored wl7 b47 (o47 + (x8).toNat) (.int .u8 (IntKind.wrap .u8 (a1 + (IntKind.wrap .u8 (x8.tdiv 100))))) ws →
  InK .i64 (x8 + 1) ∧ ∃ ml7, ml7 < nl7 ∧ I7 (x8 + 1) ml7 ws)
  (Does Try.prog 24 #[.slice (some ⟨b33, 0, none⟩) (((a0 * 256) + a2).toNat) (((a0 * 256) + a2).toNat)] wl7 fun e50 w50 =>
  ∃ p50 : Option Addr, ∃ n50 : Int, e50 = .returned (.tuple #[.pointer p50, .int .i64 n50]) ∧ Does Try.prog 25 #[.slice (some ⟨b33, 0, none⟩) (((a0 * 256) + a2).toNat) (((a0 * 256) + a2).toNat)] w50 fun e55 w55 =>
  ∃ p55 : Option Addr, ∃ n55 : Int, e55 = .returned (.tuple #[.pointer p55, .int .i64 n55]) ∧ Br (n50 != n55)
  (R (.returned (.bool false)) w55)
  (Br (n55 != 0)
  (R (.returned (.bool p50.isNone)) w55)
  (∀ wd16, Drew w55 wd16 →
  ∃ S16 : World → Prop, S16 wd16 ∧ Does Try.prog 19 #[.pointer p50] wd16 fun e66 w66 =>
  ∃ (p66 : Option Addr) (l66 c66 : Nat), e66 = .returned (.slice p66 l66 c66) ∧ S16 w66 ∧ Does Try.prog 26 #[.pointer p55] w66 fun e68 w68 =>
  ∃ (p68 : Option Addr) (l68 c68 : Nat), e68 = .returned (.slice p68 l68 c68) ∧ S16 w68 ∧ Does Try.prog 15 #[.slice p66 l66 c66, .slice p68 l68 c68] w68 fun e69 w69 =>
  ∃ b69 : Bool, e69 = .returned (.bool b69) ∧ S16 w69 ∧ Br b69
  (Does Try.prog 20 #[.pointer p50, .slice none 0 0] w69 fun e72 w72 =>
  ∃ p72 : Option Addr, e72 = .returned (.pointer p72) ∧ S16 w72 ∧ Does Try.prog 19 #[.pointer p72] w72 fun e73 w73 =>
  ∃ (p73 : Option Addr) (l73 c73 : Nat), e73 = .returned (.slice p73 l73 c73) ∧ S16 w73 ∧ Does Try.prog 26 #[.pointer p55] w73 fun e75 w75 =>
  ∃ (p75 : Option Addr) (l75 c75 : Nat), e75 = .returned (.slice p75 l75 c75) ∧ S16 w75 ∧ Does Try.prog 15 #[.slice p73 l73 c73, .slice p75 l75 c75] w75 fun e76 w76 =>
  ∃ b76 : Bool, e76 = .returned (.bool b76) ∧ S16 w76 ∧ Br b76
  (Does Try.prog 27 #[.pointer p50] w76 fun e80 w80 =>
  ∃ n80 : Int, e80 = .returned (.int .i64 n80) ∧ S16 w80 ∧ ∃ b82 o82, p55 = some ⟨b82, o82, none⟩ ∧ ∃ (p84 : Option Addr) (l84 c84 : Nat), (∀ w, S16 w → w.cell? ⟨b82, o82 + 1, none⟩ = some (.slice p84 l84 c84)) ∧ R (.returned (.bool (n80 == ((l84 : Int))))) w80)
  (R (.returned (.bool false)) w76))
  (R (.returned (.bool false)) w69)))))))))
def f6_ann : Ann := { loops := [(7, [(8, .int .i64)])], cuts := [], flip := [], throws := [] }
theorem f6_eq (a0 : Int) (a1 : Int) (a2 : Int) (w : World) (R : Ending → World → Prop) : vc Try.prog f6_ann (bodyOf Try.f6) (retQ Try.prog Try.f6 R) (envOf Try.f6.ntmps [.v (.int .i64 a0), .v (.int .u8 a1), .v (.int .i64 a2)]) [] w = f6_vc a0 a1 a2 w R := by kernel_rfl
theorem f6_does (a0 : Int) (a1 : Int) (a2 : Int) {w : World} {R : Ending → World → Prop} (h : f6_vc a0 a1 a2 w R) : Does Try.prog 6 #[.int .i64 a0, .int .u8 a1, .int .i64 a2] w R :=
  does_of_vc (ss := [.v (.int .i64 a0), .v (.int .u8 a1), .v (.int .i64 a2)]) f6_ann mixed call6 Try.func6 rfl rfl (show 3 ≤ Try.f6.ntmps by decide) ((f6_eq a0 a1 a2 w R).symm ▸ h)
/-- Of escritoire/escritoirelaw5.DeviceDies (function 7): the condition. -/
def f7_vc (p0 : Option Addr) (l0 c0 : Nat) (a1 : Int) (w : World) (R : Ending → World → Prop) : Prop :=
  Does Try.prog 9 #[] w fun e16 w16 =>
  ∃ b16 : Bool, e16 = .returned (.bool b16) ∧ Br (!b16)
  (R (.returned (.bool false)) w16)
  (Does Try.prog 17 #[.slice p0 l0 c0, .int .i64 100] w16 fun e19 w19 =>
  ∃ b19 : Bool, e19 = .returned (.bool b19) ∧ Br (!b19)
  (R (.returned (.bool true)) w19)
  (Does Try.prog 10 #[.int .i64 8] w19 fun e24 w24 =>
  ∃ p24 : Option Addr, ∃ n24 : Int, e24 = .returned (.tuple #[.pointer p24, .int .i64 n24]) ∧ Does Try.prog 10 #[.int .i64 8] w24 fun e28 w28 =>
  ∃ p28 : Option Addr, ∃ n28 : Int, e28 = .returned (.tuple #[.pointer p28, .int .i64 n28]) ∧ Br (n24 != 0)
  (R (.returned (.bool false)) w28)
  (Br (n28 != 0)
  (R (.returned (.bool false)) w28)
  (Does Try.prog 22 #[.pointer p24, .int .i64 (bits .and .i64 a1 31)] w28 fun e39 w39 =>
  e39 = .returned (.tuple #[]) ∧ ∃ I12 : Int → Nat → World → Prop, (∃ nl12, I12 0 nl12 w39) ∧ ∀ x9 : Int, ∀ (nl12 : Nat) (wl12 : World), I12 x9 nl12 wl12 →
  Br (decide (x9 < ((l0 : Int))))
  (((0 : Int) ≤ x9 ∧ x9 < (l0 : Int)) ∧ ∃ b48 o48, p0 = some ⟨b48, o48, none⟩ ∧ ∃ n49 : Int, wl12.cell? ⟨b48, o48 + (x9).toNat * 5, none⟩ = some (.int .i64 n49) ∧ ∃ n49_1 : Int, wl12.cell? ⟨b48, o48 + (x9).toNat * 5 + 1, none⟩ = some (.int .i64 n49_1) ∧ ∃ n49_2 : Int, wl12.cell? ⟨b48, o48 + (x9).toNat * 5 + 2, none⟩ = some (.int .i64 n49_2) ∧ ∃ n49_3 : Int, wl12.cell? ⟨b48, o48 + (x9).toNat * 5 + 3, none⟩ = some (.int .u8 n49_3) ∧ ∃ (p49 : Option Addr) (l49 c49 : Nat), wl12.cell? ⟨b48, o48 + (x9).toNat * 5 + 4, none⟩ = some (.slice p49 l49 c49) ∧ ∀ b10 w10, NewBlk wl12 b10 [.int .i64 0, .int .i64 0, .int .i64 0, .int .u8 0, .slice none 0 0] 39 w10 →
  CanStore w10 b10 0 ∧ ∀ ws, Stored w10 b10 0 (.int .i64 n49) ws →
  CanStore ws b10 1 ∧ ∀ ws_1, Stored ws b10 1 (.int .i64 n49_1) ws_1 →
  CanStore ws_1 b10 2 ∧ ∀ ws_2, Stored ws_1 b10 2 (.int .i64 n49_2) ws_2 →
  CanStore ws_2 b10 3 ∧ ∀ ws_3, Stored ws_2 b10 3 (.int .u8 n49_3) ws_3 →
  CanStore ws_3 b10 4 ∧ ∀ ws_4, Stored ws_3 b10 4 (.slice p49 l49 c49) ws_4 →
  Does Try.prog 16 #[.pointer p24] ws_4 fun e51 w51 =>
  ∃ n51 : Int, e51 = .returned (.int .i64 n51) ∧ Does Try.prog 19 #[.pointer p24] w51 fun e53 w53 =>
  ∃ (p53 : Option Addr) (l53 c53 : Nat), e53 = .returned (.slice p53 l53 c53) ∧ ∃ J25 : Int → Int → Nat → World → Prop, (∃ n56 : Int, w53.cell? ⟨b10, 0, none⟩ = some (.int .i64 n56) ∧ Br (decide (n56 ≤ 4))
  (∀ wd19, Drew w53 wd19 →
  ∃ S19 : World → Prop, S19 wd19 ∧ ∃ n60 : Int, (∀ w, S19 w → w.cell? ⟨b10, 2, none⟩ = some (.int .i64 n60)) ∧ ∃ n62 : Int, wd19.cell? ⟨b10, 3, none⟩ = some (.int .u8 n62) ∧ Does Try.prog 12 #[.int .u8 n62, .int .i64 1] wd19 fun e63 w63 =>
  ∃ (p63 : Option Addr) (l63 c63 : Nat), e63 = .returned (.slice p63 l63 c63) ∧ S19 w63 ∧ Does Try.prog 13 #[.pointer p24, .int .i64 n60, .slice p63 l63 c63] w63 fun e64 w64 =>
  ∃ n64 : Int, e64 = .returned (.int .i64 n64) ∧ S19 w64 ∧ ∃ n67 : Int, (∀ w, S19 w → w.cell? ⟨b10, 2, none⟩ = some (.int .i64 n67)) ∧ ∃ n69 : Int, (∀ w, S19 w → w.cell? ⟨b10, 3, none⟩ = some (.int .u8 n69)) ∧ Does Try.prog 12 #[.int .u8 n69, .int .i64 1] w64 fun e70 w70 =>
  ∃ (p70 : Option Addr) (l70 c70 : Nat), e70 = .returned (.slice p70 l70 c70) ∧ S19 w70 ∧ Does Try.prog 13 #[.pointer p28, .int .i64 n67, .slice p70 l70 c70] w70 fun e71 w71 =>
  ∃ n71 : Int, e71 = .returned (.int .i64 n71) ∧ ∃ nc25, J25 n64 n71 nc25 w71)
  (∃ n74 : Int, w53.cell? ⟨b10, 0, none⟩ = some (.int .i64 n74) ∧ Br (decide (n74 ≤ 6))
  (∃ n79 : Int, w53.cell? ⟨b10, 2, none⟩ = some (.int .i64 n79) ∧ Does Try.prog 14 #[.pointer p24, .int .i64 n79] w53 fun e80 w80 =>
  ∃ (p80 : Option Addr) (l80 c80 : Nat), ∃ n80 : Int, e80 = .returned (.tuple #[.slice p80 l80 c80, .int .i64 n80]) ∧ ∃ n86 : Int, w80.cell? ⟨b10, 2, none⟩ = some (.int .i64 n86) ∧ Does Try.prog 14 #[.pointer p28, .int .i64 n86] w80 fun e87 w87 =>
  ∃ (p87 : Option Addr) (l87 c87 : Nat), ∃ n87 : Int, e87 = .returned (.tuple #[.slice p87 l87 c87, .int .i64 n87]) ∧ ∃ nc25, J25 n80 n87 nc25 w87)
  (∃ n92 : Int, w53.cell? ⟨b10, 0, none⟩ = some (.int .i64 n92) ∧ Br (decide (n92 ≤ 8))
  (Does Try.prog 18 #[.pointer p24] w53 fun e95 w95 =>
  ∃ n95 : Int, e95 = .returned (.int .i64 n95) ∧ Does Try.prog 18 #[.pointer p28] w95 fun e97 w97 =>
  ∃ n97 : Int, e97 = .returned (.int .i64 n97) ∧ ∃ nc25, J25 n95 n97 nc25 w97)
  (InK .i64 (x9 + 1) ∧ ∃ ml12, ml12 < nl12 ∧ I12 (x9 + 1) ml12 w53)))) ∧ ∀ x11 : Int, ∀ x12 : Int, ∀ (nc25 : Nat) (wc25 : World), J25 x11 x12 nc25 wc25 →
  Does Try.prog 23 #[.pointer p24] wc25 fun e99 w99 =>
  ∃ b99 : Bool, e99 = .returned (.bool b99) ∧ Br b99
  (Does Try.prog 19 #[.pointer p24] w99 fun e101 w101 =>
  ∃ (p101 : Option Addr) (l101 c101 : Nat), e101 = .returned (.slice p101 l101 c101) ∧ Does Try.prog 15 #[.slice p101 l101 c101, .slice p53 l53 c53] w101 fun e103 w103 =>
  ∃ b103 : Bool, e103 = .returned (.bool b103) ∧ Br (x11 == 7)
  (Br (n51 == (bits .and .i64 a1 31))
  (Does Try.prog 16 #[.pointer p24] w103 fun e113 w113 =>
  ∃ n113 : Int, e113 = .returned (.int .i64 n113) ∧ InK .i64 ((bits .and .i64 a1 31) + 1) ∧ Br (n113 == ((bits .and .i64 a1 31) + 1))
  (Br b103
  (Does Try.prog 19 #[.pointer p24] w113 fun e128 w128 =>
  ∃ (p128 : Option Addr) (l128 c128 : Nat), e128 = .returned (.slice p128 l128 c128) ∧ Does Try.prog 19 #[.pointer p28] w128 fun e130 w130 =>
  ∃ (p130 : Option Addr) (l130 c130 : Nat), e130 = .returned (.slice p130 l130 c130) ∧ Does Try.prog 15 #[.slice p128 l128 c128, .slice p130 l130 c130] w130 fun e131 w131 =>
  ∃ b131 : Bool, e131 = .returned (.bool b131) ∧ Br b131
  (Does Try.prog 18 #[.pointer p24] w131 fun e135 w135 =>
  ∃ n135 : Int, e135 = .returned (.int .i64 n135) ∧ Br (n135 == 7)
  (Does Try.prog 16 #[.pointer p24] w135 fun e140 w140 =>
  ∃ n140 : Int, e140 = .returned (.int .i64 n140) ∧ InK .i64 ((bits .and .i64 a1 31) + 1) ∧ R (.returned (.bool (n140 == ((bits .and .i64 a1 31) + 1)))) w140)
  (R (.returned (.bool false)) w135))
  (R (.returned (.bool false)) w131))
  (∃ n122 : Int, w113.cell? ⟨b10, 0, none⟩ = some (.int .i64 n122) ∧ Br (decide (n122 ≤ 4))
  (Does Try.prog 19 #[.pointer p24] w113 fun e128_1 w128_1 =>
  ∃ (p128_1 : Option Addr) (l128_1 c128_1 : Nat), e128_1 = .returned (.slice p128_1 l128_1 c128_1) ∧ Does Try.prog 19 #[.pointer p28] w128_1 fun e130_1 w130_1 =>
  ∃ (p130_1 : Option Addr) (l130_1 c130_1 : Nat), e130_1 = .returned (.slice p130_1 l130_1 c130_1) ∧ Does Try.prog 15 #[.slice p128_1 l128_1 c128_1, .slice p130_1 l130_1 c130_1] w130_1 fun e131_1 w131_1 =>
  ∃ b131_1 : Bool, e131_1 = .returned (.bool b131_1) ∧ Br b131_1
  (Does Try.prog 18 #[.pointer p24] w131_1 fun e135_1 w135_1 =>
  ∃ n135_1 : Int, e135_1 = .returned (.int .i64 n135_1) ∧ Br (n135_1 == 7)
  (Does Try.prog 16 #[.pointer p24] w135_1 fun e140_1 w140_1 =>
  ∃ n140_1 : Int, e140_1 = .returned (.int .i64 n140_1) ∧ InK .i64 ((bits .and .i64 a1 31) + 1) ∧ R (.returned (.bool (n140_1 == ((bits .and .i64 a1 31) + 1)))) w140_1)
  (R (.returned (.bool false)) w135_1))
  (R (.returned (.bool false)) w131_1))
  (R (.returned (.bool false)) w113)))
  (R (.returned (.bool false)) w113))
  (R (.returned (.bool false)) w103))
  (R (.returned (.bool false)) w103))
  (Br (x11 != x12)
  (R (.returned (.bool false)) w99)
  (Does Try.prog 16 #[.pointer p24] w99 fun e150 w150 =>
  ∃ n150 : Int, e150 = .returned (.int .i64 n150) ∧ Does Try.prog 16 #[.pointer p28] w150 fun e152 w152 =>
  ∃ n152 : Int, e152 = .returned (.int .i64 n152) ∧ Br (n150 != n152)
  (R (.returned (.bool false)) w152)
  (Does Try.prog 19 #[.pointer p24] w152 fun e157 w157 =>
  ∃ (p157 : Option Addr) (l157 c157 : Nat), e157 = .returned (.slice p157 l157 c157) ∧ Does Try.prog 19 #[.pointer p28] w157 fun e159 w159 =>
  ∃ (p159 : Option Addr) (l159 c159 : Nat), e159 = .returned (.slice p159 l159 c159) ∧ Does Try.prog 15 #[.slice p157 l157 c157, .slice p159 l159 c159] w159 fun e160 w160 =>
  ∃ b160 : Bool, e160 = .returned (.bool b160) ∧ Br (!b160)
  (R (.returned (.bool false)) w160)
  (InK .i64 (x9 + 1) ∧ ∃ ml12, ml12 < nl12 ∧ I12 (x9 + 1) ml12 w160)))))
  (Does Try.prog 16 #[.pointer p24] wl12 fun e164 w164 =>
  ∃ n164 : Int, e164 = .returned (.int .i64 n164) ∧ R (.returned (.bool (decide (n164 ≤ (bits .and .i64 a1 31))))) w164)))))
def f7_ann : Ann := { loops := [(12, [(9, .int .i64)])], cuts := [(25, [(11, .int .i64), (12, .int .i64)])], flip := [], throws := [] }
theorem f7_eq (p0 : Option Addr) (l0 c0 : Nat) (a1 : Int) (w : World) (R : Ending → World → Prop) : vc Try.prog f7_ann (bodyOf Try.f7) (retQ Try.prog Try.f7 R) (envOf Try.f7.ntmps [.v (.slice p0 l0 c0), .v (.int .i64 a1)]) [] w = f7_vc p0 l0 c0 a1 w R := by kernel_rfl
theorem f7_does (p0 : Option Addr) (l0 c0 : Nat) (a1 : Int) {w : World} {R : Ending → World → Prop} (h : f7_vc p0 l0 c0 a1 w R) : Does Try.prog 7 #[.slice p0 l0 c0, .int .i64 a1] w R :=
  does_of_vc (ss := [.v (.slice p0 l0 c0), .v (.int .i64 a1)]) f7_ann mixed call7 Try.func7 rfl rfl (show 2 ≤ Try.f7.ntmps by decide) ((f7_eq p0 l0 c0 a1 w R).symm ▸ h)
/-- Of escritoire/escritoirelaw5.DevicePlays (function 8): the condition. -/
def f8_vc (a0 : Int) (p1 : Option Addr) (l1 c1 : Nat) (w : World) (R : Ending → World → Prop) : Prop :=
  Does Try.prog 9 #[] w fun e20 w20 =>
  ∃ b20 : Bool, e20 = .returned (.bool b20) ∧ Br (!b20)
  (R (.returned (.bool false)) w20)
  (Does Try.prog 17 #[.slice p1 l1 c1, .int .i64 150] w20 fun e23 w23 =>
  ∃ b23 : Bool, e23 = .returned (.bool b23) ∧ Br (!b23)
  (R (.returned (.bool true)) w23)
  (Br (decide (a0 > 40))
  (R (.returned (.bool true)) w23)
  (Does Try.prog 10 #[.int .i64 a0] w23 fun e31 w31 =>
  ∃ p31 : Option Addr, ∃ n31 : Int, e31 = .returned (.tuple #[.pointer p31, .int .i64 n31]) ∧ Does Try.prog 28 #[.int .i64 a0] w31 fun e36 w36 =>
  ∃ p36 : Option Addr, ∃ n36 : Int, e36 = .returned (.tuple #[.pointer p36, .int .i64 n36]) ∧ Br (n31 != n36)
  (R (.returned (.bool false)) w36)
  (Br (n36 != 0)
  (R (.returned (.bool p31.isNone)) w36)
  (∃ I12 : Option Addr → Option Addr → Int → Nat → World → Prop, (∃ nl12, I12 p31 p36 0 nl12 w36) ∧ ∀ p5 : Option Addr, ∀ p7 : Option Addr, ∀ x9 : Int, ∀ (nl12 : Nat) (wl12 : World), I12 p5 p7 x9 nl12 wl12 →
  Br (decide (x9 < ((l1 : Int))))
  (((0 : Int) ≤ x9 ∧ x9 < (l1 : Int)) ∧ ∃ b54 o54, p1 = some ⟨b54, o54, none⟩ ∧ ∃ n55 : Int, wl12.cell? ⟨b54, o54 + (x9).toNat * 5, none⟩ = some (.int .i64 n55) ∧ ∃ n55_1 : Int, wl12.cell? ⟨b54, o54 + (x9).toNat * 5 + 1, none⟩ = some (.int .i64 n55_1) ∧ ∃ n55_2 : Int, wl12.cell? ⟨b54, o54 + (x9).toNat * 5 + 2, none⟩ = some (.int .i64 n55_2) ∧ ∃ n55_3 : Int, wl12.cell? ⟨b54, o54 + (x9).toNat * 5 + 3, none⟩ = some (.int .u8 n55_3) ∧ ∃ (p55 : Option Addr) (l55 c55 : Nat), wl12.cell? ⟨b54, o54 + (x9).toNat * 5 + 4, none⟩ = some (.slice p55 l55 c55) ∧ ∀ b10 w10, NewBlk wl12 b10 [.int .i64 0, .int .i64 0, .int .i64 0, .int .u8 0, .slice none 0 0] 39 w10 →
  CanStore w10 b10 0 ∧ ∀ ws, Stored w10 b10 0 (.int .i64 n55) ws →
  CanStore ws b10 1 ∧ ∀ ws_1, Stored ws b10 1 (.int .i64 n55_1) ws_1 →
  CanStore ws_1 b10 2 ∧ ∀ ws_2, Stored ws_1 b10 2 (.int .i64 n55_2) ws_2 →
  CanStore ws_2 b10 3 ∧ ∀ ws_3, Stored ws_2 b10 3 (.int .u8 n55_3) ws_3 →
  CanStore ws_3 b10 4 ∧ ∀ ws_4, Stored ws_3 b10 4 (.slice p55 l55 c55) ws_4 →
  ∃ J42 : Option Addr → Option Addr → Bool → Nat → World → Prop, (∃ n66 : Int, ws_4.cell? ⟨b10, 0, none⟩ = some (.int .i64 n66) ∧ Br (decide (n66 ≤ 4))
  (∃ n69 : Int, ws_4.cell? ⟨b10, 3, none⟩ = some (.int .u8 n69) ∧ ∃ n71 : Int, ws_4.cell? ⟨b10, 1, none⟩ = some (.int .i64 n71) ∧ Does Try.prog 12 #[.int .u8 n69, .int .i64 n71] ws_4 fun e72 w72 =>
  ∃ (p72 : Option Addr) (l72 c72 : Nat), e72 = .returned (.slice p72 l72 c72) ∧ ∃ n74 : Int, w72.cell? ⟨b10, 0, none⟩ = some (.int .i64 n74) ∧ Br (n74 == 4)
  (∃ n78 : Int, w72.cell? ⟨b10, 1, none⟩ = some (.int .i64 n78) ∧ Br (decide (n78 < 0))
  (((0 : Int) ≤ 1 ∧ 1 ≤ (l72 : Int)) ∧ ∃ n85 : Int, w72.cell? ⟨b10, 2, none⟩ = some (.int .i64 n85) ∧ Does Try.prog 13 #[.pointer p5, .int .i64 n85, .slice (subp p72 ((1 : Int).toNat) c72 1) (l72 - ((1 : Int).toNat)) (c72 - ((1 : Int).toNat))] w72 fun e87 w87 =>
  ∃ n87 : Int, e87 = .returned (.int .i64 n87) ∧ ∃ n91 : Int, w87.cell? ⟨b10, 2, none⟩ = some (.int .i64 n91) ∧ Does Try.prog 29 #[.pointer p7, .int .i64 n91, .slice (subp p72 ((1 : Int).toNat) c72 1) (l72 - ((1 : Int).toNat)) (c72 - ((1 : Int).toNat))] w87 fun e93 w93 =>
  ∃ n93 : Int, e93 = .returned (.int .i64 n93) ∧ ∃ nc42, J42 p5 p7 (n87 == n93) nc42 w93)
  (∃ n85_1 : Int, w72.cell? ⟨b10, 2, none⟩ = some (.int .i64 n85_1) ∧ Does Try.prog 13 #[.pointer p5, .int .i64 n85_1, .slice p72 l72 c72] w72 fun e87_1 w87_1 =>
  ∃ n87_1 : Int, e87_1 = .returned (.int .i64 n87_1) ∧ ∃ n91_1 : Int, w87_1.cell? ⟨b10, 2, none⟩ = some (.int .i64 n91_1) ∧ Does Try.prog 29 #[.pointer p7, .int .i64 n91_1, .slice p72 l72 c72] w87_1 fun e93_1 w93_1 =>
  ∃ n93_1 : Int, e93_1 = .returned (.int .i64 n93_1) ∧ ∃ nc42, J42 p5 p7 (n87_1 == n93_1) nc42 w93_1))
  (∃ n85_2 : Int, w72.cell? ⟨b10, 2, none⟩ = some (.int .i64 n85_2) ∧ Does Try.prog 13 #[.pointer p5, .int .i64 n85_2, .slice p72 l72 c72] w72 fun e87_2 w87_2 =>
  ∃ n87_2 : Int, e87_2 = .returned (.int .i64 n87_2) ∧ ∃ n91_2 : Int, w87_2.cell? ⟨b10, 2, none⟩ = some (.int .i64 n91_2) ∧ Does Try.prog 29 #[.pointer p7, .int .i64 n91_2, .slice p72 l72 c72] w87_2 fun e93_2 w93_2 =>
  ∃ n93_2 : Int, e93_2 = .returned (.int .i64 n93_2) ∧ ∃ nc42, J42 p5 p7 (n87_2 == n93_2) nc42 w93_2))
  (∃ n97 : Int, ws_4.cell? ⟨b10, 0, none⟩ = some (.int .i64 n97) ∧ Br (decide (n97 ≤ 6))
  (∃ n102 : Int, ws_4.cell? ⟨b10, 2, none⟩ = some (.int .i64 n102) ∧ Does Try.prog 14 #[.pointer p5, .int .i64 n102] ws_4 fun e103 w103 =>
  ∃ (p103 : Option Addr) (l103 c103 : Nat), ∃ n103 : Int, e103 = .returned (.tuple #[.slice p103 l103 c103, .int .i64 n103]) ∧ ∃ n109 : Int, w103.cell? ⟨b10, 2, none⟩ = some (.int .i64 n109) ∧ Does Try.prog 30 #[.pointer p7, .int .i64 n109] w103 fun e110 w110 =>
  ∃ (p110 : Option Addr) (l110 c110 : Nat), ∃ n110 : Int, e110 = .returned (.tuple #[.slice p110 l110 c110, .int .i64 n110]) ∧ Br (n103 == n110)
  (Does Try.prog 15 #[.slice p103 l103 c103, .slice p110 l110 c110] w110 fun e119 w119 =>
  ∃ b119 : Bool, e119 = .returned (.bool b119) ∧ ∃ nc42, J42 p5 p7 b119 nc42 w119)
  (∃ nc42, J42 p5 p7 false nc42 w110))
  (∃ n123 : Int, ws_4.cell? ⟨b10, 0, none⟩ = some (.int .i64 n123) ∧ Br (decide (n123 ≤ 8))
  (Does Try.prog 18 #[.pointer p5] ws_4 fun e126 w126 =>
  ∃ n126 : Int, e126 = .returned (.int .i64 n126) ∧ Does Try.prog 31 #[.pointer p7] w126 fun e129 w129 =>
  ∃ n129 : Int, e129 = .returned (.int .i64 n129) ∧ ∃ nc42, J42 p5 p7 (n126 == n129) nc42 w129)
  (∃ n133 : Int, ws_4.cell? ⟨b10, 0, none⟩ = some (.int .i64 n133) ∧ Br (n133 == 9)
  (∃ (p137 : Option Addr) (l137 c137 : Nat), ws_4.cell? ⟨b10, 4, none⟩ = some (.slice p137 l137 c137) ∧ Does Try.prog 11 #[.pointer p5, .slice p137 l137 c137] ws_4 fun e138 w138 =>
  e138 = .returned (.tuple #[]) ∧ ∀ wd35, Drew w138 wd35 →
  ∃ b141 o141, p7 = some ⟨b141, o141, none⟩ ∧ ∃ (p143 : Option Addr) (l143 c143 : Nat), wd35.cell? ⟨b141, o141 + 3, none⟩ = some (.slice p143 l143 c143) ∧ ∃ (p145 : Option Addr) (l145 c145 : Nat), wd35.cell? ⟨b10, 4, none⟩ = some (.slice p145 l145 c145) ∧ ∃ (p146 : Option Addr) (l146 c146 : Nat) (w146 : World), (Builtin.append_ #[22, 22] 22 #[.slice p143 l143 c143, .slice p145 l145 c145]).run Try.prog wd35 = .ok (.slice p146 l146 c146) w146 ∧
  ∃ b147 o147, p7 = some ⟨b147, o147, none⟩ ∧ CanStore w146 b147 (o147 + 3) ∧ ∀ ws_5, Stored w146 b147 (o147 + 3) (.slice p146 l146 c146) ws_5 →
  ∃ nc42, J42 p5 p7 true nc42 ws_5)
  (∃ n151 : Int, ws_4.cell? ⟨b10, 0, none⟩ = some (.int .i64 n151) ∧ Br (n151 == 10)
  (∃ n155 : Int, ws_4.cell? ⟨b10, 1, none⟩ = some (.int .i64 n155) ∧ Does Try.prog 22 #[.pointer p5, .int .i64 n155] ws_4 fun e156 w156 =>
  e156 = .returned (.tuple #[]) ∧ ∃ n159 : Int, w156.cell? ⟨b10, 1, none⟩ = some (.int .i64 n159) ∧ Does Try.prog 32 #[.pointer p7, .int .i64 n159] w156 fun e160 w160 =>
  e160 = .returned (.tuple #[]) ∧ ∃ nc42, J42 p5 p7 true nc42 w160)
  (∃ n163 : Int, ws_4.cell? ⟨b10, 0, none⟩ = some (.int .i64 n163) ∧ Br (n163 == 11)
  (∃ (p167 : Option Addr) (l167 c167 : Nat), ws_4.cell? ⟨b10, 4, none⟩ = some (.slice p167 l167 c167) ∧ Does Try.prog 20 #[.pointer p5, .slice p167 l167 c167] ws_4 fun e168 w168 =>
  ∃ p168 : Option Addr, e168 = .returned (.pointer p168) ∧ ∃ (p171 : Option Addr) (l171 c171 : Nat), w168.cell? ⟨b10, 4, none⟩ = some (.slice p171 l171 c171) ∧ Does Try.prog 33 #[.pointer p7, .slice p171 l171 c171] w168 fun e172 w172 =>
  ∃ p172 : Option Addr, e172 = .returned (.pointer p172) ∧ ∃ nc42, J42 p168 p172 true nc42 w172)
  (Does Try.prog 34 #[.pointer p5] ws_4 fun e57 w57 =>
  ∃ p57 : Option Addr, e57 = .returned (.pointer p57) ∧ Does Try.prog 12 #[.int .u8 9, .int .i64 1] w57 fun e59 w59 =>
  ∃ (p59 : Option Addr) (l59 c59 : Nat), e59 = .returned (.slice p59 l59 c59) ∧ Does Try.prog 13 #[.pointer p5, .int .i64 2, .slice p59 l59 c59] w59 fun e60 w60 =>
  ∃ n60 : Int, e60 = .returned (.int .i64 n60) ∧ Does Try.prog 22 #[.pointer p5, .int .i64 0] w60 fun e62 w62 =>
  e62 = .returned (.tuple #[]) ∧ ∃ nc42, J42 p57 p7 true nc42 w62))))))) ∧ ∀ p5_1 : Option Addr, ∀ p7_1 : Option Addr, ∀ b11 : Bool, ∀ (nc42 : Nat) (wc42 : World), J42 p5_1 p7_1 b11 nc42 wc42 →
  ∀ wd42, Drew wc42 wd42 →
  ∃ S42 : World → Prop, S42 wd42 ∧ Br (!b11)
  (R (.returned (.bool false)) wd42)
  (Does Try.prog 23 #[.pointer p5_1] wd42 fun e177 w177 =>
  ∃ b177 : Bool, e177 = .returned (.bool b177) ∧ S42 w177 ∧ ∃ b179 o179, p7_1 = some ⟨b179, o179, none⟩ ∧ ∃ b181 : Bool, (∀ w, S42 w → w.cell? ⟨b179, o179 + 6, none⟩ = some (.bool b181)) ∧ Br (!(b177 == b181))
  (R (.returned (.bool false)) w177)
  (Does Try.prog 16 #[.pointer p5_1] w177 fun e186 w186 =>
  ∃ n186 : Int, e186 = .returned (.int .i64 n186) ∧ S42 w186 ∧ ∃ b188 o188, p7_1 = some ⟨b188, o188, none⟩ ∧ ∃ n190 : Int, (∀ w, S42 w → w.cell? ⟨b188, o188 + 5, none⟩ = some (.int .i64 n190)) ∧ Br (n186 != n190)
  (R (.returned (.bool false)) w186)
  (Does Try.prog 27 #[.pointer p5_1] w186 fun e195 w195 =>
  ∃ n195 : Int, e195 = .returned (.int .i64 n195) ∧ S42 w195 ∧ ∃ b197 o197, p7_1 = some ⟨b197, o197, none⟩ ∧ ∃ (p199 : Option Addr) (l199 c199 : Nat), (∀ w, S42 w → w.cell? ⟨b197, o197 + 1, none⟩ = some (.slice p199 l199 c199)) ∧ Br (n195 != ((l199 : Int)))
  (R (.returned (.bool false)) w195)
  (Does Try.prog 19 #[.pointer p5_1] w195 fun e205 w205 =>
  ∃ (p205 : Option Addr) (l205 c205 : Nat), e205 = .returned (.slice p205 l205 c205) ∧ Does Try.prog 26 #[.pointer p7_1] w205 fun e207 w207 =>
  ∃ (p207 : Option Addr) (l207 c207 : Nat), e207 = .returned (.slice p207 l207 c207) ∧ Does Try.prog 15 #[.slice p205 l205 c205, .slice p207 l207 c207] w207 fun e208 w208 =>
  ∃ b208 : Bool, e208 = .returned (.bool b208) ∧ Br (!b208)
  (R (.returned (.bool false)) w208)
  (InK .i64 (x9 + 1) ∧ ∃ ml12, ml12 < nl12 ∧ I12 p5_1 p7_1 (x9 + 1) ml12 w208))))))
  (R (.returned (.bool true)) wl12))))))
def f8_ann : Ann := { loops := [(12, [(5, .ptr), (7, .ptr), (9, .int .i64)])], cuts := [(42, [(5, .ptr), (7, .ptr), (11, .bool)])], flip := [], throws := [] }
theorem f8_eq (a0 : Int) (p1 : Option Addr) (l1 c1 : Nat) (w : World) (R : Ending → World → Prop) : vc Try.prog f8_ann (bodyOf Try.f8) (retQ Try.prog Try.f8 R) (envOf Try.f8.ntmps [.v (.int .i64 a0), .v (.slice p1 l1 c1)]) [] w = f8_vc a0 p1 l1 c1 w R := by kernel_rfl
theorem f8_does (a0 : Int) (p1 : Option Addr) (l1 c1 : Nat) {w : World} {R : Ending → World → Prop} (h : f8_vc a0 p1 l1 c1 w R) : Does Try.prog 8 #[.int .i64 a0, .slice p1 l1 c1] w R :=
  does_of_vc (ss := [.v (.int .i64 a0), .v (.slice p1 l1 c1)]) f8_ann mixed call8 Try.func8 rfl rfl (show 2 ≤ Try.f8.ntmps by decide) ((f8_eq a0 p1 l1 c1 w R).symm ▸ h)
/-- Of escritoire/escritoirelaw5.awake (function 9): the condition. -/
def f9_vc  (w : World) (R : Ending → World → Prop) : Prop :=
  Does Try.prog 10 #[.int .i64 8] w fun e8 w8 =>
  ∃ p8 : Option Addr, ∃ n8 : Int, e8 = .returned (.tuple #[.pointer p8, .int .i64 n8]) ∧ Br (n8 != 0)
  (R (.returned (.bool false)) w8)
  (Br p8.isNone
  (R (.returned (.bool false)) w8)
  (Does Try.prog 21 #[] w8 fun e19 w19 =>
  ∃ (p19 : Option Addr) (l19 c19 : Nat), e19 = .returned (.slice p19 l19 c19) ∧ Does Try.prog 13 #[.pointer p8, .int .i64 2, .slice p19 l19 c19] w19 fun e20 w20 =>
  ∃ n20 : Int, e20 = .returned (.int .i64 n20) ∧ Br (n20 != 0)
  (R (.returned (.bool false)) w20)
  (∀ b25 w25, NewBlk w20 b25 [.int .u8 0] 5 w25 →
  Does Try.prog 20 #[.pointer p8, .slice (some ⟨b25, 0, none⟩) 1 1] w25 fun e26 w26 =>
  ∃ p26 : Option Addr, e26 = .returned (.pointer p26) ∧ Does Try.prog 14 #[.pointer p26, .int .i64 2] w26 fun e27 w27 =>
  ∃ (p27 : Option Addr) (l27 c27 : Nat), ∃ n27 : Int, e27 = .returned (.tuple #[.slice p27 l27 c27, .int .i64 n27]) ∧ Does Try.prog 20 #[.pointer p8, .slice none 0 0] w27 fun e32 w32 =>
  ∃ p32 : Option Addr, e32 = .returned (.pointer p32) ∧ Does Try.prog 14 #[.pointer p32, .int .i64 2] w32 fun e33 w33 =>
  ∃ (p33 : Option Addr) (l33 c33 : Nat), ∃ n33 : Int, e33 = .returned (.tuple #[.slice p33 l33 c33, .int .i64 n33]) ∧ Br (n27 == 0)
  (Br (n33 == 0)
  (Br (((l27 : Int)) == 256)
  (((0 : Int) ≤ 0 ∧ 0 < (l27 : Int)) ∧ ∃ b49 o49, p27 = some ⟨b49, o49, none⟩ ∧ ∃ n50 : Int, w33.cell? ⟨b49, o49 + (0 : Int).toNat, none⟩ = some (.int .u8 n50) ∧ Br (n50 == 0)
  (Does Try.prog 21 #[] w33 fun e55 w55 =>
  ∃ (p55 : Option Addr) (l55 c55 : Nat), e55 = .returned (.slice p55 l55 c55) ∧ Does Try.prog 15 #[.slice p33 l33 c33, .slice p55 l55 c55] w55 fun e56 w56 =>
  ∃ b56 : Bool, e56 = .returned (.bool b56) ∧ R (.returned (.bool b56)) w56)
  (R (.returned (.bool false)) w33))
  (R (.returned (.bool false)) w33))
  (R (.returned (.bool false)) w33))
  (R (.returned (.bool false)) w33))))
def f9_ann : Ann := { loops := [], cuts := [], flip := [], throws := [] }
theorem f9_eq  (w : World) (R : Ending → World → Prop) : vc Try.prog f9_ann (bodyOf Try.f9) (retQ Try.prog Try.f9 R) (envOf Try.f9.ntmps []) [] w = f9_vc  w R := by kernel_rfl
theorem f9_does  {w : World} {R : Ending → World → Prop} (h : f9_vc  w R) : Does Try.prog 9 #[] w R :=
  does_of_vc (ss := []) f9_ann mixed call9 Try.func9 rfl rfl (show 0 ≤ Try.f9.ntmps by decide) ((f9_eq  w R).symm ▸ h)
/-- Of escritoire/device.New (function 10): the condition. -/
def f10_vc (a0 : Int) (w : World) (R : Ending → World → Prop) : Prop :=
  Br (decide (a0 < 8))
  (R (.returned (.tuple #[.pointer none, .int .i64 1])) w)
  (Br (decide (a0 > 4096))
  (R (.returned (.tuple #[.pointer none, .int .i64 1])) w)
  (((0 : Int) ≤ a0 ∧ a0 ≤ a0 ∧ a0 * ((256 : Nat) : Int) ≤ 140737488355328 ∧ a0 ≤ 9223372036854775807) ∧ ∀ b11 w11, NewBlk w b11 (zerosL (.agg ((List.replicate 256 (.int .u8 0) : List Value)).toArray) (a0).toNat) 72 w11 →
  Does Try.prog 35 #[.slice (some ⟨b11, 0, none⟩) ((a0).toNat) ((a0).toNat)] w11 fun e12 w12 =>
  ∃ p12 : Option Addr, e12 = .returned (.pointer p12) ∧ R (.returned (.tuple #[.pointer p12, .int .i64 0])) w12))
def f10_ann : Ann := { loops := [], cuts := [], flip := [], throws := [] }
theorem f10_eq (a0 : Int) (w : World) (R : Ending → World → Prop) : vc Try.prog f10_ann (bodyOf Try.f10) (retQ Try.prog Try.f10 R) (envOf Try.f10.ntmps [.v (.int .i64 a0)]) [] w = f10_vc a0 w R := by kernel_rfl
theorem f10_does (a0 : Int) {w : World} {R : Ending → World → Prop} (h : f10_vc a0 w R) : Does Try.prog 10 #[.int .i64 a0] w R :=
  does_of_vc (ss := [.v (.int .i64 a0)]) f10_ann mixed call10 Try.func10 rfl rfl (show 1 ≤ Try.f10.ntmps by decide) ((f10_eq a0 w R).symm ▸ h)
/-- Of (*escritoire/device.Device).Outcomes (function 11): the condition. -/
def f11_vc (a0 : Option Addr) (p1 : Option Addr) (l1 c1 : Nat) (w : World) (R : Ending → World → Prop) : Prop :=
  Does Try.prog 36 #[.pointer a0] w fun e5 w5 =>
  ∃ b5 : Bool, e5 = .returned (.bool b5) ∧ Br b5
  (∃ b8 o8, a0 = some ⟨b8, o8, none⟩ ∧ ∃ (p10 : Option Addr) (l10 c10 : Nat), w5.cell? ⟨b8, o8 + 3, none⟩ = some (.slice p10 l10 c10) ∧ ∃ (p11 : Option Addr) (l11 c11 : Nat) (w11 : World), (Builtin.append_ #[22, 22] 22 #[.slice none 0 0, .slice p10 l10 c10]).run Try.prog w5 = .ok (.slice p11 l11 c11) w11 ∧
  ∃ (p13 : Option Addr) (l13 c13 : Nat) (w13 : World), (Builtin.append_ #[22, 22] 22 #[.slice p11 l11 c11, .slice p1 l1 c1]).run Try.prog w11 = .ok (.slice p13 l13 c13) w13 ∧
  ∃ b14 o14, a0 = some ⟨b14, o14, none⟩ ∧ CanStore w13 b14 (o14 + 3) ∧ ∀ ws, Stored w13 b14 (o14 + 3) (.slice p13 l13 c13) ws →
  R (.returned (.tuple #[])) ws)
  (R (.returned (.tuple #[])) w5)
def f11_ann : Ann := { loops := [], cuts := [], flip := [], throws := [] }
theorem f11_eq (a0 : Option Addr) (p1 : Option Addr) (l1 c1 : Nat) (w : World) (R : Ending → World → Prop) : vc Try.prog f11_ann (bodyOf Try.f11) (retQ Try.prog Try.f11 R) (envOf Try.f11.ntmps [.v (.pointer a0), .v (.slice p1 l1 c1)]) [] w = f11_vc a0 p1 l1 c1 w R := by kernel_rfl
theorem f11_does (a0 : Option Addr) (p1 : Option Addr) (l1 c1 : Nat) {w : World} {R : Ending → World → Prop} (h : f11_vc a0 p1 l1 c1 w R) : Does Try.prog 11 #[.pointer a0, .slice p1 l1 c1] w R :=
  does_of_vc (ss := [.v (.pointer a0), .v (.slice p1 l1 c1)]) f11_ann mixed call11 Try.func11 rfl rfl (show 2 ≤ Try.f11.ntmps by decide) ((f11_eq a0 p1 l1 c1 w R).symm ▸ h)
/-- Of escritoire/escritoirelaw5.Page (function 12): the condition. -/
def f12_vc (a0 : Int) (a1 : Int) (w : World) (R : Ending → World → Prop) : Prop :=
  ((0 : Int) ≤ (256 : Int) ∧ (256 : Int) ≤ (256 : Int) ∧ (256 : Int) * ((1 : Nat) : Int) ≤ 140737488355328 ∧ (256 : Int) ≤ 9223372036854775807) ∧ ∀ b7 w7, NewBlk w b7 (zerosL (.int .u8 0) (256 : Int).toNat) 5 w7 →
  ∃ I3 : Int → Nat → World → Prop, (∃ nl3, I3 0 nl3 w7) ∧ ∀ x6 : Int, ∀ (nl3 : Nat) (wl3 : World), I3 x6 nl3 wl3 →
  Br (decide (x6 < ((((256 : Int).toNat : Nat) : Int))))
  ((64 : Int) ≠ 0 ∧ InK .i64 (x6.tdiv 64) ∧ ((0 : Int) ≤ x6 ∧ x6 < (((256 : Int).toNat : Nat) : Int)) ∧ ∃ b23 o23, (some ⟨b7, 0, none⟩ : Option Addr) = some ⟨b23, o23, none⟩ ∧ CanStore wl3 b23 (o23 + (x6).toNat) ∧ ∀ ws, Stored wl3 b23 (o23 + (x6).toNat) (.int .u8 (IntKind.wrap .u8 (a0 + (IntKind.wrap .u8 (IntKind.wrap .i64 ((x6.tdiv 64) * a1)))))) ws →
  InK .i64 (x6 + 1) ∧ ∃ ml3, ml3 < nl3 ∧ I3 (x6 + 1) ml3 ws)
  (R (.returned (.slice (some ⟨b7, 0, none⟩) ((256 : Int).toNat) ((256 : Int).toNat))) wl3)
def f12_ann : Ann := { loops := [(3, [(6, .int .i64)])], cuts := [], flip := [20], throws := [] }
theorem f12_eq (a0 : Int) (a1 : Int) (w : World) (R : Ending → World → Prop) : vc Try.prog f12_ann (bodyOf Try.f12) (retQ Try.prog Try.f12 R) (envOf Try.f12.ntmps [.v (.int .u8 a0), .v (.int .i64 a1)]) [] w = f12_vc a0 a1 w R := by kernel_rfl
theorem f12_does (a0 : Int) (a1 : Int) {w : World} {R : Ending → World → Prop} (h : f12_vc a0 a1 w R) : Does Try.prog 12 #[.int .u8 a0, .int .i64 a1] w R :=
  does_of_vc (ss := [.v (.int .u8 a0), .v (.int .i64 a1)]) f12_ann mixed call12 Try.func12 rfl rfl (show 2 ≤ Try.f12.ntmps by decide) ((f12_eq a0 a1 w R).symm ▸ h)
/-- Of (*escritoire/device.Device).Write (function 13): the condition. -/
def f13_vc (a0 : Option Addr) (a1 : Int) (p2 : Option Addr) (l2 c2 : Nat) (w : World) (R : Ending → World → Prop) : Prop :=
  ∀ b3 w3, NewBlk w b3 [.pointer a0] 24 w3 →
  ∀ b4 w4, NewBlk w3 b4 [.int .i64 a1] 3 w4 →
  ∀ b5 w5, NewBlk w4 b5 [.slice p2 l2 c2] 22 w5 →
  ∃ p8 : Option Addr, w5.cell? ⟨b3, 0, none⟩ = some (.pointer p8) ∧ Does Try.prog 36 #[.pointer p8] w5 fun e9 w9 =>
  ∃ b9 : Bool, e9 = .returned (.bool b9) ∧ Br b9
  (∃ p11 : Option Addr, w9.cell? ⟨b3, 0, none⟩ = some (.pointer p11) ∧ ∃ n12 : Int, w9.cell? ⟨b4, 0, none⟩ = some (.int .i64 n12) ∧ Does Try.prog 37 #[.pointer p11, .int .i64 n12] w9 fun e13 w13 =>
  ∃ b13 : Bool, e13 = .returned (.bool b13) ∧ Br (!b13)
  (R (.returned (.int .i64 1)) w13)
  (∃ (p16 : Option Addr) (l16 c16 : Nat), w13.cell? ⟨b5, 0, none⟩ = some (.slice p16 l16 c16) ∧ Br (((l16 : Int)) != 256)
  (R (.returned (.int .i64 1)) w13)
  (∀ b7 w7, NewBlk w13 b7 [.nilFunc] 1 w7 →
  CanStore w7 b7 0 ∧ ∀ ws, Stored w7 b7 0 (.func (.func 38) #[] #[.pointer (some ⟨b3, 0, none⟩), .pointer (some ⟨b4, 0, none⟩), .pointer (some ⟨b5, 0, none⟩)]) ws →
  ∃ p22 : Option Addr, ws.cell? ⟨b3, 0, none⟩ = some (.pointer p22) ∧ ∃ (g24 : Go.Fn) (fs24 cs24 : Array Value), ws.cell? ⟨b7, 0, none⟩ = some (.func g24 fs24 cs24) ∧ Does Try.prog 40 #[.pointer p22, .func (.func 41) #[] #[.pointer (some ⟨b7, 0, none⟩)], .func g24 fs24 cs24] ws fun e25 w25 =>
  ∃ n25 : Int, e25 = .returned (.int .i64 n25) ∧ R (.returned (.int .i64 n25)) w25)))
  (∀ b7_1 w7_1, NewBlk w9 b7_1 [.nilFunc] 1 w7_1 →
  CanStore w7_1 b7_1 0 ∧ ∀ ws_1, Stored w7_1 b7_1 0 (.func (.func 38) #[] #[.pointer (some ⟨b3, 0, none⟩), .pointer (some ⟨b4, 0, none⟩), .pointer (some ⟨b5, 0, none⟩)]) ws_1 →
  ∃ p22_1 : Option Addr, ws_1.cell? ⟨b3, 0, none⟩ = some (.pointer p22_1) ∧ ∃ (g24_1 : Go.Fn) (fs24_1 cs24_1 : Array Value), ws_1.cell? ⟨b7_1, 0, none⟩ = some (.func g24_1 fs24_1 cs24_1) ∧ Does Try.prog 40 #[.pointer p22_1, .func (.func 41) #[] #[.pointer (some ⟨b7_1, 0, none⟩)], .func g24_1 fs24_1 cs24_1] ws_1 fun e25_1 w25_1 =>
  ∃ n25_1 : Int, e25_1 = .returned (.int .i64 n25_1) ∧ R (.returned (.int .i64 n25_1)) w25_1)
def f13_ann : Ann := { loops := [], cuts := [], flip := [], throws := [] }
theorem f13_eq (a0 : Option Addr) (a1 : Int) (p2 : Option Addr) (l2 c2 : Nat) (w : World) (R : Ending → World → Prop) : vc Try.prog f13_ann (bodyOf Try.f13) (retQ Try.prog Try.f13 R) (envOf Try.f13.ntmps [.v (.pointer a0), .v (.int .i64 a1), .v (.slice p2 l2 c2)]) [] w = f13_vc a0 a1 p2 l2 c2 w R := by kernel_rfl
theorem f13_does (a0 : Option Addr) (a1 : Int) (p2 : Option Addr) (l2 c2 : Nat) {w : World} {R : Ending → World → Prop} (h : f13_vc a0 a1 p2 l2 c2 w R) : Does Try.prog 13 #[.pointer a0, .int .i64 a1, .slice p2 l2 c2] w R :=
  does_of_vc (ss := [.v (.pointer a0), .v (.int .i64 a1), .v (.slice p2 l2 c2)]) f13_ann mixed call13 Try.func13 rfl rfl (show 3 ≤ Try.f13.ntmps by decide) ((f13_eq a0 a1 p2 l2 c2 w R).symm ▸ h)
/-- Of (*escritoire/device.Device).Read (function 14): the condition. -/
def f14_vc (a0 : Option Addr) (a1 : Int) (w : World) (R : Ending → World → Prop) : Prop :=
  ∀ b2 w2, NewBlk w b2 [.pointer a0] 24 w2 →
  ∀ b3 w3, NewBlk w2 b3 [.int .i64 a1] 3 w3 →
  ∃ p8 : Option Addr, w3.cell? ⟨b2, 0, none⟩ = some (.pointer p8) ∧ Does Try.prog 36 #[.pointer p8] w3 fun e9 w9 =>
  ∃ b9 : Bool, e9 = .returned (.bool b9) ∧ Br b9
  (∃ p11 : Option Addr, w9.cell? ⟨b2, 0, none⟩ = some (.pointer p11) ∧ ∃ n12 : Int, w9.cell? ⟨b3, 0, none⟩ = some (.int .i64 n12) ∧ Does Try.prog 37 #[.pointer p11, .int .i64 n12] w9 fun e13 w13 =>
  ∃ b13 : Bool, e13 = .returned (.bool b13) ∧ Br (!b13)
  (R (.returned (.tuple #[.slice none 0 0, .int .i64 1])) w13)
  (∀ b6 w6, NewBlk w13 b6 [.slice none 0 0] 22 w6 →
  ∃ p16 : Option Addr, w6.cell? ⟨b2, 0, none⟩ = some (.pointer p16) ∧ Does Try.prog 40 #[.pointer p16, .func (.func 43) #[] #[.pointer (some ⟨b2, 0, none⟩), .pointer (some ⟨b3, 0, none⟩), .pointer (some ⟨b6, 0, none⟩)], .func (.func 44) #[] #[]] w6 fun e18 w18 =>
  ∃ n18 : Int, e18 = .returned (.int .i64 n18) ∧ ∃ (p19 : Option Addr) (l19 c19 : Nat), w18.cell? ⟨b6, 0, none⟩ = some (.slice p19 l19 c19) ∧ R (.returned (.tuple #[.slice p19 l19 c19, .int .i64 n18])) w18))
  (∀ b6_1 w6_1, NewBlk w9 b6_1 [.slice none 0 0] 22 w6_1 →
  ∃ p16_1 : Option Addr, w6_1.cell? ⟨b2, 0, none⟩ = some (.pointer p16_1) ∧ Does Try.prog 40 #[.pointer p16_1, .func (.func 43) #[] #[.pointer (some ⟨b2, 0, none⟩), .pointer (some ⟨b3, 0, none⟩), .pointer (some ⟨b6_1, 0, none⟩)], .func (.func 44) #[] #[]] w6_1 fun e18_1 w18_1 =>
  ∃ n18_1 : Int, e18_1 = .returned (.int .i64 n18_1) ∧ ∃ (p19_1 : Option Addr) (l19_1 c19_1 : Nat), w18_1.cell? ⟨b6_1, 0, none⟩ = some (.slice p19_1 l19_1 c19_1) ∧ R (.returned (.tuple #[.slice p19_1 l19_1 c19_1, .int .i64 n18_1])) w18_1)
def f14_ann : Ann := { loops := [], cuts := [], flip := [], throws := [] }
theorem f14_eq (a0 : Option Addr) (a1 : Int) (w : World) (R : Ending → World → Prop) : vc Try.prog f14_ann (bodyOf Try.f14) (retQ Try.prog Try.f14 R) (envOf Try.f14.ntmps [.v (.pointer a0), .v (.int .i64 a1)]) [] w = f14_vc a0 a1 w R := by kernel_rfl
theorem f14_does (a0 : Option Addr) (a1 : Int) {w : World} {R : Ending → World → Prop} (h : f14_vc a0 a1 w R) : Does Try.prog 14 #[.pointer a0, .int .i64 a1] w R :=
  does_of_vc (ss := [.v (.pointer a0), .v (.int .i64 a1)]) f14_ann mixed call14 Try.func14 rfl rfl (show 2 ≤ Try.f14.ntmps by decide) ((f14_eq a0 a1 w R).symm ▸ h)
/-- Of escritoire/escritoireref1.Same (function 15): the condition. -/
def f15_vc (p0 : Option Addr) (l0 c0 : Nat) (p1 : Option Addr) (l1 c1 : Nat) (w : World) (R : Ending → World → Prop) : Prop :=
  Br (((l0 : Int)) != ((l1 : Int)))
  (R (.returned (.bool false)) w)
  (∃ I4 : Int → Nat → World → Prop, (∃ nl4, I4 0 nl4 w) ∧ ∀ x5 : Int, ∀ (nl4 : Nat) (wl4 : World), I4 x5 nl4 wl4 →
  Br (decide (x5 < ((l0 : Int))))
  (∀ wd6, Drew wl4 wd6 →
  ((0 : Int) ≤ x5 ∧ x5 < (l0 : Int)) ∧ ∃ b19 o19, p0 = some ⟨b19, o19, none⟩ ∧ ∃ n20 : Int, wd6.cell? ⟨b19, o19 + (x5).toNat, none⟩ = some (.int .u8 n20) ∧ ((0 : Int) ≤ x5 ∧ x5 < (l1 : Int)) ∧ ∃ b23 o23, p1 = some ⟨b23, o23, none⟩ ∧ ∃ n24 : Int, wd6.cell? ⟨b23, o23 + (x5).toNat, none⟩ = some (.int .u8 n24) ∧ Br (n20 != n24)
  (R (.returned (.bool false)) wd6)
  (InK .i64 (x5 + 1) ∧ ∃ ml4, ml4 < nl4 ∧ I4 (x5 + 1) ml4 wd6))
  (R (.returned (.bool true)) wl4))
def f15_ann : Ann := { loops := [(4, [(5, .int .i64)])], cuts := [], flip := [], throws := [] }
theorem f15_eq (p0 : Option Addr) (l0 c0 : Nat) (p1 : Option Addr) (l1 c1 : Nat) (w : World) (R : Ending → World → Prop) : vc Try.prog f15_ann (bodyOf Try.f15) (retQ Try.prog Try.f15 R) (envOf Try.f15.ntmps [.v (.slice p0 l0 c0), .v (.slice p1 l1 c1)]) [] w = f15_vc p0 l0 c0 p1 l1 c1 w R := by kernel_rfl
theorem f15_does (p0 : Option Addr) (l0 c0 : Nat) (p1 : Option Addr) (l1 c1 : Nat) {w : World} {R : Ending → World → Prop} (h : f15_vc p0 l0 c0 p1 l1 c1 w R) : Does Try.prog 15 #[.slice p0 l0 c0, .slice p1 l1 c1] w R :=
  does_of_vc (ss := [.v (.slice p0 l0 c0), .v (.slice p1 l1 c1)]) f15_ann mixed call15 Try.func15 rfl rfl (show 2 ≤ Try.f15.ntmps by decide) ((f15_eq p0 l0 c0 p1 l1 c1 w R).symm ▸ h)
/-- Of (*escritoire/device.Device).Ops (function 16): the condition. -/
def f16_vc (a0 : Option Addr) (w : World) (R : Ending → World → Prop) : Prop :=
  Br a0.isNone
  (R (.returned (.int .i64 0)) w)
  (∃ b6 o6, a0 = some ⟨b6, o6, none⟩ ∧ ∃ n8 : Int, w.cell? ⟨b6, o6 + 6, none⟩ = some (.int .i64 n8) ∧ R (.returned (.int .i64 n8)) w)
def f16_ann : Ann := { loops := [], cuts := [], flip := [], throws := [] }
theorem f16_eq (a0 : Option Addr) (w : World) (R : Ending → World → Prop) : vc Try.prog f16_ann (bodyOf Try.f16) (retQ Try.prog Try.f16 R) (envOf Try.f16.ntmps [.v (.pointer a0)]) [] w = f16_vc a0 w R := by kernel_rfl
theorem f16_does (a0 : Option Addr) {w : World} {R : Ending → World → Prop} (h : f16_vc a0 w R) : Does Try.prog 16 #[.pointer a0] w R :=
  does_of_vc (ss := [.v (.pointer a0)]) f16_ann mixed call16 Try.func16 rfl rfl (show 1 ≤ Try.f16.ntmps by decide) ((f16_eq a0 w R).symm ▸ h)
/-- Of escritoire/escritoirelaw5.Room (function 17): the condition. -/
def f17_vc (p0 : Option Addr) (l0 c0 : Nat) (a1 : Int) (w : World) (R : Ending → World → Prop) : Prop :=
  Br (decide (((l0 : Int)) > a1))
  (R (.returned (.bool false)) w)
  (∃ I4 : Int → Nat → World → Prop, (∃ nl4, I4 0 nl4 w) ∧ ∀ x5 : Int, ∀ (nl4 : Nat) (wl4 : World), I4 x5 nl4 wl4 →
  Br (decide (x5 < ((l0 : Int))))
  (((0 : Int) ≤ x5 ∧ x5 < (l0 : Int)) ∧ ∃ b18 o18, p0 = some ⟨b18, o18, none⟩ ∧ ∃ (p20 : Option Addr) (l20 c20 : Nat), wl4.cell? ⟨b18, o18 + (x5).toNat * 5 + 4, none⟩ = some (.slice p20 l20 c20) ∧ Br (decide (((l20 : Int)) > 200))
  (R (.returned (.bool false)) wl4)
  (InK .i64 (x5 + 1) ∧ ∃ ml4, ml4 < nl4 ∧ I4 (x5 + 1) ml4 wl4))
  (R (.returned (.bool true)) wl4))
def f17_ann : Ann := { loops := [(4, [(5, .int .i64)])], cuts := [], flip := [], throws := [] }
theorem f17_eq (p0 : Option Addr) (l0 c0 : Nat) (a1 : Int) (w : World) (R : Ending → World → Prop) : vc Try.prog f17_ann (bodyOf Try.f17) (retQ Try.prog Try.f17 R) (envOf Try.f17.ntmps [.v (.slice p0 l0 c0), .v (.int .i64 a1)]) [] w = f17_vc p0 l0 c0 a1 w R := by kernel_rfl
theorem f17_does (p0 : Option Addr) (l0 c0 : Nat) (a1 : Int) {w : World} {R : Ending → World → Prop} (h : f17_vc p0 l0 c0 a1 w R) : Does Try.prog 17 #[.slice p0 l0 c0, .int .i64 a1] w R :=
  does_of_vc (ss := [.v (.slice p0 l0 c0), .v (.int .i64 a1)]) f17_ann mixed call17 Try.func17 rfl rfl (show 2 ≤ Try.f17.ntmps by decide) ((f17_eq p0 l0 c0 a1 w R).symm ▸ h)
/-- Of (*escritoire/device.Device).Sync (function 18): the condition. -/
def f18_vc (a0 : Option Addr) (w : World) (R : Ending → World → Prop) : Prop :=
  ∀ b3 w3, NewBlk w b3 [.nilFunc] 1 w3 →
  CanStore w3 b3 0 ∧ ∀ ws, Stored w3 b3 0 (.func (.func 45) #[.pointer a0] #[]) ws →
  Does Try.prog 40 #[.pointer a0, .func (.func 46) #[] #[.pointer (some ⟨b3, 0, none⟩)], .func (.func 44) #[] #[]] ws fun e8 w8 =>
  ∃ n8 : Int, e8 = .returned (.int .i64 n8) ∧ R (.returned (.int .i64 n8)) w8
def f18_ann : Ann := { loops := [], cuts := [], flip := [], throws := [] }
theorem f18_eq (a0 : Option Addr) (w : World) (R : Ending → World → Prop) : vc Try.prog f18_ann (bodyOf Try.f18) (retQ Try.prog Try.f18 R) (envOf Try.f18.ntmps [.v (.pointer a0)]) [] w = f18_vc a0 w R := by kernel_rfl
theorem f18_does (a0 : Option Addr) {w : World} {R : Ending → World → Prop} (h : f18_vc a0 w R) : Does Try.prog 18 #[.pointer a0] w R :=
  does_of_vc (ss := [.v (.pointer a0)]) f18_ann mixed call18 Try.func18 rfl rfl (show 1 ≤ Try.f18.ntmps by decide) ((f18_eq a0 w R).symm ▸ h)
/-- Of (*escritoire/device.Device).Image (function 19): the condition. -/
def f19_vc (a0 : Option Addr) (w : World) (R : Ending → World → Prop) : Prop :=
  Does Try.prog 36 #[.pointer a0] w fun e6 w6 =>
  ∃ b6 : Bool, e6 = .returned (.bool b6) ∧ Br (!b6)
  (R (.returned (.slice none 0 0)) w6)
  (∃ b9 o9, a0 = some ⟨b9, o9, none⟩ ∧ ∃ (p11 : Option Addr) (l11 c11 : Nat), w6.cell? ⟨b9, o9 + 1, none⟩ = some (.slice p11 l11 c11) ∧ ∃ I5 : Option Addr → Nat → Nat → Int → Nat → World → Prop, (∃ nl5, I5 none 0 0 0 nl5 w6) ∧ ∀ (p3 : Option Addr) (l3 c3 : Nat), ∀ x13 : Int, ∀ (nl5 : Nat) (wl5 : World), I5 p3 l3 c3 x13 nl5 wl5 →
  Br (decide (x13 < ((l11 : Int))))
  (∃ b18 o18, a0 = some ⟨b18, o18, none⟩ ∧ ∃ (p20 : Option Addr) (l20 c20 : Nat), wl5.cell? ⟨b18, o18 + 1, none⟩ = some (.slice p20 l20 c20) ∧ ((0 : Int) ≤ x13 ∧ x13 < (l20 : Int)) ∧ ∃ b22 o22, p20 = some ⟨b22, o22, none⟩ ∧ ∃ (p24 : Option Addr) (l24 c24 : Nat) (w24 : World), (Builtin.append_ #[22, 22] 22 #[.slice p3 l3 c3, .slice (subp (some ⟨b22, o22 + (x13).toNat * 256, none⟩) 0 256 1) (256 - 0) (256 - 0)]).run Try.prog wl5 = .ok (.slice p24 l24 c24) w24 ∧
  InK .i64 (x13 + 1) ∧ ∃ ml5, ml5 < nl5 ∧ I5 p24 l24 c24 (x13 + 1) ml5 w24)
  (R (.returned (.slice p3 l3 c3)) wl5))
def f19_ann : Ann := { loops := [(5, [(3, .slice), (13, .int .i64)])], cuts := [], flip := [], throws := [] }
theorem f19_eq (a0 : Option Addr) (w : World) (R : Ending → World → Prop) : vc Try.prog f19_ann (bodyOf Try.f19) (retQ Try.prog Try.f19 R) (envOf Try.f19.ntmps [.v (.pointer a0)]) [] w = f19_vc a0 w R := by kernel_rfl
theorem f19_does (a0 : Option Addr) {w : World} {R : Ending → World → Prop} (h : f19_vc a0 w R) : Does Try.prog 19 #[.pointer a0] w R :=
  does_of_vc (ss := [.v (.pointer a0)]) f19_ann mixed call19 Try.func19 rfl rfl (show 1 ≤ Try.f19.ntmps by decide) ((f19_eq a0 w R).symm ▸ h)
/-- Of (*escritoire/device.Device).Crash (function 20): the condition. -/
def f20_vc (a0 : Option Addr) (p1 : Option Addr) (l1 c1 : Nat) (w : World) (R : Ending → World → Prop) : Prop :=
  Does Try.prog 36 #[.pointer a0] w fun e11 w11 =>
  ∃ b11 : Bool, e11 = .returned (.bool b11) ∧ Br (!b11)
  (R (.returned (.pointer none)) w11)
  (∃ b14 o14, a0 = some ⟨b14, o14, none⟩ ∧ ∃ (p16 : Option Addr) (l16 c16 : Nat), w11.cell? ⟨b14, o14, none⟩ = some (.slice p16 l16 c16) ∧ ∃ (p17 : Option Addr) (l17 c17 : Nat) (w17 : World), (Builtin.append_ #[62, 62] 62 #[.slice none 0 0, .slice p16 l16 c16]).run Try.prog w11 = .ok (.slice p17 l17 c17) w17 ∧
  ∃ b19 o19, a0 = some ⟨b19, o19, none⟩ ∧ ∃ (p21 : Option Addr) (l21 c21 : Nat), w17.cell? ⟨b19, o19 + 2, none⟩ = some (.slice p21 l21 c21) ∧ ∃ I5 : Int → Nat → World → Prop, (∃ nl5, I5 0 nl5 w17) ∧ ∀ x23 : Int, ∀ (nl5 : Nat) (wl5 : World), I5 x23 nl5 wl5 →
  Br (decide (x23 < ((l21 : Int))))
  (((0 : Int) ≤ x23 ∧ x23 < (l21 : Int)) ∧ ∃ b26 o26, p21 = some ⟨b26, o26, none⟩ ∧ ∃ vs27 : List Value, vs27.length = 257 ∧ (∀ j u, vs27[j]? = some u → wl5.cell? ⟨b26, (o26 + (x23).toNat * 257) + j, none⟩ = some u) ∧ ∀ b7 w7, NewBlk wl5 b7 ([.int .i64 0] ++ List.replicate 256 (.int .u8 0) : List Value) 74 w7 →
  (bif decide (vs27.length = 257) then storeL b7 0 vs27 w7 fun wx =>
  Br (decide (x23 < ((l1 : Int))))
  (((0 : Int) ≤ x23 ∧ x23 < (l1 : Int)) ∧ ∃ b34 o34, p1 = some ⟨b34, o34, none⟩ ∧ ∃ n35 : Int, wx.cell? ⟨b34, o34 + (x23).toNat, none⟩ = some (.int .u8 n35) ∧ ∃ I11 : Int → Nat → World → Prop, (∃ nl11, I11 0 nl11 wx) ∧ ∀ x36 : Int, ∀ (nl11 : Nat) (wl11 : World), I11 x36 nl11 wl11 →
  Br (decide (x36 < 4))
  ((0 : Int) ≤ x36 ∧ Br ((bits .and .u8 (n35.fdiv (2 ^ (min (x36).toNat 8))) 1) == 1)
  (∀ wd14, Drew wl11 wd14 →
  ∃ n46 : Int, wd14.cell? ⟨b7, 0, none⟩ = some (.int .i64 n46) ∧ ((0 : Int) ≤ n46 ∧ n46 < (l17 : Int)) ∧ ∃ b47 o47, p17 = some ⟨b47, o47, none⟩ ∧ InK .i64 (x36 * 64) ∧ InK .i64 (x36 + 1) ∧ InK .i64 ((x36 + 1) * 64) ∧ ((0 : Int) ≤ ((x36 + 1) * 64) ∧ ((x36 + 1) * 64) ≤ (256 : Int)) ∧ ((0 : Int) ≤ (x36 * 64) ∧ (x36 * 64) ≤ ((x36 + 1) * 64)) ∧ InK .i64 (x36 * 64) ∧ ((0 : Int) ≤ (x36 * 64) ∧ (x36 * 64) ≤ (256 : Int)) ∧ ∃ (n58 : Int) (w58 : World), (Builtin.copy_ #[22, 22] 3 #[.slice (subp (some ⟨b47, o47 + (n46).toNat * 256, none⟩) ((x36 * 64).toNat) 256 1) ((((x36 + 1) * 64).toNat) - ((x36 * 64).toNat)) (256 - ((x36 * 64).toNat)), .slice (subp (some ⟨b7, 1, none⟩) ((x36 * 64).toNat) 256 1) (256 - ((x36 * 64).toNat)) (256 - ((x36 * 64).toNat))]).run Try.prog wd14 = .ok (.int .i64 n58) w58 ∧
  InK .i64 (x36 + 1) ∧ ∃ ml11, ml11 < nl11 ∧ I11 (x36 + 1) ml11 w58)
  (InK .i64 (x36 + 1) ∧ ∃ ml11, ml11 < nl11 ∧ I11 (x36 + 1) ml11 wl11))
  (InK .i64 (x23 + 1) ∧ ∃ ml5, ml5 < nl5 ∧ I5 (x23 + 1) ml5 wl11))
  (∃ I11_1 : Int → Nat → World → Prop, (∃ nl11_1, I11_1 0 nl11_1 wx) ∧ ∀ x36_1 : Int, ∀ (nl11_1 : Nat) (wl11_1 : World), I11_1 x36_1 nl11_1 wl11_1 →
  Br (decide (x36_1 < 4))
  ((0 : Int) ≤ x36_1 ∧ Br ((bits .and .u8 ((15 : Int).fdiv (2 ^ (min (x36_1).toNat 8))) 1) == 1)
  (∀ wd14_1, Drew wl11_1 wd14_1 →
  ∃ n46_1 : Int, wd14_1.cell? ⟨b7, 0, none⟩ = some (.int .i64 n46_1) ∧ ((0 : Int) ≤ n46_1 ∧ n46_1 < (l17 : Int)) ∧ ∃ b47_1 o47_1, p17 = some ⟨b47_1, o47_1, none⟩ ∧ InK .i64 (x36_1 * 64) ∧ InK .i64 (x36_1 + 1) ∧ InK .i64 ((x36_1 + 1) * 64) ∧ ((0 : Int) ≤ ((x36_1 + 1) * 64) ∧ ((x36_1 + 1) * 64) ≤ (256 : Int)) ∧ ((0 : Int) ≤ (x36_1 * 64) ∧ (x36_1 * 64) ≤ ((x36_1 + 1) * 64)) ∧ InK .i64 (x36_1 * 64) ∧ ((0 : Int) ≤ (x36_1 * 64) ∧ (x36_1 * 64) ≤ (256 : Int)) ∧ ∃ (n58_1 : Int) (w58_1 : World), (Builtin.copy_ #[22, 22] 3 #[.slice (subp (some ⟨b47_1, o47_1 + (n46_1).toNat * 256, none⟩) ((x36_1 * 64).toNat) 256 1) ((((x36_1 + 1) * 64).toNat) - ((x36_1 * 64).toNat)) (256 - ((x36_1 * 64).toNat)), .slice (subp (some ⟨b7, 1, none⟩) ((x36_1 * 64).toNat) 256 1) (256 - ((x36_1 * 64).toNat)) (256 - ((x36_1 * 64).toNat))]).run Try.prog wd14_1 = .ok (.int .i64 n58_1) w58_1 ∧
  InK .i64 (x36_1 + 1) ∧ ∃ ml11_1, ml11_1 < nl11_1 ∧ I11_1 (x36_1 + 1) ml11_1 w58_1)
  (InK .i64 (x36_1 + 1) ∧ ∃ ml11_1, ml11_1 < nl11_1 ∧ I11_1 (x36_1 + 1) ml11_1 wl11_1))
  (InK .i64 (x23 + 1) ∧ ∃ ml5, ml5 < nl5 ∧ I5 (x23 + 1) ml5 wl11_1)) else False))
  (Does Try.prog 35 #[.slice p17 l17 c17] wl5 fun e62 w62 =>
  ∃ p62 : Option Addr, e62 = .returned (.pointer p62) ∧ R (.returned (.pointer p62)) w62))
def f20_ann : Ann := { loops := [(5, [(23, .int .i64)]), (11, [(36, .int .i64)])], cuts := [], flip := [], throws := [] }
theorem f20_eq (a0 : Option Addr) (p1 : Option Addr) (l1 c1 : Nat) (w : World) (R : Ending → World → Prop) : vc Try.prog f20_ann (bodyOf Try.f20) (retQ Try.prog Try.f20 R) (envOf Try.f20.ntmps [.v (.pointer a0), .v (.slice p1 l1 c1)]) [] w = f20_vc a0 p1 l1 c1 w R := by kernel_rfl
theorem f20_does (a0 : Option Addr) (p1 : Option Addr) (l1 c1 : Nat) {w : World} {R : Ending → World → Prop} (h : f20_vc a0 p1 l1 c1 w R) : Does Try.prog 20 #[.pointer a0, .slice p1 l1 c1] w R :=
  does_of_vc (ss := [.v (.pointer a0), .v (.slice p1 l1 c1)]) f20_ann mixed call20 Try.func20 rfl rfl (show 2 ≤ Try.f20.ntmps by decide) ((f20_eq a0 p1 l1 c1 w R).symm ▸ h)
/-- Of escritoire/escritoirelaw5.ones (function 21): the condition. -/
def f21_vc  (w : World) (R : Ending → World → Prop) : Prop :=
  ((0 : Int) ≤ (256 : Int) ∧ (256 : Int) ≤ (256 : Int) ∧ (256 : Int) * ((1 : Nat) : Int) ≤ 140737488355328 ∧ (256 : Int) ≤ 9223372036854775807) ∧ ∀ b3 w3, NewBlk w b3 (zerosL (.int .u8 0) (256 : Int).toNat) 5 w3 →
  ∃ I3 : Int → Nat → World → Prop, (∃ nl3, I3 0 nl3 w3) ∧ ∀ x2 : Int, ∀ (nl3 : Nat) (wl3 : World), I3 x2 nl3 wl3 →
  Br (decide (x2 < ((((256 : Int).toNat : Nat) : Int))))
  (((0 : Int) ≤ x2 ∧ x2 < (((256 : Int).toNat : Nat) : Int)) ∧ ∃ b12 o12, (some ⟨b3, 0, none⟩ : Option Addr) = some ⟨b12, o12, none⟩ ∧ CanStore wl3 b12 (o12 + (x2).toNat) ∧ ∀ ws, Stored wl3 b12 (o12 + (x2).toNat) (.int .u8 1) ws →
  InK .i64 (x2 + 1) ∧ ∃ ml3, ml3 < nl3 ∧ I3 (x2 + 1) ml3 ws)
  (R (.returned (.slice (some ⟨b3, 0, none⟩) ((256 : Int).toNat) ((256 : Int).toNat))) wl3)
def f21_ann : Ann := { loops := [(3, [(2, .int .i64)])], cuts := [], flip := [], throws := [] }
theorem f21_eq  (w : World) (R : Ending → World → Prop) : vc Try.prog f21_ann (bodyOf Try.f21) (retQ Try.prog Try.f21 R) (envOf Try.f21.ntmps []) [] w = f21_vc  w R := by kernel_rfl
theorem f21_does  {w : World} {R : Ending → World → Prop} (h : f21_vc  w R) : Does Try.prog 21 #[] w R :=
  does_of_vc (ss := []) f21_ann mixed call21 Try.func21 rfl rfl (show 0 ≤ Try.f21.ntmps by decide) ((f21_eq  w R).symm ▸ h)
/-- Of (*escritoire/device.Device).Fuse (function 22): the condition. -/
def f22_vc (a0 : Option Addr) (a1 : Int) (w : World) (R : Ending → World → Prop) : Prop :=
  Does Try.prog 36 #[.pointer a0] w fun e5 w5 =>
  ∃ b5 : Bool, e5 = .returned (.bool b5) ∧ Br b5
  (∃ b8 o8, a0 = some ⟨b8, o8, none⟩ ∧ ∃ b10 : Bool, w5.cell? ⟨b8, o8 + 5, none⟩ = some (.bool b10) ∧ Br (!b10)
  (∃ b15 o15, a0 = some ⟨b15, o15, none⟩ ∧ CanStore w5 b15 (o15 + 4) ∧ ∀ ws, Stored w5 b15 (o15 + 4) (.int .i64 a1) ws →
  R (.returned (.tuple #[])) ws)
  (R (.returned (.tuple #[])) w5))
  (R (.returned (.tuple #[])) w5)
def f22_ann : Ann := { loops := [], cuts := [], flip := [], throws := [] }
theorem f22_eq (a0 : Option Addr) (a1 : Int) (w : World) (R : Ending → World → Prop) : vc Try.prog f22_ann (bodyOf Try.f22) (retQ Try.prog Try.f22 R) (envOf Try.f22.ntmps [.v (.pointer a0), .v (.int .i64 a1)]) [] w = f22_vc a0 a1 w R := by kernel_rfl
theorem f22_does (a0 : Option Addr) (a1 : Int) {w : World} {R : Ending → World → Prop} (h : f22_vc a0 a1 w R) : Does Try.prog 22 #[.pointer a0, .int .i64 a1] w R :=
  does_of_vc (ss := [.v (.pointer a0), .v (.int .i64 a1)]) f22_ann mixed call22 Try.func22 rfl rfl (show 2 ≤ Try.f22.ntmps by decide) ((f22_eq a0 a1 w R).symm ▸ h)
/-- Of (*escritoire/device.Device).Dead (function 23): the condition. -/
def f23_vc (a0 : Option Addr) (w : World) (R : Ending → World → Prop) : Prop :=
  Br (!a0.isNone)
  (∃ b7 o7, a0 = some ⟨b7, o7, none⟩ ∧ ∃ b9 : Bool, w.cell? ⟨b7, o7 + 5, none⟩ = some (.bool b9) ∧ R (.returned (.bool b9)) w)
  (R (.returned (.bool false)) w)
def f23_ann : Ann := { loops := [], cuts := [], flip := [], throws := [] }
theorem f23_eq (a0 : Option Addr) (w : World) (R : Ending → World → Prop) : vc Try.prog f23_ann (bodyOf Try.f23) (retQ Try.prog Try.f23 R) (envOf Try.f23.ntmps [.v (.pointer a0)]) [] w = f23_vc a0 w R := by kernel_rfl
theorem f23_does (a0 : Option Addr) {w : World} {R : Ending → World → Prop} (h : f23_vc a0 w R) : Does Try.prog 23 #[.pointer a0] w R :=
  does_of_vc (ss := [.v (.pointer a0)]) f23_ann mixed call23 Try.func23 rfl rfl (show 1 ≤ Try.f23.ntmps by decide) ((f23_eq a0 w R).symm ▸ h)
/-- Of escritoire/device.Load (function 24): the condition. -/
def f24_vc (p0 : Option Addr) (l0 c0 : Nat) (w : World) (R : Ending → World → Prop) : Prop :=
  (256 : Int) ≠ 0 ∧ InK .i64 (((l0 : Int)).tdiv 256) ∧ (256 : Int) ≠ 0 ∧ Br ((((l0 : Int)).tmod 256) != 0)
  (R (.returned (.tuple #[.pointer none, .int .i64 1])) w)
  (Br (decide ((((l0 : Int)).tdiv 256) < 8))
  (R (.returned (.tuple #[.pointer none, .int .i64 1])) w)
  (Br (decide ((((l0 : Int)).tdiv 256) > 4096))
  (R (.returned (.tuple #[.pointer none, .int .i64 1])) w)
  (((0 : Int) ≤ (((l0 : Int)).tdiv 256) ∧ (((l0 : Int)).tdiv 256) ≤ (((l0 : Int)).tdiv 256) ∧ (((l0 : Int)).tdiv 256) * ((256 : Nat) : Int) ≤ 140737488355328 ∧ (((l0 : Int)).tdiv 256) ≤ 9223372036854775807) ∧ ∀ b23 w23, NewBlk w b23 (zerosL (.agg ((List.replicate 256 (.int .u8 0) : List Value)).toArray) (((l0 : Int)).tdiv 256).toNat) 72 w23 →
  ∃ I6 : Int → Nat → World → Prop, (∃ nl6, I6 0 nl6 w23) ∧ ∀ x26 : Int, ∀ (nl6 : Nat) (wl6 : World), I6 x26 nl6 wl6 →
  Br (decide (x26 < ((((((l0 : Int)).tdiv 256).toNat : Nat) : Int))))
  (∀ wd8, Drew wl6 wd8 →
  ((0 : Int) ≤ x26 ∧ x26 < (((((l0 : Int)).tdiv 256).toNat : Nat) : Int)) ∧ ∃ b31 o31, (some ⟨b23, 0, none⟩ : Option Addr) = some ⟨b31, o31, none⟩ ∧ InK .i64 (x26 * 256) ∧ ((0 : Int) ≤ (x26 * 256) ∧ (x26 * 256) ≤ (l0 : Int)) ∧ ∃ (n37 : Int) (w37 : World), (Builtin.copy_ #[22, 22] 3 #[.slice (subp (some ⟨b31, o31 + (x26).toNat * 256, none⟩) 0 256 1) (256 - 0) (256 - 0), .slice (subp p0 ((x26 * 256).toNat) c0 1) (l0 - ((x26 * 256).toNat)) (c0 - ((x26 * 256).toNat))]).run Try.prog wd8 = .ok (.int .i64 n37) w37 ∧
  InK .i64 (x26 + 1) ∧ ∃ ml6, ml6 < nl6 ∧ I6 (x26 + 1) ml6 w37)
  (Does Try.prog 35 #[.slice (some ⟨b23, 0, none⟩) ((((l0 : Int)).tdiv 256).toNat) ((((l0 : Int)).tdiv 256).toNat)] wl6 fun e40 w40 =>
  ∃ p40 : Option Addr, e40 = .returned (.pointer p40) ∧ R (.returned (.tuple #[.pointer p40, .int .i64 0])) w40))))
def f24_ann : Ann := { loops := [(6, [(26, .int .i64)])], cuts := [], flip := [], throws := [] }
theorem f24_eq (p0 : Option Addr) (l0 c0 : Nat) (w : World) (R : Ending → World → Prop) : vc Try.prog f24_ann (bodyOf Try.f24) (retQ Try.prog Try.f24 R) (envOf Try.f24.ntmps [.v (.slice p0 l0 c0)]) [] w = f24_vc p0 l0 c0 w R := by kernel_rfl
theorem f24_does (p0 : Option Addr) (l0 c0 : Nat) {w : World} {R : Ending → World → Prop} (h : f24_vc p0 l0 c0 w R) : Does Try.prog 24 #[.slice p0 l0 c0] w R :=
  does_of_vc (ss := [.v (.slice p0 l0 c0)]) f24_ann mixed call24 Try.func24 rfl rfl (show 1 ≤ Try.f24.ntmps by decide) ((f24_eq p0 l0 c0 w R).symm ▸ h)
/-- Of escritoire/escritoireref5.Load (function 25): the condition. -/
def f25_vc (p0 : Option Addr) (l0 c0 : Nat) (w : World) (R : Ending → World → Prop) : Prop :=
  (256 : Int) ≠ 0 ∧ InK .i64 (((l0 : Int)).tdiv 256) ∧ Does Try.prog 28 #[.int .i64 (((l0 : Int)).tdiv 256)] w fun e11 w11 =>
  ∃ p11 : Option Addr, ∃ n11 : Int, e11 = .returned (.tuple #[.pointer p11, .int .i64 n11]) ∧ Br (n11 != 0)
  (R (.returned (.tuple #[.pointer none, .int .i64 1])) w11)
  ((256 : Int) ≠ 0 ∧ Br ((((l0 : Int)).tmod 256) != 0)
  (R (.returned (.tuple #[.pointer none, .int .i64 1])) w11)
  (∃ I5 : Int → Nat → World → Prop, (∃ nl5, I5 0 nl5 w11) ∧ ∀ x6 : Int, ∀ (nl5 : Nat) (wl5 : World), I5 x6 nl5 wl5 →
  ∃ b24 o24, p11 = some ⟨b24, o24, none⟩ ∧ ∃ (p26 : Option Addr) (l26 c26 : Nat), wl5.cell? ⟨b24, o24 + 1, none⟩ = some (.slice p26 l26 c26) ∧ Br (decide (x6 < ((l26 : Int))))
  (∀ wd7, Drew wl5 wd7 →
  ∃ S7 : World → Prop, S7 wd7 ∧ ∃ b32 o32, p11 = some ⟨b32, o32, none⟩ ∧ ∃ (p34 : Option Addr) (l34 c34 : Nat), (∀ w, S7 w → w.cell? ⟨b32, o32, none⟩ = some (.slice p34 l34 c34)) ∧ InK .i64 (x6 * 256) ∧ InK .i64 (x6 + 1) ∧ InK .i64 ((x6 + 1) * 256) ∧ ((0 : Int) ≤ ((x6 + 1) * 256) ∧ ((x6 + 1) * 256) ≤ (c0 : Int)) ∧ ((0 : Int) ≤ (x6 * 256) ∧ (x6 * 256) ≤ ((x6 + 1) * 256)) ∧ Does Try.prog 47 #[.slice (subp p0 ((x6 * 256).toNat) c0 1) ((((x6 + 1) * 256).toNat) - ((x6 * 256).toNat)) (c0 - ((x6 * 256).toNat))] wd7 fun e43 w43 =>
  ∃ (p43 : Option Addr) (l43 c43 : Nat), e43 = .returned (.slice p43 l43 c43) ∧ S7 w43 ∧ ((0 : Int) ≤ x6 ∧ x6 < (l34 : Int)) ∧ ∃ b44 o44, p34 = some ⟨b44, o44, none⟩ ∧ CanStore w43 b44 (o44 + (x6).toNat) ∧ ∀ ws, Stored w43 b44 (o44 + (x6).toNat) (.slice p43 l43 c43) ws →
  ∀ wd8, Drew ws wd8 →
  ∃ S8 : World → Prop, S8 wd8 ∧ ∃ b46 o46, p11 = some ⟨b46, o46, none⟩ ∧ ∃ (p48 : Option Addr) (l48 c48 : Nat), (∀ w, S8 w → w.cell? ⟨b46, o46 + 1, none⟩ = some (.slice p48 l48 c48)) ∧ ∃ b51 o51, p11 = some ⟨b51, o51, none⟩ ∧ ∃ (p53 : Option Addr) (l53 c53 : Nat), wd8.cell? ⟨b51, o51, none⟩ = some (.slice p53 l53 c53) ∧ ((0 : Int) ≤ x6 ∧ x6 < (l53 : Int)) ∧ ∃ b55 o55, p53 = some ⟨b55, o55, none⟩ ∧ ∃ (p56 : Option Addr) (l56 c56 : Nat), wd8.cell? ⟨b55, o55 + (x6).toNat, none⟩ = some (.slice p56 l56 c56) ∧ Does Try.prog 47 #[.slice p56 l56 c56] wd8 fun e57 w57 =>
  ∃ (p57 : Option Addr) (l57 c57 : Nat), e57 = .returned (.slice p57 l57 c57) ∧ S8 w57 ∧ ((0 : Int) ≤ x6 ∧ x6 < (l48 : Int)) ∧ ∃ b58 o58, p48 = some ⟨b58, o58, none⟩ ∧ CanStore w57 b58 (o58 + (x6).toNat) ∧ ∀ ws_1, Stored w57 b58 (o58 + (x6).toNat) (.slice p57 l57 c57) ws_1 →
  InK .i64 (x6 + 1) ∧ ∃ ml5, ml5 < nl5 ∧ I5 (x6 + 1) ml5 ws_1)
  (R (.returned (.tuple #[.pointer p11, .int .i64 0])) wl5)))
def f25_ann : Ann := { loops := [(5, [(6, .int .i64)])], cuts := [], flip := [], throws := [] }
theorem f25_eq (p0 : Option Addr) (l0 c0 : Nat) (w : World) (R : Ending → World → Prop) : vc Try.prog f25_ann (bodyOf Try.f25) (retQ Try.prog Try.f25 R) (envOf Try.f25.ntmps [.v (.slice p0 l0 c0)]) [] w = f25_vc p0 l0 c0 w R := by kernel_rfl
theorem f25_does (p0 : Option Addr) (l0 c0 : Nat) {w : World} {R : Ending → World → Prop} (h : f25_vc p0 l0 c0 w R) : Does Try.prog 25 #[.slice p0 l0 c0] w R :=
  does_of_vc (ss := [.v (.slice p0 l0 c0)]) f25_ann mixed call25 Try.func25 rfl rfl (show 1 ≤ Try.f25.ntmps by decide) ((f25_eq p0 l0 c0 w R).symm ▸ h)
/-- Of (*escritoire/escritoireref5.Device).Image (function 26): the condition. -/
def f26_vc (a0 : Option Addr) (w : World) (R : Ending → World → Prop) : Prop :=
  ∃ I3 : Option Addr → Nat → Nat → Int → Nat → World → Prop, (∃ nl3, I3 none 0 0 0 nl3 w) ∧ ∀ (p3 : Option Addr) (l3 c3 : Nat), ∀ x4 : Int, ∀ (nl3 : Nat) (wl3 : World), I3 p3 l3 c3 x4 nl3 wl3 →
  ∃ b7 o7, a0 = some ⟨b7, o7, none⟩ ∧ ∃ (p9 : Option Addr) (l9 c9 : Nat), wl3.cell? ⟨b7, o7 + 1, none⟩ = some (.slice p9 l9 c9) ∧ Br (decide (x4 < ((l9 : Int))))
  (∃ b16 o16, a0 = some ⟨b16, o16, none⟩ ∧ ∃ (p18 : Option Addr) (l18 c18 : Nat), wl3.cell? ⟨b16, o16 + 1, none⟩ = some (.slice p18 l18 c18) ∧ ((0 : Int) ≤ x4 ∧ x4 < (l18 : Int)) ∧ ∃ b20 o20, p18 = some ⟨b20, o20, none⟩ ∧ ∃ (p21 : Option Addr) (l21 c21 : Nat), wl3.cell? ⟨b20, o20 + (x4).toNat, none⟩ = some (.slice p21 l21 c21) ∧ ∃ (p22 : Option Addr) (l22 c22 : Nat) (w22 : World), (Builtin.append_ #[22, 22] 22 #[.slice p3 l3 c3, .slice p21 l21 c21]).run Try.prog wl3 = .ok (.slice p22 l22 c22) w22 ∧
  InK .i64 (x4 + 1) ∧ ∃ ml3, ml3 < nl3 ∧ I3 p22 l22 c22 (x4 + 1) ml3 w22)
  (R (.returned (.slice p3 l3 c3)) wl3)
def f26_ann : Ann := { loops := [(3, [(3, .slice), (4, .int .i64)])], cuts := [], flip := [], throws := [] }
theorem f26_eq (a0 : Option Addr) (w : World) (R : Ending → World → Prop) : vc Try.prog f26_ann (bodyOf Try.f26) (retQ Try.prog Try.f26 R) (envOf Try.f26.ntmps [.v (.pointer a0)]) [] w = f26_vc a0 w R := by kernel_rfl
theorem f26_does (a0 : Option Addr) {w : World} {R : Ending → World → Prop} (h : f26_vc a0 w R) : Does Try.prog 26 #[.pointer a0] w R :=
  does_of_vc (ss := [.v (.pointer a0)]) f26_ann mixed call26 Try.func26 rfl rfl (show 1 ≤ Try.f26.ntmps by decide) ((f26_eq a0 w R).symm ▸ h)
/-- Of (*escritoire/device.Device).Pages (function 27): the condition. -/
def f27_vc (a0 : Option Addr) (w : World) (R : Ending → World → Prop) : Prop :=
  Does Try.prog 36 #[.pointer a0] w fun e4 w4 =>
  ∃ b4 : Bool, e4 = .returned (.bool b4) ∧ Br (!b4)
  (R (.returned (.int .i64 0)) w4)
  (∃ b7 o7, a0 = some ⟨b7, o7, none⟩ ∧ ∃ (p9 : Option Addr) (l9 c9 : Nat), w4.cell? ⟨b7, o7 + 1, none⟩ = some (.slice p9 l9 c9) ∧ R (.returned (.int .i64 ((l9 : Int)))) w4)
def f27_ann : Ann := { loops := [], cuts := [], flip := [], throws := [] }
theorem f27_eq (a0 : Option Addr) (w : World) (R : Ending → World → Prop) : vc Try.prog f27_ann (bodyOf Try.f27) (retQ Try.prog Try.f27 R) (envOf Try.f27.ntmps [.v (.pointer a0)]) [] w = f27_vc a0 w R := by kernel_rfl
theorem f27_does (a0 : Option Addr) {w : World} {R : Ending → World → Prop} (h : f27_vc a0 w R) : Does Try.prog 27 #[.pointer a0] w R :=
  does_of_vc (ss := [.v (.pointer a0)]) f27_ann mixed call27 Try.func27 rfl rfl (show 1 ≤ Try.f27.ntmps by decide) ((f27_eq a0 w R).symm ▸ h)
/-- Of escritoire/escritoireref5.New (function 28): the condition. -/
def f28_vc (a0 : Int) (w : World) (R : Ending → World → Prop) : Prop :=
  Br (decide (a0 < 8))
  (R (.returned (.tuple #[.pointer none, .int .i64 1])) w)
  (Br (decide (a0 > 4096))
  (R (.returned (.tuple #[.pointer none, .int .i64 1])) w)
  (∀ b13 w13, NewBlk w b13 [.slice none 0 0, .slice none 0 0, .slice none 0 0, .slice none 0 0, .int .i64 (-1), .int .i64 0, .bool false] 52 w13 →
  ∃ I5 : Int → Nat → World → Prop, (∃ nl5, I5 0 nl5 w13) ∧ ∀ x5 : Int, ∀ (nl5 : Nat) (wl5 : World), I5 x5 nl5 wl5 →
  Br (decide (x5 < a0))
  (∀ wd7, Drew wl5 wd7 →
  ∃ S7 : World → Prop, S7 wd7 ∧ ∃ (p23 : Option Addr) (l23 c23 : Nat), (∀ w, S7 w → w.cell? ⟨b13, 0, none⟩ = some (.slice p23 l23 c23)) ∧ ((0 : Int) ≤ (256 : Int) ∧ (256 : Int) ≤ (256 : Int) ∧ (256 : Int) * ((1 : Nat) : Int) ≤ 140737488355328 ∧ (256 : Int) ≤ 9223372036854775807) ∧ ∀ b24 w24, NewBlk wd7 b24 (zerosL (.int .u8 0) (256 : Int).toNat) 5 w24 →
  S7 w24 ∧ ∀ b25 w25, NewBlk w24 b25 [.slice (some ⟨b24, 0, none⟩) ((256 : Int).toNat) ((256 : Int).toNat)] 22 w25 →
  S7 w25 ∧ ∃ (p26 : Option Addr) (l26 c26 : Nat) (w26 : World), (Builtin.append_ #[49, 49] 49 #[.slice p23 l23 c23, .slice (some ⟨b25, 0, none⟩) 1 1]).run Try.prog w25 = .ok (.slice p26 l26 c26) w26 ∧
  CanStore w26 b13 0 ∧ ∀ ws, Stored w26 b13 0 (.slice p26 l26 c26) ws →
  ∀ wd8, Drew ws wd8 →
  ∃ S8 : World → Prop, S8 wd8 ∧ ∃ (p33 : Option Addr) (l33 c33 : Nat), (∀ w, S8 w → w.cell? ⟨b13, 1, none⟩ = some (.slice p33 l33 c33)) ∧ ((0 : Int) ≤ (256 : Int) ∧ (256 : Int) ≤ (256 : Int) ∧ (256 : Int) * ((1 : Nat) : Int) ≤ 140737488355328 ∧ (256 : Int) ≤ 9223372036854775807) ∧ ∀ b34 w34, NewBlk wd8 b34 (zerosL (.int .u8 0) (256 : Int).toNat) 5 w34 →
  S8 w34 ∧ ∀ b35 w35, NewBlk w34 b35 [.slice (some ⟨b34, 0, none⟩) ((256 : Int).toNat) ((256 : Int).toNat)] 22 w35 →
  S8 w35 ∧ ∃ (p36 : Option Addr) (l36 c36 : Nat) (w36 : World), (Builtin.append_ #[49, 49] 49 #[.slice p33 l33 c33, .slice (some ⟨b35, 0, none⟩) 1 1]).run Try.prog w35 = .ok (.slice p36 l36 c36) w36 ∧
  CanStore w36 b13 1 ∧ ∀ ws_1, Stored w36 b13 1 (.slice p36 l36 c36) ws_1 →
  InK .i64 (x5 + 1) ∧ ∃ ml5, ml5 < nl5 ∧ I5 (x5 + 1) ml5 ws_1)
  (R (.returned (.tuple #[.pointer (some ⟨b13, 0, none⟩), .int .i64 0])) wl5)))
def f28_ann : Ann := { loops := [(5, [(5, .int .i64)])], cuts := [], flip := [], throws := [] }
theorem f28_eq (a0 : Int) (w : World) (R : Ending → World → Prop) : vc Try.prog f28_ann (bodyOf Try.f28) (retQ Try.prog Try.f28 R) (envOf Try.f28.ntmps [.v (.int .i64 a0)]) [] w = f28_vc a0 w R := by kernel_rfl
theorem f28_does (a0 : Int) {w : World} {R : Ending → World → Prop} (h : f28_vc a0 w R) : Does Try.prog 28 #[.int .i64 a0] w R :=
  does_of_vc (ss := [.v (.int .i64 a0)]) f28_ann mixed call28 Try.func28 rfl rfl (show 1 ≤ Try.f28.ntmps by decide) ((f28_eq a0 w R).symm ▸ h)
/-- Of (*escritoire/escritoireref5.Device).Write (function 29): the condition. -/
def f29_vc (a0 : Option Addr) (a1 : Int) (p2 : Option Addr) (l2 c2 : Nat) (w : World) (R : Ending → World → Prop) : Prop :=
  Does Try.prog 48 #[.pointer a0, .int .i64 a1] w fun e11 w11 =>
  ∃ b11 : Bool, e11 = .returned (.bool b11) ∧ Br (!b11)
  (R (.returned (.int .i64 1)) w11)
  (Br (((l2 : Int)) != 256)
  (R (.returned (.int .i64 1)) w11)
  (∃ b19 o19, a0 = some ⟨b19, o19, none⟩ ∧ ∃ b21 : Bool, w11.cell? ⟨b19, o19 + 6, none⟩ = some (.bool b21) ∧ Br b21
  (R (.returned (.int .i64 7)) w11)
  (Does Try.prog 49 #[.pointer a0] w11 fun e24 w24 =>
  ∃ b24 : Bool, ∃ n24 : Int, e24 = .returned (.tuple #[.bool b24, .int .i64 n24]) ∧ Br b24
  (∀ wd7, Drew w24 wd7 →
  ∃ S7 : World → Prop, S7 wd7 ∧ ∃ b33 o33, a0 = some ⟨b33, o33, none⟩ ∧ ∃ (p35 : Option Addr) (l35 c35 : Nat), (∀ w, S7 w → w.cell? ⟨b33, o33 + 1, none⟩ = some (.slice p35 l35 c35)) ∧ Does Try.prog 47 #[.slice p2 l2 c2] wd7 fun e38 w38 =>
  ∃ (p38 : Option Addr) (l38 c38 : Nat), e38 = .returned (.slice p38 l38 c38) ∧ S7 w38 ∧ ((0 : Int) ≤ a1 ∧ a1 < (l35 : Int)) ∧ ∃ b39 o39, p35 = some ⟨b39, o39, none⟩ ∧ CanStore w38 b39 (o39 + (a1).toNat) ∧ ∀ ws, Stored w38 b39 (o39 + (a1).toNat) (.slice p38 l38 c38) ws →
  ∀ wd8, Drew ws wd8 →
  ∃ S8 : World → Prop, S8 wd8 ∧ ∃ b42 o42, a0 = some ⟨b42, o42, none⟩ ∧ ∃ (p44 : Option Addr) (l44 c44 : Nat), (∀ w, S8 w → w.cell? ⟨b42, o42 + 2, none⟩ = some (.slice p44 l44 c44)) ∧ Does Try.prog 47 #[.slice p2 l2 c2] wd8 fun e47 w47 =>
  ∃ (p47 : Option Addr) (l47 c47 : Nat), e47 = .returned (.slice p47 l47 c47) ∧ S8 w47 ∧ ∀ b49 w49, NewBlk w47 b49 [.int .i64 a1, .slice p47 l47 c47] 79 w49 →
  S8 w49 ∧ ∃ (p50 : Option Addr) (l50 c50 : Nat) (w50 : World), (Builtin.append_ #[50, 50] 50 #[.slice p44 l44 c44, .slice (some ⟨b49, 0, none⟩) 1 1]).run Try.prog w49 = .ok (.slice p50 l50 c50) w50 ∧
  ∃ b51 o51, a0 = some ⟨b51, o51, none⟩ ∧ CanStore w50 b51 (o51 + 2) ∧ ∀ ws_1, Stored w50 b51 (o51 + 2) (.slice p50 l50 c50) ws_1 →
  Br b24
  (R (.returned (.int .i64 7)) ws_1)
  (Br (n24 != 0)
  (R (.returned (.int .i64 7)) ws_1)
  (R (.returned (.int .i64 0)) ws_1)))
  (Br (n24 != 1)
  (∀ wd7_1, Drew w24 wd7_1 →
  ∃ S7_1 : World → Prop, S7_1 wd7_1 ∧ ∃ b33_1 o33_1, a0 = some ⟨b33_1, o33_1, none⟩ ∧ ∃ (p35_1 : Option Addr) (l35_1 c35_1 : Nat), (∀ w, S7_1 w → w.cell? ⟨b33_1, o33_1 + 1, none⟩ = some (.slice p35_1 l35_1 c35_1)) ∧ Does Try.prog 47 #[.slice p2 l2 c2] wd7_1 fun e38_1 w38_1 =>
  ∃ (p38_1 : Option Addr) (l38_1 c38_1 : Nat), e38_1 = .returned (.slice p38_1 l38_1 c38_1) ∧ S7_1 w38_1 ∧ ((0 : Int) ≤ a1 ∧ a1 < (l35_1 : Int)) ∧ ∃ b39_1 o39_1, p35_1 = some ⟨b39_1, o39_1, none⟩ ∧ CanStore w38_1 b39_1 (o39_1 + (a1).toNat) ∧ ∀ ws_2, Stored w38_1 b39_1 (o39_1 + (a1).toNat) (.slice p38_1 l38_1 c38_1) ws_2 →
  ∀ wd8_1, Drew ws_2 wd8_1 →
  ∃ S8_1 : World → Prop, S8_1 wd8_1 ∧ ∃ b42_1 o42_1, a0 = some ⟨b42_1, o42_1, none⟩ ∧ ∃ (p44_1 : Option Addr) (l44_1 c44_1 : Nat), (∀ w, S8_1 w → w.cell? ⟨b42_1, o42_1 + 2, none⟩ = some (.slice p44_1 l44_1 c44_1)) ∧ Does Try.prog 47 #[.slice p2 l2 c2] wd8_1 fun e47_1 w47_1 =>
  ∃ (p47_1 : Option Addr) (l47_1 c47_1 : Nat), e47_1 = .returned (.slice p47_1 l47_1 c47_1) ∧ S8_1 w47_1 ∧ ∀ b49_1 w49_1, NewBlk w47_1 b49_1 [.int .i64 a1, .slice p47_1 l47_1 c47_1] 79 w49_1 →
  S8_1 w49_1 ∧ ∃ (p50_1 : Option Addr) (l50_1 c50_1 : Nat) (w50_1 : World), (Builtin.append_ #[50, 50] 50 #[.slice p44_1 l44_1 c44_1, .slice (some ⟨b49_1, 0, none⟩) 1 1]).run Try.prog w49_1 = .ok (.slice p50_1 l50_1 c50_1) w50_1 ∧
  ∃ b51_1 o51_1, a0 = some ⟨b51_1, o51_1, none⟩ ∧ CanStore w50_1 b51_1 (o51_1 + 2) ∧ ∀ ws_3, Stored w50_1 b51_1 (o51_1 + 2) (.slice p50_1 l50_1 c50_1) ws_3 →
  Br b24
  (R (.returned (.int .i64 7)) ws_3)
  (Br (n24 != 0)
  (R (.returned (.int .i64 7)) ws_3)
  (R (.returned (.int .i64 0)) ws_3)))
  (Br b24
  (R (.returned (.int .i64 7)) w24)
  (Br (n24 != 0)
  (R (.returned (.int .i64 7)) w24)
  (R (.returned (.int .i64 0)) w24)))))))
def f29_ann : Ann := { loops := [], cuts := [], flip := [], throws := [] }
theorem f29_eq (a0 : Option Addr) (a1 : Int) (p2 : Option Addr) (l2 c2 : Nat) (w : World) (R : Ending → World → Prop) : vc Try.prog f29_ann (bodyOf Try.f29) (retQ Try.prog Try.f29 R) (envOf Try.f29.ntmps [.v (.pointer a0), .v (.int .i64 a1), .v (.slice p2 l2 c2)]) [] w = f29_vc a0 a1 p2 l2 c2 w R := by kernel_rfl
theorem f29_does (a0 : Option Addr) (a1 : Int) (p2 : Option Addr) (l2 c2 : Nat) {w : World} {R : Ending → World → Prop} (h : f29_vc a0 a1 p2 l2 c2 w R) : Does Try.prog 29 #[.pointer a0, .int .i64 a1, .slice p2 l2 c2] w R :=
  does_of_vc (ss := [.v (.pointer a0), .v (.int .i64 a1), .v (.slice p2 l2 c2)]) f29_ann mixed call29 Try.func29 rfl rfl (show 3 ≤ Try.f29.ntmps by decide) ((f29_eq a0 a1 p2 l2 c2 w R).symm ▸ h)
/-- Of (*escritoire/escritoireref5.Device).Read (function 30): the condition. -/
def f30_vc (a0 : Option Addr) (a1 : Int) (w : World) (R : Ending → World → Prop) : Prop :=
  Does Try.prog 48 #[.pointer a0, .int .i64 a1] w fun e10 w10 =>
  ∃ b10 : Bool, e10 = .returned (.bool b10) ∧ Br (!b10)
  (R (.returned (.tuple #[.slice none 0 0, .int .i64 1])) w10)
  (∃ b13 o13, a0 = some ⟨b13, o13, none⟩ ∧ ∃ b15 : Bool, w10.cell? ⟨b13, o13 + 6, none⟩ = some (.bool b15) ∧ Br b15
  (R (.returned (.tuple #[.slice none 0 0, .int .i64 7])) w10)
  (Does Try.prog 49 #[.pointer a0] w10 fun e18 w18 =>
  ∃ b18 : Bool, ∃ n18 : Int, e18 = .returned (.tuple #[.bool b18, .int .i64 n18]) ∧ Br b18
  (R (.returned (.tuple #[.slice none 0 0, .int .i64 7])) w18)
  (Br (n18 == 1)
  (R (.returned (.tuple #[.slice none 0 0, .int .i64 7])) w18)
  (∃ b27 o27, a0 = some ⟨b27, o27, none⟩ ∧ ∃ (p29 : Option Addr) (l29 c29 : Nat), w18.cell? ⟨b27, o27 + 1, none⟩ = some (.slice p29 l29 c29) ∧ ((0 : Int) ≤ a1 ∧ a1 < (l29 : Int)) ∧ ∃ b31 o31, p29 = some ⟨b31, o31, none⟩ ∧ ∃ (p32 : Option Addr) (l32 c32 : Nat), w18.cell? ⟨b31, o31 + (a1).toNat, none⟩ = some (.slice p32 l32 c32) ∧ Does Try.prog 47 #[.slice p32 l32 c32] w18 fun e33 w33 =>
  ∃ (p33 : Option Addr) (l33 c33 : Nat), e33 = .returned (.slice p33 l33 c33) ∧ R (.returned (.tuple #[.slice p33 l33 c33, .int .i64 0])) w33))))
def f30_ann : Ann := { loops := [], cuts := [], flip := [], throws := [] }
theorem f30_eq (a0 : Option Addr) (a1 : Int) (w : World) (R : Ending → World → Prop) : vc Try.prog f30_ann (bodyOf Try.f30) (retQ Try.prog Try.f30 R) (envOf Try.f30.ntmps [.v (.pointer a0), .v (.int .i64 a1)]) [] w = f30_vc a0 a1 w R := by kernel_rfl
theorem f30_does (a0 : Option Addr) (a1 : Int) {w : World} {R : Ending → World → Prop} (h : f30_vc a0 a1 w R) : Does Try.prog 30 #[.pointer a0, .int .i64 a1] w R :=
  does_of_vc (ss := [.v (.pointer a0), .v (.int .i64 a1)]) f30_ann mixed call30 Try.func30 rfl rfl (show 2 ≤ Try.f30.ntmps by decide) ((f30_eq a0 a1 w R).symm ▸ h)
/-- Of (*escritoire/escritoireref5.Device).Sync (function 31): the condition. -/
def f31_vc (a0 : Option Addr) (w : World) (R : Ending → World → Prop) : Prop :=
  ∃ b7 o7, a0 = some ⟨b7, o7, none⟩ ∧ ∃ b9 : Bool, w.cell? ⟨b7, o7 + 6, none⟩ = some (.bool b9) ∧ Br b9
  (R (.returned (.int .i64 7)) w)
  (Does Try.prog 49 #[.pointer a0] w fun e12 w12 =>
  ∃ b12 : Bool, ∃ n12 : Int, e12 = .returned (.tuple #[.bool b12, .int .i64 n12]) ∧ Br b12
  (R (.returned (.int .i64 7)) w12)
  (Br (n12 == 1)
  (R (.returned (.int .i64 7)) w12)
  (∃ I7 : Int → Nat → World → Prop, (∃ nl7, I7 0 nl7 w12) ∧ ∀ x5 : Int, ∀ (nl7 : Nat) (wl7 : World), I7 x5 nl7 wl7 →
  ∃ b22 o22, a0 = some ⟨b22, o22, none⟩ ∧ ∃ (p24 : Option Addr) (l24 c24 : Nat), wl7.cell? ⟨b22, o22 + 1, none⟩ = some (.slice p24 l24 c24) ∧ Br (decide (x5 < ((l24 : Int))))
  (∀ wd9, Drew wl7 wd9 →
  ∃ S9 : World → Prop, S9 wd9 ∧ ∃ b30 o30, a0 = some ⟨b30, o30, none⟩ ∧ ∃ (p32 : Option Addr) (l32 c32 : Nat), (∀ w, S9 w → w.cell? ⟨b30, o30, none⟩ = some (.slice p32 l32 c32)) ∧ ∃ b35 o35, a0 = some ⟨b35, o35, none⟩ ∧ ∃ (p37 : Option Addr) (l37 c37 : Nat), wd9.cell? ⟨b35, o35 + 1, none⟩ = some (.slice p37 l37 c37) ∧ ((0 : Int) ≤ x5 ∧ x5 < (l37 : Int)) ∧ ∃ b39 o39, p37 = some ⟨b39, o39, none⟩ ∧ ∃ (p40 : Option Addr) (l40 c40 : Nat), wd9.cell? ⟨b39, o39 + (x5).toNat, none⟩ = some (.slice p40 l40 c40) ∧ Does Try.prog 47 #[.slice p40 l40 c40] wd9 fun e41 w41 =>
  ∃ (p41 : Option Addr) (l41 c41 : Nat), e41 = .returned (.slice p41 l41 c41) ∧ S9 w41 ∧ ((0 : Int) ≤ x5 ∧ x5 < (l32 : Int)) ∧ ∃ b42 o42, p32 = some ⟨b42, o42, none⟩ ∧ CanStore w41 b42 (o42 + (x5).toNat) ∧ ∀ ws, Stored w41 b42 (o42 + (x5).toNat) (.slice p41 l41 c41) ws →
  InK .i64 (x5 + 1) ∧ ∃ ml7, ml7 < nl7 ∧ I7 (x5 + 1) ml7 ws)
  (∃ b44 o44, a0 = some ⟨b44, o44, none⟩ ∧ CanStore wl7 b44 (o44 + 2) ∧ ∀ ws_1, Stored wl7 b44 (o44 + 2) (.slice none 0 0) ws_1 →
  Br (n12 == 2)
  (R (.returned (.int .i64 7)) ws_1)
  (R (.returned (.int .i64 0)) ws_1)))))
def f31_ann : Ann := { loops := [(7, [(5, .int .i64)])], cuts := [], flip := [], throws := [] }
theorem f31_eq (a0 : Option Addr) (w : World) (R : Ending → World → Prop) : vc Try.prog f31_ann (bodyOf Try.f31) (retQ Try.prog Try.f31 R) (envOf Try.f31.ntmps [.v (.pointer a0)]) [] w = f31_vc a0 w R := by kernel_rfl
theorem f31_does (a0 : Option Addr) {w : World} {R : Ending → World → Prop} (h : f31_vc a0 w R) : Does Try.prog 31 #[.pointer a0] w R :=
  does_of_vc (ss := [.v (.pointer a0)]) f31_ann mixed call31 Try.func31 rfl rfl (show 1 ≤ Try.f31.ntmps by decide) ((f31_eq a0 w R).symm ▸ h)
/-- Of (*escritoire/escritoireref5.Device).Arm (function 32): the condition. -/
def f32_vc (a0 : Option Addr) (a1 : Int) (w : World) (R : Ending → World → Prop) : Prop :=
  ∃ b5 o5, a0 = some ⟨b5, o5, none⟩ ∧ ∃ b7 : Bool, w.cell? ⟨b5, o5 + 6, none⟩ = some (.bool b7) ∧ Br (!b7)
  (∃ b12 o12, a0 = some ⟨b12, o12, none⟩ ∧ CanStore w b12 (o12 + 4) ∧ ∀ ws, Stored w b12 (o12 + 4) (.int .i64 (if a1 < -1 then -1 else a1)) ws →
  R (.returned (.tuple #[])) ws)
  (R (.returned (.tuple #[])) w)
def f32_ann : Ann := { loops := [], cuts := [], flip := [], throws := [] }
theorem f32_eq (a0 : Option Addr) (a1 : Int) (w : World) (R : Ending → World → Prop) : vc Try.prog f32_ann (bodyOf Try.f32) (retQ Try.prog Try.f32 R) (envOf Try.f32.ntmps [.v (.pointer a0), .v (.int .i64 a1)]) [] w = f32_vc a0 a1 w R := by kernel_rfl
theorem f32_does (a0 : Option Addr) (a1 : Int) {w : World} {R : Ending → World → Prop} (h : f32_vc a0 a1 w R) : Does Try.prog 32 #[.pointer a0, .int .i64 a1] w R :=
  does_of_vc (ss := [.v (.pointer a0), .v (.int .i64 a1)]) f32_ann mixed call32 Try.func32 rfl rfl (show 2 ≤ Try.f32.ntmps by decide) ((f32_eq a0 a1 w R).symm ▸ h)
/-- Of (*escritoire/escritoireref5.Device).Crash (function 33): the condition. -/
def f33_vc (a0 : Option Addr) (p1 : Option Addr) (l1 c1 : Nat) (w : World) (R : Ending → World → Prop) : Prop :=
  ∃ b15 o15, a0 = some ⟨b15, o15, none⟩ ∧ ∃ (p17 : Option Addr) (l17 c17 : Nat), w.cell? ⟨b15, o15 + 1, none⟩ = some (.slice p17 l17 c17) ∧ Does Try.prog 28 #[.int .i64 ((l17 : Int))] w fun e19 w19 =>
  ∃ p19 : Option Addr, ∃ n19 : Int, e19 = .returned (.tuple #[.pointer p19, .int .i64 n19]) ∧ ∃ I3 : Int → Nat → World → Prop, (∃ nl3, I3 0 nl3 w19) ∧ ∀ x7 : Int, ∀ (nl3 : Nat) (wl3 : World), I3 x7 nl3 wl3 →
  ∃ b24 o24, a0 = some ⟨b24, o24, none⟩ ∧ ∃ (p26 : Option Addr) (l26 c26 : Nat), wl3.cell? ⟨b24, o24 + 1, none⟩ = some (.slice p26 l26 c26) ∧ Br (decide (x7 < ((l26 : Int))))
  (∀ wd5, Drew wl3 wd5 →
  ∃ S5 : World → Prop, S5 wd5 ∧ ∃ b32 o32, p19 = some ⟨b32, o32, none⟩ ∧ ∃ (p34 : Option Addr) (l34 c34 : Nat), (∀ w, S5 w → w.cell? ⟨b32, o32 + 1, none⟩ = some (.slice p34 l34 c34)) ∧ ∃ b37 o37, a0 = some ⟨b37, o37, none⟩ ∧ ∃ (p39 : Option Addr) (l39 c39 : Nat), wd5.cell? ⟨b37, o37, none⟩ = some (.slice p39 l39 c39) ∧ ((0 : Int) ≤ x7 ∧ x7 < (l39 : Int)) ∧ ∃ b41 o41, p39 = some ⟨b41, o41, none⟩ ∧ ∃ (p42 : Option Addr) (l42 c42 : Nat), wd5.cell? ⟨b41, o41 + (x7).toNat, none⟩ = some (.slice p42 l42 c42) ∧ Does Try.prog 47 #[.slice p42 l42 c42] wd5 fun e43 w43 =>
  ∃ (p43 : Option Addr) (l43 c43 : Nat), e43 = .returned (.slice p43 l43 c43) ∧ S5 w43 ∧ ((0 : Int) ≤ x7 ∧ x7 < (l34 : Int)) ∧ ∃ b44 o44, p34 = some ⟨b44, o44, none⟩ ∧ CanStore w43 b44 (o44 + (x7).toNat) ∧ ∀ ws, Stored w43 b44 (o44 + (x7).toNat) (.slice p43 l43 c43) ws →
  InK .i64 (x7 + 1) ∧ ∃ ml3, ml3 < nl3 ∧ I3 (x7 + 1) ml3 ws)
  (∃ I7 : Int → Nat → World → Prop, (∃ nl7, I7 0 nl7 wl3) ∧ ∀ x8 : Int, ∀ (nl7 : Nat) (wl7 : World), I7 x8 nl7 wl7 →
  ∃ b47 o47, a0 = some ⟨b47, o47, none⟩ ∧ ∃ (p49 : Option Addr) (l49 c49 : Nat), wl7.cell? ⟨b47, o47 + 2, none⟩ = some (.slice p49 l49 c49) ∧ Br (decide (x8 < ((l49 : Int))))
  (Br (decide (x8 < ((l1 : Int))))
  (((0 : Int) ≤ x8 ∧ x8 < (l1 : Int)) ∧ ∃ b60 o60, p1 = some ⟨b60, o60, none⟩ ∧ ∃ n61 : Int, wl7.cell? ⟨b60, o60 + (x8).toNat, none⟩ = some (.int .u8 n61) ∧ ∃ b63 o63, a0 = some ⟨b63, o63, none⟩ ∧ ∃ (p65 : Option Addr) (l65 c65 : Nat), wl7.cell? ⟨b63, o63 + 2, none⟩ = some (.slice p65 l65 c65) ∧ ((0 : Int) ≤ x8 ∧ x8 < (l65 : Int)) ∧ ∃ b67 o67, p65 = some ⟨b67, o67, none⟩ ∧ ∃ n68 : Int, wl7.cell? ⟨b67, o67 + (x8).toNat * 2, none⟩ = some (.int .i64 n68) ∧ ∃ (p68 : Option Addr) (l68 c68 : Nat), wl7.cell? ⟨b67, o67 + (x8).toNat * 2 + 1, none⟩ = some (.slice p68 l68 c68) ∧ ∀ b10 w10, NewBlk wl7 b10 [.int .i64 0, .slice none 0 0] 79 w10 →
  CanStore w10 b10 0 ∧ ∀ ws_1, Stored w10 b10 0 (.int .i64 n68) ws_1 →
  CanStore ws_1 b10 1 ∧ ∀ ws_2, Stored ws_1 b10 1 (.slice p68 l68 c68) ws_2 →
  ∃ I14 : Int → Nat → World → Prop, (∃ nl14, I14 0 nl14 ws_2) ∧ ∀ x11 : Int, ∀ (nl14 : Nat) (wl14 : World), I14 x11 nl14 wl14 →
  Br (decide (x11 < 256))
  ((64 : Int) ≠ 0 ∧ InK .i64 (x11.tdiv 64) ∧ (0 : Int) ≤ (IntKind.wrap .u64 (x11.tdiv 64)) ∧ Br ((bits .and .u8 (n61.fdiv (2 ^ (min (IntKind.wrap .u64 (x11.tdiv 64)).toNat 8))) 1) == 1)
  (∀ wd17, Drew wl14 wd17 →
  ∃ b81 o81, p19 = some ⟨b81, o81, none⟩ ∧ ∃ (p83 : Option Addr) (l83 c83 : Nat), wd17.cell? ⟨b81, o81 + 1, none⟩ = some (.slice p83 l83 c83) ∧ ∃ n85 : Int, wd17.cell? ⟨b10, 0, none⟩ = some (.int .i64 n85) ∧ ((0 : Int) ≤ n85 ∧ n85 < (l83 : Int)) ∧ ∃ b86 o86, p83 = some ⟨b86, o86, none⟩ ∧ ∃ (p87 : Option Addr) (l87 c87 : Nat), wd17.cell? ⟨b86, o86 + (n85).toNat, none⟩ = some (.slice p87 l87 c87) ∧ ∃ (p90 : Option Addr) (l90 c90 : Nat), wd17.cell? ⟨b10, 1, none⟩ = some (.slice p90 l90 c90) ∧ ((0 : Int) ≤ x11 ∧ x11 < (l90 : Int)) ∧ ∃ b92 o92, p90 = some ⟨b92, o92, none⟩ ∧ ∃ n93 : Int, wd17.cell? ⟨b92, o92 + (x11).toNat, none⟩ = some (.int .u8 n93) ∧ ((0 : Int) ≤ x11 ∧ x11 < (l87 : Int)) ∧ ∃ b94 o94, p87 = some ⟨b94, o94, none⟩ ∧ CanStore wd17 b94 (o94 + (x11).toNat) ∧ ∀ ws_3, Stored wd17 b94 (o94 + (x11).toNat) (.int .u8 n93) ws_3 →
  InK .i64 (x11 + 1) ∧ ∃ ml14, ml14 < nl14 ∧ I14 (x11 + 1) ml14 ws_3)
  (InK .i64 (x11 + 1) ∧ ∃ ml14, ml14 < nl14 ∧ I14 (x11 + 1) ml14 wl14))
  (InK .i64 (x8 + 1) ∧ ∃ ml7, ml7 < nl7 ∧ I7 (x8 + 1) ml7 wl14))
  (∃ b63_1 o63_1, a0 = some ⟨b63_1, o63_1, none⟩ ∧ ∃ (p65_1 : Option Addr) (l65_1 c65_1 : Nat), wl7.cell? ⟨b63_1, o63_1 + 2, none⟩ = some (.slice p65_1 l65_1 c65_1) ∧ ((0 : Int) ≤ x8 ∧ x8 < (l65_1 : Int)) ∧ ∃ b67_1 o67_1, p65_1 = some ⟨b67_1, o67_1, none⟩ ∧ ∃ n68_1 : Int, wl7.cell? ⟨b67_1, o67_1 + (x8).toNat * 2, none⟩ = some (.int .i64 n68_1) ∧ ∃ (p68_1 : Option Addr) (l68_1 c68_1 : Nat), wl7.cell? ⟨b67_1, o67_1 + (x8).toNat * 2 + 1, none⟩ = some (.slice p68_1 l68_1 c68_1) ∧ ∀ b10_1 w10_1, NewBlk wl7 b10_1 [.int .i64 0, .slice none 0 0] 79 w10_1 →
  CanStore w10_1 b10_1 0 ∧ ∀ ws_4, Stored w10_1 b10_1 0 (.int .i64 n68_1) ws_4 →
  CanStore ws_4 b10_1 1 ∧ ∀ ws_5, Stored ws_4 b10_1 1 (.slice p68_1 l68_1 c68_1) ws_5 →
  ∃ I14_1 : Int → Nat → World → Prop, (∃ nl14_1, I14_1 0 nl14_1 ws_5) ∧ ∀ x11_1 : Int, ∀ (nl14_1 : Nat) (wl14_1 : World), I14_1 x11_1 nl14_1 wl14_1 →
  Br (decide (x11_1 < 256))
  ((64 : Int) ≠ 0 ∧ InK .i64 (x11_1.tdiv 64) ∧ (0 : Int) ≤ (IntKind.wrap .u64 (x11_1.tdiv 64)) ∧ Br ((bits .and .u8 ((15 : Int).fdiv (2 ^ (min (IntKind.wrap .u64 (x11_1.tdiv 64)).toNat 8))) 1) == 1)
  (∀ wd17_1, Drew wl14_1 wd17_1 →
  ∃ b81_1 o81_1, p19 = some ⟨b81_1, o81_1, none⟩ ∧ ∃ (p83_1 : Option Addr) (l83_1 c83_1 : Nat), wd17_1.cell? ⟨b81_1, o81_1 + 1, none⟩ = some (.slice p83_1 l83_1 c83_1) ∧ ∃ n85_1 : Int, wd17_1.cell? ⟨b10_1, 0, none⟩ = some (.int .i64 n85_1) ∧ ((0 : Int) ≤ n85_1 ∧ n85_1 < (l83_1 : Int)) ∧ ∃ b86_1 o86_1, p83_1 = some ⟨b86_1, o86_1, none⟩ ∧ ∃ (p87_1 : Option Addr) (l87_1 c87_1 : Nat), wd17_1.cell? ⟨b86_1, o86_1 + (n85_1).toNat, none⟩ = some (.slice p87_1 l87_1 c87_1) ∧ ∃ (p90_1 : Option Addr) (l90_1 c90_1 : Nat), wd17_1.cell? ⟨b10_1, 1, none⟩ = some (.slice p90_1 l90_1 c90_1) ∧ ((0 : Int) ≤ x11_1 ∧ x11_1 < (l90_1 : Int)) ∧ ∃ b92_1 o92_1, p90_1 = some ⟨b92_1, o92_1, none⟩ ∧ ∃ n93_1 : Int, wd17_1.cell? ⟨b92_1, o92_1 + (x11_1).toNat, none⟩ = some (.int .u8 n93_1) ∧ ((0 : Int) ≤ x11_1 ∧ x11_1 < (l87_1 : Int)) ∧ ∃ b94_1 o94_1, p87_1 = some ⟨b94_1, o94_1, none⟩ ∧ CanStore wd17_1 b94_1 (o94_1 + (x11_1).toNat) ∧ ∀ ws_6, Stored wd17_1 b94_1 (o94_1 + (x11_1).toNat) (.int .u8 n93_1) ws_6 →
  InK .i64 (x11_1 + 1) ∧ ∃ ml14_1, ml14_1 < nl14_1 ∧ I14_1 (x11_1 + 1) ml14_1 ws_6)
  (InK .i64 (x11_1 + 1) ∧ ∃ ml14_1, ml14_1 < nl14_1 ∧ I14_1 (x11_1 + 1) ml14_1 wl14_1))
  (InK .i64 (x8 + 1) ∧ ∃ ml7, ml7 < nl7 ∧ I7 (x8 + 1) ml7 wl14_1)))
  (∃ I19 : Int → Nat → World → Prop, (∃ nl19, I19 0 nl19 wl7) ∧ ∀ x12 : Int, ∀ (nl19 : Nat) (wl19 : World), I19 x12 nl19 wl19 →
  ∃ b97 o97, p19 = some ⟨b97, o97, none⟩ ∧ ∃ (p99 : Option Addr) (l99 c99 : Nat), wl19.cell? ⟨b97, o97 + 1, none⟩ = some (.slice p99 l99 c99) ∧ Br (decide (x12 < ((l99 : Int))))
  (∀ wd21, Drew wl19 wd21 →
  ∃ S21 : World → Prop, S21 wd21 ∧ ∃ b105 o105, p19 = some ⟨b105, o105, none⟩ ∧ ∃ (p107 : Option Addr) (l107 c107 : Nat), (∀ w, S21 w → w.cell? ⟨b105, o105, none⟩ = some (.slice p107 l107 c107)) ∧ ∃ b110 o110, p19 = some ⟨b110, o110, none⟩ ∧ ∃ (p112 : Option Addr) (l112 c112 : Nat), wd21.cell? ⟨b110, o110 + 1, none⟩ = some (.slice p112 l112 c112) ∧ ((0 : Int) ≤ x12 ∧ x12 < (l112 : Int)) ∧ ∃ b114 o114, p112 = some ⟨b114, o114, none⟩ ∧ ∃ (p115 : Option Addr) (l115 c115 : Nat), wd21.cell? ⟨b114, o114 + (x12).toNat, none⟩ = some (.slice p115 l115 c115) ∧ Does Try.prog 47 #[.slice p115 l115 c115] wd21 fun e116 w116 =>
  ∃ (p116 : Option Addr) (l116 c116 : Nat), e116 = .returned (.slice p116 l116 c116) ∧ S21 w116 ∧ ((0 : Int) ≤ x12 ∧ x12 < (l107 : Int)) ∧ ∃ b117 o117, p107 = some ⟨b117, o117, none⟩ ∧ CanStore w116 b117 (o117 + (x12).toNat) ∧ ∀ ws_7, Stored w116 b117 (o117 + (x12).toNat) (.slice p116 l116 c116) ws_7 →
  InK .i64 (x12 + 1) ∧ ∃ ml19, ml19 < nl19 ∧ I19 (x12 + 1) ml19 ws_7)
  (R (.returned (.pointer p19)) wl19)))
def f33_ann : Ann := { loops := [(3, [(7, .int .i64)]), (7, [(8, .int .i64)]), (14, [(11, .int .i64)]), (19, [(12, .int .i64)])], cuts := [], flip := [], throws := [] }
theorem f33_eq (a0 : Option Addr) (p1 : Option Addr) (l1 c1 : Nat) (w : World) (R : Ending → World → Prop) : vc Try.prog f33_ann (bodyOf Try.f33) (retQ Try.prog Try.f33 R) (envOf Try.f33.ntmps [.v (.pointer a0), .v (.slice p1 l1 c1)]) [] w = f33_vc a0 p1 l1 c1 w R := by kernel_rfl
theorem f33_does (a0 : Option Addr) (p1 : Option Addr) (l1 c1 : Nat) {w : World} {R : Ending → World → Prop} (h : f33_vc a0 p1 l1 c1 w R) : Does Try.prog 33 #[.pointer a0, .slice p1 l1 c1] w R :=
  does_of_vc (ss := [.v (.pointer a0), .v (.slice p1 l1 c1)]) f33_ann mixed call33 Try.func33 rfl rfl (show 2 ≤ Try.f33.ntmps by decide) ((f33_eq a0 p1 l1 c1 w R).symm ▸ h)
/-- Of (*escritoire/device.Device).Clone (function 34): the condition. -/
def f34_vc (a0 : Option Addr) (w : World) (R : Ending → World → Prop) : Prop :=
  Does Try.prog 36 #[.pointer a0] w fun e5 w5 =>
  ∃ b5 : Bool, e5 = .returned (.bool b5) ∧ Br (!b5)
  (R (.returned (.pointer none)) w5)
  (∃ b8 o8, a0 = some ⟨b8, o8, none⟩ ∧ ∃ (p9 : Option Addr) (l9 c9 : Nat), w5.cell? ⟨b8, o8, none⟩ = some (.slice p9 l9 c9) ∧ ∃ (p9_1 : Option Addr) (l9_1 c9_1 : Nat), w5.cell? ⟨b8, o8 + 1, none⟩ = some (.slice p9_1 l9_1 c9_1) ∧ ∃ (p9_2 : Option Addr) (l9_2 c9_2 : Nat), w5.cell? ⟨b8, o8 + 2, none⟩ = some (.slice p9_2 l9_2 c9_2) ∧ ∃ (p9_3 : Option Addr) (l9_3 c9_3 : Nat), w5.cell? ⟨b8, o8 + 3, none⟩ = some (.slice p9_3 l9_3 c9_3) ∧ ∃ n9 : Int, w5.cell? ⟨b8, o8 + 4, none⟩ = some (.int .i64 n9) ∧ ∃ b9 : Bool, w5.cell? ⟨b8, o8 + 5, none⟩ = some (.bool b9) ∧ ∃ n9_1 : Int, w5.cell? ⟨b8, o8 + 6, none⟩ = some (.int .i64 n9_1) ∧ ∀ b3 w3, NewBlk w5 b3 [.slice none 0 0, .slice none 0 0, .slice none 0 0, .slice none 0 0, .int .i64 0, .bool false, .int .i64 0] 65 w3 →
  CanStore w3 b3 0 ∧ ∀ ws, Stored w3 b3 0 (.slice p9 l9 c9) ws →
  CanStore ws b3 1 ∧ ∀ ws_1, Stored ws b3 1 (.slice p9_1 l9_1 c9_1) ws_1 →
  CanStore ws_1 b3 2 ∧ ∀ ws_2, Stored ws_1 b3 2 (.slice p9_2 l9_2 c9_2) ws_2 →
  CanStore ws_2 b3 3 ∧ ∀ ws_3, Stored ws_2 b3 3 (.slice p9_3 l9_3 c9_3) ws_3 →
  CanStore ws_3 b3 4 ∧ ∀ ws_4, Stored ws_3 b3 4 (.int .i64 n9) ws_4 →
  CanStore ws_4 b3 5 ∧ ∀ ws_5, Stored ws_4 b3 5 (.bool b9) ws_5 →
  CanStore ws_5 b3 6 ∧ ∀ ws_6, Stored ws_5 b3 6 (.int .i64 n9_1) ws_6 →
  ∃ b11 o11, a0 = some ⟨b11, o11, none⟩ ∧ ∃ (p13 : Option Addr) (l13 c13 : Nat), ws_6.cell? ⟨b11, o11, none⟩ = some (.slice p13 l13 c13) ∧ ∃ (p14 : Option Addr) (l14 c14 : Nat) (w14 : World), (Builtin.append_ #[62, 62] 62 #[.slice none 0 0, .slice p13 l13 c13]).run Try.prog ws_6 = .ok (.slice p14 l14 c14) w14 ∧
  CanStore w14 b3 0 ∧ ∀ ws_7, Stored w14 b3 0 (.slice p14 l14 c14) ws_7 →
  ∃ b17 o17, a0 = some ⟨b17, o17, none⟩ ∧ ∃ (p19 : Option Addr) (l19 c19 : Nat), ws_7.cell? ⟨b17, o17 + 1, none⟩ = some (.slice p19 l19 c19) ∧ ∃ (p20 : Option Addr) (l20 c20 : Nat) (w20 : World), (Builtin.append_ #[62, 62] 62 #[.slice none 0 0, .slice p19 l19 c19]).run Try.prog ws_7 = .ok (.slice p20 l20 c20) w20 ∧
  CanStore w20 b3 1 ∧ ∀ ws_8, Stored w20 b3 1 (.slice p20 l20 c20) ws_8 →
  ∃ b23 o23, a0 = some ⟨b23, o23, none⟩ ∧ ∃ (p25 : Option Addr) (l25 c25 : Nat), ws_8.cell? ⟨b23, o23 + 2, none⟩ = some (.slice p25 l25 c25) ∧ ∃ (p26 : Option Addr) (l26 c26 : Nat) (w26 : World), (Builtin.append_ #[63, 63] 63 #[.slice none 0 0, .slice p25 l25 c25]).run Try.prog ws_8 = .ok (.slice p26 l26 c26) w26 ∧
  CanStore w26 b3 2 ∧ ∀ ws_9, Stored w26 b3 2 (.slice p26 l26 c26) ws_9 →
  ∃ b29 o29, a0 = some ⟨b29, o29, none⟩ ∧ ∃ (p31 : Option Addr) (l31 c31 : Nat), ws_9.cell? ⟨b29, o29 + 3, none⟩ = some (.slice p31 l31 c31) ∧ ∃ (p32 : Option Addr) (l32 c32 : Nat) (w32 : World), (Builtin.append_ #[22, 22] 22 #[.slice none 0 0, .slice p31 l31 c31]).run Try.prog ws_9 = .ok (.slice p32 l32 c32) w32 ∧
  CanStore w32 b3 3 ∧ ∀ ws_10, Stored w32 b3 3 (.slice p32 l32 c32) ws_10 →
  R (.returned (.pointer (some ⟨b3, 0, none⟩))) ws_10)
def f34_ann : Ann := { loops := [], cuts := [], flip := [], throws := [] }
theorem f34_eq (a0 : Option Addr) (w : World) (R : Ending → World → Prop) : vc Try.prog f34_ann (bodyOf Try.f34) (retQ Try.prog Try.f34 R) (envOf Try.f34.ntmps [.v (.pointer a0)]) [] w = f34_vc a0 w R := by kernel_rfl
theorem f34_does (a0 : Option Addr) {w : World} {R : Ending → World → Prop} (h : f34_vc a0 w R) : Does Try.prog 34 #[.pointer a0] w R :=
  does_of_vc (ss := [.v (.pointer a0)]) f34_ann mixed call34 Try.func34 rfl rfl (show 1 ≤ Try.f34.ntmps by decide) ((f34_eq a0 w R).symm ▸ h)
/-- Of escritoire/device.made (function 35): the condition. -/
def f35_vc (p0 : Option Addr) (l0 c0 : Nat) (w : World) (R : Ending → World → Prop) : Prop :=
  ∃ (p5 : Option Addr) (l5 c5 : Nat) (w5 : World), (Builtin.append_ #[62, 62] 62 #[.slice none 0 0, .slice p0 l0 c0]).run Try.prog w = .ok (.slice p5 l5 c5) w5 ∧
  ∀ b7 w7, NewBlk w5 b7 [.slice p0 l0 c0, .slice p5 l5 c5, .slice none 0 0, .slice none 0 0, .int .i64 (-1), .bool false, .int .i64 0] 65 w7 →
  R (.returned (.pointer (some ⟨b7, 0, none⟩))) w7
def f35_ann : Ann := { loops := [], cuts := [], flip := [], throws := [] }
theorem f35_eq (p0 : Option Addr) (l0 c0 : Nat) (w : World) (R : Ending → World → Prop) : vc Try.prog f35_ann (bodyOf Try.f35) (retQ Try.prog Try.f35 R) (envOf Try.f35.ntmps [.v (.slice p0 l0 c0)]) [] w = f35_vc p0 l0 c0 w R := by kernel_rfl
theorem f35_does (p0 : Option Addr) (l0 c0 : Nat) {w : World} {R : Ending → World → Prop} (h : f35_vc p0 l0 c0 w R) : Does Try.prog 35 #[.slice p0 l0 c0] w R :=
  does_of_vc (ss := [.v (.slice p0 l0 c0)]) f35_ann mixed call35 Try.func35 rfl rfl (show 1 ≤ Try.f35.ntmps by decide) ((f35_eq p0 l0 c0 w R).symm ▸ h)
/-- Of (*escritoire/device.Device).made (function 36): the condition. -/
def f36_vc (a0 : Option Addr) (w : World) (R : Ending → World → Prop) : Prop :=
  Br (!a0.isNone)
  (∃ b7 o7, a0 = some ⟨b7, o7, none⟩ ∧ ∃ (p9 : Option Addr) (l9 c9 : Nat), w.cell? ⟨b7, o7 + 1, none⟩ = some (.slice p9 l9 c9) ∧ R (.returned (.bool (decide (((l9 : Int)) > 0)))) w)
  (R (.returned (.bool false)) w)
def f36_ann : Ann := { loops := [], cuts := [], flip := [], throws := [] }
theorem f36_eq (a0 : Option Addr) (w : World) (R : Ending → World → Prop) : vc Try.prog f36_ann (bodyOf Try.f36) (retQ Try.prog Try.f36 R) (envOf Try.f36.ntmps [.v (.pointer a0)]) [] w = f36_vc a0 w R := by kernel_rfl
theorem f36_does (a0 : Option Addr) {w : World} {R : Ending → World → Prop} (h : f36_vc a0 w R) : Does Try.prog 36 #[.pointer a0] w R :=
  does_of_vc (ss := [.v (.pointer a0)]) f36_ann mixed call36 Try.func36 rfl rfl (show 1 ≤ Try.f36.ntmps by decide) ((f36_eq a0 w R).symm ▸ h)
/-- Of (*escritoire/device.Device).there (function 37): the condition. -/
def f37_vc (a0 : Option Addr) (a1 : Int) (w : World) (R : Ending → World → Prop) : Prop :=
  Br (decide (a1 ≥ 0))
  (Does Try.prog 27 #[.pointer a0] w fun e10 w10 =>
  ∃ n10 : Int, e10 = .returned (.int .i64 n10) ∧ R (.returned (.bool (decide (a1 < n10)))) w10)
  (R (.returned (.bool false)) w)
def f37_ann : Ann := { loops := [], cuts := [], flip := [], throws := [] }
theorem f37_eq (a0 : Option Addr) (a1 : Int) (w : World) (R : Ending → World → Prop) : vc Try.prog f37_ann (bodyOf Try.f37) (retQ Try.prog Try.f37 R) (envOf Try.f37.ntmps [.v (.pointer a0), .v (.int .i64 a1)]) [] w = f37_vc a0 a1 w R := by kernel_rfl
theorem f37_does (a0 : Option Addr) (a1 : Int) {w : World} {R : Ending → World → Prop} (h : f37_vc a0 a1 w R) : Does Try.prog 37 #[.pointer a0, .int .i64 a1] w R :=
  does_of_vc (ss := [.v (.pointer a0), .v (.int .i64 a1)]) f37_ann mixed call37 Try.func37 rfl rfl (show 2 ≤ Try.f37.ntmps by decide) ((f37_eq a0 a1 w R).symm ▸ h)
/-- Of (*escritoire/device.Device).Write$1 (function 38): the condition. -/
def f38_vc (a0 : Option Addr) (a1 : Option Addr) (a2 : Option Addr) (w : World) (R : Ending → World → Prop) : Prop :=
  ∃ b3 o3, a0 = some ⟨b3, o3, none⟩ ∧ ∃ p3 : Option Addr, w.cell? ⟨b3, o3, none⟩ = some (.pointer p3) ∧ ∃ b4 o4, a1 = some ⟨b4, o4, none⟩ ∧ ∃ n4 : Int, w.cell? ⟨b4, o4, none⟩ = some (.int .i64 n4) ∧ ∃ b5 o5, a2 = some ⟨b5, o5, none⟩ ∧ ∃ (p5 : Option Addr) (l5 c5 : Nat), w.cell? ⟨b5, o5, none⟩ = some (.slice p5 l5 c5) ∧ Does Try.prog 39 #[.pointer p3, .int .i64 n4, .slice p5 l5 c5] w fun e6 w6 =>
  e6 = .returned (.tuple #[]) ∧ R (.returned (.tuple #[])) w6
def f38_ann : Ann := { loops := [], cuts := [], flip := [], throws := [] }
theorem f38_eq (a0 : Option Addr) (a1 : Option Addr) (a2 : Option Addr) (w : World) (R : Ending → World → Prop) : vc Try.prog f38_ann (bodyOf Try.f38) (retQ Try.prog Try.f38 R) (envOf Try.f38.ntmps [.v (.pointer a0), .v (.pointer a1), .v (.pointer a2)]) [] w = f38_vc a0 a1 a2 w R := by kernel_rfl
theorem f38_does (a0 : Option Addr) (a1 : Option Addr) (a2 : Option Addr) {w : World} {R : Ending → World → Prop} (h : f38_vc a0 a1 a2 w R) : Does Try.prog 38 #[.pointer a0, .pointer a1, .pointer a2] w R :=
  does_of_vc (ss := [.v (.pointer a0), .v (.pointer a1), .v (.pointer a2)]) f38_ann mixed call38 Try.func38 rfl rfl (show 3 ≤ Try.f38.ntmps by decide) ((f38_eq a0 a1 a2 w R).symm ▸ h)
/-- Of (*escritoire/device.Device).lay (function 39): the condition. -/
def f39_vc (a0 : Option Addr) (a1 : Int) (p2 : Option Addr) (l2 c2 : Nat) (w : World) (R : Ending → World → Prop) : Prop :=
  ∀ b6 w6, NewBlk w b6 ([.int .i64 0] ++ List.replicate 256 (.int .u8 0) : List Value) 74 w6 →
  storeL b6 0 ([.int .i64 a1] ++ List.replicate 256 (.int .u8 0) : List Value) w6 fun wx =>
  ∃ (n12 : Int) (w12 : World), (Builtin.copy_ #[22, 22] 3 #[.slice (subp (some ⟨b6, 1, none⟩) 0 256 1) (256 - 0) (256 - 0), .slice p2 l2 c2]).run Try.prog wx = .ok (.int .i64 n12) w12 ∧
  ∀ wd2, Drew w12 wd2 →
  ∃ b14 o14, a0 = some ⟨b14, o14, none⟩ ∧ ∃ (p16 : Option Addr) (l16 c16 : Nat), wd2.cell? ⟨b14, o14 + 1, none⟩ = some (.slice p16 l16 c16) ∧ ∃ vs19 : List Value, vs19.length = 256 ∧ (∀ j u, vs19[j]? = some u → wd2.cell? ⟨b6, 1 + j, none⟩ = some u) ∧ ((0 : Int) ≤ a1 ∧ a1 < (l16 : Int)) ∧ ∃ b20 o20, p16 = some ⟨b20, o20, none⟩ ∧ (bif decide (vs19.length = 256) then storeL b20 (o20 + (a1).toNat * 256) vs19 wd2 fun wx_1 =>
  ∀ wd3, Drew wx_1 wd3 →
  ∃ S3 : World → Prop, S3 wd3 ∧ ∃ b23 o23, a0 = some ⟨b23, o23, none⟩ ∧ ∃ (p25 : Option Addr) (l25 c25 : Nat), (∀ w, S3 w → w.cell? ⟨b23, o23 + 2, none⟩ = some (.slice p25 l25 c25)) ∧ ∃ vs26 : List Value, vs26.length = 257 ∧ (∀ j u, vs26[j]? = some u → wd3.cell? ⟨b6, 0 + j, none⟩ = some u) ∧ opt (fillL ((List.range 1).map fun i => (i * 257, 257)) (zerosL (.agg (([.int .i64 0] ++ List.replicate 256 (.int .u8 0) : List Value)).toArray) 1) [(0, .agg vs26.toArray)]) fun cs27 => ∀ b27 w27, NewBlk wd3 b27 cs27 74 w27 →
  S3 w27 ∧ ∃ (p28 : Option Addr) (l28 c28 : Nat) (w28 : World), (Builtin.append_ #[63, 63] 63 #[.slice p25 l25 c25, .slice (some ⟨b27, 0, none⟩) 1 1]).run Try.prog w27 = .ok (.slice p28 l28 c28) w28 ∧
  ∃ b29 o29, a0 = some ⟨b29, o29, none⟩ ∧ CanStore w28 b29 (o29 + 2) ∧ ∀ ws, Stored w28 b29 (o29 + 2) (.slice p28 l28 c28) ws →
  R (.returned (.tuple #[])) ws else False)
def f39_ann : Ann := { loops := [], cuts := [], flip := [], throws := [] }
theorem f39_eq (a0 : Option Addr) (a1 : Int) (p2 : Option Addr) (l2 c2 : Nat) (w : World) (R : Ending → World → Prop) : vc Try.prog f39_ann (bodyOf Try.f39) (retQ Try.prog Try.f39 R) (envOf Try.f39.ntmps [.v (.pointer a0), .v (.int .i64 a1), .v (.slice p2 l2 c2)]) [] w = f39_vc a0 a1 p2 l2 c2 w R := by kernel_rfl
theorem f39_does (a0 : Option Addr) (a1 : Int) (p2 : Option Addr) (l2 c2 : Nat) {w : World} {R : Ending → World → Prop} (h : f39_vc a0 a1 p2 l2 c2 w R) : Does Try.prog 39 #[.pointer a0, .int .i64 a1, .slice p2 l2 c2] w R :=
  does_of_vc (ss := [.v (.pointer a0), .v (.int .i64 a1), .v (.slice p2 l2 c2)]) f39_ann mixed call39 Try.func39 rfl rfl (show 3 ≤ Try.f39.ntmps by decide) ((f39_eq a0 a1 p2 l2 c2 w R).symm ▸ h)
/-- Of (*escritoire/device.Device).op (function 40): the condition. -/
def f40_vc (a0 : Option Addr) (g1 : Go.Fn) (fs1 cs1 : Array Value) (g2 : Go.Fn) (fs2 cs2 : Array Value) (w : World) (R : Ending → World → Prop) : Prop :=
  ∀ b3 w3, NewBlk w b3 [.pointer a0] 24 w3 →
  ∀ b5 w5, NewBlk w3 b5 [.func g2 fs2 cs2] 1 w5 →
  ∀ b6 w6, NewBlk w5 b6 [.int .i64 0] 25 w6 →
  ∃ p9 : Option Addr, w6.cell? ⟨b3, 0, none⟩ = some (.pointer p9) ∧ Does Try.prog 36 #[.pointer p9] w6 fun e10 w10 =>
  ∃ b10 : Bool, e10 = .returned (.bool b10) ∧ Br (!b10)
  (CanStore w10 b6 0 ∧ ∀ ws, Stored w10 b6 0 (.int .i64 10) ws →
  ∃ n6 : Int, ws.cell? ⟨b6, 0, none⟩ = some (.int .i64 n6) ∧ R (.returned (.int .i64 n6)) ws)
  (∃ p13 : Option Addr, w10.cell? ⟨b3, 0, none⟩ = some (.pointer p13) ∧ ∃ b14 o14, p13 = some ⟨b14, o14, none⟩ ∧ ∃ b16 : Bool, w10.cell? ⟨b14, o14 + 5, none⟩ = some (.bool b16) ∧ Br b16
  (CanStore w10 b6 0 ∧ ∀ ws_1, Stored w10 b6 0 (.int .i64 7) ws_1 →
  ∃ n6_1 : Int, ws_1.cell? ⟨b6, 0, none⟩ = some (.int .i64 n6_1) ∧ R (.returned (.int .i64 n6_1)) ws_1)
  (∃ p18 : Option Addr, w10.cell? ⟨b3, 0, none⟩ = some (.pointer p18) ∧ ∃ b19 o19, p18 = some ⟨b19, o19, none⟩ ∧ ∃ n21 : Int, w10.cell? ⟨b19, o19 + 6, none⟩ = some (.int .i64 n21) ∧ InK .i64 (n21 + 1) ∧ ∃ b23 o23, p18 = some ⟨b23, o23, none⟩ ∧ CanStore w10 b23 (o23 + 6) ∧ ∀ ws_2, Stored w10 b23 (o23 + 6) (.int .i64 (n21 + 1)) ws_2 →
  ∃ p25 : Option Addr, ws_2.cell? ⟨b3, 0, none⟩ = some (.pointer p25) ∧ ∃ b26 o26, p25 = some ⟨b26, o26, none⟩ ∧ ∃ n28 : Int, ws_2.cell? ⟨b26, o26 + 4, none⟩ = some (.int .i64 n28) ∧ Br (n28 == 0)
  (LeavesV (fun wk => ∃ n6_2 : Int, wk.cell? ⟨b6, 0, none⟩ = some (.int .i64 n6_2) ∧ R (.returned (.int .i64 n6_2)) wk) (fun chk wp => R (.panicked chk) wp) Try.prog ({ target := .fn (.func 50) #[.pointer (some ⟨b3, 0, none⟩), .pointer (some ⟨b6, 0, none⟩), .pointer (some ⟨b5, 0, none⟩)], args := #[] } :: []) (.panicking [{ v := .iface 82 (.agg #[]), recovered := false }]) ws_2)
  (∃ p32 : Option Addr, ws_2.cell? ⟨b3, 0, none⟩ = some (.pointer p32) ∧ ∃ b33 o33, p32 = some ⟨b33, o33, none⟩ ∧ ∃ n35 : Int, ws_2.cell? ⟨b33, o33 + 4, none⟩ = some (.int .i64 n35) ∧ Br (decide (n35 > 0))
  (∃ p37 : Option Addr, ws_2.cell? ⟨b3, 0, none⟩ = some (.pointer p37) ∧ ∃ b38 o38, p37 = some ⟨b38, o38, none⟩ ∧ ∃ n40 : Int, ws_2.cell? ⟨b38, o38 + 4, none⟩ = some (.int .i64 n40) ∧ InK .i64 (n40 - 1) ∧ ∃ b42 o42, p37 = some ⟨b42, o42, none⟩ ∧ CanStore ws_2 b42 (o42 + 4) ∧ ∀ ws_3, Stored ws_2 b42 (o42 + 4) (.int .i64 (n40 - 1)) ws_3 →
  ∃ p44 : Option Addr, ws_3.cell? ⟨b3, 0, none⟩ = some (.pointer p44) ∧ ∃ b45 o45, p44 = some ⟨b45, o45, none⟩ ∧ ∃ (p47 : Option Addr) (l47 c47 : Nat), ws_3.cell? ⟨b45, o45 + 3, none⟩ = some (.slice p47 l47 c47) ∧ Br (decide (((l47 : Int)) > 0))
  (∃ p50 : Option Addr, ws_3.cell? ⟨b3, 0, none⟩ = some (.pointer p50) ∧ ∃ b51 o51, p50 = some ⟨b51, o51, none⟩ ∧ ∃ (p53 : Option Addr) (l53 c53 : Nat), ws_3.cell? ⟨b51, o51 + 3, none⟩ = some (.slice p53 l53 c53) ∧ ((0 : Int) ≤ 0 ∧ 0 < (l53 : Int)) ∧ ∃ b54 o54, p53 = some ⟨b54, o54, none⟩ ∧ ∃ n55 : Int, ws_3.cell? ⟨b54, o54 + (0 : Int).toNat, none⟩ = some (.int .u8 n55) ∧ (3 : Int) ≠ 0 ∧ ∀ wd14, Drew ws_3 wd14 →
  ∃ p57 : Option Addr, wd14.cell? ⟨b3, 0, none⟩ = some (.pointer p57) ∧ ∃ p58 : Option Addr, wd14.cell? ⟨b3, 0, none⟩ = some (.pointer p58) ∧ ∃ b59 o59, p58 = some ⟨b59, o59, none⟩ ∧ ∃ (p61 : Option Addr) (l61 c61 : Nat), wd14.cell? ⟨b59, o59 + 3, none⟩ = some (.slice p61 l61 c61) ∧ ((0 : Int) ≤ 1 ∧ 1 ≤ (l61 : Int)) ∧ ∃ b63 o63, p57 = some ⟨b63, o63, none⟩ ∧ CanStore wd14 b63 (o63 + 3) ∧ ∀ ws_4, Stored wd14 b63 (o63 + 3) (.slice (subp p61 ((1 : Int).toNat) c61 1) (l61 - ((1 : Int).toNat)) (c61 - ((1 : Int).toNat))) ws_4 →
  DoesV Try.prog g1 fs1 #[.int .u8 (n55.tmod 3)] cs1 ws_4 fun e67 w67 =>
  ∃ n67 : Int, e67 = .returned (.int .i64 n67) ∧ CanStore w67 b6 0 ∧ ∀ ws_5, Stored w67 b6 0 (.int .i64 n67) ws_5 →
  LeavesV (fun wk_1 => ∃ n6_3 : Int, wk_1.cell? ⟨b6, 0, none⟩ = some (.int .i64 n6_3) ∧ R (.returned (.int .i64 n6_3)) wk_1) (fun chk_1 wp_1 => R (.panicked chk_1) wp_1) Try.prog ({ target := .fn (.func 50) #[.pointer (some ⟨b3, 0, none⟩), .pointer (some ⟨b6, 0, none⟩), .pointer (some ⟨b5, 0, none⟩)], args := #[] } :: []) (.returning) ws_5)
  (DoesV Try.prog g1 fs1 #[.int .u8 0] cs1 ws_3 fun e67_1 w67_1 =>
  ∃ n67_1 : Int, e67_1 = .returned (.int .i64 n67_1) ∧ CanStore w67_1 b6 0 ∧ ∀ ws_6, Stored w67_1 b6 0 (.int .i64 n67_1) ws_6 →
  LeavesV (fun wk_2 => ∃ n6_4 : Int, wk_2.cell? ⟨b6, 0, none⟩ = some (.int .i64 n6_4) ∧ R (.returned (.int .i64 n6_4)) wk_2) (fun chk_2 wp_2 => R (.panicked chk_2) wp_2) Try.prog ({ target := .fn (.func 50) #[.pointer (some ⟨b3, 0, none⟩), .pointer (some ⟨b6, 0, none⟩), .pointer (some ⟨b5, 0, none⟩)], args := #[] } :: []) (.returning) ws_6))
  (∃ p44_1 : Option Addr, ws_2.cell? ⟨b3, 0, none⟩ = some (.pointer p44_1) ∧ ∃ b45_1 o45_1, p44_1 = some ⟨b45_1, o45_1, none⟩ ∧ ∃ (p47_1 : Option Addr) (l47_1 c47_1 : Nat), ws_2.cell? ⟨b45_1, o45_1 + 3, none⟩ = some (.slice p47_1 l47_1 c47_1) ∧ Br (decide (((l47_1 : Int)) > 0))
  (∃ p50_1 : Option Addr, ws_2.cell? ⟨b3, 0, none⟩ = some (.pointer p50_1) ∧ ∃ b51_1 o51_1, p50_1 = some ⟨b51_1, o51_1, none⟩ ∧ ∃ (p53_1 : Option Addr) (l53_1 c53_1 : Nat), ws_2.cell? ⟨b51_1, o51_1 + 3, none⟩ = some (.slice p53_1 l53_1 c53_1) ∧ ((0 : Int) ≤ 0 ∧ 0 < (l53_1 : Int)) ∧ ∃ b54_1 o54_1, p53_1 = some ⟨b54_1, o54_1, none⟩ ∧ ∃ n55_1 : Int, ws_2.cell? ⟨b54_1, o54_1 + (0 : Int).toNat, none⟩ = some (.int .u8 n55_1) ∧ (3 : Int) ≠ 0 ∧ ∀ wd14_1, Drew ws_2 wd14_1 →
  ∃ p57_1 : Option Addr, wd14_1.cell? ⟨b3, 0, none⟩ = some (.pointer p57_1) ∧ ∃ p58_1 : Option Addr, wd14_1.cell? ⟨b3, 0, none⟩ = some (.pointer p58_1) ∧ ∃ b59_1 o59_1, p58_1 = some ⟨b59_1, o59_1, none⟩ ∧ ∃ (p61_1 : Option Addr) (l61_1 c61_1 : Nat), wd14_1.cell? ⟨b59_1, o59_1 + 3, none⟩ = some (.slice p61_1 l61_1 c61_1) ∧ ((0 : Int) ≤ 1 ∧ 1 ≤ (l61_1 : Int)) ∧ ∃ b63_1 o63_1, p57_1 = some ⟨b63_1, o63_1, none⟩ ∧ CanStore wd14_1 b63_1 (o63_1 + 3) ∧ ∀ ws_7, Stored wd14_1 b63_1 (o63_1 + 3) (.slice (subp p61_1 ((1 : Int).toNat) c61_1 1) (l61_1 - ((1 : Int).toNat)) (c61_1 - ((1 : Int).toNat))) ws_7 →
  DoesV Try.prog g1 fs1 #[.int .u8 (n55_1.tmod 3)] cs1 ws_7 fun e67_2 w67_2 =>
  ∃ n67_2 : Int, e67_2 = .returned (.int .i64 n67_2) ∧ CanStore w67_2 b6 0 ∧ ∀ ws_8, Stored w67_2 b6 0 (.int .i64 n67_2) ws_8 →
  LeavesV (fun wk_3 => ∃ n6_5 : Int, wk_3.cell? ⟨b6, 0, none⟩ = some (.int .i64 n6_5) ∧ R (.returned (.int .i64 n6_5)) wk_3) (fun chk_3 wp_3 => R (.panicked chk_3) wp_3) Try.prog ({ target := .fn (.func 50) #[.pointer (some ⟨b3, 0, none⟩), .pointer (some ⟨b6, 0, none⟩), .pointer (some ⟨b5, 0, none⟩)], args := #[] } :: []) (.returning) ws_8)
  (DoesV Try.prog g1 fs1 #[.int .u8 0] cs1 ws_2 fun e67_3 w67_3 =>
  ∃ n67_3 : Int, e67_3 = .returned (.int .i64 n67_3) ∧ CanStore w67_3 b6 0 ∧ ∀ ws_9, Stored w67_3 b6 0 (.int .i64 n67_3) ws_9 →
  LeavesV (fun wk_4 => ∃ n6_6 : Int, wk_4.cell? ⟨b6, 0, none⟩ = some (.int .i64 n6_6) ∧ R (.returned (.int .i64 n6_6)) wk_4) (fun chk_4 wp_4 => R (.panicked chk_4) wp_4) Try.prog ({ target := .fn (.func 50) #[.pointer (some ⟨b3, 0, none⟩), .pointer (some ⟨b6, 0, none⟩), .pointer (some ⟨b5, 0, none⟩)], args := #[] } :: []) (.returning) ws_9)))))
def f40_ann : Ann := { loops := [], cuts := [], flip := [], throws := [] }
theorem f40_eq (a0 : Option Addr) (g1 : Go.Fn) (fs1 cs1 : Array Value) (g2 : Go.Fn) (fs2 cs2 : Array Value) (w : World) (R : Ending → World → Prop) : vc Try.prog f40_ann (bodyOf Try.f40) (retQ Try.prog Try.f40 R) (envOf Try.f40.ntmps [.v (.pointer a0), .v (.func g1 fs1 cs1), .v (.func g2 fs2 cs2)]) [] w = f40_vc a0 g1 fs1 cs1 g2 fs2 cs2 w R := by kernel_rfl
theorem f40_does (a0 : Option Addr) (g1 : Go.Fn) (fs1 cs1 : Array Value) (g2 : Go.Fn) (fs2 cs2 : Array Value) {w : World} {R : Ending → World → Prop} (h : f40_vc a0 g1 fs1 cs1 g2 fs2 cs2 w R) : Does Try.prog 40 #[.pointer a0, .func g1 fs1 cs1, .func g2 fs2 cs2] w R :=
  does_of_vc (ss := [.v (.pointer a0), .v (.func g1 fs1 cs1), .v (.func g2 fs2 cs2)]) f40_ann mixed call40 Try.func40 rfl rfl (show 3 ≤ Try.f40.ntmps by decide) ((f40_eq a0 g1 fs1 cs1 g2 fs2 cs2 w R).symm ▸ h)
/-- Of (*escritoire/device.Device).Write$2 (function 41): the condition. -/
def f41_vc (a0 : Int) (a1 : Option Addr) (w : World) (R : Ending → World → Prop) : Prop :=
  ∃ b5 o5, a1 = some ⟨b5, o5, none⟩ ∧ ∃ (g5 : Go.Fn) (fs5 cs5 : Array Value), w.cell? ⟨b5, o5, none⟩ = some (.func g5 fs5 cs5) ∧ Does Try.prog 42 #[.int .u8 a0, .func g5 fs5 cs5] w fun e6 w6 =>
  ∃ n6 : Int, e6 = .returned (.int .i64 n6) ∧ R (.returned (.int .i64 n6)) w6
def f41_ann : Ann := { loops := [], cuts := [], flip := [], throws := [] }
theorem f41_eq (a0 : Int) (a1 : Option Addr) (w : World) (R : Ending → World → Prop) : vc Try.prog f41_ann (bodyOf Try.f41) (retQ Try.prog Try.f41 R) (envOf Try.f41.ntmps [.v (.int .u8 a0), .v (.pointer a1)]) [] w = f41_vc a0 a1 w R := by kernel_rfl
theorem f41_does (a0 : Int) (a1 : Option Addr) {w : World} {R : Ending → World → Prop} (h : f41_vc a0 a1 w R) : Does Try.prog 41 #[.int .u8 a0, .pointer a1] w R :=
  does_of_vc (ss := [.v (.int .u8 a0), .v (.pointer a1)]) f41_ann mixed call41 Try.func41 rfl rfl (show 2 ≤ Try.f41.ntmps by decide) ((f41_eq a0 a1 w R).symm ▸ h)
/-- Of escritoire/device.told (function 42): the condition. -/
def f42_vc (a0 : Int) (g1 : Go.Fn) (fs1 cs1 : Array Value) (w : World) (R : Ending → World → Prop) : Prop :=
  Br (a0 != 1)
  (DoesV Try.prog g1 fs1 #[] cs1 w fun e8 w8 =>
  e8 = .returned (.tuple #[]) ∧ Br (a0 == 1)
  (R (.returned (.int .i64 7)) w8)
  (Br (a0 == 2)
  (R (.returned (.int .i64 7)) w8)
  (R (.returned (.int .i64 0)) w8)))
  (Br (a0 == 1)
  (R (.returned (.int .i64 7)) w)
  (Br (a0 == 2)
  (R (.returned (.int .i64 7)) w)
  (R (.returned (.int .i64 0)) w)))
def f42_ann : Ann := { loops := [], cuts := [], flip := [], throws := [] }
theorem f42_eq (a0 : Int) (g1 : Go.Fn) (fs1 cs1 : Array Value) (w : World) (R : Ending → World → Prop) : vc Try.prog f42_ann (bodyOf Try.f42) (retQ Try.prog Try.f42 R) (envOf Try.f42.ntmps [.v (.int .u8 a0), .v (.func g1 fs1 cs1)]) [] w = f42_vc a0 g1 fs1 cs1 w R := by kernel_rfl
theorem f42_does (a0 : Int) (g1 : Go.Fn) (fs1 cs1 : Array Value) {w : World} {R : Ending → World → Prop} (h : f42_vc a0 g1 fs1 cs1 w R) : Does Try.prog 42 #[.int .u8 a0, .func g1 fs1 cs1] w R :=
  does_of_vc (ss := [.v (.int .u8 a0), .v (.func g1 fs1 cs1)]) f42_ann mixed call42 Try.func42 rfl rfl (show 2 ≤ Try.f42.ntmps by decide) ((f42_eq a0 g1 fs1 cs1 w R).symm ▸ h)
/-- Of (*escritoire/device.Device).Read$1 (function 43): the condition. -/
def f43_vc (a0 : Int) (a1 : Option Addr) (a2 : Option Addr) (a3 : Option Addr) (w : World) (R : Ending → World → Prop) : Prop :=
  Br (a0 == 1)
  (R (.returned (.int .i64 7)) w)
  (∀ wd3, Drew w wd3 →
  ∃ b8 o8, a1 = some ⟨b8, o8, none⟩ ∧ ∃ p8 : Option Addr, wd3.cell? ⟨b8, o8, none⟩ = some (.pointer p8) ∧ ∃ b9 o9, p8 = some ⟨b9, o9, none⟩ ∧ ∃ (p11 : Option Addr) (l11 c11 : Nat), wd3.cell? ⟨b9, o9 + 1, none⟩ = some (.slice p11 l11 c11) ∧ ∃ b12 o12, a2 = some ⟨b12, o12, none⟩ ∧ ∃ n12 : Int, wd3.cell? ⟨b12, o12, none⟩ = some (.int .i64 n12) ∧ ((0 : Int) ≤ n12 ∧ n12 < (l11 : Int)) ∧ ∃ b13 o13, p11 = some ⟨b13, o13, none⟩ ∧ ∃ (p15 : Option Addr) (l15 c15 : Nat) (w15 : World), (Builtin.append_ #[22, 22] 22 #[.slice none 0 0, .slice (subp (some ⟨b13, o13 + (n12).toNat * 256, none⟩) 0 256 1) (256 - 0) (256 - 0)]).run Try.prog wd3 = .ok (.slice p15 l15 c15) w15 ∧
  ∃ bx ox, a3 = some ⟨bx, ox, none⟩ ∧ CanStore w15 bx ox ∧ ∀ ws, Stored w15 bx ox (.slice p15 l15 c15) ws →
  R (.returned (.int .i64 0)) ws)
def f43_ann : Ann := { loops := [], cuts := [], flip := [], throws := [] }
theorem f43_eq (a0 : Int) (a1 : Option Addr) (a2 : Option Addr) (a3 : Option Addr) (w : World) (R : Ending → World → Prop) : vc Try.prog f43_ann (bodyOf Try.f43) (retQ Try.prog Try.f43 R) (envOf Try.f43.ntmps [.v (.int .u8 a0), .v (.pointer a1), .v (.pointer a2), .v (.pointer a3)]) [] w = f43_vc a0 a1 a2 a3 w R := by kernel_rfl
theorem f43_does (a0 : Int) (a1 : Option Addr) (a2 : Option Addr) (a3 : Option Addr) {w : World} {R : Ending → World → Prop} (h : f43_vc a0 a1 a2 a3 w R) : Does Try.prog 43 #[.int .u8 a0, .pointer a1, .pointer a2, .pointer a3] w R :=
  does_of_vc (ss := [.v (.int .u8 a0), .v (.pointer a1), .v (.pointer a2), .v (.pointer a3)]) f43_ann mixed call43 Try.func43 rfl rfl (show 4 ≤ Try.f43.ntmps by decide) ((f43_eq a0 a1 a2 a3 w R).symm ▸ h)
/-- Of escritoire/device.nothing (function 44): the condition. -/
def f44_vc  (w : World) (R : Ending → World → Prop) : Prop :=
  R (.returned (.tuple #[])) w
def f44_ann : Ann := { loops := [], cuts := [], flip := [], throws := [] }
theorem f44_eq  (w : World) (R : Ending → World → Prop) : vc Try.prog f44_ann (bodyOf Try.f44) (retQ Try.prog Try.f44 R) (envOf Try.f44.ntmps []) [] w = f44_vc  w R := by kernel_rfl
theorem f44_does  {w : World} {R : Ending → World → Prop} (h : f44_vc  w R) : Does Try.prog 44 #[] w R :=
  does_of_vc (ss := []) f44_ann mixed call44 Try.func44 rfl rfl (show 0 ≤ Try.f44.ntmps by decide) ((f44_eq  w R).symm ▸ h)
/-- Of (*escritoire/device.Device).last (function 45): the condition. -/
def f45_vc (a0 : Option Addr) (w : World) (R : Ending → World → Prop) : Prop :=
  ∃ b4 o4, a0 = some ⟨b4, o4, none⟩ ∧ ∃ (p6 : Option Addr) (l6 c6 : Nat), w.cell? ⟨b4, o4 + 1, none⟩ = some (.slice p6 l6 c6) ∧ ∃ (p7 : Option Addr) (l7 c7 : Nat) (w7 : World), (Builtin.append_ #[62, 62] 62 #[.slice none 0 0, .slice p6 l6 c6]).run Try.prog w = .ok (.slice p7 l7 c7) w7 ∧
  ∃ b8 o8, a0 = some ⟨b8, o8, none⟩ ∧ CanStore w7 b8 o8 ∧ ∀ ws, Stored w7 b8 o8 (.slice p7 l7 c7) ws →
  ∃ b11 o11, a0 = some ⟨b11, o11, none⟩ ∧ CanStore ws b11 (o11 + 2) ∧ ∀ ws_1, Stored ws b11 (o11 + 2) (.slice none 0 0) ws_1 →
  R (.returned (.tuple #[])) ws_1
def f45_ann : Ann := { loops := [], cuts := [], flip := [], throws := [] }
theorem f45_eq (a0 : Option Addr) (w : World) (R : Ending → World → Prop) : vc Try.prog f45_ann (bodyOf Try.f45) (retQ Try.prog Try.f45 R) (envOf Try.f45.ntmps [.v (.pointer a0)]) [] w = f45_vc a0 w R := by kernel_rfl
theorem f45_does (a0 : Option Addr) {w : World} {R : Ending → World → Prop} (h : f45_vc a0 w R) : Does Try.prog 45 #[.pointer a0] w R :=
  does_of_vc (ss := [.v (.pointer a0)]) f45_ann mixed call45 Try.func45 rfl rfl (show 1 ≤ Try.f45.ntmps by decide) ((f45_eq a0 w R).symm ▸ h)
/-- Of (*escritoire/device.Device).Sync$1 (function 46): the condition. -/
def f46_vc (a0 : Int) (a1 : Option Addr) (w : World) (R : Ending → World → Prop) : Prop :=
  ∃ b5 o5, a1 = some ⟨b5, o5, none⟩ ∧ ∃ (g5 : Go.Fn) (fs5 cs5 : Array Value), w.cell? ⟨b5, o5, none⟩ = some (.func g5 fs5 cs5) ∧ Does Try.prog 42 #[.int .u8 a0, .func g5 fs5 cs5] w fun e6 w6 =>
  ∃ n6 : Int, e6 = .returned (.int .i64 n6) ∧ R (.returned (.int .i64 n6)) w6
def f46_ann : Ann := { loops := [], cuts := [], flip := [], throws := [] }
theorem f46_eq (a0 : Int) (a1 : Option Addr) (w : World) (R : Ending → World → Prop) : vc Try.prog f46_ann (bodyOf Try.f46) (retQ Try.prog Try.f46 R) (envOf Try.f46.ntmps [.v (.int .u8 a0), .v (.pointer a1)]) [] w = f46_vc a0 a1 w R := by kernel_rfl
theorem f46_does (a0 : Int) (a1 : Option Addr) {w : World} {R : Ending → World → Prop} (h : f46_vc a0 a1 w R) : Does Try.prog 46 #[.int .u8 a0, .pointer a1] w R :=
  does_of_vc (ss := [.v (.int .u8 a0), .v (.pointer a1)]) f46_ann mixed call46 Try.func46 rfl rfl (show 2 ≤ Try.f46.ntmps by decide) ((f46_eq a0 a1 w R).symm ▸ h)
/-- Of escritoire/escritoireref1.Copy (function 47): the condition. -/
def f47_vc (p0 : Option Addr) (l0 c0 : Nat) (w : World) (R : Ending → World → Prop) : Prop :=
  ∃ I3 : Option Addr → Nat → Nat → Int → Nat → World → Prop, (∃ nl3, I3 none 0 0 0 nl3 w) ∧ ∀ (p3 : Option Addr) (l3 c3 : Nat), ∀ x4 : Int, ∀ (nl3 : Nat) (wl3 : World), I3 p3 l3 c3 x4 nl3 wl3 →
  Br (decide (x4 < ((l0 : Int))))
  (((0 : Int) ≤ x4 ∧ x4 < (l0 : Int)) ∧ ∃ b14 o14, p0 = some ⟨b14, o14, none⟩ ∧ ∃ n15 : Int, wl3.cell? ⟨b14, o14 + (x4).toNat, none⟩ = some (.int .u8 n15) ∧ ∀ b16 w16, NewBlk wl3 b16 [.int .u8 n15] 5 w16 →
  ∃ (p17 : Option Addr) (l17 c17 : Nat) (w17 : World), (Builtin.append_ #[22, 22] 22 #[.slice p3 l3 c3, .slice (some ⟨b16, 0, none⟩) 1 1]).run Try.prog w16 = .ok (.slice p17 l17 c17) w17 ∧
  InK .i64 (x4 + 1) ∧ ∃ ml3, ml3 < nl3 ∧ I3 p17 l17 c17 (x4 + 1) ml3 w17)
  (R (.returned (.slice p3 l3 c3)) wl3)
def f47_ann : Ann := { loops := [(3, [(3, .slice), (4, .int .i64)])], cuts := [], flip := [], throws := [] }
theorem f47_eq (p0 : Option Addr) (l0 c0 : Nat) (w : World) (R : Ending → World → Prop) : vc Try.prog f47_ann (bodyOf Try.f47) (retQ Try.prog Try.f47 R) (envOf Try.f47.ntmps [.v (.slice p0 l0 c0)]) [] w = f47_vc p0 l0 c0 w R := by kernel_rfl
theorem f47_does (p0 : Option Addr) (l0 c0 : Nat) {w : World} {R : Ending → World → Prop} (h : f47_vc p0 l0 c0 w R) : Does Try.prog 47 #[.slice p0 l0 c0] w R :=
  does_of_vc (ss := [.v (.slice p0 l0 c0)]) f47_ann mixed call47 Try.func47 rfl rfl (show 1 ≤ Try.f47.ntmps by decide) ((f47_eq p0 l0 c0 w R).symm ▸ h)
/-- Of (*escritoire/escritoireref5.Device).page (function 48): the condition. -/
def f48_vc (a0 : Option Addr) (a1 : Int) (w : World) (R : Ending → World → Prop) : Prop :=
  Br (decide (a1 ≥ 0))
  (∃ b10 o10, a0 = some ⟨b10, o10, none⟩ ∧ ∃ (p12 : Option Addr) (l12 c12 : Nat), w.cell? ⟨b10, o10 + 1, none⟩ = some (.slice p12 l12 c12) ∧ R (.returned (.bool (decide (a1 < ((l12 : Int)))))) w)
  (R (.returned (.bool false)) w)
def f48_ann : Ann := { loops := [], cuts := [], flip := [], throws := [] }
theorem f48_eq (a0 : Option Addr) (a1 : Int) (w : World) (R : Ending → World → Prop) : vc Try.prog f48_ann (bodyOf Try.f48) (retQ Try.prog Try.f48 R) (envOf Try.f48.ntmps [.v (.pointer a0), .v (.int .i64 a1)]) [] w = f48_vc a0 a1 w R := by kernel_rfl
theorem f48_does (a0 : Option Addr) (a1 : Int) {w : World} {R : Ending → World → Prop} (h : f48_vc a0 a1 w R) : Does Try.prog 48 #[.pointer a0, .int .i64 a1] w R :=
  does_of_vc (ss := [.v (.pointer a0), .v (.int .i64 a1)]) f48_ann mixed call48 Try.func48 rfl rfl (show 2 ≤ Try.f48.ntmps by decide) ((f48_eq a0 a1 w R).symm ▸ h)
/-- Of (*escritoire/escritoireref5.Device).op (function 49): the condition. -/
def f49_vc (a0 : Option Addr) (w : World) (R : Ending → World → Prop) : Prop :=
  ∃ b6 o6, a0 = some ⟨b6, o6, none⟩ ∧ ∃ n8 : Int, w.cell? ⟨b6, o6 + 5, none⟩ = some (.int .i64 n8) ∧ InK .i64 (n8 + 1) ∧ ∃ b10 o10, a0 = some ⟨b10, o10, none⟩ ∧ CanStore w b10 (o10 + 5) ∧ ∀ ws, Stored w b10 (o10 + 5) (.int .i64 (n8 + 1)) ws →
  ∃ b13 o13, a0 = some ⟨b13, o13, none⟩ ∧ ∃ n15 : Int, ws.cell? ⟨b13, o13 + 4, none⟩ = some (.int .i64 n15) ∧ Br (n15 == 0)
  (∃ b18 o18, a0 = some ⟨b18, o18, none⟩ ∧ CanStore ws b18 (o18 + 6) ∧ ∀ ws_1, Stored ws b18 (o18 + 6) (.bool true) ws_1 →
  R (.returned (.tuple #[.bool true, .int .i64 0])) ws_1)
  (∃ b21 o21, a0 = some ⟨b21, o21, none⟩ ∧ ∃ n23 : Int, ws.cell? ⟨b21, o21 + 4, none⟩ = some (.int .i64 n23) ∧ Br (decide (n23 > 0))
  (∃ b26 o26, a0 = some ⟨b26, o26, none⟩ ∧ ∃ n28 : Int, ws.cell? ⟨b26, o26 + 4, none⟩ = some (.int .i64 n28) ∧ InK .i64 (n28 - 1) ∧ ∃ b30 o30, a0 = some ⟨b30, o30, none⟩ ∧ CanStore ws b30 (o30 + 4) ∧ ∀ ws_2, Stored ws b30 (o30 + 4) (.int .i64 (n28 - 1)) ws_2 →
  ∃ b33 o33, a0 = some ⟨b33, o33, none⟩ ∧ ∃ (p35 : Option Addr) (l35 c35 : Nat), ws_2.cell? ⟨b33, o33 + 3, none⟩ = some (.slice p35 l35 c35) ∧ Br (((l35 : Int)) == 0)
  (R (.returned (.tuple #[.bool false, .int .i64 0])) ws_2)
  (∃ b39 o39, a0 = some ⟨b39, o39, none⟩ ∧ ∃ (p41 : Option Addr) (l41 c41 : Nat), ws_2.cell? ⟨b39, o39 + 3, none⟩ = some (.slice p41 l41 c41) ∧ ((0 : Int) ≤ 0 ∧ 0 < (l41 : Int)) ∧ ∃ b42 o42, p41 = some ⟨b42, o42, none⟩ ∧ ∃ n43 : Int, ws_2.cell? ⟨b42, o42 + (0 : Int).toNat, none⟩ = some (.int .u8 n43) ∧ (3 : Int) ≠ 0 ∧ InK .i64 (n43.tmod 3) ∧ ∃ b48 o48, a0 = some ⟨b48, o48, none⟩ ∧ ∃ (p50 : Option Addr) (l50 c50 : Nat), ws_2.cell? ⟨b48, o48 + 3, none⟩ = some (.slice p50 l50 c50) ∧ ((0 : Int) ≤ 1 ∧ 1 ≤ (l50 : Int)) ∧ ∃ b52 o52, a0 = some ⟨b52, o52, none⟩ ∧ CanStore ws_2 b52 (o52 + 3) ∧ ∀ ws_3, Stored ws_2 b52 (o52 + 3) (.slice (subp p50 ((1 : Int).toNat) c50 1) (l50 - ((1 : Int).toNat)) (c50 - ((1 : Int).toNat))) ws_3 →
  R (.returned (.tuple #[.bool false, .int .i64 (n43.tmod 3)])) ws_3))
  (∃ b33_1 o33_1, a0 = some ⟨b33_1, o33_1, none⟩ ∧ ∃ (p35_1 : Option Addr) (l35_1 c35_1 : Nat), ws.cell? ⟨b33_1, o33_1 + 3, none⟩ = some (.slice p35_1 l35_1 c35_1) ∧ Br (((l35_1 : Int)) == 0)
  (R (.returned (.tuple #[.bool false, .int .i64 0])) ws)
  (∃ b39_1 o39_1, a0 = some ⟨b39_1, o39_1, none⟩ ∧ ∃ (p41_1 : Option Addr) (l41_1 c41_1 : Nat), ws.cell? ⟨b39_1, o39_1 + 3, none⟩ = some (.slice p41_1 l41_1 c41_1) ∧ ((0 : Int) ≤ 0 ∧ 0 < (l41_1 : Int)) ∧ ∃ b42_1 o42_1, p41_1 = some ⟨b42_1, o42_1, none⟩ ∧ ∃ n43_1 : Int, ws.cell? ⟨b42_1, o42_1 + (0 : Int).toNat, none⟩ = some (.int .u8 n43_1) ∧ (3 : Int) ≠ 0 ∧ InK .i64 (n43_1.tmod 3) ∧ ∃ b48_1 o48_1, a0 = some ⟨b48_1, o48_1, none⟩ ∧ ∃ (p50_1 : Option Addr) (l50_1 c50_1 : Nat), ws.cell? ⟨b48_1, o48_1 + 3, none⟩ = some (.slice p50_1 l50_1 c50_1) ∧ ((0 : Int) ≤ 1 ∧ 1 ≤ (l50_1 : Int)) ∧ ∃ b52_1 o52_1, a0 = some ⟨b52_1, o52_1, none⟩ ∧ CanStore ws b52_1 (o52_1 + 3) ∧ ∀ ws_4, Stored ws b52_1 (o52_1 + 3) (.slice (subp p50_1 ((1 : Int).toNat) c50_1 1) (l50_1 - ((1 : Int).toNat)) (c50_1 - ((1 : Int).toNat))) ws_4 →
  R (.returned (.tuple #[.bool false, .int .i64 (n43_1.tmod 3)])) ws_4)))
def f49_ann : Ann := { loops := [], cuts := [], flip := [], throws := [] }
theorem f49_eq (a0 : Option Addr) (w : World) (R : Ending → World → Prop) : vc Try.prog f49_ann (bodyOf Try.f49) (retQ Try.prog Try.f49 R) (envOf Try.f49.ntmps [.v (.pointer a0)]) [] w = f49_vc a0 w R := by kernel_rfl
theorem f49_does (a0 : Option Addr) {w : World} {R : Ending → World → Prop} (h : f49_vc a0 w R) : Does Try.prog 49 #[.pointer a0] w R :=
  does_of_vc (ss := [.v (.pointer a0)]) f49_ann mixed call49 Try.func49 rfl rfl (show 1 ≤ Try.f49.ntmps by decide) ((f49_eq a0 w R).symm ▸ h)
end Go.Proofs.Ytiblbjagfiigdaa
