/-
  Of each function of the code: its verification condition, and that it suffices.
-/
import Derived.Test.YtbnjlnbmdkbpkaaVcDoes
import Derived.Test.YtbnjlnbmdkbpkaaProg
set_option maxRecDepth 100000
namespace Go.Proofs.Ytbnjlnbmdkbpkaa
open Go.RowKit Go.Vc
def bodyOf (fn : Func) : Code := match fn.body with | some c => c | none => .skip
theorem mixed : Try.prog.follows .mixedOrders = true := by kernel_rfl
theorem call3 : callableB Try.prog 3 = true := by kernel_rfl
theorem call4 : callableB Try.prog 4 = true := by kernel_rfl
theorem call5 : callableB Try.prog 5 = true := by kernel_rfl
theorem call8 : callableB Try.prog 8 = true := by kernel_rfl
theorem call9 : callableB Try.prog 9 = true := by kernel_rfl
theorem call10 : callableB Try.prog 10 = true := by kernel_rfl
theorem call11 : callableB Try.prog 11 = true := by kernel_rfl
theorem call12 : callableB Try.prog 12 = true := by kernel_rfl
theorem call13 : callableB Try.prog 13 = true := by kernel_rfl
theorem call14 : callableB Try.prog 14 = true := by kernel_rfl
theorem call15 : callableB Try.prog 15 = true := by kernel_rfl
theorem call16 : callableB Try.prog 16 = true := by kernel_rfl
theorem call17 : callableB Try.prog 17 = true := by kernel_rfl
theorem call18 : callableB Try.prog 18 = true := by kernel_rfl
theorem call19 : callableB Try.prog 19 = true := by kernel_rfl
theorem call20 : callableB Try.prog 20 = true := by kernel_rfl
theorem call21 : callableB Try.prog 21 = true := by kernel_rfl
theorem call22 : callableB Try.prog 22 = true := by kernel_rfl
theorem call23 : callableB Try.prog 23 = true := by kernel_rfl
theorem call24 : callableB Try.prog 24 = true := by kernel_rfl
theorem call25 : callableB Try.prog 25 = true := by kernel_rfl
theorem call26 : callableB Try.prog 26 = true := by kernel_rfl
theorem call27 : callableB Try.prog 27 = true := by kernel_rfl
theorem call28 : callableB Try.prog 28 = true := by kernel_rfl
theorem call29 : callableB Try.prog 29 = true := by kernel_rfl
theorem call30 : callableB Try.prog 30 = true := by kernel_rfl
theorem call31 : callableB Try.prog 31 = true := by kernel_rfl
theorem call32 : callableB Try.prog 32 = true := by kernel_rfl
theorem call33 : callableB Try.prog 33 = true := by kernel_rfl
theorem call34 : callableB Try.prog 34 = true := by kernel_rfl
theorem call35 : callableB Try.prog 35 = true := by kernel_rfl
theorem call36 : callableB Try.prog 36 = true := by kernel_rfl
theorem call37 : callableB Try.prog 37 = true := by kernel_rfl
theorem call38 : callableB Try.prog 38 = true := by kernel_rfl
theorem call39 : callableB Try.prog 39 = true := by kernel_rfl
theorem call40 : callableB Try.prog 40 = true := by kernel_rfl
theorem call41 : callableB Try.prog 41 = true := by kernel_rfl
theorem call42 : callableB Try.prog 42 = true := by kernel_rfl
theorem call43 : callableB Try.prog 43 = true := by kernel_rfl
theorem call44 : callableB Try.prog 44 = true := by kernel_rfl
theorem call45 : callableB Try.prog 45 = true := by kernel_rfl
theorem call46 : callableB Try.prog 46 = true := by kernel_rfl
theorem call47 : callableB Try.prog 47 = true := by kernel_rfl
theorem call48 : callableB Try.prog 48 = true := by kernel_rfl
theorem call49 : callableB Try.prog 49 = true := by kernel_rfl
theorem call50 : callableB Try.prog 50 = true := by kernel_rfl
theorem call51 : callableB Try.prog 51 = true := by kernel_rfl
theorem call52 : callableB Try.prog 52 = true := by kernel_rfl
theorem call53 : callableB Try.prog 53 = true := by kernel_rfl
theorem call54 : callableB Try.prog 54 = true := by kernel_rfl
theorem call55 : callableB Try.prog 55 = true := by kernel_rfl
theorem call56 : callableB Try.prog 56 = true := by kernel_rfl
theorem call57 : callableB Try.prog 57 = true := by kernel_rfl
theorem call58 : callableB Try.prog 58 = true := by kernel_rfl
theorem call59 : callableB Try.prog 59 = true := by kernel_rfl
theorem call60 : callableB Try.prog 60 = true := by kernel_rfl
/-- Of escritoire/escritoirelaw19.HistoryLoads (function 3): the condition. -/
def f3_vc (p0 : Option Addr) (l0 c0 : Nat) (a1 : Int) (w : World) (R : Ending → World → Prop) : Prop :=
  Does Try.prog 8 #[] w fun e11 w11 =>
  ∃ b11 : Bool, e11 = .returned (.bool b11) ∧ Br (!b11)
  (R (.returned (.bool false)) w11)
  (Does Try.prog 9 #[.slice p0 l0 c0] w11 fun e14 w14 =>
  ∃ b14 : Bool, e14 = .returned (.bool b14) ∧ Br (!b14)
  (R (.returned (.bool true)) w14)
  (Does Try.prog 10 #[.slice p0 l0 c0, .int .i64 a1] w14 fun e19 w19 =>
  ∃ p19 : Option Addr, ∃ n19 : Int, e19 = .returned (.tuple #[.pointer p19, .int .i64 n19]) ∧ Does Try.prog 11 #[.slice p0 l0 c0, .int .i64 a1] w19 fun e25 w25 =>
  ∃ p25 : Option Addr, ∃ n25 : Int, e25 = .returned (.tuple #[.pointer p25, .int .i64 n25]) ∧ Br (n19 != n25)
  (R (.returned (.bool false)) w25)
  (Br (n25 != 0)
  (R (.returned (.bool p19.isNone)) w25)
  (Does Try.prog 12 #[.pointer p19] w25 fun e37 w37 =>
  ∃ (p37 : Option Addr) (l37 c37 : Nat), e37 = .returned (.slice p37 l37 c37) ∧ Does Try.prog 13 #[.pointer p19] w37 fun e39 w39 =>
  ∃ n39 : Int, e39 = .returned (.int .i64 n39) ∧ Does Try.prog 10 #[.slice p37 l37 c37, .int .i64 n39] w39 fun e40 w40 =>
  ∃ p40 : Option Addr, ∃ n40 : Int, e40 = .returned (.tuple #[.pointer p40, .int .i64 n40]) ∧ ∀ wd12, Drew w40 wd12 →
  ∃ S12 : World → Prop, S12 wd12 ∧ Br (n40 == 0)
  (Does Try.prog 12 #[.pointer p19] wd12 fun e47 w47 =>
  ∃ (p47 : Option Addr) (l47 c47 : Nat), e47 = .returned (.slice p47 l47 c47) ∧ S12 w47 ∧ ∃ b49 o49, p25 = some ⟨b49, o49, none⟩ ∧ ∃ (p51 : Option Addr) (l51 c51 : Nat), (∀ w, S12 w → w.cell? ⟨b49, o49, none⟩ = some (.slice p51 l51 c51)) ∧ Does Try.prog 14 #[.slice p47 l47 c47, .slice p51 l51 c51] w47 fun e52 w52 =>
  ∃ b52 : Bool, e52 = .returned (.bool b52) ∧ S12 w52 ∧ Br b52
  (Does Try.prog 13 #[.pointer p19] w52 fun e56 w56 =>
  ∃ n56 : Int, e56 = .returned (.int .i64 n56) ∧ S12 w56 ∧ ∃ b58 o58, p25 = some ⟨b58, o58, none⟩ ∧ ∃ n60 : Int, (∀ w, S12 w → w.cell? ⟨b58, o58 + 1, none⟩ = some (.int .i64 n60)) ∧ Br (n56 == n60)
  (Does Try.prog 12 #[.pointer p40] w56 fun e65 w65 =>
  ∃ (p65 : Option Addr) (l65 c65 : Nat), e65 = .returned (.slice p65 l65 c65) ∧ Does Try.prog 14 #[.slice p65 l65 c65, .slice p0 l0 c0] w65 fun e67 w67 =>
  ∃ b67 : Bool, e67 = .returned (.bool b67) ∧ Br b67
  (Does Try.prog 13 #[.pointer p40] w67 fun e71 w71 =>
  ∃ n71 : Int, e71 = .returned (.int .i64 n71) ∧ R (.returned (.bool (n71 == a1))) w71)
  (R (.returned (.bool false)) w67))
  (R (.returned (.bool false)) w56))
  (R (.returned (.bool false)) w52))
  (R (.returned (.bool false)) wd12)))))
def f3_ann : Ann := { loops := [], cuts := [], flip := [], throws := [] }
theorem f3_eq (p0 : Option Addr) (l0 c0 : Nat) (a1 : Int) (w : World) (R : Ending → World → Prop) : vc Try.prog f3_ann (bodyOf Try.f3) (retQ Try.prog Try.f3 R) (envOf Try.f3.ntmps [.v (.slice p0 l0 c0), .v (.int .i64 a1)]) [] w = f3_vc p0 l0 c0 a1 w R := by kernel_rfl
theorem f3_does (p0 : Option Addr) (l0 c0 : Nat) (a1 : Int) {w : World} {R : Ending → World → Prop} (h : f3_vc p0 l0 c0 a1 w R) : Does Try.prog 3 #[.slice p0 l0 c0, .int .i64 a1] w R :=
  does_of_vc (ss := [.v (.slice p0 l0 c0), .v (.int .i64 a1)]) f3_ann mixed call3 Try.func3 rfl rfl (show 2 ≤ Try.f3.ntmps by decide) ((f3_eq p0 l0 c0 a1 w R).symm ▸ h)
/-- Of escritoire/escritoirelaw19.HistoryKnown (function 4): the condition. -/
def f4_vc  (w : World) (R : Ending → World → Prop) : Prop :=
  Does Try.prog 8 #[] w fun e13 w13 =>
  ∃ b13 : Bool, e13 = .returned (.bool b13) ∧ Br (!b13)
  (R (.returned (.bool false)) w13)
  (Does Try.prog 15 #[] w13 fun e15 w15 =>
  ∃ p15 : Option Addr, e15 = .returned (.pointer p15) ∧ Br p15.isNone
  (R (.returned (.bool false)) w15)
  (Does Try.prog 17 #[.int .i64 1] w15 fun e19 w19 =>
  ∃ n19 : Int, ∃ (p19 : Option Addr) (l19 c19 : Nat), ∃ (p19_1 : Option Addr) (l19_1 c19_1 : Nat), e19 = .returned (.agg #[.int .i64 n19, .slice p19 l19 c19, .slice p19_1 l19_1 c19_1]) ∧ ∀ b20 w20, NewBlk w19 b20 [.int .i64 n19, .slice p19 l19 c19, .slice p19_1 l19_1 c19_1] 43 w20 →
  Does Try.prog 16 #[.pointer p15, .slice (some ⟨b20, 0, none⟩) 1 1, .int .i64 0] w20 fun e21 w21 =>
  ∃ n21 : Int, ∃ n21_1 : Int, e21 = .returned (.tuple #[.int .i64 n21, .int .i64 n21_1]) ∧ Does Try.prog 17 #[.int .i64 2] w21 fun e23 w23 =>
  ∃ n23 : Int, ∃ (p23 : Option Addr) (l23 c23 : Nat), ∃ (p23_1 : Option Addr) (l23_1 c23_1 : Nat), e23 = .returned (.agg #[.int .i64 n23, .slice p23 l23 c23, .slice p23_1 l23_1 c23_1]) ∧ ∀ b24 w24, NewBlk w23 b24 [.int .i64 n23, .slice p23 l23 c23, .slice p23_1 l23_1 c23_1] 43 w24 →
  Does Try.prog 16 #[.pointer p15, .slice (some ⟨b24, 0, none⟩) 1 1, .int .i64 1] w24 fun e25 w25 =>
  ∃ n25 : Int, ∃ n25_1 : Int, e25 = .returned (.tuple #[.int .i64 n25, .int .i64 n25_1]) ∧ Does Try.prog 18 #[.pointer p15] w25 fun e27 w27 =>
  ∃ (p27 : Option Addr) (l27 c27 : Nat), ∃ n27 : Int, ∃ b27 : Bool, e27 = .returned (.tuple #[.slice p27 l27 c27, .int .i64 n27, .bool b27]) ∧ Does Try.prog 17 #[.int .i64 3] w27 fun e30 w30 =>
  ∃ n30 : Int, ∃ (p30 : Option Addr) (l30 c30 : Nat), ∃ (p30_1 : Option Addr) (l30_1 c30_1 : Nat), e30 = .returned (.agg #[.int .i64 n30, .slice p30 l30 c30, .slice p30_1 l30_1 c30_1]) ∧ ∀ b31 w31, NewBlk w30 b31 [.int .i64 n30, .slice p30 l30 c30, .slice p30_1 l30_1 c30_1] 43 w31 →
  Does Try.prog 16 #[.pointer p15, .slice (some ⟨b31, 0, none⟩) 1 1, .int .i64 1] w31 fun e32 w32 =>
  ∃ n32 : Int, ∃ n32_1 : Int, e32 = .returned (.tuple #[.int .i64 n32, .int .i64 n32_1]) ∧ Does Try.prog 19 #[.pointer p15, .int .i64 1] w32 fun e36 w36 =>
  ∃ (p36 : Option Addr) (l36 c36 : Nat), e36 = .returned (.slice p36 l36 c36) ∧ Does Try.prog 18 #[.pointer p15] w36 fun e38 w38 =>
  ∃ (p38 : Option Addr) (l38 c38 : Nat), ∃ n38 : Int, ∃ b38 : Bool, e38 = .returned (.tuple #[.slice p38 l38 c38, .int .i64 n38, .bool b38]) ∧ Does Try.prog 20 #[.pointer p15] w38 fun e40 w40 =>
  ∃ (p40 : Option Addr) (l40 c40 : Nat), ∃ n40 : Int, ∃ b40 : Bool, e40 = .returned (.tuple #[.slice p40 l40 c40, .int .i64 n40, .bool b40]) ∧ Does Try.prog 21 #[.pointer p15, .int .i64 2] w40 fun e43 w43 =>
  ∃ (p43 : Option Addr) (l43 c43 : Nat), ∃ n43 : Int, ∃ b43 : Bool, e43 = .returned (.tuple #[.slice p43 l43 c43, .int .i64 n43, .bool b43]) ∧ Does Try.prog 21 #[.pointer p15, .int .i64 9] w43 fun e49 w49 =>
  ∃ (p49 : Option Addr) (l49 c49 : Nat), ∃ n49 : Int, ∃ b49 : Bool, e49 = .returned (.tuple #[.slice p49 l49 c49, .int .i64 n49, .bool b49]) ∧ Does Try.prog 16 #[.pointer p15, .slice none 0 0, .int .i64 0] w49 fun e55 w55 =>
  ∃ n55 : Int, ∃ n55_1 : Int, e55 = .returned (.tuple #[.int .i64 n55, .int .i64 n55_1]) ∧ Br (n32 == 3)
  (Br (((l36 : Int)) == 2)
  (((0 : Int) ≤ 0 ∧ 0 < (l36 : Int)) ∧ ∃ b67 o67, p36 = some ⟨b67, o67, none⟩ ∧ ∃ n68 : Int, w55.cell? ⟨b67, o67 + (0 : Int).toNat, none⟩ = some (.int .i64 n68) ∧ Br (n68 == 2)
  (((0 : Int) ≤ 1 ∧ 1 < (l36 : Int)) ∧ ∃ b73 o73, p36 = some ⟨b73, o73, none⟩ ∧ ∃ n74 : Int, w55.cell? ⟨b73, o73 + (1 : Int).toNat, none⟩ = some (.int .i64 n74) ∧ Br (n74 == 3)
  (Br b43
  (Br (((l43 : Int)) == 2)
  (((0 : Int) ≤ 0 ∧ 0 < (l43 : Int)) ∧ ∃ b87 o87, p43 = some ⟨b87, o87, none⟩ ∧ ∃ (p89 : Option Addr) (l89 c89 : Nat), w55.cell? ⟨b87, o87 + (0 : Int).toNat * 3 + 1, none⟩ = some (.slice p89 l89 c89) ∧ Br (((l89 : Int)) == 1)
  (((0 : Int) ≤ 1 ∧ 1 < (l43 : Int)) ∧ ∃ b95 o95, p43 = some ⟨b95, o95, none⟩ ∧ ∃ (p97 : Option Addr) (l97 c97 : Nat), w55.cell? ⟨b95, o95 + (1 : Int).toNat * 3 + 2, none⟩ = some (.slice p97 l97 c97) ∧ Br (((l97 : Int)) == 1)
  (Br (!b49)
  (R (.returned (.bool (n55_1 == 1))) w55)
  (R (.returned (.bool false)) w55))
  (R (.returned (.bool false)) w55))
  (R (.returned (.bool false)) w55))
  (R (.returned (.bool false)) w55))
  (R (.returned (.bool false)) w55))
  (R (.returned (.bool false)) w55))
  (R (.returned (.bool false)) w55))
  (R (.returned (.bool false)) w55))
  (R (.returned (.bool false)) w55)))
def f4_ann : Ann := { loops := [], cuts := [], flip := [], throws := [] }
theorem f4_eq  (w : World) (R : Ending → World → Prop) : vc Try.prog f4_ann (bodyOf Try.f4) (retQ Try.prog Try.f4 R) (envOf Try.f4.ntmps []) [] w = f4_vc  w R := by kernel_rfl
theorem f4_does  {w : World} {R : Ending → World → Prop} (h : f4_vc  w R) : Does Try.prog 4 #[] w R :=
  does_of_vc (ss := []) f4_ann mixed call4 Try.func4 rfl rfl (show 0 ≤ Try.f4.ntmps by decide) ((f4_eq  w R).symm ▸ h)
/-- Of escritoire/escritoirelaw19.HistoryShort (function 5): the condition. -/
def f5_vc (p0 : Option Addr) (l0 c0 : Nat) (a1 : Int) (w : World) (R : Ending → World → Prop) : Prop :=
  Does Try.prog 8 #[] w fun e22 w22 =>
  ∃ b22 : Bool, e22 = .returned (.bool b22) ∧ Br (!b22)
  (R (.returned (.bool false)) w22)
  (Does Try.prog 22 #[.slice p0 l0 c0, .int .i64 60] w22 fun e25 w25 =>
  ∃ b25 : Bool, e25 = .returned (.bool b25) ∧ Br (!b25)
  (R (.returned (.bool true)) w25)
  (Does Try.prog 15 #[] w25 fun e27 w27 =>
  ∃ p27 : Option Addr, e27 = .returned (.pointer p27) ∧ Br p27.isNone
  (R (.returned (.bool false)) w27)
  (∃ I9 : Int → Nat → World → Prop, (∃ nl9, I9 0 nl9 w27) ∧ ∀ x6 : Int, ∀ (nl9 : Nat) (wl9 : World), I9 x6 nl9 wl9 →
  Br (decide (x6 < ((l0 : Int))))
  (((0 : Int) ≤ x6 ∧ x6 < (l0 : Int)) ∧ ∃ b38 o38, p0 = some ⟨b38, o38, none⟩ ∧ ∃ n40 : Int, wl9.cell? ⟨b38, o38 + (x6).toNat * 4, none⟩ = some (.int .i64 n40) ∧ Br (decide (n40 ≤ 4))
  (((0 : Int) ≤ x6 ∧ x6 < (l0 : Int)) ∧ ∃ b45 o45, p0 = some ⟨b45, o45, none⟩ ∧ ∃ (p47 : Option Addr) (l47 c47 : Nat), wl9.cell? ⟨b45, o45 + (x6).toNat * 4 + 3, none⟩ = some (.slice p47 l47 c47) ∧ Does Try.prog 16 #[.pointer p27, .slice p47 l47 c47, .int .i64 0] wl9 fun e48 w48 =>
  ∃ n48 : Int, ∃ n48_1 : Int, e48 = .returned (.tuple #[.int .i64 n48, .int .i64 n48_1]) ∧ InK .i64 (x6 + 1) ∧ ∃ ml9, ml9 < nl9 ∧ I9 (x6 + 1) ml9 w48)
  (((0 : Int) ≤ x6 ∧ x6 < (l0 : Int)) ∧ ∃ b52 o52, p0 = some ⟨b52, o52, none⟩ ∧ ∃ n54 : Int, wl9.cell? ⟨b52, o52 + (x6).toNat * 4 + 1, none⟩ = some (.int .i64 n54) ∧ Does Try.prog 21 #[.pointer p27, .int .i64 (bits .and .i64 n54 15)] wl9 fun e56 w56 =>
  ∃ (p56 : Option Addr) (l56 c56 : Nat), ∃ n56 : Int, ∃ b56 : Bool, e56 = .returned (.tuple #[.slice p56 l56 c56, .int .i64 n56, .bool b56]) ∧ InK .i64 (x6 + 1) ∧ ∃ ml9, ml9 < nl9 ∧ I9 (x6 + 1) ml9 w56))
  (Does Try.prog 13 #[.pointer p27] wl9 fun e58 w58 =>
  ∃ n58 : Int, e58 = .returned (.int .i64 n58) ∧ Does Try.prog 21 #[.pointer p27, .int .i64 n58] w58 fun e62 w62 =>
  ∃ (p62 : Option Addr) (l62 c62 : Nat), ∃ n62 : Int, ∃ b62 : Bool, e62 = .returned (.tuple #[.slice p62 l62 c62, .int .i64 n62, .bool b62]) ∧ Br (!b62)
  (R (.returned (.bool false)) w62)
  (Br (((l62 : Int)) != 0)
  (R (.returned (.bool false)) w62)
  (Br (n62 != 0)
  (R (.returned (.bool false)) w62)
  (Does Try.prog 13 #[.pointer p27] w62 fun e79 w79 =>
  ∃ n79 : Int, e79 = .returned (.int .i64 n79) ∧ Br (n79 != n58)
  (R (.returned (.bool false)) w79)
  (Does Try.prog 23 #[.pointer p27] w79 fun e86 w86 =>
  ∃ n86 : Int, e86 = .returned (.int .i64 n86) ∧ (n86 : Int) ≠ 0 ∧ Does Try.prog 21 #[.pointer p27, .int .i64 ((bits .and .i64 a1 255).tmod n86)] w86 fun e91 w91 =>
  ∃ (p91 : Option Addr) (l91 c91 : Nat), ∃ n91 : Int, ∃ b91 : Bool, e91 = .returned (.tuple #[.slice p91 l91 c91, .int .i64 n91, .bool b91]) ∧ Does Try.prog 21 #[.pointer p27, .int .i64 n58] w91 fun e98 w98 =>
  ∃ (p98 : Option Addr) (l98 c98 : Nat), ∃ n98 : Int, ∃ b98 : Bool, e98 = .returned (.tuple #[.slice p98 l98 c98, .int .i64 n98, .bool b98]) ∧ Br (!b91)
  (R (.returned (.bool false)) w98)
  (Br (!b98)
  (R (.returned (.bool false)) w98)
  (Does Try.prog 13 #[.pointer p27] w98 fun e110 w110 =>
  ∃ n110 : Int, e110 = .returned (.int .i64 n110) ∧ Br (n110 != n58)
  (R (.returned (.bool false)) w110)
  (Does Try.prog 25 #[.slice p91 l91 c91] w110 fun e116 w116 =>
  ∃ (p116 : Option Addr) (l116 c116 : Nat), e116 = .returned (.slice p116 l116 c116) ∧ Does Try.prog 24 #[.slice p116 l116 c116, .slice p98 l98 c98] w116 fun e118 w118 =>
  ∃ b118 : Bool, e118 = .returned (.bool b118) ∧ Br (!b118)
  (R (.returned (.bool false)) w118)
  (∃ I25 : Int → Int → Nat → World → Prop, (∃ nl25, I25 0 0 nl25 w118) ∧ ∀ x16 : Int, ∀ x17 : Int, ∀ (nl25 : Nat) (wl25 : World), I25 x16 x17 nl25 wl25 →
  Does Try.prog 23 #[.pointer p27] wl25 fun e123 w123 =>
  ∃ n123 : Int, e123 = .returned (.int .i64 n123) ∧ Br (decide (x17 < n123))
  (Does Try.prog 19 #[.pointer p27, .int .i64 x17] w123 fun e129 w129 =>
  ∃ (p129 : Option Addr) (l129 c129 : Nat), e129 = .returned (.slice p129 l129 c129) ∧ InK .i64 (x16 + ((l129 : Int))) ∧ ∃ I30 : Int → Nat → World → Prop, (∃ nl30, I30 0 nl30 w129) ∧ ∀ x19 : Int, ∀ (nl30 : Nat) (wl30 : World), I30 x19 nl30 wl30 →
  Br (decide (x19 < ((l129 : Int))))
  (((0 : Int) ≤ x19 ∧ x19 < (l129 : Int)) ∧ ∃ b144 o144, p129 = some ⟨b144, o144, none⟩ ∧ ∃ n145 : Int, wl30.cell? ⟨b144, o144 + (x19).toNat, none⟩ = some (.int .i64 n145) ∧ Does Try.prog 26 #[.pointer p27, .int .i64 n145] wl30 fun e146 w146 =>
  ∃ n146 : Int, ∃ (p146 : Option Addr) (l146 c146 : Nat), ∃ n146_1 : Int, ∃ b146 : Bool, e146 = .returned (.tuple #[.agg #[.int .i64 n146, .slice p146 l146 c146, .int .i64 n146_1], .bool b146]) ∧ ∀ b20 w20, NewBlk w146 b20 [.int .i64 0, .slice none 0 0, .int .i64 0] 58 w20 →
  CanStore w20 b20 0 ∧ ∀ ws, Stored w20 b20 0 (.int .i64 n146) ws →
  CanStore ws b20 1 ∧ ∀ ws_1, Stored ws b20 1 (.slice p146 l146 c146) ws_1 →
  CanStore ws_1 b20 2 ∧ ∀ ws_2, Stored ws_1 b20 2 (.int .i64 n146_1) ws_2 →
  ∀ wd33, Drew ws_2 wd33 →
  Br (!b146)
  (R (.returned (.bool false)) wd33)
  (∃ n153 : Int, wd33.cell? ⟨b20, 0, none⟩ = some (.int .i64 n153) ∧ Br (n153 != x17)
  (R (.returned (.bool false)) wd33)
  (Br (decide (x19 > 0))
  (((0 : Int) ≤ x19 ∧ x19 < (l129 : Int)) ∧ ∃ b163 o163, p129 = some ⟨b163, o163, none⟩ ∧ ∃ n164 : Int, wd33.cell? ⟨b163, o163 + (x19).toNat, none⟩ = some (.int .i64 n164) ∧ InK .i64 (x19 - 1) ∧ ((0 : Int) ≤ (x19 - 1) ∧ (x19 - 1) < (l129 : Int)) ∧ ∃ b168 o168, p129 = some ⟨b168, o168, none⟩ ∧ ∃ n169 : Int, wd33.cell? ⟨b168, o168 + (x19 - 1).toNat, none⟩ = some (.int .i64 n169) ∧ Br (decide (n164 ≤ n169))
  (R (.returned (.bool false)) wd33)
  (InK .i64 (x19 + 1) ∧ ∃ ml30, ml30 < nl30 ∧ I30 (x19 + 1) ml30 wd33))
  (InK .i64 (x19 + 1) ∧ ∃ ml30, ml30 < nl30 ∧ I30 (x19 + 1) ml30 wd33))))
  (InK .i64 (x17 + 1) ∧ ∃ ml25, ml25 < nl25 ∧ I25 (x16 + ((l129 : Int))) (x17 + 1) ml25 wl30))
  (Does Try.prog 23 #[.pointer p27] w123 fun e175 w175 =>
  ∃ n175 : Int, e175 = .returned (.int .i64 n175) ∧ InK .i64 (n175 - 1) ∧ R (.returned (.bool (x16 == (n175 - 1)))) w175)))))))))))))
def f5_ann : Ann := { loops := [(9, [(6, .int .i64)]), (25, [(16, .int .i64), (17, .int .i64)]), (30, [(19, .int .i64)])], cuts := [], flip := [], throws := [] }
theorem f5_eq (p0 : Option Addr) (l0 c0 : Nat) (a1 : Int) (w : World) (R : Ending → World → Prop) : vc Try.prog f5_ann (bodyOf Try.f5) (retQ Try.prog Try.f5 R) (envOf Try.f5.ntmps [.v (.slice p0 l0 c0), .v (.int .i64 a1)]) [] w = f5_vc p0 l0 c0 a1 w R := by kernel_rfl
theorem f5_does (p0 : Option Addr) (l0 c0 : Nat) (a1 : Int) {w : World} {R : Ending → World → Prop} (h : f5_vc p0 l0 c0 a1 w R) : Does Try.prog 5 #[.slice p0 l0 c0, .int .i64 a1] w R :=
  does_of_vc (ss := [.v (.slice p0 l0 c0), .v (.int .i64 a1)]) f5_ann mixed call5 Try.func5 rfl rfl (show 2 ≤ Try.f5.ntmps by decide) ((f5_eq p0 l0 c0 a1 w R).symm ▸ h)
/-- Of escritoire/escritoirelaw19.awake (function 8): the condition. -/
def f8_vc  (w : World) (R : Ending → World → Prop) : Prop :=
  Does Try.prog 15 #[] w fun e10 w10 =>
  ∃ p10 : Option Addr, e10 = .returned (.pointer p10) ∧ Br p10.isNone
  (R (.returned (.bool false)) w10)
  (Does Try.prog 17 #[.int .i64 1] w10 fun e15 w15 =>
  ∃ n15 : Int, ∃ (p15 : Option Addr) (l15 c15 : Nat), ∃ (p15_1 : Option Addr) (l15_1 c15_1 : Nat), e15 = .returned (.agg #[.int .i64 n15, .slice p15 l15 c15, .slice p15_1 l15_1 c15_1]) ∧ ∀ b16 w16, NewBlk w15 b16 [.int .i64 n15, .slice p15 l15 c15, .slice p15_1 l15_1 c15_1] 43 w16 →
  Does Try.prog 16 #[.pointer p10, .slice (some ⟨b16, 0, none⟩) 1 1, .int .i64 0] w16 fun e17 w17 =>
  ∃ n17 : Int, ∃ n17_1 : Int, e17 = .returned (.tuple #[.int .i64 n17, .int .i64 n17_1]) ∧ Does Try.prog 18 #[.pointer p10] w17 fun e22 w22 =>
  ∃ (p22 : Option Addr) (l22 c22 : Nat), ∃ n22 : Int, ∃ b22 : Bool, e22 = .returned (.tuple #[.slice p22 l22 c22, .int .i64 n22, .bool b22]) ∧ Does Try.prog 20 #[.pointer p10] w22 fun e28 w28 =>
  ∃ (p28 : Option Addr) (l28 c28 : Nat), ∃ n28 : Int, ∃ b28 : Bool, e28 = .returned (.tuple #[.slice p28 l28 c28, .int .i64 n28, .bool b28]) ∧ Br (n17_1 == 0)
  (Br (n17 == 1)
  (Br b22
  (Br (n22 == 0)
  (Br (((l22 : Int)) == 1)
  (((0 : Int) ≤ 0 ∧ 0 < (l22 : Int)) ∧ ∃ b52 o52, p22 = some ⟨b52, o52, none⟩ ∧ ∃ (p54 : Option Addr) (l54 c54 : Nat), w28.cell? ⟨b52, o52 + (0 : Int).toNat * 3 + 1, none⟩ = some (.slice p54 l54 c54) ∧ Br (((l54 : Int)) == 1)
  (Br b28
  (Br (n28 == 1)
  (Br (((l28 : Int)) == 1)
  (Does Try.prog 13 #[.pointer p10] w28 fun e72 w72 =>
  ∃ n72 : Int, e72 = .returned (.int .i64 n72) ∧ R (.returned (.bool (n72 == 1))) w72)
  (R (.returned (.bool false)) w28))
  (R (.returned (.bool false)) w28))
  (R (.returned (.bool false)) w28))
  (R (.returned (.bool false)) w28))
  (R (.returned (.bool false)) w28))
  (R (.returned (.bool false)) w28))
  (R (.returned (.bool false)) w28))
  (R (.returned (.bool false)) w28))
  (R (.returned (.bool false)) w28))
def f8_ann : Ann := { loops := [], cuts := [], flip := [], throws := [] }
theorem f8_eq  (w : World) (R : Ending → World → Prop) : vc Try.prog f8_ann (bodyOf Try.f8) (retQ Try.prog Try.f8 R) (envOf Try.f8.ntmps []) [] w = f8_vc  w R := by kernel_rfl
theorem f8_does  {w : World} {R : Ending → World → Prop} (h : f8_vc  w R) : Does Try.prog 8 #[] w R :=
  does_of_vc (ss := []) f8_ann mixed call8 Try.func8 rfl rfl (show 0 ≤ Try.f8.ntmps by decide) ((f8_eq  w R).symm ▸ h)
/-- Of escritoire/escritoirelaw19.nodes (function 9): the condition. -/
def f9_vc (p0 : Option Addr) (l0 c0 : Nat) (w : World) (R : Ending → World → Prop) : Prop :=
  Br (decide (((l0 : Int)) > 60))
  (R (.returned (.bool false)) w)
  (∃ I4 : Int → Nat → World → Prop, (∃ nl4, I4 0 nl4 w) ∧ ∀ x3 : Int, ∀ (nl4 : Nat) (wl4 : World), I4 x3 nl4 wl4 →
  Br (decide (x3 < ((l0 : Int))))
  (((0 : Int) ≤ x3 ∧ x3 < (l0 : Int)) ∧ ∃ b15 o15, p0 = some ⟨b15, o15, none⟩ ∧ ∃ (p17 : Option Addr) (l17 c17 : Nat), wl4.cell? ⟨b15, o15 + (x3).toNat * 3 + 1, none⟩ = some (.slice p17 l17 c17) ∧ Does Try.prog 38 #[.slice p17 l17 c17, .int .i64 10] wl4 fun e18 w18 =>
  ∃ b18 : Bool, e18 = .returned (.bool b18) ∧ Br (!b18)
  (R (.returned (.bool false)) w18)
  (InK .i64 (x3 + 1) ∧ ∃ ml4, ml4 < nl4 ∧ I4 (x3 + 1) ml4 w18))
  (R (.returned (.bool true)) wl4))
def f9_ann : Ann := { loops := [(4, [(3, .int .i64)])], cuts := [], flip := [], throws := [] }
theorem f9_eq (p0 : Option Addr) (l0 c0 : Nat) (w : World) (R : Ending → World → Prop) : vc Try.prog f9_ann (bodyOf Try.f9) (retQ Try.prog Try.f9 R) (envOf Try.f9.ntmps [.v (.slice p0 l0 c0)]) [] w = f9_vc p0 l0 c0 w R := by kernel_rfl
theorem f9_does (p0 : Option Addr) (l0 c0 : Nat) {w : World} {R : Ending → World → Prop} (h : f9_vc p0 l0 c0 w R) : Does Try.prog 9 #[.slice p0 l0 c0] w R :=
  does_of_vc (ss := [.v (.slice p0 l0 c0)]) f9_ann mixed call9 Try.func9 rfl rfl (show 1 ≤ Try.f9.ntmps by decide) ((f9_eq p0 l0 c0 w R).symm ▸ h)
/-- Of escritoire/history.Load (function 10): the condition. -/
def f10_vc (p0 : Option Addr) (l0 c0 : Nat) (a1 : Int) (w : World) (R : Ending → World → Prop) : Prop :=
  Br (decide (((l0 : Int)) < 1))
  (R (.returned (.tuple #[.pointer none, .int .i64 4])) w)
  (Br (decide (((l0 : Int)) > 65536))
  (R (.returned (.tuple #[.pointer none, .int .i64 4])) w)
  (Br (decide (a1 < 0))
  (R (.returned (.tuple #[.pointer none, .int .i64 4])) w)
  (Br (decide (a1 ≥ ((l0 : Int))))
  (R (.returned (.tuple #[.pointer none, .int .i64 4])) w)
  (∀ b29 w29, NewBlk w b29 [.slice none 0 0, .int .i64 a1] 74 w29 →
  ∃ I5 : Int → Nat → World → Prop, (∃ nl5, I5 0 nl5 w29) ∧ ∀ x32 : Int, ∀ (nl5 : Nat) (wl5 : World), I5 x32 nl5 wl5 →
  Br (decide (x32 < ((l0 : Int))))
  (((0 : Int) ≤ x32 ∧ x32 < (l0 : Int)) ∧ ∃ b35 o35, p0 = some ⟨b35, o35, none⟩ ∧ ∃ n36 : Int, wl5.cell? ⟨b35, o35 + (x32).toNat * 3, none⟩ = some (.int .i64 n36) ∧ ∃ (p36 : Option Addr) (l36 c36 : Nat), wl5.cell? ⟨b35, o35 + (x32).toNat * 3 + 1, none⟩ = some (.slice p36 l36 c36) ∧ ∃ n36_1 : Int, wl5.cell? ⟨b35, o35 + (x32).toNat * 3 + 2, none⟩ = some (.int .i64 n36_1) ∧ ∀ b8 w8, NewBlk wl5 b8 [.int .i64 0, .slice none 0 0, .int .i64 0] 58 w8 →
  CanStore w8 b8 0 ∧ ∀ ws, Stored w8 b8 0 (.int .i64 n36) ws →
  CanStore ws b8 1 ∧ ∀ ws_1, Stored ws b8 1 (.slice p36 l36 c36) ws_1 →
  CanStore ws_1 b8 2 ∧ ∀ ws_2, Stored ws_1 b8 2 (.int .i64 n36_1) ws_2 →
  ∃ n38 : Int, ws_2.cell? ⟨b8, 0, none⟩ = some (.int .i64 n38) ∧ ∃ (p38 : Option Addr) (l38 c38 : Nat), ws_2.cell? ⟨b8, 1, none⟩ = some (.slice p38 l38 c38) ∧ ∃ n38_1 : Int, ws_2.cell? ⟨b8, 2, none⟩ = some (.int .i64 n38_1) ∧ Does Try.prog 39 #[.int .i64 x32, .agg #[.int .i64 n38, .slice p38 l38 c38, .int .i64 n38_1]] ws_2 fun e39 w39 =>
  ∃ b39 : Bool, e39 = .returned (.bool b39) ∧ Br (!b39)
  (R (.returned (.tuple #[.pointer none, .int .i64 4])) w39)
  (∀ wd9, Drew w39 wd9 →
  ∃ S9 : World → Prop, S9 wd9 ∧ ∃ (p45 : Option Addr) (l45 c45 : Nat), (∀ w, S9 w → w.cell? ⟨b29, 0, none⟩ = some (.slice p45 l45 c45)) ∧ ∃ n47 : Int, (∀ w, S9 w → w.cell? ⟨b8, 0, none⟩ = some (.int .i64 n47)) ∧ ∃ (p49 : Option Addr) (l49 c49 : Nat), wd9.cell? ⟨b8, 1, none⟩ = some (.slice p49 l49 c49) ∧ Does Try.prog 40 #[.slice p49 l49 c49] wd9 fun e50 w50 =>
  ∃ (p50 : Option Addr) (l50 c50 : Nat), e50 = .returned (.slice p50 l50 c50) ∧ S9 w50 ∧ ∃ n52 : Int, (∀ w, S9 w → w.cell? ⟨b8, 2, none⟩ = some (.int .i64 n52)) ∧ ∀ b54 w54, NewBlk w50 b54 [.int .i64 n47, .slice p50 l50 c50, .int .i64 n52] 58 w54 →
  S9 w54 ∧ ∃ (p55 : Option Addr) (l55 c55 : Nat) (w55 : World), (Builtin.append_ #[22, 22] 22 #[.slice p45 l45 c45, .slice (some ⟨b54, 0, none⟩) 1 1]).run Try.prog w54 = .ok (.slice p55 l55 c55) w55 ∧
  CanStore w55 b29 0 ∧ ∀ ws_3, Stored w55 b29 0 (.slice p55 l55 c55) ws_3 →
  InK .i64 (x32 + 1) ∧ ∃ ml5, ml5 < nl5 ∧ I5 (x32 + 1) ml5 ws_3))
  (R (.returned (.tuple #[.pointer (some ⟨b29, 0, none⟩), .int .i64 0])) wl5)))))
def f10_ann : Ann := { loops := [(5, [(32, .int .i64)])], cuts := [], flip := [], throws := [] }
theorem f10_eq (p0 : Option Addr) (l0 c0 : Nat) (a1 : Int) (w : World) (R : Ending → World → Prop) : vc Try.prog f10_ann (bodyOf Try.f10) (retQ Try.prog Try.f10 R) (envOf Try.f10.ntmps [.v (.slice p0 l0 c0), .v (.int .i64 a1)]) [] w = f10_vc p0 l0 c0 a1 w R := by kernel_rfl
theorem f10_does (p0 : Option Addr) (l0 c0 : Nat) (a1 : Int) {w : World} {R : Ending → World → Prop} (h : f10_vc p0 l0 c0 a1 w R) : Does Try.prog 10 #[.slice p0 l0 c0, .int .i64 a1] w R :=
  does_of_vc (ss := [.v (.slice p0 l0 c0), .v (.int .i64 a1)]) f10_ann mixed call10 Try.func10 rfl rfl (show 2 ≤ Try.f10.ntmps by decide) ((f10_eq p0 l0 c0 a1 w R).symm ▸ h)
/-- Of escritoire/escritoireref18.Load (function 11): the condition. -/
def f11_vc (p0 : Option Addr) (l0 c0 : Nat) (a1 : Int) (w : World) (R : Ending → World → Prop) : Prop :=
  Br (decide (((l0 : Int)) < 1))
  (R (.returned (.tuple #[.pointer none, .int .i64 4])) w)
  (Br (decide (((l0 : Int)) > 65536))
  (R (.returned (.tuple #[.pointer none, .int .i64 4])) w)
  (Br (decide (a1 < 0))
  (R (.returned (.tuple #[.pointer none, .int .i64 4])) w)
  (Br (decide (a1 ≥ ((l0 : Int))))
  (R (.returned (.tuple #[.pointer none, .int .i64 4])) w)
  (∃ I4 : Int → Nat → World → Prop, (∃ nl4, I4 0 nl4 w) ∧ ∀ x6 : Int, ∀ (nl4 : Nat) (wl4 : World), I4 x6 nl4 wl4 →
  Br (decide (x6 < ((l0 : Int))))
  (((0 : Int) ≤ x6 ∧ x6 < (l0 : Int)) ∧ ∃ b34 o34, p0 = some ⟨b34, o34, none⟩ ∧ ∃ n35 : Int, wl4.cell? ⟨b34, o34 + (x6).toNat * 3, none⟩ = some (.int .i64 n35) ∧ ∃ (p35 : Option Addr) (l35 c35 : Nat), wl4.cell? ⟨b34, o34 + (x6).toNat * 3 + 1, none⟩ = some (.slice p35 l35 c35) ∧ ∃ n35_1 : Int, wl4.cell? ⟨b34, o34 + (x6).toNat * 3 + 2, none⟩ = some (.int .i64 n35_1) ∧ ∀ b7 w7, NewBlk wl4 b7 [.int .i64 0, .slice none 0 0, .int .i64 0] 58 w7 →
  CanStore w7 b7 0 ∧ ∀ ws, Stored w7 b7 0 (.int .i64 n35) ws →
  CanStore ws b7 1 ∧ ∀ ws_1, Stored ws b7 1 (.slice p35 l35 c35) ws_1 →
  CanStore ws_1 b7 2 ∧ ∀ ws_2, Stored ws_1 b7 2 (.int .i64 n35_1) ws_2 →
  Br (x6 == 0)
  (∃ n40 : Int, ws_2.cell? ⟨b7, 0, none⟩ = some (.int .i64 n40) ∧ Br (n40 != (-1))
  (R (.returned (.tuple #[.pointer none, .int .i64 4])) ws_2)
  (∃ (p44 : Option Addr) (l44 c44 : Nat), ws_2.cell? ⟨b7, 1, none⟩ = some (.slice p44 l44 c44) ∧ Br (decide (((l44 : Int)) > 0))
  (R (.returned (.tuple #[.pointer none, .int .i64 4])) ws_2)
  (∃ n50 : Int, ws_2.cell? ⟨b7, 2, none⟩ = some (.int .i64 n50) ∧ Br (n50 != 0)
  (R (.returned (.tuple #[.pointer none, .int .i64 4])) ws_2)
  (Br (decide (x6 > 0))
  (∃ n59 : Int, ws_2.cell? ⟨b7, 0, none⟩ = some (.int .i64 n59) ∧ Br (decide (n59 < 0))
  (R (.returned (.tuple #[.pointer none, .int .i64 4])) ws_2)
  (∃ n63 : Int, ws_2.cell? ⟨b7, 0, none⟩ = some (.int .i64 n63) ∧ Br (decide (n63 ≥ x6))
  (R (.returned (.tuple #[.pointer none, .int .i64 4])) ws_2)
  (∃ (p69 : Option Addr) (l69 c69 : Nat), ws_2.cell? ⟨b7, 1, none⟩ = some (.slice p69 l69 c69) ∧ Br (((l69 : Int)) == 0)
  (R (.returned (.tuple #[.pointer none, .int .i64 4])) ws_2)
  (∃ n75 : Int, ws_2.cell? ⟨b7, 2, none⟩ = some (.int .i64 n75) ∧ Br (decide (n75 < 0))
  (R (.returned (.tuple #[.pointer none, .int .i64 4])) ws_2)
  (InK .i64 (x6 + 1) ∧ ∃ ml4, ml4 < nl4 ∧ I4 (x6 + 1) ml4 ws_2)))))
  (InK .i64 (x6 + 1) ∧ ∃ ml4, ml4 < nl4 ∧ I4 (x6 + 1) ml4 ws_2)))))
  (Br (decide (x6 > 0))
  (∃ n59_1 : Int, ws_2.cell? ⟨b7, 0, none⟩ = some (.int .i64 n59_1) ∧ Br (decide (n59_1 < 0))
  (R (.returned (.tuple #[.pointer none, .int .i64 4])) ws_2)
  (∃ n63_1 : Int, ws_2.cell? ⟨b7, 0, none⟩ = some (.int .i64 n63_1) ∧ Br (decide (n63_1 ≥ x6))
  (R (.returned (.tuple #[.pointer none, .int .i64 4])) ws_2)
  (∃ (p69_1 : Option Addr) (l69_1 c69_1 : Nat), ws_2.cell? ⟨b7, 1, none⟩ = some (.slice p69_1 l69_1 c69_1) ∧ Br (((l69_1 : Int)) == 0)
  (R (.returned (.tuple #[.pointer none, .int .i64 4])) ws_2)
  (∃ n75_1 : Int, ws_2.cell? ⟨b7, 2, none⟩ = some (.int .i64 n75_1) ∧ Br (decide (n75_1 < 0))
  (R (.returned (.tuple #[.pointer none, .int .i64 4])) ws_2)
  (InK .i64 (x6 + 1) ∧ ∃ ml4, ml4 < nl4 ∧ I4 (x6 + 1) ml4 ws_2)))))
  (InK .i64 (x6 + 1) ∧ ∃ ml4, ml4 < nl4 ∧ I4 (x6 + 1) ml4 ws_2)))
  (Does Try.prog 41 #[.slice p0 l0 c0] wl4 fun e81 w81 =>
  ∃ (p81 : Option Addr) (l81 c81 : Nat), e81 = .returned (.slice p81 l81 c81) ∧ ∀ b84 w84, NewBlk w81 b84 [.slice p81 l81 c81, .int .i64 a1] 36 w84 →
  R (.returned (.tuple #[.pointer (some ⟨b84, 0, none⟩), .int .i64 0])) w84)))))
def f11_ann : Ann := { loops := [(4, [(6, .int .i64)])], cuts := [], flip := [], throws := [] }
theorem f11_eq (p0 : Option Addr) (l0 c0 : Nat) (a1 : Int) (w : World) (R : Ending → World → Prop) : vc Try.prog f11_ann (bodyOf Try.f11) (retQ Try.prog Try.f11 R) (envOf Try.f11.ntmps [.v (.slice p0 l0 c0), .v (.int .i64 a1)]) [] w = f11_vc p0 l0 c0 a1 w R := by kernel_rfl
theorem f11_does (p0 : Option Addr) (l0 c0 : Nat) (a1 : Int) {w : World} {R : Ending → World → Prop} (h : f11_vc p0 l0 c0 a1 w R) : Does Try.prog 11 #[.slice p0 l0 c0, .int .i64 a1] w R :=
  does_of_vc (ss := [.v (.slice p0 l0 c0), .v (.int .i64 a1)]) f11_ann mixed call11 Try.func11 rfl rfl (show 2 ≤ Try.f11.ntmps by decide) ((f11_eq p0 l0 c0 a1 w R).symm ▸ h)
/-- Of (*escritoire/history.History).Nodes (function 12): the condition. -/
def f12_vc (a0 : Option Addr) (w : World) (R : Ending → World → Prop) : Prop :=
  Does Try.prog 23 #[.pointer a0] w fun e8 w8 =>
  ∃ n8 : Int, e8 = .returned (.int .i64 n8) ∧ ∃ I3 : Option Addr → Nat → Nat → Int → Nat → World → Prop, (∃ nl3, I3 none 0 0 0 nl3 w8) ∧ ∀ (p3 : Option Addr) (l3 c3 : Nat), ∀ x9 : Int, ∀ (nl3 : Nat) (wl3 : World), I3 p3 l3 c3 x9 nl3 wl3 →
  Br (decide (x9 < n8))
  (Does Try.prog 26 #[.pointer a0, .int .i64 x9] wl3 fun e15 w15 =>
  ∃ n15 : Int, ∃ (p15 : Option Addr) (l15 c15 : Nat), ∃ n15_1 : Int, ∃ b15 : Bool, e15 = .returned (.tuple #[.agg #[.int .i64 n15, .slice p15 l15 c15, .int .i64 n15_1], .bool b15]) ∧ ∀ b5 w5, NewBlk w15 b5 [.int .i64 0, .slice none 0 0, .int .i64 0] 58 w5 →
  CanStore w5 b5 0 ∧ ∀ ws, Stored w5 b5 0 (.int .i64 n15) ws →
  CanStore ws b5 1 ∧ ∀ ws_1, Stored ws b5 1 (.slice p15 l15 c15) ws_1 →
  CanStore ws_1 b5 2 ∧ ∀ ws_2, Stored ws_1 b5 2 (.int .i64 n15_1) ws_2 →
  ∃ n19 : Int, ws_2.cell? ⟨b5, 0, none⟩ = some (.int .i64 n19) ∧ ∃ (p19 : Option Addr) (l19 c19 : Nat), ws_2.cell? ⟨b5, 1, none⟩ = some (.slice p19 l19 c19) ∧ ∃ n19_1 : Int, ws_2.cell? ⟨b5, 2, none⟩ = some (.int .i64 n19_1) ∧ ∀ b20 w20, NewBlk ws_2 b20 [.int .i64 n19, .slice p19 l19 c19, .int .i64 n19_1] 58 w20 →
  ∃ (p21 : Option Addr) (l21 c21 : Nat) (w21 : World), (Builtin.append_ #[22, 22] 22 #[.slice p3 l3 c3, .slice (some ⟨b20, 0, none⟩) 1 1]).run Try.prog w20 = .ok (.slice p21 l21 c21) w21 ∧
  InK .i64 (x9 + 1) ∧ ∃ ml3, ml3 < nl3 ∧ I3 p21 l21 c21 (x9 + 1) ml3 w21)
  (R (.returned (.slice p3 l3 c3)) wl3)
def f12_ann : Ann := { loops := [(3, [(3, .slice), (9, .int .i64)])], cuts := [], flip := [], throws := [] }
theorem f12_eq (a0 : Option Addr) (w : World) (R : Ending → World → Prop) : vc Try.prog f12_ann (bodyOf Try.f12) (retQ Try.prog Try.f12 R) (envOf Try.f12.ntmps [.v (.pointer a0)]) [] w = f12_vc a0 w R := by kernel_rfl
theorem f12_does (a0 : Option Addr) {w : World} {R : Ending → World → Prop} (h : f12_vc a0 w R) : Does Try.prog 12 #[.pointer a0] w R :=
  does_of_vc (ss := [.v (.pointer a0)]) f12_ann mixed call12 Try.func12 rfl rfl (show 1 ≤ Try.f12.ntmps by decide) ((f12_eq a0 w R).symm ▸ h)
/-- Of (*escritoire/history.History).Current (function 13): the condition. -/
def f13_vc (a0 : Option Addr) (w : World) (R : Ending → World → Prop) : Prop :=
  Does Try.prog 42 #[.pointer a0] w fun e4 w4 =>
  ∃ b4 : Bool, e4 = .returned (.bool b4) ∧ Br (!b4)
  (R (.returned (.int .i64 0)) w4)
  (∃ b7 o7, a0 = some ⟨b7, o7, none⟩ ∧ ∃ n9 : Int, w4.cell? ⟨b7, o7 + 1, none⟩ = some (.int .i64 n9) ∧ R (.returned (.int .i64 n9)) w4)
def f13_ann : Ann := { loops := [], cuts := [], flip := [], throws := [] }
theorem f13_eq (a0 : Option Addr) (w : World) (R : Ending → World → Prop) : vc Try.prog f13_ann (bodyOf Try.f13) (retQ Try.prog Try.f13 R) (envOf Try.f13.ntmps [.v (.pointer a0)]) [] w = f13_vc a0 w R := by kernel_rfl
theorem f13_does (a0 : Option Addr) {w : World} {R : Ending → World → Prop} (h : f13_vc a0 w R) : Does Try.prog 13 #[.pointer a0] w R :=
  does_of_vc (ss := [.v (.pointer a0)]) f13_ann mixed call13 Try.func13 rfl rfl (show 1 ≤ Try.f13.ntmps by decide) ((f13_eq a0 w R).symm ▸ h)
/-- Of escritoire/escritoireref18.SameNodes (function 14): the condition. -/
def f14_vc (p0 : Option Addr) (l0 c0 : Nat) (p1 : Option Addr) (l1 c1 : Nat) (w : World) (R : Ending → World → Prop) : Prop :=
  Br (((l0 : Int)) != ((l1 : Int)))
  (R (.returned (.bool false)) w)
  (∃ I4 : Int → Nat → World → Prop, (∃ nl4, I4 0 nl4 w) ∧ ∀ x5 : Int, ∀ (nl4 : Nat) (wl4 : World), I4 x5 nl4 wl4 →
  Br (decide (x5 < ((l0 : Int))))
  (∀ wd6, Drew wl4 wd6 →
  ((0 : Int) ≤ x5 ∧ x5 < (l0 : Int)) ∧ ∃ b19 o19, p0 = some ⟨b19, o19, none⟩ ∧ ∃ n21 : Int, wd6.cell? ⟨b19, o19 + (x5).toNat * 3, none⟩ = some (.int .i64 n21) ∧ ((0 : Int) ≤ x5 ∧ x5 < (l1 : Int)) ∧ ∃ b24 o24, p1 = some ⟨b24, o24, none⟩ ∧ ∃ n26 : Int, wd6.cell? ⟨b24, o24 + (x5).toNat * 3, none⟩ = some (.int .i64 n26) ∧ Br (n21 != n26)
  (R (.returned (.bool false)) wd6)
  (((0 : Int) ≤ x5 ∧ x5 < (l0 : Int)) ∧ ∃ b31 o31, p0 = some ⟨b31, o31, none⟩ ∧ ∃ n33 : Int, wd6.cell? ⟨b31, o31 + (x5).toNat * 3 + 2, none⟩ = some (.int .i64 n33) ∧ ((0 : Int) ≤ x5 ∧ x5 < (l1 : Int)) ∧ ∃ b36 o36, p1 = some ⟨b36, o36, none⟩ ∧ ∃ n38 : Int, wd6.cell? ⟨b36, o36 + (x5).toNat * 3 + 2, none⟩ = some (.int .i64 n38) ∧ Br (n33 != n38)
  (R (.returned (.bool false)) wd6)
  (((0 : Int) ≤ x5 ∧ x5 < (l0 : Int)) ∧ ∃ b44 o44, p0 = some ⟨b44, o44, none⟩ ∧ ∃ (p46 : Option Addr) (l46 c46 : Nat), wd6.cell? ⟨b44, o44 + (x5).toNat * 3 + 1, none⟩ = some (.slice p46 l46 c46) ∧ ((0 : Int) ≤ x5 ∧ x5 < (l1 : Int)) ∧ ∃ b49 o49, p1 = some ⟨b49, o49, none⟩ ∧ ∃ (p51 : Option Addr) (l51 c51 : Nat), wd6.cell? ⟨b49, o49 + (x5).toNat * 3 + 1, none⟩ = some (.slice p51 l51 c51) ∧ Does Try.prog 24 #[.slice p46 l46 c46, .slice p51 l51 c51] wd6 fun e52 w52 =>
  ∃ b52 : Bool, e52 = .returned (.bool b52) ∧ Br (!b52)
  (R (.returned (.bool false)) w52)
  (InK .i64 (x5 + 1) ∧ ∃ ml4, ml4 < nl4 ∧ I4 (x5 + 1) ml4 w52))))
  (R (.returned (.bool true)) wl4))
def f14_ann : Ann := { loops := [(4, [(5, .int .i64)])], cuts := [], flip := [], throws := [] }
theorem f14_eq (p0 : Option Addr) (l0 c0 : Nat) (p1 : Option Addr) (l1 c1 : Nat) (w : World) (R : Ending → World → Prop) : vc Try.prog f14_ann (bodyOf Try.f14) (retQ Try.prog Try.f14 R) (envOf Try.f14.ntmps [.v (.slice p0 l0 c0), .v (.slice p1 l1 c1)]) [] w = f14_vc p0 l0 c0 p1 l1 c1 w R := by kernel_rfl
theorem f14_does (p0 : Option Addr) (l0 c0 : Nat) (p1 : Option Addr) (l1 c1 : Nat) {w : World} {R : Ending → World → Prop} (h : f14_vc p0 l0 c0 p1 l1 c1 w R) : Does Try.prog 14 #[.slice p0 l0 c0, .slice p1 l1 c1] w R :=
  does_of_vc (ss := [.v (.slice p0 l0 c0), .v (.slice p1 l1 c1)]) f14_ann mixed call14 Try.func14 rfl rfl (show 2 ≤ Try.f14.ntmps by decide) ((f14_eq p0 l0 c0 p1 l1 c1 w R).symm ▸ h)
/-- Of escritoire/history.New (function 15): the condition. -/
def f15_vc  (w : World) (R : Ending → World → Prop) : Prop :=
  ∀ b2 w2, NewBlk w b2 [.int .i64 (-1), .slice none 0 0, .int .i64 0] 58 w2 →
  ∀ b4 w4, NewBlk w2 b4 [.slice (some ⟨b2, 0, none⟩) 1 1, .int .i64 0] 74 w4 →
  R (.returned (.pointer (some ⟨b4, 0, none⟩))) w4
def f15_ann : Ann := { loops := [], cuts := [], flip := [], throws := [] }
theorem f15_eq  (w : World) (R : Ending → World → Prop) : vc Try.prog f15_ann (bodyOf Try.f15) (retQ Try.prog Try.f15 R) (envOf Try.f15.ntmps []) [] w = f15_vc  w R := by kernel_rfl
theorem f15_does  {w : World} {R : Ending → World → Prop} (h : f15_vc  w R) : Does Try.prog 15 #[] w R :=
  does_of_vc (ss := []) f15_ann mixed call15 Try.func15 rfl rfl (show 0 ≤ Try.f15.ntmps by decide) ((f15_eq  w R).symm ▸ h)
/-- Of (*escritoire/history.History).Add (function 16): the condition. -/
def f16_vc (a0 : Option Addr) (p1 : Option Addr) (l1 c1 : Nat) (a2 : Int) (w : World) (R : Ending → World → Prop) : Prop :=
  Does Try.prog 42 #[.pointer a0] w fun e10 w10 =>
  ∃ b10 : Bool, e10 = .returned (.bool b10) ∧ Br (!b10)
  (R (.returned (.tuple #[.int .i64 0, .int .i64 10])) w10)
  (Br (((l1 : Int)) == 0)
  (R (.returned (.tuple #[.int .i64 0, .int .i64 1])) w10)
  (Br (decide (a2 < 0))
  (R (.returned (.tuple #[.int .i64 0, .int .i64 1])) w10)
  (∃ b22 o22, a0 = some ⟨b22, o22, none⟩ ∧ ∃ (p24 : Option Addr) (l24 c24 : Nat), w10.cell? ⟨b22, o22, none⟩ = some (.slice p24 l24 c24) ∧ Br (decide (((l24 : Int)) ≥ 65536))
  (R (.returned (.tuple #[.int .i64 0, .int .i64 6])) w10)
  (∀ wd7, Drew w10 wd7 →
  ∃ S7 : World → Prop, S7 wd7 ∧ ∃ b29 o29, a0 = some ⟨b29, o29, none⟩ ∧ ∃ (p31 : Option Addr) (l31 c31 : Nat), wd7.cell? ⟨b29, o29, none⟩ = some (.slice p31 l31 c31) ∧ Does Try.prog 43 #[.slice p31 l31 c31] wd7 fun e32 w32 =>
  ∃ (p32 : Option Addr) (l32 c32 : Nat), e32 = .returned (.slice p32 l32 c32) ∧ S7 w32 ∧ ∃ b34 o34, a0 = some ⟨b34, o34, none⟩ ∧ ∃ n36 : Int, (∀ w, S7 w → w.cell? ⟨b34, o34 + 1, none⟩ = some (.int .i64 n36)) ∧ Does Try.prog 40 #[.slice p1 l1 c1] w32 fun e38 w38 =>
  ∃ (p38 : Option Addr) (l38 c38 : Nat), e38 = .returned (.slice p38 l38 c38) ∧ S7 w38 ∧ ∀ b41 w41, NewBlk w38 b41 [.int .i64 n36, .slice p38 l38 c38, .int .i64 a2] 58 w41 →
  ∃ (p42 : Option Addr) (l42 c42 : Nat) (w42 : World), (Builtin.append_ #[22, 22] 22 #[.slice p32 l32 c32, .slice (some ⟨b41, 0, none⟩) 1 1]).run Try.prog w41 = .ok (.slice p42 l42 c42) w42 ∧
  ∃ b43 o43, a0 = some ⟨b43, o43, none⟩ ∧ CanStore w42 b43 o43 ∧ ∀ ws, Stored w42 b43 o43 (.slice p42 l42 c42) ws →
  ∃ b47 o47, a0 = some ⟨b47, o47, none⟩ ∧ ∃ (p49 : Option Addr) (l49 c49 : Nat), ws.cell? ⟨b47, o47, none⟩ = some (.slice p49 l49 c49) ∧ InK .i64 (((l49 : Int)) - 1) ∧ ∃ b52 o52, a0 = some ⟨b52, o52, none⟩ ∧ CanStore ws b52 (o52 + 1) ∧ ∀ ws_1, Stored ws b52 (o52 + 1) (.int .i64 (((l49 : Int)) - 1)) ws_1 →
  ∃ b55 o55, a0 = some ⟨b55, o55, none⟩ ∧ ∃ n57 : Int, ws_1.cell? ⟨b55, o55 + 1, none⟩ = some (.int .i64 n57) ∧ R (.returned (.tuple #[.int .i64 n57, .int .i64 0])) ws_1))))
def f16_ann : Ann := { loops := [], cuts := [], flip := [], throws := [] }
theorem f16_eq (a0 : Option Addr) (p1 : Option Addr) (l1 c1 : Nat) (a2 : Int) (w : World) (R : Ending → World → Prop) : vc Try.prog f16_ann (bodyOf Try.f16) (retQ Try.prog Try.f16 R) (envOf Try.f16.ntmps [.v (.pointer a0), .v (.slice p1 l1 c1), .v (.int .i64 a2)]) [] w = f16_vc a0 p1 l1 c1 a2 w R := by kernel_rfl
theorem f16_does (a0 : Option Addr) (p1 : Option Addr) (l1 c1 : Nat) (a2 : Int) {w : World} {R : Ending → World → Prop} (h : f16_vc a0 p1 l1 c1 a2 w R) : Does Try.prog 16 #[.pointer a0, .slice p1 l1 c1, .int .i64 a2] w R :=
  does_of_vc (ss := [.v (.pointer a0), .v (.slice p1 l1 c1), .v (.int .i64 a2)]) f16_ann mixed call16 Try.func16 rfl rfl (show 3 ≤ Try.f16.ntmps by decide) ((f16_eq a0 p1 l1 c1 a2 w R).symm ▸ h)
/-- Of escritoire/escritoirelaw19.x (function 17): the condition. -/
def f17_vc (a0 : Int) (w : World) (R : Ending → World → Prop) : Prop :=
  ∀ b2 w2, NewBlk w b2 [.int .i64 0, .slice none 0 0, .slice none 0 0] 43 w2 →
  InK .i64 (97 + a0) ∧ ∀ b7 w7, NewBlk w2 b7 [.int .u8 (IntKind.wrap .u8 (97 + a0))] 5 w7 →
  CanStore w7 b2 0 ∧ ∀ ws, Stored w7 b2 0 (.int .i64 a0) ws →
  CanStore ws b2 1 ∧ ∀ ws_1, Stored ws b2 1 (.slice none 0 0) ws_1 →
  CanStore ws_1 b2 2 ∧ ∀ ws_2, Stored ws_1 b2 2 (.slice (some ⟨b7, 0, none⟩) 1 1) ws_2 →
  ∃ n2 : Int, ws_2.cell? ⟨b2, 0, none⟩ = some (.int .i64 n2) ∧ ∃ (p2 : Option Addr) (l2 c2 : Nat), ws_2.cell? ⟨b2, 1, none⟩ = some (.slice p2 l2 c2) ∧ ∃ (p2_1 : Option Addr) (l2_1 c2_1 : Nat), ws_2.cell? ⟨b2, 2, none⟩ = some (.slice p2_1 l2_1 c2_1) ∧ R (.returned (.agg #[.int .i64 n2, .slice p2 l2 c2, .slice p2_1 l2_1 c2_1])) ws_2
def f17_ann : Ann := { loops := [], cuts := [], flip := [], throws := [] }
theorem f17_eq (a0 : Int) (w : World) (R : Ending → World → Prop) : vc Try.prog f17_ann (bodyOf Try.f17) (retQ Try.prog Try.f17 R) (envOf Try.f17.ntmps [.v (.int .i64 a0)]) [] w = f17_vc a0 w R := by kernel_rfl
theorem f17_does (a0 : Int) {w : World} {R : Ending → World → Prop} (h : f17_vc a0 w R) : Does Try.prog 17 #[.int .i64 a0] w R :=
  does_of_vc (ss := [.v (.int .i64 a0)]) f17_ann mixed call17 Try.func17 rfl rfl (show 1 ≤ Try.f17.ntmps by decide) ((f17_eq a0 w R).symm ▸ h)
/-- Of (*escritoire/history.History).Undo (function 18): the condition. -/
def f18_vc (a0 : Option Addr) (w : World) (R : Ending → World → Prop) : Prop :=
  Does Try.prog 42 #[.pointer a0] w fun e7 w7 =>
  ∃ b7 : Bool, e7 = .returned (.bool b7) ∧ Br (!b7)
  (R (.returned (.tuple #[.slice none 0 0, .int .i64 0, .bool false])) w7)
  (∃ b11 o11, a0 = some ⟨b11, o11, none⟩ ∧ ∃ n13 : Int, w7.cell? ⟨b11, o11 + 1, none⟩ = some (.int .i64 n13) ∧ Br (n13 == 0)
  (R (.returned (.tuple #[.slice none 0 0, .int .i64 0, .bool false])) w7)
  (∀ wd3, Drew w7 wd3 →
  ∃ S3 : World → Prop, S3 wd3 ∧ ∃ b17 o17, a0 = some ⟨b17, o17, none⟩ ∧ ∃ (p19 : Option Addr) (l19 c19 : Nat), (∀ w, S3 w → w.cell? ⟨b17, o17, none⟩ = some (.slice p19 l19 c19)) ∧ ∃ b21 o21, a0 = some ⟨b21, o21, none⟩ ∧ ∃ n23 : Int, (∀ w, S3 w → w.cell? ⟨b21, o21 + 1, none⟩ = some (.int .i64 n23)) ∧ ((0 : Int) ≤ n23 ∧ n23 < (l19 : Int)) ∧ ∃ b24 o24, p19 = some ⟨b24, o24, none⟩ ∧ ∃ n25 : Int, (∀ w, S3 w → w.cell? ⟨b24, o24 + (n23).toNat * 3, none⟩ = some (.int .i64 n25)) ∧ ∃ (p25 : Option Addr) (l25 c25 : Nat), (∀ w, S3 w → w.cell? ⟨b24, o24 + (n23).toNat * 3 + 1, none⟩ = some (.slice p25 l25 c25)) ∧ ∃ n25_1 : Int, (∀ w, S3 w → w.cell? ⟨b24, o24 + (n23).toNat * 3 + 2, none⟩ = some (.int .i64 n25_1)) ∧ ∀ b5 w5, NewBlk wd3 b5 [.int .i64 0, .slice none 0 0, .int .i64 0] 58 w5 →
  S3 w5 ∧ CanStore w5 b5 0 ∧ ∀ ws, Stored w5 b5 0 (.int .i64 n25) ws →
  CanStore ws b5 1 ∧ ∀ ws_1, Stored ws b5 1 (.slice p25 l25 c25) ws_1 →
  CanStore ws_1 b5 2 ∧ ∀ ws_2, Stored ws_1 b5 2 (.int .i64 n25_1) ws_2 →
  ∃ n28 : Int, ws_2.cell? ⟨b5, 0, none⟩ = some (.int .i64 n28) ∧ ∃ b29 o29, a0 = some ⟨b29, o29, none⟩ ∧ CanStore ws_2 b29 (o29 + 1) ∧ ∀ ws_3, Stored ws_2 b29 (o29 + 1) (.int .i64 n28) ws_3 →
  ∀ wd5, Drew ws_3 wd5 →
  ∃ S5 : World → Prop, S5 wd5 ∧ ∃ (p32 : Option Addr) (l32 c32 : Nat), wd5.cell? ⟨b5, 1, none⟩ = some (.slice p32 l32 c32) ∧ Does Try.prog 25 #[.slice p32 l32 c32] wd5 fun e33 w33 =>
  ∃ (p33 : Option Addr) (l33 c33 : Nat), e33 = .returned (.slice p33 l33 c33) ∧ S5 w33 ∧ ∃ n35 : Int, (∀ w, S5 w → w.cell? ⟨b5, 2, none⟩ = some (.int .i64 n35)) ∧ R (.returned (.tuple #[.slice p33 l33 c33, .int .i64 n35, .bool true])) w33))
def f18_ann : Ann := { loops := [], cuts := [], flip := [], throws := [] }
theorem f18_eq (a0 : Option Addr) (w : World) (R : Ending → World → Prop) : vc Try.prog f18_ann (bodyOf Try.f18) (retQ Try.prog Try.f18 R) (envOf Try.f18.ntmps [.v (.pointer a0)]) [] w = f18_vc a0 w R := by kernel_rfl
theorem f18_does (a0 : Option Addr) {w : World} {R : Ending → World → Prop} (h : f18_vc a0 w R) : Does Try.prog 18 #[.pointer a0] w R :=
  does_of_vc (ss := [.v (.pointer a0)]) f18_ann mixed call18 Try.func18 rfl rfl (show 1 ≤ Try.f18.ntmps by decide) ((f18_eq a0 w R).symm ▸ h)
/-- Of (*escritoire/history.History).Kids (function 19): the condition. -/
def f19_vc (a0 : Option Addr) (a1 : Int) (w : World) (R : Ending → World → Prop) : Prop :=
  Does Try.prog 44 #[.pointer a0, .int .i64 a1] w fun e10 w10 =>
  ∃ b10 : Bool, e10 = .returned (.bool b10) ∧ Br (!b10)
  (R (.returned (.slice none 0 0)) w10)
  (∃ b13 o13, a0 = some ⟨b13, o13, none⟩ ∧ ∃ (p15 : Option Addr) (l15 c15 : Nat), w10.cell? ⟨b13, o13, none⟩ = some (.slice p15 l15 c15) ∧ ∃ I5 : Option Addr → Nat → Nat → Int → Nat → World → Prop, (∃ nl5, I5 none 0 0 0 nl5 w10) ∧ ∀ (p5 : Option Addr) (l5 c5 : Nat), ∀ x17 : Int, ∀ (nl5 : Nat) (wl5 : World), I5 p5 l5 c5 x17 nl5 wl5 →
  Br (decide (x17 < ((l15 : Int))))
  (((0 : Int) ≤ x17 ∧ x17 < (l15 : Int)) ∧ ∃ b20 o20, p15 = some ⟨b20, o20, none⟩ ∧ ∃ n21 : Int, wl5.cell? ⟨b20, o20 + (x17).toNat * 3, none⟩ = some (.int .i64 n21) ∧ ∃ (p21 : Option Addr) (l21 c21 : Nat), wl5.cell? ⟨b20, o20 + (x17).toNat * 3 + 1, none⟩ = some (.slice p21 l21 c21) ∧ ∃ n21_1 : Int, wl5.cell? ⟨b20, o20 + (x17).toNat * 3 + 2, none⟩ = some (.int .i64 n21_1) ∧ ∀ b7 w7, NewBlk wl5 b7 [.int .i64 0, .slice none 0 0, .int .i64 0] 58 w7 →
  CanStore w7 b7 0 ∧ ∀ ws, Stored w7 b7 0 (.int .i64 n21) ws →
  CanStore ws b7 1 ∧ ∀ ws_1, Stored ws b7 1 (.slice p21 l21 c21) ws_1 →
  CanStore ws_1 b7 2 ∧ ∀ ws_2, Stored ws_1 b7 2 (.int .i64 n21_1) ws_2 →
  ∃ n23 : Int, ws_2.cell? ⟨b7, 0, none⟩ = some (.int .i64 n23) ∧ Br (n23 == a1)
  (∀ b28 w28, NewBlk ws_2 b28 [.int .i64 x17] 3 w28 →
  ∃ (p29 : Option Addr) (l29 c29 : Nat) (w29 : World), (Builtin.append_ #[48, 48] 48 #[.slice p5 l5 c5, .slice (some ⟨b28, 0, none⟩) 1 1]).run Try.prog w28 = .ok (.slice p29 l29 c29) w29 ∧
  InK .i64 (x17 + 1) ∧ ∃ ml5, ml5 < nl5 ∧ I5 p29 l29 c29 (x17 + 1) ml5 w29)
  (InK .i64 (x17 + 1) ∧ ∃ ml5, ml5 < nl5 ∧ I5 p5 l5 c5 (x17 + 1) ml5 ws_2))
  (R (.returned (.slice p5 l5 c5)) wl5))
def f19_ann : Ann := { loops := [(5, [(5, .slice), (17, .int .i64)])], cuts := [], flip := [], throws := [] }
theorem f19_eq (a0 : Option Addr) (a1 : Int) (w : World) (R : Ending → World → Prop) : vc Try.prog f19_ann (bodyOf Try.f19) (retQ Try.prog Try.f19 R) (envOf Try.f19.ntmps [.v (.pointer a0), .v (.int .i64 a1)]) [] w = f19_vc a0 a1 w R := by kernel_rfl
theorem f19_does (a0 : Option Addr) (a1 : Int) {w : World} {R : Ending → World → Prop} (h : f19_vc a0 a1 w R) : Does Try.prog 19 #[.pointer a0, .int .i64 a1] w R :=
  does_of_vc (ss := [.v (.pointer a0), .v (.int .i64 a1)]) f19_ann mixed call19 Try.func19 rfl rfl (show 2 ≤ Try.f19.ntmps by decide) ((f19_eq a0 a1 w R).symm ▸ h)
/-- Of (*escritoire/history.History).Redo (function 20): the condition. -/
def f20_vc (a0 : Option Addr) (w : World) (R : Ending → World → Prop) : Prop :=
  Does Try.prog 13 #[.pointer a0] w fun e9 w9 =>
  ∃ n9 : Int, e9 = .returned (.int .i64 n9) ∧ Does Try.prog 19 #[.pointer a0, .int .i64 n9] w9 fun e10 w10 =>
  ∃ (p10 : Option Addr) (l10 c10 : Nat), e10 = .returned (.slice p10 l10 c10) ∧ Br (((l10 : Int)) == 0)
  (R (.returned (.tuple #[.slice none 0 0, .int .i64 0, .bool false])) w10)
  (InK .i64 (((l10 : Int)) - 1) ∧ ((0 : Int) ≤ (((l10 : Int)) - 1) ∧ (((l10 : Int)) - 1) < (l10 : Int)) ∧ ∃ b19 o19, p10 = some ⟨b19, o19, none⟩ ∧ ∃ n20 : Int, w10.cell? ⟨b19, o19 + (((l10 : Int)) - 1).toNat, none⟩ = some (.int .i64 n20) ∧ ∃ b21 o21, a0 = some ⟨b21, o21, none⟩ ∧ CanStore w10 b21 (o21 + 1) ∧ ∀ ws, Stored w10 b21 (o21 + 1) (.int .i64 n20) ws →
  ∀ wd5, Drew ws wd5 →
  ∃ b24 o24, a0 = some ⟨b24, o24, none⟩ ∧ ∃ (p26 : Option Addr) (l26 c26 : Nat), wd5.cell? ⟨b24, o24, none⟩ = some (.slice p26 l26 c26) ∧ ∃ b28 o28, a0 = some ⟨b28, o28, none⟩ ∧ ∃ n30 : Int, wd5.cell? ⟨b28, o28 + 1, none⟩ = some (.int .i64 n30) ∧ ((0 : Int) ≤ n30 ∧ n30 < (l26 : Int)) ∧ ∃ b31 o31, p26 = some ⟨b31, o31, none⟩ ∧ ∃ (p33 : Option Addr) (l33 c33 : Nat), wd5.cell? ⟨b31, o31 + (n30).toNat * 3 + 1, none⟩ = some (.slice p33 l33 c33) ∧ Does Try.prog 40 #[.slice p33 l33 c33] wd5 fun e34 w34 =>
  ∃ (p34 : Option Addr) (l34 c34 : Nat), e34 = .returned (.slice p34 l34 c34) ∧ ∀ wd6, Drew w34 wd6 →
  ((0 : Int) ≤ 0 ∧ 0 < (l34 : Int)) ∧ ∃ b37 o37, p34 = some ⟨b37, o37, none⟩ ∧ ∃ n39 : Int, wd6.cell? ⟨b37, o37 + (0 : Int).toNat * 3, none⟩ = some (.int .i64 n39) ∧ R (.returned (.tuple #[.slice p34 l34 c34, .int .i64 n39, .bool true])) wd6)
def f20_ann : Ann := { loops := [], cuts := [], flip := [], throws := [] }
theorem f20_eq (a0 : Option Addr) (w : World) (R : Ending → World → Prop) : vc Try.prog f20_ann (bodyOf Try.f20) (retQ Try.prog Try.f20 R) (envOf Try.f20.ntmps [.v (.pointer a0)]) [] w = f20_vc a0 w R := by kernel_rfl
theorem f20_does (a0 : Option Addr) {w : World} {R : Ending → World → Prop} (h : f20_vc a0 w R) : Does Try.prog 20 #[.pointer a0] w R :=
  does_of_vc (ss := [.v (.pointer a0)]) f20_ann mixed call20 Try.func20 rfl rfl (show 1 ≤ Try.f20.ntmps by decide) ((f20_eq a0 w R).symm ▸ h)
/-- Of (*escritoire/history.History).Jump (function 21): the condition. -/
def f21_vc (a0 : Option Addr) (a1 : Int) (w : World) (R : Ending → World → Prop) : Prop :=
  ∀ b2 w2, NewBlk w b2 [.pointer a0] 25 w2 →
  ∃ p12 : Option Addr, w2.cell? ⟨b2, 0, none⟩ = some (.pointer p12) ∧ Does Try.prog 44 #[.pointer p12, .int .i64 a1] w2 fun e14 w14 =>
  ∃ b14 : Bool, e14 = .returned (.bool b14) ∧ Br (!b14)
  (R (.returned (.tuple #[.slice none 0 0, .int .i64 0, .bool false])) w14)
  (∀ b7 w7, NewBlk w14 b7 [.slice none 0 0] 45 w7 →
  ∀ b8 w8, NewBlk w7 b8 [.int .i64 0] 3 w8 →
  CanStore w8 b8 0 ∧ ∀ ws, Stored w8 b8 0 (.int .i64 0) ws →
  ∀ wd5, Drew ws wd5 →
  ∃ p16 : Option Addr, wd5.cell? ⟨b2, 0, none⟩ = some (.pointer p16) ∧ ∃ p17 : Option Addr, wd5.cell? ⟨b2, 0, none⟩ = some (.pointer p17) ∧ ∃ b18 o18, p17 = some ⟨b18, o18, none⟩ ∧ ∃ n20 : Int, wd5.cell? ⟨b18, o18 + 1, none⟩ = some (.int .i64 n20) ∧ Does Try.prog 45 #[.pointer p16, .int .i64 n20, .int .i64 a1] wd5 fun e22 w22 =>
  ∃ (g22 : Go.Fn) (fs22 cs22 : Array Value), e22 = .returned (.func g22 fs22 cs22) ∧ ∀ (Dr8 lr8 : Nat) (recr8 : Loop) (wr8 : World), Opened w22 Dr8 lr8 recr8 wr8 →
  (∀ x23 : Int, ∀ b24 : Bool, ∀ (wyr8 : World) (Rr8 : Ending → World → Prop), LoopAt wyr8 lr8 recr8 .ready →
  (LoopAt wyr8 lr8 recr8 .ready ∧ ∀ wbr8, Turned wyr8 lr8 wbr8 → LoopAt wbr8 lr8 recr8 .busy →
  ∃ p25 : Option Addr, wbr8.cell? ⟨b2, 0, none⟩ = some (.pointer p25) ∧ ∃ b26 o26, p25 = some ⟨b26, o26, none⟩ ∧ ∃ (p28 : Option Addr) (l28 c28 : Nat), wbr8.cell? ⟨b26, o26, none⟩ = some (.slice p28 l28 c28) ∧ ((0 : Int) ≤ x23 ∧ x23 < (l28 : Int)) ∧ ∃ b30 o30, p28 = some ⟨b30, o30, none⟩ ∧ ∃ n31 : Int, wbr8.cell? ⟨b30, o30 + (x23).toNat * 3, none⟩ = some (.int .i64 n31) ∧ ∃ (p31 : Option Addr) (l31 c31 : Nat), wbr8.cell? ⟨b30, o30 + (x23).toNat * 3 + 1, none⟩ = some (.slice p31 l31 c31) ∧ ∃ n31_1 : Int, wbr8.cell? ⟨b30, o30 + (x23).toNat * 3 + 2, none⟩ = some (.int .i64 n31_1) ∧ ∀ b11 w11, NewBlk wbr8 b11 [.int .i64 0, .slice none 0 0, .int .i64 0] 58 w11 →
  CanStore w11 b11 0 ∧ ∀ ws_1, Stored w11 b11 0 (.int .i64 n31) ws_1 →
  CanStore ws_1 b11 1 ∧ ∀ ws_2, Stored ws_1 b11 1 (.slice p31 l31 c31) ws_2 →
  CanStore ws_2 b11 2 ∧ ∀ ws_3, Stored ws_2 b11 2 (.int .i64 n31_1) ws_3 →
  Br b24
  (∀ wd10, Drew ws_3 wd10 →
  ∃ S10 : World → Prop, S10 wd10 ∧ ∃ (p33 : Option Addr) (l33 c33 : Nat), (∀ w, S10 w → w.cell? ⟨b7, 0, none⟩ = some (.slice p33 l33 c33)) ∧ ∃ (p35 : Option Addr) (l35 c35 : Nat), wd10.cell? ⟨b11, 1, none⟩ = some (.slice p35 l35 c35) ∧ Does Try.prog 40 #[.slice p35 l35 c35] wd10 fun e36 w36 =>
  ∃ (p36 : Option Addr) (l36 c36 : Nat), e36 = .returned (.slice p36 l36 c36) ∧ S10 w36 ∧ ∃ (p37 : Option Addr) (l37 c37 : Nat) (w37 : World), (Builtin.append_ #[45, 45] 45 #[.slice p33 l33 c33, .slice p36 l36 c36]).run Try.prog w36 = .ok (.slice p37 l37 c37) w37 ∧
  CanStore w37 b7 0 ∧ ∀ ws_4, Stored w37 b7 0 (.slice p37 l37 c37) ws_4 →
  ∃ (p39 : Option Addr) (l39 c39 : Nat), ws_4.cell? ⟨b11, 1, none⟩ = some (.slice p39 l39 c39) ∧ ((0 : Int) ≤ 0 ∧ 0 < (l39 : Int)) ∧ ∃ b40 o40, p39 = some ⟨b40, o40, none⟩ ∧ ∃ n42 : Int, ws_4.cell? ⟨b40, o40 + (0 : Int).toNat * 3, none⟩ = some (.int .i64 n42) ∧ CanStore ws_4 b8 0 ∧ ∀ ws_5, Stored ws_4 b8 0 (.int .i64 n42) ws_5 →
  LoopAt ws_5 lr8 recr8 .busy ∧ ∀ wdr8, Turned ws_5 lr8 wdr8 → LoopAt wdr8 lr8 recr8 .ready → Rr8 (.returned (.bool true)) wdr8)
  (∀ wd12, Drew ws_3 wd12 →
  ∃ S12 : World → Prop, S12 wd12 ∧ ∃ (p43 : Option Addr) (l43 c43 : Nat), (∀ w, S12 w → w.cell? ⟨b7, 0, none⟩ = some (.slice p43 l43 c43)) ∧ ∃ (p45 : Option Addr) (l45 c45 : Nat), wd12.cell? ⟨b11, 1, none⟩ = some (.slice p45 l45 c45) ∧ Does Try.prog 25 #[.slice p45 l45 c45] wd12 fun e46 w46 =>
  ∃ (p46 : Option Addr) (l46 c46 : Nat), e46 = .returned (.slice p46 l46 c46) ∧ S12 w46 ∧ ∃ (p47 : Option Addr) (l47 c47 : Nat) (w47 : World), (Builtin.append_ #[45, 45] 45 #[.slice p43 l43 c43, .slice p46 l46 c46]).run Try.prog w46 = .ok (.slice p47 l47 c47) w47 ∧
  CanStore w47 b7 0 ∧ ∀ ws_6, Stored w47 b7 0 (.slice p47 l47 c47) ws_6 →
  ∃ n49 : Int, ws_6.cell? ⟨b11, 2, none⟩ = some (.int .i64 n49) ∧ CanStore ws_6 b8 0 ∧ ∀ ws_7, Stored ws_6 b8 0 (.int .i64 n49) ws_7 →
  LoopAt ws_7 lr8 recr8 .busy ∧ ∀ wdr8, Turned ws_7 lr8 wdr8 → LoopAt wdr8 lr8 recr8 .ready → Rr8 (.returned (.bool true)) wdr8)) →
  YieldsV Try.prog lr8 #[.int .i64 x23, .bool b24] wyr8 Rr8) →
  DoesG Try.prog g22 fs22 #[.func (.yield lr8) #[] #[]] cs22 wr8 fun er8 wer8 =>
  ∃ vr8, er8 = .returned vr8 ∧ LoopAt wer8 lr8 recr8 .ready ∧ ∀ wzr8, Turned wer8 lr8 wzr8 →
  ∃ p50 : Option Addr, wzr8.cell? ⟨b2, 0, none⟩ = some (.pointer p50) ∧ ∃ b52 o52, p50 = some ⟨b52, o52, none⟩ ∧ CanStore wzr8 b52 (o52 + 1) ∧ ∀ ws_8, Stored wzr8 b52 (o52 + 1) (.int .i64 a1) ws_8 →
  ∀ wd15, Drew ws_8 wd15 →
  ∃ (p54 : Option Addr) (l54 c54 : Nat), wd15.cell? ⟨b7, 0, none⟩ = some (.slice p54 l54 c54) ∧ ∃ n55 : Int, wd15.cell? ⟨b8, 0, none⟩ = some (.int .i64 n55) ∧ LeavesV (fun wk => R (.returned (.tuple #[.slice p54 l54 c54, .int .i64 n55, .bool true])) wk) (fun chk wp => R (.panicked chk) wp) Try.prog (markOf Dr8 :: []) (.returning) wd15)
def f21_ann : Ann := { loops := [], cuts := [], flip := [], throws := [], ranges := [(8, [(23, .int .i64), (24, .bool)])] }
theorem f21_eq (a0 : Option Addr) (a1 : Int) (w : World) (R : Ending → World → Prop) : vc Try.prog f21_ann (bodyOf Try.f21) (retQ Try.prog Try.f21 R) (envOf Try.f21.ntmps [.v (.pointer a0), .v (.int .i64 a1)]) [] w = f21_vc a0 a1 w R := by kernel_rfl
theorem f21_does (a0 : Option Addr) (a1 : Int) {w : World} {R : Ending → World → Prop} (h : f21_vc a0 a1 w R) : Does Try.prog 21 #[.pointer a0, .int .i64 a1] w R :=
  does_of_vc (ss := [.v (.pointer a0), .v (.int .i64 a1)]) f21_ann mixed call21 Try.func21 rfl rfl (show 2 ≤ Try.f21.ntmps by decide) ((f21_eq a0 a1 w R).symm ▸ h)
/-- Of escritoire/escritoirelaw19.Room (function 22): the condition. -/
def f22_vc (p0 : Option Addr) (l0 c0 : Nat) (a1 : Int) (w : World) (R : Ending → World → Prop) : Prop :=
  Br (decide (((l0 : Int)) > a1))
  (R (.returned (.bool false)) w)
  (∃ I4 : Int → Nat → World → Prop, (∃ nl4, I4 0 nl4 w) ∧ ∀ x5 : Int, ∀ (nl4 : Nat) (wl4 : World), I4 x5 nl4 wl4 →
  Br (decide (x5 < ((l0 : Int))))
  (((0 : Int) ≤ x5 ∧ x5 < (l0 : Int)) ∧ ∃ b18 o18, p0 = some ⟨b18, o18, none⟩ ∧ ∃ (p20 : Option Addr) (l20 c20 : Nat), wl4.cell? ⟨b18, o18 + (x5).toNat * 4 + 3, none⟩ = some (.slice p20 l20 c20) ∧ Does Try.prog 38 #[.slice p20 l20 c20, .int .i64 10] wl4 fun e21 w21 =>
  ∃ b21 : Bool, e21 = .returned (.bool b21) ∧ Br (!b21)
  (R (.returned (.bool false)) w21)
  (InK .i64 (x5 + 1) ∧ ∃ ml4, ml4 < nl4 ∧ I4 (x5 + 1) ml4 w21))
  (R (.returned (.bool true)) wl4))
def f22_ann : Ann := { loops := [(4, [(5, .int .i64)])], cuts := [], flip := [], throws := [] }
theorem f22_eq (p0 : Option Addr) (l0 c0 : Nat) (a1 : Int) (w : World) (R : Ending → World → Prop) : vc Try.prog f22_ann (bodyOf Try.f22) (retQ Try.prog Try.f22 R) (envOf Try.f22.ntmps [.v (.slice p0 l0 c0), .v (.int .i64 a1)]) [] w = f22_vc p0 l0 c0 a1 w R := by kernel_rfl
theorem f22_does (p0 : Option Addr) (l0 c0 : Nat) (a1 : Int) {w : World} {R : Ending → World → Prop} (h : f22_vc p0 l0 c0 a1 w R) : Does Try.prog 22 #[.slice p0 l0 c0, .int .i64 a1] w R :=
  does_of_vc (ss := [.v (.slice p0 l0 c0), .v (.int .i64 a1)]) f22_ann mixed call22 Try.func22 rfl rfl (show 2 ≤ Try.f22.ntmps by decide) ((f22_eq p0 l0 c0 a1 w R).symm ▸ h)
/-- Of (*escritoire/history.History).Count (function 23): the condition. -/
def f23_vc (a0 : Option Addr) (w : World) (R : Ending → World → Prop) : Prop :=
  Does Try.prog 42 #[.pointer a0] w fun e4 w4 =>
  ∃ b4 : Bool, e4 = .returned (.bool b4) ∧ Br (!b4)
  (R (.returned (.int .i64 0)) w4)
  (∃ b7 o7, a0 = some ⟨b7, o7, none⟩ ∧ ∃ (p9 : Option Addr) (l9 c9 : Nat), w4.cell? ⟨b7, o7, none⟩ = some (.slice p9 l9 c9) ∧ R (.returned (.int .i64 ((l9 : Int)))) w4)
def f23_ann : Ann := { loops := [], cuts := [], flip := [], throws := [] }
theorem f23_eq (a0 : Option Addr) (w : World) (R : Ending → World → Prop) : vc Try.prog f23_ann (bodyOf Try.f23) (retQ Try.prog Try.f23 R) (envOf Try.f23.ntmps [.v (.pointer a0)]) [] w = f23_vc a0 w R := by kernel_rfl
theorem f23_does (a0 : Option Addr) {w : World} {R : Ending → World → Prop} (h : f23_vc a0 w R) : Does Try.prog 23 #[.pointer a0] w R :=
  does_of_vc (ss := [.v (.pointer a0)]) f23_ann mixed call23 Try.func23 rfl rfl (show 1 ≤ Try.f23.ntmps by decide) ((f23_eq a0 w R).symm ▸ h)
/-- Of escritoire/escritoireref18.Same (function 24): the condition. -/
def f24_vc (p0 : Option Addr) (l0 c0 : Nat) (p1 : Option Addr) (l1 c1 : Nat) (w : World) (R : Ending → World → Prop) : Prop :=
  Br (((l0 : Int)) != ((l1 : Int)))
  (R (.returned (.bool false)) w)
  (∃ I4 : Int → Nat → World → Prop, (∃ nl4, I4 0 nl4 w) ∧ ∀ x5 : Int, ∀ (nl4 : Nat) (wl4 : World), I4 x5 nl4 wl4 →
  Br (decide (x5 < ((l0 : Int))))
  (∀ wd6, Drew wl4 wd6 →
  ∃ S6 : World → Prop, S6 wd6 ∧ ((0 : Int) ≤ x5 ∧ x5 < (l0 : Int)) ∧ ∃ b19 o19, p0 = some ⟨b19, o19, none⟩ ∧ ∃ n21 : Int, wd6.cell? ⟨b19, o19 + (x5).toNat * 3, none⟩ = some (.int .i64 n21) ∧ ((0 : Int) ≤ x5 ∧ x5 < (l1 : Int)) ∧ ∃ b24 o24, p1 = some ⟨b24, o24, none⟩ ∧ ∃ n26 : Int, wd6.cell? ⟨b24, o24 + (x5).toNat * 3, none⟩ = some (.int .i64 n26) ∧ Br (n21 != n26)
  (R (.returned (.bool false)) wd6)
  (((0 : Int) ≤ x5 ∧ x5 < (l0 : Int)) ∧ ∃ b31 o31, p0 = some ⟨b31, o31, none⟩ ∧ ∃ (p33 : Option Addr) (l33 c33 : Nat), wd6.cell? ⟨b31, o31 + (x5).toNat * 3 + 1, none⟩ = some (.slice p33 l33 c33) ∧ ((0 : Int) ≤ x5 ∧ x5 < (l1 : Int)) ∧ ∃ b36 o36, p1 = some ⟨b36, o36, none⟩ ∧ ∃ (p38 : Option Addr) (l38 c38 : Nat), wd6.cell? ⟨b36, o36 + (x5).toNat * 3 + 1, none⟩ = some (.slice p38 l38 c38) ∧ Does Try.prog 37 #[.slice p33 l33 c33, .slice p38 l38 c38] wd6 fun e39 w39 =>
  ∃ b39 : Bool, e39 = .returned (.bool b39) ∧ S6 w39 ∧ Br (!b39)
  (R (.returned (.bool false)) w39)
  (((0 : Int) ≤ x5 ∧ x5 < (l0 : Int)) ∧ ∃ b45 o45, p0 = some ⟨b45, o45, none⟩ ∧ ∃ (p47 : Option Addr) (l47 c47 : Nat), (∀ w, S6 w → w.cell? ⟨b45, o45 + (x5).toNat * 3 + 2, none⟩ = some (.slice p47 l47 c47)) ∧ ((0 : Int) ≤ x5 ∧ x5 < (l1 : Int)) ∧ ∃ b50 o50, p1 = some ⟨b50, o50, none⟩ ∧ ∃ (p52 : Option Addr) (l52 c52 : Nat), (∀ w, S6 w → w.cell? ⟨b50, o50 + (x5).toNat * 3 + 2, none⟩ = some (.slice p52 l52 c52)) ∧ Does Try.prog 37 #[.slice p47 l47 c47, .slice p52 l52 c52] w39 fun e53 w53 =>
  ∃ b53 : Bool, e53 = .returned (.bool b53) ∧ Br (!b53)
  (R (.returned (.bool false)) w53)
  (InK .i64 (x5 + 1) ∧ ∃ ml4, ml4 < nl4 ∧ I4 (x5 + 1) ml4 w53))))
  (R (.returned (.bool true)) wl4))
def f24_ann : Ann := { loops := [(4, [(5, .int .i64)])], cuts := [], flip := [], throws := [] }
theorem f24_eq (p0 : Option Addr) (l0 c0 : Nat) (p1 : Option Addr) (l1 c1 : Nat) (w : World) (R : Ending → World → Prop) : vc Try.prog f24_ann (bodyOf Try.f24) (retQ Try.prog Try.f24 R) (envOf Try.f24.ntmps [.v (.slice p0 l0 c0), .v (.slice p1 l1 c1)]) [] w = f24_vc p0 l0 c0 p1 l1 c1 w R := by kernel_rfl
theorem f24_does (p0 : Option Addr) (l0 c0 : Nat) (p1 : Option Addr) (l1 c1 : Nat) {w : World} {R : Ending → World → Prop} (h : f24_vc p0 l0 c0 p1 l1 c1 w R) : Does Try.prog 24 #[.slice p0 l0 c0, .slice p1 l1 c1] w R :=
  does_of_vc (ss := [.v (.slice p0 l0 c0), .v (.slice p1 l1 c1)]) f24_ann mixed call24 Try.func24 rfl rfl (show 2 ≤ Try.f24.ntmps by decide) ((f24_eq p0 l0 c0 p1 l1 c1 w R).symm ▸ h)
/-- Of escritoire/edit.Turn (function 25): the condition. -/
def f25_vc (p0 : Option Addr) (l0 c0 : Nat) (w : World) (R : Ending → World → Prop) : Prop :=
  InK .i64 (((l0 : Int)) - 1) ∧ ∃ I3 : Option Addr → Nat → Nat → Int → Nat → World → Prop, (∃ nl3, I3 none 0 0 (((l0 : Int)) - 1) nl3 w) ∧ ∀ (p3 : Option Addr) (l3 c3 : Nat), ∀ x4 : Int, ∀ (nl3 : Nat) (wl3 : World), I3 p3 l3 c3 x4 nl3 wl3 →
  Br (decide (x4 ≥ 0))
  (∀ wd5, Drew wl3 wd5 →
  ∃ S5 : World → Prop, S5 wd5 ∧ ((0 : Int) ≤ x4 ∧ x4 < (l0 : Int)) ∧ ∃ b15 o15, p0 = some ⟨b15, o15, none⟩ ∧ ∃ n17 : Int, (∀ w, S5 w → w.cell? ⟨b15, o15 + (x4).toNat * 3, none⟩ = some (.int .i64 n17)) ∧ ((0 : Int) ≤ x4 ∧ x4 < (l0 : Int)) ∧ ∃ b20 o20, p0 = some ⟨b20, o20, none⟩ ∧ ∃ (p22 : Option Addr) (l22 c22 : Nat), wd5.cell? ⟨b20, o20 + (x4).toNat * 3 + 2, none⟩ = some (.slice p22 l22 c22) ∧ Does Try.prog 46 #[.slice p22 l22 c22] wd5 fun e23 w23 =>
  ∃ (p23 : Option Addr) (l23 c23 : Nat), e23 = .returned (.slice p23 l23 c23) ∧ S5 w23 ∧ ((0 : Int) ≤ x4 ∧ x4 < (l0 : Int)) ∧ ∃ b26 o26, p0 = some ⟨b26, o26, none⟩ ∧ ∃ (p28 : Option Addr) (l28 c28 : Nat), (∀ w, S5 w → w.cell? ⟨b26, o26 + (x4).toNat * 3 + 1, none⟩ = some (.slice p28 l28 c28)) ∧ Does Try.prog 46 #[.slice p28 l28 c28] w23 fun e29 w29 =>
  ∃ (p29 : Option Addr) (l29 c29 : Nat), e29 = .returned (.slice p29 l29 c29) ∧ S5 w29 ∧ ∀ b31 w31, NewBlk w29 b31 [.int .i64 n17, .slice p23 l23 c23, .slice p29 l29 c29] 43 w31 →
  ∃ (p32 : Option Addr) (l32 c32 : Nat) (w32 : World), (Builtin.append_ #[45, 45] 45 #[.slice p3 l3 c3, .slice (some ⟨b31, 0, none⟩) 1 1]).run Try.prog w31 = .ok (.slice p32 l32 c32) w32 ∧
  InK .i64 (x4 - 1) ∧ ∃ ml3, ml3 < nl3 ∧ I3 p32 l32 c32 (x4 - 1) ml3 w32)
  (R (.returned (.slice p3 l3 c3)) wl3)
def f25_ann : Ann := { loops := [(3, [(3, .slice), (4, .int .i64)])], cuts := [], flip := [], throws := [] }
theorem f25_eq (p0 : Option Addr) (l0 c0 : Nat) (w : World) (R : Ending → World → Prop) : vc Try.prog f25_ann (bodyOf Try.f25) (retQ Try.prog Try.f25 R) (envOf Try.f25.ntmps [.v (.slice p0 l0 c0)]) [] w = f25_vc p0 l0 c0 w R := by kernel_rfl
theorem f25_does (p0 : Option Addr) (l0 c0 : Nat) {w : World} {R : Ending → World → Prop} (h : f25_vc p0 l0 c0 w R) : Does Try.prog 25 #[.slice p0 l0 c0] w R :=
  does_of_vc (ss := [.v (.slice p0 l0 c0)]) f25_ann mixed call25 Try.func25 rfl rfl (show 1 ≤ Try.f25.ntmps by decide) ((f25_eq p0 l0 c0 w R).symm ▸ h)
/-- Of (*escritoire/history.History).Node (function 26): the condition. -/
def f26_vc (a0 : Option Addr) (a1 : Int) (w : World) (R : Ending → World → Prop) : Prop :=
  ∀ b4 w4, NewBlk w b4 [.int .i64 0, .slice none 0 0, .int .i64 0] 58 w4 →
  Does Try.prog 44 #[.pointer a0, .int .i64 a1] w4 fun e9 w9 =>
  ∃ b9 : Bool, e9 = .returned (.bool b9) ∧ Br (!b9)
  (CanStore w9 b4 0 ∧ ∀ ws, Stored w9 b4 0 (.int .i64 0) ws →
  CanStore ws b4 1 ∧ ∀ ws_1, Stored ws b4 1 (.slice none 0 0) ws_1 →
  CanStore ws_1 b4 2 ∧ ∀ ws_2, Stored ws_1 b4 2 (.int .i64 0) ws_2 →
  ∃ n4 : Int, ws_2.cell? ⟨b4, 0, none⟩ = some (.int .i64 n4) ∧ ∃ (p4 : Option Addr) (l4 c4 : Nat), ws_2.cell? ⟨b4, 1, none⟩ = some (.slice p4 l4 c4) ∧ ∃ n4_1 : Int, ws_2.cell? ⟨b4, 2, none⟩ = some (.int .i64 n4_1) ∧ R (.returned (.tuple #[.agg #[.int .i64 n4, .slice p4 l4 c4, .int .i64 n4_1], .bool false])) ws_2)
  (∃ b13 o13, a0 = some ⟨b13, o13, none⟩ ∧ ∃ (p15 : Option Addr) (l15 c15 : Nat), w9.cell? ⟨b13, o13, none⟩ = some (.slice p15 l15 c15) ∧ ((0 : Int) ≤ a1 ∧ a1 < (l15 : Int)) ∧ ∃ b17 o17, p15 = some ⟨b17, o17, none⟩ ∧ ∃ n18 : Int, w9.cell? ⟨b17, o17 + (a1).toNat * 3, none⟩ = some (.int .i64 n18) ∧ ∃ (p18 : Option Addr) (l18 c18 : Nat), w9.cell? ⟨b17, o17 + (a1).toNat * 3 + 1, none⟩ = some (.slice p18 l18 c18) ∧ ∃ n18_1 : Int, w9.cell? ⟨b17, o17 + (a1).toNat * 3 + 2, none⟩ = some (.int .i64 n18_1) ∧ ∀ b6 w6, NewBlk w9 b6 [.int .i64 0, .slice none 0 0, .int .i64 0] 58 w6 →
  CanStore w6 b6 0 ∧ ∀ ws_3, Stored w6 b6 0 (.int .i64 n18) ws_3 →
  CanStore ws_3 b6 1 ∧ ∀ ws_4, Stored ws_3 b6 1 (.slice p18 l18 c18) ws_4 →
  CanStore ws_4 b6 2 ∧ ∀ ws_5, Stored ws_4 b6 2 (.int .i64 n18_1) ws_5 →
  ∃ (p20 : Option Addr) (l20 c20 : Nat), ws_5.cell? ⟨b6, 1, none⟩ = some (.slice p20 l20 c20) ∧ Does Try.prog 40 #[.slice p20 l20 c20] ws_5 fun e21 w21 =>
  ∃ (p21 : Option Addr) (l21 c21 : Nat), e21 = .returned (.slice p21 l21 c21) ∧ CanStore w21 b6 1 ∧ ∀ ws_6, Stored w21 b6 1 (.slice p21 l21 c21) ws_6 →
  ∃ n23 : Int, ws_6.cell? ⟨b6, 0, none⟩ = some (.int .i64 n23) ∧ ∃ (p23 : Option Addr) (l23 c23 : Nat), ws_6.cell? ⟨b6, 1, none⟩ = some (.slice p23 l23 c23) ∧ ∃ n23_1 : Int, ws_6.cell? ⟨b6, 2, none⟩ = some (.int .i64 n23_1) ∧ CanStore ws_6 b4 0 ∧ ∀ ws_7, Stored ws_6 b4 0 (.int .i64 n23) ws_7 →
  CanStore ws_7 b4 1 ∧ ∀ ws_8, Stored ws_7 b4 1 (.slice p23 l23 c23) ws_8 →
  CanStore ws_8 b4 2 ∧ ∀ ws_9, Stored ws_8 b4 2 (.int .i64 n23_1) ws_9 →
  ∃ n4_2 : Int, ws_9.cell? ⟨b4, 0, none⟩ = some (.int .i64 n4_2) ∧ ∃ (p4_1 : Option Addr) (l4_1 c4_1 : Nat), ws_9.cell? ⟨b4, 1, none⟩ = some (.slice p4_1 l4_1 c4_1) ∧ ∃ n4_3 : Int, ws_9.cell? ⟨b4, 2, none⟩ = some (.int .i64 n4_3) ∧ R (.returned (.tuple #[.agg #[.int .i64 n4_2, .slice p4_1 l4_1 c4_1, .int .i64 n4_3], .bool true])) ws_9)
def f26_ann : Ann := { loops := [], cuts := [], flip := [], throws := [] }
theorem f26_eq (a0 : Option Addr) (a1 : Int) (w : World) (R : Ending → World → Prop) : vc Try.prog f26_ann (bodyOf Try.f26) (retQ Try.prog Try.f26 R) (envOf Try.f26.ntmps [.v (.pointer a0), .v (.int .i64 a1)]) [] w = f26_vc a0 a1 w R := by kernel_rfl
theorem f26_does (a0 : Option Addr) (a1 : Int) {w : World} {R : Ending → World → Prop} (h : f26_vc a0 a1 w R) : Does Try.prog 26 #[.pointer a0, .int .i64 a1] w R :=
  does_of_vc (ss := [.v (.pointer a0), .v (.int .i64 a1)]) f26_ann mixed call26 Try.func26 rfl rfl (show 2 ≤ Try.f26.ntmps by decide) ((f26_eq a0 a1 w R).symm ▸ h)
/-- Of escritoire/escritoireref18.New (function 27): the condition. -/
def f27_vc  (w : World) (R : Ending → World → Prop) : Prop :=
  ∀ b2 w2, NewBlk w b2 [.int .i64 (-1), .slice none 0 0, .int .i64 0] 58 w2 →
  ∀ b4 w4, NewBlk w2 b4 [.slice (some ⟨b2, 0, none⟩) 1 1, .int .i64 0] 36 w4 →
  R (.returned (.pointer (some ⟨b4, 0, none⟩))) w4
def f27_ann : Ann := { loops := [], cuts := [], flip := [], throws := [] }
theorem f27_eq  (w : World) (R : Ending → World → Prop) : vc Try.prog f27_ann (bodyOf Try.f27) (retQ Try.prog Try.f27 R) (envOf Try.f27.ntmps []) [] w = f27_vc  w R := by kernel_rfl
theorem f27_does  {w : World} {R : Ending → World → Prop} (h : f27_vc  w R) : Does Try.prog 27 #[] w R :=
  does_of_vc (ss := []) f27_ann mixed call27 Try.func27 rfl rfl (show 0 ≤ Try.f27.ntmps by decide) ((f27_eq  w R).symm ▸ h)
/-- Of (*escritoire/escritoireref18.History).Add (function 28): the condition. -/
def f28_vc (a0 : Option Addr) (p1 : Option Addr) (l1 c1 : Nat) (a2 : Int) (w : World) (R : Ending → World → Prop) : Prop :=
  Br (((l1 : Int)) == 0)
  (R (.returned (.tuple #[.int .i64 0, .int .i64 1])) w)
  (Br (decide (a2 < 0))
  (R (.returned (.tuple #[.int .i64 0, .int .i64 1])) w)
  (∃ b16 o16, a0 = some ⟨b16, o16, none⟩ ∧ ∃ (p18 : Option Addr) (l18 c18 : Nat), w.cell? ⟨b16, o16, none⟩ = some (.slice p18 l18 c18) ∧ Br (decide (((l18 : Int)) ≥ 65536))
  (R (.returned (.tuple #[.int .i64 0, .int .i64 6])) w)
  (∀ wd5, Drew w wd5 →
  ∃ S5 : World → Prop, S5 wd5 ∧ ∃ b23 o23, a0 = some ⟨b23, o23, none⟩ ∧ ∃ (p25 : Option Addr) (l25 c25 : Nat), (∀ w, S5 w → w.cell? ⟨b23, o23, none⟩ = some (.slice p25 l25 c25)) ∧ ∃ b27 o27, a0 = some ⟨b27, o27, none⟩ ∧ ∃ n29 : Int, (∀ w, S5 w → w.cell? ⟨b27, o27 + 1, none⟩ = some (.int .i64 n29)) ∧ Does Try.prog 47 #[.slice p1 l1 c1] wd5 fun e31 w31 =>
  ∃ (p31 : Option Addr) (l31 c31 : Nat), e31 = .returned (.slice p31 l31 c31) ∧ S5 w31 ∧ ∀ b34 w34, NewBlk w31 b34 [.int .i64 n29, .slice p31 l31 c31, .int .i64 a2] 58 w34 →
  S5 w34 ∧ ∃ (p35 : Option Addr) (l35 c35 : Nat) (w35 : World), (Builtin.append_ #[22, 22] 22 #[.slice p25 l25 c25, .slice (some ⟨b34, 0, none⟩) 1 1]).run Try.prog w34 = .ok (.slice p35 l35 c35) w35 ∧
  ∃ b36 o36, a0 = some ⟨b36, o36, none⟩ ∧ CanStore w35 b36 o36 ∧ ∀ ws, Stored w35 b36 o36 (.slice p35 l35 c35) ws →
  ∃ b40 o40, a0 = some ⟨b40, o40, none⟩ ∧ ∃ (p42 : Option Addr) (l42 c42 : Nat), ws.cell? ⟨b40, o40, none⟩ = some (.slice p42 l42 c42) ∧ InK .i64 (((l42 : Int)) - 1) ∧ ∃ b45 o45, a0 = some ⟨b45, o45, none⟩ ∧ CanStore ws b45 (o45 + 1) ∧ ∀ ws_1, Stored ws b45 (o45 + 1) (.int .i64 (((l42 : Int)) - 1)) ws_1 →
  ∃ b48 o48, a0 = some ⟨b48, o48, none⟩ ∧ ∃ n50 : Int, ws_1.cell? ⟨b48, o48 + 1, none⟩ = some (.int .i64 n50) ∧ R (.returned (.tuple #[.int .i64 n50, .int .i64 0])) ws_1)))
def f28_ann : Ann := { loops := [], cuts := [], flip := [], throws := [] }
theorem f28_eq (a0 : Option Addr) (p1 : Option Addr) (l1 c1 : Nat) (a2 : Int) (w : World) (R : Ending → World → Prop) : vc Try.prog f28_ann (bodyOf Try.f28) (retQ Try.prog Try.f28 R) (envOf Try.f28.ntmps [.v (.pointer a0), .v (.slice p1 l1 c1), .v (.int .i64 a2)]) [] w = f28_vc a0 p1 l1 c1 a2 w R := by kernel_rfl
theorem f28_does (a0 : Option Addr) (p1 : Option Addr) (l1 c1 : Nat) (a2 : Int) {w : World} {R : Ending → World → Prop} (h : f28_vc a0 p1 l1 c1 a2 w R) : Does Try.prog 28 #[.pointer a0, .slice p1 l1 c1, .int .i64 a2] w R :=
  does_of_vc (ss := [.v (.pointer a0), .v (.slice p1 l1 c1), .v (.int .i64 a2)]) f28_ann mixed call28 Try.func28 rfl rfl (show 3 ≤ Try.f28.ntmps by decide) ((f28_eq a0 p1 l1 c1 a2 w R).symm ▸ h)
/-- Of (*escritoire/escritoireref18.History).Undo (function 29): the condition. -/
def f29_vc (a0 : Option Addr) (w : World) (R : Ending → World → Prop) : Prop :=
  ∃ b7 o7, a0 = some ⟨b7, o7, none⟩ ∧ ∃ n9 : Int, w.cell? ⟨b7, o7 + 1, none⟩ = some (.int .i64 n9) ∧ Br (n9 == 0)
  (R (.returned (.tuple #[.slice none 0 0, .int .i64 0, .bool false])) w)
  (∀ wd3, Drew w wd3 →
  ∃ S3 : World → Prop, S3 wd3 ∧ ∃ b12 o12, a0 = some ⟨b12, o12, none⟩ ∧ ∃ (p14 : Option Addr) (l14 c14 : Nat), (∀ w, S3 w → w.cell? ⟨b12, o12, none⟩ = some (.slice p14 l14 c14)) ∧ ∃ b16 o16, a0 = some ⟨b16, o16, none⟩ ∧ ∃ n18 : Int, (∀ w, S3 w → w.cell? ⟨b16, o16 + 1, none⟩ = some (.int .i64 n18)) ∧ ((0 : Int) ≤ n18 ∧ n18 < (l14 : Int)) ∧ ∃ b19 o19, p14 = some ⟨b19, o19, none⟩ ∧ ∃ n20 : Int, (∀ w, S3 w → w.cell? ⟨b19, o19 + (n18).toNat * 3, none⟩ = some (.int .i64 n20)) ∧ ∃ (p20 : Option Addr) (l20 c20 : Nat), (∀ w, S3 w → w.cell? ⟨b19, o19 + (n18).toNat * 3 + 1, none⟩ = some (.slice p20 l20 c20)) ∧ ∃ n20_1 : Int, (∀ w, S3 w → w.cell? ⟨b19, o19 + (n18).toNat * 3 + 2, none⟩ = some (.int .i64 n20_1)) ∧ ∀ b5 w5, NewBlk wd3 b5 [.int .i64 0, .slice none 0 0, .int .i64 0] 58 w5 →
  S3 w5 ∧ CanStore w5 b5 0 ∧ ∀ ws, Stored w5 b5 0 (.int .i64 n20) ws →
  CanStore ws b5 1 ∧ ∀ ws_1, Stored ws b5 1 (.slice p20 l20 c20) ws_1 →
  CanStore ws_1 b5 2 ∧ ∀ ws_2, Stored ws_1 b5 2 (.int .i64 n20_1) ws_2 →
  ∃ n23 : Int, ws_2.cell? ⟨b5, 0, none⟩ = some (.int .i64 n23) ∧ ∃ b24 o24, a0 = some ⟨b24, o24, none⟩ ∧ CanStore ws_2 b24 (o24 + 1) ∧ ∀ ws_3, Stored ws_2 b24 (o24 + 1) (.int .i64 n23) ws_3 →
  ∀ wd5, Drew ws_3 wd5 →
  ∃ S5 : World → Prop, S5 wd5 ∧ ∃ (p27 : Option Addr) (l27 c27 : Nat), wd5.cell? ⟨b5, 1, none⟩ = some (.slice p27 l27 c27) ∧ Does Try.prog 48 #[.slice p27 l27 c27] wd5 fun e28 w28 =>
  ∃ (p28 : Option Addr) (l28 c28 : Nat), e28 = .returned (.slice p28 l28 c28) ∧ S5 w28 ∧ ∃ n30 : Int, (∀ w, S5 w → w.cell? ⟨b5, 2, none⟩ = some (.int .i64 n30)) ∧ R (.returned (.tuple #[.slice p28 l28 c28, .int .i64 n30, .bool true])) w28)
def f29_ann : Ann := { loops := [], cuts := [], flip := [], throws := [] }
theorem f29_eq (a0 : Option Addr) (w : World) (R : Ending → World → Prop) : vc Try.prog f29_ann (bodyOf Try.f29) (retQ Try.prog Try.f29 R) (envOf Try.f29.ntmps [.v (.pointer a0)]) [] w = f29_vc a0 w R := by kernel_rfl
theorem f29_does (a0 : Option Addr) {w : World} {R : Ending → World → Prop} (h : f29_vc a0 w R) : Does Try.prog 29 #[.pointer a0] w R :=
  does_of_vc (ss := [.v (.pointer a0)]) f29_ann mixed call29 Try.func29 rfl rfl (show 1 ≤ Try.f29.ntmps by decide) ((f29_eq a0 w R).symm ▸ h)
/-- Of (*escritoire/escritoireref18.History).Redo (function 30): the condition. -/
def f30_vc (a0 : Option Addr) (w : World) (R : Ending → World → Prop) : Prop :=
  ∃ b10 o10, a0 = some ⟨b10, o10, none⟩ ∧ ∃ n12 : Int, w.cell? ⟨b10, o10 + 1, none⟩ = some (.int .i64 n12) ∧ Does Try.prog 33 #[.pointer a0, .int .i64 n12] w fun e13 w13 =>
  ∃ (p13 : Option Addr) (l13 c13 : Nat), e13 = .returned (.slice p13 l13 c13) ∧ Br (((l13 : Int)) == 0)
  (R (.returned (.tuple #[.slice none 0 0, .int .i64 0, .bool false])) w13)
  (InK .i64 (((l13 : Int)) - 1) ∧ ((0 : Int) ≤ (((l13 : Int)) - 1) ∧ (((l13 : Int)) - 1) < (l13 : Int)) ∧ ∃ b23 o23, p13 = some ⟨b23, o23, none⟩ ∧ ∃ n24 : Int, w13.cell? ⟨b23, o23 + (((l13 : Int)) - 1).toNat, none⟩ = some (.int .i64 n24) ∧ Does Try.prog 49 #[.pointer a0, .int .i64 n24] w13 fun e25 w25 =>
  ∃ (p25 : Option Addr) (l25 c25 : Nat), ∃ n25 : Int, e25 = .returned (.tuple #[.slice p25 l25 c25, .int .i64 n25]) ∧ R (.returned (.tuple #[.slice p25 l25 c25, .int .i64 n25, .bool true])) w25)
def f30_ann : Ann := { loops := [], cuts := [], flip := [], throws := [] }
theorem f30_eq (a0 : Option Addr) (w : World) (R : Ending → World → Prop) : vc Try.prog f30_ann (bodyOf Try.f30) (retQ Try.prog Try.f30 R) (envOf Try.f30.ntmps [.v (.pointer a0)]) [] w = f30_vc a0 w R := by kernel_rfl
theorem f30_does (a0 : Option Addr) {w : World} {R : Ending → World → Prop} (h : f30_vc a0 w R) : Does Try.prog 30 #[.pointer a0] w R :=
  does_of_vc (ss := [.v (.pointer a0)]) f30_ann mixed call30 Try.func30 rfl rfl (show 1 ≤ Try.f30.ntmps by decide) ((f30_eq a0 w R).symm ▸ h)
/-- Of (*escritoire/escritoireref18.History).Jump (function 31): the condition. -/
def f31_vc (a0 : Option Addr) (a1 : Int) (w : World) (R : Ending → World → Prop) : Prop :=
  Br (decide (a1 < 0))
  (R (.returned (.tuple #[.slice none 0 0, .int .i64 0, .bool false])) w)
  (∃ b20 o20, a0 = some ⟨b20, o20, none⟩ ∧ ∃ (p22 : Option Addr) (l22 c22 : Nat), w.cell? ⟨b20, o20, none⟩ = some (.slice p22 l22 c22) ∧ Br (decide (a1 ≥ ((l22 : Int))))
  (R (.returned (.tuple #[.slice none 0 0, .int .i64 0, .bool false])) w)
  (∃ I5 : Option Addr → Nat → Nat → Int → Nat → World → Prop, (∃ nl5, I5 none 0 0 0 nl5 w) ∧ ∀ (p7 : Option Addr) (l7 c7 : Nat), ∀ x8 : Int, ∀ (nl5 : Nat) (wl5 : World), I5 p7 l7 c7 x8 nl5 wl5 →
  ∃ b28 o28, a0 = some ⟨b28, o28, none⟩ ∧ ∃ n30 : Int, wl5.cell? ⟨b28, o28 + 1, none⟩ = some (.int .i64 n30) ∧ Does Try.prog 50 #[.pointer a0, .int .i64 n30, .int .i64 a1] wl5 fun e32 w32 =>
  ∃ b32 : Bool, e32 = .returned (.bool b32) ∧ Br (!b32)
  (Does Try.prog 29 #[.pointer a0] w32 fun e36 w36 =>
  ∃ (p36 : Option Addr) (l36 c36 : Nat), ∃ n36 : Int, ∃ b36 : Bool, e36 = .returned (.tuple #[.slice p36 l36 c36, .int .i64 n36, .bool b36]) ∧ ∃ (p42 : Option Addr) (l42 c42 : Nat) (w42 : World), (Builtin.append_ #[45, 45] 45 #[.slice p7 l7 c7, .slice p36 l36 c36]).run Try.prog w36 = .ok (.slice p42 l42 c42) w42 ∧
  ∃ ml5, ml5 < nl5 ∧ I5 p42 l42 c42 n36 ml5 w42)
  (∃ I9 : Option Addr → Nat → Nat → Int → Nat → World → Prop, (∃ nl9, I9 p7 l7 c7 x8 nl9 w32) ∧ ∀ (p7_1 : Option Addr) (l7_1 c7_1 : Nat), ∀ x8_1 : Int, ∀ (nl9 : Nat) (wl9 : World), I9 p7_1 l7_1 c7_1 x8_1 nl9 wl9 →
  ∃ b45 o45, a0 = some ⟨b45, o45, none⟩ ∧ ∃ n47 : Int, wl9.cell? ⟨b45, o45 + 1, none⟩ = some (.int .i64 n47) ∧ Br (n47 != a1)
  (∃ I11 : Int → Nat → World → Prop, (∃ nl11, I11 a1 nl11 wl9) ∧ ∀ x12 : Int, ∀ (nl11 : Nat) (wl11 : World), I11 x12 nl11 wl11 →
  ∀ wd11, Drew wl11 wd11 →
  ∃ b52 o52, a0 = some ⟨b52, o52, none⟩ ∧ ∃ (p54 : Option Addr) (l54 c54 : Nat), wd11.cell? ⟨b52, o52, none⟩ = some (.slice p54 l54 c54) ∧ ((0 : Int) ≤ x12 ∧ x12 < (l54 : Int)) ∧ ∃ b56 o56, p54 = some ⟨b56, o56, none⟩ ∧ ∃ n58 : Int, wd11.cell? ⟨b56, o56 + (x12).toNat * 3, none⟩ = some (.int .i64 n58) ∧ ∃ b60 o60, a0 = some ⟨b60, o60, none⟩ ∧ ∃ n62 : Int, wd11.cell? ⟨b60, o60 + 1, none⟩ = some (.int .i64 n62) ∧ Br (n58 != n62)
  (∃ b65 o65, a0 = some ⟨b65, o65, none⟩ ∧ ∃ (p67 : Option Addr) (l67 c67 : Nat), wd11.cell? ⟨b65, o65, none⟩ = some (.slice p67 l67 c67) ∧ ((0 : Int) ≤ x12 ∧ x12 < (l67 : Int)) ∧ ∃ b69 o69, p67 = some ⟨b69, o69, none⟩ ∧ ∃ n71 : Int, wd11.cell? ⟨b69, o69 + (x12).toNat * 3, none⟩ = some (.int .i64 n71) ∧ ∃ ml11, ml11 < nl11 ∧ I11 n71 ml11 wd11)
  (Does Try.prog 49 #[.pointer a0, .int .i64 x12] wd11 fun e75 w75 =>
  ∃ (p75 : Option Addr) (l75 c75 : Nat), ∃ n75 : Int, e75 = .returned (.tuple #[.slice p75 l75 c75, .int .i64 n75]) ∧ ∃ (p80 : Option Addr) (l80 c80 : Nat) (w80 : World), (Builtin.append_ #[45, 45] 45 #[.slice p7_1 l7_1 c7_1, .slice p75 l75 c75]).run Try.prog w75 = .ok (.slice p80 l80 c80) w80 ∧
  ∃ ml9, ml9 < nl9 ∧ I9 p80 l80 c80 n75 ml9 w80))
  (R (.returned (.tuple #[.slice p7_1 l7_1 c7_1, .int .i64 x8_1, .bool true])) wl9))))
def f31_ann : Ann := { loops := [(5, [(7, .slice), (8, .int .i64)]), (9, [(7, .slice), (8, .int .i64)]), (11, [(12, .int .i64)])], cuts := [], flip := [], throws := [] }
theorem f31_eq (a0 : Option Addr) (a1 : Int) (w : World) (R : Ending → World → Prop) : vc Try.prog f31_ann (bodyOf Try.f31) (retQ Try.prog Try.f31 R) (envOf Try.f31.ntmps [.v (.pointer a0), .v (.int .i64 a1)]) [] w = f31_vc a0 a1 w R := by kernel_rfl
theorem f31_does (a0 : Option Addr) (a1 : Int) {w : World} {R : Ending → World → Prop} (h : f31_vc a0 a1 w R) : Does Try.prog 31 #[.pointer a0, .int .i64 a1] w R :=
  does_of_vc (ss := [.v (.pointer a0), .v (.int .i64 a1)]) f31_ann mixed call31 Try.func31 rfl rfl (show 2 ≤ Try.f31.ntmps by decide) ((f31_eq a0 a1 w R).symm ▸ h)
/-- Of escritoire/escritoirelaw19.kids (function 32): the condition. -/
def f32_vc (p0 : Option Addr) (l0 c0 : Nat) (p1 : Option Addr) (l1 c1 : Nat) (w : World) (R : Ending → World → Prop) : Prop :=
  Br (((l0 : Int)) != ((l1 : Int)))
  (R (.returned (.bool false)) w)
  (∃ I4 : Int → Nat → World → Prop, (∃ nl4, I4 0 nl4 w) ∧ ∀ x5 : Int, ∀ (nl4 : Nat) (wl4 : World), I4 x5 nl4 wl4 →
  Br (decide (x5 < ((l0 : Int))))
  (∀ wd6, Drew wl4 wd6 →
  ((0 : Int) ≤ x5 ∧ x5 < (l0 : Int)) ∧ ∃ b19 o19, p0 = some ⟨b19, o19, none⟩ ∧ ∃ n20 : Int, wd6.cell? ⟨b19, o19 + (x5).toNat, none⟩ = some (.int .i64 n20) ∧ ((0 : Int) ≤ x5 ∧ x5 < (l1 : Int)) ∧ ∃ b23 o23, p1 = some ⟨b23, o23, none⟩ ∧ ∃ n24 : Int, wd6.cell? ⟨b23, o23 + (x5).toNat, none⟩ = some (.int .i64 n24) ∧ Br (n20 != n24)
  (R (.returned (.bool false)) wd6)
  (InK .i64 (x5 + 1) ∧ ∃ ml4, ml4 < nl4 ∧ I4 (x5 + 1) ml4 wd6))
  (R (.returned (.bool true)) wl4))
def f32_ann : Ann := { loops := [(4, [(5, .int .i64)])], cuts := [], flip := [], throws := [] }
theorem f32_eq (p0 : Option Addr) (l0 c0 : Nat) (p1 : Option Addr) (l1 c1 : Nat) (w : World) (R : Ending → World → Prop) : vc Try.prog f32_ann (bodyOf Try.f32) (retQ Try.prog Try.f32 R) (envOf Try.f32.ntmps [.v (.slice p0 l0 c0), .v (.slice p1 l1 c1)]) [] w = f32_vc p0 l0 c0 p1 l1 c1 w R := by kernel_rfl
theorem f32_does (p0 : Option Addr) (l0 c0 : Nat) (p1 : Option Addr) (l1 c1 : Nat) {w : World} {R : Ending → World → Prop} (h : f32_vc p0 l0 c0 p1 l1 c1 w R) : Does Try.prog 32 #[.slice p0 l0 c0, .slice p1 l1 c1] w R :=
  does_of_vc (ss := [.v (.slice p0 l0 c0), .v (.slice p1 l1 c1)]) f32_ann mixed call32 Try.func32 rfl rfl (show 2 ≤ Try.f32.ntmps by decide) ((f32_eq p0 l0 c0 p1 l1 c1 w R).symm ▸ h)
/-- Of (*escritoire/escritoireref18.History).Kids (function 33): the condition. -/
def f33_vc (a0 : Option Addr) (a1 : Int) (w : World) (R : Ending → World → Prop) : Prop :=
  ∃ I3 : Option Addr → Nat → Nat → Int → Nat → World → Prop, (∃ nl3, I3 none 0 0 1 nl3 w) ∧ ∀ (p5 : Option Addr) (l5 c5 : Nat), ∀ x6 : Int, ∀ (nl3 : Nat) (wl3 : World), I3 p5 l5 c5 x6 nl3 wl3 →
  ∃ b9 o9, a0 = some ⟨b9, o9, none⟩ ∧ ∃ (p11 : Option Addr) (l11 c11 : Nat), wl3.cell? ⟨b9, o9, none⟩ = some (.slice p11 l11 c11) ∧ Br (decide (x6 < ((l11 : Int))))
  (Br (decide (a1 ≥ 0))
  (∃ b20 o20, a0 = some ⟨b20, o20, none⟩ ∧ ∃ (p22 : Option Addr) (l22 c22 : Nat), wl3.cell? ⟨b20, o20, none⟩ = some (.slice p22 l22 c22) ∧ ((0 : Int) ≤ x6 ∧ x6 < (l22 : Int)) ∧ ∃ b24 o24, p22 = some ⟨b24, o24, none⟩ ∧ ∃ n26 : Int, wl3.cell? ⟨b24, o24 + (x6).toNat * 3, none⟩ = some (.int .i64 n26) ∧ Br (n26 == a1)
  (∀ b32 w32, NewBlk wl3 b32 [.int .i64 x6] 3 w32 →
  ∃ (p33 : Option Addr) (l33 c33 : Nat) (w33 : World), (Builtin.append_ #[48, 48] 48 #[.slice p5 l5 c5, .slice (some ⟨b32, 0, none⟩) 1 1]).run Try.prog w32 = .ok (.slice p33 l33 c33) w33 ∧
  InK .i64 (x6 + 1) ∧ ∃ ml3, ml3 < nl3 ∧ I3 p33 l33 c33 (x6 + 1) ml3 w33)
  (InK .i64 (x6 + 1) ∧ ∃ ml3, ml3 < nl3 ∧ I3 p5 l5 c5 (x6 + 1) ml3 wl3))
  (InK .i64 (x6 + 1) ∧ ∃ ml3, ml3 < nl3 ∧ I3 p5 l5 c5 (x6 + 1) ml3 wl3))
  (R (.returned (.slice p5 l5 c5)) wl3)
def f33_ann : Ann := { loops := [(3, [(5, .slice), (6, .int .i64)])], cuts := [], flip := [], throws := [] }
theorem f33_eq (a0 : Option Addr) (a1 : Int) (w : World) (R : Ending → World → Prop) : vc Try.prog f33_ann (bodyOf Try.f33) (retQ Try.prog Try.f33 R) (envOf Try.f33.ntmps [.v (.pointer a0), .v (.int .i64 a1)]) [] w = f33_vc a0 a1 w R := by kernel_rfl
theorem f33_does (a0 : Option Addr) (a1 : Int) {w : World} {R : Ending → World → Prop} (h : f33_vc a0 a1 w R) : Does Try.prog 33 #[.pointer a0, .int .i64 a1] w R :=
  does_of_vc (ss := [.v (.pointer a0), .v (.int .i64 a1)]) f33_ann mixed call33 Try.func33 rfl rfl (show 2 ≤ Try.f33.ntmps by decide) ((f33_eq a0 a1 w R).symm ▸ h)
/-- Of (*escritoire/history.History).Clone (function 34): the condition. -/
def f34_vc (a0 : Option Addr) (w : World) (R : Ending → World → Prop) : Prop :=
  Does Try.prog 42 #[.pointer a0] w fun e4 w4 =>
  ∃ b4 : Bool, e4 = .returned (.bool b4) ∧ Br (!b4)
  (R (.returned (.pointer none)) w4)
  (∀ wd3, Drew w4 wd3 →
  ∃ S3 : World → Prop, S3 wd3 ∧ ∃ b7 o7, a0 = some ⟨b7, o7, none⟩ ∧ ∃ (p9 : Option Addr) (l9 c9 : Nat), wd3.cell? ⟨b7, o7, none⟩ = some (.slice p9 l9 c9) ∧ Does Try.prog 51 #[.slice p9 l9 c9] wd3 fun e10 w10 =>
  ∃ (p10 : Option Addr) (l10 c10 : Nat), e10 = .returned (.slice p10 l10 c10) ∧ S3 w10 ∧ Does Try.prog 43 #[.slice p10 l10 c10] w10 fun e11 w11 =>
  ∃ (p11 : Option Addr) (l11 c11 : Nat), e11 = .returned (.slice p11 l11 c11) ∧ S3 w11 ∧ ∃ b13 o13, a0 = some ⟨b13, o13, none⟩ ∧ ∃ n15 : Int, (∀ w, S3 w → w.cell? ⟨b13, o13 + 1, none⟩ = some (.int .i64 n15)) ∧ ∀ b17 w17, NewBlk w11 b17 [.slice p11 l11 c11, .int .i64 n15] 74 w17 →
  R (.returned (.pointer (some ⟨b17, 0, none⟩))) w17)
def f34_ann : Ann := { loops := [], cuts := [], flip := [], throws := [] }
theorem f34_eq (a0 : Option Addr) (w : World) (R : Ending → World → Prop) : vc Try.prog f34_ann (bodyOf Try.f34) (retQ Try.prog Try.f34 R) (envOf Try.f34.ntmps [.v (.pointer a0)]) [] w = f34_vc a0 w R := by kernel_rfl
theorem f34_does (a0 : Option Addr) {w : World} {R : Ending → World → Prop} (h : f34_vc a0 w R) : Does Try.prog 34 #[.pointer a0] w R :=
  does_of_vc (ss := [.v (.pointer a0)]) f34_ann mixed call34 Try.func34 rfl rfl (show 1 ≤ Try.f34.ntmps by decide) ((f34_eq a0 w R).symm ▸ h)
/-- Of escritoire/escritoireref1.Copy (function 35): the condition. -/
def f35_vc (p0 : Option Addr) (l0 c0 : Nat) (w : World) (R : Ending → World → Prop) : Prop :=
  ∃ I3 : Option Addr → Nat → Nat → Int → Nat → World → Prop, (∃ nl3, I3 none 0 0 0 nl3 w) ∧ ∀ (p3 : Option Addr) (l3 c3 : Nat), ∀ x4 : Int, ∀ (nl3 : Nat) (wl3 : World), I3 p3 l3 c3 x4 nl3 wl3 →
  Br (decide (x4 < ((l0 : Int))))
  (((0 : Int) ≤ x4 ∧ x4 < (l0 : Int)) ∧ ∃ b14 o14, p0 = some ⟨b14, o14, none⟩ ∧ ∃ n15 : Int, wl3.cell? ⟨b14, o14 + (x4).toNat, none⟩ = some (.int .u8 n15) ∧ ∀ b16 w16, NewBlk wl3 b16 [.int .u8 n15] 5 w16 →
  ∃ (p17 : Option Addr) (l17 c17 : Nat) (w17 : World), (Builtin.append_ #[41, 41] 41 #[.slice p3 l3 c3, .slice (some ⟨b16, 0, none⟩) 1 1]).run Try.prog w16 = .ok (.slice p17 l17 c17) w17 ∧
  InK .i64 (x4 + 1) ∧ ∃ ml3, ml3 < nl3 ∧ I3 p17 l17 c17 (x4 + 1) ml3 w17)
  (R (.returned (.slice p3 l3 c3)) wl3)
def f35_ann : Ann := { loops := [(3, [(3, .slice), (4, .int .i64)])], cuts := [], flip := [], throws := [] }
theorem f35_eq (p0 : Option Addr) (l0 c0 : Nat) (w : World) (R : Ending → World → Prop) : vc Try.prog f35_ann (bodyOf Try.f35) (retQ Try.prog Try.f35 R) (envOf Try.f35.ntmps [.v (.slice p0 l0 c0)]) [] w = f35_vc p0 l0 c0 w R := by kernel_rfl
theorem f35_does (p0 : Option Addr) (l0 c0 : Nat) {w : World} {R : Ending → World → Prop} (h : f35_vc p0 l0 c0 w R) : Does Try.prog 35 #[.slice p0 l0 c0] w R :=
  does_of_vc (ss := [.v (.slice p0 l0 c0)]) f35_ann mixed call35 Try.func35 rfl rfl (show 1 ≤ Try.f35.ntmps by decide) ((f35_eq p0 l0 c0 w R).symm ▸ h)
/-- Of escritoire/edit.All (function 36): the condition. -/
def f36_vc (p0 : Option Addr) (l0 c0 : Nat) (p1 : Option Addr) (l1 c1 : Nat) (w : World) (R : Ending → World → Prop) : Prop :=
  ∃ (p11 : Option Addr) (l11 c11 : Nat) (w11 : World), (Builtin.append_ #[41, 41] 41 #[.slice none 0 0, .slice p0 l0 c0]).run Try.prog w = .ok (.slice p11 l11 c11) w11 ∧
  ∃ I3 : Option Addr → Nat → Nat → Int → Nat → World → Prop, (∃ nl3, I3 p11 l11 c11 0 nl3 w11) ∧ ∀ (p0 : Option Addr) (l0 c0 : Nat), ∀ x14 : Int, ∀ (nl3 : Nat) (wl3 : World), I3 p0 l0 c0 x14 nl3 wl3 →
  Br (decide (x14 < ((l1 : Int))))
  (((0 : Int) ≤ x14 ∧ x14 < (l1 : Int)) ∧ ∃ b16 o16, p1 = some ⟨b16, o16, none⟩ ∧ ∃ n17 : Int, wl3.cell? ⟨b16, o16 + (x14).toNat * 3, none⟩ = some (.int .i64 n17) ∧ ∃ (p17 : Option Addr) (l17 c17 : Nat), wl3.cell? ⟨b16, o16 + (x14).toNat * 3 + 1, none⟩ = some (.slice p17 l17 c17) ∧ ∃ (p17_1 : Option Addr) (l17_1 c17_1 : Nat), wl3.cell? ⟨b16, o16 + (x14).toNat * 3 + 2, none⟩ = some (.slice p17_1 l17_1 c17_1) ∧ ∀ b7 w7, NewBlk wl3 b7 [.int .i64 0, .slice none 0 0, .slice none 0 0] 43 w7 →
  CanStore w7 b7 0 ∧ ∀ ws, Stored w7 b7 0 (.int .i64 n17) ws →
  CanStore ws b7 1 ∧ ∀ ws_1, Stored ws b7 1 (.slice p17 l17 c17) ws_1 →
  CanStore ws_1 b7 2 ∧ ∀ ws_2, Stored ws_1 b7 2 (.slice p17_1 l17_1 c17_1) ws_2 →
  ∃ n20 : Int, ws_2.cell? ⟨b7, 0, none⟩ = some (.int .i64 n20) ∧ ∃ (p20 : Option Addr) (l20 c20 : Nat), ws_2.cell? ⟨b7, 1, none⟩ = some (.slice p20 l20 c20) ∧ ∃ (p20_1 : Option Addr) (l20_1 c20_1 : Nat), ws_2.cell? ⟨b7, 2, none⟩ = some (.slice p20_1 l20_1 c20_1) ∧ Does Try.prog 52 #[.slice p0 l0 c0, .agg #[.int .i64 n20, .slice p20 l20 c20, .slice p20_1 l20_1 c20_1]] ws_2 fun e21 w21 =>
  ∃ (p21 : Option Addr) (l21 c21 : Nat), ∃ n21 : Int, e21 = .returned (.tuple #[.slice p21 l21 c21, .int .i64 n21]) ∧ Br (n21 != 0)
  (R (.returned (.tuple #[.slice none 0 0, .int .i64 n21])) w21)
  (InK .i64 (x14 + 1) ∧ ∃ ml3, ml3 < nl3 ∧ I3 p21 l21 c21 (x14 + 1) ml3 w21))
  (R (.returned (.tuple #[.slice p0 l0 c0, .int .i64 0])) wl3)
def f36_ann : Ann := { loops := [(3, [(0, .slice), (14, .int .i64)])], cuts := [], flip := [], throws := [] }
theorem f36_eq (p0 : Option Addr) (l0 c0 : Nat) (p1 : Option Addr) (l1 c1 : Nat) (w : World) (R : Ending → World → Prop) : vc Try.prog f36_ann (bodyOf Try.f36) (retQ Try.prog Try.f36 R) (envOf Try.f36.ntmps [.v (.slice p0 l0 c0), .v (.slice p1 l1 c1)]) [] w = f36_vc p0 l0 c0 p1 l1 c1 w R := by kernel_rfl
theorem f36_does (p0 : Option Addr) (l0 c0 : Nat) (p1 : Option Addr) (l1 c1 : Nat) {w : World} {R : Ending → World → Prop} (h : f36_vc p0 l0 c0 p1 l1 c1 w R) : Does Try.prog 36 #[.slice p0 l0 c0, .slice p1 l1 c1] w R :=
  does_of_vc (ss := [.v (.slice p0 l0 c0), .v (.slice p1 l1 c1)]) f36_ann mixed call36 Try.func36 rfl rfl (show 2 ≤ Try.f36.ntmps by decide) ((f36_eq p0 l0 c0 p1 l1 c1 w R).symm ▸ h)
/-- Of escritoire/escritoireref1.Same (function 37): the condition. -/
def f37_vc (p0 : Option Addr) (l0 c0 : Nat) (p1 : Option Addr) (l1 c1 : Nat) (w : World) (R : Ending → World → Prop) : Prop :=
  Br (((l0 : Int)) != ((l1 : Int)))
  (R (.returned (.bool false)) w)
  (∃ I4 : Int → Nat → World → Prop, (∃ nl4, I4 0 nl4 w) ∧ ∀ x5 : Int, ∀ (nl4 : Nat) (wl4 : World), I4 x5 nl4 wl4 →
  Br (decide (x5 < ((l0 : Int))))
  (∀ wd6, Drew wl4 wd6 →
  ((0 : Int) ≤ x5 ∧ x5 < (l0 : Int)) ∧ ∃ b19 o19, p0 = some ⟨b19, o19, none⟩ ∧ ∃ n20 : Int, wd6.cell? ⟨b19, o19 + (x5).toNat, none⟩ = some (.int .u8 n20) ∧ ((0 : Int) ≤ x5 ∧ x5 < (l1 : Int)) ∧ ∃ b23 o23, p1 = some ⟨b23, o23, none⟩ ∧ ∃ n24 : Int, wd6.cell? ⟨b23, o23 + (x5).toNat, none⟩ = some (.int .u8 n24) ∧ Br (n20 != n24)
  (R (.returned (.bool false)) wd6)
  (InK .i64 (x5 + 1) ∧ ∃ ml4, ml4 < nl4 ∧ I4 (x5 + 1) ml4 wd6))
  (R (.returned (.bool true)) wl4))
def f37_ann : Ann := { loops := [(4, [(5, .int .i64)])], cuts := [], flip := [], throws := [] }
theorem f37_eq (p0 : Option Addr) (l0 c0 : Nat) (p1 : Option Addr) (l1 c1 : Nat) (w : World) (R : Ending → World → Prop) : vc Try.prog f37_ann (bodyOf Try.f37) (retQ Try.prog Try.f37 R) (envOf Try.f37.ntmps [.v (.slice p0 l0 c0), .v (.slice p1 l1 c1)]) [] w = f37_vc p0 l0 c0 p1 l1 c1 w R := by kernel_rfl
theorem f37_does (p0 : Option Addr) (l0 c0 : Nat) (p1 : Option Addr) (l1 c1 : Nat) {w : World} {R : Ending → World → Prop} (h : f37_vc p0 l0 c0 p1 l1 c1 w R) : Does Try.prog 37 #[.slice p0 l0 c0, .slice p1 l1 c1] w R :=
  does_of_vc (ss := [.v (.slice p0 l0 c0), .v (.slice p1 l1 c1)]) f37_ann mixed call37 Try.func37 rfl rfl (show 2 ≤ Try.f37.ntmps by decide) ((f37_eq p0 l0 c0 p1 l1 c1 w R).symm ▸ h)
/-- Of escritoire/escritoirelaw18.Room (function 38): the condition. -/
def f38_vc (p0 : Option Addr) (l0 c0 : Nat) (a1 : Int) (w : World) (R : Ending → World → Prop) : Prop :=
  Br (decide (((l0 : Int)) > a1))
  (R (.returned (.bool false)) w)
  (∃ I4 : Int → Nat → World → Prop, (∃ nl4, I4 0 nl4 w) ∧ ∀ x5 : Int, ∀ (nl4 : Nat) (wl4 : World), I4 x5 nl4 wl4 →
  Br (decide (x5 < ((l0 : Int))))
  (((0 : Int) ≤ x5 ∧ x5 < (l0 : Int)) ∧ ∃ b18 o18, p0 = some ⟨b18, o18, none⟩ ∧ ∃ (p20 : Option Addr) (l20 c20 : Nat), wl4.cell? ⟨b18, o18 + (x5).toNat * 3 + 1, none⟩ = some (.slice p20 l20 c20) ∧ Br (decide (((l20 : Int)) > 300))
  (R (.returned (.bool false)) wl4)
  (((0 : Int) ≤ x5 ∧ x5 < (l0 : Int)) ∧ ∃ b26 o26, p0 = some ⟨b26, o26, none⟩ ∧ ∃ (p28 : Option Addr) (l28 c28 : Nat), wl4.cell? ⟨b26, o26 + (x5).toNat * 3 + 2, none⟩ = some (.slice p28 l28 c28) ∧ Br (decide (((l28 : Int)) > 300))
  (R (.returned (.bool false)) wl4)
  (InK .i64 (x5 + 1) ∧ ∃ ml4, ml4 < nl4 ∧ I4 (x5 + 1) ml4 wl4)))
  (R (.returned (.bool true)) wl4))
def f38_ann : Ann := { loops := [(4, [(5, .int .i64)])], cuts := [], flip := [], throws := [] }
theorem f38_eq (p0 : Option Addr) (l0 c0 : Nat) (a1 : Int) (w : World) (R : Ending → World → Prop) : vc Try.prog f38_ann (bodyOf Try.f38) (retQ Try.prog Try.f38 R) (envOf Try.f38.ntmps [.v (.slice p0 l0 c0), .v (.int .i64 a1)]) [] w = f38_vc p0 l0 c0 a1 w R := by kernel_rfl
theorem f38_does (p0 : Option Addr) (l0 c0 : Nat) (a1 : Int) {w : World} {R : Ending → World → Prop} (h : f38_vc p0 l0 c0 a1 w R) : Does Try.prog 38 #[.slice p0 l0 c0, .int .i64 a1] w R :=
  does_of_vc (ss := [.v (.slice p0 l0 c0), .v (.int .i64 a1)]) f38_ann mixed call38 Try.func38 rfl rfl (show 2 ≤ Try.f38.ntmps by decide) ((f38_eq p0 l0 c0 a1 w R).symm ▸ h)
/-- Of escritoire/history.may (function 39): the condition. -/
def f39_vc (a0 : Int) (a1_0 : Int) (p1_1 : Option Addr) (l1_1 c1_1 : Nat) (a1_2 : Int) (w : World) (R : Ending → World → Prop) : Prop :=
  ∀ b3 w3, NewBlk w b3 [.int .i64 a1_0, .slice p1_1 l1_1 c1_1, .int .i64 a1_2] 58 w3 →
  Br (a0 == 0)
  (∃ n8 : Int, w3.cell? ⟨b3, 0, none⟩ = some (.int .i64 n8) ∧ Br (n8 == (-1))
  (∃ (p12 : Option Addr) (l12 c12 : Nat), w3.cell? ⟨b3, 1, none⟩ = some (.slice p12 l12 c12) ∧ Br (((l12 : Int)) == 0)
  (∃ n18 : Int, w3.cell? ⟨b3, 2, none⟩ = some (.int .i64 n18) ∧ R (.returned (.bool (n18 == 0))) w3)
  (R (.returned (.bool false)) w3))
  (R (.returned (.bool false)) w3))
  (∃ n22 : Int, w3.cell? ⟨b3, 0, none⟩ = some (.int .i64 n22) ∧ Br (decide (n22 ≥ 0))
  (∃ n26 : Int, w3.cell? ⟨b3, 0, none⟩ = some (.int .i64 n26) ∧ Br (decide (n26 < a0))
  (∃ (p32 : Option Addr) (l32 c32 : Nat), w3.cell? ⟨b3, 1, none⟩ = some (.slice p32 l32 c32) ∧ Br (decide (((l32 : Int)) > 0))
  (∃ n38 : Int, w3.cell? ⟨b3, 2, none⟩ = some (.int .i64 n38) ∧ R (.returned (.bool (decide (n38 ≥ 0)))) w3)
  (R (.returned (.bool false)) w3))
  (R (.returned (.bool false)) w3))
  (R (.returned (.bool false)) w3))
def f39_ann : Ann := { loops := [], cuts := [], flip := [], throws := [] }
theorem f39_eq (a0 : Int) (a1_0 : Int) (p1_1 : Option Addr) (l1_1 c1_1 : Nat) (a1_2 : Int) (w : World) (R : Ending → World → Prop) : vc Try.prog f39_ann (bodyOf Try.f39) (retQ Try.prog Try.f39 R) (envOf Try.f39.ntmps [.v (.int .i64 a0), .v (.agg #[.int .i64 a1_0, .slice p1_1 l1_1 c1_1, .int .i64 a1_2])]) [] w = f39_vc a0 a1_0 p1_1 l1_1 c1_1 a1_2 w R := by kernel_rfl
theorem f39_does (a0 : Int) (a1_0 : Int) (p1_1 : Option Addr) (l1_1 c1_1 : Nat) (a1_2 : Int) {w : World} {R : Ending → World → Prop} (h : f39_vc a0 a1_0 p1_1 l1_1 c1_1 a1_2 w R) : Does Try.prog 39 #[.int .i64 a0, .agg #[.int .i64 a1_0, .slice p1_1 l1_1 c1_1, .int .i64 a1_2]] w R :=
  does_of_vc (ss := [.v (.int .i64 a0), .v (.agg #[.int .i64 a1_0, .slice p1_1 l1_1 c1_1, .int .i64 a1_2])]) f39_ann mixed call39 Try.func39 rfl rfl (show 2 ≤ Try.f39.ntmps by decide) ((f39_eq a0 a1_0 p1_1 l1_1 c1_1 a1_2 w R).symm ▸ h)
/-- Of escritoire/history.own (function 40): the condition. -/
def f40_vc (p0 : Option Addr) (l0 c0 : Nat) (w : World) (R : Ending → World → Prop) : Prop :=
  ∃ I3 : Option Addr → Nat → Nat → Int → Nat → World → Prop, (∃ nl3, I3 none 0 0 0 nl3 w) ∧ ∀ (p3 : Option Addr) (l3 c3 : Nat), ∀ x8 : Int, ∀ (nl3 : Nat) (wl3 : World), I3 p3 l3 c3 x8 nl3 wl3 →
  Br (decide (x8 < ((l0 : Int))))
  (((0 : Int) ≤ x8 ∧ x8 < (l0 : Int)) ∧ ∃ b10 o10, p0 = some ⟨b10, o10, none⟩ ∧ ∃ n11 : Int, wl3.cell? ⟨b10, o10 + (x8).toNat * 3, none⟩ = some (.int .i64 n11) ∧ ∃ (p11 : Option Addr) (l11 c11 : Nat), wl3.cell? ⟨b10, o10 + (x8).toNat * 3 + 1, none⟩ = some (.slice p11 l11 c11) ∧ ∃ (p11_1 : Option Addr) (l11_1 c11_1 : Nat), wl3.cell? ⟨b10, o10 + (x8).toNat * 3 + 2, none⟩ = some (.slice p11_1 l11_1 c11_1) ∧ ∀ b5 w5, NewBlk wl3 b5 [.int .i64 0, .slice none 0 0, .slice none 0 0] 43 w5 →
  CanStore w5 b5 0 ∧ ∀ ws, Stored w5 b5 0 (.int .i64 n11) ws →
  CanStore ws b5 1 ∧ ∀ ws_1, Stored ws b5 1 (.slice p11 l11 c11) ws_1 →
  CanStore ws_1 b5 2 ∧ ∀ ws_2, Stored ws_1 b5 2 (.slice p11_1 l11_1 c11_1) ws_2 →
  ∀ wd5, Drew ws_2 wd5 →
  ∃ S5 : World → Prop, S5 wd5 ∧ ∃ n14 : Int, (∀ w, S5 w → w.cell? ⟨b5, 0, none⟩ = some (.int .i64 n14)) ∧ ∃ (p16 : Option Addr) (l16 c16 : Nat), wd5.cell? ⟨b5, 1, none⟩ = some (.slice p16 l16 c16) ∧ Does Try.prog 53 #[.slice p16 l16 c16] wd5 fun e17 w17 =>
  ∃ (p17 : Option Addr) (l17 c17 : Nat), e17 = .returned (.slice p17 l17 c17) ∧ S5 w17 ∧ ∃ (p19 : Option Addr) (l19 c19 : Nat), (∀ w, S5 w → w.cell? ⟨b5, 2, none⟩ = some (.slice p19 l19 c19)) ∧ Does Try.prog 53 #[.slice p19 l19 c19] w17 fun e20 w20 =>
  ∃ (p20 : Option Addr) (l20 c20 : Nat), e20 = .returned (.slice p20 l20 c20) ∧ S5 w20 ∧ ∀ b22 w22, NewBlk w20 b22 [.int .i64 n14, .slice p17 l17 c17, .slice p20 l20 c20] 43 w22 →
  ∃ (p23 : Option Addr) (l23 c23 : Nat) (w23 : World), (Builtin.append_ #[45, 45] 45 #[.slice p3 l3 c3, .slice (some ⟨b22, 0, none⟩) 1 1]).run Try.prog w22 = .ok (.slice p23 l23 c23) w23 ∧
  InK .i64 (x8 + 1) ∧ ∃ ml3, ml3 < nl3 ∧ I3 p23 l23 c23 (x8 + 1) ml3 w23)
  (R (.returned (.slice p3 l3 c3)) wl3)
def f40_ann : Ann := { loops := [(3, [(3, .slice), (8, .int .i64)])], cuts := [], flip := [], throws := [] }
theorem f40_eq (p0 : Option Addr) (l0 c0 : Nat) (w : World) (R : Ending → World → Prop) : vc Try.prog f40_ann (bodyOf Try.f40) (retQ Try.prog Try.f40 R) (envOf Try.f40.ntmps [.v (.slice p0 l0 c0)]) [] w = f40_vc p0 l0 c0 w R := by kernel_rfl
theorem f40_does (p0 : Option Addr) (l0 c0 : Nat) {w : World} {R : Ending → World → Prop} (h : f40_vc p0 l0 c0 w R) : Does Try.prog 40 #[.slice p0 l0 c0] w R :=
  does_of_vc (ss := [.v (.slice p0 l0 c0)]) f40_ann mixed call40 Try.func40 rfl rfl (show 1 ≤ Try.f40.ntmps by decide) ((f40_eq p0 l0 c0 w R).symm ▸ h)
/-- Of escritoire/escritoireref18.CopyNodes (function 41): the condition. -/
def f41_vc (p0 : Option Addr) (l0 c0 : Nat) (w : World) (R : Ending → World → Prop) : Prop :=
  ∃ I3 : Option Addr → Nat → Nat → Int → Nat → World → Prop, (∃ nl3, I3 none 0 0 0 nl3 w) ∧ ∀ (p3 : Option Addr) (l3 c3 : Nat), ∀ x4 : Int, ∀ (nl3 : Nat) (wl3 : World), I3 p3 l3 c3 x4 nl3 wl3 →
  Br (decide (x4 < ((l0 : Int))))
  (∀ wd5, Drew wl3 wd5 →
  ∃ S5 : World → Prop, S5 wd5 ∧ ((0 : Int) ≤ x4 ∧ x4 < (l0 : Int)) ∧ ∃ b14 o14, p0 = some ⟨b14, o14, none⟩ ∧ ∃ n16 : Int, (∀ w, S5 w → w.cell? ⟨b14, o14 + (x4).toNat * 3, none⟩ = some (.int .i64 n16)) ∧ ((0 : Int) ≤ x4 ∧ x4 < (l0 : Int)) ∧ ∃ b19 o19, p0 = some ⟨b19, o19, none⟩ ∧ ∃ n21 : Int, (∀ w, S5 w → w.cell? ⟨b19, o19 + (x4).toNat * 3 + 2, none⟩ = some (.int .i64 n21)) ∧ ((0 : Int) ≤ x4 ∧ x4 < (l0 : Int)) ∧ ∃ b24 o24, p0 = some ⟨b24, o24, none⟩ ∧ ∃ (p26 : Option Addr) (l26 c26 : Nat), wd5.cell? ⟨b24, o24 + (x4).toNat * 3 + 1, none⟩ = some (.slice p26 l26 c26) ∧ Does Try.prog 47 #[.slice p26 l26 c26] wd5 fun e27 w27 =>
  ∃ (p27 : Option Addr) (l27 c27 : Nat), e27 = .returned (.slice p27 l27 c27) ∧ S5 w27 ∧ ∀ b29 w29, NewBlk w27 b29 [.int .i64 n16, .slice p27 l27 c27, .int .i64 n21] 58 w29 →
  ∃ (p30 : Option Addr) (l30 c30 : Nat) (w30 : World), (Builtin.append_ #[22, 22] 22 #[.slice p3 l3 c3, .slice (some ⟨b29, 0, none⟩) 1 1]).run Try.prog w29 = .ok (.slice p30 l30 c30) w30 ∧
  InK .i64 (x4 + 1) ∧ ∃ ml3, ml3 < nl3 ∧ I3 p30 l30 c30 (x4 + 1) ml3 w30)
  (R (.returned (.slice p3 l3 c3)) wl3)
def f41_ann : Ann := { loops := [(3, [(3, .slice), (4, .int .i64)])], cuts := [], flip := [], throws := [] }
theorem f41_eq (p0 : Option Addr) (l0 c0 : Nat) (w : World) (R : Ending → World → Prop) : vc Try.prog f41_ann (bodyOf Try.f41) (retQ Try.prog Try.f41 R) (envOf Try.f41.ntmps [.v (.slice p0 l0 c0)]) [] w = f41_vc p0 l0 c0 w R := by kernel_rfl
theorem f41_does (p0 : Option Addr) (l0 c0 : Nat) {w : World} {R : Ending → World → Prop} (h : f41_vc p0 l0 c0 w R) : Does Try.prog 41 #[.slice p0 l0 c0] w R :=
  does_of_vc (ss := [.v (.slice p0 l0 c0)]) f41_ann mixed call41 Try.func41 rfl rfl (show 1 ≤ Try.f41.ntmps by decide) ((f41_eq p0 l0 c0 w R).symm ▸ h)
/-- Of (*escritoire/history.History).made (function 42): the condition. -/
def f42_vc (a0 : Option Addr) (w : World) (R : Ending → World → Prop) : Prop :=
  Br (!a0.isNone)
  (∃ b7 o7, a0 = some ⟨b7, o7, none⟩ ∧ ∃ (p9 : Option Addr) (l9 c9 : Nat), w.cell? ⟨b7, o7, none⟩ = some (.slice p9 l9 c9) ∧ R (.returned (.bool (decide (((l9 : Int)) > 0)))) w)
  (R (.returned (.bool false)) w)
def f42_ann : Ann := { loops := [], cuts := [], flip := [], throws := [] }
theorem f42_eq (a0 : Option Addr) (w : World) (R : Ending → World → Prop) : vc Try.prog f42_ann (bodyOf Try.f42) (retQ Try.prog Try.f42 R) (envOf Try.f42.ntmps [.v (.pointer a0)]) [] w = f42_vc a0 w R := by kernel_rfl
theorem f42_does (a0 : Option Addr) {w : World} {R : Ending → World → Prop} (h : f42_vc a0 w R) : Does Try.prog 42 #[.pointer a0] w R :=
  does_of_vc (ss := [.v (.pointer a0)]) f42_ann mixed call42 Try.func42 rfl rfl (show 1 ≤ Try.f42.ntmps by decide) ((f42_eq a0 w R).symm ▸ h)
/-- Of slices.Clip[[]escritoire/api.Node,escritoire/api.Node] (function 43): the condition. -/
def f43_vc (p0 : Option Addr) (l0 c0 : Nat) (w : World) (R : Ending → World → Prop) : Prop :=
  ((0 : Int) ≤ ((l0 : Int)) ∧ ((l0 : Int)) ≤ (c0 : Int)) ∧ ((0 : Int) ≤ ((l0 : Int)) ∧ ((l0 : Int)) ≤ ((l0 : Int))) ∧ R (.returned (.slice (subp p0 0 (((l0 : Int)).toNat) 3) ((((l0 : Int)).toNat) - 0) ((((l0 : Int)).toNat) - 0))) w
def f43_ann : Ann := { loops := [], cuts := [], flip := [], throws := [] }
theorem f43_eq (p0 : Option Addr) (l0 c0 : Nat) (w : World) (R : Ending → World → Prop) : vc Try.prog f43_ann (bodyOf Try.f43) (retQ Try.prog Try.f43 R) (envOf Try.f43.ntmps [.v (.slice p0 l0 c0)]) [] w = f43_vc p0 l0 c0 w R := by kernel_rfl
theorem f43_does (p0 : Option Addr) (l0 c0 : Nat) {w : World} {R : Ending → World → Prop} (h : f43_vc p0 l0 c0 w R) : Does Try.prog 43 #[.slice p0 l0 c0] w R :=
  does_of_vc (ss := [.v (.slice p0 l0 c0)]) f43_ann mixed call43 Try.func43 rfl rfl (show 1 ≤ Try.f43.ntmps by decide) ((f43_eq p0 l0 c0 w R).symm ▸ h)
/-- Of (*escritoire/history.History).there (function 44): the condition. -/
def f44_vc (a0 : Option Addr) (a1 : Int) (w : World) (R : Ending → World → Prop) : Prop :=
  Does Try.prog 42 #[.pointer a0] w fun e6 w6 =>
  ∃ b6 : Bool, e6 = .returned (.bool b6) ∧ Br b6
  (Br (decide (a1 ≥ 0))
  (∃ b14 o14, a0 = some ⟨b14, o14, none⟩ ∧ ∃ (p16 : Option Addr) (l16 c16 : Nat), w6.cell? ⟨b14, o14, none⟩ = some (.slice p16 l16 c16) ∧ R (.returned (.bool (decide (a1 < ((l16 : Int)))))) w6)
  (R (.returned (.bool false)) w6))
  (R (.returned (.bool false)) w6)
def f44_ann : Ann := { loops := [], cuts := [], flip := [], throws := [] }
theorem f44_eq (a0 : Option Addr) (a1 : Int) (w : World) (R : Ending → World → Prop) : vc Try.prog f44_ann (bodyOf Try.f44) (retQ Try.prog Try.f44 R) (envOf Try.f44.ntmps [.v (.pointer a0), .v (.int .i64 a1)]) [] w = f44_vc a0 a1 w R := by kernel_rfl
theorem f44_does (a0 : Option Addr) (a1 : Int) {w : World} {R : Ending → World → Prop} (h : f44_vc a0 a1 w R) : Does Try.prog 44 #[.pointer a0, .int .i64 a1] w R :=
  does_of_vc (ss := [.v (.pointer a0), .v (.int .i64 a1)]) f44_ann mixed call44 Try.func44 rfl rfl (show 2 ≤ Try.f44.ntmps by decide) ((f44_eq a0 a1 w R).symm ▸ h)
/-- Of (*escritoire/history.History).way (function 45): the condition. -/
def f45_vc (a0 : Option Addr) (a1 : Int) (a2 : Int) (w : World) (R : Ending → World → Prop) : Prop :=
  ∀ b3 w3, NewBlk w b3 [.pointer a0] 25 w3 →
  ∀ b4 w4, NewBlk w3 b4 [.int .i64 a1] 3 w4 →
  ∀ b5 w5, NewBlk w4 b5 [.int .i64 a2] 3 w5 →
  R (.returned (.func (.func 54) #[] #[.pointer (some ⟨b4, 0, none⟩), .pointer (some ⟨b5, 0, none⟩), .pointer (some ⟨b3, 0, none⟩)])) w5
def f45_ann : Ann := { loops := [], cuts := [], flip := [], throws := [] }
theorem f45_eq (a0 : Option Addr) (a1 : Int) (a2 : Int) (w : World) (R : Ending → World → Prop) : vc Try.prog f45_ann (bodyOf Try.f45) (retQ Try.prog Try.f45 R) (envOf Try.f45.ntmps [.v (.pointer a0), .v (.int .i64 a1), .v (.int .i64 a2)]) [] w = f45_vc a0 a1 a2 w R := by kernel_rfl
theorem f45_does (a0 : Option Addr) (a1 : Int) (a2 : Int) {w : World} {R : Ending → World → Prop} (h : f45_vc a0 a1 a2 w R) : Does Try.prog 45 #[.pointer a0, .int .i64 a1, .int .i64 a2] w R :=
  does_of_vc (ss := [.v (.pointer a0), .v (.int .i64 a1), .v (.int .i64 a2)]) f45_ann mixed call45 Try.func45 rfl rfl (show 3 ≤ Try.f45.ntmps by decide) ((f45_eq a0 a1 a2 w R).symm ▸ h)
/-- Of escritoire/edit.own (function 46): the condition. -/
def f46_vc (p0 : Option Addr) (l0 c0 : Nat) (w : World) (R : Ending → World → Prop) : Prop :=
  ∃ (p4 : Option Addr) (l4 c4 : Nat) (w4 : World), (Builtin.append_ #[41, 41] 41 #[.slice none 0 0, .slice p0 l0 c0]).run Try.prog w = .ok (.slice p4 l4 c4) w4 ∧
  R (.returned (.slice p4 l4 c4)) w4
def f46_ann : Ann := { loops := [], cuts := [], flip := [], throws := [] }
theorem f46_eq (p0 : Option Addr) (l0 c0 : Nat) (w : World) (R : Ending → World → Prop) : vc Try.prog f46_ann (bodyOf Try.f46) (retQ Try.prog Try.f46 R) (envOf Try.f46.ntmps [.v (.slice p0 l0 c0)]) [] w = f46_vc p0 l0 c0 w R := by kernel_rfl
theorem f46_does (p0 : Option Addr) (l0 c0 : Nat) {w : World} {R : Ending → World → Prop} (h : f46_vc p0 l0 c0 w R) : Does Try.prog 46 #[.slice p0 l0 c0] w R :=
  does_of_vc (ss := [.v (.slice p0 l0 c0)]) f46_ann mixed call46 Try.func46 rfl rfl (show 1 ≤ Try.f46.ntmps by decide) ((f46_eq p0 l0 c0 w R).symm ▸ h)
/-- Of escritoire/escritoireref18.CopyEdits (function 47): the condition. -/
def f47_vc (p0 : Option Addr) (l0 c0 : Nat) (w : World) (R : Ending → World → Prop) : Prop :=
  ∃ I3 : Option Addr → Nat → Nat → Int → Nat → World → Prop, (∃ nl3, I3 none 0 0 0 nl3 w) ∧ ∀ (p3 : Option Addr) (l3 c3 : Nat), ∀ x4 : Int, ∀ (nl3 : Nat) (wl3 : World), I3 p3 l3 c3 x4 nl3 wl3 →
  Br (decide (x4 < ((l0 : Int))))
  (∀ wd5, Drew wl3 wd5 →
  ∃ S5 : World → Prop, S5 wd5 ∧ ((0 : Int) ≤ x4 ∧ x4 < (l0 : Int)) ∧ ∃ b14 o14, p0 = some ⟨b14, o14, none⟩ ∧ ∃ n16 : Int, (∀ w, S5 w → w.cell? ⟨b14, o14 + (x4).toNat * 3, none⟩ = some (.int .i64 n16)) ∧ ((0 : Int) ≤ x4 ∧ x4 < (l0 : Int)) ∧ ∃ b19 o19, p0 = some ⟨b19, o19, none⟩ ∧ ∃ (p21 : Option Addr) (l21 c21 : Nat), wd5.cell? ⟨b19, o19 + (x4).toNat * 3 + 1, none⟩ = some (.slice p21 l21 c21) ∧ Does Try.prog 35 #[.slice p21 l21 c21] wd5 fun e22 w22 =>
  ∃ (p22 : Option Addr) (l22 c22 : Nat), e22 = .returned (.slice p22 l22 c22) ∧ S5 w22 ∧ ((0 : Int) ≤ x4 ∧ x4 < (l0 : Int)) ∧ ∃ b25 o25, p0 = some ⟨b25, o25, none⟩ ∧ ∃ (p27 : Option Addr) (l27 c27 : Nat), (∀ w, S5 w → w.cell? ⟨b25, o25 + (x4).toNat * 3 + 2, none⟩ = some (.slice p27 l27 c27)) ∧ Does Try.prog 35 #[.slice p27 l27 c27] w22 fun e28 w28 =>
  ∃ (p28 : Option Addr) (l28 c28 : Nat), e28 = .returned (.slice p28 l28 c28) ∧ S5 w28 ∧ ∀ b30 w30, NewBlk w28 b30 [.int .i64 n16, .slice p22 l22 c22, .slice p28 l28 c28] 43 w30 →
  ∃ (p31 : Option Addr) (l31 c31 : Nat) (w31 : World), (Builtin.append_ #[45, 45] 45 #[.slice p3 l3 c3, .slice (some ⟨b30, 0, none⟩) 1 1]).run Try.prog w30 = .ok (.slice p31 l31 c31) w31 ∧
  InK .i64 (x4 + 1) ∧ ∃ ml3, ml3 < nl3 ∧ I3 p31 l31 c31 (x4 + 1) ml3 w31)
  (R (.returned (.slice p3 l3 c3)) wl3)
def f47_ann : Ann := { loops := [(3, [(3, .slice), (4, .int .i64)])], cuts := [], flip := [], throws := [] }
theorem f47_eq (p0 : Option Addr) (l0 c0 : Nat) (w : World) (R : Ending → World → Prop) : vc Try.prog f47_ann (bodyOf Try.f47) (retQ Try.prog Try.f47 R) (envOf Try.f47.ntmps [.v (.slice p0 l0 c0)]) [] w = f47_vc p0 l0 c0 w R := by kernel_rfl
theorem f47_does (p0 : Option Addr) (l0 c0 : Nat) {w : World} {R : Ending → World → Prop} (h : f47_vc p0 l0 c0 w R) : Does Try.prog 47 #[.slice p0 l0 c0] w R :=
  does_of_vc (ss := [.v (.slice p0 l0 c0)]) f47_ann mixed call47 Try.func47 rfl rfl (show 1 ≤ Try.f47.ntmps by decide) ((f47_eq p0 l0 c0 w R).symm ▸ h)
/-- Of escritoire/escritoireref18.Turn (function 48): the condition. -/
def f48_vc (p0 : Option Addr) (l0 c0 : Nat) (w : World) (R : Ending → World → Prop) : Prop :=
  InK .i64 (((l0 : Int)) - 1) ∧ ∃ I3 : Option Addr → Nat → Nat → Int → Nat → World → Prop, (∃ nl3, I3 none 0 0 (((l0 : Int)) - 1) nl3 w) ∧ ∀ (p3 : Option Addr) (l3 c3 : Nat), ∀ x4 : Int, ∀ (nl3 : Nat) (wl3 : World), I3 p3 l3 c3 x4 nl3 wl3 →
  Br (decide (x4 ≥ 0))
  (∀ wd5, Drew wl3 wd5 →
  ∃ S5 : World → Prop, S5 wd5 ∧ ((0 : Int) ≤ x4 ∧ x4 < (l0 : Int)) ∧ ∃ b15 o15, p0 = some ⟨b15, o15, none⟩ ∧ ∃ n17 : Int, (∀ w, S5 w → w.cell? ⟨b15, o15 + (x4).toNat * 3, none⟩ = some (.int .i64 n17)) ∧ ((0 : Int) ≤ x4 ∧ x4 < (l0 : Int)) ∧ ∃ b20 o20, p0 = some ⟨b20, o20, none⟩ ∧ ∃ (p22 : Option Addr) (l22 c22 : Nat), wd5.cell? ⟨b20, o20 + (x4).toNat * 3 + 2, none⟩ = some (.slice p22 l22 c22) ∧ Does Try.prog 35 #[.slice p22 l22 c22] wd5 fun e23 w23 =>
  ∃ (p23 : Option Addr) (l23 c23 : Nat), e23 = .returned (.slice p23 l23 c23) ∧ S5 w23 ∧ ((0 : Int) ≤ x4 ∧ x4 < (l0 : Int)) ∧ ∃ b26 o26, p0 = some ⟨b26, o26, none⟩ ∧ ∃ (p28 : Option Addr) (l28 c28 : Nat), (∀ w, S5 w → w.cell? ⟨b26, o26 + (x4).toNat * 3 + 1, none⟩ = some (.slice p28 l28 c28)) ∧ Does Try.prog 35 #[.slice p28 l28 c28] w23 fun e29 w29 =>
  ∃ (p29 : Option Addr) (l29 c29 : Nat), e29 = .returned (.slice p29 l29 c29) ∧ S5 w29 ∧ ∀ b31 w31, NewBlk w29 b31 [.int .i64 n17, .slice p23 l23 c23, .slice p29 l29 c29] 43 w31 →
  ∃ (p32 : Option Addr) (l32 c32 : Nat) (w32 : World), (Builtin.append_ #[45, 45] 45 #[.slice p3 l3 c3, .slice (some ⟨b31, 0, none⟩) 1 1]).run Try.prog w31 = .ok (.slice p32 l32 c32) w32 ∧
  InK .i64 (x4 - 1) ∧ ∃ ml3, ml3 < nl3 ∧ I3 p32 l32 c32 (x4 - 1) ml3 w32)
  (R (.returned (.slice p3 l3 c3)) wl3)
def f48_ann : Ann := { loops := [(3, [(3, .slice), (4, .int .i64)])], cuts := [], flip := [], throws := [] }
theorem f48_eq (p0 : Option Addr) (l0 c0 : Nat) (w : World) (R : Ending → World → Prop) : vc Try.prog f48_ann (bodyOf Try.f48) (retQ Try.prog Try.f48 R) (envOf Try.f48.ntmps [.v (.slice p0 l0 c0)]) [] w = f48_vc p0 l0 c0 w R := by kernel_rfl
theorem f48_does (p0 : Option Addr) (l0 c0 : Nat) {w : World} {R : Ending → World → Prop} (h : f48_vc p0 l0 c0 w R) : Does Try.prog 48 #[.slice p0 l0 c0] w R :=
  does_of_vc (ss := [.v (.slice p0 l0 c0)]) f48_ann mixed call48 Try.func48 rfl rfl (show 1 ≤ Try.f48.ntmps by decide) ((f48_eq p0 l0 c0 w R).symm ▸ h)
/-- Of (*escritoire/escritoireref18.History).down (function 49): the condition. -/
def f49_vc (a0 : Option Addr) (a1 : Int) (w : World) (R : Ending → World → Prop) : Prop :=
  ∃ b8 o8, a0 = some ⟨b8, o8, none⟩ ∧ CanStore w b8 (o8 + 1) ∧ ∀ ws, Stored w b8 (o8 + 1) (.int .i64 a1) ws →
  ∀ wd2, Drew ws wd2 →
  ∃ S2 : World → Prop, S2 wd2 ∧ ∃ b11 o11, a0 = some ⟨b11, o11, none⟩ ∧ ∃ (p13 : Option Addr) (l13 c13 : Nat), wd2.cell? ⟨b11, o11, none⟩ = some (.slice p13 l13 c13) ∧ ((0 : Int) ≤ a1 ∧ a1 < (l13 : Int)) ∧ ∃ b15 o15, p13 = some ⟨b15, o15, none⟩ ∧ ∃ (p17 : Option Addr) (l17 c17 : Nat), wd2.cell? ⟨b15, o15 + (a1).toNat * 3 + 1, none⟩ = some (.slice p17 l17 c17) ∧ Does Try.prog 47 #[.slice p17 l17 c17] wd2 fun e18 w18 =>
  ∃ (p18 : Option Addr) (l18 c18 : Nat), e18 = .returned (.slice p18 l18 c18) ∧ S2 w18 ∧ ∃ b20 o20, a0 = some ⟨b20, o20, none⟩ ∧ ∃ (p22 : Option Addr) (l22 c22 : Nat), (∀ w, S2 w → w.cell? ⟨b20, o20, none⟩ = some (.slice p22 l22 c22)) ∧ ((0 : Int) ≤ a1 ∧ a1 < (l22 : Int)) ∧ ∃ b24 o24, p22 = some ⟨b24, o24, none⟩ ∧ ∃ (p26 : Option Addr) (l26 c26 : Nat), (∀ w, S2 w → w.cell? ⟨b24, o24 + (a1).toNat * 3 + 1, none⟩ = some (.slice p26 l26 c26)) ∧ ((0 : Int) ≤ 0 ∧ 0 < (l26 : Int)) ∧ ∃ b27 o27, p26 = some ⟨b27, o27, none⟩ ∧ ∃ n29 : Int, (∀ w, S2 w → w.cell? ⟨b27, o27 + (0 : Int).toNat * 3, none⟩ = some (.int .i64 n29)) ∧ R (.returned (.tuple #[.slice p18 l18 c18, .int .i64 n29])) w18
def f49_ann : Ann := { loops := [], cuts := [], flip := [], throws := [] }
theorem f49_eq (a0 : Option Addr) (a1 : Int) (w : World) (R : Ending → World → Prop) : vc Try.prog f49_ann (bodyOf Try.f49) (retQ Try.prog Try.f49 R) (envOf Try.f49.ntmps [.v (.pointer a0), .v (.int .i64 a1)]) [] w = f49_vc a0 a1 w R := by kernel_rfl
theorem f49_does (a0 : Option Addr) (a1 : Int) {w : World} {R : Ending → World → Prop} (h : f49_vc a0 a1 w R) : Does Try.prog 49 #[.pointer a0, .int .i64 a1] w R :=
  does_of_vc (ss := [.v (.pointer a0), .v (.int .i64 a1)]) f49_ann mixed call49 Try.func49 rfl rfl (show 2 ≤ Try.f49.ntmps by decide) ((f49_eq a0 a1 w R).symm ▸ h)
/-- Of (*escritoire/escritoireref18.History).above (function 50): the condition. -/
def f50_vc (a0 : Option Addr) (a1 : Int) (a2 : Int) (w : World) (R : Ending → World → Prop) : Prop :=
  ∃ I1 : Int → Nat → World → Prop, (∃ nl1, I1 a2 nl1 w) ∧ ∀ x2 : Int, ∀ (nl1 : Nat) (wl1 : World), I1 x2 nl1 wl1 →
  Br (decide (x2 > a1))
  (∃ b11 o11, a0 = some ⟨b11, o11, none⟩ ∧ ∃ (p13 : Option Addr) (l13 c13 : Nat), wl1.cell? ⟨b11, o11, none⟩ = some (.slice p13 l13 c13) ∧ ((0 : Int) ≤ x2 ∧ x2 < (l13 : Int)) ∧ ∃ b15 o15, p13 = some ⟨b15, o15, none⟩ ∧ ∃ n17 : Int, wl1.cell? ⟨b15, o15 + (x2).toNat * 3, none⟩ = some (.int .i64 n17) ∧ ∃ ml1, ml1 < nl1 ∧ I1 n17 ml1 wl1)
  (R (.returned (.bool (x2 == a1))) wl1)
def f50_ann : Ann := { loops := [(1, [(2, .int .i64)])], cuts := [], flip := [], throws := [] }
theorem f50_eq (a0 : Option Addr) (a1 : Int) (a2 : Int) (w : World) (R : Ending → World → Prop) : vc Try.prog f50_ann (bodyOf Try.f50) (retQ Try.prog Try.f50 R) (envOf Try.f50.ntmps [.v (.pointer a0), .v (.int .i64 a1), .v (.int .i64 a2)]) [] w = f50_vc a0 a1 a2 w R := by kernel_rfl
theorem f50_does (a0 : Option Addr) (a1 : Int) (a2 : Int) {w : World} {R : Ending → World → Prop} (h : f50_vc a0 a1 a2 w R) : Does Try.prog 50 #[.pointer a0, .int .i64 a1, .int .i64 a2] w R :=
  does_of_vc (ss := [.v (.pointer a0), .v (.int .i64 a1), .v (.int .i64 a2)]) f50_ann mixed call50 Try.func50 rfl rfl (show 3 ≤ Try.f50.ntmps by decide) ((f50_eq a0 a1 a2 w R).symm ▸ h)
/-- Of slices.Clone[[]escritoire/api.Node,escritoire/api.Node] (function 51): the condition. -/
def f51_vc (p0 : Option Addr) (l0 c0 : Nat) (w : World) (R : Ending → World → Prop) : Prop :=
  Br p0.isNone
  (R (.returned (.slice none 0 0)) w)
  (∀ b5 w5, NewBlk w b5 [] 58 w5 →
  ∃ (p7 : Option Addr) (l7 c7 : Nat) (w7 : World), (Builtin.append_ #[22, 22] 22 #[.slice (some ⟨b5, 0, none⟩) 0 0, .slice p0 l0 c0]).run Try.prog w5 = .ok (.slice p7 l7 c7) w7 ∧
  R (.returned (.slice p7 l7 c7)) w7)
def f51_ann : Ann := { loops := [], cuts := [], flip := [], throws := [] }
theorem f51_eq (p0 : Option Addr) (l0 c0 : Nat) (w : World) (R : Ending → World → Prop) : vc Try.prog f51_ann (bodyOf Try.f51) (retQ Try.prog Try.f51 R) (envOf Try.f51.ntmps [.v (.slice p0 l0 c0)]) [] w = f51_vc p0 l0 c0 w R := by kernel_rfl
theorem f51_does (p0 : Option Addr) (l0 c0 : Nat) {w : World} {R : Ending → World → Prop} (h : f51_vc p0 l0 c0 w R) : Does Try.prog 51 #[.slice p0 l0 c0] w R :=
  does_of_vc (ss := [.v (.slice p0 l0 c0)]) f51_ann mixed call51 Try.func51 rfl rfl (show 1 ≤ Try.f51.ntmps by decide) ((f51_eq p0 l0 c0 w R).symm ▸ h)
/-- Of escritoire/edit.Apply (function 52): the condition. -/
def f52_vc (p0 : Option Addr) (l0 c0 : Nat) (a1_0 : Int) (p1_1 : Option Addr) (l1_1 c1_1 : Nat) (p1_2 : Option Addr) (l1_2 c1_2 : Nat) (w : World) (R : Ending → World → Prop) : Prop :=
  ∀ b3 w3, NewBlk w b3 [.int .i64 a1_0, .slice p1_1 l1_1 c1_1, .slice p1_2 l1_2 c1_2] 43 w3 →
  ∃ n10 : Int, w3.cell? ⟨b3, 0, none⟩ = some (.int .i64 n10) ∧ ∃ (p10 : Option Addr) (l10 c10 : Nat), w3.cell? ⟨b3, 1, none⟩ = some (.slice p10 l10 c10) ∧ ∃ (p10_1 : Option Addr) (l10_1 c10_1 : Nat), w3.cell? ⟨b3, 2, none⟩ = some (.slice p10_1 l10_1 c10_1) ∧ ∀ b12 w12, NewBlk w3 b12 [.slice p0 l0 c0, .int .i64 n10, .slice p10 l10 c10, .slice p10_1 l10_1 c10_1] 90 w12 →
  ∀ b13 w13, NewBlk w12 b13 [.func (.func 56) #[] #[], .func (.func 57) #[] #[]] 91 w13 →
  ∃ I3 : Int → Nat → World → Prop, (∃ nl3, I3 0 nl3 w13) ∧ ∀ x15 : Int, ∀ (nl3 : Nat) (wl3 : World), I3 x15 nl3 wl3 →
  Br (decide (x15 < ((2 : Int))))
  (((0 : Int) ≤ x15 ∧ x15 < (2 : Int)) ∧ ∃ b17 o17, (some ⟨b13, 0, none⟩ : Option Addr) = some ⟨b17, o17, none⟩ ∧ ∃ (g18 : Go.Fn) (fs18 cs18 : Array Value), wl3.cell? ⟨b17, o17 + (x15).toNat, none⟩ = some (.func g18 fs18 cs18) ∧ DoesV Try.prog g18 fs18 #[.pointer (some ⟨b12, 0, none⟩)] cs18 wl3 fun e21 w21 =>
  ∃ b21 : Bool, e21 = .returned (.bool b21) ∧ Br (!b21)
  (R (.returned (.tuple #[.slice none 0 0, .int .i64 1])) w21)
  (InK .i64 (x15 + 1) ∧ ∃ ml3, ml3 < nl3 ∧ I3 (x15 + 1) ml3 w21))
  (∃ (p27 : Option Addr) (l27 c27 : Nat), wl3.cell? ⟨b12, 0, none⟩ = some (.slice p27 l27 c27) ∧ R (.returned (.tuple #[.slice p27 l27 c27, .int .i64 0])) wl3)
def f52_ann : Ann := { loops := [(3, [(15, .int .i64)])], cuts := [], flip := [], throws := [] }
theorem f52_eq (p0 : Option Addr) (l0 c0 : Nat) (a1_0 : Int) (p1_1 : Option Addr) (l1_1 c1_1 : Nat) (p1_2 : Option Addr) (l1_2 c1_2 : Nat) (w : World) (R : Ending → World → Prop) : vc Try.prog f52_ann (bodyOf Try.f52) (retQ Try.prog Try.f52 R) (envOf Try.f52.ntmps [.v (.slice p0 l0 c0), .v (.agg #[.int .i64 a1_0, .slice p1_1 l1_1 c1_1, .slice p1_2 l1_2 c1_2])]) [] w = f52_vc p0 l0 c0 a1_0 p1_1 l1_1 c1_1 p1_2 l1_2 c1_2 w R := by kernel_rfl
theorem f52_does (p0 : Option Addr) (l0 c0 : Nat) (a1_0 : Int) (p1_1 : Option Addr) (l1_1 c1_1 : Nat) (p1_2 : Option Addr) (l1_2 c1_2 : Nat) {w : World} {R : Ending → World → Prop} (h : f52_vc p0 l0 c0 a1_0 p1_1 l1_1 c1_1 p1_2 l1_2 c1_2 w R) : Does Try.prog 52 #[.slice p0 l0 c0, .agg #[.int .i64 a1_0, .slice p1_1 l1_1 c1_1, .slice p1_2 l1_2 c1_2]] w R :=
  does_of_vc (ss := [.v (.slice p0 l0 c0), .v (.agg #[.int .i64 a1_0, .slice p1_1 l1_1 c1_1, .slice p1_2 l1_2 c1_2])]) f52_ann mixed call52 Try.func52 rfl rfl (show 2 ≤ Try.f52.ntmps by decide) ((f52_eq p0 l0 c0 a1_0 p1_1 l1_1 c1_1 p1_2 l1_2 c1_2 w R).symm ▸ h)
/-- Of slices.Clone[[]byte,byte] (function 53): the condition. -/
def f53_vc (p0 : Option Addr) (l0 c0 : Nat) (w : World) (R : Ending → World → Prop) : Prop :=
  Br p0.isNone
  (R (.returned (.slice none 0 0)) w)
  (∀ b5 w5, NewBlk w b5 [] 5 w5 →
  ∃ (p7 : Option Addr) (l7 c7 : Nat) (w7 : World), (Builtin.append_ #[41, 41] 41 #[.slice (some ⟨b5, 0, none⟩) 0 0, .slice p0 l0 c0]).run Try.prog w5 = .ok (.slice p7 l7 c7) w7 ∧
  R (.returned (.slice p7 l7 c7)) w7)
def f53_ann : Ann := { loops := [], cuts := [], flip := [], throws := [] }
theorem f53_eq (p0 : Option Addr) (l0 c0 : Nat) (w : World) (R : Ending → World → Prop) : vc Try.prog f53_ann (bodyOf Try.f53) (retQ Try.prog Try.f53 R) (envOf Try.f53.ntmps [.v (.slice p0 l0 c0)]) [] w = f53_vc p0 l0 c0 w R := by kernel_rfl
theorem f53_does (p0 : Option Addr) (l0 c0 : Nat) {w : World} {R : Ending → World → Prop} (h : f53_vc p0 l0 c0 w R) : Does Try.prog 53 #[.slice p0 l0 c0] w R :=
  does_of_vc (ss := [.v (.slice p0 l0 c0)]) f53_ann mixed call53 Try.func53 rfl rfl (show 1 ≤ Try.f53.ntmps by decide) ((f53_eq p0 l0 c0 w R).symm ▸ h)
/-- Of (*escritoire/history.History).way$1 (function 54): the condition. -/
def f54_vc (g0 : Go.Fn) (fs0 cs0 : Array Value) (a1 : Option Addr) (a2 : Option Addr) (a3 : Option Addr) (w : World) (R : Ending → World → Prop) : Prop :=
  ∀ b4 w4, NewBlk w b4 [.func g0 fs0 cs0] 84 w4 →
  ∃ I2 : Option Addr → Nat → Nat → Nat → World → Prop, (∃ nl2, I2 none 0 0 nl2 w4) ∧ ∀ (p5 : Option Addr) (l5 c5 : Nat), ∀ (nl2 : Nat) (wl2 : World), I2 p5 l5 c5 nl2 wl2 →
  ∃ b8 o8, a1 = some ⟨b8, o8, none⟩ ∧ ∃ n8 : Int, wl2.cell? ⟨b8, o8, none⟩ = some (.int .i64 n8) ∧ ∃ b9 o9, a2 = some ⟨b9, o9, none⟩ ∧ ∃ n9 : Int, wl2.cell? ⟨b9, o9, none⟩ = some (.int .i64 n9) ∧ Br (n8 != n9)
  (∃ b11 o11, a1 = some ⟨b11, o11, none⟩ ∧ ∃ n11 : Int, wl2.cell? ⟨b11, o11, none⟩ = some (.int .i64 n11) ∧ ∃ b12 o12, a2 = some ⟨b12, o12, none⟩ ∧ ∃ n12 : Int, wl2.cell? ⟨b12, o12, none⟩ = some (.int .i64 n12) ∧ Br (decide (n11 > n12))
  (∃ (g14 : Go.Fn) (fs14 cs14 : Array Value), wl2.cell? ⟨b4, 0, none⟩ = some (.func g14 fs14 cs14) ∧ ∃ b15 o15, a1 = some ⟨b15, o15, none⟩ ∧ ∃ n15 : Int, wl2.cell? ⟨b15, o15, none⟩ = some (.int .i64 n15) ∧ DoesV Try.prog g14 fs14 #[.int .i64 n15, .bool false] cs14 wl2 fun e16 w16 =>
  ∃ b16 : Bool, e16 = .returned (.bool b16) ∧ Br (!b16)
  (R (.returned (.tuple #[])) w16)
  (∀ wd5, Drew w16 wd5 →
  ∃ b18 o18, a3 = some ⟨b18, o18, none⟩ ∧ ∃ p18 : Option Addr, wd5.cell? ⟨b18, o18, none⟩ = some (.pointer p18) ∧ ∃ b19 o19, p18 = some ⟨b19, o19, none⟩ ∧ ∃ (p21 : Option Addr) (l21 c21 : Nat), wd5.cell? ⟨b19, o19, none⟩ = some (.slice p21 l21 c21) ∧ ∃ b22 o22, a1 = some ⟨b22, o22, none⟩ ∧ ∃ n22 : Int, wd5.cell? ⟨b22, o22, none⟩ = some (.int .i64 n22) ∧ ((0 : Int) ≤ n22 ∧ n22 < (l21 : Int)) ∧ ∃ b23 o23, p21 = some ⟨b23, o23, none⟩ ∧ ∃ n25 : Int, wd5.cell? ⟨b23, o23 + (n22).toNat * 3, none⟩ = some (.int .i64 n25) ∧ ∃ bx ox, a1 = some ⟨bx, ox, none⟩ ∧ CanStore wd5 bx ox ∧ ∀ ws, Stored wd5 bx ox (.int .i64 n25) ws →
  ∃ ml2, ml2 < nl2 ∧ I2 p5 l5 c5 ml2 ws))
  (∃ b27 o27, a2 = some ⟨b27, o27, none⟩ ∧ ∃ n27 : Int, wl2.cell? ⟨b27, o27, none⟩ = some (.int .i64 n27) ∧ ∀ b28 w28, NewBlk wl2 b28 [.int .i64 n27] 3 w28 →
  ∃ (p29 : Option Addr) (l29 c29 : Nat) (w29 : World), (Builtin.append_ #[48, 48] 48 #[.slice p5 l5 c5, .slice (some ⟨b28, 0, none⟩) 1 1]).run Try.prog w28 = .ok (.slice p29 l29 c29) w29 ∧
  ∀ wd7, Drew w29 wd7 →
  ∃ b30 o30, a3 = some ⟨b30, o30, none⟩ ∧ ∃ p30 : Option Addr, wd7.cell? ⟨b30, o30, none⟩ = some (.pointer p30) ∧ ∃ b31 o31, p30 = some ⟨b31, o31, none⟩ ∧ ∃ (p33 : Option Addr) (l33 c33 : Nat), wd7.cell? ⟨b31, o31, none⟩ = some (.slice p33 l33 c33) ∧ ∃ b34 o34, a2 = some ⟨b34, o34, none⟩ ∧ ∃ n34 : Int, wd7.cell? ⟨b34, o34, none⟩ = some (.int .i64 n34) ∧ ((0 : Int) ≤ n34 ∧ n34 < (l33 : Int)) ∧ ∃ b35 o35, p33 = some ⟨b35, o35, none⟩ ∧ ∃ n37 : Int, wd7.cell? ⟨b35, o35 + (n34).toNat * 3, none⟩ = some (.int .i64 n37) ∧ ∃ bx_1 ox_1, a2 = some ⟨bx_1, ox_1, none⟩ ∧ CanStore wd7 bx_1 ox_1 ∧ ∀ ws_1, Stored wd7 bx_1 ox_1 (.int .i64 n37) ws_1 →
  ∃ ml2, ml2 < nl2 ∧ I2 p29 l29 c29 ml2 ws_1))
  (Does Try.prog 55 #[.slice p5 l5 c5] wl2 fun e39 w39 =>
  ∃ (g39 : Go.Fn) (fs39 cs39 : Array Value), e39 = .returned (.func g39 fs39 cs39) ∧ ∀ (Dr10 lr10 : Nat) (recr10 : Loop) (wr10 : World), Opened w39 Dr10 lr10 recr10 wr10 →
  (∀ x40 : Int, ∀ x41 : Int, ∀ (wyr10 : World) (Rr10 : Ending → World → Prop), LoopAt wyr10 lr10 recr10 .ready →
  (LoopAt wyr10 lr10 recr10 .ready ∧ ∀ wbr10, Turned wyr10 lr10 wbr10 → LoopAt wbr10 lr10 recr10 .busy →
  ∃ (g42 : Go.Fn) (fs42 cs42 : Array Value), wbr10.cell? ⟨b4, 0, none⟩ = some (.func g42 fs42 cs42) ∧ DoesV Try.prog g42 fs42 #[.int .i64 x41, .bool true] cs42 wbr10 fun e44 w44 =>
  ∃ b44 : Bool, e44 = .returned (.bool b44) ∧ Br (!b44)
  (False)
  (LoopAt w44 lr10 recr10 .busy ∧ ∀ wdr10, Turned w44 lr10 wdr10 → LoopAt wdr10 lr10 recr10 .ready → Rr10 (.returned (.bool true)) wdr10)) →
  YieldsV Try.prog lr10 #[.int .i64 x40, .int .i64 x41] wyr10 Rr10) →
  DoesG Try.prog g39 fs39 #[.func (.yield lr10) #[] #[]] cs39 wr10 fun er10 wer10 =>
  ∃ vr10, er10 = .returned vr10 ∧ LoopAt wer10 lr10 recr10 .ready ∧ ∀ wzr10, Turned wer10 lr10 wzr10 →
  LeavesV (fun wk => R (.returned (.tuple #[])) wk) (fun chk wp => R (.panicked chk) wp) Try.prog (markOf Dr10 :: []) (.returning) wzr10)
def f54_ann : Ann := { loops := [(2, [(5, .slice)])], cuts := [], flip := [], throws := [], ranges := [(10, [(40, .int .i64), (41, .int .i64)])] }
theorem f54_eq (g0 : Go.Fn) (fs0 cs0 : Array Value) (a1 : Option Addr) (a2 : Option Addr) (a3 : Option Addr) (w : World) (R : Ending → World → Prop) : vc Try.prog f54_ann (bodyOf Try.f54) (retQ Try.prog Try.f54 R) (envOf Try.f54.ntmps [.v (.func g0 fs0 cs0), .v (.pointer a1), .v (.pointer a2), .v (.pointer a3)]) [] w = f54_vc g0 fs0 cs0 a1 a2 a3 w R := by kernel_rfl
theorem f54_does (g0 : Go.Fn) (fs0 cs0 : Array Value) (a1 : Option Addr) (a2 : Option Addr) (a3 : Option Addr) {w : World} {R : Ending → World → Prop} (h : f54_vc g0 fs0 cs0 a1 a2 a3 w R) : Does Try.prog 54 #[.func g0 fs0 cs0, .pointer a1, .pointer a2, .pointer a3] w R :=
  does_of_vc (ss := [.v (.func g0 fs0 cs0), .v (.pointer a1), .v (.pointer a2), .v (.pointer a3)]) f54_ann mixed call54 Try.func54 rfl rfl (show 4 ≤ Try.f54.ntmps by decide) ((f54_eq g0 fs0 cs0 a1 a2 a3 w R).symm ▸ h)
/-- Of slices.Backward[[]int,int] (function 55): the condition. -/
def f55_vc (p0 : Option Addr) (l0 c0 : Nat) (w : World) (R : Ending → World → Prop) : Prop :=
  ∀ b1 w1, NewBlk w b1 [.slice p0 l0 c0] 48 w1 →
  R (.returned (.func (.func 58) #[] #[.pointer (some ⟨b1, 0, none⟩)])) w1
def f55_ann : Ann := { loops := [], cuts := [], flip := [], throws := [] }
theorem f55_eq (p0 : Option Addr) (l0 c0 : Nat) (w : World) (R : Ending → World → Prop) : vc Try.prog f55_ann (bodyOf Try.f55) (retQ Try.prog Try.f55 R) (envOf Try.f55.ntmps [.v (.slice p0 l0 c0)]) [] w = f55_vc p0 l0 c0 w R := by kernel_rfl
theorem f55_does (p0 : Option Addr) (l0 c0 : Nat) {w : World} {R : Ending → World → Prop} (h : f55_vc p0 l0 c0 w R) : Does Try.prog 55 #[.slice p0 l0 c0] w R :=
  does_of_vc (ss := [.v (.slice p0 l0 c0)]) f55_ann mixed call55 Try.func55 rfl rfl (show 1 ≤ Try.f55.ntmps by decide) ((f55_eq p0 l0 c0 w R).symm ▸ h)
/-- Of (*escritoire/edit.buffer).holds (function 56): the condition. -/
def f56_vc (a0 : Option Addr) (w : World) (R : Ending → World → Prop) : Prop :=
  ∀ wd1, Drew w wd1 →
  ∃ b4 o4, a0 = some ⟨b4, o4, none⟩ ∧ ∃ n7 : Int, wd1.cell? ⟨b4, o4 + 1, none⟩ = some (.int .i64 n7) ∧ Br (decide (n7 ≥ 0))
  (∃ b11 o11, a0 = some ⟨b11, o11, none⟩ ∧ ∃ n14 : Int, wd1.cell? ⟨b11, o11 + 1, none⟩ = some (.int .i64 n14) ∧ ∃ b16 o16, a0 = some ⟨b16, o16, none⟩ ∧ ∃ (p18 : Option Addr) (l18 c18 : Nat), wd1.cell? ⟨b16, o16, none⟩ = some (.slice p18 l18 c18) ∧ Br (decide (n14 ≤ ((l18 : Int))))
  (∃ b24 o24, a0 = some ⟨b24, o24, none⟩ ∧ ∃ (p26 : Option Addr) (l26 c26 : Nat), wd1.cell? ⟨b24, o24, none⟩ = some (.slice p26 l26 c26) ∧ ∃ b28 o28, a0 = some ⟨b28, o28, none⟩ ∧ ∃ n31 : Int, wd1.cell? ⟨b28, o28 + 1, none⟩ = some (.int .i64 n31) ∧ ((0 : Int) ≤ n31 ∧ n31 ≤ (l26 : Int)) ∧ ∃ b34 o34, a0 = some ⟨b34, o34, none⟩ ∧ ∃ (p37 : Option Addr) (l37 c37 : Nat), wd1.cell? ⟨b34, o34 + 2, none⟩ = some (.slice p37 l37 c37) ∧ Does Try.prog 59 #[.slice (subp p26 ((n31).toNat) c26 1) (l26 - ((n31).toNat)) (c26 - ((n31).toNat)), .slice p37 l37 c37] wd1 fun e38 w38 =>
  ∃ b38 : Bool, e38 = .returned (.bool b38) ∧ R (.returned (.bool b38)) w38)
  (R (.returned (.bool false)) wd1))
  (R (.returned (.bool false)) wd1)
def f56_ann : Ann := { loops := [], cuts := [], flip := [], throws := [] }
theorem f56_eq (a0 : Option Addr) (w : World) (R : Ending → World → Prop) : vc Try.prog f56_ann (bodyOf Try.f56) (retQ Try.prog Try.f56 R) (envOf Try.f56.ntmps [.v (.pointer a0)]) [] w = f56_vc a0 w R := by kernel_rfl
theorem f56_does (a0 : Option Addr) {w : World} {R : Ending → World → Prop} (h : f56_vc a0 w R) : Does Try.prog 56 #[.pointer a0] w R :=
  does_of_vc (ss := [.v (.pointer a0)]) f56_ann mixed call56 Try.func56 rfl rfl (show 1 ≤ Try.f56.ntmps by decide) ((f56_eq a0 w R).symm ▸ h)
/-- Of (*escritoire/edit.buffer).change (function 57): the condition. -/
def f57_vc (a0 : Option Addr) (w : World) (R : Ending → World → Prop) : Prop :=
  ∀ wd1, Drew w wd1 →
  ∃ b5 o5, a0 = some ⟨b5, o5, none⟩ ∧ ∃ (p7 : Option Addr) (l7 c7 : Nat), wd1.cell? ⟨b5, o5, none⟩ = some (.slice p7 l7 c7) ∧ ∃ b9 o9, a0 = some ⟨b9, o9, none⟩ ∧ ∃ n12 : Int, wd1.cell? ⟨b9, o9 + 1, none⟩ = some (.int .i64 n12) ∧ ((0 : Int) ≤ n12 ∧ n12 ≤ (c7 : Int)) ∧ ∃ (p14 : Option Addr) (l14 c14 : Nat) (w14 : World), (Builtin.append_ #[41, 41] 41 #[.slice none 0 0, .slice (subp p7 0 c7 1) (((n12).toNat) - 0) (c7 - 0)]).run Try.prog wd1 = .ok (.slice p14 l14 c14) w14 ∧
  ∃ b17 o17, a0 = some ⟨b17, o17, none⟩ ∧ ∃ (p20 : Option Addr) (l20 c20 : Nat), w14.cell? ⟨b17, o17 + 3, none⟩ = some (.slice p20 l20 c20) ∧ ∃ (p21 : Option Addr) (l21 c21 : Nat) (w21 : World), (Builtin.append_ #[41, 41] 41 #[.slice p14 l14 c14, .slice p20 l20 c20]).run Try.prog w14 = .ok (.slice p21 l21 c21) w21 ∧
  ∀ wd3, Drew w21 wd3 →
  ∃ b25 o25, a0 = some ⟨b25, o25, none⟩ ∧ ∃ (p27 : Option Addr) (l27 c27 : Nat), wd3.cell? ⟨b25, o25, none⟩ = some (.slice p27 l27 c27) ∧ ∃ b29 o29, a0 = some ⟨b29, o29, none⟩ ∧ ∃ n32 : Int, wd3.cell? ⟨b29, o29 + 1, none⟩ = some (.int .i64 n32) ∧ ∃ b34 o34, a0 = some ⟨b34, o34, none⟩ ∧ ∃ (p37 : Option Addr) (l37 c37 : Nat), wd3.cell? ⟨b34, o34 + 2, none⟩ = some (.slice p37 l37 c37) ∧ InK .i64 (n32 + ((l37 : Int))) ∧ ((0 : Int) ≤ (n32 + ((l37 : Int))) ∧ (n32 + ((l37 : Int))) ≤ (l27 : Int)) ∧ ∃ (p41 : Option Addr) (l41 c41 : Nat) (w41 : World), (Builtin.append_ #[41, 41] 41 #[.slice p21 l21 c21, .slice (subp p27 ((n32 + ((l37 : Int))).toNat) c27 1) (l27 - ((n32 + ((l37 : Int))).toNat)) (c27 - ((n32 + ((l37 : Int))).toNat))]).run Try.prog wd3 = .ok (.slice p41 l41 c41) w41 ∧
  ∃ b42 o42, a0 = some ⟨b42, o42, none⟩ ∧ CanStore w41 b42 o42 ∧ ∀ ws, Stored w41 b42 o42 (.slice p41 l41 c41) ws →
  R (.returned (.bool true)) ws
def f57_ann : Ann := { loops := [], cuts := [], flip := [], throws := [] }
theorem f57_eq (a0 : Option Addr) (w : World) (R : Ending → World → Prop) : vc Try.prog f57_ann (bodyOf Try.f57) (retQ Try.prog Try.f57 R) (envOf Try.f57.ntmps [.v (.pointer a0)]) [] w = f57_vc a0 w R := by kernel_rfl
theorem f57_does (a0 : Option Addr) {w : World} {R : Ending → World → Prop} (h : f57_vc a0 w R) : Does Try.prog 57 #[.pointer a0] w R :=
  does_of_vc (ss := [.v (.pointer a0)]) f57_ann mixed call57 Try.func57 rfl rfl (show 1 ≤ Try.f57.ntmps by decide) ((f57_eq a0 w R).symm ▸ h)
/-- Of slices.Backward[[]int,int]$1 (function 58): the condition. -/
def f58_vc (g0 : Go.Fn) (fs0 cs0 : Array Value) (a1 : Option Addr) (w : World) (R : Ending → World → Prop) : Prop :=
  ∃ b4 o4, a1 = some ⟨b4, o4, none⟩ ∧ ∃ (p4 : Option Addr) (l4 c4 : Nat), w.cell? ⟨b4, o4, none⟩ = some (.slice p4 l4 c4) ∧ InK .i64 (((l4 : Int)) - 1) ∧ ∃ I1 : Int → Nat → World → Prop, (∃ nl1, I1 (((l4 : Int)) - 1) nl1 w) ∧ ∀ x3 : Int, ∀ (nl1 : Nat) (wl1 : World), I1 x3 nl1 wl1 →
  Br (decide (x3 ≥ 0))
  (∃ b13 o13, a1 = some ⟨b13, o13, none⟩ ∧ ∃ (p13 : Option Addr) (l13 c13 : Nat), wl1.cell? ⟨b13, o13, none⟩ = some (.slice p13 l13 c13) ∧ ((0 : Int) ≤ x3 ∧ x3 < (l13 : Int)) ∧ ∃ b15 o15, p13 = some ⟨b15, o15, none⟩ ∧ ∃ n16 : Int, wl1.cell? ⟨b15, o15 + (x3).toNat, none⟩ = some (.int .i64 n16) ∧ DoesV Try.prog g0 fs0 #[.int .i64 x3, .int .i64 n16] cs0 wl1 fun e17 w17 =>
  ∃ b17 : Bool, e17 = .returned (.bool b17) ∧ Br (!b17)
  (R (.returned (.tuple #[])) w17)
  (InK .i64 (x3 - 1) ∧ ∃ ml1, ml1 < nl1 ∧ I1 (x3 - 1) ml1 w17))
  (R (.returned (.tuple #[])) wl1)
def f58_ann : Ann := { loops := [(1, [(3, .int .i64)])], cuts := [], flip := [], throws := [] }
theorem f58_eq (g0 : Go.Fn) (fs0 cs0 : Array Value) (a1 : Option Addr) (w : World) (R : Ending → World → Prop) : vc Try.prog f58_ann (bodyOf Try.f58) (retQ Try.prog Try.f58 R) (envOf Try.f58.ntmps [.v (.func g0 fs0 cs0), .v (.pointer a1)]) [] w = f58_vc g0 fs0 cs0 a1 w R := by kernel_rfl
theorem f58_does (g0 : Go.Fn) (fs0 cs0 : Array Value) (a1 : Option Addr) {w : World} {R : Ending → World → Prop} (h : f58_vc g0 fs0 cs0 a1 w R) : Does Try.prog 58 #[.func g0 fs0 cs0, .pointer a1] w R :=
  does_of_vc (ss := [.v (.func g0 fs0 cs0), .v (.pointer a1)]) f58_ann mixed call58 Try.func58 rfl rfl (show 2 ≤ Try.f58.ntmps by decide) ((f58_eq g0 fs0 cs0 a1 w R).symm ▸ h)
/-- Of bytes.HasPrefix (function 59): the condition. -/
def f59_vc (p0 : Option Addr) (l0 c0 : Nat) (p1 : Option Addr) (l1 c1 : Nat) (w : World) (R : Ending → World → Prop) : Prop :=
  Br (decide (((l0 : Int)) ≥ ((l1 : Int))))
  (((0 : Int) ≤ ((l1 : Int)) ∧ ((l1 : Int)) ≤ (c0 : Int)) ∧ Does Try.prog 60 #[.slice (subp p0 0 c0 1) ((((l1 : Int)).toNat) - 0) (c0 - 0), .slice p1 l1 c1] w fun e16 w16 =>
  ∃ b16 : Bool, e16 = .returned (.bool b16) ∧ R (.returned (.bool b16)) w16)
  (R (.returned (.bool false)) w)
def f59_ann : Ann := { loops := [], cuts := [], flip := [], throws := [] }
theorem f59_eq (p0 : Option Addr) (l0 c0 : Nat) (p1 : Option Addr) (l1 c1 : Nat) (w : World) (R : Ending → World → Prop) : vc Try.prog f59_ann (bodyOf Try.f59) (retQ Try.prog Try.f59 R) (envOf Try.f59.ntmps [.v (.slice p0 l0 c0), .v (.slice p1 l1 c1)]) [] w = f59_vc p0 l0 c0 p1 l1 c1 w R := by kernel_rfl
theorem f59_does (p0 : Option Addr) (l0 c0 : Nat) (p1 : Option Addr) (l1 c1 : Nat) {w : World} {R : Ending → World → Prop} (h : f59_vc p0 l0 c0 p1 l1 c1 w R) : Does Try.prog 59 #[.slice p0 l0 c0, .slice p1 l1 c1] w R :=
  does_of_vc (ss := [.v (.slice p0 l0 c0), .v (.slice p1 l1 c1)]) f59_ann mixed call59 Try.func59 rfl rfl (show 2 ≤ Try.f59.ntmps by decide) ((f59_eq p0 l0 c0 p1 l1 c1 w R).symm ▸ h)
/-- Of bytes.Equal (function 60): the condition. -/
def f60_vc (p0 : Option Addr) (l0 c0 : Nat) (p1 : Option Addr) (l1 c1 : Nat) (w : World) (R : Ending → World → Prop) : Prop :=
  ∃ s6 : ByteArray, ∃ w6, (convert 41 9 (.slice p0 l0 c0)).run Try.prog w = .ok (.string s6) w6 ∧ ∃ s8 : ByteArray, ∃ w8, (convert 41 9 (.slice p1 l1 c1)).run Try.prog w6 = .ok (.string s8) w8 ∧ R (.returned (.bool (s6.toList == s8.toList))) w8
def f60_ann : Ann := { loops := [], cuts := [], flip := [], throws := [] }
theorem f60_eq (p0 : Option Addr) (l0 c0 : Nat) (p1 : Option Addr) (l1 c1 : Nat) (w : World) (R : Ending → World → Prop) : vc Try.prog f60_ann (bodyOf Try.f60) (retQ Try.prog Try.f60 R) (envOf Try.f60.ntmps [.v (.slice p0 l0 c0), .v (.slice p1 l1 c1)]) [] w = f60_vc p0 l0 c0 p1 l1 c1 w R := by kernel_rfl
theorem f60_does (p0 : Option Addr) (l0 c0 : Nat) (p1 : Option Addr) (l1 c1 : Nat) {w : World} {R : Ending → World → Prop} (h : f60_vc p0 l0 c0 p1 l1 c1 w R) : Does Try.prog 60 #[.slice p0 l0 c0, .slice p1 l1 c1] w R :=
  does_of_vc (ss := [.v (.slice p0 l0 c0), .v (.slice p1 l1 c1)]) f60_ann mixed call60 Try.func60 rfl rfl (show 2 ≤ Try.f60.ntmps by decide) ((f60_eq p0 l0 c0 p1 l1 c1 w R).symm ▸ h)
end Go.Proofs.Ytbnjlnbmdkbpkaa
