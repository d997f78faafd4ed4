/-
  Of each function of the code: its verification condition, and that it suffices.
-/
import Derived.Test.YtdkeccgcleamcaaVcDoes
import Derived.Test.YtdkeccgcleamcaaProg
set_option maxRecDepth 100000
namespace Go.Proofs.Ytdkeccgcleamcaa
open Go.RowKit Go.Vc
def bodyOf (fn : Func) : Code := match fn.body with | some c => c | none => .skip
theorem mixed : Try.prog.follows .mixedOrders = true := by kernel_rfl
theorem call3 : callableB Try.prog 3 = true := by kernel_rfl
theorem call4 : callableB Try.prog 4 = true := by kernel_rfl
theorem call5 : callableB Try.prog 5 = true := by kernel_rfl
theorem call6 : callableB Try.prog 6 = true := by kernel_rfl
theorem call7 : callableB Try.prog 7 = true := by kernel_rfl
theorem call8 : callableB Try.prog 8 = true := by kernel_rfl
theorem call9 : callableB Try.prog 9 = true := by kernel_rfl
theorem call10 : callableB Try.prog 10 = true := by kernel_rfl
theorem call11 : callableB Try.prog 11 = true := by kernel_rfl
theorem call12 : callableB Try.prog 12 = true := by kernel_rfl
theorem call13 : callableB Try.prog 13 = true := by kernel_rfl
theorem call14 : callableB Try.prog 14 = true := by kernel_rfl
theorem call15 : callableB Try.prog 15 = true := by kernel_rfl
theorem call16 : callableB Try.prog 16 = true := by kernel_rfl
theorem call17 : callableB Try.prog 17 = true := by kernel_rfl
theorem call18 : callableB Try.prog 18 = true := by kernel_rfl
theorem call19 : callableB Try.prog 19 = true := by kernel_rfl
theorem call20 : callableB Try.prog 20 = true := by kernel_rfl
theorem call22 : callableB Try.prog 22 = true := by kernel_rfl
theorem call23 : callableB Try.prog 23 = true := by kernel_rfl
theorem call24 : callableB Try.prog 24 = true := by kernel_rfl
theorem call25 : callableB Try.prog 25 = true := by kernel_rfl
theorem call26 : callableB Try.prog 26 = true := by kernel_rfl
theorem call28 : callableB Try.prog 28 = true := by kernel_rfl
theorem call29 : callableB Try.prog 29 = true := by kernel_rfl
theorem call30 : callableB Try.prog 30 = true := by kernel_rfl
theorem call31 : callableB Try.prog 31 = true := by kernel_rfl
theorem call32 : callableB Try.prog 32 = true := by kernel_rfl
theorem call33 : callableB Try.prog 33 = true := by kernel_rfl
theorem call34 : callableB Try.prog 34 = true := by kernel_rfl
theorem call35 : callableB Try.prog 35 = true := by kernel_rfl
theorem call36 : callableB Try.prog 36 = true := by kernel_rfl
theorem call37 : callableB Try.prog 37 = true := by kernel_rfl
theorem call38 : callableB Try.prog 38 = true := by kernel_rfl
theorem call39 : callableB Try.prog 39 = true := by kernel_rfl
theorem call40 : callableB Try.prog 40 = true := by kernel_rfl
theorem call41 : callableB Try.prog 41 = true := by kernel_rfl
theorem call42 : callableB Try.prog 42 = true := by kernel_rfl
theorem call43 : callableB Try.prog 43 = true := by kernel_rfl
theorem call44 : callableB Try.prog 44 = true := by kernel_rfl
/-- Of escritoire/escritoirelaw25.LineParses (function 3): the condition. -/
def f3_vc (a0 : ByteArray) (w : World) (R : Ending → World → Prop) : Prop :=
  Does Try.prog 9 #[] w fun e9 w9 =>
  ∃ b9 : Bool, e9 = .returned (.bool b9) ∧ Br (!b9)
  (R (.returned (.bool false)) w9)
  (Br (decide (((a0.size : Int)) > 4200))
  (Does Try.prog 10 #[.string a0] w9 fun e16 w16 =>
  ∃ (p16 : Option Addr) (l16 c16 : Nat), ∃ s16 : ByteArray, ∃ b16 : Bool, ∃ s16_1 : ByteArray, ∃ n16 : Int, e16 = .returned (.tuple #[.agg #[.slice p16 l16 c16, .string s16, .bool b16, .string s16_1], .int .i64 n16]) ∧ ∀ b3 w3, NewBlk w16 b3 [.slice none 0 0, .string (({ data := #[] } : ByteArray)), .bool false, .string (({ data := #[] } : ByteArray))] 25 w3 →
  CanStore w3 b3 0 ∧ ∀ ws, Stored w3 b3 0 (.slice p16 l16 c16) ws →
  CanStore ws b3 1 ∧ ∀ ws_1, Stored ws b3 1 (.string s16) ws_1 →
  CanStore ws_1 b3 2 ∧ ∀ ws_2, Stored ws_1 b3 2 (.bool b16) ws_2 →
  CanStore ws_2 b3 3 ∧ ∀ ws_3, Stored ws_2 b3 3 (.string s16_1) ws_3 →
  R (.returned (.bool (n16 == 3))) ws_3)
  (Does Try.prog 10 #[.string a0] w9 fun e23 w23 =>
  ∃ (p23 : Option Addr) (l23 c23 : Nat), ∃ s23 : ByteArray, ∃ b23 : Bool, ∃ s23_1 : ByteArray, ∃ n23 : Int, e23 = .returned (.tuple #[.agg #[.slice p23 l23 c23, .string s23, .bool b23, .string s23_1], .int .i64 n23]) ∧ ∀ b5 w5, NewBlk w23 b5 [.slice none 0 0, .string (({ data := #[] } : ByteArray)), .bool false, .string (({ data := #[] } : ByteArray))] 25 w5 →
  CanStore w5 b5 0 ∧ ∀ ws_4, Stored w5 b5 0 (.slice p23 l23 c23) ws_4 →
  CanStore ws_4 b5 1 ∧ ∀ ws_5, Stored ws_4 b5 1 (.string s23) ws_5 →
  CanStore ws_5 b5 2 ∧ ∀ ws_6, Stored ws_5 b5 2 (.bool b23) ws_6 →
  CanStore ws_6 b5 3 ∧ ∀ ws_7, Stored ws_6 b5 3 (.string s23_1) ws_7 →
  Does Try.prog 11 #[.string a0] ws_7 fun e28 w28 =>
  ∃ (p28 : Option Addr) (l28 c28 : Nat), ∃ s28 : ByteArray, ∃ b28 : Bool, ∃ s28_1 : ByteArray, ∃ n28 : Int, e28 = .returned (.tuple #[.agg #[.slice p28 l28 c28, .string s28, .bool b28, .string s28_1], .int .i64 n28]) ∧ ∀ b7 w7, NewBlk w28 b7 [.slice none 0 0, .string (({ data := #[] } : ByteArray)), .bool false, .string (({ data := #[] } : ByteArray))] 31 w7 →
  CanStore w7 b7 0 ∧ ∀ ws_8, Stored w7 b7 0 (.slice p28 l28 c28) ws_8 →
  CanStore ws_8 b7 1 ∧ ∀ ws_9, Stored ws_8 b7 1 (.string s28) ws_9 →
  CanStore ws_9 b7 2 ∧ ∀ ws_10, Stored ws_9 b7 2 (.bool b28) ws_10 →
  CanStore ws_10 b7 3 ∧ ∀ ws_11, Stored ws_10 b7 3 (.string s28_1) ws_11 →
  ∀ wd8, Drew ws_11 wd8 →
  ∃ S8 : World → Prop, S8 wd8 ∧ Br (n23 == n28)
  (∃ (p35 : Option Addr) (l35 c35 : Nat), wd8.cell? ⟨b5, 0, none⟩ = some (.slice p35 l35 c35) ∧ ∃ s35 : ByteArray, wd8.cell? ⟨b5, 1, none⟩ = some (.string s35) ∧ ∃ b35 : Bool, wd8.cell? ⟨b5, 2, none⟩ = some (.bool b35) ∧ ∃ s35_1 : ByteArray, wd8.cell? ⟨b5, 3, none⟩ = some (.string s35_1) ∧ Does Try.prog 13 #[.agg #[.slice p35 l35 c35, .string s35, .bool b35, .string s35_1]] wd8 fun e36 w36 =>
  ∃ (p36 : Option Addr) (l36 c36 : Nat), ∃ s36 : ByteArray, ∃ b36 : Bool, ∃ s36_1 : ByteArray, e36 = .returned (.agg #[.slice p36 l36 c36, .string s36, .bool b36, .string s36_1]) ∧ S8 w36 ∧ ∃ (p37 : Option Addr) (l37 c37 : Nat), (∀ w, S8 w → w.cell? ⟨b7, 0, none⟩ = some (.slice p37 l37 c37)) ∧ ∃ s37 : ByteArray, (∀ w, S8 w → w.cell? ⟨b7, 1, none⟩ = some (.string s37)) ∧ ∃ b37 : Bool, (∀ w, S8 w → w.cell? ⟨b7, 2, none⟩ = some (.bool b37)) ∧ ∃ s37_1 : ByteArray, (∀ w, S8 w → w.cell? ⟨b7, 3, none⟩ = some (.string s37_1)) ∧ Does Try.prog 12 #[.agg #[.slice p36 l36 c36, .string s36, .bool b36, .string s36_1], .agg #[.slice p37 l37 c37, .string s37, .bool b37, .string s37_1]] w36 fun e38 w38 =>
  ∃ b38 : Bool, e38 = .returned (.bool b38) ∧ R (.returned (.bool b38)) w38)
  (R (.returned (.bool false)) wd8)))
def f3_ann : Ann := { loops := [], cuts := [], flip := [], throws := [] }
theorem f3_eq (a0 : ByteArray) (w : World) (R : Ending → World → Prop) : vc Try.prog f3_ann (bodyOf Try.f3) (retQ Try.prog Try.f3 R) (envOf Try.f3.ntmps [.v (.string a0)]) [] w = f3_vc a0 w R := by kernel_rfl
theorem f3_does (a0 : ByteArray) {w : World} {R : Ending → World → Prop} (h : f3_vc a0 w R) : Does Try.prog 3 #[.string a0] w R :=
  does_of_vc (ss := [.v (.string a0)]) f3_ann mixed call3 Try.func3 rfl rfl (show 1 ≤ Try.f3.ntmps by decide) ((f3_eq a0 w R).symm ▸ h)
/-- Of escritoire/escritoirelaw25.LineBlanks (function 4): the condition. -/
def f4_vc (a0 : ByteArray) (a1 : Int) (w : World) (R : Ending → World → Prop) : Prop :=
  Does Try.prog 9 #[] w fun e11 w11 =>
  ∃ b11 : Bool, e11 = .returned (.bool b11) ∧ Br (!b11)
  (R (.returned (.bool false)) w11)
  (Br (decide (((a0.size : Int)) > 2000))
  (R (.returned (.bool true)) w11)
  (∃ I7 : ByteArray → Int → Nat → World → Prop, (∃ nl7, I7 a0 0 nl7 w11) ∧ ∀ s5 : ByteArray, ∀ x6 : Int, ∀ (nl7 : Nat) (wl7 : World), I7 s5 x6 nl7 wl7 →
  InK .i64 (a1) ∧ (5 : Int) ≠ 0 ∧ Br (decide (x6 < (a1.tmod 5)))
  ((((({ data := #[32] } : ByteArray)).size + s5.size : Nat) : Int) ≤ 9223372036854775807 ∧ InK .i64 (x6 + 1) ∧ ∃ ml7, ml7 < nl7 ∧ I7 ((({ data := #[32] } : ByteArray)) ++ s5) (x6 + 1) ml7 wl7)
  (Does Try.prog 10 #[.string a0] wl7 fun e28 w28 =>
  ∃ (p28 : Option Addr) (l28 c28 : Nat), ∃ s28 : ByteArray, ∃ b28 : Bool, ∃ s28_1 : ByteArray, ∃ n28 : Int, e28 = .returned (.tuple #[.agg #[.slice p28 l28 c28, .string s28, .bool b28, .string s28_1], .int .i64 n28]) ∧ ∀ b7 w7, NewBlk w28 b7 [.slice none 0 0, .string (({ data := #[] } : ByteArray)), .bool false, .string (({ data := #[] } : ByteArray))] 25 w7 →
  CanStore w7 b7 0 ∧ ∀ ws, Stored w7 b7 0 (.slice p28 l28 c28) ws →
  CanStore ws b7 1 ∧ ∀ ws_1, Stored ws b7 1 (.string s28) ws_1 →
  CanStore ws_1 b7 2 ∧ ∀ ws_2, Stored ws_1 b7 2 (.bool b28) ws_2 →
  CanStore ws_2 b7 3 ∧ ∀ ws_3, Stored ws_2 b7 3 (.string s28_1) ws_3 →
  Does Try.prog 10 #[.string s5] ws_3 fun e33 w33 =>
  ∃ (p33 : Option Addr) (l33 c33 : Nat), ∃ s33 : ByteArray, ∃ b33 : Bool, ∃ s33_1 : ByteArray, ∃ n33 : Int, e33 = .returned (.tuple #[.agg #[.slice p33 l33 c33, .string s33, .bool b33, .string s33_1], .int .i64 n33]) ∧ ∀ b9 w9, NewBlk w33 b9 [.slice none 0 0, .string (({ data := #[] } : ByteArray)), .bool false, .string (({ data := #[] } : ByteArray))] 25 w9 →
  CanStore w9 b9 0 ∧ ∀ ws_4, Stored w9 b9 0 (.slice p33 l33 c33) ws_4 →
  CanStore ws_4 b9 1 ∧ ∀ ws_5, Stored ws_4 b9 1 (.string s33) ws_5 →
  CanStore ws_5 b9 2 ∧ ∀ ws_6, Stored ws_5 b9 2 (.bool b33) ws_6 →
  CanStore ws_6 b9 3 ∧ ∀ ws_7, Stored ws_6 b9 3 (.string s33_1) ws_7 →
  ∀ wd12, Drew ws_7 wd12 →
  ∃ S12 : World → Prop, S12 wd12 ∧ Br (n28 == n33)
  (∃ (p40 : Option Addr) (l40 c40 : Nat), wd12.cell? ⟨b7, 0, none⟩ = some (.slice p40 l40 c40) ∧ ∃ s40 : ByteArray, wd12.cell? ⟨b7, 1, none⟩ = some (.string s40) ∧ ∃ b40 : Bool, wd12.cell? ⟨b7, 2, none⟩ = some (.bool b40) ∧ ∃ s40_1 : ByteArray, wd12.cell? ⟨b7, 3, none⟩ = some (.string s40_1) ∧ Does Try.prog 13 #[.agg #[.slice p40 l40 c40, .string s40, .bool b40, .string s40_1]] wd12 fun e41 w41 =>
  ∃ (p41 : Option Addr) (l41 c41 : Nat), ∃ s41 : ByteArray, ∃ b41 : Bool, ∃ s41_1 : ByteArray, e41 = .returned (.agg #[.slice p41 l41 c41, .string s41, .bool b41, .string s41_1]) ∧ S12 w41 ∧ ∃ (p42 : Option Addr) (l42 c42 : Nat), (∀ w, S12 w → w.cell? ⟨b9, 0, none⟩ = some (.slice p42 l42 c42)) ∧ ∃ s42 : ByteArray, (∀ w, S12 w → w.cell? ⟨b9, 1, none⟩ = some (.string s42)) ∧ ∃ b42 : Bool, (∀ w, S12 w → w.cell? ⟨b9, 2, none⟩ = some (.bool b42)) ∧ ∃ s42_1 : ByteArray, (∀ w, S12 w → w.cell? ⟨b9, 3, none⟩ = some (.string s42_1)) ∧ Does Try.prog 13 #[.agg #[.slice p42 l42 c42, .string s42, .bool b42, .string s42_1]] w41 fun e43 w43 =>
  ∃ (p43 : Option Addr) (l43 c43 : Nat), ∃ s43 : ByteArray, ∃ b43 : Bool, ∃ s43_1 : ByteArray, e43 = .returned (.agg #[.slice p43 l43 c43, .string s43, .bool b43, .string s43_1]) ∧ Does Try.prog 12 #[.agg #[.slice p41 l41 c41, .string s41, .bool b41, .string s41_1], .agg #[.slice p43 l43 c43, .string s43, .bool b43, .string s43_1]] w43 fun e44 w44 =>
  ∃ b44 : Bool, e44 = .returned (.bool b44) ∧ R (.returned (.bool b44)) w44)
  (R (.returned (.bool false)) wd12))))
def f4_ann : Ann := { loops := [(7, [(5, .str), (6, .int .i64)])], cuts := [], flip := [], throws := [] }
theorem f4_eq (a0 : ByteArray) (a1 : Int) (w : World) (R : Ending → World → Prop) : vc Try.prog f4_ann (bodyOf Try.f4) (retQ Try.prog Try.f4 R) (envOf Try.f4.ntmps [.v (.string a0), .v (.int .u8 a1)]) [] w = f4_vc a0 a1 w R := by kernel_rfl
theorem f4_does (a0 : ByteArray) (a1 : Int) {w : World} {R : Ending → World → Prop} (h : f4_vc a0 a1 w R) : Does Try.prog 4 #[.string a0, .int .u8 a1] w R :=
  does_of_vc (ss := [.v (.string a0), .v (.int .u8 a1)]) f4_ann mixed call4 Try.func4 rfl rfl (show 2 ≤ Try.f4.ntmps by decide) ((f4_eq a0 a1 w R).symm ▸ h)
/-- Of escritoire/escritoirelaw25.LineSubsts (function 5): the condition. -/
def f5_vc (a0 : ByteArray) (w : World) (R : Ending → World → Prop) : Prop :=
  Does Try.prog 9 #[] w fun e11 w11 =>
  ∃ b11 : Bool, e11 = .returned (.bool b11) ∧ Br (!b11)
  (R (.returned (.bool false)) w11)
  (Br (decide (((a0.size : Int)) > 4200))
  (R (.returned (.bool true)) w11)
  (Does Try.prog 14 #[.string a0] w11 fun e18 w18 =>
  ∃ s18 : ByteArray, ∃ s18_1 : ByteArray, ∃ b18 : Bool, ∃ b18_1 : Bool, e18 = .returned (.tuple #[.string s18, .string s18_1, .bool b18, .bool b18_1]) ∧ Does Try.prog 15 #[.string a0] w18 fun e25 w25 =>
  ∃ s25 : ByteArray, ∃ s25_1 : ByteArray, ∃ b25 : Bool, ∃ b25_1 : Bool, e25 = .returned (.tuple #[.string s25, .string s25_1, .bool b25, .bool b25_1]) ∧ Br (b18_1 == b25_1)
  (Br (s18.toList == s25.toList)
  (Br (s18_1.toList == s25_1.toList)
  (Br (b18 == b25)
  (Br (!b18_1)
  (R (.returned (.bool true)) w25)
  (R (.returned (.bool (decide (((s18.size : Int)) > 0)))) w25))
  (R (.returned (.bool false)) w25))
  (R (.returned (.bool false)) w25))
  (R (.returned (.bool false)) w25))
  (R (.returned (.bool false)) w25)))
def f5_ann : Ann := { loops := [], cuts := [], flip := [], throws := [] }
theorem f5_eq (a0 : ByteArray) (w : World) (R : Ending → World → Prop) : vc Try.prog f5_ann (bodyOf Try.f5) (retQ Try.prog Try.f5 R) (envOf Try.f5.ntmps [.v (.string a0)]) [] w = f5_vc a0 w R := by kernel_rfl
theorem f5_does (a0 : ByteArray) {w : World} {R : Ending → World → Prop} (h : f5_vc a0 w R) : Does Try.prog 5 #[.string a0] w R :=
  does_of_vc (ss := [.v (.string a0)]) f5_ann mixed call5 Try.func5 rfl rfl (show 1 ≤ Try.f5.ntmps by decide) ((f5_eq a0 w R).symm ▸ h)
/-- Of escritoire/escritoirelaw25.LineResolves (function 6): the condition. -/
def f6_vc (p0_0 : Option Addr) (l0_0 c0_0 : Nat) (a0_1 : ByteArray) (a0_2 : Bool) (a0_3 : ByteArray) (a1 : Int) (p2 : Option Addr) (l2 c2 : Nat) (w : World) (R : Ending → World → Prop) : Prop :=
  ∀ b3 w3, NewBlk w b3 [.slice p0_0 l0_0 c0_0, .string a0_1, .bool a0_2, .string a0_3] 31 w3 →
  Does Try.prog 9 #[] w3 fun e15 w15 =>
  ∃ b15 : Bool, e15 = .returned (.bool b15) ∧ Br (!b15)
  (R (.returned (.bool false)) w15)
  (∃ (p17 : Option Addr) (l17 c17 : Nat), w15.cell? ⟨b3, 0, none⟩ = some (.slice p17 l17 c17) ∧ ∃ s17 : ByteArray, w15.cell? ⟨b3, 1, none⟩ = some (.string s17) ∧ ∃ b17 : Bool, w15.cell? ⟨b3, 2, none⟩ = some (.bool b17) ∧ ∃ s17_1 : ByteArray, w15.cell? ⟨b3, 3, none⟩ = some (.string s17_1) ∧ Does Try.prog 16 #[.agg #[.slice p17 l17 c17, .string s17, .bool b17, .string s17_1]] w15 fun e18 w18 =>
  ∃ b18 : Bool, e18 = .returned (.bool b18) ∧ Br (!b18)
  (R (.returned (.bool true)) w18)
  (Br (decide (((l2 : Int)) > 60))
  (R (.returned (.bool true)) w18)
  (∃ I6 : Int → Nat → World → Prop, (∃ nl6, I6 0 nl6 w18) ∧ ∀ x7 : Int, ∀ (nl6 : Nat) (wl6 : World), I6 x7 nl6 wl6 →
  Br (decide (x7 < ((l2 : Int))))
  (((0 : Int) ≤ x7 ∧ x7 < (l2 : Int)) ∧ ∃ b33 o33, p2 = some ⟨b33, o33, none⟩ ∧ ∃ n35 : Int, wl6.cell? ⟨b33, o33 + (x7).toNat * 2 + 1, none⟩ = some (.int .i64 n35) ∧ Br (decide (n35 < (-1099511627776)))
  (R (.returned (.bool true)) wl6)
  (((0 : Int) ≤ x7 ∧ x7 < (l2 : Int)) ∧ ∃ b40 o40, p2 = some ⟨b40, o40, none⟩ ∧ ∃ n42 : Int, wl6.cell? ⟨b40, o40 + (x7).toNat * 2 + 1, none⟩ = some (.int .i64 n42) ∧ Br (decide (n42 > 1099511627776))
  (R (.returned (.bool true)) wl6)
  (InK .i64 (x7 + 1) ∧ ∃ ml6, ml6 < nl6 ∧ I6 (x7 + 1) ml6 wl6)))
  (Br (decide (a1 < (-1099511627776)))
  (R (.returned (.bool true)) wl6)
  (Br (decide (a1 > 1099511627776))
  (R (.returned (.bool true)) wl6)
  (∃ (p52 : Option Addr) (l52 c52 : Nat), wl6.cell? ⟨b3, 0, none⟩ = some (.slice p52 l52 c52) ∧ ∃ s52 : ByteArray, wl6.cell? ⟨b3, 1, none⟩ = some (.string s52) ∧ ∃ b52 : Bool, wl6.cell? ⟨b3, 2, none⟩ = some (.bool b52) ∧ ∃ s52_1 : ByteArray, wl6.cell? ⟨b3, 3, none⟩ = some (.string s52_1) ∧ Does Try.prog 18 #[.agg #[.slice p52 l52 c52, .string s52, .bool b52, .string s52_1]] wl6 fun e53 w53 =>
  ∃ (p53 : Option Addr) (l53 c53 : Nat), ∃ s53 : ByteArray, ∃ b53 : Bool, ∃ s53_1 : ByteArray, e53 = .returned (.agg #[.slice p53 l53 c53, .string s53, .bool b53, .string s53_1]) ∧ Does Try.prog 17 #[.agg #[.slice p53 l53 c53, .string s53, .bool b53, .string s53_1], .int .i64 a1, .int .i64 9, .slice p2 l2 c2] w53 fun e57 w57 =>
  ∃ n57 : Int, ∃ n57_1 : Int, ∃ n57_2 : Int, e57 = .returned (.tuple #[.int .i64 n57, .int .i64 n57_1, .int .i64 n57_2]) ∧ ∃ (p62 : Option Addr) (l62 c62 : Nat), w57.cell? ⟨b3, 0, none⟩ = some (.slice p62 l62 c62) ∧ ∃ s62 : ByteArray, w57.cell? ⟨b3, 1, none⟩ = some (.string s62) ∧ ∃ b62 : Bool, w57.cell? ⟨b3, 2, none⟩ = some (.bool b62) ∧ ∃ s62_1 : ByteArray, w57.cell? ⟨b3, 3, none⟩ = some (.string s62_1) ∧ Does Try.prog 19 #[.agg #[.slice p62 l62 c62, .string s62, .bool b62, .string s62_1], .int .i64 a1, .int .i64 9, .slice p2 l2 c2] w57 fun e66 w66 =>
  ∃ n66 : Int, ∃ n66_1 : Int, ∃ n66_2 : Int, e66 = .returned (.tuple #[.int .i64 n66, .int .i64 n66_1, .int .i64 n66_2]) ∧ Br (n57_2 != n66_2)
  (R (.returned (.bool false)) w66)
  (Br (n57 != n66)
  (R (.returned (.bool false)) w66)
  (Br (n57_1 != n66_1)
  (R (.returned (.bool false)) w66)
  (Br (n57_2 != 0)
  (R (.returned (.bool true)) w66)
  (∃ (p87 : Option Addr) (l87 c87 : Nat), w66.cell? ⟨b3, 0, none⟩ = some (.slice p87 l87 c87) ∧ Br (((l87 : Int)) == 0)
  (R (.returned (.bool true)) w66)
  (Br (decide (n57 ≥ 1))
  (Br (decide (n57 ≤ n57_1))
  (R (.returned (.bool (decide (n57_1 ≤ 9)))) w66)
  (R (.returned (.bool false)) w66))
  (R (.returned (.bool false)) w66))))))))))))
def f6_ann : Ann := { loops := [(6, [(7, .int .i64)])], cuts := [], flip := [], throws := [] }
theorem f6_eq (p0_0 : Option Addr) (l0_0 c0_0 : Nat) (a0_1 : ByteArray) (a0_2 : Bool) (a0_3 : ByteArray) (a1 : Int) (p2 : Option Addr) (l2 c2 : Nat) (w : World) (R : Ending → World → Prop) : vc Try.prog f6_ann (bodyOf Try.f6) (retQ Try.prog Try.f6 R) (envOf Try.f6.ntmps [.v (.agg #[.slice p0_0 l0_0 c0_0, .string a0_1, .bool a0_2, .string a0_3]), .v (.int .i64 a1), .v (.slice p2 l2 c2)]) [] w = f6_vc p0_0 l0_0 c0_0 a0_1 a0_2 a0_3 a1 p2 l2 c2 w R := by kernel_rfl
theorem f6_does (p0_0 : Option Addr) (l0_0 c0_0 : Nat) (a0_1 : ByteArray) (a0_2 : Bool) (a0_3 : ByteArray) (a1 : Int) (p2 : Option Addr) (l2 c2 : Nat) {w : World} {R : Ending → World → Prop} (h : f6_vc p0_0 l0_0 c0_0 a0_1 a0_2 a0_3 a1 p2 l2 c2 w R) : Does Try.prog 6 #[.agg #[.slice p0_0 l0_0 c0_0, .string a0_1, .bool a0_2, .string a0_3], .int .i64 a1, .slice p2 l2 c2] w R :=
  does_of_vc (ss := [.v (.agg #[.slice p0_0 l0_0 c0_0, .string a0_1, .bool a0_2, .string a0_3]), .v (.int .i64 a1), .v (.slice p2 l2 c2)]) f6_ann mixed call6 Try.func6 rfl rfl (show 3 ≤ Try.f6.ntmps by decide) ((f6_eq p0_0 l0_0 c0_0 a0_1 a0_2 a0_3 a1 p2 l2 c2 w R).symm ▸ h)
/-- Of escritoire/escritoirelaw25.LineOffsets (function 7): the condition. -/
def f7_vc (a0 : Int) (p1 : Option Addr) (l1 c1 : Nat) (w : World) (R : Ending → World → Prop) : Prop :=
  Does Try.prog 9 #[] w fun e15 w15 =>
  ∃ b15 : Bool, e15 = .returned (.bool b15) ∧ Br (!b15)
  (R (.returned (.bool false)) w15)
  (Br (decide (((l1 : Int)) > 100))
  (R (.returned (.bool true)) w15)
  (InK .i64 (a0) ∧ Does Try.prog 20 #[.int .i64 a0] w15 fun e22 w22 =>
  ∃ s22 : ByteArray, e22 = .returned (.string s22) ∧ ∃ I8 : ByteArray → Int → Int → Nat → World → Prop, (∃ nl8, I8 s22 0 0 nl8 w22) ∧ ∀ s5 : ByteArray, ∀ x6 : Int, ∀ x7 : Int, ∀ (nl8 : Nat) (wl8 : World), I8 s5 x6 x7 nl8 wl8 →
  Br (decide (x7 < ((l1 : Int))))
  (((0 : Int) ≤ x7 ∧ x7 < (l1 : Int)) ∧ ∃ b31 o31, p1 = some ⟨b31, o31, none⟩ ∧ ∃ n32 : Int, wl8.cell? ⟨b31, o31 + (x7).toNat, none⟩ = some (.int .i8 n32) ∧ InK .i64 (n32) ∧ InK .i64 (x6 + n32) ∧ Br (n32 == 1)
  ((2 : Int) ≠ 0 ∧ Br ((x7.tmod 2) == 0)
  (((s5.size + (({ data := #[43] } : ByteArray)).size : Nat) : Int) ≤ 9223372036854775807 ∧ InK .i64 (x7 + 1) ∧ ∃ ml8, ml8 < nl8 ∧ I8 (s5 ++ (({ data := #[43] } : ByteArray))) (x6 + n32) (x7 + 1) ml8 wl8)
  (Br (n32 == (-1))
  ((2 : Int) ≠ 0 ∧ Br ((x7.tmod 2) == 0)
  (((s5.size + (({ data := #[45] } : ByteArray)).size : Nat) : Int) ≤ 9223372036854775807 ∧ InK .i64 (x7 + 1) ∧ ∃ ml8, ml8 < nl8 ∧ I8 (s5 ++ (({ data := #[45] } : ByteArray))) (x6 + n32) (x7 + 1) ml8 wl8)
  (Br (decide (n32 < 0))
  (((s5.size + (({ data := #[45] } : ByteArray)).size : Nat) : Int) ≤ 9223372036854775807 ∧ InK .i64 (0 - n32) ∧ Does Try.prog 20 #[.int .i64 (0 - n32)] wl8 fun e69 w69 =>
  ∃ s69 : ByteArray, e69 = .returned (.string s69) ∧ (((s5 ++ (({ data := #[45] } : ByteArray))).size + s69.size : Nat) : Int) ≤ 9223372036854775807 ∧ InK .i64 (x7 + 1) ∧ ∃ ml8, ml8 < nl8 ∧ I8 ((s5 ++ (({ data := #[45] } : ByteArray))) ++ s69) (x6 + n32) (x7 + 1) ml8 w69)
  (((s5.size + (({ data := #[43] } : ByteArray)).size : Nat) : Int) ≤ 9223372036854775807 ∧ Does Try.prog 20 #[.int .i64 n32] wl8 fun e40 w40 =>
  ∃ s40 : ByteArray, e40 = .returned (.string s40) ∧ (((s5 ++ (({ data := #[43] } : ByteArray))).size + s40.size : Nat) : Int) ≤ 9223372036854775807 ∧ InK .i64 (x7 + 1) ∧ ∃ ml8, ml8 < nl8 ∧ I8 ((s5 ++ (({ data := #[43] } : ByteArray))) ++ s40) (x6 + n32) (x7 + 1) ml8 w40)))
  (Br (decide (n32 < 0))
  (((s5.size + (({ data := #[45] } : ByteArray)).size : Nat) : Int) ≤ 9223372036854775807 ∧ InK .i64 (0 - n32) ∧ Does Try.prog 20 #[.int .i64 (0 - n32)] wl8 fun e69_1 w69_1 =>
  ∃ s69_1 : ByteArray, e69_1 = .returned (.string s69_1) ∧ (((s5 ++ (({ data := #[45] } : ByteArray))).size + s69_1.size : Nat) : Int) ≤ 9223372036854775807 ∧ InK .i64 (x7 + 1) ∧ ∃ ml8, ml8 < nl8 ∧ I8 ((s5 ++ (({ data := #[45] } : ByteArray))) ++ s69_1) (x6 + n32) (x7 + 1) ml8 w69_1)
  (((s5.size + (({ data := #[43] } : ByteArray)).size : Nat) : Int) ≤ 9223372036854775807 ∧ Does Try.prog 20 #[.int .i64 n32] wl8 fun e40_1 w40_1 =>
  ∃ s40_1 : ByteArray, e40_1 = .returned (.string s40_1) ∧ (((s5 ++ (({ data := #[43] } : ByteArray))).size + s40_1.size : Nat) : Int) ≤ 9223372036854775807 ∧ InK .i64 (x7 + 1) ∧ ∃ ml8, ml8 < nl8 ∧ I8 ((s5 ++ (({ data := #[43] } : ByteArray))) ++ s40_1) (x6 + n32) (x7 + 1) ml8 w40_1))))
  (Br (n32 == (-1))
  ((2 : Int) ≠ 0 ∧ Br ((x7.tmod 2) == 0)
  (((s5.size + (({ data := #[45] } : ByteArray)).size : Nat) : Int) ≤ 9223372036854775807 ∧ InK .i64 (x7 + 1) ∧ ∃ ml8, ml8 < nl8 ∧ I8 (s5 ++ (({ data := #[45] } : ByteArray))) (x6 + n32) (x7 + 1) ml8 wl8)
  (Br (decide (n32 < 0))
  (((s5.size + (({ data := #[45] } : ByteArray)).size : Nat) : Int) ≤ 9223372036854775807 ∧ InK .i64 (0 - n32) ∧ Does Try.prog 20 #[.int .i64 (0 - n32)] wl8 fun e69_2 w69_2 =>
  ∃ s69_2 : ByteArray, e69_2 = .returned (.string s69_2) ∧ (((s5 ++ (({ data := #[45] } : ByteArray))).size + s69_2.size : Nat) : Int) ≤ 9223372036854775807 ∧ InK .i64 (x7 + 1) ∧ ∃ ml8, ml8 < nl8 ∧ I8 ((s5 ++ (({ data := #[45] } : ByteArray))) ++ s69_2) (x6 + n32) (x7 + 1) ml8 w69_2)
  (((s5.size + (({ data := #[43] } : ByteArray)).size : Nat) : Int) ≤ 9223372036854775807 ∧ Does Try.prog 20 #[.int .i64 n32] wl8 fun e40_2 w40_2 =>
  ∃ s40_2 : ByteArray, e40_2 = .returned (.string s40_2) ∧ (((s5 ++ (({ data := #[43] } : ByteArray))).size + s40_2.size : Nat) : Int) ≤ 9223372036854775807 ∧ InK .i64 (x7 + 1) ∧ ∃ ml8, ml8 < nl8 ∧ I8 ((s5 ++ (({ data := #[43] } : ByteArray))) ++ s40_2) (x6 + n32) (x7 + 1) ml8 w40_2)))
  (Br (decide (n32 < 0))
  (((s5.size + (({ data := #[45] } : ByteArray)).size : Nat) : Int) ≤ 9223372036854775807 ∧ InK .i64 (0 - n32) ∧ Does Try.prog 20 #[.int .i64 (0 - n32)] wl8 fun e69_3 w69_3 =>
  ∃ s69_3 : ByteArray, e69_3 = .returned (.string s69_3) ∧ (((s5 ++ (({ data := #[45] } : ByteArray))).size + s69_3.size : Nat) : Int) ≤ 9223372036854775807 ∧ InK .i64 (x7 + 1) ∧ ∃ ml8, ml8 < nl8 ∧ I8 ((s5 ++ (({ data := #[45] } : ByteArray))) ++ s69_3) (x6 + n32) (x7 + 1) ml8 w69_3)
  (((s5.size + (({ data := #[43] } : ByteArray)).size : Nat) : Int) ≤ 9223372036854775807 ∧ Does Try.prog 20 #[.int .i64 n32] wl8 fun e40_3 w40_3 =>
  ∃ s40_3 : ByteArray, e40_3 = .returned (.string s40_3) ∧ (((s5 ++ (({ data := #[43] } : ByteArray))).size + s40_3.size : Nat) : Int) ≤ 9223372036854775807 ∧ InK .i64 (x7 + 1) ∧ ∃ ml8, ml8 < nl8 ∧ I8 ((s5 ++ (({ data := #[43] } : ByteArray))) ++ s40_3) (x6 + n32) (x7 + 1) ml8 w40_3))))
  (((s5.size + (({ data := #[100] } : ByteArray)).size : Nat) : Int) ≤ 9223372036854775807 ∧ Does Try.prog 10 #[.string (s5 ++ (({ data := #[100] } : ByteArray)))] wl8 fun e74 w74 =>
  ∃ (p74 : Option Addr) (l74 c74 : Nat), ∃ s74 : ByteArray, ∃ b74 : Bool, ∃ s74_1 : ByteArray, ∃ n74 : Int, e74 = .returned (.tuple #[.agg #[.slice p74 l74 c74, .string s74, .bool b74, .string s74_1], .int .i64 n74]) ∧ ∀ b9 w9, NewBlk w74 b9 [.slice none 0 0, .string (({ data := #[] } : ByteArray)), .bool false, .string (({ data := #[] } : ByteArray))] 25 w9 →
  CanStore w9 b9 0 ∧ ∀ ws, Stored w9 b9 0 (.slice p74 l74 c74) ws →
  CanStore ws b9 1 ∧ ∀ ws_1, Stored ws b9 1 (.string s74) ws_1 →
  CanStore ws_1 b9 2 ∧ ∀ ws_2, Stored ws_1 b9 2 (.bool b74) ws_2 →
  CanStore ws_2 b9 3 ∧ ∀ ws_3, Stored ws_2 b9 3 (.string s74_1) ws_3 →
  Br (n74 != 0)
  (R (.returned (.bool false)) ws_3)
  (∃ (p81 : Option Addr) (l81 c81 : Nat), ws_3.cell? ⟨b9, 0, none⟩ = some (.slice p81 l81 c81) ∧ Br (((l81 : Int)) != 1)
  (R (.returned (.bool false)) ws_3)
  (∃ (p87 : Option Addr) (l87 c87 : Nat), ws_3.cell? ⟨b9, 0, none⟩ = some (.slice p87 l87 c87) ∧ ((0 : Int) ≤ 0 ∧ 0 < (l87 : Int)) ∧ ∃ b88 o88, p87 = some ⟨b88, o88, none⟩ ∧ ∃ n90 : Int, ws_3.cell? ⟨b88, o88 + (0 : Int).toNat * 4 + 1, none⟩ = some (.int .i64 n90) ∧ InK .i64 (a0) ∧ Br (n90 != a0)
  (R (.returned (.bool false)) ws_3)
  (∃ (p97 : Option Addr) (l97 c97 : Nat), ws_3.cell? ⟨b9, 0, none⟩ = some (.slice p97 l97 c97) ∧ ((0 : Int) ≤ 0 ∧ 0 < (l97 : Int)) ∧ ∃ b98 o98, p97 = some ⟨b98, o98, none⟩ ∧ ∃ n100 : Int, ws_3.cell? ⟨b98, o98 + (0 : Int).toNat * 4 + 2, none⟩ = some (.int .i64 n100) ∧ Br (n100 != x6)
  (R (.returned (.bool false)) ws_3)
  (∃ s106 : ByteArray, ws_3.cell? ⟨b9, 1, none⟩ = some (.string s106) ∧ Br (!(s106.toList == (({ data := #[100] } : ByteArray)).toList))
  (R (.returned (.bool false)) ws_3)
  (∃ (p110 : Option Addr) (l110 c110 : Nat), ws_3.cell? ⟨b9, 0, none⟩ = some (.slice p110 l110 c110) ∧ ∃ s110 : ByteArray, ws_3.cell? ⟨b9, 1, none⟩ = some (.string s110) ∧ ∃ b110 : Bool, ws_3.cell? ⟨b9, 2, none⟩ = some (.bool b110) ∧ ∃ s110_1 : ByteArray, ws_3.cell? ⟨b9, 3, none⟩ = some (.string s110_1) ∧ Does Try.prog 17 #[.agg #[.slice p110 l110 c110, .string s110, .bool b110, .string s110_1], .int .i64 1, .int .i64 70000, .slice none 0 0] ws_3 fun e111 w111 =>
  ∃ n111 : Int, ∃ n111_1 : Int, ∃ n111_2 : Int, e111 = .returned (.tuple #[.int .i64 n111, .int .i64 n111_1, .int .i64 n111_2]) ∧ InK .i64 (a0) ∧ InK .i64 (a0 + x6) ∧ Br (decide ((a0 + x6) < 1))
  (R (.returned (.bool (n111_2 == 1))) w111)
  (Br (decide ((a0 + x6) > 70000))
  (R (.returned (.bool (n111_2 == 1))) w111)
  (Br (n111_2 == 0)
  (Br (n111 == (a0 + x6))
  (R (.returned (.bool (n111_1 == (a0 + x6)))) w111)
  (R (.returned (.bool false)) w111))
  (R (.returned (.bool false)) w111)))))))))))
def f7_ann : Ann := { loops := [(8, [(5, .str), (6, .int .i64), (7, .int .i64)])], cuts := [], flip := [], throws := [] }
theorem f7_eq (a0 : Int) (p1 : Option Addr) (l1 c1 : Nat) (w : World) (R : Ending → World → Prop) : vc Try.prog f7_ann (bodyOf Try.f7) (retQ Try.prog Try.f7 R) (envOf Try.f7.ntmps [.v (.int .u16 a0), .v (.slice p1 l1 c1)]) [] w = f7_vc a0 p1 l1 c1 w R := by kernel_rfl
theorem f7_does (a0 : Int) (p1 : Option Addr) (l1 c1 : Nat) {w : World} {R : Ending → World → Prop} (h : f7_vc a0 p1 l1 c1 w R) : Does Try.prog 7 #[.int .u16 a0, .slice p1 l1 c1] w R :=
  does_of_vc (ss := [.v (.int .u16 a0), .v (.slice p1 l1 c1)]) f7_ann mixed call7 Try.func7 rfl rfl (show 2 ≤ Try.f7.ntmps by decide) ((f7_eq a0 p1 l1 c1 w R).symm ▸ h)
/-- Of escritoire/escritoirelaw25.LineKnown (function 8): the condition. -/
def f8_vc  (w : World) (R : Ending → World → Prop) : Prop :=
  Does Try.prog 9 #[] w fun e26 w26 =>
  ∃ b26 : Bool, e26 = .returned (.bool b26) ∧ Br (!b26)
  (R (.returned (.bool false)) w26)
  (Does Try.prog 10 #[.string (({ data := #[37, 115, 47, 97, 47, 98, 47, 103] } : ByteArray))] w26 fun e29 w29 =>
  ∃ (p29 : Option Addr) (l29 c29 : Nat), ∃ s29 : ByteArray, ∃ b29 : Bool, ∃ s29_1 : ByteArray, ∃ n29 : Int, e29 = .returned (.tuple #[.agg #[.slice p29 l29 c29, .string s29, .bool b29, .string s29_1], .int .i64 n29]) ∧ ∀ b1 w1, NewBlk w29 b1 [.slice none 0 0, .string (({ data := #[] } : ByteArray)), .bool false, .string (({ data := #[] } : ByteArray))] 25 w1 →
  CanStore w1 b1 0 ∧ ∀ ws, Stored w1 b1 0 (.slice p29 l29 c29) ws →
  CanStore ws b1 1 ∧ ∀ ws_1, Stored ws b1 1 (.string s29) ws_1 →
  CanStore ws_1 b1 2 ∧ ∀ ws_2, Stored ws_1 b1 2 (.bool b29) ws_2 →
  CanStore ws_2 b1 3 ∧ ∀ ws_3, Stored ws_2 b1 3 (.string s29_1) ws_3 →
  Does Try.prog 10 #[.string (({ data := #[51, 120, 32, 121] } : ByteArray))] ws_3 fun e33 w33 =>
  ∃ (p33 : Option Addr) (l33 c33 : Nat), ∃ s33 : ByteArray, ∃ b33 : Bool, ∃ s33_1 : ByteArray, ∃ n33 : Int, e33 = .returned (.tuple #[.agg #[.slice p33 l33 c33, .string s33, .bool b33, .string s33_1], .int .i64 n33]) ∧ ∀ b3 w3, NewBlk w33 b3 [.slice none 0 0, .string (({ data := #[] } : ByteArray)), .bool false, .string (({ data := #[] } : ByteArray))] 25 w3 →
  CanStore w3 b3 0 ∧ ∀ ws_4, Stored w3 b3 0 (.slice p33 l33 c33) ws_4 →
  CanStore ws_4 b3 1 ∧ ∀ ws_5, Stored ws_4 b3 1 (.string s33) ws_5 →
  CanStore ws_5 b3 2 ∧ ∀ ws_6, Stored ws_5 b3 2 (.bool b33) ws_6 →
  CanStore ws_6 b3 3 ∧ ∀ ws_7, Stored ws_6 b3 3 (.string s33_1) ws_7 →
  Does Try.prog 10 #[.string (({ data := #[100, 44] } : ByteArray))] ws_7 fun e37 w37 =>
  ∃ (p37 : Option Addr) (l37 c37 : Nat), ∃ s37 : ByteArray, ∃ b37 : Bool, ∃ s37_1 : ByteArray, ∃ n37 : Int, e37 = .returned (.tuple #[.agg #[.slice p37 l37 c37, .string s37, .bool b37, .string s37_1], .int .i64 n37]) ∧ ∀ b5 w5, NewBlk w37 b5 [.slice none 0 0, .string (({ data := #[] } : ByteArray)), .bool false, .string (({ data := #[] } : ByteArray))] 25 w5 →
  CanStore w5 b5 0 ∧ ∀ ws_8, Stored w5 b5 0 (.slice p37 l37 c37) ws_8 →
  CanStore ws_8 b5 1 ∧ ∀ ws_9, Stored ws_8 b5 1 (.string s37) ws_9 →
  CanStore ws_9 b5 2 ∧ ∀ ws_10, Stored ws_9 b5 2 (.bool b37) ws_10 →
  CanStore ws_10 b5 3 ∧ ∀ ws_11, Stored ws_10 b5 3 (.string s37_1) ws_11 →
  Does Try.prog 10 #[.string (({ data := #[50, 44, 36] } : ByteArray))] ws_11 fun e41 w41 =>
  ∃ (p41 : Option Addr) (l41 c41 : Nat), ∃ s41 : ByteArray, ∃ b41 : Bool, ∃ s41_1 : ByteArray, ∃ n41 : Int, e41 = .returned (.tuple #[.agg #[.slice p41 l41 c41, .string s41, .bool b41, .string s41_1], .int .i64 n41]) ∧ ∀ b7 w7, NewBlk w41 b7 [.slice none 0 0, .string (({ data := #[] } : ByteArray)), .bool false, .string (({ data := #[] } : ByteArray))] 25 w7 →
  CanStore w7 b7 0 ∧ ∀ ws_12, Stored w7 b7 0 (.slice p41 l41 c41) ws_12 →
  CanStore ws_12 b7 1 ∧ ∀ ws_13, Stored ws_12 b7 1 (.string s41) ws_13 →
  CanStore ws_13 b7 2 ∧ ∀ ws_14, Stored ws_13 b7 2 (.bool b41) ws_14 →
  CanStore ws_14 b7 3 ∧ ∀ ws_15, Stored ws_14 b7 3 (.string s41_1) ws_15 →
  ∃ (p45 : Option Addr) (l45 c45 : Nat), ws_15.cell? ⟨b7, 0, none⟩ = some (.slice p45 l45 c45) ∧ ∃ s45 : ByteArray, ws_15.cell? ⟨b7, 1, none⟩ = some (.string s45) ∧ ∃ b45 : Bool, ws_15.cell? ⟨b7, 2, none⟩ = some (.bool b45) ∧ ∃ s45_1 : ByteArray, ws_15.cell? ⟨b7, 3, none⟩ = some (.string s45_1) ∧ Does Try.prog 17 #[.agg #[.slice p45 l45 c45, .string s45, .bool b45, .string s45_1], .int .i64 1, .int .i64 5, .slice none 0 0] ws_15 fun e46 w46 =>
  ∃ n46 : Int, ∃ n46_1 : Int, ∃ n46_2 : Int, e46 = .returned (.tuple #[.int .i64 n46, .int .i64 n46_1, .int .i64 n46_2]) ∧ Does Try.prog 10 #[.string (({ data := #[48] } : ByteArray))] w46 fun e51 w51 =>
  ∃ (p51 : Option Addr) (l51 c51 : Nat), ∃ s51 : ByteArray, ∃ b51 : Bool, ∃ s51_1 : ByteArray, ∃ n51 : Int, e51 = .returned (.tuple #[.agg #[.slice p51 l51 c51, .string s51, .bool b51, .string s51_1], .int .i64 n51]) ∧ ∀ b12 w12, NewBlk w51 b12 [.slice none 0 0, .string (({ data := #[] } : ByteArray)), .bool false, .string (({ data := #[] } : ByteArray))] 25 w12 →
  CanStore w12 b12 0 ∧ ∀ ws_16, Stored w12 b12 0 (.slice p51 l51 c51) ws_16 →
  CanStore ws_16 b12 1 ∧ ∀ ws_17, Stored ws_16 b12 1 (.string s51) ws_17 →
  CanStore ws_17 b12 2 ∧ ∀ ws_18, Stored ws_17 b12 2 (.bool b51) ws_18 →
  CanStore ws_18 b12 3 ∧ ∀ ws_19, Stored ws_18 b12 3 (.string s51_1) ws_19 →
  ∃ (p55 : Option Addr) (l55 c55 : Nat), ws_19.cell? ⟨b12, 0, none⟩ = some (.slice p55 l55 c55) ∧ ∃ s55 : ByteArray, ws_19.cell? ⟨b12, 1, none⟩ = some (.string s55) ∧ ∃ b55 : Bool, ws_19.cell? ⟨b12, 2, none⟩ = some (.bool b55) ∧ ∃ s55_1 : ByteArray, ws_19.cell? ⟨b12, 3, none⟩ = some (.string s55_1) ∧ Does Try.prog 17 #[.agg #[.slice p55 l55 c55, .string s55, .bool b55, .string s55_1], .int .i64 1, .int .i64 5, .slice none 0 0] ws_19 fun e56 w56 =>
  ∃ n56 : Int, ∃ n56_1 : Int, ∃ n56_2 : Int, e56 = .returned (.tuple #[.int .i64 n56, .int .i64 n56_1, .int .i64 n56_2]) ∧ Does Try.prog 10 #[.string (({ data := #[52, 44, 50] } : ByteArray))] w56 fun e61 w61 =>
  ∃ (p61 : Option Addr) (l61 c61 : Nat), ∃ s61 : ByteArray, ∃ b61 : Bool, ∃ s61_1 : ByteArray, ∃ n61 : Int, e61 = .returned (.tuple #[.agg #[.slice p61 l61 c61, .string s61, .bool b61, .string s61_1], .int .i64 n61]) ∧ ∀ b17 w17, NewBlk w61 b17 [.slice none 0 0, .string (({ data := #[] } : ByteArray)), .bool false, .string (({ data := #[] } : ByteArray))] 25 w17 →
  CanStore w17 b17 0 ∧ ∀ ws_20, Stored w17 b17 0 (.slice p61 l61 c61) ws_20 →
  CanStore ws_20 b17 1 ∧ ∀ ws_21, Stored ws_20 b17 1 (.string s61) ws_21 →
  CanStore ws_21 b17 2 ∧ ∀ ws_22, Stored ws_21 b17 2 (.bool b61) ws_22 →
  CanStore ws_22 b17 3 ∧ ∀ ws_23, Stored ws_22 b17 3 (.string s61_1) ws_23 →
  ∃ (p65 : Option Addr) (l65 c65 : Nat), ws_23.cell? ⟨b17, 0, none⟩ = some (.slice p65 l65 c65) ∧ ∃ s65 : ByteArray, ws_23.cell? ⟨b17, 1, none⟩ = some (.string s65) ∧ ∃ b65 : Bool, ws_23.cell? ⟨b17, 2, none⟩ = some (.bool b65) ∧ ∃ s65_1 : ByteArray, ws_23.cell? ⟨b17, 3, none⟩ = some (.string s65_1) ∧ Does Try.prog 17 #[.agg #[.slice p65 l65 c65, .string s65, .bool b65, .string s65_1], .int .i64 1, .int .i64 5, .slice none 0 0] ws_23 fun e66 w66 =>
  ∃ n66 : Int, ∃ n66_1 : Int, ∃ n66_2 : Int, e66 = .returned (.tuple #[.int .i64 n66, .int .i64 n66_1, .int .i64 n66_2]) ∧ Does Try.prog 14 #[.string (({ data := #[47, 97, 92, 47, 98, 47, 99] } : ByteArray))] w66 fun e71 w71 =>
  ∃ s71 : ByteArray, ∃ s71_1 : ByteArray, ∃ b71 : Bool, ∃ b71_1 : Bool, e71 = .returned (.tuple #[.string s71, .string s71_1, .bool b71, .bool b71_1]) ∧ Br (n29 == 0)
  (∃ (p80 : Option Addr) (l80 c80 : Nat), w71.cell? ⟨b1, 0, none⟩ = some (.slice p80 l80 c80) ∧ Br (((l80 : Int)) == 2)
  (∃ s86 : ByteArray, w71.cell? ⟨b1, 1, none⟩ = some (.string s86) ∧ Br (s86.toList == (({ data := #[115] } : ByteArray)).toList)
  (∃ s91 : ByteArray, w71.cell? ⟨b1, 3, none⟩ = some (.string s91) ∧ Br (s91.toList == (({ data := #[47, 97, 47, 98, 47, 103] } : ByteArray)).toList)
  (Br (n33 == 0)
  (∃ s100 : ByteArray, w71.cell? ⟨b3, 1, none⟩ = some (.string s100) ∧ Br (s100.toList == (({ data := #[120] } : ByteArray)).toList)
  (∃ s105 : ByteArray, w71.cell? ⟨b3, 3, none⟩ = some (.string s105) ∧ Br (s105.toList == (({ data := #[121] } : ByteArray)).toList)
  (Br (n37 == 0)
  (∃ s114 : ByteArray, w71.cell? ⟨b5, 1, none⟩ = some (.string s114) ∧ Br (s114.toList == (({ data := #[100] } : ByteArray)).toList)
  (∃ s119 : ByteArray, w71.cell? ⟨b5, 3, none⟩ = some (.string s119) ∧ Br (s119.toList == (({ data := #[44] } : ByteArray)).toList)
  (Br (n46_2 == 0)
  (Br (n46 == 2)
  (Br (n46_1 == 5)
  (Br (n56_2 == 1)
  (Br (n66_2 == 1)
  (Br b71_1
  (Br (s71.toList == (({ data := #[97, 47, 98] } : ByteArray)).toList)
  (Br (s71_1.toList == (({ data := #[99] } : ByteArray)).toList)
  (R (.returned (.bool (!b71))) w71)
  (R (.returned (.bool false)) w71))
  (R (.returned (.bool false)) w71))
  (R (.returned (.bool false)) w71))
  (R (.returned (.bool false)) w71))
  (R (.returned (.bool false)) w71))
  (R (.returned (.bool false)) w71))
  (R (.returned (.bool false)) w71))
  (R (.returned (.bool false)) w71))
  (R (.returned (.bool false)) w71))
  (R (.returned (.bool false)) w71))
  (R (.returned (.bool false)) w71))
  (R (.returned (.bool false)) w71))
  (R (.returned (.bool false)) w71))
  (R (.returned (.bool false)) w71))
  (R (.returned (.bool false)) w71))
  (R (.returned (.bool false)) w71))
  (R (.returned (.bool false)) w71))
  (R (.returned (.bool false)) w71))
def f8_ann : Ann := { loops := [], cuts := [], flip := [], throws := [] }
theorem f8_eq  (w : World) (R : Ending → World → Prop) : vc Try.prog f8_ann (bodyOf Try.f8) (retQ Try.prog Try.f8 R) (envOf Try.f8.ntmps []) [] w = f8_vc  w R := by kernel_rfl
theorem f8_does  {w : World} {R : Ending → World → Prop} (h : f8_vc  w R) : Does Try.prog 8 #[] w R :=
  does_of_vc (ss := []) f8_ann mixed call8 Try.func8 rfl rfl (show 0 ≤ Try.f8.ntmps by decide) ((f8_eq  w R).symm ▸ h)
/-- Of escritoire/escritoirelaw25.awake (function 9): the condition. -/
def f9_vc  (w : World) (R : Ending → World → Prop) : Prop :=
  Does Try.prog 10 #[.string (({ data := #[32, 50, 44, 46, 43, 51, 100] } : ByteArray))] w fun e4 w4 =>
  ∃ (p4 : Option Addr) (l4 c4 : Nat), ∃ s4 : ByteArray, ∃ b4 : Bool, ∃ s4_1 : ByteArray, ∃ n4 : Int, e4 = .returned (.tuple #[.agg #[.slice p4 l4 c4, .string s4, .bool b4, .string s4_1], .int .i64 n4]) ∧ ∀ b1 w1, NewBlk w4 b1 [.slice none 0 0, .string (({ data := #[] } : ByteArray)), .bool false, .string (({ data := #[] } : ByteArray))] 25 w1 →
  CanStore w1 b1 0 ∧ ∀ ws, Stored w1 b1 0 (.slice p4 l4 c4) ws →
  CanStore ws b1 1 ∧ ∀ ws_1, Stored ws b1 1 (.string s4) ws_1 →
  CanStore ws_1 b1 2 ∧ ∀ ws_2, Stored ws_1 b1 2 (.bool b4) ws_2 →
  CanStore ws_2 b1 3 ∧ ∀ ws_3, Stored ws_2 b1 3 (.string s4_1) ws_3 →
  Br (n4 == 0)
  (∃ (p11 : Option Addr) (l11 c11 : Nat), ws_3.cell? ⟨b1, 0, none⟩ = some (.slice p11 l11 c11) ∧ Br (((l11 : Int)) == 2)
  (∃ (p17 : Option Addr) (l17 c17 : Nat), ws_3.cell? ⟨b1, 0, none⟩ = some (.slice p17 l17 c17) ∧ ((0 : Int) ≤ 0 ∧ 0 < (l17 : Int)) ∧ ∃ b18 o18, p17 = some ⟨b18, o18, none⟩ ∧ ∃ n20 : Int, ws_3.cell? ⟨b18, o18 + (0 : Int).toNat * 4 + 1, none⟩ = some (.int .i64 n20) ∧ Br (n20 == 2)
  (∃ (p25 : Option Addr) (l25 c25 : Nat), ws_3.cell? ⟨b1, 0, none⟩ = some (.slice p25 l25 c25) ∧ ((0 : Int) ≤ 1 ∧ 1 < (l25 : Int)) ∧ ∃ b26 o26, p25 = some ⟨b26, o26, none⟩ ∧ ∃ n28 : Int, ws_3.cell? ⟨b26, o26 + (1 : Int).toNat * 4, none⟩ = some (.int .u8 n28) ∧ Br (n28 == 46)
  (∃ (p33 : Option Addr) (l33 c33 : Nat), ws_3.cell? ⟨b1, 0, none⟩ = some (.slice p33 l33 c33) ∧ ((0 : Int) ≤ 1 ∧ 1 < (l33 : Int)) ∧ ∃ b34 o34, p33 = some ⟨b34, o34, none⟩ ∧ ∃ n36 : Int, ws_3.cell? ⟨b34, o34 + (1 : Int).toNat * 4 + 2, none⟩ = some (.int .i64 n36) ∧ Br (n36 == 3)
  (∃ s41 : ByteArray, ws_3.cell? ⟨b1, 1, none⟩ = some (.string s41) ∧ R (.returned (.bool (s41.toList == (({ data := #[100] } : ByteArray)).toList))) ws_3)
  (R (.returned (.bool false)) ws_3))
  (R (.returned (.bool false)) ws_3))
  (R (.returned (.bool false)) ws_3))
  (R (.returned (.bool false)) ws_3))
  (R (.returned (.bool false)) ws_3)
def f9_ann : Ann := { loops := [], cuts := [], flip := [], throws := [] }
theorem f9_eq  (w : World) (R : Ending → World → Prop) : vc Try.prog f9_ann (bodyOf Try.f9) (retQ Try.prog Try.f9 R) (envOf Try.f9.ntmps []) [] w = f9_vc  w R := by kernel_rfl
theorem f9_does  {w : World} {R : Ending → World → Prop} (h : f9_vc  w R) : Does Try.prog 9 #[] w R :=
  does_of_vc (ss := []) f9_ann mixed call9 Try.func9 rfl rfl (show 0 ≤ Try.f9.ntmps by decide) ((f9_eq  w R).symm ▸ h)
/-- Of escritoire/line.Parse (function 10): the condition. -/
def f10_vc (a0 : ByteArray) (w : World) (R : Ending → World → Prop) : Prop :=
  ∀ b2 w2, NewBlk w b2 [.slice none 0 0, .string (({ data := #[] } : ByteArray)), .bool false, .string (({ data := #[] } : ByteArray))] 25 w2 →
  ∀ b3 w3, NewBlk w2 b3 [.int .i64 0] 26 w3 →
  Br (decide (((a0.size : Int)) > 4096))
  (CanStore w3 b2 0 ∧ ∀ ws, Stored w3 b2 0 (.slice none 0 0) ws →
  CanStore ws b2 1 ∧ ∀ ws_1, Stored ws b2 1 (.string (({ data := #[] } : ByteArray))) ws_1 →
  CanStore ws_1 b2 2 ∧ ∀ ws_2, Stored ws_1 b2 2 (.bool false) ws_2 →
  CanStore ws_2 b2 3 ∧ ∀ ws_3, Stored ws_2 b2 3 (.string (({ data := #[] } : ByteArray))) ws_3 →
  CanStore ws_3 b3 0 ∧ ∀ ws_4, Stored ws_3 b3 0 (.int .i64 3) ws_4 →
  ∃ (p2 : Option Addr) (l2 c2 : Nat), ws_4.cell? ⟨b2, 0, none⟩ = some (.slice p2 l2 c2) ∧ ∃ s2 : ByteArray, ws_4.cell? ⟨b2, 1, none⟩ = some (.string s2) ∧ ∃ b2_1 : Bool, ws_4.cell? ⟨b2, 2, none⟩ = some (.bool b2_1) ∧ ∃ s2_1 : ByteArray, ws_4.cell? ⟨b2, 3, none⟩ = some (.string s2_1) ∧ ∃ n3 : Int, ws_4.cell? ⟨b3, 0, none⟩ = some (.int .i64 n3) ∧ R (.returned (.tuple #[.agg #[.slice p2 l2 c2, .string s2, .bool b2_1, .string s2_1], .int .i64 n3])) ws_4)
  (∀ b12 w12, NewBlk w3 b12 [.string a0, .slice none 0 0, .string (({ data := #[] } : ByteArray)), .bool false, .string (({ data := #[] } : ByteArray))] 62 w12 →
  Does Try.prog 22 #[.pointer (some ⟨b12, 0, none⟩)] w12 fun e14 w14 =>
  (e14 = .returned (.tuple #[]) ∧ ∃ (p18 : Option Addr) (l18 c18 : Nat), w14.cell? ⟨b12, 1, none⟩ = some (.slice p18 l18 c18) ∧ ∃ s18 : ByteArray, w14.cell? ⟨b12, 2, none⟩ = some (.string s18) ∧ ∃ b18 : Bool, w14.cell? ⟨b12, 3, none⟩ = some (.bool b18) ∧ ∃ s18_1 : ByteArray, w14.cell? ⟨b12, 4, none⟩ = some (.string s18_1) ∧ CanStore w14 b2 0 ∧ ∀ ws_5, Stored w14 b2 0 (.slice p18 l18 c18) ws_5 →
  CanStore ws_5 b2 1 ∧ ∀ ws_6, Stored ws_5 b2 1 (.string s18) ws_6 →
  CanStore ws_6 b2 2 ∧ ∀ ws_7, Stored ws_6 b2 2 (.bool b18) ws_7 →
  CanStore ws_7 b2 3 ∧ ∀ ws_8, Stored ws_7 b2 3 (.string s18_1) ws_8 →
  CanStore ws_8 b3 0 ∧ ∀ ws_9, Stored ws_8 b3 0 (.int .i64 0) ws_9 →
  LeavesV (fun wk => ∃ (p2_1 : Option Addr) (l2_1 c2_1 : Nat), wk.cell? ⟨b2, 0, none⟩ = some (.slice p2_1 l2_1 c2_1) ∧ ∃ s2_2 : ByteArray, wk.cell? ⟨b2, 1, none⟩ = some (.string s2_2) ∧ ∃ b2_2 : Bool, wk.cell? ⟨b2, 2, none⟩ = some (.bool b2_2) ∧ ∃ s2_3 : ByteArray, wk.cell? ⟨b2, 3, none⟩ = some (.string s2_3) ∧ ∃ n3_1 : Int, wk.cell? ⟨b3, 0, none⟩ = some (.int .i64 n3_1) ∧ R (.returned (.tuple #[.agg #[.slice p2_1 l2_1 c2_1, .string s2_2, .bool b2_2, .string s2_3], .int .i64 n3_1])) wk) (fun chk wp => R (.panicked chk) wp) Try.prog ({ target := .fn (.func 21) #[.pointer (some ⟨b2, 0, none⟩), .pointer (some ⟨b3, 0, none⟩)], args := #[] } :: []) (.returning) ws_9) ∨ (∃ ch14, e14 = .panicked ch14 ∧ LeavesV (fun wk_1 => ∃ (p2_2 : Option Addr) (l2_2 c2_2 : Nat), wk_1.cell? ⟨b2, 0, none⟩ = some (.slice p2_2 l2_2 c2_2) ∧ ∃ s2_4 : ByteArray, wk_1.cell? ⟨b2, 1, none⟩ = some (.string s2_4) ∧ ∃ b2_3 : Bool, wk_1.cell? ⟨b2, 2, none⟩ = some (.bool b2_3) ∧ ∃ s2_5 : ByteArray, wk_1.cell? ⟨b2, 3, none⟩ = some (.string s2_5) ∧ ∃ n3_2 : Int, wk_1.cell? ⟨b3, 0, none⟩ = some (.int .i64 n3_2) ∧ R (.returned (.tuple #[.agg #[.slice p2_2 l2_2 c2_2, .string s2_4, .bool b2_3, .string s2_5], .int .i64 n3_2])) wk_1) (fun chk_1 wp_1 => R (.panicked chk_1) wp_1) Try.prog ({ target := .fn (.func 21) #[.pointer (some ⟨b2, 0, none⟩), .pointer (some ⟨b3, 0, none⟩)], args := #[] } :: []) (.panicking ch14) w14))
def f10_ann : Ann := { loops := [], cuts := [], flip := [], throws := [22] }
theorem f10_eq (a0 : ByteArray) (w : World) (R : Ending → World → Prop) : vc Try.prog f10_ann (bodyOf Try.f10) (retQ Try.prog Try.f10 R) (envOf Try.f10.ntmps [.v (.string a0)]) [] w = f10_vc a0 w R := by kernel_rfl
theorem f10_does (a0 : ByteArray) {w : World} {R : Ending → World → Prop} (h : f10_vc a0 w R) : Does Try.prog 10 #[.string a0] w R :=
  does_of_vc (ss := [.v (.string a0)]) f10_ann mixed call10 Try.func10 rfl rfl (show 1 ≤ Try.f10.ntmps by decide) ((f10_eq a0 w R).symm ▸ h)
/-- Of escritoire/escritoireref24.Parse (function 11): the condition. -/
def f11_vc (a0 : ByteArray) (w : World) (R : Ending → World → Prop) : Prop :=
  ∀ b2 w2, NewBlk w b2 [.slice none 0 0, .string (({ data := #[] } : ByteArray)), .bool false, .string (({ data := #[] } : ByteArray))] 31 w2 →
  Br (decide (((a0.size : Int)) > 4096))
  (CanStore w2 b2 0 ∧ ∀ ws, Stored w2 b2 0 (.slice none 0 0) ws →
  CanStore ws b2 1 ∧ ∀ ws_1, Stored ws b2 1 (.string (({ data := #[] } : ByteArray))) ws_1 →
  CanStore ws_1 b2 2 ∧ ∀ ws_2, Stored ws_1 b2 2 (.bool false) ws_2 →
  CanStore ws_2 b2 3 ∧ ∀ ws_3, Stored ws_2 b2 3 (.string (({ data := #[] } : ByteArray))) ws_3 →
  ∃ (p2 : Option Addr) (l2 c2 : Nat), ws_3.cell? ⟨b2, 0, none⟩ = some (.slice p2 l2 c2) ∧ ∃ s2 : ByteArray, ws_3.cell? ⟨b2, 1, none⟩ = some (.string s2) ∧ ∃ b2_1 : Bool, ws_3.cell? ⟨b2, 2, none⟩ = some (.bool b2_1) ∧ ∃ s2_1 : ByteArray, ws_3.cell? ⟨b2, 3, none⟩ = some (.string s2_1) ∧ R (.returned (.tuple #[.agg #[.slice p2 l2 c2, .string s2, .bool b2_1, .string s2_1], .int .i64 3])) ws_3)
  (∀ b4 w4, NewBlk w2 b4 [.slice none 0 0, .string (({ data := #[] } : ByteArray)), .bool false, .string (({ data := #[] } : ByteArray))] 31 w4 →
  CanStore w4 b4 0 ∧ ∀ ws_4, Stored w4 b4 0 (.slice none 0 0) ws_4 →
  CanStore ws_4 b4 1 ∧ ∀ ws_5, Stored ws_4 b4 1 (.string (({ data := #[] } : ByteArray))) ws_5 →
  CanStore ws_5 b4 2 ∧ ∀ ws_6, Stored ws_5 b4 2 (.bool false) ws_6 →
  CanStore ws_6 b4 3 ∧ ∀ ws_7, Stored ws_6 b4 3 (.string (({ data := #[] } : ByteArray))) ws_7 →
  Does Try.prog 23 #[.string a0, .int .i64 0] ws_7 fun e17 w17 =>
  ∃ n17 : Int, e17 = .returned (.int .i64 n17) ∧ ∃ J21 : Int → Nat → World → Prop, (Br (decide (n17 < ((a0.size : Int))))
  (((0 : Int) ≤ n17 ∧ n17 < (a0.size : Int)) ∧ Br ((sb a0 n17) == 37)
  (∀ b30 w30, NewBlk w17 b30 [.int .u8 110, .int .i64 1, .int .i64 0, .int .u8 0, .int .u8 36, .int .i64 0, .int .i64 0, .int .u8 0] 64 w30 →
  CanStore w30 b4 0 ∧ ∀ ws_8, Stored w30 b4 0 (.slice (some ⟨b30, 0, none⟩) 2 2) ws_8 →
  InK .i64 (n17 + 1) ∧ ∃ nc21, J21 (n17 + 1) nc21 ws_8)
  (Does Try.prog 24 #[.string a0, .int .i64 n17] w17 fun e37 w37 =>
  ∃ n37 : Int, ∃ n37_1 : Int, ∃ n37_2 : Int, ∃ n37_3 : Int, ∃ n37_4 : Int, ∃ n37_5 : Int, e37 = .returned (.tuple #[.agg #[.int .u8 n37, .int .i64 n37_1, .int .i64 n37_2, .int .u8 n37_3], .int .i64 n37_4, .int .i64 n37_5]) ∧ ∀ b7 w7, NewBlk w37 b7 [.int .u8 0, .int .i64 0, .int .i64 0, .int .u8 0] 64 w7 →
  CanStore w7 b7 0 ∧ ∀ ws_9, Stored w7 b7 0 (.int .u8 n37) ws_9 →
  CanStore ws_9 b7 1 ∧ ∀ ws_10, Stored ws_9 b7 1 (.int .i64 n37_1) ws_10 →
  CanStore ws_10 b7 2 ∧ ∀ ws_11, Stored ws_10 b7 2 (.int .i64 n37_2) ws_11 →
  CanStore ws_11 b7 3 ∧ ∀ ws_12, Stored ws_11 b7 3 (.int .u8 n37_3) ws_12 →
  Br (n37_5 == 2)
  (CanStore ws_12 b2 0 ∧ ∀ ws_13, Stored ws_12 b2 0 (.slice none 0 0) ws_13 →
  CanStore ws_13 b2 1 ∧ ∀ ws_14, Stored ws_13 b2 1 (.string (({ data := #[] } : ByteArray))) ws_14 →
  CanStore ws_14 b2 2 ∧ ∀ ws_15, Stored ws_14 b2 2 (.bool false) ws_15 →
  CanStore ws_15 b2 3 ∧ ∀ ws_16, Stored ws_15 b2 3 (.string (({ data := #[] } : ByteArray))) ws_16 →
  ∃ (p2_1 : Option Addr) (l2_1 c2_1 : Nat), ws_16.cell? ⟨b2, 0, none⟩ = some (.slice p2_1 l2_1 c2_1) ∧ ∃ s2_2 : ByteArray, ws_16.cell? ⟨b2, 1, none⟩ = some (.string s2_2) ∧ ∃ b2_2 : Bool, ws_16.cell? ⟨b2, 2, none⟩ = some (.bool b2_2) ∧ ∃ s2_3 : ByteArray, ws_16.cell? ⟨b2, 3, none⟩ = some (.string s2_3) ∧ R (.returned (.tuple #[.agg #[.slice p2_1 l2_1 c2_1, .string s2_2, .bool b2_2, .string s2_3], .int .i64 11])) ws_16)
  (Br (n37_5 == 1)
  (∃ (p48 : Option Addr) (l48 c48 : Nat), ws_12.cell? ⟨b4, 0, none⟩ = some (.slice p48 l48 c48) ∧ ∃ n49 : Int, ws_12.cell? ⟨b7, 0, none⟩ = some (.int .u8 n49) ∧ ∃ n49_1 : Int, ws_12.cell? ⟨b7, 1, none⟩ = some (.int .i64 n49_1) ∧ ∃ n49_2 : Int, ws_12.cell? ⟨b7, 2, none⟩ = some (.int .i64 n49_2) ∧ ∃ n49_3 : Int, ws_12.cell? ⟨b7, 3, none⟩ = some (.int .u8 n49_3) ∧ ∀ b50 w50, NewBlk ws_12 b50 [.int .u8 n49, .int .i64 n49_1, .int .i64 n49_2, .int .u8 n49_3] 64 w50 →
  ∃ (p51 : Option Addr) (l51 c51 : Nat) (w51 : World), (Builtin.append_ #[29, 29] 29 #[.slice p48 l48 c48, .slice (some ⟨b50, 0, none⟩) 1 1]).run Try.prog w50 = .ok (.slice p51 l51 c51) w51 ∧
  CanStore w51 b4 0 ∧ ∀ ws_17, Stored w51 b4 0 (.slice p51 l51 c51) ws_17 →
  Br (decide (n37_4 < ((a0.size : Int))))
  (((0 : Int) ≤ n37_4 ∧ n37_4 < (a0.size : Int)) ∧ Br ((sb a0 n37_4) == 44)
  (InK .i64 (n37_4 + 1) ∧ Does Try.prog 24 #[.string a0, .int .i64 (n37_4 + 1)] ws_17 fun e68 w68 =>
  ∃ n68 : Int, ∃ n68_1 : Int, ∃ n68_2 : Int, ∃ n68_3 : Int, ∃ n68_4 : Int, ∃ n68_5 : Int, e68 = .returned (.tuple #[.agg #[.int .u8 n68, .int .i64 n68_1, .int .i64 n68_2, .int .u8 n68_3], .int .i64 n68_4, .int .i64 n68_5]) ∧ CanStore w68 b7 0 ∧ ∀ ws_18, Stored w68 b7 0 (.int .u8 n68) ws_18 →
  CanStore ws_18 b7 1 ∧ ∀ ws_19, Stored ws_18 b7 1 (.int .i64 n68_1) ws_19 →
  CanStore ws_19 b7 2 ∧ ∀ ws_20, Stored ws_19 b7 2 (.int .i64 n68_2) ws_20 →
  CanStore ws_20 b7 3 ∧ ∀ ws_21, Stored ws_20 b7 3 (.int .u8 n68_3) ws_21 →
  Br (n68_5 != 1)
  (CanStore ws_21 b2 0 ∧ ∀ ws_22, Stored ws_21 b2 0 (.slice none 0 0) ws_22 →
  CanStore ws_22 b2 1 ∧ ∀ ws_23, Stored ws_22 b2 1 (.string (({ data := #[] } : ByteArray))) ws_23 →
  CanStore ws_23 b2 2 ∧ ∀ ws_24, Stored ws_23 b2 2 (.bool false) ws_24 →
  CanStore ws_24 b2 3 ∧ ∀ ws_25, Stored ws_24 b2 3 (.string (({ data := #[] } : ByteArray))) ws_25 →
  ∃ (p2_2 : Option Addr) (l2_2 c2_2 : Nat), ws_25.cell? ⟨b2, 0, none⟩ = some (.slice p2_2 l2_2 c2_2) ∧ ∃ s2_4 : ByteArray, ws_25.cell? ⟨b2, 1, none⟩ = some (.string s2_4) ∧ ∃ b2_3 : Bool, ws_25.cell? ⟨b2, 2, none⟩ = some (.bool b2_3) ∧ ∃ s2_5 : ByteArray, ws_25.cell? ⟨b2, 3, none⟩ = some (.string s2_5) ∧ R (.returned (.tuple #[.agg #[.slice p2_2 l2_2 c2_2, .string s2_4, .bool b2_3, .string s2_5], .int .i64 11])) ws_25)
  (∃ (p77 : Option Addr) (l77 c77 : Nat), ws_21.cell? ⟨b4, 0, none⟩ = some (.slice p77 l77 c77) ∧ ∃ n78 : Int, ws_21.cell? ⟨b7, 0, none⟩ = some (.int .u8 n78) ∧ ∃ n78_1 : Int, ws_21.cell? ⟨b7, 1, none⟩ = some (.int .i64 n78_1) ∧ ∃ n78_2 : Int, ws_21.cell? ⟨b7, 2, none⟩ = some (.int .i64 n78_2) ∧ ∃ n78_3 : Int, ws_21.cell? ⟨b7, 3, none⟩ = some (.int .u8 n78_3) ∧ ∀ b79 w79, NewBlk ws_21 b79 [.int .u8 n78, .int .i64 n78_1, .int .i64 n78_2, .int .u8 n78_3] 64 w79 →
  ∃ (p80 : Option Addr) (l80 c80 : Nat) (w80 : World), (Builtin.append_ #[29, 29] 29 #[.slice p77 l77 c77, .slice (some ⟨b79, 0, none⟩) 1 1]).run Try.prog w79 = .ok (.slice p80 l80 c80) w80 ∧
  CanStore w80 b4 0 ∧ ∀ ws_26, Stored w80 b4 0 (.slice p80 l80 c80) ws_26 →
  ∃ nc21, J21 n68_4 nc21 ws_26))
  (∃ nc21, J21 n37_4 nc21 ws_17))
  (∃ nc21, J21 n37_4 nc21 ws_17))
  (∃ nc21, J21 n17 nc21 ws_12))))
  (Does Try.prog 24 #[.string a0, .int .i64 n17] w17 fun e37_1 w37_1 =>
  ∃ n37_6 : Int, ∃ n37_7 : Int, ∃ n37_8 : Int, ∃ n37_9 : Int, ∃ n37_10 : Int, ∃ n37_11 : Int, e37_1 = .returned (.tuple #[.agg #[.int .u8 n37_6, .int .i64 n37_7, .int .i64 n37_8, .int .u8 n37_9], .int .i64 n37_10, .int .i64 n37_11]) ∧ ∀ b7_1 w7_1, NewBlk w37_1 b7_1 [.int .u8 0, .int .i64 0, .int .i64 0, .int .u8 0] 64 w7_1 →
  CanStore w7_1 b7_1 0 ∧ ∀ ws_27, Stored w7_1 b7_1 0 (.int .u8 n37_6) ws_27 →
  CanStore ws_27 b7_1 1 ∧ ∀ ws_28, Stored ws_27 b7_1 1 (.int .i64 n37_7) ws_28 →
  CanStore ws_28 b7_1 2 ∧ ∀ ws_29, Stored ws_28 b7_1 2 (.int .i64 n37_8) ws_29 →
  CanStore ws_29 b7_1 3 ∧ ∀ ws_30, Stored ws_29 b7_1 3 (.int .u8 n37_9) ws_30 →
  Br (n37_11 == 2)
  (CanStore ws_30 b2 0 ∧ ∀ ws_31, Stored ws_30 b2 0 (.slice none 0 0) ws_31 →
  CanStore ws_31 b2 1 ∧ ∀ ws_32, Stored ws_31 b2 1 (.string (({ data := #[] } : ByteArray))) ws_32 →
  CanStore ws_32 b2 2 ∧ ∀ ws_33, Stored ws_32 b2 2 (.bool false) ws_33 →
  CanStore ws_33 b2 3 ∧ ∀ ws_34, Stored ws_33 b2 3 (.string (({ data := #[] } : ByteArray))) ws_34 →
  ∃ (p2_3 : Option Addr) (l2_3 c2_3 : Nat), ws_34.cell? ⟨b2, 0, none⟩ = some (.slice p2_3 l2_3 c2_3) ∧ ∃ s2_6 : ByteArray, ws_34.cell? ⟨b2, 1, none⟩ = some (.string s2_6) ∧ ∃ b2_4 : Bool, ws_34.cell? ⟨b2, 2, none⟩ = some (.bool b2_4) ∧ ∃ s2_7 : ByteArray, ws_34.cell? ⟨b2, 3, none⟩ = some (.string s2_7) ∧ R (.returned (.tuple #[.agg #[.slice p2_3 l2_3 c2_3, .string s2_6, .bool b2_4, .string s2_7], .int .i64 11])) ws_34)
  (Br (n37_11 == 1)
  (∃ (p48_1 : Option Addr) (l48_1 c48_1 : Nat), ws_30.cell? ⟨b4, 0, none⟩ = some (.slice p48_1 l48_1 c48_1) ∧ ∃ n49_4 : Int, ws_30.cell? ⟨b7_1, 0, none⟩ = some (.int .u8 n49_4) ∧ ∃ n49_5 : Int, ws_30.cell? ⟨b7_1, 1, none⟩ = some (.int .i64 n49_5) ∧ ∃ n49_6 : Int, ws_30.cell? ⟨b7_1, 2, none⟩ = some (.int .i64 n49_6) ∧ ∃ n49_7 : Int, ws_30.cell? ⟨b7_1, 3, none⟩ = some (.int .u8 n49_7) ∧ ∀ b50_1 w50_1, NewBlk ws_30 b50_1 [.int .u8 n49_4, .int .i64 n49_5, .int .i64 n49_6, .int .u8 n49_7] 64 w50_1 →
  ∃ (p51_1 : Option Addr) (l51_1 c51_1 : Nat) (w51_1 : World), (Builtin.append_ #[29, 29] 29 #[.slice p48_1 l48_1 c48_1, .slice (some ⟨b50_1, 0, none⟩) 1 1]).run Try.prog w50_1 = .ok (.slice p51_1 l51_1 c51_1) w51_1 ∧
  CanStore w51_1 b4 0 ∧ ∀ ws_35, Stored w51_1 b4 0 (.slice p51_1 l51_1 c51_1) ws_35 →
  Br (decide (n37_10 < ((a0.size : Int))))
  (((0 : Int) ≤ n37_10 ∧ n37_10 < (a0.size : Int)) ∧ Br ((sb a0 n37_10) == 44)
  (InK .i64 (n37_10 + 1) ∧ Does Try.prog 24 #[.string a0, .int .i64 (n37_10 + 1)] ws_35 fun e68_1 w68_1 =>
  ∃ n68_6 : Int, ∃ n68_7 : Int, ∃ n68_8 : Int, ∃ n68_9 : Int, ∃ n68_10 : Int, ∃ n68_11 : Int, e68_1 = .returned (.tuple #[.agg #[.int .u8 n68_6, .int .i64 n68_7, .int .i64 n68_8, .int .u8 n68_9], .int .i64 n68_10, .int .i64 n68_11]) ∧ CanStore w68_1 b7_1 0 ∧ ∀ ws_36, Stored w68_1 b7_1 0 (.int .u8 n68_6) ws_36 →
  CanStore ws_36 b7_1 1 ∧ ∀ ws_37, Stored ws_36 b7_1 1 (.int .i64 n68_7) ws_37 →
  CanStore ws_37 b7_1 2 ∧ ∀ ws_38, Stored ws_37 b7_1 2 (.int .i64 n68_8) ws_38 →
  CanStore ws_38 b7_1 3 ∧ ∀ ws_39, Stored ws_38 b7_1 3 (.int .u8 n68_9) ws_39 →
  Br (n68_11 != 1)
  (CanStore ws_39 b2 0 ∧ ∀ ws_40, Stored ws_39 b2 0 (.slice none 0 0) ws_40 →
  CanStore ws_40 b2 1 ∧ ∀ ws_41, Stored ws_40 b2 1 (.string (({ data := #[] } : ByteArray))) ws_41 →
  CanStore ws_41 b2 2 ∧ ∀ ws_42, Stored ws_41 b2 2 (.bool false) ws_42 →
  CanStore ws_42 b2 3 ∧ ∀ ws_43, Stored ws_42 b2 3 (.string (({ data := #[] } : ByteArray))) ws_43 →
  ∃ (p2_4 : Option Addr) (l2_4 c2_4 : Nat), ws_43.cell? ⟨b2, 0, none⟩ = some (.slice p2_4 l2_4 c2_4) ∧ ∃ s2_8 : ByteArray, ws_43.cell? ⟨b2, 1, none⟩ = some (.string s2_8) ∧ ∃ b2_5 : Bool, ws_43.cell? ⟨b2, 2, none⟩ = some (.bool b2_5) ∧ ∃ s2_9 : ByteArray, ws_43.cell? ⟨b2, 3, none⟩ = some (.string s2_9) ∧ R (.returned (.tuple #[.agg #[.slice p2_4 l2_4 c2_4, .string s2_8, .bool b2_5, .string s2_9], .int .i64 11])) ws_43)
  (∃ (p77_1 : Option Addr) (l77_1 c77_1 : Nat), ws_39.cell? ⟨b4, 0, none⟩ = some (.slice p77_1 l77_1 c77_1) ∧ ∃ n78_4 : Int, ws_39.cell? ⟨b7_1, 0, none⟩ = some (.int .u8 n78_4) ∧ ∃ n78_5 : Int, ws_39.cell? ⟨b7_1, 1, none⟩ = some (.int .i64 n78_5) ∧ ∃ n78_6 : Int, ws_39.cell? ⟨b7_1, 2, none⟩ = some (.int .i64 n78_6) ∧ ∃ n78_7 : Int, ws_39.cell? ⟨b7_1, 3, none⟩ = some (.int .u8 n78_7) ∧ ∀ b79_1 w79_1, NewBlk ws_39 b79_1 [.int .u8 n78_4, .int .i64 n78_5, .int .i64 n78_6, .int .u8 n78_7] 64 w79_1 →
  ∃ (p80_1 : Option Addr) (l80_1 c80_1 : Nat) (w80_1 : World), (Builtin.append_ #[29, 29] 29 #[.slice p77_1 l77_1 c77_1, .slice (some ⟨b79_1, 0, none⟩) 1 1]).run Try.prog w79_1 = .ok (.slice p80_1 l80_1 c80_1) w80_1 ∧
  CanStore w80_1 b4 0 ∧ ∀ ws_44, Stored w80_1 b4 0 (.slice p80_1 l80_1 c80_1) ws_44 →
  ∃ nc21, J21 n68_10 nc21 ws_44))
  (∃ nc21, J21 n37_10 nc21 ws_35))
  (∃ nc21, J21 n37_10 nc21 ws_35))
  (∃ nc21, J21 n17 nc21 ws_30)))) ∧ ∀ x6 : Int, ∀ (nc21 : Nat) (wc21 : World), J21 x6 nc21 wc21 →
  Does Try.prog 23 #[.string a0, .int .i64 x6] wc21 fun e85 w85 =>
  ∃ n85 : Int, e85 = .returned (.int .i64 n85) ∧ ∃ J27 : Int → Nat → World → Prop, (Br (decide (n85 < ((a0.size : Int))))
  (((0 : Int) ≤ n85 ∧ n85 < (a0.size : Int)) ∧ Does Try.prog 25 #[.string (({ data := #[61, 62, 60] } : ByteArray)), .int .u8 (sb a0 n85)] w85 fun e95 w95 =>
  ∃ b95 : Bool, e95 = .returned (.bool b95) ∧ Br b95
  (InK .i64 (n85 + 1) ∧ ∃ nc27, J27 (n85 + 1) nc27 w95)
  (∃ I25 : Int → Nat → World → Prop, (∃ nl25, I25 n85 nl25 w95) ∧ ∀ x6_1 : Int, ∀ (nl25 : Nat) (wl25 : World), I25 x6_1 nl25 wl25 →
  Br (decide (x6_1 < ((a0.size : Int))))
  (((0 : Int) ≤ x6_1 ∧ x6_1 < (a0.size : Int)) ∧ Does Try.prog 26 #[.int .u8 (sb a0 x6_1)] wl25 fun e107 w107 =>
  ∃ b107 : Bool, e107 = .returned (.bool b107) ∧ Br b107
  (InK .i64 (x6_1 + 1) ∧ ∃ ml25, ml25 < nl25 ∧ I25 (x6_1 + 1) ml25 w107)
  (∃ nc27, J27 x6_1 nc27 w107))
  (∃ nc27, J27 x6_1 nc27 wl25)))
  (∃ I25_1 : Int → Nat → World → Prop, (∃ nl25_1, I25_1 n85 nl25_1 w85) ∧ ∀ x6_2 : Int, ∀ (nl25_1 : Nat) (wl25_1 : World), I25_1 x6_2 nl25_1 wl25_1 →
  Br (decide (x6_2 < ((a0.size : Int))))
  (((0 : Int) ≤ x6_2 ∧ x6_2 < (a0.size : Int)) ∧ Does Try.prog 26 #[.int .u8 (sb a0 x6_2)] wl25_1 fun e107_1 w107_1 =>
  ∃ b107_1 : Bool, e107_1 = .returned (.bool b107_1) ∧ Br b107_1
  (InK .i64 (x6_2 + 1) ∧ ∃ ml25_1, ml25_1 < nl25_1 ∧ I25_1 (x6_2 + 1) ml25_1 w107_1)
  (∃ nc27, J27 x6_2 nc27 w107_1))
  (∃ nc27, J27 x6_2 nc27 wl25_1))) ∧ ∀ x6_3 : Int, ∀ (nc27 : Nat) (wc27 : World), J27 x6_3 nc27 wc27 →
  ((0 : Int) ≤ x6_3 ∧ x6_3 ≤ (a0.size : Int)) ∧ ((0 : Int) ≤ n85 ∧ n85 ≤ x6_3) ∧ CanStore wc27 b4 1 ∧ ∀ ws_45, Stored wc27 b4 1 (.string (a0.extract ((n85).toNat) ((x6_3).toNat))) ws_45 →
  ∃ s117 : ByteArray, ws_45.cell? ⟨b4, 1, none⟩ = some (.string s117) ∧ Br (s117.toList == (({ data := #[] } : ByteArray)).toList)
  (Br (decide (x6_3 < ((a0.size : Int))))
  (CanStore ws_45 b2 0 ∧ ∀ ws_46, Stored ws_45 b2 0 (.slice none 0 0) ws_46 →
  CanStore ws_46 b2 1 ∧ ∀ ws_47, Stored ws_46 b2 1 (.string (({ data := #[] } : ByteArray))) ws_47 →
  CanStore ws_47 b2 2 ∧ ∀ ws_48, Stored ws_47 b2 2 (.bool false) ws_48 →
  CanStore ws_48 b2 3 ∧ ∀ ws_49, Stored ws_48 b2 3 (.string (({ data := #[] } : ByteArray))) ws_49 →
  ∃ (p2_5 : Option Addr) (l2_5 c2_5 : Nat), ws_49.cell? ⟨b2, 0, none⟩ = some (.slice p2_5 l2_5 c2_5) ∧ ∃ s2_10 : ByteArray, ws_49.cell? ⟨b2, 1, none⟩ = some (.string s2_10) ∧ ∃ b2_6 : Bool, ws_49.cell? ⟨b2, 2, none⟩ = some (.bool b2_6) ∧ ∃ s2_11 : ByteArray, ws_49.cell? ⟨b2, 3, none⟩ = some (.string s2_11) ∧ R (.returned (.tuple #[.agg #[.slice p2_5 l2_5 c2_5, .string s2_10, .bool b2_6, .string s2_11], .int .i64 11])) ws_49)
  (∃ (p125 : Option Addr) (l125 c125 : Nat), ws_45.cell? ⟨b4, 0, none⟩ = some (.slice p125 l125 c125) ∧ ∃ s125 : ByteArray, ws_45.cell? ⟨b4, 1, none⟩ = some (.string s125) ∧ ∃ b125 : Bool, ws_45.cell? ⟨b4, 2, none⟩ = some (.bool b125) ∧ ∃ s125_1 : ByteArray, ws_45.cell? ⟨b4, 3, none⟩ = some (.string s125_1) ∧ CanStore ws_45 b2 0 ∧ ∀ ws_50, Stored ws_45 b2 0 (.slice p125 l125 c125) ws_50 →
  CanStore ws_50 b2 1 ∧ ∀ ws_51, Stored ws_50 b2 1 (.string s125) ws_51 →
  CanStore ws_51 b2 2 ∧ ∀ ws_52, Stored ws_51 b2 2 (.bool b125) ws_52 →
  CanStore ws_52 b2 3 ∧ ∀ ws_53, Stored ws_52 b2 3 (.string s125_1) ws_53 →
  ∃ (p2_6 : Option Addr) (l2_6 c2_6 : Nat), ws_53.cell? ⟨b2, 0, none⟩ = some (.slice p2_6 l2_6 c2_6) ∧ ∃ s2_12 : ByteArray, ws_53.cell? ⟨b2, 1, none⟩ = some (.string s2_12) ∧ ∃ b2_7 : Bool, ws_53.cell? ⟨b2, 2, none⟩ = some (.bool b2_7) ∧ ∃ s2_13 : ByteArray, ws_53.cell? ⟨b2, 3, none⟩ = some (.string s2_13) ∧ R (.returned (.tuple #[.agg #[.slice p2_6 l2_6 c2_6, .string s2_12, .bool b2_7, .string s2_13], .int .i64 0])) ws_53))
  (∃ J35 : Int → Nat → World → Prop, (Br (decide (x6_3 < ((a0.size : Int))))
  (((0 : Int) ≤ x6_3 ∧ x6_3 < (a0.size : Int)) ∧ Br ((sb a0 x6_3) == 33)
  (CanStore ws_45 b4 2 ∧ ∀ ws_54, Stored ws_45 b4 2 (.bool true) ws_54 →
  InK .i64 (x6_3 + 1) ∧ ∃ nc35, J35 (x6_3 + 1) nc35 ws_54)
  (∃ nc35, J35 x6_3 nc35 ws_45))
  (∃ nc35, J35 x6_3 nc35 ws_45)) ∧ ∀ x6_4 : Int, ∀ (nc35 : Nat) (wc35 : World), J35 x6_4 nc35 wc35 →
  Does Try.prog 23 #[.string a0, .int .i64 x6_4] wc35 fun e142 w142 =>
  ∃ n142 : Int, e142 = .returned (.int .i64 n142) ∧ ((0 : Int) ≤ n142 ∧ n142 ≤ (a0.size : Int)) ∧ CanStore w142 b4 3 ∧ ∀ ws_55, Stored w142 b4 3 (.string (a0.extract ((n142).toNat) a0.size)) ws_55 →
  ∃ (p145 : Option Addr) (l145 c145 : Nat), ws_55.cell? ⟨b4, 0, none⟩ = some (.slice p145 l145 c145) ∧ ∃ s145 : ByteArray, ws_55.cell? ⟨b4, 1, none⟩ = some (.string s145) ∧ ∃ b145 : Bool, ws_55.cell? ⟨b4, 2, none⟩ = some (.bool b145) ∧ ∃ s145_1 : ByteArray, ws_55.cell? ⟨b4, 3, none⟩ = some (.string s145_1) ∧ CanStore ws_55 b2 0 ∧ ∀ ws_56, Stored ws_55 b2 0 (.slice p145 l145 c145) ws_56 →
  CanStore ws_56 b2 1 ∧ ∀ ws_57, Stored ws_56 b2 1 (.string s145) ws_57 →
  CanStore ws_57 b2 2 ∧ ∀ ws_58, Stored ws_57 b2 2 (.bool b145) ws_58 →
  CanStore ws_58 b2 3 ∧ ∀ ws_59, Stored ws_58 b2 3 (.string s145_1) ws_59 →
  ∃ (p2_7 : Option Addr) (l2_7 c2_7 : Nat), ws_59.cell? ⟨b2, 0, none⟩ = some (.slice p2_7 l2_7 c2_7) ∧ ∃ s2_14 : ByteArray, ws_59.cell? ⟨b2, 1, none⟩ = some (.string s2_14) ∧ ∃ b2_8 : Bool, ws_59.cell? ⟨b2, 2, none⟩ = some (.bool b2_8) ∧ ∃ s2_15 : ByteArray, ws_59.cell? ⟨b2, 3, none⟩ = some (.string s2_15) ∧ R (.returned (.tuple #[.agg #[.slice p2_7 l2_7 c2_7, .string s2_14, .bool b2_8, .string s2_15], .int .i64 0])) ws_59))
def f11_ann : Ann := { loops := [(25, [(6, .int .i64)])], cuts := [(21, [(6, .int .i64)]), (27, [(6, .int .i64)]), (35, [(6, .int .i64)])], flip := [], throws := [] }
theorem f11_eq (a0 : ByteArray) (w : World) (R : Ending → World → Prop) : vc Try.prog f11_ann (bodyOf Try.f11) (retQ Try.prog Try.f11 R) (envOf Try.f11.ntmps [.v (.string a0)]) [] w = f11_vc a0 w R := by kernel_rfl
theorem f11_does (a0 : ByteArray) {w : World} {R : Ending → World → Prop} (h : f11_vc a0 w R) : Does Try.prog 11 #[.string a0] w R :=
  does_of_vc (ss := [.v (.string a0)]) f11_ann mixed call11 Try.func11 rfl rfl (show 1 ≤ Try.f11.ntmps by decide) ((f11_eq a0 w R).symm ▸ h)
/-- Of escritoire/escritoireref24.SameCmd (function 12): the condition. -/
def f12_vc (p0_0 : Option Addr) (l0_0 c0_0 : Nat) (a0_1 : ByteArray) (a0_2 : Bool) (a0_3 : ByteArray) (p1_0 : Option Addr) (l1_0 c1_0 : Nat) (a1_1 : ByteArray) (a1_2 : Bool) (a1_3 : ByteArray) (w : World) (R : Ending → World → Prop) : Prop :=
  ∀ b2 w2, NewBlk w b2 [.slice p0_0 l0_0 c0_0, .string a0_1, .bool a0_2, .string a0_3] 31 w2 →
  ∀ b3 w3, NewBlk w2 b3 [.slice p1_0 l1_0 c1_0, .string a1_1, .bool a1_2, .string a1_3] 31 w3 →
  ∃ (p7 : Option Addr) (l7 c7 : Nat), w3.cell? ⟨b2, 0, none⟩ = some (.slice p7 l7 c7) ∧ ∃ (p10 : Option Addr) (l10 c10 : Nat), w3.cell? ⟨b3, 0, none⟩ = some (.slice p10 l10 c10) ∧ Br (((l7 : Int)) != ((l10 : Int)))
  (R (.returned (.bool false)) w3)
  (∃ s15 : ByteArray, w3.cell? ⟨b2, 1, none⟩ = some (.string s15) ∧ ∃ s17 : ByteArray, w3.cell? ⟨b3, 1, none⟩ = some (.string s17) ∧ Br (!(s15.toList == s17.toList))
  (R (.returned (.bool false)) w3)
  (∃ b22 : Bool, w3.cell? ⟨b2, 2, none⟩ = some (.bool b22) ∧ ∃ b24 : Bool, w3.cell? ⟨b3, 2, none⟩ = some (.bool b24) ∧ Br (!(b22 == b24))
  (R (.returned (.bool false)) w3)
  (∃ s29 : ByteArray, w3.cell? ⟨b2, 3, none⟩ = some (.string s29) ∧ ∃ s31 : ByteArray, w3.cell? ⟨b3, 3, none⟩ = some (.string s31) ∧ Br (!(s29.toList == s31.toList))
  (R (.returned (.bool false)) w3)
  (∃ I4 : Int → Nat → World → Prop, (∃ nl4, I4 0 nl4 w3) ∧ ∀ x5 : Int, ∀ (nl4 : Nat) (wl4 : World), I4 x5 nl4 wl4 →
  ∃ (p36 : Option Addr) (l36 c36 : Nat), wl4.cell? ⟨b2, 0, none⟩ = some (.slice p36 l36 c36) ∧ Br (decide (x5 < ((l36 : Int))))
  (∀ wd6, Drew wl4 wd6 →
  ∃ (p42 : Option Addr) (l42 c42 : Nat), wd6.cell? ⟨b2, 0, none⟩ = some (.slice p42 l42 c42) ∧ ((0 : Int) ≤ x5 ∧ x5 < (l42 : Int)) ∧ ∃ b44 o44, p42 = some ⟨b44, o44, none⟩ ∧ ∃ n45 : Int, wd6.cell? ⟨b44, o44 + (x5).toNat * 4, none⟩ = some (.int .u8 n45) ∧ ∃ n45_1 : Int, wd6.cell? ⟨b44, o44 + (x5).toNat * 4 + 1, none⟩ = some (.int .i64 n45_1) ∧ ∃ n45_2 : Int, wd6.cell? ⟨b44, o44 + (x5).toNat * 4 + 2, none⟩ = some (.int .i64 n45_2) ∧ ∃ n45_3 : Int, wd6.cell? ⟨b44, o44 + (x5).toNat * 4 + 3, none⟩ = some (.int .u8 n45_3) ∧ ∃ (p47 : Option Addr) (l47 c47 : Nat), wd6.cell? ⟨b3, 0, none⟩ = some (.slice p47 l47 c47) ∧ ((0 : Int) ≤ x5 ∧ x5 < (l47 : Int)) ∧ ∃ b49 o49, p47 = some ⟨b49, o49, none⟩ ∧ ∃ n50 : Int, wd6.cell? ⟨b49, o49 + (x5).toNat * 4, none⟩ = some (.int .u8 n50) ∧ ∃ n50_1 : Int, wd6.cell? ⟨b49, o49 + (x5).toNat * 4 + 1, none⟩ = some (.int .i64 n50_1) ∧ ∃ n50_2 : Int, wd6.cell? ⟨b49, o49 + (x5).toNat * 4 + 2, none⟩ = some (.int .i64 n50_2) ∧ ∃ n50_3 : Int, wd6.cell? ⟨b49, o49 + (x5).toNat * 4 + 3, none⟩ = some (.int .u8 n50_3) ∧ Br (!((n45 == n50) && ((n45_1 == n50_1) && ((n45_2 == n50_2) && ((n45_3 == n50_3) && true)))))
  (R (.returned (.bool false)) wd6)
  (InK .i64 (x5 + 1) ∧ ∃ ml4, ml4 < nl4 ∧ I4 (x5 + 1) ml4 wd6))
  (R (.returned (.bool true)) wl4)))))
def f12_ann : Ann := { loops := [(4, [(5, .int .i64)])], cuts := [], flip := [], throws := [] }
theorem f12_eq (p0_0 : Option Addr) (l0_0 c0_0 : Nat) (a0_1 : ByteArray) (a0_2 : Bool) (a0_3 : ByteArray) (p1_0 : Option Addr) (l1_0 c1_0 : Nat) (a1_1 : ByteArray) (a1_2 : Bool) (a1_3 : ByteArray) (w : World) (R : Ending → World → Prop) : vc Try.prog f12_ann (bodyOf Try.f12) (retQ Try.prog Try.f12 R) (envOf Try.f12.ntmps [.v (.agg #[.slice p0_0 l0_0 c0_0, .string a0_1, .bool a0_2, .string a0_3]), .v (.agg #[.slice p1_0 l1_0 c1_0, .string a1_1, .bool a1_2, .string a1_3])]) [] w = f12_vc p0_0 l0_0 c0_0 a0_1 a0_2 a0_3 p1_0 l1_0 c1_0 a1_1 a1_2 a1_3 w R := by kernel_rfl
theorem f12_does (p0_0 : Option Addr) (l0_0 c0_0 : Nat) (a0_1 : ByteArray) (a0_2 : Bool) (a0_3 : ByteArray) (p1_0 : Option Addr) (l1_0 c1_0 : Nat) (a1_1 : ByteArray) (a1_2 : Bool) (a1_3 : ByteArray) {w : World} {R : Ending → World → Prop} (h : f12_vc p0_0 l0_0 c0_0 a0_1 a0_2 a0_3 p1_0 l1_0 c1_0 a1_1 a1_2 a1_3 w R) : Does Try.prog 12 #[.agg #[.slice p0_0 l0_0 c0_0, .string a0_1, .bool a0_2, .string a0_3], .agg #[.slice p1_0 l1_0 c1_0, .string a1_1, .bool a1_2, .string a1_3]] w R :=
  does_of_vc (ss := [.v (.agg #[.slice p0_0 l0_0 c0_0, .string a0_1, .bool a0_2, .string a0_3]), .v (.agg #[.slice p1_0 l1_0 c1_0, .string a1_1, .bool a1_2, .string a1_3])]) f12_ann mixed call12 Try.func12 rfl rfl (show 2 ≤ Try.f12.ntmps by decide) ((f12_eq p0_0 l0_0 c0_0 a0_1 a0_2 a0_3 p1_0 l1_0 c1_0 a1_1 a1_2 a1_3 w R).symm ▸ h)
/-- Of escritoire/escritoirelaw25.model (function 13): the condition. -/
def f13_vc (p0_0 : Option Addr) (l0_0 c0_0 : Nat) (a0_1 : ByteArray) (a0_2 : Bool) (a0_3 : ByteArray) (w : World) (R : Ending → World → Prop) : Prop :=
  ∀ b1 w1, NewBlk w b1 [.slice p0_0 l0_0 c0_0, .string a0_1, .bool a0_2, .string a0_3] 25 w1 →
  ∀ b2 w2, NewBlk w1 b2 [.slice none 0 0, .string (({ data := #[] } : ByteArray)), .bool false, .string (({ data := #[] } : ByteArray))] 31 w2 →
  ∃ s7 : ByteArray, w2.cell? ⟨b1, 1, none⟩ = some (.string s7) ∧ ∃ b9 : Bool, w2.cell? ⟨b1, 2, none⟩ = some (.bool b9) ∧ ∃ s11 : ByteArray, w2.cell? ⟨b1, 3, none⟩ = some (.string s11) ∧ ∀ b3 w3, NewBlk w2 b3 [.slice none 0 0, .string (({ data := #[] } : ByteArray)), .bool false, .string (({ data := #[] } : ByteArray))] 31 w3 →
  CanStore w3 b3 0 ∧ ∀ ws, Stored w3 b3 0 (.slice none 0 0) ws →
  CanStore ws b3 1 ∧ ∀ ws_1, Stored ws b3 1 (.string s7) ws_1 →
  CanStore ws_1 b3 2 ∧ ∀ ws_2, Stored ws_1 b3 2 (.bool b9) ws_2 →
  CanStore ws_2 b3 3 ∧ ∀ ws_3, Stored ws_2 b3 3 (.string s11) ws_3 →
  ∃ I3 : Int → Nat → World → Prop, (∃ nl3, I3 0 nl3 ws_3) ∧ ∀ x4 : Int, ∀ (nl3 : Nat) (wl3 : World), I3 x4 nl3 wl3 →
  ∃ (p15 : Option Addr) (l15 c15 : Nat), wl3.cell? ⟨b1, 0, none⟩ = some (.slice p15 l15 c15) ∧ Br (decide (x4 < ((l15 : Int))))
  (∃ (p21 : Option Addr) (l21 c21 : Nat), wl3.cell? ⟨b1, 0, none⟩ = some (.slice p21 l21 c21) ∧ ((0 : Int) ≤ x4 ∧ x4 < (l21 : Int)) ∧ ∃ b23 o23, p21 = some ⟨b23, o23, none⟩ ∧ ∃ n24 : Int, wl3.cell? ⟨b23, o23 + (x4).toNat * 4, none⟩ = some (.int .u8 n24) ∧ ∃ n24_1 : Int, wl3.cell? ⟨b23, o23 + (x4).toNat * 4 + 1, none⟩ = some (.int .i64 n24_1) ∧ ∃ n24_2 : Int, wl3.cell? ⟨b23, o23 + (x4).toNat * 4 + 2, none⟩ = some (.int .i64 n24_2) ∧ ∃ n24_3 : Int, wl3.cell? ⟨b23, o23 + (x4).toNat * 4 + 3, none⟩ = some (.int .u8 n24_3) ∧ ∀ b5 w5, NewBlk wl3 b5 [.int .u8 0, .int .i64 0, .int .i64 0, .int .u8 0] 55 w5 →
  CanStore w5 b5 0 ∧ ∀ ws_4, Stored w5 b5 0 (.int .u8 n24) ws_4 →
  CanStore ws_4 b5 1 ∧ ∀ ws_5, Stored ws_4 b5 1 (.int .i64 n24_1) ws_5 →
  CanStore ws_5 b5 2 ∧ ∀ ws_6, Stored ws_5 b5 2 (.int .i64 n24_2) ws_6 →
  CanStore ws_6 b5 3 ∧ ∀ ws_7, Stored ws_6 b5 3 (.int .u8 n24_3) ws_7 →
  ∃ (p26 : Option Addr) (l26 c26 : Nat), ws_7.cell? ⟨b3, 0, none⟩ = some (.slice p26 l26 c26) ∧ ∃ n28 : Int, ws_7.cell? ⟨b5, 0, none⟩ = some (.int .u8 n28) ∧ ∃ n30 : Int, ws_7.cell? ⟨b5, 1, none⟩ = some (.int .i64 n30) ∧ ∃ n32 : Int, ws_7.cell? ⟨b5, 2, none⟩ = some (.int .i64 n32) ∧ ∃ n34 : Int, ws_7.cell? ⟨b5, 3, none⟩ = some (.int .u8 n34) ∧ ∀ b36 w36, NewBlk ws_7 b36 [.int .u8 n28, .int .i64 n30, .int .i64 n32, .int .u8 n34] 64 w36 →
  ∃ (p37 : Option Addr) (l37 c37 : Nat) (w37 : World), (Builtin.append_ #[29, 29] 29 #[.slice p26 l26 c26, .slice (some ⟨b36, 0, none⟩) 1 1]).run Try.prog w36 = .ok (.slice p37 l37 c37) w37 ∧
  CanStore w37 b3 0 ∧ ∀ ws_8, Stored w37 b3 0 (.slice p37 l37 c37) ws_8 →
  InK .i64 (x4 + 1) ∧ ∃ ml3, ml3 < nl3 ∧ I3 (x4 + 1) ml3 ws_8)
  (∃ (p39 : Option Addr) (l39 c39 : Nat), wl3.cell? ⟨b3, 0, none⟩ = some (.slice p39 l39 c39) ∧ ∃ s39 : ByteArray, wl3.cell? ⟨b3, 1, none⟩ = some (.string s39) ∧ ∃ b39 : Bool, wl3.cell? ⟨b3, 2, none⟩ = some (.bool b39) ∧ ∃ s39_1 : ByteArray, wl3.cell? ⟨b3, 3, none⟩ = some (.string s39_1) ∧ CanStore wl3 b2 0 ∧ ∀ ws_9, Stored wl3 b2 0 (.slice p39 l39 c39) ws_9 →
  CanStore ws_9 b2 1 ∧ ∀ ws_10, Stored ws_9 b2 1 (.string s39) ws_10 →
  CanStore ws_10 b2 2 ∧ ∀ ws_11, Stored ws_10 b2 2 (.bool b39) ws_11 →
  CanStore ws_11 b2 3 ∧ ∀ ws_12, Stored ws_11 b2 3 (.string s39_1) ws_12 →
  ∃ (p2 : Option Addr) (l2 c2 : Nat), ws_12.cell? ⟨b2, 0, none⟩ = some (.slice p2 l2 c2) ∧ ∃ s2 : ByteArray, ws_12.cell? ⟨b2, 1, none⟩ = some (.string s2) ∧ ∃ b2_1 : Bool, ws_12.cell? ⟨b2, 2, none⟩ = some (.bool b2_1) ∧ ∃ s2_1 : ByteArray, ws_12.cell? ⟨b2, 3, none⟩ = some (.string s2_1) ∧ R (.returned (.agg #[.slice p2 l2 c2, .string s2, .bool b2_1, .string s2_1])) ws_12)
def f13_ann : Ann := { loops := [(3, [(4, .int .i64)])], cuts := [], flip := [], throws := [] }
theorem f13_eq (p0_0 : Option Addr) (l0_0 c0_0 : Nat) (a0_1 : ByteArray) (a0_2 : Bool) (a0_3 : ByteArray) (w : World) (R : Ending → World → Prop) : vc Try.prog f13_ann (bodyOf Try.f13) (retQ Try.prog Try.f13 R) (envOf Try.f13.ntmps [.v (.agg #[.slice p0_0 l0_0 c0_0, .string a0_1, .bool a0_2, .string a0_3])]) [] w = f13_vc p0_0 l0_0 c0_0 a0_1 a0_2 a0_3 w R := by kernel_rfl
theorem f13_does (p0_0 : Option Addr) (l0_0 c0_0 : Nat) (a0_1 : ByteArray) (a0_2 : Bool) (a0_3 : ByteArray) {w : World} {R : Ending → World → Prop} (h : f13_vc p0_0 l0_0 c0_0 a0_1 a0_2 a0_3 w R) : Does Try.prog 13 #[.agg #[.slice p0_0 l0_0 c0_0, .string a0_1, .bool a0_2, .string a0_3]] w R :=
  does_of_vc (ss := [.v (.agg #[.slice p0_0 l0_0 c0_0, .string a0_1, .bool a0_2, .string a0_3])]) f13_ann mixed call13 Try.func13 rfl rfl (show 1 ≤ Try.f13.ntmps by decide) ((f13_eq p0_0 l0_0 c0_0 a0_1 a0_2 a0_3 w R).symm ▸ h)
/-- Of escritoire/line.Subst (function 14): the condition. -/
def f14_vc (a0 : ByteArray) (w : World) (R : Ending → World → Prop) : Prop :=
  ∀ b2 w2, NewBlk w b2 [.string (({ data := #[] } : ByteArray))] 9 w2 →
  ∀ b3 w3, NewBlk w2 b3 [.string (({ data := #[] } : ByteArray))] 9 w3 →
  ∀ b4 w4, NewBlk w3 b4 [.bool false] 4 w4 →
  ∀ b5 w5, NewBlk w4 b5 [.bool false] 4 w5 →
  ∀ b10 w10, NewBlk w5 b10 [.string a0, .slice none 0 0, .string (({ data := #[] } : ByteArray)), .bool false, .string (({ data := #[] } : ByteArray))] 62 w10 →
  Does Try.prog 29 #[.pointer (some ⟨b10, 0, none⟩), .int .u8 47] w10 fun e12 w12 =>
  ∃ b12 : Bool, e12 = .returned (.bool b12) ∧ Does Try.prog 28 #[.bool b12] w12 fun e13 w13 =>
  (e13 = .returned (.tuple #[]) ∧ Does Try.prog 30 #[.pointer (some ⟨b10, 0, none⟩)] w13 fun e16 w16 =>
  (∃ s16 : ByteArray, ∃ b16 : Bool, e16 = .returned (.tuple #[.string s16, .bool b16]) ∧ CanStore w16 b2 0 ∧ ∀ ws, Stored w16 b2 0 (.string s16) ws →
  CanStore ws b5 0 ∧ ∀ ws_1, Stored ws b5 0 (.bool b16) ws_1 →
  ∃ J6 : Nat → World → Prop, (∃ b19 : Bool, ws_1.cell? ⟨b5, 0, none⟩ = some (.bool b19) ∧ Br b19
  (∃ s21 : ByteArray, ws_1.cell? ⟨b2, 0, none⟩ = some (.string s21) ∧ Does Try.prog 28 #[.bool (!(s21.toList == (({ data := #[] } : ByteArray)).toList))] ws_1 fun e24 w24 =>
  (e24 = .returned (.tuple #[]) ∧ ∃ nc6, J6  nc6 w24) ∨ (∃ ch24, e24 = .panicked ch24 ∧ LeavesV (fun wk => ∃ s2 : ByteArray, wk.cell? ⟨b2, 0, none⟩ = some (.string s2) ∧ ∃ s3 : ByteArray, wk.cell? ⟨b3, 0, none⟩ = some (.string s3) ∧ ∃ b4_1 : Bool, wk.cell? ⟨b4, 0, none⟩ = some (.bool b4_1) ∧ ∃ b5_1 : Bool, wk.cell? ⟨b5, 0, none⟩ = some (.bool b5_1) ∧ R (.returned (.tuple #[.string s2, .string s3, .bool b4_1, .bool b5_1])) wk) (fun chk wp => R (.panicked chk) wp) Try.prog ({ target := .fn (.func 27) #[.pointer (some ⟨b2, 0, none⟩), .pointer (some ⟨b3, 0, none⟩), .pointer (some ⟨b4, 0, none⟩), .pointer (some ⟨b5, 0, none⟩)], args := #[] } :: []) (.panicking ch24) w24))
  (Does Try.prog 28 #[.bool false] ws_1 fun e24_1 w24_1 =>
  (e24_1 = .returned (.tuple #[]) ∧ ∃ nc6, J6  nc6 w24_1) ∨ (∃ ch24_1, e24_1 = .panicked ch24_1 ∧ LeavesV (fun wk_1 => ∃ s2_1 : ByteArray, wk_1.cell? ⟨b2, 0, none⟩ = some (.string s2_1) ∧ ∃ s3_1 : ByteArray, wk_1.cell? ⟨b3, 0, none⟩ = some (.string s3_1) ∧ ∃ b4_2 : Bool, wk_1.cell? ⟨b4, 0, none⟩ = some (.bool b4_2) ∧ ∃ b5_2 : Bool, wk_1.cell? ⟨b5, 0, none⟩ = some (.bool b5_2) ∧ R (.returned (.tuple #[.string s2_1, .string s3_1, .bool b4_2, .bool b5_2])) wk_1) (fun chk_1 wp_1 => R (.panicked chk_1) wp_1) Try.prog ({ target := .fn (.func 27) #[.pointer (some ⟨b2, 0, none⟩), .pointer (some ⟨b3, 0, none⟩), .pointer (some ⟨b4, 0, none⟩), .pointer (some ⟨b5, 0, none⟩)], args := #[] } :: []) (.panicking ch24_1) w24_1))) ∧ ∀ (nc6 : Nat) (wc6 : World), J6  nc6 wc6 →
  Does Try.prog 30 #[.pointer (some ⟨b10, 0, none⟩)] wc6 fun e27 w27 =>
  (∃ s27 : ByteArray, ∃ b27 : Bool, e27 = .returned (.tuple #[.string s27, .bool b27]) ∧ CanStore w27 b3 0 ∧ ∀ ws_2, Stored w27 b3 0 (.string s27) ws_2 →
  CanStore ws_2 b5 0 ∧ ∀ ws_3, Stored ws_2 b5 0 (.bool b27) ws_3 →
  ∃ J9 : Nat → World → Prop, (∃ b30 : Bool, ws_3.cell? ⟨b5, 0, none⟩ = some (.bool b30) ∧ Br b30
  (Does Try.prog 29 #[.pointer (some ⟨b10, 0, none⟩), .int .u8 103] ws_3 fun e32 w32 =>
  ∃ b32 : Bool, e32 = .returned (.bool b32) ∧ CanStore w32 b4 0 ∧ ∀ ws_4, Stored w32 b4 0 (.bool b32) ws_4 →
  ∃ nc9, J9  nc9 ws_4)
  (∃ nc9, J9  nc9 ws_3)) ∧ ∀ (nc9 : Nat) (wc9 : World), J9  nc9 wc9 →
  ∃ s36 : ByteArray, wc9.cell? ⟨b10, 0, none⟩ = some (.string s36) ∧ Does Try.prog 28 #[.bool (s36.toList == (({ data := #[] } : ByteArray)).toList)] wc9 fun e38 w38 =>
  (e38 = .returned (.tuple #[]) ∧ ∀ wd10, Drew w38 wd10 →
  ∃ S10 : World → Prop, S10 wd10 ∧ ∃ s39 : ByteArray, wd10.cell? ⟨b2, 0, none⟩ = some (.string s39) ∧ ∃ s40 : ByteArray, (∀ w, S10 w → w.cell? ⟨b3, 0, none⟩ = some (.string s40)) ∧ ∃ b41 : Bool, (∀ w, S10 w → w.cell? ⟨b4, 0, none⟩ = some (.bool b41)) ∧ CanStore wd10 b2 0 ∧ ∀ ws_5, Stored wd10 b2 0 (.string s39) ws_5 →
  S10 ws_5 ∧ CanStore ws_5 b3 0 ∧ ∀ ws_6, Stored ws_5 b3 0 (.string s40) ws_6 →
  S10 ws_6 ∧ CanStore ws_6 b4 0 ∧ ∀ ws_7, Stored ws_6 b4 0 (.bool b41) ws_7 →
  CanStore ws_7 b5 0 ∧ ∀ ws_8, Stored ws_7 b5 0 (.bool true) ws_8 →
  LeavesV (fun wk_2 => ∃ s2_2 : ByteArray, wk_2.cell? ⟨b2, 0, none⟩ = some (.string s2_2) ∧ ∃ s3_2 : ByteArray, wk_2.cell? ⟨b3, 0, none⟩ = some (.string s3_2) ∧ ∃ b4_3 : Bool, wk_2.cell? ⟨b4, 0, none⟩ = some (.bool b4_3) ∧ ∃ b5_3 : Bool, wk_2.cell? ⟨b5, 0, none⟩ = some (.bool b5_3) ∧ R (.returned (.tuple #[.string s2_2, .string s3_2, .bool b4_3, .bool b5_3])) wk_2) (fun chk_2 wp_2 => R (.panicked chk_2) wp_2) Try.prog ({ target := .fn (.func 27) #[.pointer (some ⟨b2, 0, none⟩), .pointer (some ⟨b3, 0, none⟩), .pointer (some ⟨b4, 0, none⟩), .pointer (some ⟨b5, 0, none⟩)], args := #[] } :: []) (.returning) ws_8) ∨ (∃ ch38, e38 = .panicked ch38 ∧ LeavesV (fun wk_3 => ∃ s2_3 : ByteArray, wk_3.cell? ⟨b2, 0, none⟩ = some (.string s2_3) ∧ ∃ s3_3 : ByteArray, wk_3.cell? ⟨b3, 0, none⟩ = some (.string s3_3) ∧ ∃ b4_4 : Bool, wk_3.cell? ⟨b4, 0, none⟩ = some (.bool b4_4) ∧ ∃ b5_4 : Bool, wk_3.cell? ⟨b5, 0, none⟩ = some (.bool b5_4) ∧ R (.returned (.tuple #[.string s2_3, .string s3_3, .bool b4_4, .bool b5_4])) wk_3) (fun chk_3 wp_3 => R (.panicked chk_3) wp_3) Try.prog ({ target := .fn (.func 27) #[.pointer (some ⟨b2, 0, none⟩), .pointer (some ⟨b3, 0, none⟩), .pointer (some ⟨b4, 0, none⟩), .pointer (some ⟨b5, 0, none⟩)], args := #[] } :: []) (.panicking ch38) w38)) ∨ (∃ ch27, e27 = .panicked ch27 ∧ LeavesV (fun wk_4 => ∃ s2_4 : ByteArray, wk_4.cell? ⟨b2, 0, none⟩ = some (.string s2_4) ∧ ∃ s3_4 : ByteArray, wk_4.cell? ⟨b3, 0, none⟩ = some (.string s3_4) ∧ ∃ b4_5 : Bool, wk_4.cell? ⟨b4, 0, none⟩ = some (.bool b4_5) ∧ ∃ b5_5 : Bool, wk_4.cell? ⟨b5, 0, none⟩ = some (.bool b5_5) ∧ R (.returned (.tuple #[.string s2_4, .string s3_4, .bool b4_5, .bool b5_5])) wk_4) (fun chk_4 wp_4 => R (.panicked chk_4) wp_4) Try.prog ({ target := .fn (.func 27) #[.pointer (some ⟨b2, 0, none⟩), .pointer (some ⟨b3, 0, none⟩), .pointer (some ⟨b4, 0, none⟩), .pointer (some ⟨b5, 0, none⟩)], args := #[] } :: []) (.panicking ch27) w27)) ∨ (∃ ch16, e16 = .panicked ch16 ∧ LeavesV (fun wk_5 => ∃ s2_5 : ByteArray, wk_5.cell? ⟨b2, 0, none⟩ = some (.string s2_5) ∧ ∃ s3_5 : ByteArray, wk_5.cell? ⟨b3, 0, none⟩ = some (.string s3_5) ∧ ∃ b4_6 : Bool, wk_5.cell? ⟨b4, 0, none⟩ = some (.bool b4_6) ∧ ∃ b5_6 : Bool, wk_5.cell? ⟨b5, 0, none⟩ = some (.bool b5_6) ∧ R (.returned (.tuple #[.string s2_5, .string s3_5, .bool b4_6, .bool b5_6])) wk_5) (fun chk_5 wp_5 => R (.panicked chk_5) wp_5) Try.prog ({ target := .fn (.func 27) #[.pointer (some ⟨b2, 0, none⟩), .pointer (some ⟨b3, 0, none⟩), .pointer (some ⟨b4, 0, none⟩), .pointer (some ⟨b5, 0, none⟩)], args := #[] } :: []) (.panicking ch16) w16)) ∨ (∃ ch13, e13 = .panicked ch13 ∧ LeavesV (fun wk_6 => ∃ s2_6 : ByteArray, wk_6.cell? ⟨b2, 0, none⟩ = some (.string s2_6) ∧ ∃ s3_6 : ByteArray, wk_6.cell? ⟨b3, 0, none⟩ = some (.string s3_6) ∧ ∃ b4_7 : Bool, wk_6.cell? ⟨b4, 0, none⟩ = some (.bool b4_7) ∧ ∃ b5_7 : Bool, wk_6.cell? ⟨b5, 0, none⟩ = some (.bool b5_7) ∧ R (.returned (.tuple #[.string s2_6, .string s3_6, .bool b4_7, .bool b5_7])) wk_6) (fun chk_6 wp_6 => R (.panicked chk_6) wp_6) Try.prog ({ target := .fn (.func 27) #[.pointer (some ⟨b2, 0, none⟩), .pointer (some ⟨b3, 0, none⟩), .pointer (some ⟨b4, 0, none⟩), .pointer (some ⟨b5, 0, none⟩)], args := #[] } :: []) (.panicking ch13) w13)
def f14_ann : Ann := { loops := [], cuts := [(6, []), (9, [])], flip := [], throws := [28, 30] }
theorem f14_eq (a0 : ByteArray) (w : World) (R : Ending → World → Prop) : vc Try.prog f14_ann (bodyOf Try.f14) (retQ Try.prog Try.f14 R) (envOf Try.f14.ntmps [.v (.string a0)]) [] w = f14_vc a0 w R := by kernel_rfl
theorem f14_does (a0 : ByteArray) {w : World} {R : Ending → World → Prop} (h : f14_vc a0 w R) : Does Try.prog 14 #[.string a0] w R :=
  does_of_vc (ss := [.v (.string a0)]) f14_ann mixed call14 Try.func14 rfl rfl (show 1 ≤ Try.f14.ntmps by decide) ((f14_eq a0 w R).symm ▸ h)
/-- Of escritoire/escritoireref24.Subst (function 15): the condition. -/
def f15_vc (a0 : ByteArray) (w : World) (R : Ending → World → Prop) : Prop :=
  Br (((a0.size : Int)) == 0)
  (R (.returned (.tuple #[.string (({ data := #[] } : ByteArray)), .string (({ data := #[] } : ByteArray)), .bool false, .bool false])) w)
  (((0 : Int) ≤ 0 ∧ 0 < (a0.size : Int)) ∧ Br ((sb a0 0) != 47)
  (R (.returned (.tuple #[.string (({ data := #[] } : ByteArray)), .string (({ data := #[] } : ByteArray)), .bool false, .bool false])) w)
  (Does Try.prog 31 #[.string a0, .int .i64 1] w fun e21 w21 =>
  ∃ s21 : ByteArray, ∃ n21 : Int, ∃ b21 : Bool, e21 = .returned (.tuple #[.string s21, .int .i64 n21, .bool b21]) ∧ Br (!b21)
  (R (.returned (.tuple #[.string (({ data := #[] } : ByteArray)), .string (({ data := #[] } : ByteArray)), .bool false, .bool false])) w21)
  (Br (s21.toList == (({ data := #[] } : ByteArray)).toList)
  (R (.returned (.tuple #[.string (({ data := #[] } : ByteArray)), .string (({ data := #[] } : ByteArray)), .bool false, .bool false])) w21)
  (Br (decide (n21 ≥ ((a0.size : Int))))
  (R (.returned (.tuple #[.string (({ data := #[] } : ByteArray)), .string (({ data := #[] } : ByteArray)), .bool false, .bool false])) w21)
  (InK .i64 (n21 + 1) ∧ Does Try.prog 31 #[.string a0, .int .i64 (n21 + 1)] w21 fun e41 w41 =>
  ∃ s41 : ByteArray, ∃ n41 : Int, ∃ b41 : Bool, e41 = .returned (.tuple #[.string s41, .int .i64 n41, .bool b41]) ∧ Br (!b41)
  (R (.returned (.tuple #[.string (({ data := #[] } : ByteArray)), .string (({ data := #[] } : ByteArray)), .bool false, .bool false])) w41)
  (((0 : Int) ≤ (if (a0.size : Int) < n41 then (a0.size : Int) else n41) ∧ (if (a0.size : Int) < n41 then (a0.size : Int) else n41) ≤ (a0.size : Int)) ∧ Br (!((a0.extract ((if (a0.size : Int) < n41 then (a0.size : Int) else n41).toNat) a0.size).toList == (({ data := #[] } : ByteArray)).toList))
  (Br (!((a0.extract ((if (a0.size : Int) < n41 then (a0.size : Int) else n41).toNat) a0.size).toList == (({ data := #[47] } : ByteArray)).toList))
  (Br (!((a0.extract ((if (a0.size : Int) < n41 then (a0.size : Int) else n41).toNat) a0.size).toList == (({ data := #[47, 103] } : ByteArray)).toList))
  (R (.returned (.tuple #[.string (({ data := #[] } : ByteArray)), .string (({ data := #[] } : ByteArray)), .bool false, .bool false])) w41)
  (R (.returned (.tuple #[.string s21, .string s41, .bool ((a0.extract ((if (a0.size : Int) < n41 then (a0.size : Int) else n41).toNat) a0.size).toList == (({ data := #[47, 103] } : ByteArray)).toList), .bool true])) w41))
  (R (.returned (.tuple #[.string s21, .string s41, .bool ((a0.extract ((if (a0.size : Int) < n41 then (a0.size : Int) else n41).toNat) a0.size).toList == (({ data := #[47, 103] } : ByteArray)).toList), .bool true])) w41))
  (R (.returned (.tuple #[.string s21, .string s41, .bool ((a0.extract ((if (a0.size : Int) < n41 then (a0.size : Int) else n41).toNat) a0.size).toList == (({ data := #[47, 103] } : ByteArray)).toList), .bool true])) w41)))))))
def f15_ann : Ann := { loops := [], cuts := [], flip := [], throws := [] }
theorem f15_eq (a0 : ByteArray) (w : World) (R : Ending → World → Prop) : vc Try.prog f15_ann (bodyOf Try.f15) (retQ Try.prog Try.f15 R) (envOf Try.f15.ntmps [.v (.string a0)]) [] w = f15_vc a0 w R := by kernel_rfl
theorem f15_does (a0 : ByteArray) {w : World} {R : Ending → World → Prop} (h : f15_vc a0 w R) : Does Try.prog 15 #[.string a0] w R :=
  does_of_vc (ss := [.v (.string a0)]) f15_ann mixed call15 Try.func15 rfl rfl (show 1 ≤ Try.f15.ntmps by decide) ((f15_eq a0 w R).symm ▸ h)
/-- Of escritoire/escritoirelaw25.small (function 16): the condition. -/
def f16_vc (p0_0 : Option Addr) (l0_0 c0_0 : Nat) (a0_1 : ByteArray) (a0_2 : Bool) (a0_3 : ByteArray) (w : World) (R : Ending → World → Prop) : Prop :=
  ∀ b1 w1, NewBlk w b1 [.slice p0_0 l0_0 c0_0, .string a0_1, .bool a0_2, .string a0_3] 31 w1 →
  ∃ (p6 : Option Addr) (l6 c6 : Nat), w1.cell? ⟨b1, 0, none⟩ = some (.slice p6 l6 c6) ∧ Br (decide (((l6 : Int)) > 10))
  (R (.returned (.bool false)) w1)
  (∃ I4 : Int → Nat → World → Prop, (∃ nl4, I4 0 nl4 w1) ∧ ∀ x3 : Int, ∀ (nl4 : Nat) (wl4 : World), I4 x3 nl4 wl4 →
  ∃ (p11 : Option Addr) (l11 c11 : Nat), wl4.cell? ⟨b1, 0, none⟩ = some (.slice p11 l11 c11) ∧ Br (decide (x3 < ((l11 : Int))))
  (∃ (p17 : Option Addr) (l17 c17 : Nat), wl4.cell? ⟨b1, 0, none⟩ = some (.slice p17 l17 c17) ∧ ((0 : Int) ≤ x3 ∧ x3 < (l17 : Int)) ∧ ∃ b19 o19, p17 = some ⟨b19, o19, none⟩ ∧ ∃ n20 : Int, wl4.cell? ⟨b19, o19 + (x3).toNat * 4, none⟩ = some (.int .u8 n20) ∧ ∃ n20_1 : Int, wl4.cell? ⟨b19, o19 + (x3).toNat * 4 + 1, none⟩ = some (.int .i64 n20_1) ∧ ∃ n20_2 : Int, wl4.cell? ⟨b19, o19 + (x3).toNat * 4 + 2, none⟩ = some (.int .i64 n20_2) ∧ ∃ n20_3 : Int, wl4.cell? ⟨b19, o19 + (x3).toNat * 4 + 3, none⟩ = some (.int .u8 n20_3) ∧ ∀ b4 w4, NewBlk wl4 b4 [.int .u8 0, .int .i64 0, .int .i64 0, .int .u8 0] 64 w4 →
  CanStore w4 b4 0 ∧ ∀ ws, Stored w4 b4 0 (.int .u8 n20) ws →
  CanStore ws b4 1 ∧ ∀ ws_1, Stored ws b4 1 (.int .i64 n20_1) ws_1 →
  CanStore ws_1 b4 2 ∧ ∀ ws_2, Stored ws_1 b4 2 (.int .i64 n20_2) ws_2 →
  CanStore ws_2 b4 3 ∧ ∀ ws_3, Stored ws_2 b4 3 (.int .u8 n20_3) ws_3 →
  ∃ n22 : Int, ws_3.cell? ⟨b4, 1, none⟩ = some (.int .i64 n22) ∧ Br (decide (n22 < (-1099511627776)))
  (R (.returned (.bool false)) ws_3)
  (∃ n26 : Int, ws_3.cell? ⟨b4, 1, none⟩ = some (.int .i64 n26) ∧ Br (decide (n26 > 1099511627776))
  (R (.returned (.bool false)) ws_3)
  (∃ n31 : Int, ws_3.cell? ⟨b4, 2, none⟩ = some (.int .i64 n31) ∧ Br (decide (n31 < (-1099511627776)))
  (R (.returned (.bool false)) ws_3)
  (∃ n36 : Int, ws_3.cell? ⟨b4, 2, none⟩ = some (.int .i64 n36) ∧ Br (decide (n36 > 1099511627776))
  (R (.returned (.bool false)) ws_3)
  (InK .i64 (x3 + 1) ∧ ∃ ml4, ml4 < nl4 ∧ I4 (x3 + 1) ml4 ws_3)))))
  (R (.returned (.bool true)) wl4))
def f16_ann : Ann := { loops := [(4, [(3, .int .i64)])], cuts := [], flip := [], throws := [] }
theorem f16_eq (p0_0 : Option Addr) (l0_0 c0_0 : Nat) (a0_1 : ByteArray) (a0_2 : Bool) (a0_3 : ByteArray) (w : World) (R : Ending → World → Prop) : vc Try.prog f16_ann (bodyOf Try.f16) (retQ Try.prog Try.f16 R) (envOf Try.f16.ntmps [.v (.agg #[.slice p0_0 l0_0 c0_0, .string a0_1, .bool a0_2, .string a0_3])]) [] w = f16_vc p0_0 l0_0 c0_0 a0_1 a0_2 a0_3 w R := by kernel_rfl
theorem f16_does (p0_0 : Option Addr) (l0_0 c0_0 : Nat) (a0_1 : ByteArray) (a0_2 : Bool) (a0_3 : ByteArray) {w : World} {R : Ending → World → Prop} (h : f16_vc p0_0 l0_0 c0_0 a0_1 a0_2 a0_3 w R) : Does Try.prog 16 #[.agg #[.slice p0_0 l0_0 c0_0, .string a0_1, .bool a0_2, .string a0_3]] w R :=
  does_of_vc (ss := [.v (.agg #[.slice p0_0 l0_0 c0_0, .string a0_1, .bool a0_2, .string a0_3])]) f16_ann mixed call16 Try.func16 rfl rfl (show 1 ≤ Try.f16.ntmps by decide) ((f16_eq p0_0 l0_0 c0_0 a0_1 a0_2 a0_3 w R).symm ▸ h)
/-- Of escritoire/line.Resolve (function 17): the condition. -/
def f17_vc (p0_0 : Option Addr) (l0_0 c0_0 : Nat) (a0_1 : ByteArray) (a0_2 : Bool) (a0_3 : ByteArray) (a1 : Int) (a2 : Int) (p3 : Option Addr) (l3 c3 : Nat) (w : World) (R : Ending → World → Prop) : Prop :=
  ∀ b4 w4, NewBlk w b4 [.slice p0_0 l0_0 c0_0, .string a0_1, .bool a0_2, .string a0_3] 25 w4 →
  ∃ (p20 : Option Addr) (l20 c20 : Nat), w4.cell? ⟨b4, 0, none⟩ = some (.slice p20 l20 c20) ∧ Br (((l20 : Int)) == 0)
  (R (.returned (.tuple #[.int .i64 a1, .int .i64 a1, .int .i64 0])) w4)
  (∃ (p26 : Option Addr) (l26 c26 : Nat), w4.cell? ⟨b4, 0, none⟩ = some (.slice p26 l26 c26) ∧ ∃ (p28 : Option Addr) (l28 c28 : Nat), w4.cell? ⟨b4, 0, none⟩ = some (.slice p28 l28 c28) ∧ ((0 : Int) ≤ (if 2 < (l28 : Int) then 2 else (l28 : Int)) ∧ (if 2 < (l28 : Int) then 2 else (l28 : Int)) ≤ (c26 : Int)) ∧ ∃ I6 : Option Addr → Nat → Nat → Int → Int → Nat → World → Prop, (∃ nl6, I6 none 0 0 0 0 nl6 w4) ∧ ∀ (p11 : Option Addr) (l11 c11 : Nat), ∀ x12 : Int, ∀ x33 : Int, ∀ (nl6 : Nat) (wl6 : World), I6 p11 l11 c11 x12 x33 nl6 wl6 →
  Br (decide (x33 < (((((if 2 < (l28 : Int) then 2 else (l28 : Int)).toNat) - 0 : Nat) : Int))))
  (((0 : Int) ≤ x33 ∧ x33 < ((((if 2 < (l28 : Int) then 2 else (l28 : Int)).toNat) - 0 : Nat) : Int)) ∧ ∃ b35 o35, subp p26 0 c26 4 = some ⟨b35, o35, none⟩ ∧ ∃ n36 : Int, wl6.cell? ⟨b35, o35 + (x33).toNat * 4, none⟩ = some (.int .u8 n36) ∧ ∃ n36_1 : Int, wl6.cell? ⟨b35, o35 + (x33).toNat * 4 + 1, none⟩ = some (.int .i64 n36_1) ∧ ∃ n36_2 : Int, wl6.cell? ⟨b35, o35 + (x33).toNat * 4 + 2, none⟩ = some (.int .i64 n36_2) ∧ ∃ n36_3 : Int, wl6.cell? ⟨b35, o35 + (x33).toNat * 4 + 3, none⟩ = some (.int .u8 n36_3) ∧ ∀ b14 w14, NewBlk wl6 b14 [.int .u8 0, .int .i64 0, .int .i64 0, .int .u8 0] 55 w14 →
  CanStore w14 b14 0 ∧ ∀ ws, Stored w14 b14 0 (.int .u8 n36) ws →
  CanStore ws b14 1 ∧ ∀ ws_1, Stored ws b14 1 (.int .i64 n36_1) ws_1 →
  CanStore ws_1 b14 2 ∧ ∀ ws_2, Stored ws_1 b14 2 (.int .i64 n36_2) ws_2 →
  CanStore ws_2 b14 3 ∧ ∀ ws_3, Stored ws_2 b14 3 (.int .u8 n36_3) ws_3 →
  ∃ n38 : Int, ws_3.cell? ⟨b14, 0, none⟩ = some (.int .u8 n38) ∧ ∃ n38_1 : Int, ws_3.cell? ⟨b14, 1, none⟩ = some (.int .i64 n38_1) ∧ ∃ n38_2 : Int, ws_3.cell? ⟨b14, 2, none⟩ = some (.int .i64 n38_2) ∧ ∃ n38_3 : Int, ws_3.cell? ⟨b14, 3, none⟩ = some (.int .u8 n38_3) ∧ Does Try.prog 32 #[.agg #[.int .u8 n38, .int .i64 n38_1, .int .i64 n38_2, .int .u8 n38_3], .int .i64 a1, .int .i64 a2, .slice p3 l3 c3] ws_3 fun e42 w42 =>
  ∃ n42 : Int, ∃ n42_1 : Int, e42 = .returned (.tuple #[.int .i64 n42, .int .i64 n42_1]) ∧ Br (n42_1 != 0)
  (Br (x12 != 9)
  (∀ b54 w54, NewBlk w42 b54 [.int .i64 n42] 3 w54 →
  ∃ (p55 : Option Addr) (l55 c55 : Nat) (w55 : World), (Builtin.append_ #[73, 73] 73 #[.slice p11 l11 c11, .slice (some ⟨b54, 0, none⟩) 1 1]).run Try.prog w54 = .ok (.slice p55 l55 c55) w55 ∧
  InK .i64 (x33 + 1) ∧ ∃ ml6, ml6 < nl6 ∧ I6 p55 l55 c55 n42_1 (x33 + 1) ml6 w55)
  (∀ b54_1 w54_1, NewBlk w42 b54_1 [.int .i64 n42] 3 w54_1 →
  ∃ (p55_1 : Option Addr) (l55_1 c55_1 : Nat) (w55_1 : World), (Builtin.append_ #[73, 73] 73 #[.slice p11 l11 c11, .slice (some ⟨b54_1, 0, none⟩) 1 1]).run Try.prog w54_1 = .ok (.slice p55_1 l55_1 c55_1) w55_1 ∧
  InK .i64 (x33 + 1) ∧ ∃ ml6, ml6 < nl6 ∧ I6 p55_1 l55_1 c55_1 x12 (x33 + 1) ml6 w55_1))
  (∀ b54_2 w54_2, NewBlk w42 b54_2 [.int .i64 n42] 3 w54_2 →
  ∃ (p55_2 : Option Addr) (l55_2 c55_2 : Nat) (w55_2 : World), (Builtin.append_ #[73, 73] 73 #[.slice p11 l11 c11, .slice (some ⟨b54_2, 0, none⟩) 1 1]).run Try.prog w54_2 = .ok (.slice p55_2 l55_2 c55_2) w55_2 ∧
  InK .i64 (x33 + 1) ∧ ∃ ml6, ml6 < nl6 ∧ I6 p55_2 l55_2 c55_2 x12 (x33 + 1) ml6 w55_2))
  (∀ wd13, Drew wl6 wd13 →
  ((0 : Int) ≤ 0 ∧ 0 < (l11 : Int)) ∧ ∃ b58 o58, p11 = some ⟨b58, o58, none⟩ ∧ ∃ n59 : Int, wd13.cell? ⟨b58, o58 + (0 : Int).toNat, none⟩ = some (.int .i64 n59) ∧ InK .i64 (((l11 : Int)) - 1) ∧ ((0 : Int) ≤ (((l11 : Int)) - 1) ∧ (((l11 : Int)) - 1) < (l11 : Int)) ∧ ∃ b64 o64, p11 = some ⟨b64, o64, none⟩ ∧ ∃ n65 : Int, wd13.cell? ⟨b64, o64 + (((l11 : Int)) - 1).toNat, none⟩ = some (.int .i64 n65) ∧ Br (x12 != 0)
  (R (.returned (.tuple #[.int .i64 0, .int .i64 0, .int .i64 x12])) wd13)
  (Br (decide (n65 < n59))
  (R (.returned (.tuple #[.int .i64 0, .int .i64 0, .int .i64 1])) wd13)
  (R (.returned (.tuple #[.int .i64 n59, .int .i64 n65, .int .i64 0])) wd13))))
def f17_ann : Ann := { loops := [(6, [(11, .slice), (12, .int .i64), (33, .int .i64)])], cuts := [], flip := [], throws := [] }
theorem f17_eq (p0_0 : Option Addr) (l0_0 c0_0 : Nat) (a0_1 : ByteArray) (a0_2 : Bool) (a0_3 : ByteArray) (a1 : Int) (a2 : Int) (p3 : Option Addr) (l3 c3 : Nat) (w : World) (R : Ending → World → Prop) : vc Try.prog f17_ann (bodyOf Try.f17) (retQ Try.prog Try.f17 R) (envOf Try.f17.ntmps [.v (.agg #[.slice p0_0 l0_0 c0_0, .string a0_1, .bool a0_2, .string a0_3]), .v (.int .i64 a1), .v (.int .i64 a2), .v (.slice p3 l3 c3)]) [] w = f17_vc p0_0 l0_0 c0_0 a0_1 a0_2 a0_3 a1 a2 p3 l3 c3 w R := by kernel_rfl
theorem f17_does (p0_0 : Option Addr) (l0_0 c0_0 : Nat) (a0_1 : ByteArray) (a0_2 : Bool) (a0_3 : ByteArray) (a1 : Int) (a2 : Int) (p3 : Option Addr) (l3 c3 : Nat) {w : World} {R : Ending → World → Prop} (h : f17_vc p0_0 l0_0 c0_0 a0_1 a0_2 a0_3 a1 a2 p3 l3 c3 w R) : Does Try.prog 17 #[.agg #[.slice p0_0 l0_0 c0_0, .string a0_1, .bool a0_2, .string a0_3], .int .i64 a1, .int .i64 a2, .slice p3 l3 c3] w R :=
  does_of_vc (ss := [.v (.agg #[.slice p0_0 l0_0 c0_0, .string a0_1, .bool a0_2, .string a0_3]), .v (.int .i64 a1), .v (.int .i64 a2), .v (.slice p3 l3 c3)]) f17_ann mixed call17 Try.func17 rfl rfl (show 4 ≤ Try.f17.ntmps by decide) ((f17_eq p0_0 l0_0 c0_0 a0_1 a0_2 a0_3 a1 a2 p3 l3 c3 w R).symm ▸ h)
/-- Of escritoire/escritoirelaw25.typed (function 18): the condition. -/
def f18_vc (p0_0 : Option Addr) (l0_0 c0_0 : Nat) (a0_1 : ByteArray) (a0_2 : Bool) (a0_3 : ByteArray) (w : World) (R : Ending → World → Prop) : Prop :=
  ∀ b1 w1, NewBlk w b1 [.slice p0_0 l0_0 c0_0, .string a0_1, .bool a0_2, .string a0_3] 31 w1 →
  ∀ b2 w2, NewBlk w1 b2 [.slice none 0 0, .string (({ data := #[] } : ByteArray)), .bool false, .string (({ data := #[] } : ByteArray))] 25 w2 →
  ∃ s7 : ByteArray, w2.cell? ⟨b1, 1, none⟩ = some (.string s7) ∧ ∃ b9 : Bool, w2.cell? ⟨b1, 2, none⟩ = some (.bool b9) ∧ ∃ s11 : ByteArray, w2.cell? ⟨b1, 3, none⟩ = some (.string s11) ∧ ∀ b3 w3, NewBlk w2 b3 [.slice none 0 0, .string (({ data := #[] } : ByteArray)), .bool false, .string (({ data := #[] } : ByteArray))] 25 w3 →
  CanStore w3 b3 0 ∧ ∀ ws, Stored w3 b3 0 (.slice none 0 0) ws →
  CanStore ws b3 1 ∧ ∀ ws_1, Stored ws b3 1 (.string s7) ws_1 →
  CanStore ws_1 b3 2 ∧ ∀ ws_2, Stored ws_1 b3 2 (.bool b9) ws_2 →
  CanStore ws_2 b3 3 ∧ ∀ ws_3, Stored ws_2 b3 3 (.string s11) ws_3 →
  ∃ I3 : Int → Nat → World → Prop, (∃ nl3, I3 0 nl3 ws_3) ∧ ∀ x4 : Int, ∀ (nl3 : Nat) (wl3 : World), I3 x4 nl3 wl3 →
  ∃ (p15 : Option Addr) (l15 c15 : Nat), wl3.cell? ⟨b1, 0, none⟩ = some (.slice p15 l15 c15) ∧ Br (decide (x4 < ((l15 : Int))))
  (∃ (p21 : Option Addr) (l21 c21 : Nat), wl3.cell? ⟨b1, 0, none⟩ = some (.slice p21 l21 c21) ∧ ((0 : Int) ≤ x4 ∧ x4 < (l21 : Int)) ∧ ∃ b23 o23, p21 = some ⟨b23, o23, none⟩ ∧ ∃ n24 : Int, wl3.cell? ⟨b23, o23 + (x4).toNat * 4, none⟩ = some (.int .u8 n24) ∧ ∃ n24_1 : Int, wl3.cell? ⟨b23, o23 + (x4).toNat * 4 + 1, none⟩ = some (.int .i64 n24_1) ∧ ∃ n24_2 : Int, wl3.cell? ⟨b23, o23 + (x4).toNat * 4 + 2, none⟩ = some (.int .i64 n24_2) ∧ ∃ n24_3 : Int, wl3.cell? ⟨b23, o23 + (x4).toNat * 4 + 3, none⟩ = some (.int .u8 n24_3) ∧ ∀ b5 w5, NewBlk wl3 b5 [.int .u8 0, .int .i64 0, .int .i64 0, .int .u8 0] 64 w5 →
  CanStore w5 b5 0 ∧ ∀ ws_4, Stored w5 b5 0 (.int .u8 n24) ws_4 →
  CanStore ws_4 b5 1 ∧ ∀ ws_5, Stored ws_4 b5 1 (.int .i64 n24_1) ws_5 →
  CanStore ws_5 b5 2 ∧ ∀ ws_6, Stored ws_5 b5 2 (.int .i64 n24_2) ws_6 →
  CanStore ws_6 b5 3 ∧ ∀ ws_7, Stored ws_6 b5 3 (.int .u8 n24_3) ws_7 →
  ∃ (p26 : Option Addr) (l26 c26 : Nat), ws_7.cell? ⟨b3, 0, none⟩ = some (.slice p26 l26 c26) ∧ ∃ n28 : Int, ws_7.cell? ⟨b5, 0, none⟩ = some (.int .u8 n28) ∧ ∃ n30 : Int, ws_7.cell? ⟨b5, 1, none⟩ = some (.int .i64 n30) ∧ ∃ n32 : Int, ws_7.cell? ⟨b5, 2, none⟩ = some (.int .i64 n32) ∧ ∃ n34 : Int, ws_7.cell? ⟨b5, 3, none⟩ = some (.int .u8 n34) ∧ ∀ b36 w36, NewBlk ws_7 b36 [.int .u8 n28, .int .i64 n30, .int .i64 n32, .int .u8 n34] 55 w36 →
  ∃ (p37 : Option Addr) (l37 c37 : Nat) (w37 : World), (Builtin.append_ #[23, 23] 23 #[.slice p26 l26 c26, .slice (some ⟨b36, 0, none⟩) 1 1]).run Try.prog w36 = .ok (.slice p37 l37 c37) w37 ∧
  CanStore w37 b3 0 ∧ ∀ ws_8, Stored w37 b3 0 (.slice p37 l37 c37) ws_8 →
  InK .i64 (x4 + 1) ∧ ∃ ml3, ml3 < nl3 ∧ I3 (x4 + 1) ml3 ws_8)
  (∃ (p39 : Option Addr) (l39 c39 : Nat), wl3.cell? ⟨b3, 0, none⟩ = some (.slice p39 l39 c39) ∧ ∃ s39 : ByteArray, wl3.cell? ⟨b3, 1, none⟩ = some (.string s39) ∧ ∃ b39 : Bool, wl3.cell? ⟨b3, 2, none⟩ = some (.bool b39) ∧ ∃ s39_1 : ByteArray, wl3.cell? ⟨b3, 3, none⟩ = some (.string s39_1) ∧ CanStore wl3 b2 0 ∧ ∀ ws_9, Stored wl3 b2 0 (.slice p39 l39 c39) ws_9 →
  CanStore ws_9 b2 1 ∧ ∀ ws_10, Stored ws_9 b2 1 (.string s39) ws_10 →
  CanStore ws_10 b2 2 ∧ ∀ ws_11, Stored ws_10 b2 2 (.bool b39) ws_11 →
  CanStore ws_11 b2 3 ∧ ∀ ws_12, Stored ws_11 b2 3 (.string s39_1) ws_12 →
  ∃ (p2 : Option Addr) (l2 c2 : Nat), ws_12.cell? ⟨b2, 0, none⟩ = some (.slice p2 l2 c2) ∧ ∃ s2 : ByteArray, ws_12.cell? ⟨b2, 1, none⟩ = some (.string s2) ∧ ∃ b2_1 : Bool, ws_12.cell? ⟨b2, 2, none⟩ = some (.bool b2_1) ∧ ∃ s2_1 : ByteArray, ws_12.cell? ⟨b2, 3, none⟩ = some (.string s2_1) ∧ R (.returned (.agg #[.slice p2 l2 c2, .string s2, .bool b2_1, .string s2_1])) ws_12)
def f18_ann : Ann := { loops := [(3, [(4, .int .i64)])], cuts := [], flip := [], throws := [] }
theorem f18_eq (p0_0 : Option Addr) (l0_0 c0_0 : Nat) (a0_1 : ByteArray) (a0_2 : Bool) (a0_3 : ByteArray) (w : World) (R : Ending → World → Prop) : vc Try.prog f18_ann (bodyOf Try.f18) (retQ Try.prog Try.f18 R) (envOf Try.f18.ntmps [.v (.agg #[.slice p0_0 l0_0 c0_0, .string a0_1, .bool a0_2, .string a0_3])]) [] w = f18_vc p0_0 l0_0 c0_0 a0_1 a0_2 a0_3 w R := by kernel_rfl
theorem f18_does (p0_0 : Option Addr) (l0_0 c0_0 : Nat) (a0_1 : ByteArray) (a0_2 : Bool) (a0_3 : ByteArray) {w : World} {R : Ending → World → Prop} (h : f18_vc p0_0 l0_0 c0_0 a0_1 a0_2 a0_3 w R) : Does Try.prog 18 #[.agg #[.slice p0_0 l0_0 c0_0, .string a0_1, .bool a0_2, .string a0_3]] w R :=
  does_of_vc (ss := [.v (.agg #[.slice p0_0 l0_0 c0_0, .string a0_1, .bool a0_2, .string a0_3])]) f18_ann mixed call18 Try.func18 rfl rfl (show 1 ≤ Try.f18.ntmps by decide) ((f18_eq p0_0 l0_0 c0_0 a0_1 a0_2 a0_3 w R).symm ▸ h)
/-- Of escritoire/escritoireref24.Resolve (function 19): the condition. -/
def f19_vc (p0_0 : Option Addr) (l0_0 c0_0 : Nat) (a0_1 : ByteArray) (a0_2 : Bool) (a0_3 : ByteArray) (a1 : Int) (a2 : Int) (p3 : Option Addr) (l3 c3 : Nat) (w : World) (R : Ending → World → Prop) : Prop :=
  ∀ b4 w4, NewBlk w b4 [.slice p0_0 l0_0 c0_0, .string a0_1, .bool a0_2, .string a0_3] 31 w4 →
  ∀ b20 w20, NewBlk w4 b20 [.int .i64 a1, .int .i64 a1] 3 w20 →
  ∃ J8 : Nat → World → Prop, (∃ I3 : Int → Nat → World → Prop, (∃ nl3, I3 0 nl3 w20) ∧ ∀ x12 : Int, ∀ (nl3 : Nat) (wl3 : World), I3 x12 nl3 wl3 →
  ∃ (p23 : Option Addr) (l23 c23 : Nat), wl3.cell? ⟨b4, 0, none⟩ = some (.slice p23 l23 c23) ∧ Br (decide (x12 < ((l23 : Int))))
  (Br (decide (x12 < 2))
  (∃ (p34 : Option Addr) (l34 c34 : Nat), wl3.cell? ⟨b4, 0, none⟩ = some (.slice p34 l34 c34) ∧ ((0 : Int) ≤ x12 ∧ x12 < (l34 : Int)) ∧ ∃ b36 o36, p34 = some ⟨b36, o36, none⟩ ∧ ∃ n37 : Int, wl3.cell? ⟨b36, o36 + (x12).toNat * 4, none⟩ = some (.int .u8 n37) ∧ ∃ n37_1 : Int, wl3.cell? ⟨b36, o36 + (x12).toNat * 4 + 1, none⟩ = some (.int .i64 n37_1) ∧ ∃ n37_2 : Int, wl3.cell? ⟨b36, o36 + (x12).toNat * 4 + 2, none⟩ = some (.int .i64 n37_2) ∧ ∃ n37_3 : Int, wl3.cell? ⟨b36, o36 + (x12).toNat * 4 + 3, none⟩ = some (.int .u8 n37_3) ∧ Does Try.prog 33 #[.agg #[.int .u8 n37, .int .i64 n37_1, .int .i64 n37_2, .int .u8 n37_3], .int .i64 a1, .int .i64 a2, .slice p3 l3 c3] wl3 fun e41 w41 =>
  ∃ n41 : Int, ∃ n41_1 : Int, e41 = .returned (.tuple #[.int .i64 n41, .int .i64 n41_1]) ∧ Br (n41_1 == 9)
  (R (.returned (.tuple #[.int .i64 0, .int .i64 0, .int .i64 n41_1])) w41)
  (InK .i64 (x12 + 1) ∧ ∃ ml3, ml3 < nl3 ∧ I3 (x12 + 1) ml3 w41))
  (∃ nc8, J8  nc8 wl3))
  (∃ nc8, J8  nc8 wl3)) ∧ ∀ (nc8 : Nat) (wc8 : World), J8  nc8 wc8 →
  ∃ J17 : Nat → World → Prop, (∃ I9 : Int → Nat → World → Prop, (∃ nl9, I9 0 nl9 wc8) ∧ ∀ x15 : Int, ∀ (nl9 : Nat) (wl9 : World), I9 x15 nl9 wl9 →
  ∃ (p49 : Option Addr) (l49 c49 : Nat), wl9.cell? ⟨b4, 0, none⟩ = some (.slice p49 l49 c49) ∧ Br (decide (x15 < ((l49 : Int))))
  (Br (decide (x15 < 2))
  (∃ (p60 : Option Addr) (l60 c60 : Nat), wl9.cell? ⟨b4, 0, none⟩ = some (.slice p60 l60 c60) ∧ ((0 : Int) ≤ x15 ∧ x15 < (l60 : Int)) ∧ ∃ b62 o62, p60 = some ⟨b62, o62, none⟩ ∧ ∃ n63 : Int, wl9.cell? ⟨b62, o62 + (x15).toNat * 4, none⟩ = some (.int .u8 n63) ∧ ∃ n63_1 : Int, wl9.cell? ⟨b62, o62 + (x15).toNat * 4 + 1, none⟩ = some (.int .i64 n63_1) ∧ ∃ n63_2 : Int, wl9.cell? ⟨b62, o62 + (x15).toNat * 4 + 2, none⟩ = some (.int .i64 n63_2) ∧ ∃ n63_3 : Int, wl9.cell? ⟨b62, o62 + (x15).toNat * 4 + 3, none⟩ = some (.int .u8 n63_3) ∧ Does Try.prog 33 #[.agg #[.int .u8 n63, .int .i64 n63_1, .int .i64 n63_2, .int .u8 n63_3], .int .i64 a1, .int .i64 a2, .slice p3 l3 c3] wl9 fun e67 w67 =>
  ∃ n67 : Int, ∃ n67_1 : Int, e67 = .returned (.tuple #[.int .i64 n67, .int .i64 n67_1]) ∧ Br (n67_1 != 0)
  (R (.returned (.tuple #[.int .i64 0, .int .i64 0, .int .i64 1])) w67)
  (Br (decide (n67 < 1))
  (R (.returned (.tuple #[.int .i64 0, .int .i64 0, .int .i64 1])) w67)
  (Br (decide (n67 > a2))
  (R (.returned (.tuple #[.int .i64 0, .int .i64 0, .int .i64 1])) w67)
  (((0 : Int) ≤ x15 ∧ x15 < (2 : Int)) ∧ ∃ b84 o84, (some ⟨b20, 0, none⟩ : Option Addr) = some ⟨b84, o84, none⟩ ∧ CanStore w67 b84 (o84 + (x15).toNat) ∧ ∀ ws, Stored w67 b84 (o84 + (x15).toNat) (.int .i64 n67) ws →
  Br (x15 == 0)
  (((0 : Int) ≤ 1 ∧ 1 < (2 : Int)) ∧ ∃ b89 o89, (some ⟨b20, 0, none⟩ : Option Addr) = some ⟨b89, o89, none⟩ ∧ CanStore ws b89 (o89 + (1 : Int).toNat) ∧ ∀ ws_1, Stored ws b89 (o89 + (1 : Int).toNat) (.int .i64 n67) ws_1 →
  InK .i64 (x15 + 1) ∧ ∃ ml9, ml9 < nl9 ∧ I9 (x15 + 1) ml9 ws_1)
  (InK .i64 (x15 + 1) ∧ ∃ ml9, ml9 < nl9 ∧ I9 (x15 + 1) ml9 ws)))))
  (∃ nc17, J17  nc17 wl9))
  (∃ nc17, J17  nc17 wl9)) ∧ ∀ (nc17 : Nat) (wc17 : World), J17  nc17 wc17 →
  ∀ wd17, Drew wc17 wd17 →
  ((0 : Int) ≤ 1 ∧ 1 < (2 : Int)) ∧ ∃ b91 o91, (some ⟨b20, 0, none⟩ : Option Addr) = some ⟨b91, o91, none⟩ ∧ ∃ n92 : Int, wd17.cell? ⟨b91, o91 + (1 : Int).toNat, none⟩ = some (.int .i64 n92) ∧ ((0 : Int) ≤ 0 ∧ 0 < (2 : Int)) ∧ ∃ b94 o94, (some ⟨b20, 0, none⟩ : Option Addr) = some ⟨b94, o94, none⟩ ∧ ∃ n95 : Int, wd17.cell? ⟨b94, o94 + (0 : Int).toNat, none⟩ = some (.int .i64 n95) ∧ Br (decide (n92 < n95))
  (R (.returned (.tuple #[.int .i64 0, .int .i64 0, .int .i64 1])) wd17)
  (∀ wd19, Drew wd17 wd19 →
  ((0 : Int) ≤ 0 ∧ 0 < (2 : Int)) ∧ ∃ b98 o98, (some ⟨b20, 0, none⟩ : Option Addr) = some ⟨b98, o98, none⟩ ∧ ∃ n99 : Int, wd19.cell? ⟨b98, o98 + (0 : Int).toNat, none⟩ = some (.int .i64 n99) ∧ ((0 : Int) ≤ 1 ∧ 1 < (2 : Int)) ∧ ∃ b101 o101, (some ⟨b20, 0, none⟩ : Option Addr) = some ⟨b101, o101, none⟩ ∧ ∃ n102 : Int, wd19.cell? ⟨b101, o101 + (1 : Int).toNat, none⟩ = some (.int .i64 n102) ∧ R (.returned (.tuple #[.int .i64 n99, .int .i64 n102, .int .i64 0])) wd19)
def f19_ann : Ann := { loops := [(3, [(12, .int .i64)]), (9, [(15, .int .i64)])], cuts := [(8, []), (17, [])], flip := [], throws := [] }
theorem f19_eq (p0_0 : Option Addr) (l0_0 c0_0 : Nat) (a0_1 : ByteArray) (a0_2 : Bool) (a0_3 : ByteArray) (a1 : Int) (a2 : Int) (p3 : Option Addr) (l3 c3 : Nat) (w : World) (R : Ending → World → Prop) : vc Try.prog f19_ann (bodyOf Try.f19) (retQ Try.prog Try.f19 R) (envOf Try.f19.ntmps [.v (.agg #[.slice p0_0 l0_0 c0_0, .string a0_1, .bool a0_2, .string a0_3]), .v (.int .i64 a1), .v (.int .i64 a2), .v (.slice p3 l3 c3)]) [] w = f19_vc p0_0 l0_0 c0_0 a0_1 a0_2 a0_3 a1 a2 p3 l3 c3 w R := by kernel_rfl
theorem f19_does (p0_0 : Option Addr) (l0_0 c0_0 : Nat) (a0_1 : ByteArray) (a0_2 : Bool) (a0_3 : ByteArray) (a1 : Int) (a2 : Int) (p3 : Option Addr) (l3 c3 : Nat) {w : World} {R : Ending → World → Prop} (h : f19_vc p0_0 l0_0 c0_0 a0_1 a0_2 a0_3 a1 a2 p3 l3 c3 w R) : Does Try.prog 19 #[.agg #[.slice p0_0 l0_0 c0_0, .string a0_1, .bool a0_2, .string a0_3], .int .i64 a1, .int .i64 a2, .slice p3 l3 c3] w R :=
  does_of_vc (ss := [.v (.agg #[.slice p0_0 l0_0 c0_0, .string a0_1, .bool a0_2, .string a0_3]), .v (.int .i64 a1), .v (.int .i64 a2), .v (.slice p3 l3 c3)]) f19_ann mixed call19 Try.func19 rfl rfl (show 4 ≤ Try.f19.ntmps by decide) ((f19_eq p0_0 l0_0 c0_0 a0_1 a0_2 a0_3 a1 a2 p3 l3 c3 w R).symm ▸ h)
/-- Of escritoire/escritoirelaw25.digits (function 20): the condition. -/
def f20_vc (a0 : Int) (w : World) (R : Ending → World → Prop) : Prop :=
  Br (decide (a0 < 10))
  (InK .i64 (48 + a0) ∧ ∀ b8 w8, NewBlk w b8 [.int .u8 (IntKind.wrap .u8 (48 + a0))] 5 w8 →
  ∃ s9 : ByteArray, ∃ w9, (convert 78 9 (.slice (some ⟨b8, 0, none⟩) 1 1)).run Try.prog w8 = .ok (.string s9) w9 ∧ R (.returned (.string s9)) w9)
  (∀ wd3, Drew w wd3 →
  ∃ S3 : World → Prop, S3 wd3 ∧ (10 : Int) ≠ 0 ∧ InK .i64 (a0.tdiv 10) ∧ (10 : Int) ≠ 0 ∧ InK .i64 (48 + (a0.tmod 10)) ∧ (Does Try.prog 20 #[.int .i64 (a0.tdiv 10)] wd3 fun e12 w12 =>
  ∃ s12 : ByteArray, e12 = .returned (.string s12) ∧ S3 w12 ∧ ∀ b17 w17, NewBlk w12 b17 [.int .u8 (IntKind.wrap .u8 (48 + (a0.tmod 10)))] 5 w17 →
  S3 w17 ∧ ∃ s18 : ByteArray, ∃ w18, (convert 78 9 (.slice (some ⟨b17, 0, none⟩) 1 1)).run Try.prog w17 = .ok (.string s18) w18 ∧ S3 w18 ∧ ((s12.size + s18.size : Nat) : Int) ≤ 9223372036854775807 ∧ R (.returned (.string (s12 ++ s18))) w18) ∧
  (∀ b17_1 w17_1, NewBlk wd3 b17_1 [.int .u8 (IntKind.wrap .u8 (48 + (a0.tmod 10)))] 5 w17_1 →
  S3 w17_1 ∧ (Does Try.prog 20 #[.int .i64 (a0.tdiv 10)] w17_1 fun e12_1 w12_1 =>
  ∃ s12_1 : ByteArray, e12_1 = .returned (.string s12_1) ∧ S3 w12_1 ∧ ∃ s18_1 : ByteArray, ∃ w18_1, (convert 78 9 (.slice (some ⟨b17_1, 0, none⟩) 1 1)).run Try.prog w12_1 = .ok (.string s18_1) w18_1 ∧ S3 w18_1 ∧ ((s12_1.size + s18_1.size : Nat) : Int) ≤ 9223372036854775807 ∧ R (.returned (.string (s12_1 ++ s18_1))) w18_1) ∧
  (∃ s18_2 : ByteArray, ∃ w18_2, (convert 78 9 (.slice (some ⟨b17_1, 0, none⟩) 1 1)).run Try.prog w17_1 = .ok (.string s18_2) w18_2 ∧ S3 w18_2 ∧ Does Try.prog 20 #[.int .i64 (a0.tdiv 10)] w18_2 fun e12_2 w12_2 =>
  ∃ s12_2 : ByteArray, e12_2 = .returned (.string s12_2) ∧ S3 w12_2 ∧ ((s12_2.size + s18_2.size : Nat) : Int) ≤ 9223372036854775807 ∧ R (.returned (.string (s12_2 ++ s18_2))) w12_2)))
def f20_ann : Ann := { loops := [], cuts := [], flip := [], throws := [] }
theorem f20_eq (a0 : Int) (w : World) (R : Ending → World → Prop) : vc Try.prog f20_ann (bodyOf Try.f20) (retQ Try.prog Try.f20 R) (envOf Try.f20.ntmps [.v (.int .i64 a0)]) [] w = f20_vc a0 w R := by kernel_rfl
theorem f20_does (a0 : Int) {w : World} {R : Ending → World → Prop} (h : f20_vc a0 w R) : Does Try.prog 20 #[.int .i64 a0] w R :=
  does_of_vc (ss := [.v (.int .i64 a0)]) f20_ann mixed call20 Try.func20 rfl rfl (show 1 ≤ Try.f20.ntmps by decide) ((f20_eq a0 w R).symm ▸ h)
/-- Of (*escritoire/line.reader).all (function 22): the condition. -/
def f22_vc (a0 : Option Addr) (w : World) (R : Ending → World → Prop) : Prop :=
  Does Try.prog 34 #[.pointer a0] w fun e3 w3 =>
  e3 = .returned (.tuple #[]) ∧ Does Try.prog 35 #[.pointer a0] w3 fun e5 w5 =>
  (e5 = .returned (.tuple #[]) ∧ Does Try.prog 34 #[.pointer a0] w5 fun e7 w7 =>
  e7 = .returned (.tuple #[]) ∧ Does Try.prog 36 #[.pointer a0] w7 fun e9 w9 =>
  e9 = .returned (.tuple #[]) ∧ ∃ b11 o11, a0 = some ⟨b11, o11, none⟩ ∧ ∃ s14 : ByteArray, w9.cell? ⟨b11, o11 + 2, none⟩ = some (.string s14) ∧ Br (s14.toList == (({ data := #[] } : ByteArray)).toList)
  (∃ b17 o17, a0 = some ⟨b17, o17, none⟩ ∧ ∃ s19 : ByteArray, w9.cell? ⟨b17, o17, none⟩ = some (.string s19) ∧ Does Try.prog 28 #[.bool (s19.toList == (({ data := #[] } : ByteArray)).toList)] w9 fun e21 w21 =>
  (e21 = .returned (.tuple #[]) ∧ R (.returned (.tuple #[])) w21) ∨ (∃ ch21, e21 = .panicked ch21 ∧ R (.panicked ch21) w21))
  (Does Try.prog 29 #[.pointer a0, .int .u8 33] w9 fun e24 w24 =>
  ∃ b24 : Bool, e24 = .returned (.bool b24) ∧ ∃ b25 o25, a0 = some ⟨b25, o25, none⟩ ∧ CanStore w24 b25 (o25 + 3) ∧ ∀ ws, Stored w24 b25 (o25 + 3) (.bool b24) ws →
  Does Try.prog 34 #[.pointer a0] ws fun e29 w29 =>
  e29 = .returned (.tuple #[]) ∧ ∃ b32 o32, a0 = some ⟨b32, o32, none⟩ ∧ ∃ s34 : ByteArray, w29.cell? ⟨b32, o32, none⟩ = some (.string s34) ∧ ∃ b35 o35, a0 = some ⟨b35, o35, none⟩ ∧ CanStore w29 b35 (o35 + 4) ∧ ∀ ws_1, Stored w29 b35 (o35 + 4) (.string s34) ws_1 →
  R (.returned (.tuple #[])) ws_1)) ∨ (∃ ch5, e5 = .panicked ch5 ∧ R (.panicked ch5) w5)
def f22_ann : Ann := { loops := [], cuts := [], flip := [], throws := [28, 35] }
theorem f22_eq (a0 : Option Addr) (w : World) (R : Ending → World → Prop) : vc Try.prog f22_ann (bodyOf Try.f22) (retQ Try.prog Try.f22 R) (envOf Try.f22.ntmps [.v (.pointer a0)]) [] w = f22_vc a0 w R := by kernel_rfl
theorem f22_does (a0 : Option Addr) {w : World} {R : Ending → World → Prop} (h : f22_vc a0 w R) : Does Try.prog 22 #[.pointer a0] w R :=
  does_of_vc (ss := [.v (.pointer a0)]) f22_ann mixed call22 Try.func22 rfl rfl (show 1 ≤ Try.f22.ntmps by decide) ((f22_eq a0 w R).symm ▸ h)
/-- Of escritoire/escritoireref24.blanks (function 23): the condition. -/
def f23_vc (a0 : ByteArray) (a1 : Int) (w : World) (R : Ending → World → Prop) : Prop :=
  ∃ I1 : Int → Nat → World → Prop, (∃ nl1, I1 a1 nl1 w) ∧ ∀ x1 : Int, ∀ (nl1 : Nat) (wl1 : World), I1 x1 nl1 wl1 →
  Br (decide (x1 < ((a0.size : Int))))
  (((0 : Int) ≤ x1 ∧ x1 < (a0.size : Int)) ∧ Br ((sb a0 x1) == 32)
  (InK .i64 (x1 + 1) ∧ ∃ ml1, ml1 < nl1 ∧ I1 (x1 + 1) ml1 wl1)
  (R (.returned (.int .i64 x1)) wl1))
  (R (.returned (.int .i64 x1)) wl1)
def f23_ann : Ann := { loops := [(1, [(1, .int .i64)])], cuts := [], flip := [], throws := [] }
theorem f23_eq (a0 : ByteArray) (a1 : Int) (w : World) (R : Ending → World → Prop) : vc Try.prog f23_ann (bodyOf Try.f23) (retQ Try.prog Try.f23 R) (envOf Try.f23.ntmps [.v (.string a0), .v (.int .i64 a1)]) [] w = f23_vc a0 a1 w R := by kernel_rfl
theorem f23_does (a0 : ByteArray) (a1 : Int) {w : World} {R : Ending → World → Prop} (h : f23_vc a0 a1 w R) : Does Try.prog 23 #[.string a0, .int .i64 a1] w R :=
  does_of_vc (ss := [.v (.string a0), .v (.int .i64 a1)]) f23_ann mixed call23 Try.func23 rfl rfl (show 2 ≤ Try.f23.ntmps by decide) ((f23_eq a0 a1 w R).symm ▸ h)
/-- Of escritoire/escritoireref24.address (function 24): the condition. -/
def f24_vc (a0 : ByteArray) (a1 : Int) (w : World) (R : Ending → World → Prop) : Prop :=
  ∀ b4 w4, NewBlk w b4 [.int .u8 0, .int .i64 0, .int .i64 0, .int .u8 0] 64 w4 →
  ∀ b7 w7, NewBlk w4 b7 [.int .u8 0, .int .i64 0, .int .i64 0, .int .u8 0] 64 w7 →
  CanStore w7 b7 0 ∧ ∀ ws, Stored w7 b7 0 (.int .u8 0) ws →
  CanStore ws b7 1 ∧ ∀ ws_1, Stored ws b7 1 (.int .i64 0) ws_1 →
  CanStore ws_1 b7 2 ∧ ∀ ws_2, Stored ws_1 b7 2 (.int .i64 0) ws_2 →
  CanStore ws_2 b7 3 ∧ ∀ ws_3, Stored ws_2 b7 3 (.int .u8 0) ws_3 →
  Br (decide (a1 ≥ ((a0.size : Int))))
  (∃ n19 : Int, ws_3.cell? ⟨b7, 0, none⟩ = some (.int .u8 n19) ∧ ∃ n19_1 : Int, ws_3.cell? ⟨b7, 1, none⟩ = some (.int .i64 n19_1) ∧ ∃ n19_2 : Int, ws_3.cell? ⟨b7, 2, none⟩ = some (.int .i64 n19_2) ∧ ∃ n19_3 : Int, ws_3.cell? ⟨b7, 3, none⟩ = some (.int .u8 n19_3) ∧ CanStore ws_3 b4 0 ∧ ∀ ws_4, Stored ws_3 b4 0 (.int .u8 n19) ws_4 →
  CanStore ws_4 b4 1 ∧ ∀ ws_5, Stored ws_4 b4 1 (.int .i64 n19_1) ws_5 →
  CanStore ws_5 b4 2 ∧ ∀ ws_6, Stored ws_5 b4 2 (.int .i64 n19_2) ws_6 →
  CanStore ws_6 b4 3 ∧ ∀ ws_7, Stored ws_6 b4 3 (.int .u8 n19_3) ws_7 →
  ∃ n4 : Int, ws_7.cell? ⟨b4, 0, none⟩ = some (.int .u8 n4) ∧ ∃ n4_1 : Int, ws_7.cell? ⟨b4, 1, none⟩ = some (.int .i64 n4_1) ∧ ∃ n4_2 : Int, ws_7.cell? ⟨b4, 2, none⟩ = some (.int .i64 n4_2) ∧ ∃ n4_3 : Int, ws_7.cell? ⟨b4, 3, none⟩ = some (.int .u8 n4_3) ∧ R (.returned (.tuple #[.agg #[.int .u8 n4, .int .i64 n4_1, .int .i64 n4_2, .int .u8 n4_3], .int .i64 a1, .int .i64 0])) ws_7)
  (∃ J19 : Int → Nat → World → Prop, (((0 : Int) ≤ a1 ∧ a1 < (a0.size : Int)) ∧ Br (decide ((sb a0 a1) ≥ 48))
  (((0 : Int) ≤ a1 ∧ a1 < (a0.size : Int)) ∧ Br (decide ((sb a0 a1) ≤ 57))
  (Does Try.prog 37 #[.string a0, .int .i64 a1] ws_3 fun e37 w37 =>
  ∃ n37 : Int, ∃ n37_1 : Int, ∃ b37 : Bool, e37 = .returned (.tuple #[.int .i64 n37, .int .i64 n37_1, .bool b37]) ∧ Br (!b37)
  (∃ n43 : Int, w37.cell? ⟨b7, 0, none⟩ = some (.int .u8 n43) ∧ ∃ n43_1 : Int, w37.cell? ⟨b7, 1, none⟩ = some (.int .i64 n43_1) ∧ ∃ n43_2 : Int, w37.cell? ⟨b7, 2, none⟩ = some (.int .i64 n43_2) ∧ ∃ n43_3 : Int, w37.cell? ⟨b7, 3, none⟩ = some (.int .u8 n43_3) ∧ CanStore w37 b4 0 ∧ ∀ ws_8, Stored w37 b4 0 (.int .u8 n43) ws_8 →
  CanStore ws_8 b4 1 ∧ ∀ ws_9, Stored ws_8 b4 1 (.int .i64 n43_1) ws_9 →
  CanStore ws_9 b4 2 ∧ ∀ ws_10, Stored ws_9 b4 2 (.int .i64 n43_2) ws_10 →
  CanStore ws_10 b4 3 ∧ ∀ ws_11, Stored ws_10 b4 3 (.int .u8 n43_3) ws_11 →
  ∃ n4_4 : Int, ws_11.cell? ⟨b4, 0, none⟩ = some (.int .u8 n4_4) ∧ ∃ n4_5 : Int, ws_11.cell? ⟨b4, 1, none⟩ = some (.int .i64 n4_5) ∧ ∃ n4_6 : Int, ws_11.cell? ⟨b4, 2, none⟩ = some (.int .i64 n4_6) ∧ ∃ n4_7 : Int, ws_11.cell? ⟨b4, 3, none⟩ = some (.int .u8 n4_7) ∧ R (.returned (.tuple #[.agg #[.int .u8 n4_4, .int .i64 n4_5, .int .i64 n4_6, .int .u8 n4_7], .int .i64 a1, .int .i64 2])) ws_11)
  (CanStore w37 b7 0 ∧ ∀ ws_12, Stored w37 b7 0 (.int .u8 110) ws_12 →
  CanStore ws_12 b7 1 ∧ ∀ ws_13, Stored ws_12 b7 1 (.int .i64 n37) ws_13 →
  CanStore ws_13 b7 2 ∧ ∀ ws_14, Stored ws_13 b7 2 (.int .i64 0) ws_14 →
  CanStore ws_14 b7 3 ∧ ∀ ws_15, Stored ws_14 b7 3 (.int .u8 0) ws_15 →
  ∃ nc19, J19 n37_1 nc19 ws_15))
  (((0 : Int) ≤ a1 ∧ a1 < (a0.size : Int)) ∧ Br ((sb a0 a1) == 46)
  (((0 : Int) ≤ a1 ∧ a1 < (a0.size : Int)) ∧ CanStore ws_3 b7 0 ∧ ∀ ws_16, Stored ws_3 b7 0 (.int .u8 (sb a0 a1)) ws_16 →
  InK .i64 (a1 + 1) ∧ ∃ nc19, J19 (a1 + 1) nc19 ws_16)
  (((0 : Int) ≤ a1 ∧ a1 < (a0.size : Int)) ∧ Br ((sb a0 a1) == 36)
  (((0 : Int) ≤ a1 ∧ a1 < (a0.size : Int)) ∧ CanStore ws_3 b7 0 ∧ ∀ ws_17, Stored ws_3 b7 0 (.int .u8 (sb a0 a1)) ws_17 →
  InK .i64 (a1 + 1) ∧ ∃ nc19, J19 (a1 + 1) nc19 ws_17)
  (((0 : Int) ≤ a1 ∧ a1 < (a0.size : Int)) ∧ Br ((sb a0 a1) == 39)
  (InK .i64 (a1 + 1) ∧ Br (decide ((a1 + 1) ≥ ((a0.size : Int))))
  (∃ n83 : Int, ws_3.cell? ⟨b7, 0, none⟩ = some (.int .u8 n83) ∧ ∃ n83_1 : Int, ws_3.cell? ⟨b7, 1, none⟩ = some (.int .i64 n83_1) ∧ ∃ n83_2 : Int, ws_3.cell? ⟨b7, 2, none⟩ = some (.int .i64 n83_2) ∧ ∃ n83_3 : Int, ws_3.cell? ⟨b7, 3, none⟩ = some (.int .u8 n83_3) ∧ CanStore ws_3 b4 0 ∧ ∀ ws_18, Stored ws_3 b4 0 (.int .u8 n83) ws_18 →
  CanStore ws_18 b4 1 ∧ ∀ ws_19, Stored ws_18 b4 1 (.int .i64 n83_1) ws_19 →
  CanStore ws_19 b4 2 ∧ ∀ ws_20, Stored ws_19 b4 2 (.int .i64 n83_2) ws_20 →
  CanStore ws_20 b4 3 ∧ ∀ ws_21, Stored ws_20 b4 3 (.int .u8 n83_3) ws_21 →
  ∃ n4_8 : Int, ws_21.cell? ⟨b4, 0, none⟩ = some (.int .u8 n4_8) ∧ ∃ n4_9 : Int, ws_21.cell? ⟨b4, 1, none⟩ = some (.int .i64 n4_9) ∧ ∃ n4_10 : Int, ws_21.cell? ⟨b4, 2, none⟩ = some (.int .i64 n4_10) ∧ ∃ n4_11 : Int, ws_21.cell? ⟨b4, 3, none⟩ = some (.int .u8 n4_11) ∧ R (.returned (.tuple #[.agg #[.int .u8 n4_8, .int .i64 n4_9, .int .i64 n4_10, .int .u8 n4_11], .int .i64 a1, .int .i64 2])) ws_21)
  (InK .i64 (a1 + 1) ∧ ((0 : Int) ≤ (a1 + 1) ∧ (a1 + 1) < (a0.size : Int)) ∧ Does Try.prog 26 #[.int .u8 (sb a0 (a1 + 1))] ws_3 fun e80 w80 =>
  ∃ b80 : Bool, e80 = .returned (.bool b80) ∧ Br (!b80)
  (∃ n83_4 : Int, w80.cell? ⟨b7, 0, none⟩ = some (.int .u8 n83_4) ∧ ∃ n83_5 : Int, w80.cell? ⟨b7, 1, none⟩ = some (.int .i64 n83_5) ∧ ∃ n83_6 : Int, w80.cell? ⟨b7, 2, none⟩ = some (.int .i64 n83_6) ∧ ∃ n83_7 : Int, w80.cell? ⟨b7, 3, none⟩ = some (.int .u8 n83_7) ∧ CanStore w80 b4 0 ∧ ∀ ws_22, Stored w80 b4 0 (.int .u8 n83_4) ws_22 →
  CanStore ws_22 b4 1 ∧ ∀ ws_23, Stored ws_22 b4 1 (.int .i64 n83_5) ws_23 →
  CanStore ws_23 b4 2 ∧ ∀ ws_24, Stored ws_23 b4 2 (.int .i64 n83_6) ws_24 →
  CanStore ws_24 b4 3 ∧ ∀ ws_25, Stored ws_24 b4 3 (.int .u8 n83_7) ws_25 →
  ∃ n4_12 : Int, ws_25.cell? ⟨b4, 0, none⟩ = some (.int .u8 n4_12) ∧ ∃ n4_13 : Int, ws_25.cell? ⟨b4, 1, none⟩ = some (.int .i64 n4_13) ∧ ∃ n4_14 : Int, ws_25.cell? ⟨b4, 2, none⟩ = some (.int .i64 n4_14) ∧ ∃ n4_15 : Int, ws_25.cell? ⟨b4, 3, none⟩ = some (.int .u8 n4_15) ∧ R (.returned (.tuple #[.agg #[.int .u8 n4_12, .int .i64 n4_13, .int .i64 n4_14, .int .u8 n4_15], .int .i64 a1, .int .i64 2])) ws_25)
  (InK .i64 (a1 + 1) ∧ ((0 : Int) ≤ (a1 + 1) ∧ (a1 + 1) < (a0.size : Int)) ∧ CanStore w80 b7 0 ∧ ∀ ws_26, Stored w80 b7 0 (.int .u8 109) ws_26 →
  CanStore ws_26 b7 1 ∧ ∀ ws_27, Stored ws_26 b7 1 (.int .i64 0) ws_27 →
  CanStore ws_27 b7 2 ∧ ∀ ws_28, Stored ws_27 b7 2 (.int .i64 0) ws_28 →
  CanStore ws_28 b7 3 ∧ ∀ ws_29, Stored ws_28 b7 3 (.int .u8 (sb a0 (a1 + 1))) ws_29 →
  InK .i64 (a1 + 2) ∧ ∃ nc19, J19 (a1 + 2) nc19 ws_29)))
  (∃ n21 : Int, ws_3.cell? ⟨b7, 0, none⟩ = some (.int .u8 n21) ∧ ∃ n21_1 : Int, ws_3.cell? ⟨b7, 1, none⟩ = some (.int .i64 n21_1) ∧ ∃ n21_2 : Int, ws_3.cell? ⟨b7, 2, none⟩ = some (.int .i64 n21_2) ∧ ∃ n21_3 : Int, ws_3.cell? ⟨b7, 3, none⟩ = some (.int .u8 n21_3) ∧ CanStore ws_3 b4 0 ∧ ∀ ws_30, Stored ws_3 b4 0 (.int .u8 n21) ws_30 →
  CanStore ws_30 b4 1 ∧ ∀ ws_31, Stored ws_30 b4 1 (.int .i64 n21_1) ws_31 →
  CanStore ws_31 b4 2 ∧ ∀ ws_32, Stored ws_31 b4 2 (.int .i64 n21_2) ws_32 →
  CanStore ws_32 b4 3 ∧ ∀ ws_33, Stored ws_32 b4 3 (.int .u8 n21_3) ws_33 →
  ∃ n4_16 : Int, ws_33.cell? ⟨b4, 0, none⟩ = some (.int .u8 n4_16) ∧ ∃ n4_17 : Int, ws_33.cell? ⟨b4, 1, none⟩ = some (.int .i64 n4_17) ∧ ∃ n4_18 : Int, ws_33.cell? ⟨b4, 2, none⟩ = some (.int .i64 n4_18) ∧ ∃ n4_19 : Int, ws_33.cell? ⟨b4, 3, none⟩ = some (.int .u8 n4_19) ∧ R (.returned (.tuple #[.agg #[.int .u8 n4_16, .int .i64 n4_17, .int .i64 n4_18, .int .u8 n4_19], .int .i64 a1, .int .i64 0])) ws_33)))))
  (((0 : Int) ≤ a1 ∧ a1 < (a0.size : Int)) ∧ Br ((sb a0 a1) == 46)
  (((0 : Int) ≤ a1 ∧ a1 < (a0.size : Int)) ∧ CanStore ws_3 b7 0 ∧ ∀ ws_34, Stored ws_3 b7 0 (.int .u8 (sb a0 a1)) ws_34 →
  InK .i64 (a1 + 1) ∧ ∃ nc19, J19 (a1 + 1) nc19 ws_34)
  (((0 : Int) ≤ a1 ∧ a1 < (a0.size : Int)) ∧ Br ((sb a0 a1) == 36)
  (((0 : Int) ≤ a1 ∧ a1 < (a0.size : Int)) ∧ CanStore ws_3 b7 0 ∧ ∀ ws_35, Stored ws_3 b7 0 (.int .u8 (sb a0 a1)) ws_35 →
  InK .i64 (a1 + 1) ∧ ∃ nc19, J19 (a1 + 1) nc19 ws_35)
  (((0 : Int) ≤ a1 ∧ a1 < (a0.size : Int)) ∧ Br ((sb a0 a1) == 39)
  (InK .i64 (a1 + 1) ∧ Br (decide ((a1 + 1) ≥ ((a0.size : Int))))
  (∃ n83_8 : Int, ws_3.cell? ⟨b7, 0, none⟩ = some (.int .u8 n83_8) ∧ ∃ n83_9 : Int, ws_3.cell? ⟨b7, 1, none⟩ = some (.int .i64 n83_9) ∧ ∃ n83_10 : Int, ws_3.cell? ⟨b7, 2, none⟩ = some (.int .i64 n83_10) ∧ ∃ n83_11 : Int, ws_3.cell? ⟨b7, 3, none⟩ = some (.int .u8 n83_11) ∧ CanStore ws_3 b4 0 ∧ ∀ ws_36, Stored ws_3 b4 0 (.int .u8 n83_8) ws_36 →
  CanStore ws_36 b4 1 ∧ ∀ ws_37, Stored ws_36 b4 1 (.int .i64 n83_9) ws_37 →
  CanStore ws_37 b4 2 ∧ ∀ ws_38, Stored ws_37 b4 2 (.int .i64 n83_10) ws_38 →
  CanStore ws_38 b4 3 ∧ ∀ ws_39, Stored ws_38 b4 3 (.int .u8 n83_11) ws_39 →
  ∃ n4_20 : Int, ws_39.cell? ⟨b4, 0, none⟩ = some (.int .u8 n4_20) ∧ ∃ n4_21 : Int, ws_39.cell? ⟨b4, 1, none⟩ = some (.int .i64 n4_21) ∧ ∃ n4_22 : Int, ws_39.cell? ⟨b4, 2, none⟩ = some (.int .i64 n4_22) ∧ ∃ n4_23 : Int, ws_39.cell? ⟨b4, 3, none⟩ = some (.int .u8 n4_23) ∧ R (.returned (.tuple #[.agg #[.int .u8 n4_20, .int .i64 n4_21, .int .i64 n4_22, .int .u8 n4_23], .int .i64 a1, .int .i64 2])) ws_39)
  (InK .i64 (a1 + 1) ∧ ((0 : Int) ≤ (a1 + 1) ∧ (a1 + 1) < (a0.size : Int)) ∧ Does Try.prog 26 #[.int .u8 (sb a0 (a1 + 1))] ws_3 fun e80_1 w80_1 =>
  ∃ b80_1 : Bool, e80_1 = .returned (.bool b80_1) ∧ Br (!b80_1)
  (∃ n83_12 : Int, w80_1.cell? ⟨b7, 0, none⟩ = some (.int .u8 n83_12) ∧ ∃ n83_13 : Int, w80_1.cell? ⟨b7, 1, none⟩ = some (.int .i64 n83_13) ∧ ∃ n83_14 : Int, w80_1.cell? ⟨b7, 2, none⟩ = some (.int .i64 n83_14) ∧ ∃ n83_15 : Int, w80_1.cell? ⟨b7, 3, none⟩ = some (.int .u8 n83_15) ∧ CanStore w80_1 b4 0 ∧ ∀ ws_40, Stored w80_1 b4 0 (.int .u8 n83_12) ws_40 →
  CanStore ws_40 b4 1 ∧ ∀ ws_41, Stored ws_40 b4 1 (.int .i64 n83_13) ws_41 →
  CanStore ws_41 b4 2 ∧ ∀ ws_42, Stored ws_41 b4 2 (.int .i64 n83_14) ws_42 →
  CanStore ws_42 b4 3 ∧ ∀ ws_43, Stored ws_42 b4 3 (.int .u8 n83_15) ws_43 →
  ∃ n4_24 : Int, ws_43.cell? ⟨b4, 0, none⟩ = some (.int .u8 n4_24) ∧ ∃ n4_25 : Int, ws_43.cell? ⟨b4, 1, none⟩ = some (.int .i64 n4_25) ∧ ∃ n4_26 : Int, ws_43.cell? ⟨b4, 2, none⟩ = some (.int .i64 n4_26) ∧ ∃ n4_27 : Int, ws_43.cell? ⟨b4, 3, none⟩ = some (.int .u8 n4_27) ∧ R (.returned (.tuple #[.agg #[.int .u8 n4_24, .int .i64 n4_25, .int .i64 n4_26, .int .u8 n4_27], .int .i64 a1, .int .i64 2])) ws_43)
  (InK .i64 (a1 + 1) ∧ ((0 : Int) ≤ (a1 + 1) ∧ (a1 + 1) < (a0.size : Int)) ∧ CanStore w80_1 b7 0 ∧ ∀ ws_44, Stored w80_1 b7 0 (.int .u8 109) ws_44 →
  CanStore ws_44 b7 1 ∧ ∀ ws_45, Stored ws_44 b7 1 (.int .i64 0) ws_45 →
  CanStore ws_45 b7 2 ∧ ∀ ws_46, Stored ws_45 b7 2 (.int .i64 0) ws_46 →
  CanStore ws_46 b7 3 ∧ ∀ ws_47, Stored ws_46 b7 3 (.int .u8 (sb a0 (a1 + 1))) ws_47 →
  InK .i64 (a1 + 2) ∧ ∃ nc19, J19 (a1 + 2) nc19 ws_47)))
  (∃ n21_4 : Int, ws_3.cell? ⟨b7, 0, none⟩ = some (.int .u8 n21_4) ∧ ∃ n21_5 : Int, ws_3.cell? ⟨b7, 1, none⟩ = some (.int .i64 n21_5) ∧ ∃ n21_6 : Int, ws_3.cell? ⟨b7, 2, none⟩ = some (.int .i64 n21_6) ∧ ∃ n21_7 : Int, ws_3.cell? ⟨b7, 3, none⟩ = some (.int .u8 n21_7) ∧ CanStore ws_3 b4 0 ∧ ∀ ws_48, Stored ws_3 b4 0 (.int .u8 n21_4) ws_48 →
  CanStore ws_48 b4 1 ∧ ∀ ws_49, Stored ws_48 b4 1 (.int .i64 n21_5) ws_49 →
  CanStore ws_49 b4 2 ∧ ∀ ws_50, Stored ws_49 b4 2 (.int .i64 n21_6) ws_50 →
  CanStore ws_50 b4 3 ∧ ∀ ws_51, Stored ws_50 b4 3 (.int .u8 n21_7) ws_51 →
  ∃ n4_28 : Int, ws_51.cell? ⟨b4, 0, none⟩ = some (.int .u8 n4_28) ∧ ∃ n4_29 : Int, ws_51.cell? ⟨b4, 1, none⟩ = some (.int .i64 n4_29) ∧ ∃ n4_30 : Int, ws_51.cell? ⟨b4, 2, none⟩ = some (.int .i64 n4_30) ∧ ∃ n4_31 : Int, ws_51.cell? ⟨b4, 3, none⟩ = some (.int .u8 n4_31) ∧ R (.returned (.tuple #[.agg #[.int .u8 n4_28, .int .i64 n4_29, .int .i64 n4_30, .int .u8 n4_31], .int .i64 a1, .int .i64 0])) ws_51))))) ∧ ∀ x1 : Int, ∀ (nc19 : Nat) (wc19 : World), J19 x1 nc19 wc19 →
  ∃ I19 : Int → Nat → World → Prop, (∃ nl19, I19 x1 nl19 wc19) ∧ ∀ x1_1 : Int, ∀ (nl19 : Nat) (wl19 : World), I19 x1_1 nl19 wl19 →
  Br (decide (x1_1 < ((a0.size : Int))))
  (((0 : Int) ≤ x1_1 ∧ x1_1 < (a0.size : Int)) ∧ Br ((sb a0 x1_1) == 43)
  (InK .i64 (x1_1 + 1) ∧ Does Try.prog 37 #[.string a0, .int .i64 (x1_1 + 1)] wl19 fun e112 w112 =>
  ∃ n112 : Int, ∃ n112_1 : Int, ∃ b112 : Bool, e112 = .returned (.tuple #[.int .i64 n112, .int .i64 n112_1, .bool b112]) ∧ Br (!b112)
  (∃ n118 : Int, w112.cell? ⟨b7, 0, none⟩ = some (.int .u8 n118) ∧ ∃ n118_1 : Int, w112.cell? ⟨b7, 1, none⟩ = some (.int .i64 n118_1) ∧ ∃ n118_2 : Int, w112.cell? ⟨b7, 2, none⟩ = some (.int .i64 n118_2) ∧ ∃ n118_3 : Int, w112.cell? ⟨b7, 3, none⟩ = some (.int .u8 n118_3) ∧ CanStore w112 b4 0 ∧ ∀ ws_52, Stored w112 b4 0 (.int .u8 n118) ws_52 →
  CanStore ws_52 b4 1 ∧ ∀ ws_53, Stored ws_52 b4 1 (.int .i64 n118_1) ws_53 →
  CanStore ws_53 b4 2 ∧ ∀ ws_54, Stored ws_53 b4 2 (.int .i64 n118_2) ws_54 →
  CanStore ws_54 b4 3 ∧ ∀ ws_55, Stored ws_54 b4 3 (.int .u8 n118_3) ws_55 →
  ∃ n4_32 : Int, ws_55.cell? ⟨b4, 0, none⟩ = some (.int .u8 n4_32) ∧ ∃ n4_33 : Int, ws_55.cell? ⟨b4, 1, none⟩ = some (.int .i64 n4_33) ∧ ∃ n4_34 : Int, ws_55.cell? ⟨b4, 2, none⟩ = some (.int .i64 n4_34) ∧ ∃ n4_35 : Int, ws_55.cell? ⟨b4, 3, none⟩ = some (.int .u8 n4_35) ∧ R (.returned (.tuple #[.agg #[.int .u8 n4_32, .int .i64 n4_33, .int .i64 n4_34, .int .u8 n4_35], .int .i64 x1_1, .int .i64 2])) ws_55)
  (InK .i64 (x1_1 + 1) ∧ Br (n112_1 == (x1_1 + 1))
  (((0 : Int) ≤ x1_1 ∧ x1_1 < (a0.size : Int)) ∧ Br ((sb a0 x1_1) == 45)
  (InK .i64 (0 - 1) ∧ ∃ n131 : Int, w112.cell? ⟨b7, 2, none⟩ = some (.int .i64 n131) ∧ InK .i64 (n131 + (0 - 1)) ∧ CanStore w112 b7 2 ∧ ∀ ws_56, Stored w112 b7 2 (.int .i64 (n131 + (0 - 1))) ws_56 →
  ∃ ml19, ml19 < nl19 ∧ I19 n112_1 ml19 ws_56)
  (∃ n131_1 : Int, w112.cell? ⟨b7, 2, none⟩ = some (.int .i64 n131_1) ∧ InK .i64 (n131_1 + 1) ∧ CanStore w112 b7 2 ∧ ∀ ws_57, Stored w112 b7 2 (.int .i64 (n131_1 + 1)) ws_57 →
  ∃ ml19, ml19 < nl19 ∧ I19 n112_1 ml19 ws_57))
  (((0 : Int) ≤ x1_1 ∧ x1_1 < (a0.size : Int)) ∧ Br ((sb a0 x1_1) == 45)
  (InK .i64 (0 - n112) ∧ ∃ n131_2 : Int, w112.cell? ⟨b7, 2, none⟩ = some (.int .i64 n131_2) ∧ InK .i64 (n131_2 + (0 - n112)) ∧ CanStore w112 b7 2 ∧ ∀ ws_58, Stored w112 b7 2 (.int .i64 (n131_2 + (0 - n112))) ws_58 →
  ∃ ml19, ml19 < nl19 ∧ I19 n112_1 ml19 ws_58)
  (∃ n131_3 : Int, w112.cell? ⟨b7, 2, none⟩ = some (.int .i64 n131_3) ∧ InK .i64 (n131_3 + n112) ∧ CanStore w112 b7 2 ∧ ∀ ws_59, Stored w112 b7 2 (.int .i64 (n131_3 + n112)) ws_59 →
  ∃ ml19, ml19 < nl19 ∧ I19 n112_1 ml19 ws_59))))
  (((0 : Int) ≤ x1_1 ∧ x1_1 < (a0.size : Int)) ∧ Br ((sb a0 x1_1) == 45)
  (InK .i64 (x1_1 + 1) ∧ Does Try.prog 37 #[.string a0, .int .i64 (x1_1 + 1)] wl19 fun e112_1 w112_1 =>
  ∃ n112_2 : Int, ∃ n112_3 : Int, ∃ b112_1 : Bool, e112_1 = .returned (.tuple #[.int .i64 n112_2, .int .i64 n112_3, .bool b112_1]) ∧ Br (!b112_1)
  (∃ n118_4 : Int, w112_1.cell? ⟨b7, 0, none⟩ = some (.int .u8 n118_4) ∧ ∃ n118_5 : Int, w112_1.cell? ⟨b7, 1, none⟩ = some (.int .i64 n118_5) ∧ ∃ n118_6 : Int, w112_1.cell? ⟨b7, 2, none⟩ = some (.int .i64 n118_6) ∧ ∃ n118_7 : Int, w112_1.cell? ⟨b7, 3, none⟩ = some (.int .u8 n118_7) ∧ CanStore w112_1 b4 0 ∧ ∀ ws_60, Stored w112_1 b4 0 (.int .u8 n118_4) ws_60 →
  CanStore ws_60 b4 1 ∧ ∀ ws_61, Stored ws_60 b4 1 (.int .i64 n118_5) ws_61 →
  CanStore ws_61 b4 2 ∧ ∀ ws_62, Stored ws_61 b4 2 (.int .i64 n118_6) ws_62 →
  CanStore ws_62 b4 3 ∧ ∀ ws_63, Stored ws_62 b4 3 (.int .u8 n118_7) ws_63 →
  ∃ n4_36 : Int, ws_63.cell? ⟨b4, 0, none⟩ = some (.int .u8 n4_36) ∧ ∃ n4_37 : Int, ws_63.cell? ⟨b4, 1, none⟩ = some (.int .i64 n4_37) ∧ ∃ n4_38 : Int, ws_63.cell? ⟨b4, 2, none⟩ = some (.int .i64 n4_38) ∧ ∃ n4_39 : Int, ws_63.cell? ⟨b4, 3, none⟩ = some (.int .u8 n4_39) ∧ R (.returned (.tuple #[.agg #[.int .u8 n4_36, .int .i64 n4_37, .int .i64 n4_38, .int .u8 n4_39], .int .i64 x1_1, .int .i64 2])) ws_63)
  (InK .i64 (x1_1 + 1) ∧ Br (n112_3 == (x1_1 + 1))
  (((0 : Int) ≤ x1_1 ∧ x1_1 < (a0.size : Int)) ∧ Br ((sb a0 x1_1) == 45)
  (InK .i64 (0 - 1) ∧ ∃ n131_4 : Int, w112_1.cell? ⟨b7, 2, none⟩ = some (.int .i64 n131_4) ∧ InK .i64 (n131_4 + (0 - 1)) ∧ CanStore w112_1 b7 2 ∧ ∀ ws_64, Stored w112_1 b7 2 (.int .i64 (n131_4 + (0 - 1))) ws_64 →
  ∃ ml19, ml19 < nl19 ∧ I19 n112_3 ml19 ws_64)
  (∃ n131_5 : Int, w112_1.cell? ⟨b7, 2, none⟩ = some (.int .i64 n131_5) ∧ InK .i64 (n131_5 + 1) ∧ CanStore w112_1 b7 2 ∧ ∀ ws_65, Stored w112_1 b7 2 (.int .i64 (n131_5 + 1)) ws_65 →
  ∃ ml19, ml19 < nl19 ∧ I19 n112_3 ml19 ws_65))
  (((0 : Int) ≤ x1_1 ∧ x1_1 < (a0.size : Int)) ∧ Br ((sb a0 x1_1) == 45)
  (InK .i64 (0 - n112_2) ∧ ∃ n131_6 : Int, w112_1.cell? ⟨b7, 2, none⟩ = some (.int .i64 n131_6) ∧ InK .i64 (n131_6 + (0 - n112_2)) ∧ CanStore w112_1 b7 2 ∧ ∀ ws_66, Stored w112_1 b7 2 (.int .i64 (n131_6 + (0 - n112_2))) ws_66 →
  ∃ ml19, ml19 < nl19 ∧ I19 n112_3 ml19 ws_66)
  (∃ n131_7 : Int, w112_1.cell? ⟨b7, 2, none⟩ = some (.int .i64 n131_7) ∧ InK .i64 (n131_7 + n112_2) ∧ CanStore w112_1 b7 2 ∧ ∀ ws_67, Stored w112_1 b7 2 (.int .i64 (n131_7 + n112_2)) ws_67 →
  ∃ ml19, ml19 < nl19 ∧ I19 n112_3 ml19 ws_67))))
  (∃ n136 : Int, wl19.cell? ⟨b7, 0, none⟩ = some (.int .u8 n136) ∧ ∃ n136_1 : Int, wl19.cell? ⟨b7, 1, none⟩ = some (.int .i64 n136_1) ∧ ∃ n136_2 : Int, wl19.cell? ⟨b7, 2, none⟩ = some (.int .i64 n136_2) ∧ ∃ n136_3 : Int, wl19.cell? ⟨b7, 3, none⟩ = some (.int .u8 n136_3) ∧ CanStore wl19 b4 0 ∧ ∀ ws_68, Stored wl19 b4 0 (.int .u8 n136) ws_68 →
  CanStore ws_68 b4 1 ∧ ∀ ws_69, Stored ws_68 b4 1 (.int .i64 n136_1) ws_69 →
  CanStore ws_69 b4 2 ∧ ∀ ws_70, Stored ws_69 b4 2 (.int .i64 n136_2) ws_70 →
  CanStore ws_70 b4 3 ∧ ∀ ws_71, Stored ws_70 b4 3 (.int .u8 n136_3) ws_71 →
  ∃ n4_40 : Int, ws_71.cell? ⟨b4, 0, none⟩ = some (.int .u8 n4_40) ∧ ∃ n4_41 : Int, ws_71.cell? ⟨b4, 1, none⟩ = some (.int .i64 n4_41) ∧ ∃ n4_42 : Int, ws_71.cell? ⟨b4, 2, none⟩ = some (.int .i64 n4_42) ∧ ∃ n4_43 : Int, ws_71.cell? ⟨b4, 3, none⟩ = some (.int .u8 n4_43) ∧ R (.returned (.tuple #[.agg #[.int .u8 n4_40, .int .i64 n4_41, .int .i64 n4_42, .int .u8 n4_43], .int .i64 x1_1, .int .i64 1])) ws_71)))
  (∃ n136_4 : Int, wl19.cell? ⟨b7, 0, none⟩ = some (.int .u8 n136_4) ∧ ∃ n136_5 : Int, wl19.cell? ⟨b7, 1, none⟩ = some (.int .i64 n136_5) ∧ ∃ n136_6 : Int, wl19.cell? ⟨b7, 2, none⟩ = some (.int .i64 n136_6) ∧ ∃ n136_7 : Int, wl19.cell? ⟨b7, 3, none⟩ = some (.int .u8 n136_7) ∧ CanStore wl19 b4 0 ∧ ∀ ws_72, Stored wl19 b4 0 (.int .u8 n136_4) ws_72 →
  CanStore ws_72 b4 1 ∧ ∀ ws_73, Stored ws_72 b4 1 (.int .i64 n136_5) ws_73 →
  CanStore ws_73 b4 2 ∧ ∀ ws_74, Stored ws_73 b4 2 (.int .i64 n136_6) ws_74 →
  CanStore ws_74 b4 3 ∧ ∀ ws_75, Stored ws_74 b4 3 (.int .u8 n136_7) ws_75 →
  ∃ n4_44 : Int, ws_75.cell? ⟨b4, 0, none⟩ = some (.int .u8 n4_44) ∧ ∃ n4_45 : Int, ws_75.cell? ⟨b4, 1, none⟩ = some (.int .i64 n4_45) ∧ ∃ n4_46 : Int, ws_75.cell? ⟨b4, 2, none⟩ = some (.int .i64 n4_46) ∧ ∃ n4_47 : Int, ws_75.cell? ⟨b4, 3, none⟩ = some (.int .u8 n4_47) ∧ R (.returned (.tuple #[.agg #[.int .u8 n4_44, .int .i64 n4_45, .int .i64 n4_46, .int .u8 n4_47], .int .i64 x1_1, .int .i64 1])) ws_75))
def f24_ann : Ann := { loops := [(19, [(1, .int .i64)])], cuts := [(19, [(1, .int .i64)])], flip := [], throws := [] }
theorem f24_eq (a0 : ByteArray) (a1 : Int) (w : World) (R : Ending → World → Prop) : vc Try.prog f24_ann (bodyOf Try.f24) (retQ Try.prog Try.f24 R) (envOf Try.f24.ntmps [.v (.string a0), .v (.int .i64 a1)]) [] w = f24_vc a0 a1 w R := by kernel_rfl
theorem f24_does (a0 : ByteArray) (a1 : Int) {w : World} {R : Ending → World → Prop} (h : f24_vc a0 a1 w R) : Does Try.prog 24 #[.string a0, .int .i64 a1] w R :=
  does_of_vc (ss := [.v (.string a0), .v (.int .i64 a1)]) f24_ann mixed call24 Try.func24 rfl rfl (show 2 ≤ Try.f24.ntmps by decide) ((f24_eq a0 a1 w R).symm ▸ h)
/-- Of escritoire/escritoireref24.has (function 25): the condition. -/
def f25_vc (a0 : ByteArray) (a1 : Int) (w : World) (R : Ending → World → Prop) : Prop :=
  ∃ I2 : Int → Nat → World → Prop, (∃ nl2, I2 0 nl2 w) ∧ ∀ x5 : Int, ∀ (nl2 : Nat) (wl2 : World), I2 x5 nl2 wl2 →
  Br (decide (x5 < ((a0.size : Int))))
  (((0 : Int) ≤ x5 ∧ x5 < (a0.size : Int)) ∧ Br ((sb a0 x5) == a1)
  (R (.returned (.bool true)) wl2)
  (InK .i64 (x5 + 1) ∧ ∃ ml2, ml2 < nl2 ∧ I2 (x5 + 1) ml2 wl2))
  (R (.returned (.bool false)) wl2)
def f25_ann : Ann := { loops := [(2, [(5, .int .i64)])], cuts := [], flip := [], throws := [] }
theorem f25_eq (a0 : ByteArray) (a1 : Int) (w : World) (R : Ending → World → Prop) : vc Try.prog f25_ann (bodyOf Try.f25) (retQ Try.prog Try.f25 R) (envOf Try.f25.ntmps [.v (.string a0), .v (.int .u8 a1)]) [] w = f25_vc a0 a1 w R := by kernel_rfl
theorem f25_does (a0 : ByteArray) (a1 : Int) {w : World} {R : Ending → World → Prop} (h : f25_vc a0 a1 w R) : Does Try.prog 25 #[.string a0, .int .u8 a1] w R :=
  does_of_vc (ss := [.v (.string a0), .v (.int .u8 a1)]) f25_ann mixed call25 Try.func25 rfl rfl (show 2 ≤ Try.f25.ntmps by decide) ((f25_eq a0 a1 w R).symm ▸ h)
/-- Of escritoire/escritoireref24.small (function 26): the condition. -/
def f26_vc (a0 : Int) (w : World) (R : Ending → World → Prop) : Prop :=
  Br (decide (a0 ≥ 97))
  (R (.returned (.bool (decide (a0 ≤ 122)))) w)
  (R (.returned (.bool false)) w)
def f26_ann : Ann := { loops := [], cuts := [], flip := [], throws := [] }
theorem f26_eq (a0 : Int) (w : World) (R : Ending → World → Prop) : vc Try.prog f26_ann (bodyOf Try.f26) (retQ Try.prog Try.f26 R) (envOf Try.f26.ntmps [.v (.int .u8 a0)]) [] w = f26_vc a0 w R := by kernel_rfl
theorem f26_does (a0 : Int) {w : World} {R : Ending → World → Prop} (h : f26_vc a0 w R) : Does Try.prog 26 #[.int .u8 a0] w R :=
  does_of_vc (ss := [.v (.int .u8 a0)]) f26_ann mixed call26 Try.func26 rfl rfl (show 1 ≤ Try.f26.ntmps by decide) ((f26_eq a0 w R).symm ▸ h)
/-- Of escritoire/line.must (function 28): the condition. -/
def f28_vc (a0 : Bool) (w : World) (R : Ending → World → Prop) : Prop :=
  Br (!a0)
  (R (.panicked [{ v := .iface 58 (.agg #[]), recovered := false }]) w)
  (R (.returned (.tuple #[])) w)
def f28_ann : Ann := { loops := [], cuts := [], flip := [], throws := [] }
theorem f28_eq (a0 : Bool) (w : World) (R : Ending → World → Prop) : vc Try.prog f28_ann (bodyOf Try.f28) (retQ Try.prog Try.f28 R) (envOf Try.f28.ntmps [.v (.bool a0)]) [] w = f28_vc a0 w R := by kernel_rfl
theorem f28_does (a0 : Bool) {w : World} {R : Ending → World → Prop} (h : f28_vc a0 w R) : Does Try.prog 28 #[.bool a0] w R :=
  does_of_vc (ss := [.v (.bool a0)]) f28_ann mixed call28 Try.func28 rfl rfl (show 1 ≤ Try.f28.ntmps by decide) ((f28_eq a0 w R).symm ▸ h)
/-- Of (*escritoire/line.reader).takes (function 29): the condition. -/
def f29_vc (a0 : Option Addr) (a1 : Int) (w : World) (R : Ending → World → Prop) : Prop :=
  ∃ b6 o6, a0 = some ⟨b6, o6, none⟩ ∧ ∃ s8 : ByteArray, w.cell? ⟨b6, o6, none⟩ = some (.string s8) ∧ Br (s8.toList == (({ data := #[] } : ByteArray)).toList)
  (R (.returned (.bool false)) w)
  (∃ b12 o12, a0 = some ⟨b12, o12, none⟩ ∧ ∃ s14 : ByteArray, w.cell? ⟨b12, o12, none⟩ = some (.string s14) ∧ ((0 : Int) ≤ 0 ∧ 0 < (s14.size : Int)) ∧ Br ((sb s14 0) != a1)
  (R (.returned (.bool false)) w)
  (∃ b21 o21, a0 = some ⟨b21, o21, none⟩ ∧ ∃ s23 : ByteArray, w.cell? ⟨b21, o21, none⟩ = some (.string s23) ∧ ((0 : Int) ≤ 1 ∧ 1 ≤ (s23.size : Int)) ∧ ∃ b25 o25, a0 = some ⟨b25, o25, none⟩ ∧ CanStore w b25 o25 ∧ ∀ ws, Stored w b25 o25 (.string (s23.extract ((1 : Int).toNat) s23.size)) ws →
  R (.returned (.bool true)) ws))
def f29_ann : Ann := { loops := [], cuts := [], flip := [], throws := [] }
theorem f29_eq (a0 : Option Addr) (a1 : Int) (w : World) (R : Ending → World → Prop) : vc Try.prog f29_ann (bodyOf Try.f29) (retQ Try.prog Try.f29 R) (envOf Try.f29.ntmps [.v (.pointer a0), .v (.int .u8 a1)]) [] w = f29_vc a0 a1 w R := by kernel_rfl
theorem f29_does (a0 : Option Addr) (a1 : Int) {w : World} {R : Ending → World → Prop} (h : f29_vc a0 a1 w R) : Does Try.prog 29 #[.pointer a0, .int .u8 a1] w R :=
  does_of_vc (ss := [.v (.pointer a0), .v (.int .u8 a1)]) f29_ann mixed call29 Try.func29 rfl rfl (show 2 ≤ Try.f29.ntmps by decide) ((f29_eq a0 a1 w R).symm ▸ h)
/-- Of (*escritoire/line.reader).part (function 30): the condition. -/
def f30_vc (a0 : Option Addr) (w : World) (R : Ending → World → Prop) : Prop :=
  ∃ I2 : Option Addr → Nat → Nat → Nat → World → Prop, (∃ nl2, I2 none 0 0 nl2 w) ∧ ∀ (p4 : Option Addr) (l4 c4 : Nat), ∀ (nl2 : Nat) (wl2 : World), I2 p4 l4 c4 nl2 wl2 →
  ∃ b7 o7, a0 = some ⟨b7, o7, none⟩ ∧ ∃ s9 : ByteArray, wl2.cell? ⟨b7, o7, none⟩ = some (.string s9) ∧ Br (!(s9.toList == (({ data := #[] } : ByteArray)).toList))
  (Does Try.prog 29 #[.pointer a0, .int .u8 47] wl2 fun e12 w12 =>
  ∃ b12 : Bool, e12 = .returned (.bool b12) ∧ Br b12
  (∃ s14 : ByteArray, ∃ w14, (convert 78 9 (.slice p4 l4 c4)).run Try.prog w12 = .ok (.string s14) w14 ∧ R (.returned (.tuple #[.string s14, .bool true])) w14)
  (∃ b16 o16, a0 = some ⟨b16, o16, none⟩ ∧ ∃ s18 : ByteArray, w12.cell? ⟨b16, o16, none⟩ = some (.string s18) ∧ ((0 : Int) ≤ 0 ∧ 0 < (s18.size : Int)) ∧ ∃ b22 o22, a0 = some ⟨b22, o22, none⟩ ∧ ∃ s24 : ByteArray, w12.cell? ⟨b22, o22, none⟩ = some (.string s24) ∧ ((0 : Int) ≤ 1 ∧ 1 ≤ (s24.size : Int)) ∧ ∃ b26 o26, a0 = some ⟨b26, o26, none⟩ ∧ CanStore w12 b26 o26 ∧ ∀ ws, Stored w12 b26 o26 (.string (s24.extract ((1 : Int).toNat) s24.size)) ws →
  ∃ J13 : Int → Nat → World → Prop, (Br ((sb s18 0) == 92)
  (∃ b31 o31, a0 = some ⟨b31, o31, none⟩ ∧ ∃ s33 : ByteArray, ws.cell? ⟨b31, o31, none⟩ = some (.string s33) ∧ Does Try.prog 28 #[.bool (!(s33.toList == (({ data := #[] } : ByteArray)).toList))] ws fun e35 w35 =>
  (e35 = .returned (.tuple #[]) ∧ ∃ b37 o37, a0 = some ⟨b37, o37, none⟩ ∧ ∃ s39 : ByteArray, w35.cell? ⟨b37, o37, none⟩ = some (.string s39) ∧ ((0 : Int) ≤ 0 ∧ 0 < (s39.size : Int)) ∧ ∃ b43 o43, a0 = some ⟨b43, o43, none⟩ ∧ ∃ s45 : ByteArray, w35.cell? ⟨b43, o43, none⟩ = some (.string s45) ∧ ((0 : Int) ≤ 1 ∧ 1 ≤ (s45.size : Int)) ∧ ∃ b47 o47, a0 = some ⟨b47, o47, none⟩ ∧ CanStore w35 b47 o47 ∧ ∀ ws_1, Stored w35 b47 o47 (.string (s45.extract ((1 : Int).toNat) s45.size)) ws_1 →
  Br ((sb s39 0) == 110)
  (∃ nc13, J13 10 nc13 ws_1)
  (∃ nc13, J13 (sb s39 0) nc13 ws_1)) ∨ (∃ ch35, e35 = .panicked ch35 ∧ R (.panicked ch35) w35))
  (∃ nc13, J13 (sb s18 0) nc13 ws)) ∧ ∀ x5 : Int, ∀ (nc13 : Nat) (wc13 : World), J13 x5 nc13 wc13 →
  ∀ b53 w53, NewBlk wc13 b53 [.int .u8 x5] 5 w53 →
  ∃ (p54 : Option Addr) (l54 c54 : Nat) (w54 : World), (Builtin.append_ #[78, 78] 78 #[.slice p4 l4 c4, .slice (some ⟨b53, 0, none⟩) 1 1]).run Try.prog w53 = .ok (.slice p54 l54 c54) w54 ∧
  ∃ ml2, ml2 < nl2 ∧ I2 p54 l54 c54 ml2 w54))
  (∃ s56 : ByteArray, ∃ w56, (convert 78 9 (.slice p4 l4 c4)).run Try.prog wl2 = .ok (.string s56) w56 ∧ R (.returned (.tuple #[.string s56, .bool false])) w56)
def f30_ann : Ann := { loops := [(2, [(4, .slice)])], cuts := [(13, [(5, .int .u8)])], flip := [], throws := [28] }
theorem f30_eq (a0 : Option Addr) (w : World) (R : Ending → World → Prop) : vc Try.prog f30_ann (bodyOf Try.f30) (retQ Try.prog Try.f30 R) (envOf Try.f30.ntmps [.v (.pointer a0)]) [] w = f30_vc a0 w R := by kernel_rfl
theorem f30_does (a0 : Option Addr) {w : World} {R : Ending → World → Prop} (h : f30_vc a0 w R) : Does Try.prog 30 #[.pointer a0] w R :=
  does_of_vc (ss := [.v (.pointer a0)]) f30_ann mixed call30 Try.func30 rfl rfl (show 1 ≤ Try.f30.ntmps by decide) ((f30_eq a0 w R).symm ▸ h)
/-- Of escritoire/escritoireref24.part (function 31): the condition. -/
def f31_vc (a0 : ByteArray) (a1 : Int) (w : World) (R : Ending → World → Prop) : Prop :=
  ∃ I2 : Int → Option Addr → Nat → Nat → Nat → World → Prop, (∃ nl2, I2 a1 none 0 0 nl2 w) ∧ ∀ x1 : Int, ∀ (p7 : Option Addr) (l7 c7 : Nat), ∀ (nl2 : Nat) (wl2 : World), I2 x1 p7 l7 c7 nl2 wl2 →
  Br (decide (x1 < ((a0.size : Int))))
  (((0 : Int) ≤ x1 ∧ x1 < (a0.size : Int)) ∧ Br ((sb a0 x1) != 47)
  (((0 : Int) ≤ x1 ∧ x1 < (a0.size : Int)) ∧ Br ((sb a0 x1) == 92)
  (InK .i64 (x1 + 1) ∧ Br (decide ((x1 + 1) ≥ ((a0.size : Int))))
  (R (.returned (.tuple #[.string (({ data := #[] } : ByteArray)), .int .i64 (x1 + 1), .bool false])) wl2)
  (((0 : Int) ≤ (x1 + 1) ∧ (x1 + 1) < (a0.size : Int)) ∧ Br ((sb a0 (x1 + 1)) == 110)
  (∀ b38 w38, NewBlk wl2 b38 [.int .u8 10] 5 w38 →
  ∃ (p39 : Option Addr) (l39 c39 : Nat) (w39 : World), (Builtin.append_ #[78, 78] 78 #[.slice p7 l7 c7, .slice (some ⟨b38, 0, none⟩) 1 1]).run Try.prog w38 = .ok (.slice p39 l39 c39) w39 ∧
  InK .i64 ((x1 + 1) + 1) ∧ ∃ ml2, ml2 < nl2 ∧ I2 ((x1 + 1) + 1) p39 l39 c39 ml2 w39)
  (∀ b38_1 w38_1, NewBlk wl2 b38_1 [.int .u8 (sb a0 (x1 + 1))] 5 w38_1 →
  ∃ (p39_1 : Option Addr) (l39_1 c39_1 : Nat) (w39_1 : World), (Builtin.append_ #[78, 78] 78 #[.slice p7 l7 c7, .slice (some ⟨b38_1, 0, none⟩) 1 1]).run Try.prog w38_1 = .ok (.slice p39_1 l39_1 c39_1) w39_1 ∧
  InK .i64 ((x1 + 1) + 1) ∧ ∃ ml2, ml2 < nl2 ∧ I2 ((x1 + 1) + 1) p39_1 l39_1 c39_1 ml2 w39_1)))
  (∀ b38_2 w38_2, NewBlk wl2 b38_2 [.int .u8 (sb a0 x1)] 5 w38_2 →
  ∃ (p39_2 : Option Addr) (l39_2 c39_2 : Nat) (w39_2 : World), (Builtin.append_ #[78, 78] 78 #[.slice p7 l7 c7, .slice (some ⟨b38_2, 0, none⟩) 1 1]).run Try.prog w38_2 = .ok (.slice p39_2 l39_2 c39_2) w39_2 ∧
  InK .i64 (x1 + 1) ∧ ∃ ml2, ml2 < nl2 ∧ I2 (x1 + 1) p39_2 l39_2 c39_2 ml2 w39_2))
  (∃ s43 : ByteArray, ∃ w43, (convert 78 9 (.slice p7 l7 c7)).run Try.prog wl2 = .ok (.string s43) w43 ∧ R (.returned (.tuple #[.string s43, .int .i64 x1, .bool true])) w43))
  (∃ s43_1 : ByteArray, ∃ w43_1, (convert 78 9 (.slice p7 l7 c7)).run Try.prog wl2 = .ok (.string s43_1) w43_1 ∧ R (.returned (.tuple #[.string s43_1, .int .i64 x1, .bool true])) w43_1)
def f31_ann : Ann := { loops := [(2, [(1, .int .i64), (7, .slice)])], cuts := [], flip := [], throws := [] }
theorem f31_eq (a0 : ByteArray) (a1 : Int) (w : World) (R : Ending → World → Prop) : vc Try.prog f31_ann (bodyOf Try.f31) (retQ Try.prog Try.f31 R) (envOf Try.f31.ntmps [.v (.string a0), .v (.int .i64 a1)]) [] w = f31_vc a0 a1 w R := by kernel_rfl
theorem f31_does (a0 : ByteArray) (a1 : Int) {w : World} {R : Ending → World → Prop} (h : f31_vc a0 a1 w R) : Does Try.prog 31 #[.string a0, .int .i64 a1] w R :=
  does_of_vc (ss := [.v (.string a0), .v (.int .i64 a1)]) f31_ann mixed call31 Try.func31 rfl rfl (show 2 ≤ Try.f31.ntmps by decide) ((f31_eq a0 a1 w R).symm ▸ h)
/-- Of (escritoire/line.Addr).number (function 32): the condition. -/
def f32_vc (a0_0 : Int) (a0_1 : Int) (a0_2 : Int) (a0_3 : Int) (a1 : Int) (a2 : Int) (p3 : Option Addr) (l3 c3 : Nat) (w : World) (R : Ending → World → Prop) : Prop :=
  ∀ b4 w4, NewBlk w b4 [.int .u8 a0_0, .int .i64 a0_1, .int .i64 a0_2, .int .u8 a0_3] 55 w4 →
  ∃ n14 : Int, w4.cell? ⟨b4, 0, none⟩ = some (.int .u8 n14) ∧ Br (n14 == 110)
  (∃ n18 : Int, w4.cell? ⟨b4, 1, none⟩ = some (.int .i64 n18) ∧ ∃ n39 : Int, w4.cell? ⟨b4, 2, none⟩ = some (.int .i64 n39) ∧ InK .i64 (n18 + n39) ∧ Br (decide ((n18 + n39) < 1))
  (R (.returned (.tuple #[.int .i64 0, .int .i64 1])) w4)
  (Br (decide ((n18 + n39) > a2))
  (R (.returned (.tuple #[.int .i64 0, .int .i64 1])) w4)
  (R (.returned (.tuple #[.int .i64 (n18 + n39), .int .i64 0])) w4)))
  (Br (n14 == 46)
  (∃ n39_1 : Int, w4.cell? ⟨b4, 2, none⟩ = some (.int .i64 n39_1) ∧ InK .i64 (a1 + n39_1) ∧ Br (decide ((a1 + n39_1) < 1))
  (R (.returned (.tuple #[.int .i64 0, .int .i64 1])) w4)
  (Br (decide ((a1 + n39_1) > a2))
  (R (.returned (.tuple #[.int .i64 0, .int .i64 1])) w4)
  (R (.returned (.tuple #[.int .i64 (a1 + n39_1), .int .i64 0])) w4)))
  (Br (n14 == 36)
  (∃ n39_2 : Int, w4.cell? ⟨b4, 2, none⟩ = some (.int .i64 n39_2) ∧ InK .i64 (a2 + n39_2) ∧ Br (decide ((a2 + n39_2) < 1))
  (R (.returned (.tuple #[.int .i64 0, .int .i64 1])) w4)
  (Br (decide ((a2 + n39_2) > a2))
  (R (.returned (.tuple #[.int .i64 0, .int .i64 1])) w4)
  (R (.returned (.tuple #[.int .i64 (a2 + n39_2), .int .i64 0])) w4)))
  (Br (n14 == 109)
  (∃ n30 : Int, w4.cell? ⟨b4, 3, none⟩ = some (.int .u8 n30) ∧ Does Try.prog 38 #[.slice p3 l3 c3, .int .u8 n30] w4 fun e31 w31 =>
  ∃ n31 : Int, ∃ b31 : Bool, e31 = .returned (.tuple #[.int .i64 n31, .bool b31]) ∧ Br (!b31)
  (R (.returned (.tuple #[.int .i64 0, .int .i64 9])) w31)
  (∃ n39_3 : Int, w31.cell? ⟨b4, 2, none⟩ = some (.int .i64 n39_3) ∧ InK .i64 (n31 + n39_3) ∧ Br (decide ((n31 + n39_3) < 1))
  (R (.returned (.tuple #[.int .i64 0, .int .i64 1])) w31)
  (Br (decide ((n31 + n39_3) > a2))
  (R (.returned (.tuple #[.int .i64 0, .int .i64 1])) w31)
  (R (.returned (.tuple #[.int .i64 (n31 + n39_3), .int .i64 0])) w31))))
  (R (.returned (.tuple #[.int .i64 0, .int .i64 1])) w4))))
def f32_ann : Ann := { loops := [], cuts := [], flip := [], throws := [] }
theorem f32_eq (a0_0 : Int) (a0_1 : Int) (a0_2 : Int) (a0_3 : Int) (a1 : Int) (a2 : Int) (p3 : Option Addr) (l3 c3 : Nat) (w : World) (R : Ending → World → Prop) : vc Try.prog f32_ann (bodyOf Try.f32) (retQ Try.prog Try.f32 R) (envOf Try.f32.ntmps [.v (.agg #[.int .u8 a0_0, .int .i64 a0_1, .int .i64 a0_2, .int .u8 a0_3]), .v (.int .i64 a1), .v (.int .i64 a2), .v (.slice p3 l3 c3)]) [] w = f32_vc a0_0 a0_1 a0_2 a0_3 a1 a2 p3 l3 c3 w R := by kernel_rfl
theorem f32_does (a0_0 : Int) (a0_1 : Int) (a0_2 : Int) (a0_3 : Int) (a1 : Int) (a2 : Int) (p3 : Option Addr) (l3 c3 : Nat) {w : World} {R : Ending → World → Prop} (h : f32_vc a0_0 a0_1 a0_2 a0_3 a1 a2 p3 l3 c3 w R) : Does Try.prog 32 #[.agg #[.int .u8 a0_0, .int .i64 a0_1, .int .i64 a0_2, .int .u8 a0_3], .int .i64 a1, .int .i64 a2, .slice p3 l3 c3] w R :=
  does_of_vc (ss := [.v (.agg #[.int .u8 a0_0, .int .i64 a0_1, .int .i64 a0_2, .int .u8 a0_3]), .v (.int .i64 a1), .v (.int .i64 a2), .v (.slice p3 l3 c3)]) f32_ann mixed call32 Try.func32 rfl rfl (show 4 ≤ Try.f32.ntmps by decide) ((f32_eq a0_0 a0_1 a0_2 a0_3 a1 a2 p3 l3 c3 w R).symm ▸ h)
/-- Of escritoire/escritoireref24.line (function 33): the condition. -/
def f33_vc (a0_0 : Int) (a0_1 : Int) (a0_2 : Int) (a0_3 : Int) (a1 : Int) (a2 : Int) (p3 : Option Addr) (l3 c3 : Nat) (w : World) (R : Ending → World → Prop) : Prop :=
  ∀ b4 w4, NewBlk w b4 [.int .u8 a0_0, .int .i64 a0_1, .int .i64 a0_2, .int .u8 a0_3] 64 w4 →
  ∃ n14 : Int, w4.cell? ⟨b4, 0, none⟩ = some (.int .u8 n14) ∧ Br (n14 == 110)
  (∃ n18 : Int, w4.cell? ⟨b4, 1, none⟩ = some (.int .i64 n18) ∧ ∃ n54 : Int, w4.cell? ⟨b4, 2, none⟩ = some (.int .i64 n54) ∧ InK .i64 (n18 + n54) ∧ R (.returned (.tuple #[.int .i64 (n18 + n54), .int .i64 0])) w4)
  (Br (n14 == 46)
  (∃ n54_1 : Int, w4.cell? ⟨b4, 2, none⟩ = some (.int .i64 n54_1) ∧ InK .i64 (a1 + n54_1) ∧ R (.returned (.tuple #[.int .i64 (a1 + n54_1), .int .i64 0])) w4)
  (Br (n14 == 36)
  (∃ n54_2 : Int, w4.cell? ⟨b4, 2, none⟩ = some (.int .i64 n54_2) ∧ InK .i64 (a2 + n54_2) ∧ R (.returned (.tuple #[.int .i64 (a2 + n54_2), .int .i64 0])) w4)
  (Br (n14 == 109)
  (∃ I13 : Int → Bool → Int → Nat → World → Prop, (∃ nl13, I13 0 false 0 nl13 w4) ∧ ∀ x10 : Int, ∀ b11 : Bool, ∀ x12 : Int, ∀ (nl13 : Nat) (wl13 : World), I13 x10 b11 x12 nl13 wl13 →
  Br (decide (x12 < ((l3 : Int))))
  (∀ wd15, Drew wl13 wd15 →
  ((0 : Int) ≤ x12 ∧ x12 < (l3 : Int)) ∧ ∃ b35 o35, p3 = some ⟨b35, o35, none⟩ ∧ ∃ n37 : Int, wd15.cell? ⟨b35, o35 + (x12).toNat * 2, none⟩ = some (.int .u8 n37) ∧ ∃ n39 : Int, wd15.cell? ⟨b4, 3, none⟩ = some (.int .u8 n39) ∧ Br (n37 == n39)
  (Br (!b11)
  (((0 : Int) ≤ x12 ∧ x12 < (l3 : Int)) ∧ ∃ b47 o47, p3 = some ⟨b47, o47, none⟩ ∧ ∃ n49 : Int, wd15.cell? ⟨b47, o47 + (x12).toNat * 2 + 1, none⟩ = some (.int .i64 n49) ∧ InK .i64 (x12 + 1) ∧ ∃ ml13, ml13 < nl13 ∧ I13 n49 true (x12 + 1) ml13 wd15)
  (InK .i64 (x12 + 1) ∧ ∃ ml13, ml13 < nl13 ∧ I13 x10 b11 (x12 + 1) ml13 wd15))
  (InK .i64 (x12 + 1) ∧ ∃ ml13, ml13 < nl13 ∧ I13 x10 b11 (x12 + 1) ml13 wd15))
  (Br (!b11)
  (R (.returned (.tuple #[.int .i64 0, .int .i64 9])) wl13)
  (∃ n54_3 : Int, wl13.cell? ⟨b4, 2, none⟩ = some (.int .i64 n54_3) ∧ InK .i64 (x10 + n54_3) ∧ R (.returned (.tuple #[.int .i64 (x10 + n54_3), .int .i64 0])) wl13)))
  (R (.returned (.tuple #[.int .i64 0, .int .i64 1])) w4))))
def f33_ann : Ann := { loops := [(13, [(10, .int .i64), (11, .bool), (12, .int .i64)])], cuts := [], flip := [], throws := [] }
theorem f33_eq (a0_0 : Int) (a0_1 : Int) (a0_2 : Int) (a0_3 : Int) (a1 : Int) (a2 : Int) (p3 : Option Addr) (l3 c3 : Nat) (w : World) (R : Ending → World → Prop) : vc Try.prog f33_ann (bodyOf Try.f33) (retQ Try.prog Try.f33 R) (envOf Try.f33.ntmps [.v (.agg #[.int .u8 a0_0, .int .i64 a0_1, .int .i64 a0_2, .int .u8 a0_3]), .v (.int .i64 a1), .v (.int .i64 a2), .v (.slice p3 l3 c3)]) [] w = f33_vc a0_0 a0_1 a0_2 a0_3 a1 a2 p3 l3 c3 w R := by kernel_rfl
theorem f33_does (a0_0 : Int) (a0_1 : Int) (a0_2 : Int) (a0_3 : Int) (a1 : Int) (a2 : Int) (p3 : Option Addr) (l3 c3 : Nat) {w : World} {R : Ending → World → Prop} (h : f33_vc a0_0 a0_1 a0_2 a0_3 a1 a2 p3 l3 c3 w R) : Does Try.prog 33 #[.agg #[.int .u8 a0_0, .int .i64 a0_1, .int .i64 a0_2, .int .u8 a0_3], .int .i64 a1, .int .i64 a2, .slice p3 l3 c3] w R :=
  does_of_vc (ss := [.v (.agg #[.int .u8 a0_0, .int .i64 a0_1, .int .i64 a0_2, .int .u8 a0_3]), .v (.int .i64 a1), .v (.int .i64 a2), .v (.slice p3 l3 c3)]) f33_ann mixed call33 Try.func33 rfl rfl (show 4 ≤ Try.f33.ntmps by decide) ((f33_eq a0_0 a0_1 a0_2 a0_3 a1 a2 p3 l3 c3 w R).symm ▸ h)
/-- Of (*escritoire/line.reader).blanks (function 34): the condition. -/
def f34_vc (a0 : Option Addr) (w : World) (R : Ending → World → Prop) : Prop :=
  ∃ b4 o4, a0 = some ⟨b4, o4, none⟩ ∧ ∃ s6 : ByteArray, w.cell? ⟨b4, o4, none⟩ = some (.string s6) ∧ Does Try.prog 39 #[.pointer a0, .int .i64 ((s6.size : Int)), .func (.func 40) #[] #[]] w fun e8 w8 =>
  ∃ s8 : ByteArray, e8 = .returned (.string s8) ∧ R (.returned (.tuple #[])) w8
def f34_ann : Ann := { loops := [], cuts := [], flip := [], throws := [] }
theorem f34_eq (a0 : Option Addr) (w : World) (R : Ending → World → Prop) : vc Try.prog f34_ann (bodyOf Try.f34) (retQ Try.prog Try.f34 R) (envOf Try.f34.ntmps [.v (.pointer a0)]) [] w = f34_vc a0 w R := by kernel_rfl
theorem f34_does (a0 : Option Addr) {w : World} {R : Ending → World → Prop} (h : f34_vc a0 w R) : Does Try.prog 34 #[.pointer a0] w R :=
  does_of_vc (ss := [.v (.pointer a0)]) f34_ann mixed call34 Try.func34 rfl rfl (show 1 ≤ Try.f34.ntmps by decide) ((f34_eq a0 w R).symm ▸ h)
/-- Of (*escritoire/line.reader).reach (function 35): the condition. -/
def f35_vc (a0 : Option Addr) (w : World) (R : Ending → World → Prop) : Prop :=
  Does Try.prog 29 #[.pointer a0, .int .u8 37] w fun e3 w3 =>
  ∃ b3 : Bool, e3 = .returned (.bool b3) ∧ Br b3
  (∀ b7 w7, NewBlk w3 b7 [.int .u8 110, .int .i64 1, .int .i64 0, .int .u8 0, .int .u8 36, .int .i64 0, .int .i64 0, .int .u8 0] 55 w7 →
  ∃ b8 o8, a0 = some ⟨b8, o8, none⟩ ∧ CanStore w7 b8 (o8 + 1) ∧ ∀ ws, Stored w7 b8 (o8 + 1) (.slice (some ⟨b7, 0, none⟩) 2 2) ws →
  R (.returned (.tuple #[])) ws)
  (Does Try.prog 41 #[.pointer a0] w3 fun e12 w12 =>
  (∃ b12 : Bool, e12 = .returned (.bool b12) ∧ Br b12
  (Does Try.prog 29 #[.pointer a0, .int .u8 44] w12 fun e15 w15 =>
  ∃ b15 : Bool, e15 = .returned (.bool b15) ∧ Br b15
  (Does Try.prog 41 #[.pointer a0] w15 fun e18 w18 =>
  (∃ b18 : Bool, e18 = .returned (.bool b18) ∧ Does Try.prog 28 #[.bool b18] w18 fun e19 w19 =>
  (e19 = .returned (.tuple #[]) ∧ R (.returned (.tuple #[])) w19) ∨ (∃ ch19, e19 = .panicked ch19 ∧ R (.panicked ch19) w19)) ∨ (∃ ch18, e18 = .panicked ch18 ∧ R (.panicked ch18) w18))
  (R (.returned (.tuple #[])) w15))
  (R (.returned (.tuple #[])) w12)) ∨ (∃ ch12, e12 = .panicked ch12 ∧ R (.panicked ch12) w12))
def f35_ann : Ann := { loops := [], cuts := [], flip := [], throws := [28, 41] }
theorem f35_eq (a0 : Option Addr) (w : World) (R : Ending → World → Prop) : vc Try.prog f35_ann (bodyOf Try.f35) (retQ Try.prog Try.f35 R) (envOf Try.f35.ntmps [.v (.pointer a0)]) [] w = f35_vc a0 w R := by kernel_rfl
theorem f35_does (a0 : Option Addr) {w : World} {R : Ending → World → Prop} (h : f35_vc a0 w R) : Does Try.prog 35 #[.pointer a0] w R :=
  does_of_vc (ss := [.v (.pointer a0)]) f35_ann mixed call35 Try.func35 rfl rfl (show 1 ≤ Try.f35.ntmps by decide) ((f35_eq a0 w R).symm ▸ h)
/-- Of (*escritoire/line.reader).name (function 36): the condition. -/
def f36_vc (a0 : Option Addr) (w : World) (R : Ending → World → Prop) : Prop :=
  ∀ b4 w4, NewBlk w b4 [.int .u8 61, .int .u8 62, .int .u8 60] 5 w4 →
  ∃ (p5 : Option Addr) (l5 c5 : Nat), ∃ w5, (convert 78 78 (.slice (some ⟨b4, 0, none⟩) 3 3)).run Try.prog w4 = .ok (.slice p5 l5 c5) w5 ∧ ∃ I1 : Int → Nat → World → Prop, (∃ nl1, I1 0 nl1 w5) ∧ ∀ x7 : Int, ∀ (nl1 : Nat) (wl1 : World), I1 x7 nl1 wl1 →
  Br (decide (x7 < ((l5 : Int))))
  (((0 : Int) ≤ x7 ∧ x7 < (l5 : Int)) ∧ ∃ b9 o9, p5 = some ⟨b9, o9, none⟩ ∧ ∃ n10 : Int, wl1.cell? ⟨b9, o9 + (x7).toNat, none⟩ = some (.int .u8 n10) ∧ Does Try.prog 29 #[.pointer a0, .int .u8 n10] wl1 fun e13 w13 =>
  ∃ b13 : Bool, e13 = .returned (.bool b13) ∧ Br b13
  (∀ b16 w16, NewBlk w13 b16 [.int .u8 n10] 5 w16 →
  ∃ s17 : ByteArray, ∃ w17, (convert 78 9 (.slice (some ⟨b16, 0, none⟩) 1 1)).run Try.prog w16 = .ok (.string s17) w17 ∧ ∃ b18 o18, a0 = some ⟨b18, o18, none⟩ ∧ CanStore w17 b18 (o18 + 2) ∧ ∀ ws, Stored w17 b18 (o18 + 2) (.string s17) ws →
  R (.returned (.tuple #[])) ws)
  (InK .i64 (x7 + 1) ∧ ∃ ml1, ml1 < nl1 ∧ I1 (x7 + 1) ml1 w13))
  (∃ b25 o25, a0 = some ⟨b25, o25, none⟩ ∧ ∃ s27 : ByteArray, wl1.cell? ⟨b25, o25, none⟩ = some (.string s27) ∧ Does Try.prog 39 #[.pointer a0, .int .i64 ((s27.size : Int)), .func (.func 42) #[] #[]] wl1 fun e29 w29 =>
  ∃ s29 : ByteArray, e29 = .returned (.string s29) ∧ ∃ b30 o30, a0 = some ⟨b30, o30, none⟩ ∧ CanStore w29 b30 (o30 + 2) ∧ ∀ ws_1, Stored w29 b30 (o30 + 2) (.string s29) ws_1 →
  R (.returned (.tuple #[])) ws_1)
def f36_ann : Ann := { loops := [(1, [(7, .int .i64)])], cuts := [], flip := [], throws := [] }
theorem f36_eq (a0 : Option Addr) (w : World) (R : Ending → World → Prop) : vc Try.prog f36_ann (bodyOf Try.f36) (retQ Try.prog Try.f36 R) (envOf Try.f36.ntmps [.v (.pointer a0)]) [] w = f36_vc a0 w R := by kernel_rfl
theorem f36_does (a0 : Option Addr) {w : World} {R : Ending → World → Prop} (h : f36_vc a0 w R) : Does Try.prog 36 #[.pointer a0] w R :=
  does_of_vc (ss := [.v (.pointer a0)]) f36_ann mixed call36 Try.func36 rfl rfl (show 1 ≤ Try.f36.ntmps by decide) ((f36_eq a0 w R).symm ▸ h)
/-- Of escritoire/escritoireref24.digits (function 37): the condition. -/
def f37_vc (a0 : ByteArray) (a1 : Int) (w : World) (R : Ending → World → Prop) : Prop :=
  ∃ I3 : Int → Int → Nat → World → Prop, (∃ nl3, I3 a1 0 nl3 w) ∧ ∀ x1 : Int, ∀ x7 : Int, ∀ (nl3 : Nat) (wl3 : World), I3 x1 x7 nl3 wl3 →
  Br (decide (x1 < ((a0.size : Int))))
  (((0 : Int) ≤ x1 ∧ x1 < (a0.size : Int)) ∧ Br (decide ((sb a0 x1) ≥ 48))
  (((0 : Int) ≤ x1 ∧ x1 < (a0.size : Int)) ∧ Br (decide ((sb a0 x1) ≤ 57))
  (InK .i64 (x1 - a1) ∧ Br (decide ((x1 - a1) ≥ 9))
  (R (.returned (.tuple #[.int .i64 0, .int .i64 x1, .bool false])) wl3)
  (InK .i64 (x7 * 10) ∧ ((0 : Int) ≤ x1 ∧ x1 < (a0.size : Int)) ∧ InK .i64 (IntKind.wrap .u8 ((sb a0 x1) - 48)) ∧ InK .i64 ((x7 * 10) + (IntKind.wrap .u8 ((sb a0 x1) - 48))) ∧ InK .i64 (x1 + 1) ∧ ∃ ml3, ml3 < nl3 ∧ I3 (x1 + 1) ((x7 * 10) + (IntKind.wrap .u8 ((sb a0 x1) - 48))) ml3 wl3))
  (R (.returned (.tuple #[.int .i64 x7, .int .i64 x1, .bool true])) wl3))
  (R (.returned (.tuple #[.int .i64 x7, .int .i64 x1, .bool true])) wl3))
  (R (.returned (.tuple #[.int .i64 x7, .int .i64 x1, .bool true])) wl3)
def f37_ann : Ann := { loops := [(3, [(1, .int .i64), (7, .int .i64)])], cuts := [], flip := [], throws := [] }
theorem f37_eq (a0 : ByteArray) (a1 : Int) (w : World) (R : Ending → World → Prop) : vc Try.prog f37_ann (bodyOf Try.f37) (retQ Try.prog Try.f37 R) (envOf Try.f37.ntmps [.v (.string a0), .v (.int .i64 a1)]) [] w = f37_vc a0 a1 w R := by kernel_rfl
theorem f37_does (a0 : ByteArray) (a1 : Int) {w : World} {R : Ending → World → Prop} (h : f37_vc a0 a1 w R) : Does Try.prog 37 #[.string a0, .int .i64 a1] w R :=
  does_of_vc (ss := [.v (.string a0), .v (.int .i64 a1)]) f37_ann mixed call37 Try.func37 rfl rfl (show 2 ≤ Try.f37.ntmps by decide) ((f37_eq a0 a1 w R).symm ▸ h)
/-- Of escritoire/line.marked (function 38): the condition. -/
def f38_vc (p0 : Option Addr) (l0 c0 : Nat) (a1 : Int) (w : World) (R : Ending → World → Prop) : Prop :=
  ∃ I2 : Int → Nat → World → Prop, (∃ nl2, I2 0 nl2 w) ∧ ∀ x10 : Int, ∀ (nl2 : Nat) (wl2 : World), I2 x10 nl2 wl2 →
  Br (decide (x10 < ((l0 : Int))))
  (((0 : Int) ≤ x10 ∧ x10 < (l0 : Int)) ∧ ∃ b12 o12, p0 = some ⟨b12, o12, none⟩ ∧ ∃ n13 : Int, wl2.cell? ⟨b12, o12 + (x10).toNat * 2, none⟩ = some (.int .u8 n13) ∧ ∃ n13_1 : Int, wl2.cell? ⟨b12, o12 + (x10).toNat * 2 + 1, none⟩ = some (.int .i64 n13_1) ∧ ∀ b7 w7, NewBlk wl2 b7 [.int .u8 0, .int .i64 0] 43 w7 →
  CanStore w7 b7 0 ∧ ∀ ws, Stored w7 b7 0 (.int .u8 n13) ws →
  CanStore ws b7 1 ∧ ∀ ws_1, Stored ws b7 1 (.int .i64 n13_1) ws_1 →
  ∃ n15 : Int, ws_1.cell? ⟨b7, 0, none⟩ = some (.int .u8 n15) ∧ Br (n15 == a1)
  (∃ n19 : Int, ws_1.cell? ⟨b7, 1, none⟩ = some (.int .i64 n19) ∧ R (.returned (.tuple #[.int .i64 n19, .bool true])) ws_1)
  (InK .i64 (x10 + 1) ∧ ∃ ml2, ml2 < nl2 ∧ I2 (x10 + 1) ml2 ws_1))
  (R (.returned (.tuple #[.int .i64 0, .bool false])) wl2)
def f38_ann : Ann := { loops := [(2, [(10, .int .i64)])], cuts := [], flip := [], throws := [] }
theorem f38_eq (p0 : Option Addr) (l0 c0 : Nat) (a1 : Int) (w : World) (R : Ending → World → Prop) : vc Try.prog f38_ann (bodyOf Try.f38) (retQ Try.prog Try.f38 R) (envOf Try.f38.ntmps [.v (.slice p0 l0 c0), .v (.int .u8 a1)]) [] w = f38_vc p0 l0 c0 a1 w R := by kernel_rfl
theorem f38_does (p0 : Option Addr) (l0 c0 : Nat) (a1 : Int) {w : World} {R : Ending → World → Prop} (h : f38_vc p0 l0 c0 a1 w R) : Does Try.prog 38 #[.slice p0 l0 c0, .int .u8 a1] w R :=
  does_of_vc (ss := [.v (.slice p0 l0 c0), .v (.int .u8 a1)]) f38_ann mixed call38 Try.func38 rfl rfl (show 2 ≤ Try.f38.ntmps by decide) ((f38_eq p0 l0 c0 a1 w R).symm ▸ h)
/-- Of (*escritoire/line.reader).while (function 39): the condition. -/
def f39_vc (a0 : Option Addr) (a1 : Int) (g2 : Go.Fn) (fs2 cs2 : Array Value) (w : World) (R : Ending → World → Prop) : Prop :=
  ∃ I2 : Int → Nat → World → Prop, (∃ nl2, I2 0 nl2 w) ∧ ∀ x7 : Int, ∀ (nl2 : Nat) (wl2 : World), I2 x7 nl2 wl2 →
  Br (decide (x7 < a1))
  (∃ b15 o15, a0 = some ⟨b15, o15, none⟩ ∧ ∃ s17 : ByteArray, wl2.cell? ⟨b15, o15, none⟩ = some (.string s17) ∧ Br (decide (x7 < ((s17.size : Int))))
  (∃ b24 o24, a0 = some ⟨b24, o24, none⟩ ∧ ∃ s26 : ByteArray, wl2.cell? ⟨b24, o24, none⟩ = some (.string s26) ∧ ((0 : Int) ≤ x7 ∧ x7 < (s26.size : Int)) ∧ DoesV Try.prog g2 fs2 #[.int .u8 (sb s26 x7)] cs2 wl2 fun e29 w29 =>
  ∃ b29 : Bool, e29 = .returned (.bool b29) ∧ Br b29
  (InK .i64 (x7 + 1) ∧ ∃ ml2, ml2 < nl2 ∧ I2 (x7 + 1) ml2 w29)
  (∃ b34 o34, a0 = some ⟨b34, o34, none⟩ ∧ ∃ s36 : ByteArray, w29.cell? ⟨b34, o34, none⟩ = some (.string s36) ∧ ((0 : Int) ≤ x7 ∧ x7 ≤ (s36.size : Int)) ∧ ∃ b41 o41, a0 = some ⟨b41, o41, none⟩ ∧ ∃ s43 : ByteArray, w29.cell? ⟨b41, o41, none⟩ = some (.string s43) ∧ ((0 : Int) ≤ x7 ∧ x7 ≤ (s43.size : Int)) ∧ ∃ b46 o46, a0 = some ⟨b46, o46, none⟩ ∧ CanStore w29 b46 o46 ∧ ∀ ws, Stored w29 b46 o46 (.string (s43.extract ((x7).toNat) s43.size)) ws →
  R (.returned (.string (s36.extract 0 ((x7).toNat)))) ws))
  (∃ b34_1 o34_1, a0 = some ⟨b34_1, o34_1, none⟩ ∧ ∃ s36_1 : ByteArray, wl2.cell? ⟨b34_1, o34_1, none⟩ = some (.string s36_1) ∧ ((0 : Int) ≤ x7 ∧ x7 ≤ (s36_1.size : Int)) ∧ ∃ b41_1 o41_1, a0 = some ⟨b41_1, o41_1, none⟩ ∧ ∃ s43_1 : ByteArray, wl2.cell? ⟨b41_1, o41_1, none⟩ = some (.string s43_1) ∧ ((0 : Int) ≤ x7 ∧ x7 ≤ (s43_1.size : Int)) ∧ ∃ b46_1 o46_1, a0 = some ⟨b46_1, o46_1, none⟩ ∧ CanStore wl2 b46_1 o46_1 ∧ ∀ ws_1, Stored wl2 b46_1 o46_1 (.string (s43_1.extract ((x7).toNat) s43_1.size)) ws_1 →
  R (.returned (.string (s36_1.extract 0 ((x7).toNat)))) ws_1))
  (∃ b34_2 o34_2, a0 = some ⟨b34_2, o34_2, none⟩ ∧ ∃ s36_2 : ByteArray, wl2.cell? ⟨b34_2, o34_2, none⟩ = some (.string s36_2) ∧ ((0 : Int) ≤ x7 ∧ x7 ≤ (s36_2.size : Int)) ∧ ∃ b41_2 o41_2, a0 = some ⟨b41_2, o41_2, none⟩ ∧ ∃ s43_2 : ByteArray, wl2.cell? ⟨b41_2, o41_2, none⟩ = some (.string s43_2) ∧ ((0 : Int) ≤ x7 ∧ x7 ≤ (s43_2.size : Int)) ∧ ∃ b46_2 o46_2, a0 = some ⟨b46_2, o46_2, none⟩ ∧ CanStore wl2 b46_2 o46_2 ∧ ∀ ws_2, Stored wl2 b46_2 o46_2 (.string (s43_2.extract ((x7).toNat) s43_2.size)) ws_2 →
  R (.returned (.string (s36_2.extract 0 ((x7).toNat)))) ws_2)
def f39_ann : Ann := { loops := [(2, [(7, .int .i64)])], cuts := [], flip := [], throws := [] }
theorem f39_eq (a0 : Option Addr) (a1 : Int) (g2 : Go.Fn) (fs2 cs2 : Array Value) (w : World) (R : Ending → World → Prop) : vc Try.prog f39_ann (bodyOf Try.f39) (retQ Try.prog Try.f39 R) (envOf Try.f39.ntmps [.v (.pointer a0), .v (.int .i64 a1), .v (.func g2 fs2 cs2)]) [] w = f39_vc a0 a1 g2 fs2 cs2 w R := by kernel_rfl
theorem f39_does (a0 : Option Addr) (a1 : Int) (g2 : Go.Fn) (fs2 cs2 : Array Value) {w : World} {R : Ending → World → Prop} (h : f39_vc a0 a1 g2 fs2 cs2 w R) : Does Try.prog 39 #[.pointer a0, .int .i64 a1, .func g2 fs2 cs2] w R :=
  does_of_vc (ss := [.v (.pointer a0), .v (.int .i64 a1), .v (.func g2 fs2 cs2)]) f39_ann mixed call39 Try.func39 rfl rfl (show 3 ≤ Try.f39.ntmps by decide) ((f39_eq a0 a1 g2 fs2 cs2 w R).symm ▸ h)
/-- Of escritoire/line.blank (function 40): the condition. -/
def f40_vc (a0 : Int) (w : World) (R : Ending → World → Prop) : Prop :=
  R (.returned (.bool (a0 == 32))) w
def f40_ann : Ann := { loops := [], cuts := [], flip := [], throws := [] }
theorem f40_eq (a0 : Int) (w : World) (R : Ending → World → Prop) : vc Try.prog f40_ann (bodyOf Try.f40) (retQ Try.prog Try.f40 R) (envOf Try.f40.ntmps [.v (.int .u8 a0)]) [] w = f40_vc a0 w R := by kernel_rfl
theorem f40_does (a0 : Int) {w : World} {R : Ending → World → Prop} (h : f40_vc a0 w R) : Does Try.prog 40 #[.int .u8 a0] w R :=
  does_of_vc (ss := [.v (.int .u8 a0)]) f40_ann mixed call40 Try.func40 rfl rfl (show 1 ≤ Try.f40.ntmps by decide) ((f40_eq a0 w R).symm ▸ h)
/-- Of (*escritoire/line.reader).address (function 41): the condition. -/
def f41_vc (a0 : Option Addr) (w : World) (R : Ending → World → Prop) : Prop :=
  ∀ b3 w3, NewBlk w b3 [.int .u8 0, .int .i64 0, .int .i64 0, .int .u8 0] 55 w3 →
  ∃ J15 : Nat → World → Prop, (∃ b6 o6, a0 = some ⟨b6, o6, none⟩ ∧ ∃ s8 : ByteArray, w3.cell? ⟨b6, o6, none⟩ = some (.string s8) ∧ Br (!(s8.toList == (({ data := #[] } : ByteArray)).toList))
  (∃ b12 o12, a0 = some ⟨b12, o12, none⟩ ∧ ∃ s14 : ByteArray, w3.cell? ⟨b12, o12, none⟩ = some (.string s14) ∧ ((0 : Int) ≤ 0 ∧ 0 < (s14.size : Int)) ∧ Does Try.prog 43 #[.int .u8 (sb s14 0)] w3 fun e16 w16 =>
  ∃ b16 : Bool, e16 = .returned (.bool b16) ∧ Br b16
  (Does Try.prog 44 #[.pointer a0, .int .i64 0] w16 fun e19 w19 =>
  ∃ n19 : Int, e19 = .returned (.int .i64 n19) ∧ CanStore w19 b3 0 ∧ ∀ ws, Stored w19 b3 0 (.int .u8 110) ws →
  CanStore ws b3 1 ∧ ∀ ws_1, Stored ws b3 1 (.int .i64 n19) ws_1 →
  CanStore ws_1 b3 2 ∧ ∀ ws_2, Stored ws_1 b3 2 (.int .i64 0) ws_2 →
  CanStore ws_2 b3 3 ∧ ∀ ws_3, Stored ws_2 b3 3 (.int .u8 0) ws_3 →
  ∃ nc15, J15  nc15 ws_3)
  (Does Try.prog 29 #[.pointer a0, .int .u8 46] w16 fun e23 w23 =>
  ∃ b23 : Bool, e23 = .returned (.bool b23) ∧ Br b23
  (CanStore w23 b3 0 ∧ ∀ ws_4, Stored w23 b3 0 (.int .u8 46) ws_4 →
  ∃ nc15, J15  nc15 ws_4)
  (Does Try.prog 29 #[.pointer a0, .int .u8 36] w23 fun e27 w27 =>
  ∃ b27 : Bool, e27 = .returned (.bool b27) ∧ Br b27
  (CanStore w27 b3 0 ∧ ∀ ws_5, Stored w27 b3 0 (.int .u8 36) ws_5 →
  ∃ nc15, J15  nc15 ws_5)
  (Does Try.prog 29 #[.pointer a0, .int .u8 39] w27 fun e31 w31 =>
  ∃ b31 : Bool, e31 = .returned (.bool b31) ∧ Br b31
  (∃ b33 o33, a0 = some ⟨b33, o33, none⟩ ∧ ∃ s35 : ByteArray, w31.cell? ⟨b33, o33, none⟩ = some (.string s35) ∧ Br (!(s35.toList == (({ data := #[] } : ByteArray)).toList))
  (∃ b39 o39, a0 = some ⟨b39, o39, none⟩ ∧ ∃ s41 : ByteArray, w31.cell? ⟨b39, o39, none⟩ = some (.string s41) ∧ ((0 : Int) ≤ 0 ∧ 0 < (s41.size : Int)) ∧ Does Try.prog 42 #[.int .u8 (sb s41 0)] w31 fun e43 w43 =>
  ∃ b43 : Bool, e43 = .returned (.bool b43) ∧ Does Try.prog 28 #[.bool b43] w43 fun e45 w45 =>
  (e45 = .returned (.tuple #[]) ∧ ∃ b47 o47, a0 = some ⟨b47, o47, none⟩ ∧ ∃ s49 : ByteArray, w45.cell? ⟨b47, o47, none⟩ = some (.string s49) ∧ ((0 : Int) ≤ 0 ∧ 0 < (s49.size : Int)) ∧ CanStore w45 b3 0 ∧ ∀ ws_6, Stored w45 b3 0 (.int .u8 109) ws_6 →
  CanStore ws_6 b3 1 ∧ ∀ ws_7, Stored ws_6 b3 1 (.int .i64 0) ws_7 →
  CanStore ws_7 b3 2 ∧ ∀ ws_8, Stored ws_7 b3 2 (.int .i64 0) ws_8 →
  CanStore ws_8 b3 3 ∧ ∀ ws_9, Stored ws_8 b3 3 (.int .u8 (sb s49 0)) ws_9 →
  ∃ b54 o54, a0 = some ⟨b54, o54, none⟩ ∧ ∃ s56 : ByteArray, ws_9.cell? ⟨b54, o54, none⟩ = some (.string s56) ∧ ((0 : Int) ≤ 1 ∧ 1 ≤ (s56.size : Int)) ∧ ∃ b58 o58, a0 = some ⟨b58, o58, none⟩ ∧ CanStore ws_9 b58 o58 ∧ ∀ ws_10, Stored ws_9 b58 o58 (.string (s56.extract ((1 : Int).toNat) s56.size)) ws_10 →
  ∃ nc15, J15  nc15 ws_10) ∨ (∃ ch45, e45 = .panicked ch45 ∧ R (.panicked ch45) w45))
  (Does Try.prog 28 #[.bool false] w31 fun e45_1 w45_1 =>
  (e45_1 = .returned (.tuple #[]) ∧ ∃ b47_1 o47_1, a0 = some ⟨b47_1, o47_1, none⟩ ∧ ∃ s49_1 : ByteArray, w45_1.cell? ⟨b47_1, o47_1, none⟩ = some (.string s49_1) ∧ ((0 : Int) ≤ 0 ∧ 0 < (s49_1.size : Int)) ∧ CanStore w45_1 b3 0 ∧ ∀ ws_11, Stored w45_1 b3 0 (.int .u8 109) ws_11 →
  CanStore ws_11 b3 1 ∧ ∀ ws_12, Stored ws_11 b3 1 (.int .i64 0) ws_12 →
  CanStore ws_12 b3 2 ∧ ∀ ws_13, Stored ws_12 b3 2 (.int .i64 0) ws_13 →
  CanStore ws_13 b3 3 ∧ ∀ ws_14, Stored ws_13 b3 3 (.int .u8 (sb s49_1 0)) ws_14 →
  ∃ b54_1 o54_1, a0 = some ⟨b54_1, o54_1, none⟩ ∧ ∃ s56_1 : ByteArray, ws_14.cell? ⟨b54_1, o54_1, none⟩ = some (.string s56_1) ∧ ((0 : Int) ≤ 1 ∧ 1 ≤ (s56_1.size : Int)) ∧ ∃ b58_1 o58_1, a0 = some ⟨b58_1, o58_1, none⟩ ∧ CanStore ws_14 b58_1 o58_1 ∧ ∀ ws_15, Stored ws_14 b58_1 o58_1 (.string (s56_1.extract ((1 : Int).toNat) s56_1.size)) ws_15 →
  ∃ nc15, J15  nc15 ws_15) ∨ (∃ ch45_1, e45_1 = .panicked ch45_1 ∧ R (.panicked ch45_1) w45_1)))
  (R (.returned (.bool false)) w31)))))
  (Does Try.prog 29 #[.pointer a0, .int .u8 46] w3 fun e23_1 w23_1 =>
  ∃ b23_1 : Bool, e23_1 = .returned (.bool b23_1) ∧ Br b23_1
  (CanStore w23_1 b3 0 ∧ ∀ ws_16, Stored w23_1 b3 0 (.int .u8 46) ws_16 →
  ∃ nc15, J15  nc15 ws_16)
  (Does Try.prog 29 #[.pointer a0, .int .u8 36] w23_1 fun e27_1 w27_1 =>
  ∃ b27_1 : Bool, e27_1 = .returned (.bool b27_1) ∧ Br b27_1
  (CanStore w27_1 b3 0 ∧ ∀ ws_17, Stored w27_1 b3 0 (.int .u8 36) ws_17 →
  ∃ nc15, J15  nc15 ws_17)
  (Does Try.prog 29 #[.pointer a0, .int .u8 39] w27_1 fun e31_1 w31_1 =>
  ∃ b31_1 : Bool, e31_1 = .returned (.bool b31_1) ∧ Br b31_1
  (∃ b33_1 o33_1, a0 = some ⟨b33_1, o33_1, none⟩ ∧ ∃ s35_1 : ByteArray, w31_1.cell? ⟨b33_1, o33_1, none⟩ = some (.string s35_1) ∧ Br (!(s35_1.toList == (({ data := #[] } : ByteArray)).toList))
  (∃ b39_1 o39_1, a0 = some ⟨b39_1, o39_1, none⟩ ∧ ∃ s41_1 : ByteArray, w31_1.cell? ⟨b39_1, o39_1, none⟩ = some (.string s41_1) ∧ ((0 : Int) ≤ 0 ∧ 0 < (s41_1.size : Int)) ∧ Does Try.prog 42 #[.int .u8 (sb s41_1 0)] w31_1 fun e43_1 w43_1 =>
  ∃ b43_1 : Bool, e43_1 = .returned (.bool b43_1) ∧ Does Try.prog 28 #[.bool b43_1] w43_1 fun e45_2 w45_2 =>
  (e45_2 = .returned (.tuple #[]) ∧ ∃ b47_2 o47_2, a0 = some ⟨b47_2, o47_2, none⟩ ∧ ∃ s49_2 : ByteArray, w45_2.cell? ⟨b47_2, o47_2, none⟩ = some (.string s49_2) ∧ ((0 : Int) ≤ 0 ∧ 0 < (s49_2.size : Int)) ∧ CanStore w45_2 b3 0 ∧ ∀ ws_18, Stored w45_2 b3 0 (.int .u8 109) ws_18 →
  CanStore ws_18 b3 1 ∧ ∀ ws_19, Stored ws_18 b3 1 (.int .i64 0) ws_19 →
  CanStore ws_19 b3 2 ∧ ∀ ws_20, Stored ws_19 b3 2 (.int .i64 0) ws_20 →
  CanStore ws_20 b3 3 ∧ ∀ ws_21, Stored ws_20 b3 3 (.int .u8 (sb s49_2 0)) ws_21 →
  ∃ b54_2 o54_2, a0 = some ⟨b54_2, o54_2, none⟩ ∧ ∃ s56_2 : ByteArray, ws_21.cell? ⟨b54_2, o54_2, none⟩ = some (.string s56_2) ∧ ((0 : Int) ≤ 1 ∧ 1 ≤ (s56_2.size : Int)) ∧ ∃ b58_2 o58_2, a0 = some ⟨b58_2, o58_2, none⟩ ∧ CanStore ws_21 b58_2 o58_2 ∧ ∀ ws_22, Stored ws_21 b58_2 o58_2 (.string (s56_2.extract ((1 : Int).toNat) s56_2.size)) ws_22 →
  ∃ nc15, J15  nc15 ws_22) ∨ (∃ ch45_2, e45_2 = .panicked ch45_2 ∧ R (.panicked ch45_2) w45_2))
  (Does Try.prog 28 #[.bool false] w31_1 fun e45_3 w45_3 =>
  (e45_3 = .returned (.tuple #[]) ∧ ∃ b47_3 o47_3, a0 = some ⟨b47_3, o47_3, none⟩ ∧ ∃ s49_3 : ByteArray, w45_3.cell? ⟨b47_3, o47_3, none⟩ = some (.string s49_3) ∧ ((0 : Int) ≤ 0 ∧ 0 < (s49_3.size : Int)) ∧ CanStore w45_3 b3 0 ∧ ∀ ws_23, Stored w45_3 b3 0 (.int .u8 109) ws_23 →
  CanStore ws_23 b3 1 ∧ ∀ ws_24, Stored ws_23 b3 1 (.int .i64 0) ws_24 →
  CanStore ws_24 b3 2 ∧ ∀ ws_25, Stored ws_24 b3 2 (.int .i64 0) ws_25 →
  CanStore ws_25 b3 3 ∧ ∀ ws_26, Stored ws_25 b3 3 (.int .u8 (sb s49_3 0)) ws_26 →
  ∃ b54_3 o54_3, a0 = some ⟨b54_3, o54_3, none⟩ ∧ ∃ s56_3 : ByteArray, ws_26.cell? ⟨b54_3, o54_3, none⟩ = some (.string s56_3) ∧ ((0 : Int) ≤ 1 ∧ 1 ≤ (s56_3.size : Int)) ∧ ∃ b58_3 o58_3, a0 = some ⟨b58_3, o58_3, none⟩ ∧ CanStore ws_26 b58_3 o58_3 ∧ ∀ ws_27, Stored ws_26 b58_3 o58_3 (.string (s56_3.extract ((1 : Int).toNat) s56_3.size)) ws_27 →
  ∃ nc15, J15  nc15 ws_27) ∨ (∃ ch45_3, e45_3 = .panicked ch45_3 ∧ R (.panicked ch45_3) w45_3)))
  (R (.returned (.bool false)) w31_1))))) ∧ ∀ (nc15 : Nat) (wc15 : World), J15  nc15 wc15 →
  ∃ I15 : Nat → World → Prop, (∃ nl15, I15  nl15 wc15) ∧ ∀ (nl15 : Nat) (wl15 : World), I15  nl15 wl15 →
  Does Try.prog 29 #[.pointer a0, .int .u8 43] wl15 fun e74 w74 =>
  ∃ b74 : Bool, e74 = .returned (.bool b74) ∧ Br b74
  (∀ wd16, Drew w74 wd16 →
  ∃ S16 : World → Prop, S16 wd16 ∧ ∃ n76 : Int, (∀ w, S16 w → w.cell? ⟨b3, 2, none⟩ = some (.int .i64 n76)) ∧ Does Try.prog 44 #[.pointer a0, .int .i64 1] wd16 fun e78 w78 =>
  ∃ n78 : Int, e78 = .returned (.int .i64 n78) ∧ S16 w78 ∧ InK .i64 (n76 + n78) ∧ CanStore w78 b3 2 ∧ ∀ ws_28, Stored w78 b3 2 (.int .i64 (n76 + n78)) ws_28 →
  ∃ ml15, ml15 < nl15 ∧ I15  ml15 ws_28)
  (Does Try.prog 29 #[.pointer a0, .int .u8 45] w74 fun e83 w83 =>
  ∃ b83 : Bool, e83 = .returned (.bool b83) ∧ Br b83
  (∀ wd18, Drew w83 wd18 →
  ∃ S18 : World → Prop, S18 wd18 ∧ ∃ n85 : Int, (∀ w, S18 w → w.cell? ⟨b3, 2, none⟩ = some (.int .i64 n85)) ∧ Does Try.prog 44 #[.pointer a0, .int .i64 1] wd18 fun e87 w87 =>
  ∃ n87 : Int, e87 = .returned (.int .i64 n87) ∧ S18 w87 ∧ InK .i64 (n85 - n87) ∧ CanStore w87 b3 2 ∧ ∀ ws_29, Stored w87 b3 2 (.int .i64 (n85 - n87)) ws_29 →
  ∃ ml15, ml15 < nl15 ∧ I15  ml15 ws_29)
  (∀ wd13, Drew w83 wd13 →
  ∃ S13 : World → Prop, S13 wd13 ∧ ∃ b62 o62, a0 = some ⟨b62, o62, none⟩ ∧ ∃ (p65 : Option Addr) (l65 c65 : Nat), (∀ w, S13 w → w.cell? ⟨b62, o62 + 1, none⟩ = some (.slice p65 l65 c65)) ∧ ∃ n66 : Int, wd13.cell? ⟨b3, 0, none⟩ = some (.int .u8 n66) ∧ ∃ n66_1 : Int, wd13.cell? ⟨b3, 1, none⟩ = some (.int .i64 n66_1) ∧ ∃ n66_2 : Int, wd13.cell? ⟨b3, 2, none⟩ = some (.int .i64 n66_2) ∧ ∃ n66_3 : Int, wd13.cell? ⟨b3, 3, none⟩ = some (.int .u8 n66_3) ∧ ∀ b67 w67, NewBlk wd13 b67 [.int .u8 n66, .int .i64 n66_1, .int .i64 n66_2, .int .u8 n66_3] 55 w67 →
  S13 w67 ∧ ∃ (p68 : Option Addr) (l68 c68 : Nat) (w68 : World), (Builtin.append_ #[23, 23] 23 #[.slice p65 l65 c65, .slice (some ⟨b67, 0, none⟩) 1 1]).run Try.prog w67 = .ok (.slice p68 l68 c68) w68 ∧
  ∃ b69 o69, a0 = some ⟨b69, o69, none⟩ ∧ CanStore w68 b69 (o69 + 1) ∧ ∀ ws_30, Stored w68 b69 (o69 + 1) (.slice p68 l68 c68) ws_30 →
  R (.returned (.bool true)) ws_30))
def f41_ann : Ann := { loops := [(15, [])], cuts := [(15, [])], flip := [], throws := [28] }
theorem f41_eq (a0 : Option Addr) (w : World) (R : Ending → World → Prop) : vc Try.prog f41_ann (bodyOf Try.f41) (retQ Try.prog Try.f41 R) (envOf Try.f41.ntmps [.v (.pointer a0)]) [] w = f41_vc a0 w R := by kernel_rfl
theorem f41_does (a0 : Option Addr) {w : World} {R : Ending → World → Prop} (h : f41_vc a0 w R) : Does Try.prog 41 #[.pointer a0] w R :=
  does_of_vc (ss := [.v (.pointer a0)]) f41_ann mixed call41 Try.func41 rfl rfl (show 1 ≤ Try.f41.ntmps by decide) ((f41_eq a0 w R).symm ▸ h)
/-- Of escritoire/line.small (function 42): the condition. -/
def f42_vc (a0 : Int) (w : World) (R : Ending → World → Prop) : Prop :=
  Br (decide (a0 ≥ 97))
  (R (.returned (.bool (decide (a0 ≤ 122)))) w)
  (R (.returned (.bool false)) w)
def f42_ann : Ann := { loops := [], cuts := [], flip := [], throws := [] }
theorem f42_eq (a0 : Int) (w : World) (R : Ending → World → Prop) : vc Try.prog f42_ann (bodyOf Try.f42) (retQ Try.prog Try.f42 R) (envOf Try.f42.ntmps [.v (.int .u8 a0)]) [] w = f42_vc a0 w R := by kernel_rfl
theorem f42_does (a0 : Int) {w : World} {R : Ending → World → Prop} (h : f42_vc a0 w R) : Does Try.prog 42 #[.int .u8 a0] w R :=
  does_of_vc (ss := [.v (.int .u8 a0)]) f42_ann mixed call42 Try.func42 rfl rfl (show 1 ≤ Try.f42.ntmps by decide) ((f42_eq a0 w R).symm ▸ h)
/-- Of escritoire/line.figure (function 43): the condition. -/
def f43_vc (a0 : Int) (w : World) (R : Ending → World → Prop) : Prop :=
  Br (decide (a0 ≥ 48))
  (R (.returned (.bool (decide (a0 ≤ 57)))) w)
  (R (.returned (.bool false)) w)
def f43_ann : Ann := { loops := [], cuts := [], flip := [], throws := [] }
theorem f43_eq (a0 : Int) (w : World) (R : Ending → World → Prop) : vc Try.prog f43_ann (bodyOf Try.f43) (retQ Try.prog Try.f43 R) (envOf Try.f43.ntmps [.v (.int .u8 a0)]) [] w = f43_vc a0 w R := by kernel_rfl
theorem f43_does (a0 : Int) {w : World} {R : Ending → World → Prop} (h : f43_vc a0 w R) : Does Try.prog 43 #[.int .u8 a0] w R :=
  does_of_vc (ss := [.v (.int .u8 a0)]) f43_ann mixed call43 Try.func43 rfl rfl (show 1 ≤ Try.f43.ntmps by decide) ((f43_eq a0 w R).symm ▸ h)
/-- Of (*escritoire/line.reader).number (function 44): the condition. -/
def f44_vc (a0 : Option Addr) (a1 : Int) (w : World) (R : Ending → World → Prop) : Prop :=
  Does Try.prog 39 #[.pointer a0, .int .i64 9, .func (.func 43) #[] #[]] w fun e8 w8 =>
  ∃ s8 : ByteArray, e8 = .returned (.string s8) ∧ ∃ (p9 : Option Addr) (l9 c9 : Nat), ∃ w9, (convert 9 78 (.string s8)).run Try.prog w8 = .ok (.slice p9 l9 c9) w9 ∧ ∃ I2 : Int → Int → Nat → World → Prop, (∃ nl2, I2 a1 0 nl2 w9) ∧ ∀ x1 : Int, ∀ x11 : Int, ∀ (nl2 : Nat) (wl2 : World), I2 x1 x11 nl2 wl2 →
  Br (decide (x11 < ((l9 : Int))))
  (((0 : Int) ≤ x11 ∧ x11 < (l9 : Int)) ∧ ∃ b14 o14, p9 = some ⟨b14, o14, none⟩ ∧ ∃ n15 : Int, wl2.cell? ⟨b14, o14 + (x11).toNat, none⟩ = some (.int .u8 n15) ∧ Br (x11 == 0)
  (InK .i64 (10 * 0) ∧ InK .i64 (IntKind.wrap .u8 (n15 - 48)) ∧ InK .i64 ((10 * 0) + (IntKind.wrap .u8 (n15 - 48))) ∧ InK .i64 (x11 + 1) ∧ ∃ ml2, ml2 < nl2 ∧ I2 ((10 * 0) + (IntKind.wrap .u8 (n15 - 48))) (x11 + 1) ml2 wl2)
  (InK .i64 (10 * x1) ∧ InK .i64 (IntKind.wrap .u8 (n15 - 48)) ∧ InK .i64 ((10 * x1) + (IntKind.wrap .u8 (n15 - 48))) ∧ InK .i64 (x11 + 1) ∧ ∃ ml2, ml2 < nl2 ∧ I2 ((10 * x1) + (IntKind.wrap .u8 (n15 - 48))) (x11 + 1) ml2 wl2))
  (R (.returned (.int .i64 x1)) wl2)
def f44_ann : Ann := { loops := [(2, [(1, .int .i64), (11, .int .i64)])], cuts := [], flip := [], throws := [] }
theorem f44_eq (a0 : Option Addr) (a1 : Int) (w : World) (R : Ending → World → Prop) : vc Try.prog f44_ann (bodyOf Try.f44) (retQ Try.prog Try.f44 R) (envOf Try.f44.ntmps [.v (.pointer a0), .v (.int .i64 a1)]) [] w = f44_vc a0 a1 w R := by kernel_rfl
theorem f44_does (a0 : Option Addr) (a1 : Int) {w : World} {R : Ending → World → Prop} (h : f44_vc a0 a1 w R) : Does Try.prog 44 #[.pointer a0, .int .i64 a1] w R :=
  does_of_vc (ss := [.v (.pointer a0), .v (.int .i64 a1)]) f44_ann mixed call44 Try.func44 rfl rfl (show 2 ≤ Try.f44.ntmps by decide) ((f44_eq a0 a1 w R).symm ▸ h)
end Go.Proofs.Ytdkeccgcleamcaa
