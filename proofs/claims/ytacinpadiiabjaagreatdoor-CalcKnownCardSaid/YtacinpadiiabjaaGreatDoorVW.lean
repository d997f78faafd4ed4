/-
  Of each function of the code: its verification condition, and that it suffices.
-/
import Derived.Test.YtacinpadiiabjaaGreatDoorVcDoes
import Derived.Test.YtacinpadiiabjaaGreatDoorProg
import Derived.Test.YtacinpadiiabjaaGreatDoorV
set_option maxRecDepth 100000
namespace Go.Proofs.YtacinpadiiabjaaGreatDoor
open Go.RowKit Go.Vc
theorem call69 : callableB Tryz.prog 69 = true := by kernel_rfl
def txt200_48_57 : ByteArray := { data := (([48, 48, 48, 49, 48, 50, 48, 51, 48, 52, 48, 53, 48, 54, 48, 55, 48, 56, 48, 57, 49, 48, 49, 49, 49, 50, 49, 51, 49, 52, 49, 53, 49, 54, 49, 55, 49, 56, 49, 57, 50, 48, 50, 49, 50, 50, 50, 51, 50, 52] : List UInt8) ++ ([50, 53, 50, 54, 50, 55, 50, 56, 50, 57, 51, 48, 51, 49, 51, 50, 51, 51, 51, 52, 51, 53, 51, 54, 51, 55, 51, 56, 51, 57, 52, 48, 52, 49, 52, 50, 52, 51, 52, 52, 52, 53, 52, 54, 52, 55, 52, 56, 52, 57] : List UInt8) ++ ([53, 48, 53, 49, 53, 50, 53, 51, 53, 52, 53, 53, 53, 54, 53, 55, 53, 56, 53, 57, 54, 48, 54, 49, 54, 50, 54, 51, 54, 52, 54, 53, 54, 54, 54, 55, 54, 56, 54, 57, 55, 48, 55, 49, 55, 50, 55, 51, 55, 52] : List UInt8) ++ ([55, 53, 55, 54, 55, 55, 55, 56, 55, 57, 56, 48, 56, 49, 56, 50, 56, 51, 56, 52, 56, 53, 56, 54, 56, 55, 56, 56, 56, 57, 57, 48, 57, 49, 57, 50, 57, 51, 57, 52, 57, 53, 57, 54, 57, 55, 57, 56, 57, 57] : List UInt8)).toArray }
/-- Of internal/strconv.small (function 69): the condition. -/
def f69_vc (a0 : Int) (w : World) (R : Ending → World → Prop) : Prop :=
  Br (decide (a0 < 10))
  (InK .i64 (a0 + 1) ∧ ((0 : Int) ≤ (a0 + 1) ∧ (a0 + 1) ≤ (((({ data := #[48, 49, 50, 51, 52, 53, 54, 55, 56, 57, 97, 98, 99, 100, 101, 102, 103, 104, 105, 106, 107, 108, 109, 110, 111, 112, 113, 114, 115, 116, 117, 118, 119, 120, 121, 122] } : ByteArray)).size : Nat) : Int)) ∧ ((0 : Int) ≤ a0 ∧ a0 ≤ (a0 + 1)) ∧ R (.returned (.string ((({ data := #[48, 49, 50, 51, 52, 53, 54, 55, 56, 57, 97, 98, 99, 100, 101, 102, 103, 104, 105, 106, 107, 108, 109, 110, 111, 112, 113, 114, 115, 116, 117, 118, 119, 120, 121, 122] } : ByteArray)).extract ((a0).toNat) ((a0 + 1).toNat)))) w)
  (InK .i64 (a0 * 2) ∧ InK .i64 (a0 * 2) ∧ InK .i64 ((a0 * 2) + 2) ∧ ((0 : Int) ≤ ((a0 * 2) + 2) ∧ ((a0 * 2) + 2) ≤ (txt200_48_57.size : Int)) ∧ ((0 : Int) ≤ (a0 * 2) ∧ (a0 * 2) ≤ ((a0 * 2) + 2)) ∧ R (.returned (.string (txt200_48_57.extract ((a0 * 2).toNat) (((a0 * 2) + 2).toNat)))) w)
def f69_ann : Ann := { loops := [], cuts := [], flip := [], throws := [] }
theorem f69_eq (a0 : Int) (w : World) (R : Ending → World → Prop) : vc Tryz.prog f69_ann (bodyOf Tryz.f69) (retQ Tryz.prog Tryz.f69 R) (envOf Tryz.f69.ntmps [.v (.int .i64 a0)]) [] w = f69_vc a0 w R := by kernel_rfl
theorem f69_does (a0 : Int) {w : World} {R : Ending → World → Prop} (h : f69_vc a0 w R) : Does Tryz.prog 69 #[.int .i64 a0] w R :=
  does_of_vc (ss := [.v (.int .i64 a0)]) f69_ann mixed call69 Tryz.func69 rfl rfl (show 1 ≤ Tryz.f69.ntmps by decide) ((f69_eq a0 w R).symm ▸ h)
end Go.Proofs.YtacinpadiiabjaaGreatDoor
