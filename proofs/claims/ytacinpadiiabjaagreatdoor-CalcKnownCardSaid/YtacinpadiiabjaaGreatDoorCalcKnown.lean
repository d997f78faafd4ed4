/-
  Expressions: the chapter's examples.
-/
import Derived.Test.YtacinpadiiabjaaGreatDoorVW
import Derived.Test.YtacinpadiiabjaaGreatDoorCalcLaws
import Derived.Test.YtacinpadiiabjaaGreatDoorFltPl
namespace Go.Proofs.YtacinpadiiabjaaGreatDoor
open Go.RowKit Go.Vc
variable {w : World} {R : Ending → World → Prop}
theorem show_inf (h : ∀ s, L s = [105, 110, 102] → R (.returned (.string s)) w) : Does Tryz.prog 14 #[.float .f64 9218868437227405312] w R := by
  have m : L ({ data := #[105, 110, 102] } : ByteArray) = [105, 110, 102] := by decide
  exact f14_does _ (fls (by decide +kernel) (f29_does _ _ (fls (by decide) (fls (by decide) ⟨_, rfl, tru (by decide +kernel) (h _ m)⟩))))
theorem zero_text : L (({ data := #[48, 49, 50, 51, 52, 53, 54, 55, 56, 57, 97, 98, 99, 100, 101, 102, 103, 104, 105, 106, 107, 108, 109, 110, 111, 112, 113, 114, 115, 116, 117, 118, 119, 120, 121, 122] } : ByteArray).extract ((0 : Int).toNat) ((0 + 1 : Int).toNat)) = [48] := by decide
theorem fmt_zero (h : ∀ s, L s = [48] → R (.returned (.string s)) w) : Does Tryz.prog 32 #[.int .i64 0, .int .i64 10] w R :=
  f32_does _ _ (f51_does _ _ (tru rfl (tru (by decide) (tru (by decide) (f69_does _ (tru (by decide) ⟨inI64 (by decide) (by decide), ⟨by decide, by decide⟩, ⟨by decide, by decide⟩, _, rfl, _, rfl, h _ zero_text⟩))))))
theorem flr_zero : flr BB 0 = 0 := by unfold flr; rw [MM_zero, Nat.zero_div]
theorem show_minus (h : ∀ s, L s = [45, 48] → R (.returned (.string s)) w) : Does Tryz.prog 14 #[.float .f64 9223372036854775808] w R := by
  have e0 : Op.negFloat .f64 9223372036854775808 = 0 := by decide
  have m45 : L ({ data := #[45] } : ByteArray) = [45] := by decide
  refine f14_does _ (fls (by decide +kernel) (f29_does _ _ (fls (by decide) (fls (by decide) ⟨_, rfl, fls (by decide +kernel) (f29_does _ _ (fls (by decide) (tru (by decide) ⟨_, rfl, fls (by decide +kernel) (signbit_does (by unfold Wd; decide) ⟨_, rfl, tru (by decide) ?_⟩)⟩)))⟩))))
  rw [e0]
  have hr : RR BB (flr BB 0 * 2 ^ (2 * BB)) = 0 := by rw [flr_zero, Nat.zero_mul, RR_zero]
  refine tru (by decide +kernel) (trunc_does (t := 0) (by decide) (by rw [flr_zero]; decide) ⟨_, rfl, ?_⟩)
  rw [hr]
  refine tru (by decide +kernel) ⟨0, w, run_convert_float_int w _ _ _ _ _ _ (by kernel_rfl) Tryz.underlying2 (by decide +kernel), fmt_zero fun s hs => ⟨s, rfl, ?_, h _ (by rw [L_append, m45, hs]; rfl)⟩⟩
  have := L_len s
  rw [hs] at this
  have s1 : ({ data := #[45] } : ByteArray).size = 1 := rfl
  rw [s1, ← this]; decide
/-- The chapter's examples. -/
theorem known_law (hT : Laid w) : Does Tryz.prog 5 #[] w (Holds w) := by
  have v1 : evalM (L ({ data := #[45, 40, 52, 32, 45, 32, 54, 41, 32, 47, 32, 48] } : ByteArray)) = (some 9218868437227405312, 0) := by decide +kernel
  have v2 : evalM (L ({ data := #[48, 32, 47, 32, 45, 53] } : ByteArray)) = (some 9223372036854775808, 0) := by decide +kernel
  have v3 : evalM (L ({ data := #[109, 105, 110, 40, 110, 97, 110, 44, 32, 51, 41] } : ByteArray)) = (some 4613937818241073152, 0) := by decide +kernel
  have v4 : (evalM (L ({ data := #[49, 32, 43] } : ByteArray))).2 = 11 := by decide +kernel
  have v5 : (evalM (L ({ data := #[48, 49] } : ByteArray))).2 = 11 := by decide +kernel
  refine f5_does ((awake_does hT).imp ?_)
  rintro e w11 ⟨rfl, x11⟩
  refine ⟨_, rfl, fls rfl ((eval_does (hT.ext x11) _).imp ?_)⟩
  rw [v1]
  rintro e w14 ⟨f14, rfl, _, c14, x14⟩
  have x14 := Ext.then x11 x14
  obtain ⟨rfl, _⟩ := cls_some c14
  refine ⟨_, _, rfl, (eval_does (hT.ext x14) _).imp ?_⟩
  rw [v2]
  rintro e w18 ⟨f18, rfl, _, c18, x18⟩
  have x18 := Ext.then x14 x18
  obtain ⟨rfl, _⟩ := cls_some c18
  refine ⟨_, _, rfl, (eval_does (hT.ext x18) _).imp ?_⟩
  rw [v3]
  rintro e w22 ⟨f22, rfl, _, c22, x22⟩
  have x22 := Ext.then x18 x22
  obtain ⟨rfl, _⟩ := cls_some c22
  refine ⟨_, _, rfl, (eval_does (hT.ext x22) _).imp ?_⟩
  rw [v4]
  rintro e w26 ⟨f26, rfl, _, _, x26⟩
  have x26 := Ext.then x22 x26
  refine ⟨_, _, rfl, (eval_does (hT.ext x26) _).imp ?_⟩
  rw [v5]
  rintro e w30 ⟨f30, rfl, _, _, x30⟩
  have x30 := Ext.then x26 x30
  have l1 : L ({ data := #[105, 110, 102] } : ByteArray) = [105, 110, 102] := by decide
  have l2 : L ({ data := #[45, 48] } : ByteArray) = [45, 48] := by decide
  refine ⟨_, _, rfl, tru rfl (show_inf fun s hs => ⟨s, rfl, tru (by rw [L_eq, hs, l1]; rfl) (tru rfl (show_minus fun t ht => ⟨t, rfl, tru (by rw [L_eq, ht, l2]; rfl) (tru rfl (tru (by decide +kernel) (tru rfl ⟨rfl, x30⟩)))⟩))⟩)⟩
end Go.Proofs.YtacinpadiiabjaaGreatDoor
