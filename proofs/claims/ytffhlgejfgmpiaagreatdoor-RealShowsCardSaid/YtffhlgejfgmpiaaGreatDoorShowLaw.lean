/-
  Law: what is shown is read.
-/
import Derived.Test.YtffhlgejfgmpiaaGreatDoorRefShow
import Derived.Test.YtffhlgejfgmpiaaGreatDoorShowInj
namespace Go.Vc
theorem fbits_cls (x : Nat) : fbits x = match cls x with | none => 9221120237041090561 | some y => (y : Int) := by
  unfold fbits cls
  cases nan x <;> rfl
theorem cls_fbits {x y : Nat} (h : fbits x = fbits y) : cls x = cls y := by
  unfold fbits at h
  unfold cls
  have key : ∀ z : Nat, nan z = false → ((z : Nat) : Int) ≠ 9221120237041090561 := fun z hz hc => by
    have : z = 9221120237041090561 := by omega
    rw [this] at hz
    exact absurd hz (by decide)
  cases e1 : nan x <;> cases e2 : nan y <;> rw [e1, e2] at h
  · have h : ((x : Nat) : Int) = (y : Int) := h
    have : x = y := by omega
    rw [this]
  · exact absurd h (key x e1)
  · exact absurd h.symm (key y e2)
  · rfl
end Go.Vc
namespace Go.Proofs.YtffhlgejfgmpiaaGreatDoor
open Go.RowKit Go.Vc
variable {w : World} {R : Ending → World → Prop}
theorem shows_law (hT : Laid w) (hT2 : Laid2 w) (hT3 : Laid3 w) {x y : Nat} (hx : Wd x) (hy : Wd y) : Does Tryz.prog 3 #[.float .f64 x, .float .f64 y] w (Holds w) := by
  refine f3_does _ _ (awake_does.imp ?_)
  rintro e w8 ⟨rfl, x8⟩
  refine ⟨_, rfl, fls rfl ((show_does (hT2.ext x8) hx).imp ?_)⟩
  rintro e w11 ⟨s, rfl, hs, x11⟩
  have x11 := Ext.then x8 x11
  refine ⟨s, rfl, (read_show hx hs (hT.ext x11) (hT2.ext x11) (hT3.ext x11)).imp ?_⟩
  rintro e w14 ⟨f, rfl, hf, hc, x14⟩
  have x14 := Ext.then x11 x14
  refine ⟨_, _, rfl, (rshow_does hx).imp ?_⟩
  rintro e w19 ⟨s2, rfl, hs2, x19⟩
  have x19 := Ext.then x14 x19
  refine ⟨s2, rfl, tru (by rw [L_eq, hs, hs2]; exact decide_eq_true rfl) (tru rfl (bits_does f ⟨_, rfl, bits_does x ⟨_, rfl, ?_⟩⟩))⟩
  refine tru (by rw [cls_bits hc]; exact beq_self_eq_true _) ((show_does (hT2.ext x19) hy).imp ?_)
  rintro e w34 ⟨s34, rfl, hs34, x34⟩
  have x34 := Ext.then x19 x34
  refine ⟨s34, rfl, bits_does x ⟨_, rfl, bits_does y ⟨_, rfl, ?_⟩⟩⟩
  rw [L_eq]
  have e : (decide (L s = L s34) == (fbits x == fbits y)) = true := by
    by_cases h : cls x = cls y
    · have h1 : fbits x = fbits y := cls_bits h
      have h2 : L s = L s34 := by
        rw [hs, hs34]
        unfold cls at h
        unfold showS
        cases e1 : nan x <;> cases e2 : nan y <;> rw [e1, e2] at h <;> simp at h ⊢
        rw [h]
      rw [decide_eq_true h2, h1]; simp
    · have h1 : fbits x ≠ fbits y := fun k => h (cls_fbits k)
      have h2 : L s ≠ L s34 := fun k => h (by
        rw [hs, hs34] at k
        exact show_inj hx hy k)
      rw [decide_eq_false h2, beq_eq_false_iff_ne.2 h1]; rfl
  rw [e]
  exact ⟨rfl, x34⟩
end Go.Proofs.YtffhlgejfgmpiaaGreatDoor
