/-
  Numbers shown: what is cut off at the end.
-/
import Derived.Test.YtffhlgejfgmpiaaGreatDoorVY
import Derived.Test.YtffhlgejfgmpiaaGreatDoorShowHex
namespace Go.Proofs.YtffhlgejfgmpiaaGreatDoor
open Go.RowKit Go.Vc
variable {w : World} {R : Ending → World → Prop}
theorem trimr_does (s : ByteArray) (hs : s.size ≤ 1000000) (h : ∀ t, L t = trimZ (L s) → R (.returned (.string t)) w) : Does Tryz.prog 44 #[.string s, .string { data := #[48] }] w R := by
  have b48 : sb ({ data := #[48] } : ByteArray) 0 = 48 := by decide
  have k : Does Tryz.prog 65 #[.string s, .int .u8 (sb ({ data := #[48] } : ByteArray) 0)] w fun e25 w25 => ∃ s25 : ByteArray, e25 = .returned (.string s25) ∧ R (.returned (.string s25)) w25 := by
    rw [b48]
    exact trimb_does s hs fun t ht => ⟨t, rfl, h t ht⟩
  refine f44_does _ _ (brr (fun q => h s ?_) fun q => fls (by rw [L_eq, L_nil]; decide) (tru (by decide) ⟨⟨by decide, by decide⟩, tru (by decide) ⟨⟨by decide, by decide⟩, k⟩⟩))
  rw [L_eq, L_nil] at q
  rw [of_decide_eq_true q]; rfl
end Go.Proofs.YtffhlgejfgmpiaaGreatDoor
