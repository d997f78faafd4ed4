/-
  Law: numbers that are known.
-/
import Derived.Test.YtffhlgejfgmpiaaGreatDoorReadHex3
namespace Go.Vc
theorem three_E : nE 4613937818241073152 = 1 := by decide +kernel
theorem three_M : nM 4613937818241073152 = 6755399441055744 := by decide +kernel
theorem half_E : nE 4602678819172646912 = -1 := by decide +kernel
theorem half_M : nM 4602678819172646912 - 4503599627370496 = 0 := by decide +kernel
theorem half_W : wholeB 4602678819172646912 = false := by decide +kernel
theorem half_show : showS 4602678819172646912 = [48, 120, 49, 112, 45, 49] := by
  have h1 : showS 4602678819172646912 = Go.Proofs.YtffhlgejfgmpiaaGreatDoor.sgnL false ++ showR 4602678819172646912 := rfl
  rw [h1, Go.Proofs.YtffhlgejfgmpiaaGreatDoor.showR_hex (by decide) half_W]
  unfold hexS
  rw [half_E, half_M]
  unfold hexX expL
  rw [frL_zero, if_neg (by decide), show (-(-1 : Int)).toNat = 1 by decide, decL_small (by decide)]
  rfl
theorem three_show : showS 4613937818241073152 = [51] := by
  have e : floatOfInt .f64 ((3 : Nat) : Int) = 4613937818241073152 := by decide +kernel
  rw [← e, (whole_show (n := 3) (by decide)).2.1, decL_small (by decide)]; rfl
theorem minus_show : showS 9223372036854775808 = [45, 48] := by
  have e : Op.negFloat .f64 (floatOfInt .f64 ((0 : Nat) : Int)) = 9223372036854775808 := by decide +kernel
  rw [← e, (whole_show (n := 0) (by decide)).2.2.1, decL_small (by decide)]; rfl
theorem nan_show {x : Nat} (h : nan x = true) : showS x = [110, 97, 110] := by unfold showS; rw [h]; rfl
theorem inf_show : showS 9218868437227405312 = [105, 110, 102] := by
  have h1 : showS 9218868437227405312 = Go.Proofs.YtffhlgejfgmpiaaGreatDoor.sgnL false ++ showR 9218868437227405312 := rfl
  rw [h1]; unfold showR; rw [if_pos rfl]; rfl
end Go.Vc
namespace Go.Proofs.YtffhlgejfgmpiaaGreatDoor
open Go.RowKit Go.Vc
variable {w : World} {R : Ending → World → Prop}
theorem hex3 {s : ByteArray} {ds : List Nat} (hs : L s = 48 :: 120 :: (mantL ds ++ [112, 43, 49])) (hd : ∀ d ∈ ds, d < 16) (hl : ds.length ≤ 13) (hM : hexN (1 :: ds) * 16 ^ (13 - ds.length) = 6755399441055744) (hT : Laid w) (hT2 : Laid2 w) (hT3 : Laid3 w) :
    Does Tryz.prog 9 #[.string s] w fun e w' => e = .returned (.tuple #[.float .f64 0, .bool false]) ∧ Ext w w' := by
  have hs' : L s = sgnL false ++ 48 :: 120 :: (mantL ds ++ expL (nE 4613937818241073152)) := by
    rw [three_E, hs]
    unfold expL
    rw [if_pos (by decide), show (1 : Int).toNat = 1 by decide, decL_small (by decide)]; rfl
  refine (read_hex hs' hd hl (by rw [three_M]; exact hM) (by decide) (by decide) hT hT2 hT3).imp ?_
  rintro e w' ⟨rfl, x⟩
  have hne : ¬ showS (sgW false 4613937818241073152) = L s := fun k => by
    have e : sgW false 4613937818241073152 = 4613937818241073152 := rfl
    rw [e, three_show, hs] at k
    have := (List.cons.inj k).1
    omega
  rw [if_neg hne]
  exact ⟨rfl, x⟩
theorem place_half (h : R (.returned (.tuple #[.int .i64 4, .bool true])) w) : Does Tryz.prog 15 #[.float .f64 4602678819172646912, .int .i64 9] w R :=
  f15_does _ _ (fls (by decide +kernel) (fls (by decide) (fls (by decide +kernel) (fls (by decide +kernel) ⟨_, w, ci2f w, 4616752568008179712, w, run_float_arith w .mul _ .f64 _ _ _ (by decide +kernel), 4, w, cf2i w (by decide +kernel), h⟩))))
theorem minus_does (h : R (.returned (.float .f64 9223372036854775808)) w) : Does Tryz.prog 17 #[] w R :=
  f17_does ⟨9218868437227405312, w, run_float_arith w .quo _ .f64 _ _ _ (by decide +kernel), 9223372036854775808, w, run_float_arith w .quo _ .f64 _ _ _ (by decide +kernel), h⟩
theorem known_law (hT : Laid w) (hT2 : Laid2 w) (hT3 : Laid3 w) : Does Tryz.prog 6 #[] w (Holds w) := by
  refine f6_does ?_
  unfold f6_vc
  refine awake_does.imp ?_
  rintro e w1 ⟨rfl, x1⟩
  refine ⟨_, rfl, fls rfl ?_⟩
  obtain ⟨nn, w2, hr2, x2, hw2, hn⟩ := flt_run (P := Tryz.prog) .quo rfl 22 0 0 w1
  have hnan : nan nn = true := by
    rcases hn with h | ⟨_, h⟩
    · rw [show floatBits .quo .f64 0 0 = none from by decide +kernel] at h; cases h
    · exact h
  have x2 := Ext.then x1 x2
  refine ⟨nn, w2, hr2, (read_does _ (by decide) (fun r k => ?_) (fun a r k => ?_) (hT.ext x2)).imp ?_⟩
  · rw [show L ({ data := #[51, 46, 53] } : ByteArray) = [51, 46, 53] by decide] at k
    have := (List.cons.inj k).1; omega
  · rw [show L ({ data := #[51, 46, 53] } : ByteArray) = [51, 46, 53] by decide] at k
    have := (List.cons.inj (List.cons.inj k).2).1; omega
  rintro e w3 ⟨f25, b25, rfl, hf25, x3, hr25⟩
  have x3 := Ext.then x2 x3
  have h25 : b25 = true ∧ f25 = 4615063718147915776 := by
    rw [show readM (L ({ data := #[51, 46, 53] } : ByteArray)) = some (some 4615063718147915776) by decide +kernel] at hr25
    cases b25
    · cases hr25
    · refine ⟨rfl, cls_word ?_ (by decide)⟩
      have : cls f25 = some 4615063718147915776 := by
        simp only [if_true] at hr25
        exact (Option.some.inj hr25).symm
      rw [this]; rfl
  obtain ⟨rfl, rfl⟩ := h25
  refine ⟨_, _, rfl, (read_does _ (by decide) (fun r k => ?_) (fun a r k => ?_) (hT.ext x3)).imp ?_⟩
  · rw [show L ({ data := #[48, 51] } : ByteArray) = [48, 51] by decide] at k
    have := (List.cons.inj k).1; omega
  · rw [show L ({ data := #[48, 51] } : ByteArray) = [48, 51] by decide] at k
    have := (List.cons.inj (List.cons.inj k).2).1; omega
  rintro e w4 ⟨f29, b29, rfl, hf29, x4, hr29⟩
  have x4 := Ext.then x3 x4
  have h29 : b29 = false := by
    rw [show readM (L ({ data := #[48, 51] } : ByteArray)) = none by decide +kernel] at hr29
    cases b29
    · rfl
    · cases hr29
  subst h29
  refine ⟨_, _, rfl, (hex3 (ds := [8]) (by decide) (by decide) (by decide) (by decide) (hT.ext x4) (hT2.ext x4) (hT3.ext x4)).imp ?_⟩
  rintro e w5 ⟨rfl, x5⟩
  have x5 := Ext.then x4 x5
  refine ⟨_, _, rfl, (hex3 (ds := [8, 0]) (by decide) (by decide) (by decide) (by decide) (hT.ext x5) (hT2.ext x5) (hT3.ext x5)).imp ?_⟩
  rintro e w6 ⟨rfl, x6⟩
  have x6 := Ext.then x5 x6
  refine ⟨_, _, rfl, (read_dec (neg := true) (d := [48, 46, 48]) (by decide) (by decide) (hT.ext x6)).imp ?_⟩
  rintro e w7 ⟨f41, rfl, hf41, hc41, x7⟩
  have x7 := Ext.then x6 x7
  have h41 : f41 = 9223372036854775808 := by
    refine cls_word ?_ (by decide)
    rw [hc41]; decide +kernel
  subst h41
  refine ⟨_, _, rfl, place_half ⟨_, _, rfl, 18442240474082181120, w7, run_float_arith w7 .quo _ .f64 _ _ _ (by decide +kernel), ?_⟩⟩
  refine f15_does _ _ (fls (by decide +kernel) (fls (by decide) (tru (by decide +kernel) ⟨_, _, rfl, ?_⟩)))
  refine f15_does _ _ (tru (by rw [order_self]; exact hnan) ⟨_, _, rfl, minus_does ⟨_, rfl, compare_does (by unfold Wd; decide) (by unfold Wd; decide) ⟨_, rfl, tru (by decide) ?_⟩⟩⟩)
  refine ⟨9218868437227405312, w7, run_float_arith w7 .quo _ .f64 _ _ _ (by decide +kernel), compare_does hw2 (by unfold Wd; decide) ⟨_, rfl, tru ?_ ?_⟩⟩
  · unfold fcmp
    rw [hnan, show nan 9218868437227405312 = false by decide, if_pos (by decide)]; decide
  refine minus_does ⟨_, rfl, (show_does (hT2.ext x7) (by unfold Wd; decide)).imp ?_⟩
  rintro e w8 ⟨s72, rfl, hs72, x8⟩
  have x8 := Ext.then x7 x8
  refine ⟨_, rfl, tru (by rw [L_eq, hs72, minus_show]; decide) ((show_does (hT2.ext x8) (by unfold Wd; decide)).imp ?_)⟩
  rintro e w9 ⟨s76, rfl, hs76, x9⟩
  have x9 := Ext.then x8 x9
  refine ⟨_, rfl, tru (by rw [L_eq, hs76, half_show]; decide) (tru rfl (tru (by decide +kernel) (tru rfl (tru rfl (tru (by decide +kernel) (tru rfl (tru rfl (bits_does _ ⟨_, rfl, tru (by decide) ?_⟩))))))))⟩
  obtain ⟨n2, w10, hr10, x10, hw10, hn10⟩ := flt_run (P := Tryz.prog) .quo rfl 22 (floatOfInt .f64 0) (floatOfInt .f64 0) w9
  have hnan2 : nan n2 = true := by
    rcases hn10 with h | ⟨_, h⟩
    · rw [show floatBits .quo .f64 (floatOfInt .f64 0) (floatOfInt .f64 0) = none from by decide +kernel] at h; cases h
    · exact h
  have x10 := Ext.then x9 x10
  refine f18_does _ _ ⟨_, w9, ci2f w9, _, w9, ci2f w9, n2, w10, hr10, ⟨_, rfl, (show_does (hT2.ext x10) hw10).imp ?_⟩⟩
  rintro e w11 ⟨s112, rfl, hs112, x11⟩
  have x11 := Ext.then x10 x11
  refine ⟨_, rfl, tru (by rw [L_eq, hs112, nan_show hnan2]; decide) (f18_does _ _ ⟨_, w11, ci2f w11, _, w11, ci2f w11, 9218868437227405312, w11, run_float_arith w11 .quo _ .f64 _ _ _ (by decide +kernel), ⟨_, rfl, (show_does (hT2.ext x11) (by unfold Wd; decide)).imp ?_⟩⟩)⟩
  rintro e w12 ⟨s117, rfl, hs117, x12⟩
  have x12 := Ext.then x11 x12
  exact ⟨_, rfl, tru (by rw [L_eq, hs117, inf_show]; decide) (tru rfl (tru (by decide) (tru rfl (tru (by decide) ⟨rfl, x12⟩))))⟩
end Go.Proofs.YtffhlgejfgmpiaaGreatDoor
