/-
  Expressions: two side by side.
-/
import Derived.Test.YtacinpadiiabjaaGreatDoorCalcLaws
namespace Go.Proofs.YtacinpadiiabjaaGreatDoor
open Go.RowKit Go.Vc
variable {w : World} {R : Ending → World → Prop}
theorem same_bits {f g : Nat} (h : cls f = cls g) : (fbits f == fbits g) = true := by rw [cls_bits h]; simp
/-- What is compared last. -/
theorem parts_tail {f35 f40 f56 f66 f76 f86 f96 f106 lo hi : Nat} (h1 : cls f56 = opC .add f35 f40) (h2 : cls f66 = opC .sub f35 f40) (h3 : cls f76 = opC .mul f35 f40) (h4 : cls f86 = opC .quo f35 f40) (h5 : cls f96 = cls lo) (h6 : cls f106 = cls hi) {w0 w142 : World} (x : Ext w0 w142) {R : Ending → World → Prop} (hR : ∀ w', Ext w0 w' → R (.returned (.bool true)) w') :
    Does Tryz.prog 12 #[.float .f64 f56] w142 fun e146 w146 =>
    ∃ n146 : Int, e146 = .returned (.int .u64 n146) ∧ ∃ f149 : Nat, ∃ w149, (binOp .add 23 (.float .f64 f35) (.float .f64 f40)).run Tryz.prog w146 = .ok (.float .f64 f149) w149 ∧ Does Tryz.prog 12 #[.float .f64 f149] w149 fun e150 w150 =>
    ∃ n150 : Int, e150 = .returned (.int .u64 n150) ∧ Br (n146 == n150)
    (Does Tryz.prog 12 #[.float .f64 f66] w150 fun e154 w154 =>
    ∃ n154 : Int, e154 = .returned (.int .u64 n154) ∧ ∃ f157 : Nat, ∃ w157, (binOp .sub 23 (.float .f64 f35) (.float .f64 f40)).run Tryz.prog w154 = .ok (.float .f64 f157) w157 ∧ Does Tryz.prog 12 #[.float .f64 f157] w157 fun e158 w158 =>
    ∃ n158 : Int, e158 = .returned (.int .u64 n158) ∧ Br (n154 == n158)
    (Does Tryz.prog 12 #[.float .f64 f76] w158 fun e163 w163 =>
    ∃ n163 : Int, e163 = .returned (.int .u64 n163) ∧ ∃ f166 : Nat, ∃ w166, (binOp .mul 23 (.float .f64 f35) (.float .f64 f40)).run Tryz.prog w163 = .ok (.float .f64 f166) w166 ∧ Does Tryz.prog 12 #[.float .f64 f166] w166 fun e167 w167 =>
    ∃ n167 : Int, e167 = .returned (.int .u64 n167) ∧ Br (n163 == n167)
    (Does Tryz.prog 12 #[.float .f64 f86] w167 fun e172 w172 =>
    ∃ n172 : Int, e172 = .returned (.int .u64 n172) ∧ ∃ f175 : Nat, ∃ w175, (binOp .quo 23 (.float .f64 f35) (.float .f64 f40)).run Tryz.prog w172 = .ok (.float .f64 f175) w175 ∧ Does Tryz.prog 12 #[.float .f64 f175] w175 fun e176 w176 =>
    ∃ n176 : Int, e176 = .returned (.int .u64 n176) ∧ Br (n172 == n176)
    (Does Tryz.prog 12 #[.float .f64 f96] w176 fun e181 w181 =>
    ∃ n181 : Int, e181 = .returned (.int .u64 n181) ∧ Does Tryz.prog 12 #[.float .f64 lo] w181 fun e183 w183 =>
    ∃ n183 : Int, e183 = .returned (.int .u64 n183) ∧ Br (n181 == n183)
    (Does Tryz.prog 12 #[.float .f64 f106] w183 fun e188 w188 =>
    ∃ n188 : Int, e188 = .returned (.int .u64 n188) ∧ Does Tryz.prog 12 #[.float .f64 hi] w188 fun e190 w190 =>
    ∃ n190 : Int, e190 = .returned (.int .u64 n190) ∧ R (.returned (.bool (n188 == n190))) w190)
    (R (.returned (.bool false)) w183))
    (R (.returned (.bool false)) w176))
    (R (.returned (.bool false)) w167))
    (R (.returned (.bool false)) w158))
    (R (.returned (.bool false)) w150) := by
  obtain ⟨r1, w1, e1, x1, _, c1⟩ := opC_run (P := Tryz.prog) .add rfl 23 f35 f40 w142
  obtain ⟨r2, w2, e2, x2, _, c2⟩ := opC_run (P := Tryz.prog) .sub rfl 23 f35 f40 w1
  obtain ⟨r3, w3, e3, x3, _, c3⟩ := opC_run (P := Tryz.prog) .mul rfl 23 f35 f40 w2
  obtain ⟨r4, w4, e4, x4, _, c4⟩ := opC_run (P := Tryz.prog) .quo rfl 23 f35 f40 w3
  refine bits_does _ ⟨_, rfl, r1, w1, e1, bits_does _ ⟨_, rfl, tru (same_bits (h1.trans c1.symm)) (bits_does _ ⟨_, rfl, r2, w2, e2, bits_does _ ⟨_, rfl, tru (same_bits (h2.trans c2.symm)) (bits_does _ ⟨_, rfl, r3, w3, e3, bits_does _ ⟨_, rfl, tru (same_bits (h3.trans c3.symm)) (bits_does _ ⟨_, rfl, r4, w4, e4, bits_does _ ⟨_, rfl, tru (same_bits (h4.trans c4.symm)) (bits_does _ ⟨_, rfl, bits_does _ ⟨_, rfl, tru (same_bits h5) (bits_does _ ⟨_, rfl, bits_does _ ⟨_, rfl, ?_⟩⟩)⟩⟩)⟩⟩)⟩⟩)⟩⟩)⟩⟩
  rw [same_bits h6]
  exact hR _ (Ext.then (Ext.then (Ext.then (Ext.then x x1) x2) x3) x4)
/-- Two expressions: the sum, the difference, the product, the quotient, the lesser, the greater. -/
theorem parts_law (hT : Laid w) (s t : ByteArray) : Does Tryz.prog 3 #[.string s, .string t] w (Holds w) := by
  refine f3_does _ _ ((awake_does hT).imp ?_)
  rintro e w23 ⟨rfl, x23⟩
  have hsl := L_len s
  have htl := L_len t
  have hH : ∀ w', Ext w w' → Holds w (.returned (.bool true)) w' := fun _ x => ⟨rfl, x⟩
  refine ⟨_, rfl, fls rfl (brr (fun _ => hH _ x23) fun qs => brr (fun _ => hH _ x23) fun qt => (eval_does (hT.ext x23) s).imp ?_)⟩
  have qs := of_decide_eq_false qs
  have qt := of_decide_eq_false qt
  rintro e w35 ⟨f35, rfl, hf35, c35, x35⟩
  have x35 := Ext.then x23 x35
  refine ⟨_, _, rfl, (eval_does (hT.ext x35) t).imp ?_⟩
  rintro e w40 ⟨f40, rfl, hf40, c40, x40⟩
  have x40 := Ext.then x35 x40
  refine ⟨_, _, rfl, brr (fun _ => hH _ x40) fun z1 => brr (fun _ => hH _ x40) fun z2 => ?_⟩
  have z1 : (evalM (L s)).2 = 0 := by simpa using z1
  have z2 : (evalM (L t)).2 = 0 := by simpa using z2
  obtain ⟨m1, _, v1, hm1⟩ := evalM_ok z1
  obtain ⟨m2, _, v2, hm2⟩ := evalM_ok z2
  rw [← c35] at v1
  rw [← c40] at v2
  have szz : ∀ a b : ByteArray, (a ++ b).size = a.size + b.size := fun a b => by rw [← L_len, L_append, List.length_append, L_len, L_len]
  have m40 : L ({ data := #[40] } : ByteArray) = [40] := by decide
  have m41 : L ({ data := #[41] } : ByteArray) = [41] := by decide
  have m44 : L ({ data := #[44] } : ByteArray) = [44] := by decide
  have ma : L ({ data := #[41, 43, 40] } : ByteArray) = [41, 43, 40] := by decide
  have mb : L ({ data := #[41, 45, 40] } : ByteArray) = [41, 45, 40] := by decide
  have mc : L ({ data := #[41, 42, 40] } : ByteArray) = [41, 42, 40] := by decide
  have md : L ({ data := #[41, 47, 40] } : ByteArray) = [41, 47, 40] := by decide
  have mmin : L ({ data := #[109, 105, 110, 40] } : ByteArray) = [109, 105, 110, 40] := by decide
  have mmax : L ({ data := #[109, 97, 120, 40] } : ByteArray) = [109, 97, 120, 40] := by decide
  have z40 : ({ data := #[40] } : ByteArray).size = 1 := rfl
  have z41 : ({ data := #[41] } : ByteArray).size = 1 := rfl
  have z44 : ({ data := #[44] } : ByteArray).size = 1 := rfl
  have za : ({ data := #[41, 43, 40] } : ByteArray).size = 3 := rfl
  have zb : ({ data := #[41, 45, 40] } : ByteArray).size = 3 := rfl
  have zc : ({ data := #[41, 42, 40] } : ByteArray).size = 3 := rfl
  have zd : ({ data := #[41, 47, 40] } : ByteArray).size = 3 := rfl
  have zmin : ({ data := #[109, 105, 110, 40] } : ByteArray).size = 4 := rfl
  have zmax : ({ data := #[109, 97, 120, 40] } : ByteArray).size = 4 := rfl
  have pa : ∀ o : Int, [40] ++ L s ++ [41, o, 40] ++ L t ++ [41] = 40 :: (L s ++ 41 :: o :: 40 :: (L t ++ [41])) := fun o => by simp
  have pm : ∀ a b c : Int, [a, b, c, 40] ++ L s ++ [44] ++ L t ++ [41] = a :: b :: c :: 40 :: (L s ++ 44 :: (L t ++ [41])) := fun a b c => by simp
  have la : ∀ o : Int, (40 :: (L s ++ 41 :: o :: 40 :: (L t ++ [41]))).length ≤ 4096 := fun o => by simp; omega
  have lm : ∀ a b c : Int, (a :: b :: c :: 40 :: (L s ++ 44 :: (L t ++ [41]))).length ≤ 4096 := fun a b c => by simp; omega
  have E1 := evalM_some (la 43) (eval_low v1 (by omega) v2 (by omega) (.inl rfl))
  have E2 := evalM_some (la 45) (eval_low v1 (by omega) v2 (by omega) (.inr rfl))
  have E3 := evalM_some (la 42) (eval_high v1 (by omega) v2 (by omega) (.inl rfl))
  have E4 := evalM_some (la 47) (eval_high v1 (by omega) v2 (by omega) (.inr rfl))
  have E5 := evalM_some (lm 109 105 110) (eval_min v1 (by omega) v2 (by omega))
  have E6 := evalM_some (lm 109 97 120) (eval_max v1 (by omega) v2 (by omega))
  rw [if_pos rfl] at E1 E3
  rw [if_neg (show ¬ ((45 : Int) = 43) by decide)] at E2
  rw [if_neg (show ¬ ((47 : Int) = 42) by decide)] at E4
  refine ⟨by rw [z40]; omega, by rw [szz, z40, za]; omega, by rw [szz, szz, z40, za]; omega, by rw [szz, szz, szz, z40, za, z41]; omega, (eval_does (hT.ext x40) _).imp ?_⟩
  rintro e w56 ⟨f56, rfl, _, c56, x56⟩
  have x56 := Ext.then x40 x56
  rw [L_append, L_append, L_append, L_append, m40, ma, m41, pa, E1] at c56 ⊢
  refine ⟨_, _, rfl, by rw [z40]; omega, by rw [szz, z40, zb]; omega, by rw [szz, szz, z40, zb]; omega, by rw [szz, szz, szz, z40, zb, z41]; omega, (eval_does (hT.ext x56) _).imp ?_⟩
  rintro e w66 ⟨f66, rfl, _, c66, x66⟩
  have x66 := Ext.then x56 x66
  rw [L_append, L_append, L_append, L_append, m40, mb, m41, pa, E2] at c66 ⊢
  refine ⟨_, _, rfl, by rw [z40]; omega, by rw [szz, z40, zc]; omega, by rw [szz, szz, z40, zc]; omega, by rw [szz, szz, szz, z40, zc, z41]; omega, (eval_does (hT.ext x66) _).imp ?_⟩
  rintro e w76 ⟨f76, rfl, _, c76, x76⟩
  have x76 := Ext.then x66 x76
  rw [L_append, L_append, L_append, L_append, m40, mc, m41, pa, E3] at c76 ⊢
  refine ⟨_, _, rfl, by rw [z40]; omega, by rw [szz, z40, zd]; omega, by rw [szz, szz, z40, zd]; omega, by rw [szz, szz, szz, z40, zd, z41]; omega, (eval_does (hT.ext x76) _).imp ?_⟩
  rintro e w86 ⟨f86, rfl, _, c86, x86⟩
  have x86 := Ext.then x76 x86
  rw [L_append, L_append, L_append, L_append, m40, md, m41, pa, E4] at c86 ⊢
  refine ⟨_, _, rfl, by rw [zmin]; omega, by rw [szz, zmin, z44]; omega, by rw [szz, szz, zmin, z44]; omega, by rw [szz, szz, szz, zmin, z44, z41]; omega, (eval_does (hT.ext x86) _).imp ?_⟩
  rintro e w96 ⟨f96, rfl, _, c96, x96⟩
  have x96 := Ext.then x86 x96
  rw [L_append, L_append, L_append, L_append, mmin, m44, m41, pm, E5] at c96 ⊢
  refine ⟨_, _, rfl, by rw [zmax]; omega, by rw [szz, zmax, z44]; omega, by rw [szz, szz, zmax, z44]; omega, by rw [szz, szz, szz, zmax, z44, z41]; omega, (eval_does (hT.ext x96) _).imp ?_⟩
  rintro e w106 ⟨f106, rfl, _, c106, x106⟩
  have x106 := Ext.then x96 x106
  rw [L_append, L_append, L_append, L_append, mmax, m44, m41, pm, E6] at c106 ⊢
  refine ⟨_, _, rfl, ?_⟩
  by_cases h32 : 32 < max m1 m2 + 1
  · rw [if_pos h32]
    exact tru rfl (hH _ x106)
  · rw [if_neg h32] at c56 c66 c76 c86 c96 c106 ⊢
    rw [if_neg h32, if_neg h32, if_neg h32, if_neg h32, if_neg h32]
    rw [opCC_cls rfl] at c56 c66 c76 c86
    have kl : (fcmp f35 f40 < 0) ↔ keyC (cls f35) < keyC (cls f40) := by
      rw [fcmp_key hf35 hf40, keyC_cls, keyC_cls]; unfold cmpK; (repeat' split) <;> omega
    have kg : (fcmp f35 f40 > 0) ↔ keyC (cls f40) < keyC (cls f35) := by
      rw [fcmp_key hf35 hf40, keyC_cls, keyC_cls]; unfold cmpK; (repeat' split) <;> omega
    have lo1 : fcmp f35 f40 < 0 → cls f96 = cls f35 := fun h => by rw [c96]; unfold minC; rw [if_pos (kl.1 h)]
    have lo2 : ¬ fcmp f35 f40 < 0 → cls f96 = cls f40 := fun h => by rw [c96]; unfold minC; rw [if_neg fun k => h (kl.2 k)]
    have hi1 : fcmp f35 f40 > 0 → cls f106 = cls f35 := fun h => by rw [c106]; unfold maxC; rw [if_pos (kg.1 h)]
    have hi2 : ¬ fcmp f35 f40 > 0 → cls f106 = cls f40 := fun h => by rw [c106]; unfold maxC; rw [if_neg fun k => h (kg.2 k)]
    refine fls rfl (fls rfl (fls rfl (fls rfl (fls rfl (fls rfl (compare_does hf35 hf40 ⟨_, rfl, brr (fun q => ?_) fun q => ?_⟩))))))
    · have q := of_decide_eq_true q
      refine compare_does hf35 hf40 ⟨_, rfl, brr (fun q2 => ?_) fun q2 => ?_⟩
      · exact parts_tail c56 c66 c76 c86 (lo1 q) (hi1 (of_decide_eq_true q2)) x106 hH
      · exact parts_tail c56 c66 c76 c86 (lo1 q) (hi2 (of_decide_eq_false q2)) x106 hH
    · have q := of_decide_eq_false q
      refine compare_does hf35 hf40 ⟨_, rfl, brr (fun q2 => ?_) fun q2 => ?_⟩
      · exact parts_tail c56 c66 c76 c86 (lo2 q) (hi1 (of_decide_eq_true q2)) x106 hH
      · exact parts_tail c56 c66 c76 c86 (lo2 q) (hi2 (of_decide_eq_false q2)) x106 hH
end Go.Proofs.YtacinpadiiabjaaGreatDoor
