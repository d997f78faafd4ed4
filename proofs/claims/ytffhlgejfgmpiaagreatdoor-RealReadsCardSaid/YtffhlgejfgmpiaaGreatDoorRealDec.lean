/-
  Numbers read: decimal digits, with a sign; whole numbers shown and read.
-/
import Derived.Test.YtffhlgejfgmpiaaGreatDoorRefDec
import Derived.Test.YtffhlgejfgmpiaaGreatDoorShowAll
namespace Go.Vc
open Go.RowKit
theorem dot_of_dig {d : List Int} (h : ∀ x ∈ d, isDig x = true) : headD d = d ∧ tailD d = [] ∧ pointD d = false := by
  have e : headD d = d := by
    unfold headD
    induction d with
    | nil => rfl
    | cons x r ih =>
      have hx := h x List.mem_cons_self
      unfold isDig at hx
      simp only [Bool.and_eq_true, decide_eq_true_eq] at hx
      have : (x != 46) = true := by rw [bne_iff_ne]; omega
      rw [List.takeWhile_cons, if_pos this, ih fun y hy => h y (List.mem_cons_of_mem _ hy)]
  refine ⟨e, ?_, ?_⟩
  · unfold tailD; rw [e]; exact List.drop_of_length_le (by omega)
  · unfold pointD; rw [e]; exact decide_eq_false (by omega)
theorem figs_of {d : List Int} (h : ∀ x ∈ d, isDig x = true) (h0 : d ≠ []) : figs d = true := by
  unfold figs
  rw [List.all_eq_true.2 h, Bool.true_and, Bool.not_eq_true', List.isEmpty_eq_false_iff]
  exact h0
theorem decL_isDig (n : Nat) : ∀ x ∈ decL n, isDig x = true := fun x hx => by
  have := decL_dig n x hx
  unfold isDig
  simp only [Bool.and_eq_true, decide_eq_true_eq]
  exact this
theorem decL_ne (n : Nat) : decL n ≠ [] := List.length_pos_iff.1 (decL_pos n)
theorem decL_head : ∀ n, 10 ≤ n → (decL n).headD 0 ≠ 48 := by
  intro n
  induction n using Nat.strongRecOn with
  | ind n ih =>
    intro h
    have e := decL_big (n := n) (by omega)
    by_cases h2 : n / 10 < 10
    · rw [e, decL_small h2]
      show (48 : Int) + ((n / 10 : Nat) : Int) ≠ 48
      omega
    · have := ih (n / 10) (by omega) (by omega)
      rw [e]
      cases hq : decL (n / 10) with
      | nil => exact absurd hq (decL_ne _)
      | cons x r => rw [hq] at this; exact this
theorem decL_ok {n : Nat} (h : n < 1000000000000000) : decOk (decL n) = true := by
  obtain ⟨e1, e2, e3⟩ := dot_of_dig (decL_isDig n)
  have hl := decL_len_le (n := n) (k := 15) (by decide) (by omega)
  unfold decOk
  rw [e1, e2, e3, figs_of (decL_isDig n) (decL_ne n)]
  simp only [Bool.true_and, Bool.not_false, Bool.true_or, Bool.and_true, Bool.and_eq_true, Bool.or_eq_true, decide_eq_true_eq, bne_iff_ne, List.length_nil]
  refine ⟨?_, by omega⟩
  rcases Nat.lt_or_ge n 10 with h1 | h1
  · left; rw [decL_small h1]; simp
  · exact .inr (decL_head n h1)
theorem numV_decL : ∀ n, numV (decL n) = n := by
  intro n
  induction n using Nat.strongRecOn with
  | ind n ih =>
    by_cases h : n < 10
    · rw [decL_small h]
      show 0 * 10 + ((48 : Int) + (n : Int) - 48).toNat = n
      omega
    · rw [decL_big h, numV_snoc, ih (n / 10) (by omega)]
      omega
theorem head_dot {h t : List Int} (hh : ∀ x ∈ h, isDig x = true) : headD (h ++ 46 :: t) = h ∧ tailD (h ++ 46 :: t) = t ∧ pointD (h ++ 46 :: t) = true := by
  have e : headD (h ++ 46 :: t) = h := by
    unfold headD
    induction h with
    | nil => rfl
    | cons x r ih =>
      have hx := hh x List.mem_cons_self
      unfold isDig at hx
      simp only [Bool.and_eq_true, decide_eq_true_eq] at hx
      have : (x != 46) = true := by rw [bne_iff_ne]; omega
      rw [List.cons_append, List.takeWhile_cons, if_pos this, ih fun y hy => hh y (List.mem_cons_of_mem _ hy)]
  refine ⟨e, ?_, ?_⟩
  · unfold tailD; rw [e, ← List.drop_drop, List.drop_left]; rfl
  · unfold pointD; rw [e]; exact decide_eq_true (by simp)
/-- A whole number is one with a point. -/
theorem foi_exact {N : Nat} (hN : N < 9007199254740992) : MM (RR BB (N * 2 ^ (2 * BB))) = N * 2 ^ BB := by
  have hb : BB = 1074 := rfl
  by_cases h0 : N = 0
  · subst h0
    rw [Nat.zero_mul, RR_zero, MM_zero, Nat.zero_mul]
  · have hk : N.log2 < 53 := (Nat.pow_lt_pow_iff_right (a := 2) (by decide)).1 (Nat.lt_of_le_of_lt (le_log h0) (by simpa using hN))
    have a1 : 4503599627370496 ≤ N * 2 ^ (52 - N.log2) := by
      have := Nat.mul_le_mul_right (2 ^ (52 - N.log2)) (le_log h0)
      rwa [← Nat.pow_add, show N.log2 + (52 - N.log2) = 52 by omega] at this
    have a2 : N * 2 ^ (52 - N.log2) < 9007199254740992 := by
      have := Nat.mul_lt_mul_of_pos_right (lt_log N) (Nat.two_pow_pos (52 - N.log2))
      rwa [← Nat.pow_add, show N.log2 + 1 + (52 - N.log2) = 53 by omega] at this
    generalize BB = B at *
    have e1 : N * 2 ^ (2 * B) = N * 2 ^ (52 - N.log2) * 2 ^ (2 * B - (52 - N.log2)) := by
      rw [Nat.mul_assoc, ← Nat.pow_add, pw (show 52 - N.log2 + (2 * B - (52 - N.log2)) = 2 * B by omega)]
    have e2 : N * 2 ^ B = N * 2 ^ (52 - N.log2) * 2 ^ (B - (52 - N.log2)) := by
      rw [Nat.mul_assoc, ← Nat.pow_add, pw (show 52 - N.log2 + (B - (52 - N.log2)) = B by omega)]
    rw [e1, e2, RR_norm B a1 a2 (by omega)]
    generalize N * 2 ^ (52 - N.log2) = M at *
    unfold MM mg ex
    rw [if_neg (by omega), if_neg (by omega), pw (show ((2 * B - (52 - N.log2) - B) * 4503599627370496 + M) / 4503599627370496 - 1 = B - (52 - N.log2) by omega), show 4503599627370496 + ((2 * B - (52 - N.log2) - B) * 4503599627370496 + M) % 4503599627370496 = M by omega]
/-- A whole number's text. -/
theorem whole_show {n : Nat} (hn : n < 1000000000000000) : nan (floatOfInt .f64 (n : Int)) = false ∧ showS (floatOfInt .f64 (n : Int)) = decL n ∧ showS (Op.negFloat .f64 (floatOfInt .f64 (n : Int))) = 45 :: decL n ∧ floatOfInt .f64 (n : Int) < 9218868437227405312 := by
  have hv := foi_val BB_eq (N := n) (by omega)
  have ht := foi_top BB_eq (N := n) (by omega)
  have he := foi_exact (N := n) (by omega)
  rw [← hv] at ht he
  generalize floatOfInt .f64 (n : Int) = X at *
  have hX : X < 9218868437227405312 := by omega
  have hp := Nat.two_pow_pos BB
  have hf : flr BB X = n := by unfold flr; rw [he, Nat.mul_div_cancel _ hp]
  have hw : wholeB X = true := by
    refine whole_iff.2 ⟨?_, by rw [hf]; exact hv⟩
    rw [← MM_iff, he, W15]
    exact Nat.mul_lt_mul_of_pos_right hn hp
  obtain ⟨r1, r2⟩ := rung_small (t := X) (by omega)
  have hn0 : nan X = false := nan_pos (by omega)
  have hwd : Wd X := by unfold Wd; omega
  obtain ⟨m1, m2, _⟩ := neg_word hwd
  have hn1 : nan (Op.negFloat .f64 X) = false := by unfold nan at hn0 ⊢; rw [m1]; exact hn0
  have hr : showR X = decL n := by
    unfold showR
    rw [if_neg (by omega), hw, if_pos rfl, flr_of, hf]
  refine ⟨hn0, ?_, ?_, hX⟩
  · unfold showS; rw [hn0, r2, r1, hr]; rfl
  · unfold showS; rw [hn1, m2, m1, r2, r1, hr]; rfl
end Go.Vc
namespace Go.Proofs.YtffhlgejfgmpiaaGreatDoor
open Go.RowKit Go.Vc
variable {w : World} {R : Ending → World → Prop}
/-- A decimal number, perhaps with its sign. -/
theorem read_dec {s : ByteArray} {neg : Bool} {d : List Int} (hs : L s = sgnL neg ++ d) (hd : decOk d = true) (hT : Laid w) : Does Tryz.prog 9 #[.string s] w fun e w' => ∃ f, e = .returned (.tuple #[.float .f64 f, .bool true]) ∧ Wd f ∧ cls f = decS neg (numV (headD d ++ tailD d)) (tailD d).length ∧ Ext w w' := by
  obtain ⟨hsz, hdl, hd0, hsl⟩ := size_of hs hd
  obtain ⟨f1, f2⟩ := first_dig hs hd
  refine f9_does _ ?_
  unfold f9_vc
  rw [L_eq, L_eq, L_eq]
  have n1 : L ({ data := #[110, 97, 110] } : ByteArray) = [110, 97, 110] := by decide
  have n2 : L ({ data := #[105, 110, 102] } : ByteArray) = [105, 110, 102] := by decide
  have n3 : L ({ data := #[45, 105, 110, 102] } : ByteArray) = [45, 105, 110, 102] := by decide
  have n4 : L ({ data := #[45] } : ByteArray) = [45] := by decide
  obtain ⟨x, r, hxr⟩ : ∃ x r, d = x :: r := by
    cases d with
    | nil => simp at hd0
    | cons x r => exact ⟨x, r, rfl⟩
  subst hxr
  have f1 : 48 ≤ x := f1
  have f2 : x ≤ 57 := f2
  rw [n1, n2, n3]
  have no : ∀ (a : Int) (q : List Int), (a < 48 ∨ 57 < a) → a ≠ 45 → L s ≠ a :: q := fun a q ha hb e => by
    rw [hs] at e
    cases neg with
    | false =>
      have : x = a := (List.cons.inj e).1
      omega
    | true =>
      have : (45 : Int) = a := (List.cons.inj e).1
      omega
  have no3 : L s ≠ [45, 105, 110, 102] := fun e => by
    rw [hs] at e
    cases neg with
    | false =>
      have : x = 45 := (List.cons.inj e).1
      omega
    | true =>
      have : x = 105 := (List.cons.inj (List.cons.inj e).2).1
      omega
  refine fls (decide_eq_false (no _ _ (by decide) (by decide))) (fls (decide_eq_false (no _ _ (by decide) (by decide))) (fls (decide_eq_false no3) (trim_does _ _ fun t ht => ⟨t, rfl, ?_⟩)))
  have ht : L t = x :: r := by
    rw [ht, n4, hs]
    cases neg with
    | false =>
      have : ¬ ([45] : List Int).isPrefixOf (sgnL false ++ x :: r) = true := by
        show ¬ ([45] : List Int).isPrefixOf (x :: r) = true
        have hx : ((45 : Int) == x) = false := by rw [beq_eq_false_iff_ne]; omega
        simp [List.isPrefixOf, hx]
      rw [if_neg this]; rfl
    | true => rfl
  have hts : t.size ≤ 140737488355328 := by
    have := L_len t
    rw [ht] at this
    omega
  refine (decimal_does t hts).imp ?_
  rintro e w20 ⟨rfl, x20⟩
  rw [ht, hd]
  refine ⟨_, rfl, fls rfl ((parse_does hs hd (hT.ext x20)).imp ?_)⟩
  rintro e w29 ⟨f, rfl, g1, g2, x29⟩
  have x29 := Ext.then x20 x29
  refine ⟨_, _, rfl, true, .inl ⟨rfl, rfl⟩, fls rfl ((decimal_does t hts).imp ?_)⟩
  rintro e w36 ⟨rfl, x36⟩
  rw [ht, hd]
  exact ⟨_, rfl, fls rfl ⟨f, rfl, g1, g2, Ext.then x29 x36⟩⟩
/-- The document's digits. -/
theorem dec_does {n : Nat} (hn : n < 18446744073709551616) : Does Tryz.prog 14 #[.int .u64 (n : Int)] w fun e w' => ∃ s, e = .returned (.string s) ∧ L s = decL n ∧ Ext w w' := by
  refine f14_does _ ?_
  refine ⟨fun x t k wl => ∃ q : Nat, q = k ∧ x = (q : Int) ∧ q ≤ n ∧ (L t).length + (decL q).length ≤ 20 ∧ decL n = decL q ++ L t ∧ Ext w wl, ⟨_, n, rfl, rfl, Nat.le_refl _, by rw [L_nil]; have := decL_len_le (n := n) (k := 20) (by decide) (by omega); simpa using this, by rw [L_nil, List.append_nil], Upd.refl _ _⟩, ?_⟩
  rintro _ t _ wl ⟨q, rfl, rfl, hq, hlen, he, xl⟩
  refine ⟨by decide, fun b w8 n8 => ?_⟩
  have x8 := Ext.then xl n8.ext
  have e1 : IntKind.wrap .u8 (IntKind.wrap .u64 (48 + (q : Int).tmod 10)) = 48 + ((q % 10 : Nat) : Int) := by
    have a : (48 : Int) + (q : Int).tmod 10 = ((48 + q % 10 : Nat) : Int) := by
      show (48 : Int) + ((q % 10 : Nat) : Int) = _
      omega
    rw [a, w64 (by omega), Go.Vc.w8 (by omega)]; omega
  have e2 : IntKind.wrap .u64 ((q : Int).tdiv 10) = ((q / 10 : Nat) : Int) := w64 (n := q / 10) (by omega)
  have hk : ∀ x ∈ [48 + ((q % 10 : Nat) : Int)], InK .u8 x := fun x hx => by
    simp only [List.mem_singleton] at hx
    rw [hx]
    exact ⟨by show (0 : Int) ≤ _; omega, by show _ ≤ (255 : Int); omega⟩
  rw [e1] at n8
  have hL := L_nums hk
  have hz := L_len (strOfNums [48 + ((q % 10 : Nat) : Int)])
  have hzt := L_len t
  have hpos := decL_pos q
  rw [hL] at hz
  have hz1 : (strOfNums [48 + ((q % 10 : Nat) : Int)]).size = 1 := by rw [← hz]; rfl
  refine ⟨_, w8, conv_str Tryz.underlying50 Tryz.underlying5 Tryz.underlying9 (n8.ints (k := .u8) [48 + ((q % 10 : Nat) : Int)] rfl hk) rfl 1, by rw [hz1]; omega, by decide, ?_⟩
  rw [e2]
  refine brr (fun c => ⟨_, rfl, ?_, x8⟩) fun c => ?_
  · have c : q < 10 := by have : ((q / 10 : Nat) : Int) = 0 := by simpa using c
                          omega
    rw [L_append, hL, he, decL_small c, Nat.mod_eq_of_lt c]
  · have c : ¬ q < 10 := fun h => by rw [Nat.div_eq_of_lt h] at c; simp at c
    have hb := decL_big c
    refine ⟨q / 10, by omega, q / 10, rfl, rfl, by omega, ?_, ?_, x8⟩
    · rw [L_append, hL]
      rw [hb, List.length_append, List.length_singleton] at hlen
      simp only [List.length_append, List.length_singleton]
      omega
    · rw [L_append, hL, he, hb, List.append_assoc]
theorem awake_does : Does Tryz.prog 7 #[] w fun e w' => e = .returned (.bool true) ∧ Ext w w' := by
  refine f7_does (compare_does (by unfold Wd; decide) (by unfold Wd; decide) ⟨_, rfl, tru (by decide) ?_⟩)
  refine ⟨9218868437227405312, w, run_float_arith w .quo _ .f64 _ _ _ (by decide +kernel), compare_does (by unfold Wd; decide) (by unfold Wd; decide) ⟨_, rfl, tru (by decide) ?_⟩⟩
  obtain ⟨r, w15, hr, x15, _, hn⟩ := flt_run (P := Tryz.prog) .quo rfl 22 0 0 w
  have hnan : nan r = true := by
    rcases hn with h | ⟨_, h⟩
    · rw [show floatBits .quo .f64 0 0 = none from by decide +kernel] at h; cases h
    · exact h
  refine ⟨r, w15, hr, f8_does _ (tru (by rw [order_self]; exact hnan) ⟨_, rfl, tru (by decide +kernel) ?_⟩)⟩
  refine ⟨18442240474082181120, w15, run_float_arith w15 .quo _ .f64 _ _ _ (by decide +kernel), f8_does _ (fls (by decide +kernel) (f19_does _ _ (fls (by decide) (fls (by decide) ⟨_, rfl, fls (by decide +kernel) (f19_does _ _ (fls (by decide) (tru (by decide) ⟨_, rfl, tru (by decide +kernel) ⟨_, rfl, ?_, x15⟩⟩)))⟩))))⟩
  exact congrArg (fun b => Ending.returned (.bool b)) (by decide +kernel)
theorem cls_word {f x : Nat} (h : cls f = cls x) (hn : nan x = false) : f = x := by
  have e : cls x = some x := by unfold cls; rw [hn]; rfl
  rw [e] at h
  unfold cls at h
  split at h
  · cases h
  · exact Option.some.inj h
/-- Whole numbers, shown and read; digits with a point. -/
theorem whole_law (hT : Laid w) (hT2 : Laid2 w) {a k : Int} (ha : InK .i64 a) (hk : InK .u8 k) : Does Tryz.prog 5 #[.int .i64 a, .int .u8 k] w (Holds w) := by
  refine f5_does _ _ (awake_does.imp ?_)
  rintro e w14 ⟨rfl, x14⟩
  have hH : ∀ w', Ext w w' → Holds w (.returned (.bool true)) w' := fun _ x => ⟨rfl, x⟩
  have m45 : L ({ data := #[45] } : ByteArray) = [45] := by decide
  have m46 : L ({ data := #[46] } : ByteArray) = [46] := by decide
  refine ⟨_, rfl, fls rfl (brr (fun _ => hH _ x14) fun q1 => brr (fun _ => hH _ x14) fun q2 => ?_)⟩
  have q1 := of_decide_eq_false q1
  have q2 := of_decide_eq_false q2
  obtain ⟨n, rfl⟩ : ∃ n : Nat, a = n := ⟨a.toNat, by omega⟩
  have hn : n < 1000000000000000 := by omega
  rw [w64 (by omega)]
  refine (dec_does (by omega)).imp ?_
  rintro e w24 ⟨s, rfl, hs, x24⟩
  have x24 := Ext.then x14 x24
  have hz := L_len s
  have hl := decL_len_le (n := n) (k := 15) (by decide) (by omega)
  have hp := decL_pos n
  rw [← hs] at hl hp
  have hok := decL_ok hn
  obtain ⟨d1, d2, d3⟩ := dot_of_dig (decL_isDig n)
  obtain ⟨sh1, sh2, sh3, sh4⟩ := whole_show hn
  refine ⟨s, rfl, (read_dec (s := s) (neg := false) (d := decL n) hs hok (hT.ext x24)).imp ?_⟩
  rintro e w27 ⟨f27, rfl, g1, g2, x27⟩
  have x27 := Ext.then x24 x27
  have s45 : ({ data := #[45] } : ByteArray).size = 1 := rfl
  refine ⟨_, _, rfl, by rw [s45]; omega, (read_dec (s := ({ data := #[45] } : ByteArray) ++ s) (neg := true) (d := decL n) (by rw [L_append, m45, hs]; rfl) hok (hT.ext x27)).imp ?_⟩
  rintro e w33 ⟨f33, rfl, g3, g4, x33⟩
  have x33 := Ext.then x27 x33
  rw [d1, d2, List.append_nil, numV_decL, List.length_nil] at g2 g4
  have v27 : f27 = floatOfInt .f64 (n : Int) := by
    refine cls_word ?_ sh1
    rw [g2]
    unfold decS
    by_cases h0 : n = 0
    · subst h0; decide +kernel
    · rw [if_neg h0, if_pos rfl]; simp only [Bool.false_eq_true, if_false, if_true]
  have hwd : Wd (floatOfInt .f64 (n : Int)) := by unfold Wd; omega
  have v33 : f33 = Op.negFloat .f64 (floatOfInt .f64 (n : Int)) := by
    refine cls_word ?_ (by rw [(neg_wd hwd).2]; exact sh1)
    rw [g4]
    unfold decS
    by_cases h0 : n = 0
    · subst h0; decide +kernel
    · rw [if_neg h0, if_pos rfl]; simp only [Bool.false_eq_true, if_false, if_true]
  subst v27
  subst v33
  refine ⟨_, _, rfl, fls rfl (fls rfl ⟨_, w33, ci2f w33, fls (by rw [order_self]; exact sh1) ((show_does (hT2.ext x33) hwd).imp ?_)⟩)⟩
  rintro e w50 ⟨s50, rfl, hs50, x50⟩
  have x50 := Ext.then x33 x50
  refine ⟨s50, rfl, fls (by rw [L_eq, hs50, sh2, hs]; simp) ((show_does (hT2.ext x50) (neg_wd hwd).1).imp ?_)⟩
  rintro e w56 ⟨s56, rfl, hs56, x56⟩
  have x56 := Ext.then x50 x56
  have hk0 : 0 ≤ k := hk.1
  have hk1 : k ≤ 255 := hk.2
  obtain ⟨kk, rfl⟩ : ∃ kk : Nat, k = kk := ⟨k.toNat, by omega⟩
  have et : ((kk : Int)).tmod ((s.size : Int) + 1) = ((kk % (s.size + 1) : Nat) : Int) := rfl
  refine ⟨s56, rfl, by rw [s45]; omega, fls (by rw [L_eq, hs56, sh3, L_append, m45, hs]; simp) ⟨inI64 (by omega) (by omega), inI64 (by omega) (by omega), by omega, ?_⟩⟩
  rw [et]
  have hc := Nat.mod_lt kk (show 0 < s.size + 1 by omega)
  generalize kk % (s.size + 1) = c at *
  refine brr (fun _ => hH _ x56) fun c1 => brr (fun _ => hH _ x56) fun c2 => ⟨⟨by omega, by omega⟩, brr (fun _ => hH _ x56) fun c3 => fun wd hd => ?_⟩
  have c1 : c ≠ 0 := fun e => by rw [e] at c1; simp at c1
  have c2 : c ≠ s.size := fun e => by rw [e] at c2; simp at c2
  have xd := Ext.then x56 hd.ext
  have m : ((s.size : Int) - (c : Int)).toNat = s.size - c := by omega
  rw [m]
  have szz : ∀ a b : ByteArray, (a ++ b).size = a.size + b.size := fun a b => by rw [← L_len, L_append, List.length_append, L_len, L_len]
  have hA : L (s.extract 0 (s.size - c)) = (decL n).take (s.size - c) := by rw [L_upto (by omega), hs]
  have hB : L (s.extract (s.size - c) s.size) = (decL n).drop (s.size - c) := by rw [L_from, hs]
  have zA : (s.extract 0 (s.size - c)).size = s.size - c := by rw [← L_len, hA, List.length_take, ← hs, hz]; omega
  have zB : (s.extract (s.size - c) s.size).size = c := by rw [← L_len, hB, List.length_drop, ← hs, hz]; omega
  have s46 : ({ data := #[46] } : ByteArray).size = 1 := rfl
  have hlen : (decL n).length = s.size := by rw [← hs]; exact hz
  have digA : ∀ x ∈ (decL n).take (s.size - c), isDig x = true := fun x hx => decL_isDig n x (List.mem_of_mem_take hx)
  have digB : ∀ x ∈ (decL n).drop (s.size - c), isDig x = true := fun x hx => decL_isDig n x (List.mem_of_mem_drop hx)
  obtain ⟨k1, k2, k3⟩ := head_dot (t := (decL n).drop (s.size - c)) digA
  have hLL : L (s.extract 0 (s.size - c) ++ ({ data := #[46] } : ByteArray) ++ s.extract (s.size - c) s.size) = (decL n).take (s.size - c) ++ 46 :: (decL n).drop (s.size - c) := by
    rw [L_append, L_append, m46, hA, hB, List.append_assoc]; rfl
  have hfirst : (decL n)[0]'(by omega) ≠ 48 := by
    have e0 : sb s 0 = (L s)[0]'(by omega) := L_sb (i := 0) (by omega)
    rw [e0] at c3
    simp only [hs] at c3
    simpa using c3
  have neA : (decL n).take (s.size - c) ≠ [] := fun e => by
    have := congrArg List.length e
    rw [List.length_take, hlen, List.length_nil] at this
    omega
  have neB : (decL n).drop (s.size - c) ≠ [] := fun e => by
    have := congrArg List.length e
    rw [List.length_drop, hlen, List.length_nil] at this
    omega
  have hok2 : decOk ((decL n).take (s.size - c) ++ 46 :: (decL n).drop (s.size - c)) = true := by
    unfold decOk
    rw [k1, k2, k3, figs_of digA neA, figs_of digB neB]
    simp only [Bool.true_and, Bool.not_true, Bool.false_or, Bool.and_true, Bool.and_eq_true, Bool.or_eq_true, decide_eq_true_eq, bne_iff_ne]
    refine ⟨.inr ?_, by rw [List.length_take, List.length_drop]; omega⟩
    have h0 : 0 < ((decL n).take (s.size - c)).length := by rw [List.length_take]; omega
    rw [headD_zero h0, List.getElem_take]
    exact hfirst
  refine ⟨inI64 (by omega) (by omega), ⟨by omega, by omega⟩, by rw [zA, s46]; omega, inI64 (by omega) (by omega), ⟨by omega, by omega⟩, by rw [szz, zA, s46, zB]; omega, (read_dec (neg := false) (d := (decL n).take (s.size - c) ++ 46 :: (decL n).drop (s.size - c)) (by rw [hLL]; rfl) hok2 (hT.ext xd)).imp ?_⟩
  rintro e w95 ⟨f95, rfl, g5, g6, x95⟩
  have x95 := Ext.then xd x95
  rw [k1, k2, List.take_append_drop, numV_decL, List.length_drop, hlen, show s.size - (s.size - c) = c by omega] at g6
  have hn0 : n ≠ 0 := fun e => by
    subst e
    have : decL 0 = [48] := decL_small (by decide)
    simp only [this] at hfirst
    exact hfirst rfl
  refine ⟨_, _, rfl, fun f9 x10 n22 w22 => ∃ t : Nat, x10 = t ∧ t ≤ c ∧ n22 = c - t ∧ f9 = ten t ∧ Ext w w22, ⟨_, 0, rfl, Nat.zero_le _, rfl, ten_zero.symm, x95⟩, ?_⟩
  rintro _ _ _ w22 ⟨t, rfl, ht, rfl, rfl, x22⟩
  refine brr (fun q7 => ?_) fun q7 => tru rfl (bits_does _ ⟨_, rfl, _, w22, ci2f w22, ?_⟩)
  · have q7 := of_decide_eq_true q7
    have hm := ten_mul t (by omega)
    have hw1 : Wd (ten (t + 1)) := foi_wd _
    obtain ⟨r, w', h1, h2, h3, h4⟩ := flt_run (P := Tryz.prog) .mul rfl 22 (ten t) 4621819117588971520 w22
    refine ⟨r, w', h1, inI64 (by omega) (by omega), _, ?_, t + 1, by omega, by omega, rfl, ?_, Ext.then x22 h2⟩
    · omega
    · rcases h4 with h | ⟨h, _⟩
      · rw [hm] at h; exact (Option.some.inj h).symm
      · rw [hm] at h; cases h
  · have q7 := of_decide_eq_false q7
    have ec : t = c := by omega
    subst ec
    obtain ⟨r, w', h1, h2, h3, h4⟩ := opC_run (P := Tryz.prog) .quo rfl 22 (floatOfInt .f64 (n : Int)) (ten t) w22
    refine ⟨r, w', h1, bits_does _ ⟨_, rfl, ?_, Ext.then x22 h2⟩⟩
    have : cls f95 = cls r := by
      rw [g6, h4]
      unfold decS
      rw [if_neg hn0, if_neg c1]; simp only [Bool.false_eq_true, if_false]
    rw [cls_bits this]; simp
end Go.Proofs.YtffhlgejfgmpiaaGreatDoor
