/-
  Numbers shown: the document's own way.
-/
import Derived.Test.YtffhlgejfgmpiaaGreatDoorReadHex3
namespace Go.Vc
open Go.RowKit
theorem wu64 (n : Nat) : IntKind.wrap .u64 (n : Int) = ((n % 18446744073709551616 : Nat) : Int) := by
  show (n : Int) % 18446744073709551616 = _
  omega
theorem hex16 : ∀ d, d < 16 → sb ({ data := #[48, 49, 50, 51, 52, 53, 54, 55, 56, 57, 97, 98, 99, 100, 101, 102] } : ByteArray) ((d : Nat) : Int) = hexc d := by decide +kernel
theorem or_top52 {F : Nat} (h : F < 4503599627370496) : bits .or .u64 (F : Int) 4503599627370496 = ((4503599627370496 + F : Nat) : Int) := by
  have e : bits .or .u64 (F : Int) ((4503599627370496 : Nat) : Int) = ((F ||| 4503599627370496 : Nat) : Int) := bor (by omega) (by decide)
  have := Nat.shiftLeft_add_eq_or_of_lt (i := 52) (b := F) (by simpa using h) 1
  rw [Nat.shiftLeft_eq, show 1 * 2 ^ 52 = 4503599627370496 by decide] at this
  rw [Nat.or_comm, ← this] at e
  exact e
theorem and_low52 {y : Nat} (h : y < 18446744073709551616) : bits .and .u64 (y : Int) 4503599627370495 = ((y % 4503599627370496 : Nat) : Int) := by
  have e : bits .and .u64 (y : Int) ((4503599627370495 : Nat) : Int) = ((y &&& 4503599627370495 : Nat) : Int) := band h (by decide)
  rw [show (4503599627370495 : Nat) = 2 ^ 52 - 1 by decide, Nat.and_two_pow_sub_one_eq_mod, show (2 : Nat) ^ 52 = 4503599627370496 by decide] at e
  exact e
theorem pow_int (n k : Nat) : (n : Int) * 2 ^ k = ((n * 2 ^ k : Nat) : Int) := by
  rw [Int.natCast_mul, Int.natCast_pow]; rfl
theorem pow_int' (k : Nat) : (2 : Int) ^ k = ((2 ^ k : Nat) : Int) := by
  rw [Int.natCast_pow]; rfl
/-- A digit taken. -/
theorem take_dig {n j : Nat} (hj : j < 13) : n * (4096 * 16 ^ j) / 1152921504606846976 = n / 16 ^ (12 - j) ∧ n * (4096 * 16 ^ j) * 16 % 18446744073709551616 = n % 16 ^ (12 - j) * (4096 * 16 ^ (j + 1)) := by
  have hp := Nat.pow_pos (n := j) (show 0 < 16 by decide)
  have e1 : 1152921504606846976 = 4096 * 16 ^ j * 16 ^ (12 - j) := by
    rw [Nat.mul_assoc, ← Nat.pow_add, show j + (12 - j) = 12 by omega]
  have e2 : 18446744073709551616 = 4096 * 16 ^ j * 16 * 16 ^ (12 - j) := by
    rw [Nat.mul_assoc, Nat.mul_assoc, ← Nat.mul_assoc (16 ^ j), ← Nat.pow_succ, ← Nat.pow_add, show j + 1 + (12 - j) = 13 by omega]
  constructor
  · rw [e1, Nat.mul_comm n, Nat.mul_div_mul_left _ _ (by omega)]
  · rw [e2, show n * (4096 * 16 ^ j) * 16 = 4096 * 16 ^ j * 16 * n by rw [Nat.mul_comm n, Nat.mul_right_comm], Nat.mul_mod_mul_left, Nat.mul_comm, Nat.pow_succ]
    congr 1
    rw [Nat.mul_assoc]
end Go.Vc
namespace Go.Proofs.YtffhlgejfgmpiaaGreatDoor
open Go.RowKit Go.Vc
variable {w : World} {R : Ending → World → Prop}
theorem rshow_does {x : Nat} (hx : Wd x) : Does Tryz.prog 10 #[.float .f64 x] w fun e w' => ∃ s, e = .returned (.string s) ∧ L s = showS x ∧ Ext w w' := by
  have q63 : (2 : Int) ^ 63 = ((9223372036854775808 : Nat) : Int) := by decide
  have q52 : (2 : Int) ^ 52 = ((4503599627370496 : Nat) : Int) := by decide
  have q60 : (2 : Int) ^ 60 = ((1152921504606846976 : Nat) : Int) := by decide
  have m45 : L ({ data := #[45] } : ByteArray) = [45] := by decide
  have m46 : L ({ data := #[46] } : ByteArray) = [46] := by decide
  have m48 : L ({ data := #[48] } : ByteArray) = [48] := by decide
  have minf : L ({ data := #[105, 110, 102] } : ByteArray) = [105, 110, 102] := by decide
  have mnan : L ({ data := #[110, 97, 110] } : ByteArray) = [110, 97, 110] := by decide
  have mx : L ({ data := #[48, 120, 49] } : ByteArray) = [48, 120, 49] := by decide
  have mp : L ({ data := #[112, 43] } : ByteArray) = [112, 43] := by decide
  have mm : L ({ data := #[112, 45] } : ByteArray) = [112, 45] := by decide
  refine f10_does _ ?_
  unfold f10_vc
  refine rbits_does x ⟨_, rfl, ?_⟩
  unfold fbits
  cases hn : nan x with
  | true =>
    rw [if_pos rfl]
    refine ⟨fun s k wc => w = wc, ⟨by decide, brr (fun _ => ⟨0, rfl⟩) fun _ => ⟨0, rfl⟩⟩, ?_⟩
    rintro s4 _ _ rfl
    refine ⟨by decide, inI64 (by decide) (by decide), tru (by rw [order_self]; exact hn) ⟨_, rfl, ?_, Upd.refl _ _⟩⟩
    rw [mnan]; unfold showS; rw [hn]; rfl
  | false =>
    rw [if_neg (by decide)]
    have hx' : x < 18446744073709551616 := hx
    have hr1 : rung x ≤ 9218868437227405312 := by unfold nan at hn; have := of_decide_eq_false hn; omega
    have hxd : x / 4503599627370496 % 2048 = rung x / 4503599627370496 := by unfold rung; omega
    have hxm : x % 4503599627370496 = rung x % 4503599627370496 := by unfold rung; omega
    rw [and_exp hx', hxd]
    refine ⟨fun s k wc => L s = sgnL (sgn x) ∧ w = wc, ⟨by decide, ?_⟩, ?_⟩
    · rw [q63, fd]
      refine brr (fun q => ⟨0, ?_, rfl⟩) fun q => ⟨0, ?_, rfl⟩
      · have : sgn x = true := by
          unfold sgn
          rw [beq_iff_eq] at q ⊢; omega
        rw [this, m45]; rfl
      · have : sgn x = false := by
          unfold sgn
          rw [beq_eq_false_iff_ne] at q ⊢; omega
        rw [this]; rfl
    rintro s4 _ _ ⟨h4, rfl⟩
    have hS : showS x = sgnL (sgn x) ++ showR (rung x) := by unfold showS; rw [hn]; rfl
    have l4 : s4.size ≤ 1 := by rw [← L_len, h4]; exact sgn_len
    have z3 : ({ data := #[105, 110, 102] } : ByteArray).size = 3 := rfl
    have z16 : ({ data := #[48, 49, 50, 51, 52, 53, 54, 55, 56, 57, 97, 98, 99, 100, 101, 102] } : ByteArray).size = 16 := rfl
    have z1 : ({ data := #[48] } : ByteArray).size = 1 := rfl
    have zx : ({ data := #[48, 120, 49] } : ByteArray).size = 3 := rfl
    have zd : ({ data := #[46] } : ByteArray).size = 1 := rfl
    have zp : ({ data := #[112, 43] } : ByteArray).size = 2 := rfl
    have zm : ({ data := #[112, 45] } : ByteArray).size = 2 := rfl
    rw [hS]
    refine ⟨by decide, inI64 (by omega) (by omega), fls (by rw [order_self]; exact hn) (brr (fun q => ?_) fun q => brr (fun q2 => ?_) fun q2 => ?_)⟩
    · have q : rung x / 4503599627370496 = 2047 := by rw [beq_iff_eq] at q; omega
      have hr : rung x = 9218868437227405312 := by omega
      refine ⟨by rw [z3]; omega, _, rfl, ?_, Upd.refl _ _⟩
      rw [L_append, h4, minf, hr]; rfl
    · rw [order_eq, hn, show nan 0 = false by decide, show fval 0 = 0 by decide] at q2
      have hr : rung x = 0 := by
        have : fval x = 0 := by simpa using q2
        unfold fval at this
        split at this <;> omega
      refine ⟨by rw [z1]; omega, _, rfl, ?_, Upd.refl _ _⟩
      have hf : flr BB 0 = 0 := by unfold flr; rw [MM_zero, Nat.zero_div]
      rw [L_append, h4, m48, hr, showR_whole (by decide) whole_zero, hf, decL_small (by decide)]; rfl
    have h0 : 0 < rung x := by
      rcases Nat.eq_zero_or_pos (rung x) with h | h
      · rw [order_eq, hn, show nan 0 = false by decide, show fval 0 = 0 by decide] at q2
        have : fval x = 0 := by unfold fval; rw [h]; split <;> rfl
        rw [this] at q2; simp at q2
      · exact h
    have h1 : rung x < 9218868437227405312 := by
      have : rung x / 4503599627370496 ≠ 2047 := fun h => by rw [h] at q; simp at q
      omega
    generalize hneg : sgn x = neg at *
    generalize rung x = r at *
    have hcase : (r < 4503599627370496 ∧ mg r = r ∧ ex r = 0) ∨ (4503599627370496 ≤ r ∧ mg r = 4503599627370496 + r % 4503599627370496 ∧ ex r = r / 4503599627370496 - 1) := by
      rcases Nat.lt_or_ge r 4503599627370496 with h | h
      · exact .inl ⟨h, mg_sub h⟩
      · exact .inr ⟨h, (mgk_norm h).2.2⟩
    obtain ⟨b1, b2⟩ := nM_bounds h0
    obtain ⟨e1, e2⟩ := nE_bounds h0 h1
    have hxl := ex_le h1
    have hmk : mgk r ≤ 52 := Nat.sub_le _ _
    have hNE : nE r = (ex r : Int) - 1022 - (mgk r : Int) := rfl
    have hNM : nM r = mg r * 2 ^ mgk r := rfl
    have hwp := whole_parts (B := 1074) rfl h0
    have hsh : wholeB r = true → 0 ≤ nE r → nE r ≤ 52 → showR r = decL (nM r / 2 ^ (52 - nE r).toNat) := fun a b c => by
      rw [showR_whole h1 a, ← flr_of, whole_val (B := 1074) rfl b c]
    have hhx : wholeB r = false → showR r = hexX (nM r - 4503599627370496) (nE r) := fun a => showR_hex h1 a
    generalize nE r = E at *
    generalize nM r = N at *
    generalize mgk r = K at *
    generalize showR r = S at *
    rw [and_low52 hx', hxm]
    refine ⟨fun x5 x6 k wc => x5 = (ex r : Int) + 1 ∧ x6 = ((mg r : Nat) : Int) ∧ w = wc, brr (fun q => ?_) fun q => ?_, ?_⟩
    · have q : r / 4503599627370496 = 0 := by rw [beq_iff_eq] at q; omega
      exact ⟨0, by omega, by omega, rfl⟩
    · have q : r / 4503599627370496 ≠ 0 := fun h => by rw [h] at q; simp at q
      rw [or_top52 (Nat.mod_lt _ (by decide))]
      exact ⟨0, by omega, by omega, rfl⟩
    rintro _ _ _ _ ⟨rfl, rfl, rfl⟩
    refine ⟨fun x5 x6 k wl => ∃ j : Nat, j ≤ K ∧ k = K - j ∧ x5 = (ex r : Int) + 1 - (j : Int) ∧ x6 = ((mg r * 2 ^ j : Nat) : Int) ∧ w = wl, ⟨_, 0, Nat.zero_le _, rfl, by omega, by rw [Nat.pow_zero, Nat.mul_one], rfl⟩, ?_⟩
    rintro _ _ _ _ ⟨j, hj, rfl, rfl, rfl, rfl⟩
    rw [q52, fd]
    refine ⟨by decide, ?_⟩
    rcases Nat.lt_or_ge j K with hjl | hjl
    · have hle : mg r * 2 ^ (j + 1) ≤ N := by rw [hNM]; exact Nat.mul_le_mul_left _ (Nat.pow_le_pow_right (by decide) (by omega))
      have hX1 : mg r * 2 ^ (j + 1) = mg r * 2 ^ j * 2 := by rw [Nat.pow_succ, Nat.mul_assoc]
      refine tru (by rw [beq_iff_eq]; omega) ⟨by decide, inI64 (by omega) (by omega), K - (j + 1), by omega, j + 1, hjl, rfl, by omega, ?_, rfl⟩
      rw [show ((mg r * 2 ^ j : Nat) : Int) * 2 ^ 1 = ((mg r * 2 ^ (j + 1) : Nat) : Int) by rw [hX1]; omega]
      exact w64 (by omega)
    have hjK : j = K := by omega
    subst hjK
    rw [← hNM, show (ex r : Int) + 1 - (j : Int) = E + 1023 by omega]
    refine fls (by rw [beq_eq_false_iff_ne]; omega) ⟨inI64 (by omega) (by omega), ?_⟩
    rw [show E + 1023 - 1023 = E by omega]
    refine ⟨fun k wc => wholeB r = false ∧ w = wc, ?_, ?_⟩
    · have no : ¬ (0 ≤ E ∧ E ≤ 52 ∧ N % 2 ^ (52 - E).toNat = 0 ∧ N / 2 ^ (52 - E).toNat < 1000000000000000) → wholeB r = false := fun h => by
        rw [Bool.eq_false_iff]; exact fun k => h (hwp.1 k)
      refine brr (fun q1 => ?_) fun q1 => ⟨0, no fun h => of_decide_eq_false q1 h.1, rfl⟩
      refine brr (fun q2 => ?_) fun q2 => ⟨0, no fun h => of_decide_eq_false q2 h.2.1, rfl⟩
      have q1 := of_decide_eq_true q1
      have q2 := of_decide_eq_true q2
      obtain ⟨k, rfl⟩ : ∃ k : Nat, E = k := ⟨E.toNat, by omega⟩
      rw [show ((52 : Int) - (k : Int)).toNat = 52 - k by omega] at hwp hsh no
      rw [w64 (by omega), show (12 : Int) + (k : Int) = ((12 + k : Nat) : Int) by omega, w64 (by omega), show (52 : Int) - (k : Int) = ((52 - k : Nat) : Int) by omega, w64 (by omega), Int.toNat_natCast, Int.toNat_natCast, Nat.min_eq_left (by omega), Nat.min_eq_left (by omega), pow_int, pow_int', fd, wu64]
      have hdv : N * 2 ^ (12 + k) % 18446744073709551616 = N % 2 ^ (52 - k) * 2 ^ (12 + k) := by
        rw [show 18446744073709551616 = 2 ^ (52 - k) * 2 ^ (12 + k) by rw [← Nat.pow_add, show 52 - k + (12 + k) = 64 by omega], Nat.mul_mod_mul_right]
      rw [hdv]
      have hp := Nat.two_pow_pos (12 + k)
      refine ⟨by omega, brr (fun q3 => ?_) fun q3 => ⟨0, no fun h => ?_, rfl⟩⟩
      · have q3 : N % 2 ^ (52 - k) = 0 := by
          rw [beq_iff_eq] at q3
          have : N % 2 ^ (52 - k) * 2 ^ (12 + k) = 0 := by omega
          rcases Nat.mul_eq_zero.1 this with h | h
          · exact h
          · omega
        refine ⟨by omega, brr (fun q4 => ?_) fun q4 => ⟨0, no fun h => of_decide_eq_false q4 (by omega), rfl⟩⟩
        have q4 := of_decide_eq_true q4
        have hn15 : N / 2 ^ (52 - k) < 1000000000000000 := by omega
        have hw := hwp.2 ⟨q1, q2, q3, hn15⟩
        rw [hsh hw q1 q2]
        generalize N / 2 ^ (52 - k) = n at *
        refine ⟨by omega, (dec_does (by omega)).imp ?_⟩
        rintro e w' ⟨s, rfl, hs, x'⟩
        have hz := L_len s
        have hl := decL_len_le (n := n) (k := 15) (by decide) (by omega)
        rw [hs] at hz
        exact ⟨_, rfl, by omega, _, rfl, by rw [L_append, h4, hs], x'⟩
      · rw [h.2.2.1, Nat.zero_mul] at q3; simp at q3
    rintro _ _ ⟨hw, rfl⟩
    rw [hhx hw]
    clear hsh hhx hwp hNM
    obtain ⟨X, rfl⟩ : ∃ X, N = 4503599627370496 + X := ⟨N - 4503599627370496, by omega⟩
    rw [Nat.add_sub_cancel_left]
    have hX : X < 4503599627370496 := by omega
    have hX13 : X < 16 ^ 13 := by rw [show (16 : Nat) ^ 13 = 4503599627370496 by decide]; exact hX
    rw [pow_int, wu64, show (4503599627370496 + X) * 2 ^ 12 % 18446744073709551616 = X * 4096 by omega]
    refine ⟨by rw [zx]; omega, by decide, fun s k wc => L s = sgnL neg ++ 48 :: 120 :: 49 :: (if X = 0 then [] else [46]) ∧ w = wc, brr (fun q => ?_) fun q => ?_, ?_⟩
    · have q : X ≠ 0 := fun h => by rw [h] at q; simp at q
      refine ⟨by rw [ByteArray.size_append, zx, zd]; omega, 0, ?_, rfl⟩
      rw [L_append, L_append, h4, mx, m46, if_neg q]; simp
    · have q : X = 0 := by rw [bne_eq_false_iff_eq] at q; omega
      exact ⟨0, by rw [L_append, h4, mx, if_pos q], rfl⟩
    rintro s7 _ _ ⟨h7, rfl⟩
    refine ⟨fun s k wc => L s = sgnL neg ++ 48 :: 120 :: 49 :: ptL (frL 13 X) ∧ Ext w wc, ⟨fun s y k wl => ∃ j n : Nat, j ≤ 13 ∧ k = 13 - j ∧ n < 16 ^ (13 - j) ∧ y = ((n * (4096 * 16 ^ j) : Nat) : Int) ∧ s.size ≤ 5 + j ∧ L s ++ frL (13 - j) n = L s7 ++ frL 13 X ∧ Ext w wl, ⟨_, 0, X, Nat.zero_le _, rfl, hX13, by rw [Nat.pow_zero, Nat.mul_one], ?_, rfl, Upd.refl _ _⟩, ?_⟩, ?_⟩
    · rw [← L_len, h7, List.length_append, List.length_cons, List.length_cons, List.length_cons]
      have := sgn_len (neg := neg)
      split
      · simp; omega
      · simp; omega
    · rintro s _ _ wl ⟨j, n, hj, rfl, hn16, rfl, hsz, hcat, xl⟩
      have hp16 := Nat.pow_pos (n := j) (show 0 < 16 by decide)
      refine brr (fun q => ?_) fun q => ?_
      · have q : n ≠ 0 := fun h => by rw [h] at q; simp at q
        have hj13 : j < 13 := by
          rcases Nat.lt_or_ge j 13 with h | h
          · exact h
          · have : j = 13 := by omega
            subst this
            simp at hn16
            omega
        obtain ⟨t1, t2⟩ := take_dig (n := n) hj13
        have hd16 : n / 16 ^ (12 - j) < 16 := by
          rw [Nat.div_lt_iff_lt_mul (Nat.pow_pos (by decide)), ← Nat.pow_succ', show (12 - j).succ = 13 - j by omega]; exact hn16
        have hfr : frL (13 - j) n = hexc (n / 16 ^ (12 - j)) :: frL (13 - (j + 1)) (n % 16 ^ (12 - j)) := by
          rw [show 13 - j = 12 - j + 1 by omega]
          conv => lhs; unfold frL
          rw [if_neg q, show 13 - (j + 1) = 12 - j by omega]
        rw [q60, fd, t1, hex16 _ hd16]
        refine ⟨by decide, ⟨by omega, by rw [z16]; omega⟩, fun b w8 n8 => ?_⟩
        have hk : ∀ y ∈ [hexc (n / 16 ^ (12 - j))], InK .u8 y := fun y hy => by
          simp only [List.mem_singleton] at hy
          rw [hy]; exact hexc_inK hd16
        have hL := L_nums hk
        have hz := L_len (strOfNums [hexc (n / 16 ^ (12 - j))])
        rw [hL] at hz
        have hz1 : (strOfNums [hexc (n / 16 ^ (12 - j))]).size = 1 := by rw [← hz]; rfl
        refine ⟨_, w8, conv_str Tryz.underlying50 Tryz.underlying5 Tryz.underlying9 (n8.ints (k := .u8) [hexc (n / 16 ^ (12 - j))] rfl hk) rfl 1, by rw [hz1]; omega, by decide, 13 - (j + 1), by omega, j + 1, n % 16 ^ (12 - j), hj13, rfl, ?_, ?_, ?_, ?_, Ext.then xl n8.ext⟩
        · rw [show 13 - (j + 1) = 12 - j by omega]; exact Nat.mod_lt _ (Nat.pow_pos (by decide))
        · rw [← t2, pow_int, wu64]
        · rw [ByteArray.size_append, hz1]; omega
        · rw [L_append, hL, ← hcat, hfr, List.append_assoc]; rfl
      · have q : n = 0 := by
          rw [bne_eq_false_iff_eq] at q
          have : n * (4096 * 16 ^ j) = 0 := by omega
          rcases Nat.mul_eq_zero.1 this with h | h
          · exact h
          · omega
        subst q
        rw [frL_zero, List.append_nil] at hcat
        refine ⟨0, ?_, xl⟩
        rw [hcat, h7]
        by_cases hX0 : X = 0
        · rw [if_pos hX0, hX0, frL_zero]; simp [ptL]
        · have hne : frL 13 X ≠ [] := fun h => hX0 (frL_nil hX13 h)
          rw [if_neg hX0]; unfold ptL; rw [if_neg hne]; simp
    rintro s7b _ wc ⟨h7b, xc⟩
    have hz7 := L_len s7b
    have hpl := ptL_len X
    have hsl := sgn_len (neg := neg)
    rw [h7b, List.length_append, List.length_cons, List.length_cons, List.length_cons] at hz7
    have fin : ∀ (m t : ByteArray) (ml : List Int), L m = ml → ml ++ L t = expL E → L ((s7b ++ m) ++ t) = sgnL neg ++ hexX X E := fun m t ml hm ht => by
      unfold hexX
      rw [L_append, L_append, hm, h7b, List.append_assoc, ht]; simp
    refine brr (fun q => ?_) fun q => ?_
    · have q := of_decide_eq_true q
      obtain ⟨k, hk⟩ : ∃ k : Nat, E = -(k : Int) := ⟨(-E).toNat, by omega⟩
      rw [show (0 : Int) - E = (k : Int) by omega, w64 (by omega)]
      refine ⟨by rw [zm]; omega, inI64 (by omega) (by omega), (dec_does (by omega)).imp ?_⟩
      rintro e w' ⟨s, rfl, hs, x'⟩
      have hz := L_len s
      have hl := decL_len_le (n := k) (k := 4) (by decide) (by omega)
      rw [hs] at hz
      refine ⟨_, rfl, by rw [ByteArray.size_append, zm]; omega, _, rfl, fin _ _ _ mm ?_, Ext.then xc x'⟩
      unfold expL
      rw [if_neg (by omega), hs, show (-E).toNat = k by omega]; rfl
    · have q := of_decide_eq_false q
      obtain ⟨k, hk⟩ : ∃ k : Nat, E = (k : Int) := ⟨E.toNat, by omega⟩
      rw [hk, w64 (by omega)]
      refine ⟨by rw [zp]; omega, (dec_does (by omega)).imp ?_⟩
      rintro e w' ⟨s, rfl, hs, x'⟩
      have hz := L_len s
      have hl := decL_len_le (n := k) (k := 4) (by decide) (by omega)
      rw [hs] at hz
      refine ⟨_, rfl, by rw [ByteArray.size_append, zp]; omega, _, rfl, ?_, Ext.then xc x'⟩
      rw [← hk]
      refine fin _ _ _ mp ?_
      unfold expL
      rw [if_pos (by omega), hs, show E.toNat = k by omega]; rfl
end Go.Proofs.YtffhlgejfgmpiaaGreatDoor
