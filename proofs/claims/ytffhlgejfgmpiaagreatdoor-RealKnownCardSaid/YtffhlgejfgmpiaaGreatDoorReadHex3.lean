/-
  Numbers read: base 16, the whole chain; what Show writes is read.
-/
import Derived.Test.YtffhlgejfgmpiaaGreatDoorReadHex2
import Derived.Test.YtffhlgejfgmpiaaGreatDoorRealDec
namespace Go.Vc
open Go.RowKit
theorem word_parts {x : Nat} (hx : Wd x) : x = sgW (sgn x) (rung x) := by
  unfold Wd at hx
  have h3 : x / 9223372036854775808 = 0 ∨ x / 9223372036854775808 = 1 := by omega
  unfold sgW sgn rung
  rcases h3 with h | h
  · rw [h, if_neg (by decide)]; omega
  · rw [h, if_pos (by decide)]; omega
theorem sgW_rung {neg : Bool} {r : Nat} (h : r < 9223372036854775808) : rung (sgW neg r) = r ∧ sgn (sgW neg r) = neg ∧ Wd (sgW neg r) := by
  unfold sgW rung sgn Wd
  cases neg with
  | false => refine ⟨by simp; omega, ?_, by simp; omega⟩
             rw [if_neg (by decide), Nat.div_eq_of_lt h]; rfl
  | true => refine ⟨by simp; omega, ?_, by simp; omega⟩
            rw [if_pos rfl, show (r + 9223372036854775808) / 9223372036854775808 = 1 by omega]; rfl
theorem neg_sgW {r : Nat} (h : r < 9223372036854775808) : Op.negFloat .f64 r = sgW true r := by
  have hw : Wd r := by unfold Wd; omega
  obtain ⟨h1, h2, _⟩ := neg_word hw
  obtain ⟨g1, g2⟩ := rung_small h
  have := word_parts (Go.Proofs.YtffhlgejfgmpiaaGreatDoor.neg_wd hw).1
  rw [h1, h2, g1, g2] at this
  exact this
theorem hex_bad (q : List Int) : decOk (48 :: 120 :: q) = false := by
  rw [Bool.eq_false_iff]
  intro h
  have := (dec_facts h).1 120 (by unfold headD; simp)
  simp [isDig] at this
end Go.Vc
namespace Go.Proofs.YtffhlgejfgmpiaaGreatDoor
open Go.RowKit Go.Vc
variable {w : World} {R : Ending → World → Prop}
theorem ninf_does (h : R (.returned (.float .f64 (sgW true infW))) w) : Does Tryz.prog 25 #[.int .i64 (-1)] w R := by
  refine f25_does _ (fls (by decide) ?_)
  refine .inr ⟨by kernel_rfl, .float .f64 (sgW true infW), w, ?_, ⟨_, rfl, h⟩⟩
  rw [run_callFunc_extern Tryz.func47 (by kernel_rfl) (by kernel_rfl) (by kernel_rfl) (e := Extern.MathFloatBits.float64frombits) (by kernel_rfl)]
  rfl
theorem special_hex {s : ByteArray} {neg : Bool} {q : List Int} (hs : L s = sgnL neg ++ 48 :: 120 :: q) (h : R (.returned (.tuple #[.float .f64 0, .int .i64 0, .bool false])) w) : Does Tryz.prog 111 #[.string s] w R := by
  refine f111_does _ ?_
  unfold f111_vc
  have hsz := L_len s
  rw [hs, List.length_append, List.length_cons] at hsz
  refine fls (by rw [beq_eq_false_iff_ne]; omega) ⟨⟨by omega, by omega⟩, ?_⟩
  cases hneg : neg with
  | false =>
    have e0 : sb s 0 = 48 := (hex_at (i := 0) [] (x := 48) (r := 120 :: q) (by rw [hs, hneg]; rfl) rfl).1
    rw [e0]
    exact fls (by decide) (fls (by decide) (fls (by decide) (fls (by decide) (fls (by decide) (fls (by decide) h)))))
  | true =>
    have e0 : sb s 0 = 45 := (hex_at (i := 0) [] (x := 45) (r := 48 :: 120 :: q) (by rw [hs, hneg]; rfl) rfl).1
    rw [e0]
    have hl1 : (sgnL neg).length = 1 := by rw [hneg]; rfl
    refine fls (by decide) (tru (by decide) ⟨⟨by omega, by omega⟩, tru (by decide) ⟨⟨by omega, by omega⟩, ?_⟩⟩)
    have hL : L (s.extract ((1 : Int).toNat) s.size) = 48 :: 120 :: q := by
      show L (s.extract 1 s.size) = _
      rw [L_from, hs, hneg]; rfl
    have hsz3 : (s.extract ((1 : Int).toNat) s.size).size = q.length + 2 := by rw [← L_len, hL]; simp
    have e1 : sb (s.extract ((1 : Int).toNat) s.size) 0 = 48 := (hex_at (i := 0) [] (x := 48) (r := 120 :: q) hL rfl).1
    have eI : sb ({ data := #[105, 110, 102, 105, 110, 105, 116, 121] } : ByteArray) 0 = 105 := by decide
    refine f129_does _ _ ⟨fun i n wl => i = 0 ∧ wl = w, ⟨0, rfl, rfl⟩, ?_⟩
    rintro _ n wl ⟨rfl, rfl⟩
    rw [e1, eI, hsz3]
    have hmin : (0 : Int) < (if ((q.length + 2 : Nat) : Int) < (({ data := #[105, 110, 102, 105, 110, 105, 116, 121] } : ByteArray).size : Int) then ((q.length + 2 : Nat) : Int) else (({ data := #[105, 110, 102, 105, 110, 105, 116, 121] } : ByteArray).size : Int)) := by
      split
      · omega
      · decide
    refine tru (decide_eq_true hmin) ⟨⟨by omega, by omega⟩, fls (by decide) ⟨⟨by omega, by decide⟩, tru (by decide) ?_⟩⟩
    exact ⟨_, rfl, fls (by decide) (fls (by decide) (fls (by decide) h))⟩
section
variable {s : ByteArray} {neg : Bool} {ds : List Nat} {r : Nat} (hs : L s = sgnL neg ++ 48 :: 120 :: (mantL ds ++ expL (nE r))) (hd : ∀ d ∈ ds, d < 16) (hl : ds.length ≤ 13) (hM : hexN (1 :: ds) * 16 ^ (13 - ds.length) = nM r) (h0 : 0 < r) (h1 : r < 9218868437227405312)
include hs hd hl hM h0 h1
theorem parse_hex (hT : Laid w) (hT3 : Laid3 w) : Does Tryz.prog 29 #[.string s, .int .i64 64] w fun e w' => e = .returned (.tuple #[.float .f64 (sgW neg r), .nilIface]) ∧ Ext w w' := by
  obtain ⟨b1, b2⟩ := nE_bounds h0 h1
  have main : Does Tryz.prog 97 #[.string s] w fun e w' => e = .returned (.tuple #[.float .f64 (sgW neg r), .int .i64 s.size, .nilIface]) ∧ Ext w w' := by
    refine f97_does _ ?_
    unfold f97_vc
    refine special_hex hs ⟨_, _, _, rfl, fls rfl (readf_hex hs hd hl b1 b2 ⟨_, _, _, _, _, _, _, rfl, fls rfl (tru rfl ⟨⟨by omega, by omega⟩, (atofhex_does hT hT3 hl hM h0 h1).imp ?_⟩)⟩)⟩
    rintro e w' ⟨rfl, x⟩
    exact ⟨_, _, rfl, rfl, x⟩
  refine f29_does _ _ (f52_does _ _ (f76_does _ _ (fls (by decide) (main.imp ?_))))
  rintro e w' ⟨rfl, x⟩
  exact ⟨_, _, _, rfl, _, _, _, rfl, fls (by simp) ⟨_, _, rfl, true, .inl ⟨rfl, rfl⟩, fls rfl ⟨rfl, x⟩⟩⟩
/-- A text in base 16 is read if it is the one that its number has. -/
theorem read_hex (hT : Laid w) (hT2 : Laid2 w) (hT3 : Laid3 w) : Does Tryz.prog 9 #[.string s] w fun e w' => e = .returned (if showS (sgW neg r) = L s then .tuple #[.float .f64 (sgW neg r), .bool true] else .tuple #[.float .f64 0, .bool false]) ∧ Ext w w' := by
  obtain ⟨b1, b2⟩ := nE_bounds h0 h1
  refine f9_does _ ?_
  unfold f9_vc
  rw [L_eq, L_eq, L_eq]
  have n1 : L ({ data := #[110, 97, 110] } : ByteArray) = [110, 97, 110] := by decide
  have n2 : L ({ data := #[105, 110, 102] } : ByteArray) = [105, 110, 102] := by decide
  have n3 : L ({ data := #[45, 105, 110, 102] } : ByteArray) = [45, 105, 110, 102] := by decide
  have n4 : L ({ data := #[45] } : ByteArray) = [45] := by decide
  have n5 : L ({ data := #[48, 120, 49] } : ByteArray) = [48, 120, 49] := by decide
  rw [n1, n2, n3]
  have k1 : L s ≠ [110, 97, 110] := fun k => by
    rw [hs] at k
    cases neg
    · have := (List.cons.inj k).1; omega
    · have := (List.cons.inj k).1; omega
  have k2 : L s ≠ [105, 110, 102] := fun k => by
    rw [hs] at k
    cases neg
    · have := (List.cons.inj k).1; omega
    · have := (List.cons.inj k).1; omega
  have k3 : L s ≠ [45, 105, 110, 102] := fun k => by
    rw [hs] at k
    cases neg
    · have := (List.cons.inj k).1; omega
    · have := (List.cons.inj (List.cons.inj k).2).1; omega
  refine fls (decide_eq_false k1) (fls (decide_eq_false k2) (fls (decide_eq_false k3) (trim_does _ _ fun t ht => ⟨t, rfl, ?_⟩)))
  have ht : L t = 48 :: 120 :: (mantL ds ++ expL (nE r)) := by
    rw [ht, n4, hs]
    cases neg <;> rfl
  have hts : t.size ≤ 1000000 := by
    have a := L_len t
    have b := mant_len ds
    have c := expL_len b1 b2
    rw [ht, List.length_cons, List.length_cons, List.length_append] at a
    split at b <;> omega
  refine (decimal_does t hts).imp ?_
  rintro e w20 ⟨rfl, x20⟩
  rw [ht, hex_bad]
  refine ⟨_, rfl, tru rfl (hasp_does _ _ ⟨_, rfl, ?_⟩)⟩
  rw [ht, n5]
  refine fls rfl ((parse_hex hs hd hl hM h0 h1 (hT.ext x20) (hT3.ext x20)).imp ?_)
  rintro e w29 ⟨rfl, x29⟩
  have x29 := Ext.then x20 x29
  refine ⟨_, _, rfl, true, .inl ⟨rfl, rfl⟩, fls rfl ((decimal_does t hts).imp ?_)⟩
  rintro e w36 ⟨rfl, x36⟩
  have x36 := Ext.then x29 x36
  rw [ht, hex_bad]
  have hr : r < 9223372036854775808 := by omega
  refine ⟨_, rfl, tru rfl ((show_does (hT2.ext x36) (sgW_rung hr).2.2).imp ?_)⟩
  rintro e w40 ⟨s40, rfl, h40, x40⟩
  have x40 := Ext.then x36 x40
  refine ⟨_, rfl, ?_⟩
  rw [L_eq, h40]
  by_cases hq : showS (sgW neg r) = L s
  · rw [if_pos hq]
    exact fls (by rw [decide_eq_true hq]; rfl) ⟨rfl, x40⟩
  · rw [if_neg hq]
    exact tru (by rw [decide_eq_false hq]; rfl) ⟨rfl, x40⟩
end
theorem hexX_mant (X : Nat) (e : Int) : hexX X e = 48 :: 120 :: (mantL (frN 13 X) ++ expL e) := by
  unfold hexX mantL
  rw [frN_map, List.cons_append]
theorem hexS_mant (r : Nat) : hexS r = 48 :: 120 :: (mantL (frN 13 (nM r - 4503599627370496)) ++ expL (nE r)) := by
  unfold hexS
  exact hexX_mant _ _
/-- What Show writes is read. -/
theorem read_show {x : Nat} (hx : Wd x) {s : ByteArray} (hs : L s = showS x) (hT : Laid w) (hT2 : Laid2 w) (hT3 : Laid3 w) : Does Tryz.prog 9 #[.string s] w fun e w' => ∃ f, e = .returned (.tuple #[.float .f64 f, .bool true]) ∧ Wd f ∧ cls f = cls x ∧ Ext w w' := by
  have n1 : L ({ data := #[110, 97, 110] } : ByteArray) = [110, 97, 110] := by decide
  have n2 : L ({ data := #[105, 110, 102] } : ByteArray) = [105, 110, 102] := by decide
  have n3 : L ({ data := #[45, 105, 110, 102] } : ByteArray) = [45, 105, 110, 102] := by decide
  cases hn : nan x with
  | true =>
    have hs : L s = [110, 97, 110] := by rw [hs]; unfold showS; rw [hn]; rfl
    refine f9_does _ ?_
    unfold f9_vc
    rw [L_eq, n1]
    exact tru (decide_eq_true hs) (nan_does fun f hf hc => ⟨f, rfl, f, rfl, hf, by rw [hc]; unfold cls; rw [hn]; rfl, Upd.refl _ _⟩)
  | false =>
    have hr1 : rung x ≤ 9218868437227405312 := by unfold nan at hn; have := of_decide_eq_false hn; omega
    have hxp := word_parts hx
    have hs : L s = sgnL (sgn x) ++ showR (rung x) := by
      rw [hs]; unfold showS; rw [hn]; rfl
    generalize hneg : sgn x = neg at *
    generalize hr : rung x = r at *
    rcases Nat.lt_or_ge r 9218868437227405312 with hlt | hge
    · cases hw : wholeB r with
      | true =>
        rw [showR_whole hlt hw] at hs
        obtain ⟨w1, w2⟩ := whole_iff.1 hw
        have hN := flr_whole w1
        generalize flr BB r = n at *
        obtain ⟨d1, d2, d3⟩ := dot_of_dig (decL_isDig n)
        refine (read_dec hs (decL_ok hN) hT).imp ?_
        rintro e w' ⟨f, rfl, g1, g2, x'⟩
        refine ⟨f, rfl, g1, ?_, x'⟩
        rw [d1, d2, List.append_nil, numV_decL, List.length_nil] at g2
        rw [g2]
        have hv : floatOfInt .f64 (n : Int) = r := by rw [w2]; exact foi_val BB_eq (by omega)
        unfold decS
        rw [hv]
        by_cases hn0 : n = 0
        · rw [if_pos hn0]
          have : r = 0 := by rw [w2, hn0, Nat.zero_mul, RR_zero]
          rw [hxp, this]
          cases neg <;> decide
        · rw [if_neg hn0, if_pos rfl, hxp]
          cases neg with
          | true => rw [if_pos rfl, neg_sgW (by omega)]
          | false => rfl
      | false =>
        have h0 : 0 < r := by
          rcases Nat.eq_zero_or_pos r with h | h
          · rw [h, whole_zero] at hw; cases hw
          · exact h
        obtain ⟨b1, b2⟩ := nM_bounds h0
        have hlead := lead_val (k := 13) (n := nM r - 4503599627370496) (by rw [show (16 : Nat) ^ 13 = 4503599627370496 by decide]; omega)
        rw [show (16 : Nat) ^ 13 = 4503599627370496 by decide, show 4503599627370496 + (nM r - 4503599627370496) = nM r by omega] at hlead
        have hdig := frN_dig (k := 13) (n := nM r - 4503599627370496) (by rw [show (16 : Nat) ^ 13 = 4503599627370496 by decide]; omega)
        have hs2 := hs
        rw [showR_hex hlt hw, hexS_mant] at hs2
        have hsx : showS (sgW neg r) = L s := by
          rw [← hxp, hs]; unfold showS; rw [hn, hneg, hr]; rfl
        refine (read_hex hs2 hdig (frN_len _ _) hlead h0 hlt hT hT2 hT3).imp ?_
        rintro e w' ⟨rfl, x'⟩
        rw [if_pos hsx]
        exact ⟨_, rfl, by rw [← hxp]; exact hx, by rw [← hxp], x'⟩
    · have : r = infW := by unfold infW; omega
      subst this
      have hsi : L s = sgnL neg ++ [105, 110, 102] := hs
      refine f9_does _ ?_
      unfold f9_vc
      rw [L_eq, L_eq, L_eq, n1, n2, n3, hsi]
      cases neg with
      | true => exact fls (by decide) (fls (by decide) (tru (by decide) (ninf_does ⟨_, rfl, _, rfl, by rw [← hxp]; exact hx, by rw [← hxp], Upd.refl _ _⟩)))
      | false => exact fls (by decide) (tru (by decide) (inf_does ⟨_, rfl, _, rfl, by unfold Wd infW; decide, by rw [hxp]; rfl, Upd.refl _ _⟩))
end Go.Proofs.YtffhlgejfgmpiaaGreatDoor
