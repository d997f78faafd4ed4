/-
  Numbers read: a text in base 16.
-/
import Derived.Test.YtffhlgejfgmpiaaGreatDoorReadNum
import Derived.Test.YtffhlgejfgmpiaaGreatDoorHexPure
import Derived.Test.YtffhlgejfgmpiaaGreatDoorRealDec
import Derived.Test.YtffhlgejfgmpiaaGreatDoorVW
import Derived.Test.YtffhlgejfgmpiaaGreatDoorLaidOpen3
import Derived.LaidEqlPtr
namespace Go.Proofs.YtffhlgejfgmpiaaGreatDoor
open Go.RowKit Go.Vc
variable {w : World} {R : Ending → World → Prop}
theorem low_tab : ∀ c : Nat, c < 256 → (c = 120 ∨ c = 112 ∨ (97 ≤ c ∧ c ≤ 102)) → bits .or .u8 (c : Int) 32 = c := by decide +kernel
theorem lower_keep {c : Nat} (hc : c < 256) (h : c = 120 ∨ c = 112 ∨ (97 ≤ c ∧ c ≤ 102)) (k : R (.returned (.int .u8 (c : Int))) w) : Does Tryz.prog 132 #[.int .u8 (c : Int)] w R := by
  refine f132_does _ ?_
  unfold f132_vc
  rw [low_tab c hc h]; exact k
section
variable {s : ByteArray} {neg : Bool} {ds : List Nat} {e : Int} (hs : L s = sgnL neg ++ 48 :: 120 :: (mantL ds ++ expL e)) (hd : ∀ d ∈ ds, d < 16) (hl : ds.length ≤ 13) (he1 : -1074 ≤ e) (he2 : e ≤ 1023)
include hs
omit hs in
theorem hex_at {i : Nat} (p : List Int) {x : Int} {r : List Int} (h : L s = p ++ x :: r) (hi : i = p.length) : sb s (i : Int) = x ∧ i < s.size := by
  have hlen : i < (L s).length := by rw [h, List.length_append, List.length_cons]; omega
  refine ⟨?_, by rw [← L_len]; exact hlen⟩
  rw [L_sb hlen]
  have : (L s)[i]? = some x := by rw [h, hi, List.getElem?_append_right (Nat.le_refl _), Nat.sub_self]; rfl
  rw [List.getElem?_eq_getElem hlen] at this
  exact Option.some.inj this
theorem hex_size : s.size = (sgnL neg).length + 2 + (mantL ds).length + (expL e).length := by
  have := L_len s
  rw [hs, List.length_append, List.length_cons, List.length_cons, List.length_append] at this
  omega
theorem hex_mant {j : Nat} (hj : j < (mantL ds).length) : sb s (((sgnL neg).length + 2 + j : Nat) : Int) = (mantL ds)[j] := by
  refine (hex_at (sgnL neg ++ [48, 120] ++ (mantL ds).take j) (r := (mantL ds).drop (j + 1) ++ expL e) ?_ ?_).1
  · have e1 : mantL ds ++ expL e = (mantL ds).take j ++ (mantL ds)[j] :: ((mantL ds).drop (j + 1) ++ expL e) := by
      rw [← List.cons_append, ← List.append_assoc, ← List.drop_eq_getElem_cons hj, List.take_append_drop]
    rw [hs]
    simp only [List.append_assoc, List.cons_append, List.nil_append]
    rw [← e1]
  · rw [List.length_append, List.length_append, List.length_take]; simp; omega
theorem hex_exp {t : Nat} (ht : t < (expL e).length) : sb s (((sgnL neg).length + 2 + (mantL ds).length + t : Nat) : Int) = (expL e)[t] := by
  refine (hex_at (sgnL neg ++ [48, 120] ++ mantL ds ++ (expL e).take t) (r := (expL e).drop (t + 1)) ?_ ?_).1
  · rw [hs]
    conv => lhs; rw [← List.take_append_drop t (expL e), List.drop_eq_getElem_cons ht]
    simp
  · rw [List.length_append, List.length_append, List.length_append, List.length_take]; simp; omega
omit hs in
theorem sgn_len : (sgnL neg).length ≤ 1 := by cases neg <;> decide
omit hs in
/-- The exponent's text. -/
theorem exp_text : ∃ (sg : Int) (D : List Int), expL e = 112 :: sg :: D ∧ D = decL e.natAbs ∧ ((sg = 43 ∧ 0 ≤ e) ∨ (sg = 45 ∧ e < 0)) := by
  unfold expL
  split
  · exact ⟨43, _, rfl, by congr 1; omega, .inl ⟨rfl, by assumption⟩⟩
  · exact ⟨45, _, rfl, by congr 1; omega, .inr ⟨rfl, by omega⟩⟩
include hd hl he1 he2
theorem readf_hex (h : R (.returned (.tuple #[.int .u64 (hexN (1 :: ds)), .int .i64 (e - 4 * (ds.length : Int)), .bool neg, .bool false, .bool true, .int .i64 s.size, .bool true])) w) : Does Tryz.prog 112 #[.string s] w R := by
  have hz := hex_size hs
  have hsl := sgn_len (neg := neg)
  have hml := mant_len ds
  have hm1 : 1 ≤ (mantL ds).length := by rw [hml]; split <;> omega
  have hm2 : (mantL ds).length ≤ 15 := by rw [hml]; split <;> omega
  obtain ⟨sg, D, hx, hD, hsg⟩ := exp_text (e := e)
  have hxl : (expL e).length = D.length + 2 := by rw [hx]; rfl
  have hDl : D.length ≤ 4 := by rw [hD]; exact decL_len_le (by decide) (by omega)
  have hDp : 1 ≤ D.length := by rw [hD]; exact decL_pos _
  have c0 : sb s (((sgnL neg).length : Nat) : Int) = 48 := (hex_at (sgnL neg) hs rfl).1
  have c1 : sb s (((sgnL neg).length + 1 : Nat) : Int) = 120 := (hex_at (sgnL neg ++ [48]) (x := 120) (r := mantL ds ++ expL e) (by rw [hs]; simp) (by simp)).1
  have n0 : neg = true → sb s 0 = 45 := fun hn => by
    subst hn
    exact (hex_at (i := 0) [] (x := 45) (r := 48 :: 120 :: (mantL ds ++ expL e)) hs rfl).1
  refine f112_does _ (fls (decide_eq_false (by omega)) ⟨fun b x n wc => neg = b ∧ x = ((sgnL neg).length : Int) ∧ wc = w, ⟨⟨by omega, by omega⟩, ?_⟩, ?_⟩)
  · cases hneg : neg with
    | false =>
      have : sb s 0 = 48 := by have := c0; rw [hneg] at this; exact this
      rw [this]
      exact fls (by decide) (fls (by decide) ⟨0, rfl, rfl, rfl⟩)
    | true =>
      rw [n0 hneg]
      exact fls (by decide) (tru (by decide) ⟨by decide, 0, rfl, rfl, rfl⟩)
  rintro _ _ _ wc1 ⟨rfl, rfl, rfl⟩
  refine ⟨fun b x y z c n wc => b = true ∧ x = ((sgnL b).length : Int) - (sgnL b).length + (sgnL neg).length + 2 ∧ y = 16 ∧ z = 16 ∧ c = 112 ∧ wc = wc1, ⟨inI64 (by omega) (by omega), tru (decide_eq_true (by omega)) ⟨⟨by omega, by omega⟩, ?_⟩⟩, ?_⟩
  · rw [c0]
    refine tru rfl ⟨inI64 (by omega) (by omega), ⟨by omega, by omega⟩, ?_⟩
    rw [show ((sgnL neg).length : Int) + 1 = (((sgnL neg).length + 1 : Nat) : Int) by omega, c1]
    exact lower_keep (c := 120) (by decide) (.inl rfl) ⟨_, rfl, tru rfl ⟨inI64 (by omega) (by omega), 0, rfl, by omega, rfl, rfl, rfl, rfl⟩⟩
  rintro _ _ _ _ _ _ wc2 ⟨rfl, rfl, rfl, rfl, rfl, rfl⟩
  rw [show ((sgnL true).length : Int) - (sgnL true).length + (sgnL neg).length + 2 = (((sgnL neg).length + 2 + 0 : Nat) : Int) by omega]
  -- the digits
  refine ⟨fun x2 b5 x7 b9 b13 b14 x15 x16 x17 n wc => x2 = ((hexN (1 :: ds) : Nat) : Int) ∧ b5 = false ∧ x7 = (((sgnL neg).length + 2 + (mantL ds).length : Nat) : Int) ∧ b9 = false ∧ b13 = decide (2 ≤ (mantL ds).length) ∧ b14 = true ∧ x15 = ((ds.length + 1 : Nat) : Int) ∧ x16 = ((ds.length + 1 : Nat) : Int) ∧ (2 ≤ (mantL ds).length → x17 = 1) ∧ wc = wc2,
    ⟨fun x2 b5 x7 b9 b13 b14 x15 x16 x17 n wl => ∃ j : Nat, j ≤ (mantL ds).length ∧ n = (mantL ds).length - j ∧ x7 = (((sgnL neg).length + 2 + j : Nat) : Int) ∧ x2 = ((hexN (digN ds j) : Nat) : Int) ∧ b5 = false ∧ b9 = false ∧ b13 = decide (2 ≤ j) ∧ b14 = decide (1 ≤ j) ∧ x15 = (((digN ds j).length : Nat) : Int) ∧ x16 = x15 ∧ x17 = (if 2 ≤ j then 1 else 0) ∧ wl = wc2,
      ⟨_, 0, Nat.zero_le _, rfl, rfl, rfl, rfl, rfl, rfl, rfl, rfl, rfl, rfl, rfl⟩, ?_⟩, ?_⟩
  · rintro _ _ _ _ _ _ _ _ _ _ wl ⟨j, hj, rfl, rfl, rfl, rfl, rfl, rfl, rfl, rfl, rfl, rfl, rfl⟩
    have hdl := digN_len hj
    have hlt := digN_lt hd j
    refine tru (decide_eq_true (by omega)) ?_
    rcases Nat.lt_or_ge j (mantL ds).length with hjm | hjm
    · have hc := hex_mant hs hjm
      refine ⟨fun x2 b5 b9 b13 b14 x15 x16 x17 n wc => x2 = ((hexN (digN ds (j + 1)) : Nat) : Int) ∧ b5 = false ∧ b9 = false ∧ b13 = decide (2 ≤ j + 1) ∧ b14 = true ∧ x15 = (((digN ds (j + 1)).length : Nat) : Int) ∧ x16 = x15 ∧ x17 = (if 2 ≤ j + 1 then 1 else 0) ∧ wc = wl, ⟨⟨by omega, by omega⟩, ?_⟩, ?_⟩
      · rw [hc]
        have hcase : (∃ d : Nat, d < 16 ∧ digN ds (j + 1) = digN ds j ++ [d] ∧ (j = 0 → d ≠ 0) ∧ j ≠ 1 ∧ (mantL ds)[j] = hexc d) ∨ (j = 1 ∧ (mantL ds)[j] = 46) := by
          rcases mant_at hjm with ⟨h0, h49⟩ | h46 | ⟨h2, hjd, hcj⟩
          · subst h0
            exact .inl ⟨1, by decide, rfl, fun _ => by decide, by decide, by rw [h49]; decide⟩
          · exact .inr h46
          · exact .inl ⟨_, hd _ (List.getElem_mem hjd), digN_next h2 hjd, fun h0 => by omega, by omega, hcj⟩
        rcases hcase with ⟨d, hd16, hnx, hj0, hj1, hcd⟩ | ⟨rfl, h46⟩
        · rw [hcd]
          have hN : hexN (digN ds (j + 1)) = hexN (digN ds j) * 16 + d := by rw [hnx, hexN_snoc]
          have hL1 : (digN ds (j + 1)).length = (digN ds j).length + 1 := by rw [hnx]; simp
          have hlen13 : (digN ds j).length ≤ 13 := by rw [hdl]; split <;> omega
          have hbig : hexN (digN ds j) * 16 + d < 72057594037927936 := by
            have h1 : 16 ^ (digN ds j).length ≤ 16 ^ 13 := Nat.pow_le_pow_right (by decide) hlen13
            have h2 : (16 : Nat) ^ 13 = 4503599627370496 := by decide
            omega
          have ew : IntKind.wrap .u64 (((hexN (digN ds j) : Nat) : Int) * 16) = ((hexN (digN ds j) * 16 : Nat) : Int) := by
            rw [show ((hexN (digN ds j) : Nat) : Int) * 16 = ((hexN (digN ds j) * 16 : Nat) : Int) by omega]; exact w64 (by omega)
          have es : ((hexN (digN ds j) * 16 : Nat) : Int) + (d : Int) = ((hexN (digN ds (j + 1)) : Nat) : Int) := by rw [hN]; omega
          have e17 : (if 2 ≤ j then (1 : Int) else 0) = if 2 ≤ j + 1 then 1 else 0 := by split <;> split <;> omega
          have e13 : decide (2 ≤ j) = decide (2 ≤ j + 1) := by rw [decide_eq_decide]; omega
          have fin : (∃ nc24 : Nat, ((hexN (digN ds (j + 1)) : Nat) : Int) = ((hexN (digN ds (j + 1)) : Nat) : Int) ∧ false = false ∧ false = false ∧ decide (2 ≤ j) = decide (2 ≤ j + 1) ∧ true = true ∧ ((digN ds j).length : Int) + 1 = (((digN ds (j + 1)).length : Nat) : Int) ∧ ((digN ds j).length : Int) + 1 = ((digN ds j).length : Int) + 1 ∧ (if 2 ≤ j then (1 : Int) else 0) = (if 2 ≤ j + 1 then 1 else 0) ∧ wl = wl) := ⟨0, rfl, rfl, rfl, e13, rfl, by rw [hL1]; omega, rfl, e17, rfl⟩
          rcases hexc_range hd16 with ⟨a1, a2, a3, a4⟩ | ⟨a1, a2, a3, a4⟩
          · have e8 : IntKind.wrap .u64 (IntKind.wrap .u8 (hexc d - 48)) = (d : Int) := by
              rw [a4, show (48 : Int) + (d : Int) - 48 = (d : Int) by omega, Go.Vc.w8 (by omega), w64 (by omega)]
            have upd : InK .i64 (((digN ds j).length : Int) + 1) ∧ Br (decide (((digN ds j).length : Int) < 16)) (InK .i64 (((digN ds j).length : Int) + 1) ∧ (∃ nc24 : Nat, IntKind.wrap .u64 ((IntKind.wrap .u64 (((hexN (digN ds j) : Nat) : Int) * 16)) + (IntKind.wrap .u64 (IntKind.wrap .u8 (hexc d - 48)))) = ((hexN (digN ds (j + 1)) : Nat) : Int) ∧ false = false ∧ false = false ∧ decide (2 ≤ j) = decide (2 ≤ j + 1) ∧ true = true ∧ ((digN ds j).length : Int) + 1 = (((digN ds (j + 1)).length : Nat) : Int) ∧ ((digN ds j).length : Int) + 1 = ((digN ds j).length : Int) + 1 ∧ (if 2 ≤ j then (1 : Int) else 0) = (if 2 ≤ j + 1 then 1 else 0) ∧ wl = wl)) True := by
              refine ⟨inI64 (by omega) (by omega), ⟨fun _ => ⟨inI64 (by omega) (by omega), ?_⟩, fun _ => trivial⟩⟩
              rw [ew, e8, es, w64 (by omega)]
              exact fin
            refine fls (by rw [beq_eq_false_iff_ne]; simp; omega) (fls (by rw [beq_eq_false_iff_ne]; simp; omega) (tru (decide_eq_true a1) (tru (by rw [decide_eq_true a2]; rfl) (brr (fun q => ?_) fun q => ?_))))
            · have q : hexc d = 48 := by simpa using q
              have hjj : j ≠ 0 := fun h0 => hj0 h0 (by omega)
              refine fls (by rw [beq_eq_false_iff_ne, hdl]; split <;> omega) ⟨upd.1, tru (decide_eq_true (by omega)) (upd.2.1 (decide_eq_true (by omega)))⟩
            · exact ⟨upd.1, tru (decide_eq_true (by omega)) (upd.2.1 (decide_eq_true (by omega)))⟩
          · have hcc : hexc d = ((87 + d : Nat) : Int) := by rw [a4]; omega
            have e8 : IntKind.wrap .u64 (IntKind.wrap .u8 ((IntKind.wrap .u8 (hexc d - 97)) + 10)) = (d : Int) := by
              rw [a4, show (87 : Int) + (d : Int) - 97 = ((d - 10 : Nat) : Int) by omega, Go.Vc.w8 (by omega), show ((d - 10 : Nat) : Int) + 10 = ((d : Nat) : Int) by omega, Go.Vc.w8 (by omega), w64 (by omega)]
            have low : ∀ {R' : Ending → World → Prop}, R' (.returned (.int .u8 (hexc d))) wl → Does Tryz.prog 132 #[.int .u8 (hexc d)] wl R' := fun {R'} k => by
              rw [hcc] at k ⊢
              exact lower_keep (by omega) (.inr (.inr ⟨by omega, by omega⟩)) k
            refine fls (by rw [beq_eq_false_iff_ne]; simp; omega) (fls (by rw [beq_eq_false_iff_ne]; simp; omega) (tru (decide_eq_true (by omega)) (fls (by rw [decide_eq_false (by omega)]; rfl) (tru rfl (low ⟨_, rfl, tru (decide_eq_true (by omega)) (low ⟨_, rfl, tru (by rw [decide_eq_true (by omega)]; rfl) ⟨inI64 (by omega) (by omega), tru (decide_eq_true (by omega)) (low ⟨_, rfl, inI64 (by omega) (by omega), ?_⟩)⟩⟩)⟩)))))
            rw [ew, e8, es, w64 (by omega)]
            exact fin
        · rw [h46]
          exact fls (by decide) (tru (by decide) (fls (by decide) ⟨0, rfl, rfl, rfl, rfl, rfl, rfl, rfl, rfl, rfl⟩))
      · rintro _ _ _ _ _ _ _ _ _ wc ⟨rfl, rfl, rfl, rfl, rfl, rfl, rfl, rfl, rfl⟩
        exact ⟨inI64 (by omega) (by omega), (mantL ds).length - (j + 1), by omega, j + 1, by omega, rfl, by omega, rfl, rfl, rfl, rfl, (decide_eq_true (by omega)).symm, rfl, rfl, rfl, rfl⟩
    · have hjm : j = (mantL ds).length := by omega
      have hc : sb s (((sgnL neg).length + 2 + j : Nat) : Int) = ((112 : Nat) : Int) := by
        have := hex_exp hs (t := 0) (by omega)
        rw [Nat.add_zero, ← hjm] at this
        rw [this]
        simp [hx]
      have low : ∀ {R' : Ending → World → Prop}, R' (.returned (.int .u8 ((112 : Nat) : Int))) wl → Does Tryz.prog 132 #[.int .u8 ((112 : Nat) : Int)] wl R' := fun {R'} k => lower_keep (by decide) (.inr (.inl rfl)) k
      have hda : digN ds j = 1 :: ds := by rw [hjm]; exact digN_all
      refine ⟨fun _ _ _ _ _ _ _ _ _ _ => False, ⟨⟨by omega, by omega⟩, ?_⟩, fun _ _ _ _ _ _ _ _ _ _ k => k.elim⟩
      rw [hc]
      refine fls (by decide) (fls (by decide) (tru (by decide) (fls (by decide) (tru rfl (low ⟨_, rfl, tru (by decide) (low ⟨_, rfl, fls (by decide) ⟨0, by rw [hda], rfl, by rw [hjm], rfl, by rw [hjm], decide_eq_true (by omega), by rw [hda]; simp, by rw [hda]; simp, fun h2 => by rw [if_pos (by omega)], rfl⟩⟩)⟩)))))
  rintro _ _ _ _ _ _ _ _ x17 _ wc3 ⟨rfl, rfl, rfl, rfl, rfl, rfl, rfl, rfl, h17, rfl⟩
  -- behind them
  refine fls rfl ⟨fun x n wc => x = 1 ∧ wc = wc3, ?_, ?_⟩
  · refine brr (fun q => ⟨0, ?_, rfl⟩) fun q => ⟨0, h17 (by simpa using q), rfl⟩
    have q : ¬ 2 ≤ (mantL ds).length := by simpa using q
    rw [hml] at q
    split at q
    · rename_i h0; rw [h0]; rfl
    · omega
  rintro _ _ wc4 ⟨rfl, rfl⟩
  refine ⟨fun x y n wc => x = ((ds.length + 1 : Nat) : Int) * 4 ∧ y = 4 ∧ wc = wc4, tru rfl ⟨inI64 (by omega) (by omega), 0, rfl, by decide, rfl⟩, ?_⟩
  rintro _ _ _ wc5 ⟨rfl, rfl, rfl⟩
  have hx0 : sb s (((sgnL neg).length + 2 + (mantL ds).length : Nat) : Int) = ((112 : Nat) : Int) := by
    have := hex_exp hs (t := 0) (by omega)
    rw [Nat.add_zero] at this
    rw [this]; simp [hx]
  have hx1 : sb s (((sgnL neg).length + 2 + (mantL ds).length : Nat) + 1 : Int) = sg := by
    have := hex_exp hs (t := 1) (by omega)
    rw [show (((sgnL neg).length + 2 + (mantL ds).length : Nat) + 1 : Int) = (((sgnL neg).length + 2 + (mantL ds).length + 1 : Nat) : Int) by omega, this]
    simp [hx]
  have hxd : ∀ t (ht : t < D.length), sb s (((sgnL neg).length + 2 + (mantL ds).length + 2 + t : Nat) : Int) = D[t] := fun t ht => by
    have := hex_exp hs (t := 2 + t) (by omega)
    rw [show (sgnL neg).length + 2 + (mantL ds).length + 2 + t = (sgnL neg).length + 2 + (mantL ds).length + (2 + t) by omega, this]
    have : (expL e)[2 + t]? = some D[t] := by
      rw [hx, show 2 + t = t + 1 + 1 by omega, List.getElem?_cons_succ, List.getElem?_cons_succ, List.getElem?_eq_getElem ht]
    rw [List.getElem?_eq_getElem (by omega)] at this
    exact Option.some.inj this
  have hDd : ∀ t (ht : t < D.length), 48 ≤ D[t] ∧ D[t] ≤ 57 := fun t ht => by
    have hm : ∀ x ∈ D, 48 ≤ x ∧ x ≤ 57 := by rw [hD]; exact decL_dig _
    exact hm _ (List.getElem_mem ht)
  refine ⟨fun x b y n wc => x = (s.size : Int) ∧ b = false ∧ y = 4 + e ∧ wc = wc5, tru (decide_eq_true (by omega)) ⟨⟨by omega, by omega⟩, ?_⟩, ?_⟩
  · rw [hx0]
    refine lower_keep (by decide) (.inr (.inl rfl)) ⟨_, rfl, tru rfl ⟨inI64 (by omega) (by omega), fls (decide_eq_false (by omega)) ⟨fun x y n wc => x = (((sgnL neg).length + 2 + (mantL ds).length + 2 + 0 : Nat) : Int) ∧ y = (if e < 0 then -1 else 1) ∧ wc = wc5, ⟨⟨by omega, by omega⟩, ?_⟩, ?_⟩⟩⟩
    · rw [hx1]
      rcases hsg with ⟨rfl, h0⟩ | ⟨rfl, h0⟩
      · exact tru rfl ⟨inI64 (by omega) (by omega), 0, by omega, by rw [if_neg (by omega)], rfl⟩
      · exact fls (by decide) (tru rfl ⟨inI64 (by omega) (by omega), 0, by omega, by rw [if_pos h0], rfl⟩)
    rintro _ _ _ wc6 ⟨rfl, rfl, rfl⟩
    have d0 := hDd 0 (by omega)
    refine fls (decide_eq_false (by omega)) ⟨⟨by omega, by omega⟩, ?_⟩
    rw [hxd 0 (by omega)]
    refine fls (decide_eq_false (by omega)) ⟨⟨by omega, by omega⟩, fls (decide_eq_false (by omega)) ⟨fun x b y n wc => x = (s.size : Int) ∧ b = false ∧ y = (e.natAbs : Int) ∧ wc = wc6, ⟨fun x b y n wl => ∃ t : Nat, t ≤ D.length ∧ n = D.length - t ∧ x = (((sgnL neg).length + 2 + (mantL ds).length + 2 + t : Nat) : Int) ∧ b = false ∧ y = ((numV (D.take t) : Nat) : Int) ∧ wl = wc6, ⟨_, 0, Nat.zero_le _, rfl, rfl, rfl, rfl, rfl⟩, ?_⟩, ?_⟩⟩
    · rintro _ _ _ _ wl ⟨t, ht, rfl, rfl, rfl, rfl, rfl⟩
      refine brr (fun q => ?_) fun q => ?_
      · have q := of_decide_eq_true q
        have htl : t < D.length := by omega
        have dt := hDd t htl
        rw [hxd t htl]
        have hval : numV (D.take t) < 10000 := by
          have h1 := numV_lt (l := D.take t) fun x hx' => by
            have := List.mem_of_mem_take hx'
            rw [hD] at this
            have := decL_dig _ _ this
            unfold isDig; simp only [Bool.and_eq_true, decide_eq_true_eq]; exact this
          have h2 : (10 : Nat) ^ (D.take t).length ≤ 10 ^ 4 := Nat.pow_le_pow_right (by decide) (by rw [List.length_take]; omega)
          have h3 : (10 : Nat) ^ 4 = 10000 := by decide
          omega
        have hsn : numV (D.take (t + 1)) = numV (D.take t) * 10 + (D[t] - 48).toNat := by rw [List.take_succ_eq_append_getElem htl, numV_snoc]
        refine ⟨⟨by omega, by omega⟩, tru (decide_eq_true dt.1) ⟨⟨by omega, by omega⟩, tru (decide_eq_true dt.2) ⟨fun b y n wc => b = false ∧ y = ((numV (D.take (t + 1)) : Nat) : Int) ∧ wc = wl, ⟨⟨by omega, by omega⟩, fls (by rw [beq_eq_false_iff_ne]; omega) (tru (decide_eq_true (by omega)) ⟨inI64 (by omega) (by omega), ⟨by omega, by omega⟩, inI64 (by omega) (by omega), inI64 (by omega) (by omega), inI64 (by omega) (by omega), 0, rfl, by rw [hsn]; omega, rfl⟩)⟩, ?_⟩⟩⟩
        rintro _ _ _ wc ⟨rfl, rfl, rfl⟩
        exact ⟨inI64 (by omega) (by omega), D.length - (t + 1), by omega, t + 1, by omega, rfl, by omega, rfl, rfl, rfl⟩
      · have q := of_decide_eq_false q
        have htl : t = D.length := by omega
        refine ⟨0, by omega, rfl, ?_, rfl⟩
        rw [htl, List.take_length, hD]
        have := numV_decL e.natAbs
        rw [this]
    rintro _ _ _ _ wc7 ⟨rfl, rfl, rfl, rfl⟩
    refine ⟨?_, 0, rfl, rfl, ?_, rfl⟩
    · split <;> exact inI64 (by omega) (by omega)
    · rw [wrap_in]
      · split <;> omega
      · split <;> exact inI64 (by omega) (by omega)
  rintro _ _ _ _ wc8 ⟨rfl, rfl, rfl, rfl⟩
  have hM : (((hexN (1 :: ds) : Nat) : Int) != 0) = true := by
    rw [bne_iff_ne, hexN_cons]
    have := Nat.pow_pos (n := ds.length) (show 0 < 16 by decide)
    omega
  refine ⟨fun x n wc => x = e - 4 * (ds.length : Int) ∧ wc = wc8, tru hM ⟨0, ?_, rfl⟩, ?_⟩
  · rw [wrap_in (inI64 (by omega) (by omega))]; omega
  rintro _ _ wc9 ⟨rfl, rfl⟩
  exact fls rfl h
end
end Go.Proofs.YtffhlgejfgmpiaaGreatDoor

/-
  Numbers read: base 16, the number itself.
-/
namespace Go.Vc
open Go.RowKit
theorem band {a b : Nat} (ha : a < 18446744073709551616) (hb : b < 18446744073709551616) : bits .and .u64 (a : Int) (b : Int) = ((a &&& b : Nat) : Int) := by
  show IntKind.u64.wrap (((BitVec.ofInt 64 (a : Int)) &&& (BitVec.ofInt 64 (b : Int))).toNat : Int) = _
  rw [BitVec.toNat_and, BitVec.ofInt_natCast, BitVec.ofInt_natCast, BitVec.toNat_ofNat, BitVec.toNat_ofNat, Nat.mod_eq_of_lt (a := a) (by omega), Nat.mod_eq_of_lt (a := b) (by omega)]
  exact w64 (Nat.lt_of_le_of_lt Nat.and_le_left ha)
theorem bor {a b : Nat} (ha : a < 18446744073709551616) (hb : b < 18446744073709551616) : bits .or .u64 (a : Int) (b : Int) = ((a ||| b : Nat) : Int) := by
  show IntKind.u64.wrap (((BitVec.ofInt 64 (a : Int)) ||| (BitVec.ofInt 64 (b : Int))).toNat : Int) = _
  rw [BitVec.toNat_or, BitVec.ofInt_natCast, BitVec.ofInt_natCast, BitVec.toNat_ofNat, BitVec.toNat_ofNat, Nat.mod_eq_of_lt (a := a) (by omega), Nat.mod_eq_of_lt (a := b) (by omega)]
  exact w64 (Nat.or_lt_two_pow (n := 64) (by simpa using ha) (by simpa using hb))
theorem band_i {a b : Nat} (ha : a < 9223372036854775808) (hb : b < 9223372036854775808) : bits .and .i64 (a : Int) (b : Int) = ((a &&& b : Nat) : Int) := by
  show IntKind.i64.wrap (((BitVec.ofInt 64 (a : Int)) &&& (BitVec.ofInt 64 (b : Int))).toNat : Int) = _
  rw [BitVec.toNat_and, BitVec.ofInt_natCast, BitVec.ofInt_natCast, BitVec.toNat_ofNat, BitVec.toNat_ofNat, Nat.mod_eq_of_lt (a := a) (by omega), Nat.mod_eq_of_lt (a := b) (by omega)]
  have : a &&& b ≤ a := Nat.and_le_left
  exact wrap_in (inI64 (by omega) (by omega))
theorem sticky {Y : Nat} (h : Y < 9007199254740992) : bits .or .u64 ((((2 * Y : Nat) : Int)).fdiv (2 ^ 1)) (bits .and .u64 ((2 * Y : Nat) : Int) 1) = (Y : Int) := by
  have e1 : (((2 * Y : Nat) : Int)).fdiv (2 ^ 1) = (Y : Int) := by
    show (((2 * Y : Nat) : Int)).fdiv ((2 : Nat) : Int) = _
    rw [fd]; omega
  have e2 : bits .and .u64 ((2 * Y : Nat) : Int) ((1 : Nat) : Int) = ((0 : Nat) : Int) := by
    rw [band (by omega) (by decide), Nat.and_one_is_mod]; omega
  have e2 : bits .and .u64 ((2 * Y : Nat) : Int) 1 = ((0 : Nat) : Int) := e2
  rw [e1, e2, bor (by omega) (by decide), Nat.or_zero]
theorem round_bits {m : Nat} (h : m < 9007199254740992) : (((4 * m : Nat) : Int)).fdiv (2 ^ 2) = (m : Int) ∧ bits .or .u64 (bits .and .u64 ((4 * m : Nat) : Int) 3) (bits .and .u64 (m : Int) 1) = ((m % 2 : Nat) : Int) := by
  have e1 : (((4 * m : Nat) : Int)).fdiv (2 ^ 2) = (m : Int) := by
    show (((4 * m : Nat) : Int)).fdiv ((4 : Nat) : Int) = _
    rw [fd]; omega
  have e2 : bits .and .u64 ((4 * m : Nat) : Int) ((3 : Nat) : Int) = ((0 : Nat) : Int) := by
    rw [band (by omega) (by decide), show (3 : Nat) = 2 ^ 2 - 1 by decide, Nat.and_two_pow_sub_one_eq_mod]; omega
  have e2 : bits .and .u64 ((4 * m : Nat) : Int) 3 = ((0 : Nat) : Int) := e2
  have e3 : bits .and .u64 (m : Int) ((1 : Nat) : Int) = ((m % 2 : Nat) : Int) := by
    rw [band (by omega) (by decide), Nat.and_one_is_mod]
  have e3 : bits .and .u64 (m : Int) 1 = ((m % 2 : Nat) : Int) := e3
  exact ⟨e1, by rw [e2, e3, bor (by decide) (by omega), Nat.zero_or]⟩
/-- A word, put together. -/
theorem word_bits {r : Nat} (h : r < 9218868437227405312) : bits .or .u64 (bits .and .u64 ((mg r : Nat) : Int) 4503599627370495) (IntKind.wrap .u64 ((IntKind.wrap .u64 (bits .and .i64 ((r / 4503599627370496 : Nat) : Int) 2047)) * 4503599627370496)) = (r : Int) := by
  have hm := mg_lt r
  have hm2 : mg r % 4503599627370496 = r % 4503599627370496 := by unfold mg; split <;> omega
  have e1 : bits .and .u64 ((mg r : Nat) : Int) ((4503599627370495 : Nat) : Int) = ((r % 4503599627370496 : Nat) : Int) := by
    rw [band (by omega) (by decide), show (4503599627370495 : Nat) = 2 ^ 52 - 1 by decide, Nat.and_two_pow_sub_one_eq_mod, ← hm2]
  have e1 : bits .and .u64 ((mg r : Nat) : Int) 4503599627370495 = ((r % 4503599627370496 : Nat) : Int) := e1
  have e2 : bits .and .i64 ((r / 4503599627370496 : Nat) : Int) ((2047 : Nat) : Int) = ((r / 4503599627370496 : Nat) : Int) := by
    rw [band_i (by omega) (by decide), show (2047 : Nat) = 2 ^ 11 - 1 by decide, Nat.and_two_pow_sub_one_eq_mod]
    have : r / 4503599627370496 < 2 ^ 11 := by omega
    rw [Nat.mod_eq_of_lt this]
  have e2 : bits .and .i64 ((r / 4503599627370496 : Nat) : Int) 2047 = ((r / 4503599627370496 : Nat) : Int) := e2
  rw [e1, e2, w64 (by omega), show ((r / 4503599627370496 : Nat) : Int) * 4503599627370496 = ((r / 4503599627370496 * 4503599627370496 : Nat) : Int) by omega, w64 (by omega), bor (by omega) (by omega)]
  have := Nat.shiftLeft_add_eq_or_of_lt (i := 52) (b := r % 4503599627370496) (by omega) (r / 4503599627370496)
  rw [Nat.shiftLeft_eq, show (2 : Nat) ^ 52 = 4503599627370496 by decide] at this
  rw [Nat.or_comm, ← this]; omega
theorem up_eq {M0 n N t : Nat} (hn : n ≤ 13) (hM : M0 * 16 ^ (13 - n) = N) (ht : t ≤ 54 - 4 * n) : M0 * 2 ^ t * 2 ^ (54 - 4 * n - t) = 4 * N := by
  rw [Nat.mul_assoc, ← Nat.pow_add, show t + (54 - 4 * n - t) = 4 * (13 - n) + 2 by omega, Nat.pow_add, Nat.pow_mul, show (2 : Nat) ^ 4 = 16 by decide, ← Nat.mul_assoc, hM]; omega
def sgW (neg : Bool) (r : Nat) : Nat := if neg then r + 9223372036854775808 else r
end Go.Vc
namespace Go.Proofs.YtffhlgejfgmpiaaGreatDoor
open Go.RowKit Go.Vc
variable {w : World} {R : Ending → World → Prop}
theorem p54 : (2 : Int) ^ (min (IntKind.wrap .u64 (52 + 2)).toNat 64) = ((18014398509481984 : Nat) : Int) := by decide
theorem p55 : (2 : Int) ^ (min (IntKind.wrap .u64 ((IntKind.wrap .u64 (1 + 52)) + 2)).toNat 64) = ((36028797018963968 : Nat) : Int) := by decide
theorem p52 : (2 : Int) ^ (min (52 : Int).toNat 64) = ((4503599627370496 : Nat) : Int) := by decide
theorem p11 : (1 : Int) * 2 ^ (min (11 : Int).toNat 64) = 2048 := by decide
theorem pm : IntKind.wrap .u64 ((IntKind.wrap .u64 (1 * 2 ^ (min (52 : Int).toNat 64))) - 1) = 4503599627370495 := by decide
theorem ps : IntKind.wrap .u64 ((IntKind.wrap .u64 (1 * 2 ^ (min (52 : Int).toNat 64))) * 2 ^ (min (11 : Int).toNat 64)) = 9223372036854775808 := by decide
theorem info_other {w : World} (h : Laid3 w) : (binOp .eql 128 (.pointer (some ⟨7, 0, none⟩)) (.pointer (some ⟨5, 0, none⟩))).run Tryz.prog w = .ok (.bool false) w := by
  obtain ⟨c1, t1, h1⟩ := h.h64
  obtain ⟨c2, t2, h2⟩ := h.h32
  have hi : ((Tryz.prog.info? 130).any fun j => j.size != 0) = true := by kernel_rfl
  obtain ⟨j, hj, hs⟩ : ∃ j, Tryz.prog.info? 130 = some j ∧ j.size ≠ 0 := by
    cases hq : Tryz.prog.info? 130 with
    | none => rw [hq] at hi; cases hi
    | some j => rw [hq] at hi; exact ⟨j, rfl, by simpa using hi⟩
  exact run_eql_ptr_other w Tryz.underlying128 hj hs (by decide) h1 h2
/-- A number in base 16 that the machine holds. -/
theorem atofhex_does (hT : Laid w) (hT3 : Laid3 w) {s : ByteArray} {M0 n r : Nat} {neg : Bool} (hn : n ≤ 13) (hM : M0 * 16 ^ (13 - n) = nM r) (h0 : 0 < r) (h1 : r < 9218868437227405312) :
    Does Tryz.prog 113 #[.string s, .pointer (some ⟨7, 0, none⟩), .int .u64 (M0 : Int), .int .i64 (nE r - 4 * (n : Int)), .bool neg, .bool false] w fun e w' => e = .returned (.tuple #[.float .f64 (sgW neg r), .nilIface]) ∧ Ext w w' := by
  obtain ⟨b1, b2⟩ := nM_bounds h0
  obtain ⟨e1, e2⟩ := nE_bounds h0 h1
  have hx := ex_le h1
  have hmp := mg_pos h0
  have hml := mg_lt r
  have hNE : nE r = (ex r : Int) - 1022 - (mgk r : Int) := rfl
  have hNM : nM r = mg r * 2 ^ mgk r := rfl
  have hW := word_bits h1
  have hup := fun {t : Nat} (ht : t ≤ 54 - 4 * n) => up_eq (t := t) hn hM ht
  have hcase : mgk r = 0 ∨ ex r = 0 := by
    rcases Nat.lt_or_ge r 4503599627370496 with h | h
    · exact .inr (mg_sub h).2
    · exact .inl (mgk_norm h).1
  have hq : (mg r < 4503599627370496 → r / 4503599627370496 = 0) ∧ (4503599627370496 ≤ mg r → r / 4503599627370496 = ex r + 1) := by
    unfold mg ex
    split <;> constructor <;> intro <;> omega
  generalize hE : nE r = E at *
  generalize hN : nM r = N at *
  refine f113_does _ _ _ _ _ _ ?_
  unfold f113_vc
  intro wd dr
  have xd := dr.ext
  have c0 := xd.cell hT.info
  have c1 := xd.cell hT3.i1
  have c2 := xd.cell hT3.i2
  refine ⟨7, 0, rfl, 11, c1, by decide, inI64 (by decide) (by decide), 7, 0, rfl, -1023, c2, inI64 (by decide) (by decide), inI64 (by decide) (by decide), 7, 0, rfl, -1023, c2, inI64 (by decide) (by decide), 7, 0, rfl, 52, c0, inI64 (by decide) (by decide),
    fun x2 x3 k wc => x2 = ((4 * N : Nat) : Int) ∧ x3 = E - 2 ∧ wd = wc,
    ⟨fun x2 x3 k wl => ∃ t, t ≤ 54 - 4 * n ∧ k = 54 - 4 * n - t ∧ x2 = ((M0 * 2 ^ t : Nat) : Int) ∧ x3 = E - 4 * (n : Int) + 52 - (t : Int) ∧ wd = wl, ⟨_, 0, Nat.zero_le _, rfl, by rw [Nat.pow_zero, Nat.mul_one], by rw [wrap_in (inI64 (by omega) (by omega))]; omega, rfl⟩, ?_⟩, ?_⟩
  · rintro _ _ _ _ ⟨t, ht, rfl, rfl, rfl, rfl⟩
    have hu := hup ht
    have hX0 : M0 * 2 ^ t ≠ 0 := fun h => by rw [h] at hu; omega
    refine tru (by rw [bne_iff_ne]; omega) ⟨7, 0, rfl, 52, c0, by decide, ?_⟩
    rw [p54, fd]
    rcases Nat.lt_or_ge t (54 - 4 * n) with htl | htl
    · have hu1 := hup (t := t + 1) htl
      have hX1 : M0 * 2 ^ (t + 1) = M0 * 2 ^ t * 2 := by rw [Nat.pow_succ, Nat.mul_assoc]
      have hle : M0 * 2 ^ (t + 1) ≤ 4 * N := by
        have := Nat.mul_le_mul_left (M0 * 2 ^ (t + 1)) (Nat.two_pow_pos (54 - 4 * n - (t + 1)))
        omega
      refine tru (by rw [beq_iff_eq]; omega) ⟨by decide, 54 - 4 * n - (t + 1), by omega, t + 1, htl, rfl, ?_, ?_, rfl⟩
      · rw [show ((M0 * 2 ^ t : Nat) : Int) * 2 ^ 1 = ((M0 * 2 ^ (t + 1) : Nat) : Int) by rw [hX1]; omega]
        exact w64 (by omega)
      · rw [wrap_in (inI64 (by omega) (by omega))]; omega
    · have htn : t = 54 - 4 * n := by omega
      have hX4 : M0 * 2 ^ t = 4 * N := by rw [← hu, htn, Nat.sub_self, Nat.pow_zero, Nat.mul_one]
      rw [hX4]
      exact fls (by rw [beq_eq_false_iff_ne]; omega) ⟨0, rfl, by omega, rfl⟩
  rintro _ _ _ _ ⟨rfl, rfl, rfl⟩
  refine ⟨fun x k wc => x = ((4 * N : Nat) : Int) ∧ wd = wc, fls rfl ⟨0, rfl, rfl⟩, ?_⟩
  rintro _ _ _ ⟨rfl, rfl⟩
  refine ⟨fun x y k wl => x = ((4 * N : Nat) : Int) ∧ y = E - 2 ∧ wd = wl, ⟨0, rfl, rfl, rfl⟩, ?_⟩
  rintro _ _ _ _ ⟨rfl, rfl, rfl⟩
  refine ⟨7, 0, rfl, 52, c0, by decide, ?_⟩
  rw [p55, fd]
  refine fls (by rw [bne_eq_false_iff_eq]; omega) ⟨fun x y k wc => x = ((4 * mg r : Nat) : Int) ∧ y = (ex r : Int) - 1024 ∧ wd = wc, ⟨fun x y k wl => ∃ j : Nat, j ≤ mgk r ∧ k = mgk r - j ∧ x = ((4 * (mg r * 2 ^ (mgk r - j)) : Nat) : Int) ∧ y = (ex r : Int) - 1024 - (mgk r : Int) + (j : Int) ∧ wd = wl, ⟨_, 0, Nat.zero_le _, rfl, by rw [Nat.sub_zero, ← hNM], by omega, rfl⟩, ?_⟩, ?_⟩
  · rintro _ _ _ _ ⟨j, hj, rfl, rfl, rfl, rfl⟩
    have hpp := Nat.mul_le_mul_left (mg r) (Nat.two_pow_pos (mgk r - j))
    have hle2 : mg r * 2 ^ (mgk r - j) ≤ N := by
      rw [hNM]; exact Nat.mul_le_mul_left _ (Nat.pow_le_pow_right (by decide) (by omega))
    refine tru (decide_eq_true (by omega)) ⟨inI64 (by decide) (by decide), ?_⟩
    rcases Nat.lt_or_ge j (mgk r) with hjl | hjl
    · have hex0 : ex r = 0 := by rcases hcase with h | h <;> omega
      have hhalf : mg r * 2 ^ (mgk r - j) = 2 * (mg r * 2 ^ (mgk r - (j + 1))) := by
        rw [show mgk r - j = mgk r - (j + 1) + 1 by omega, Nat.pow_succ, ← Nat.mul_assoc]; omega
      refine tru (decide_eq_true (by omega)) ⟨by decide, mgk r - (j + 1), by omega, j + 1, hjl, rfl, ?_, ?_, rfl⟩
      · rw [hhalf, show 4 * (2 * (mg r * 2 ^ (mgk r - (j + 1)))) = 2 * (4 * (mg r * 2 ^ (mgk r - (j + 1)))) by omega]
        generalize mg r * 2 ^ (mgk r - (j + 1)) = Y at *
        have hY : 4 * Y < 9223372036854775808 := by omega
        have f1 : (((2 * (4 * Y) : Nat) : Int)).fdiv (2 ^ 1) = ((4 * Y : Nat) : Int) := by
          show (((2 * (4 * Y) : Nat) : Int)).fdiv ((2 : Nat) : Int) = _
          rw [fd]; omega
        have f2 : bits .and .u64 ((2 * (4 * Y) : Nat) : Int) ((1 : Nat) : Int) = ((0 : Nat) : Int) := by
          rw [band (by omega) (by decide), Nat.and_one_is_mod]; omega
        have f2 : bits .and .u64 ((2 * (4 * Y) : Nat) : Int) 1 = ((0 : Nat) : Int) := f2
        rw [f1, f2, bor (by omega) (by decide), Nat.or_zero]
      · rw [wrap_in (inI64 (by omega) (by omega))]; omega
    · have hjk : j = mgk r := by omega
      refine fls (decide_eq_false (by omega)) ⟨0, ?_, by omega, rfl⟩
      rw [hjk, Nat.sub_self, Nat.pow_zero, Nat.mul_one]
  rintro _ _ _ _ ⟨rfl, rfl, rfl⟩
  obtain ⟨r1, r2⟩ := round_bits hml
  rw [r1, r2]
  refine ⟨by decide, fun x y k wc => x = ((mg r : Nat) : Int) ∧ y = (ex r : Int) - 1022 ∧ wd = wc, fls (by rw [beq_eq_false_iff_ne]; omega) ⟨0, rfl, by rw [wrap_in (inI64 (by omega) (by omega))]; omega, rfl⟩, ?_⟩
  rintro _ _ _ _ ⟨rfl, rfl, rfl⟩
  refine ⟨fun y k wc => y = ((r / 4503599627370496 : Nat) : Int) - 1023 ∧ wd = wc, ⟨7, 0, rfl, 52, c0, by decide, ?_⟩, ?_⟩
  · rw [p52, fd]
    rcases Nat.lt_or_ge (mg r) 4503599627370496 with hlt | hlt
    · have := hq.1 hlt
      exact tru (by rw [beq_iff_eq]; omega) ⟨7, 0, rfl, -1023, c2, 0, by omega, rfl⟩
    · have := hq.2 hlt
      exact fls (by rw [beq_eq_false_iff_ne]; omega) ⟨0, by omega, rfl⟩
  rintro _ _ _ ⟨rfl, rfl⟩
  have hrq : r / 4503599627370496 ≤ 2046 := by omega
  rw [p11]
  refine ⟨fun x y v k wc => x = ((mg r : Nat) : Int) ∧ y = ((r / 4503599627370496 : Nat) : Int) - 1023 ∧ v = .nilIface ∧ wd = wc, fls (decide_eq_false (by omega)) ⟨0, rfl, rfl, rfl, rfl⟩, ?_⟩
  rintro _ _ _ _ _ ⟨rfl, rfl, rfl, rfl⟩
  refine ⟨7, 0, rfl, 52, c0, by decide, fun w3 d3 => ?_⟩
  have x3 := d3.ext
  have x03 := Ext.then xd x3
  refine ⟨7, 0, rfl, -1023, x3.cell c2, 7, 0, rfl, 11, x3.cell c1, by decide, inI64 (by decide) (by decide), inI64 (by decide) (by decide), 7, 0, rfl, 52, x3.cell c0, by decide, ?_⟩
  rw [p11, pm, p52, show IntKind.wrap .i64 (((r / 4503599627370496 : Nat) : Int) - 1023 - -1023) = ((r / 4503599627370496 : Nat) : Int) by rw [wrap_in (inI64 (by omega) (by omega))]; omega]
  have hW' : bits .or .u64 (bits .and .u64 ((mg r : Nat) : Int) 4503599627370495) (IntKind.wrap .u64 ((IntKind.wrap .u64 (bits .and .i64 ((r / 4503599627370496 : Nat) : Int) (2048 - 1))) * ((4503599627370496 : Nat) : Int))) = (r : Int) := hW
  rw [hW']
  refine ⟨fun x k wc => x = ((sgW neg r : Nat) : Int) ∧ Ext wd wc, ?_, ?_⟩
  · cases neg with
    | true =>
      refine tru rfl fun w4 d4 => ⟨7, 0, rfl, 52, Ext.cell (Ext.then x3 d4.ext) c0, by decide, 7, 0, rfl, 11, Ext.cell (Ext.then x3 d4.ext) c1, by decide, 0, ?_, Ext.then x3 d4.ext⟩
      rw [ps, or_top (by omega)]
      show _ = ((r + 9223372036854775808 : Nat) : Int)
      omega
    | false => exact fls rfl ⟨0, rfl, x3⟩
  rintro _ _ wc ⟨rfl, xc⟩
  refine ⟨.inl ⟨_, rfl⟩, false, wc, info_other (hT3.ext (Ext.then xd xc)), fls rfl (frombi_does ⟨_, rfl, ?_, Ext.then xd xc⟩)⟩
  rw [Int.toNat_natCast]
end Go.Proofs.YtffhlgejfgmpiaaGreatDoor

/-
  Numbers read: base 16, the whole chain; what Show writes is read.
-/
namespace Go.Vc
open Go.RowKit
theorem word_parts {x : Nat} (hx : Wd x) : x = sgW (sgn x) (rung x) := by
  unfold Wd at hx
  have h3 : x / 9223372036854775808 = 0 ∨ x / 9223372036854775808 = 1 := by omega
  unfold sgW sgn rung
  rcases h3 with h | h
  · rw [h, if_neg (by decide)]; omega
  · rw [h, if_pos (by decide)]; omega
theorem sgW_rung {neg : Bool} {r : Nat} (h : r < 9223372036854775808) : rung (sgW neg r) = r ∧ sgn (sgW neg r) = neg ∧ Wd (sgW neg r) := by
  unfold sgW rung sgn Wd
  cases neg with
  | false => refine ⟨by simp; omega, ?_, by simp; omega⟩
             rw [if_neg (by decide), Nat.div_eq_of_lt h]; rfl
  | true => refine ⟨by simp; omega, ?_, by simp; omega⟩
            rw [if_pos rfl, show (r + 9223372036854775808) / 9223372036854775808 = 1 by omega]; rfl
theorem neg_sgW {r : Nat} (h : r < 9223372036854775808) : Op.negFloat .f64 r = sgW true r := by
  have hw : Wd r := by unfold Wd; omega
  obtain ⟨h1, h2, _⟩ := neg_word hw
  obtain ⟨g1, g2⟩ := rung_small h
  have := word_parts (Go.Proofs.YtffhlgejfgmpiaaGreatDoor.neg_wd hw).1
  rw [h1, h2, g1, g2] at this
  exact this
theorem hex_bad (q : List Int) : decOk (48 :: 120 :: q) = false := by
  rw [Bool.eq_false_iff]
  intro h
  have := (dec_facts h).1 120 (by unfold headD; simp)
  simp [isDig] at this
end Go.Vc
namespace Go.Proofs.YtffhlgejfgmpiaaGreatDoor
open Go.RowKit Go.Vc
variable {w : World} {R : Ending → World → Prop}
theorem ninf_does (h : R (.returned (.float .f64 (sgW true infW))) w) : Does Tryz.prog 25 #[.int .i64 (-1)] w R := by
  refine f25_does _ (fls (by decide) ?_)
  refine .inr ⟨by kernel_rfl, .float .f64 (sgW true infW), w, ?_, ⟨_, rfl, h⟩⟩
  rw [run_callFunc_extern Tryz.func47 (by kernel_rfl) (by kernel_rfl) (by kernel_rfl) (e := Extern.MathFloatBits.float64frombits) (by kernel_rfl)]
  rfl
theorem special_hex {s : ByteArray} {neg : Bool} {q : List Int} (hs : L s = sgnL neg ++ 48 :: 120 :: q) (h : R (.returned (.tuple #[.float .f64 0, .int .i64 0, .bool false])) w) : Does Tryz.prog 111 #[.string s] w R := by
  refine f111_does _ ?_
  unfold f111_vc
  have hsz := L_len s
  rw [hs, List.length_append, List.length_cons] at hsz
  refine fls (by rw [beq_eq_false_iff_ne]; omega) ⟨⟨by omega, by omega⟩, ?_⟩
  cases hneg : neg with
  | false =>
    have e0 : sb s 0 = 48 := (hex_at (i := 0) [] (x := 48) (r := 120 :: q) (by rw [hs, hneg]; rfl) rfl).1
    rw [e0]
    exact fls (by decide) (fls (by decide) (fls (by decide) (fls (by decide) (fls (by decide) (fls (by decide) h)))))
  | true =>
    have e0 : sb s 0 = 45 := (hex_at (i := 0) [] (x := 45) (r := 48 :: 120 :: q) (by rw [hs, hneg]; rfl) rfl).1
    rw [e0]
    have hl1 : (sgnL neg).length = 1 := by rw [hneg]; rfl
    refine fls (by decide) (tru (by decide) ⟨⟨by omega, by omega⟩, tru (by decide) ⟨⟨by omega, by omega⟩, ?_⟩⟩)
    have hL : L (s.extract ((1 : Int).toNat) s.size) = 48 :: 120 :: q := by
      show L (s.extract 1 s.size) = _
      rw [L_from, hs, hneg]; rfl
    have hsz3 : (s.extract ((1 : Int).toNat) s.size).size = q.length + 2 := by rw [← L_len, hL]; simp
    have e1 : sb (s.extract ((1 : Int).toNat) s.size) 0 = 48 := (hex_at (i := 0) [] (x := 48) (r := 120 :: q) hL rfl).1
    have eI : sb ({ data := #[105, 110, 102, 105, 110, 105, 116, 121] } : ByteArray) 0 = 105 := by decide
    refine f129_does _ _ ⟨fun i n wl => i = 0 ∧ wl = w, ⟨0, rfl, rfl⟩, ?_⟩
    rintro _ n wl ⟨rfl, rfl⟩
    rw [e1, eI, hsz3]
    have hmin : (0 : Int) < (if ((q.length + 2 : Nat) : Int) < (({ data := #[105, 110, 102, 105, 110, 105, 116, 121] } : ByteArray).size : Int) then ((q.length + 2 : Nat) : Int) else (({ data := #[105, 110, 102, 105, 110, 105, 116, 121] } : ByteArray).size : Int)) := by
      split
      · omega
      · decide
    refine tru (decide_eq_true hmin) ⟨⟨by omega, by omega⟩, fls (by decide) ⟨⟨by omega, by decide⟩, tru (by decide) ?_⟩⟩
    exact ⟨_, rfl, fls (by decide) (fls (by decide) (fls (by decide) h))⟩
section
variable {s : ByteArray} {neg : Bool} {ds : List Nat} {r : Nat} (hs : L s = sgnL neg ++ 48 :: 120 :: (mantL ds ++ expL (nE r))) (hd : ∀ d ∈ ds, d < 16) (hl : ds.length ≤ 13) (hM : hexN (1 :: ds) * 16 ^ (13 - ds.length) = nM r) (h0 : 0 < r) (h1 : r < 9218868437227405312)
include hs hd hl hM h0 h1
theorem parse_hex (hT : Laid w) (hT3 : Laid3 w) : Does Tryz.prog 29 #[.string s, .int .i64 64] w fun e w' => e = .returned (.tuple #[.float .f64 (sgW neg r), .nilIface]) ∧ Ext w w' := by
  obtain ⟨b1, b2⟩ := nE_bounds h0 h1
  have main : Does Tryz.prog 97 #[.string s] w fun e w' => e = .returned (.tuple #[.float .f64 (sgW neg r), .int .i64 s.size, .nilIface]) ∧ Ext w w' := by
    refine f97_does _ ?_
    unfold f97_vc
    refine special_hex hs ⟨_, _, _, rfl, fls rfl (readf_hex hs hd hl b1 b2 ⟨_, _, _, _, _, _, _, rfl, fls rfl (tru rfl ⟨⟨by omega, by omega⟩, (atofhex_does hT hT3 hl hM h0 h1).imp ?_⟩)⟩)⟩
    rintro e w' ⟨rfl, x⟩
    exact ⟨_, _, rfl, rfl, x⟩
  refine f29_does _ _ (f52_does _ _ (f76_does _ _ (fls (by decide) (main.imp ?_))))
  rintro e w' ⟨rfl, x⟩
  exact ⟨_, _, _, rfl, _, _, _, rfl, fls (by simp) ⟨_, _, rfl, true, .inl ⟨rfl, rfl⟩, fls rfl ⟨rfl, x⟩⟩⟩
/-- A text in base 16 is read if it is the one that its number has. -/
theorem read_hex (hT : Laid w) (hT2 : Laid2 w) (hT3 : Laid3 w) : Does Tryz.prog 9 #[.string s] w fun e w' => e = .returned (if showS (sgW neg r) = L s then .tuple #[.float .f64 (sgW neg r), .bool true] else .tuple #[.float .f64 0, .bool false]) ∧ Ext w w' := by
  obtain ⟨b1, b2⟩ := nE_bounds h0 h1
  refine f9_does _ ?_
  unfold f9_vc
  rw [L_eq, L_eq, L_eq]
  have n1 : L ({ data := #[110, 97, 110] } : ByteArray) = [110, 97, 110] := by decide
  have n2 : L ({ data := #[105, 110, 102] } : ByteArray) = [105, 110, 102] := by decide
  have n3 : L ({ data := #[45, 105, 110, 102] } : ByteArray) = [45, 105, 110, 102] := by decide
  have n4 : L ({ data := #[45] } : ByteArray) = [45] := by decide
  have n5 : L ({ data := #[48, 120, 49] } : ByteArray) = [48, 120, 49] := by decide
  rw [n1, n2, n3]
  have k1 : L s ≠ [110, 97, 110] := fun k => by
    rw [hs] at k
    cases neg
    · have := (List.cons.inj k).1; omega
    · have := (List.cons.inj k).1; omega
  have k2 : L s ≠ [105, 110, 102] := fun k => by
    rw [hs] at k
    cases neg
    · have := (List.cons.inj k).1; omega
    · have := (List.cons.inj k).1; omega
  have k3 : L s ≠ [45, 105, 110, 102] := fun k => by
    rw [hs] at k
    cases neg
    · have := (List.cons.inj k).1; omega
    · have := (List.cons.inj (List.cons.inj k).2).1; omega
  refine fls (decide_eq_false k1) (fls (decide_eq_false k2) (fls (decide_eq_false k3) (trim_does _ _ fun t ht => ⟨t, rfl, ?_⟩)))
  have ht : L t = 48 :: 120 :: (mantL ds ++ expL (nE r)) := by
    rw [ht, n4, hs]
    cases neg <;> rfl
  have hts : t.size ≤ 140737488355328 := by
    have a := L_len t
    have b := mant_len ds
    have c := expL_len b1 b2
    rw [ht, List.length_cons, List.length_cons, List.length_append] at a
    split at b <;> omega
  refine (decimal_does t hts).imp ?_
  rintro e w20 ⟨rfl, x20⟩
  rw [ht, hex_bad]
  refine ⟨_, rfl, tru rfl (hasp_does _ _ ⟨_, rfl, ?_⟩)⟩
  rw [ht, n5]
  refine fls rfl ((parse_hex hs hd hl hM h0 h1 (hT.ext x20) (hT3.ext x20)).imp ?_)
  rintro e w29 ⟨rfl, x29⟩
  have x29 := Ext.then x20 x29
  refine ⟨_, _, rfl, true, .inl ⟨rfl, rfl⟩, fls rfl ((decimal_does t hts).imp ?_)⟩
  rintro e w36 ⟨rfl, x36⟩
  have x36 := Ext.then x29 x36
  rw [ht, hex_bad]
  have hr : r < 9223372036854775808 := by omega
  refine ⟨_, rfl, tru rfl ((show_does (hT2.ext x36) (sgW_rung hr).2.2).imp ?_)⟩
  rintro e w40 ⟨s40, rfl, h40, x40⟩
  have x40 := Ext.then x36 x40
  refine ⟨_, rfl, ?_⟩
  rw [L_eq, h40]
  by_cases hq : showS (sgW neg r) = L s
  · rw [if_pos hq]
    exact fls (by rw [decide_eq_true hq]; rfl) ⟨rfl, x40⟩
  · rw [if_neg hq]
    exact tru (by rw [decide_eq_false hq]; rfl) ⟨rfl, x40⟩
end
theorem hexX_mant (X : Nat) (e : Int) : hexX X e = 48 :: 120 :: (mantL (frN 13 X) ++ expL e) := by
  unfold hexX mantL
  rw [frN_map, List.cons_append]
theorem hexS_mant (r : Nat) : hexS r = 48 :: 120 :: (mantL (frN 13 (nM r - 4503599627370496)) ++ expL (nE r)) := by
  unfold hexS
  exact hexX_mant _ _
/-- What Show writes is read. -/
theorem read_show {x : Nat} (hx : Wd x) {s : ByteArray} (hs : L s = showS x) (hT : Laid w) (hT2 : Laid2 w) (hT3 : Laid3 w) : Does Tryz.prog 9 #[.string s] w fun e w' => ∃ f, e = .returned (.tuple #[.float .f64 f, .bool true]) ∧ Wd f ∧ cls f = cls x ∧ Ext w w' := by
  have n1 : L ({ data := #[110, 97, 110] } : ByteArray) = [110, 97, 110] := by decide
  have n2 : L ({ data := #[105, 110, 102] } : ByteArray) = [105, 110, 102] := by decide
  have n3 : L ({ data := #[45, 105, 110, 102] } : ByteArray) = [45, 105, 110, 102] := by decide
  cases hn : nan x with
  | true =>
    have hs : L s = [110, 97, 110] := by rw [hs]; unfold showS; rw [hn]; rfl
    refine f9_does _ ?_
    unfold f9_vc
    rw [L_eq, n1]
    exact tru (decide_eq_true hs) (nan_does fun f hf hc => ⟨f, rfl, f, rfl, hf, by rw [hc]; unfold cls; rw [hn]; rfl, Upd.refl _ _⟩)
  | false =>
    have hr1 : rung x ≤ 9218868437227405312 := by unfold nan at hn; have := of_decide_eq_false hn; omega
    have hxp := word_parts hx
    have hs : L s = sgnL (sgn x) ++ showR (rung x) := by
      rw [hs]; unfold showS; rw [hn]; rfl
    generalize hneg : sgn x = neg at *
    generalize hr : rung x = r at *
    rcases Nat.lt_or_ge r 9218868437227405312 with hlt | hge
    · cases hw : wholeB r with
      | true =>
        rw [showR_whole hlt hw] at hs
        obtain ⟨w1, w2⟩ := whole_iff.1 hw
        have hN := flr_whole w1
        generalize flr BB r = n at *
        obtain ⟨d1, d2, d3⟩ := dot_of_dig (decL_isDig n)
        refine (read_dec hs (decL_ok hN) hT).imp ?_
        rintro e w' ⟨f, rfl, g1, g2, x'⟩
        refine ⟨f, rfl, g1, ?_, x'⟩
        rw [d1, d2, List.append_nil, numV_decL, List.length_nil] at g2
        rw [g2]
        have hv : floatOfInt .f64 (n : Int) = r := by rw [w2]; exact foi_val BB_eq (by omega)
        unfold decS
        rw [hv]
        by_cases hn0 : n = 0
        · rw [if_pos hn0]
          have : r = 0 := by rw [w2, hn0, Nat.zero_mul, RR_zero]
          rw [hxp, this]
          cases neg <;> decide
        · rw [if_neg hn0, if_pos rfl, hxp]
          cases neg with
          | true => rw [if_pos rfl, neg_sgW (by omega)]
          | false => rfl
      | false =>
        have h0 : 0 < r := by
          rcases Nat.eq_zero_or_pos r with h | h
          · rw [h, whole_zero] at hw; cases hw
          · exact h
        obtain ⟨b1, b2⟩ := nM_bounds h0
        have hlead := lead_val (k := 13) (n := nM r - 4503599627370496) (by rw [show (16 : Nat) ^ 13 = 4503599627370496 by decide]; omega)
        rw [show (16 : Nat) ^ 13 = 4503599627370496 by decide, show 4503599627370496 + (nM r - 4503599627370496) = nM r by omega] at hlead
        have hdig := frN_dig (k := 13) (n := nM r - 4503599627370496) (by rw [show (16 : Nat) ^ 13 = 4503599627370496 by decide]; omega)
        have hs2 := hs
        rw [showR_hex hlt hw, hexS_mant] at hs2
        have hsx : showS (sgW neg r) = L s := by
          rw [← hxp, hs]; unfold showS; rw [hn, hneg, hr]; rfl
        refine (read_hex hs2 hdig (frN_len _ _) hlead h0 hlt hT hT2 hT3).imp ?_
        rintro e w' ⟨rfl, x'⟩
        rw [if_pos hsx]
        exact ⟨_, rfl, by rw [← hxp]; exact hx, by rw [← hxp], x'⟩
    · have : r = infW := by unfold infW; omega
      subst this
      have hsi : L s = sgnL neg ++ [105, 110, 102] := hs
      refine f9_does _ ?_
      unfold f9_vc
      rw [L_eq, L_eq, L_eq, n1, n2, n3, hsi]
      cases neg with
      | true => exact fls (by decide) (fls (by decide) (tru (by decide) (ninf_does ⟨_, rfl, _, rfl, by rw [← hxp]; exact hx, by rw [← hxp], Upd.refl _ _⟩)))
      | false => exact fls (by decide) (tru (by decide) (inf_does ⟨_, rfl, _, rfl, by unfold Wd infW; decide, by rw [hxp]; rfl, Upd.refl _ _⟩))
end Go.Proofs.YtffhlgejfgmpiaaGreatDoor

/-
  Numbers shown: the document's own way.
-/
namespace Go.Vc
open Go.RowKit
theorem wu64 (n : Nat) : IntKind.wrap .u64 (n : Int) = ((n % 18446744073709551616 : Nat) : Int) := by
  show (n : Int) % 18446744073709551616 = _
  omega
theorem hex16 : ∀ d, d < 16 → sb ({ data := #[48, 49, 50, 51, 52, 53, 54, 55, 56, 57, 97, 98, 99, 100, 101, 102] } : ByteArray) ((d : Nat) : Int) = hexc d := by decide +kernel
theorem or_top52 {F : Nat} (h : F < 4503599627370496) : bits .or .u64 (F : Int) 4503599627370496 = ((4503599627370496 + F : Nat) : Int) := by
  have e : bits .or .u64 (F : Int) ((4503599627370496 : Nat) : Int) = ((F ||| 4503599627370496 : Nat) : Int) := bor (by omega) (by decide)
  have := Nat.shiftLeft_add_eq_or_of_lt (i := 52) (b := F) (by simpa using h) 1
  rw [Nat.shiftLeft_eq, show 1 * 2 ^ 52 = 4503599627370496 by decide] at this
  rw [Nat.or_comm, ← this] at e
  exact e
theorem and_low52 {y : Nat} (h : y < 18446744073709551616) : bits .and .u64 (y : Int) 4503599627370495 = ((y % 4503599627370496 : Nat) : Int) := by
  have e : bits .and .u64 (y : Int) ((4503599627370495 : Nat) : Int) = ((y &&& 4503599627370495 : Nat) : Int) := band h (by decide)
  rw [show (4503599627370495 : Nat) = 2 ^ 52 - 1 by decide, Nat.and_two_pow_sub_one_eq_mod, show (2 : Nat) ^ 52 = 4503599627370496 by decide] at e
  exact e
theorem pow_int (n k : Nat) : (n : Int) * 2 ^ k = ((n * 2 ^ k : Nat) : Int) := by
  rw [Int.natCast_mul, Int.natCast_pow]; rfl
theorem pow_int' (k : Nat) : (2 : Int) ^ k = ((2 ^ k : Nat) : Int) := by
  rw [Int.natCast_pow]; rfl
/-- A digit taken. -/
theorem take_dig {n j : Nat} (hj : j < 13) : n * (4096 * 16 ^ j) / 1152921504606846976 = n / 16 ^ (12 - j) ∧ n * (4096 * 16 ^ j) * 16 % 18446744073709551616 = n % 16 ^ (12 - j) * (4096 * 16 ^ (j + 1)) := by
  have hp := Nat.pow_pos (n := j) (show 0 < 16 by decide)
  have e1 : 1152921504606846976 = 4096 * 16 ^ j * 16 ^ (12 - j) := by
    rw [Nat.mul_assoc, ← Nat.pow_add, show j + (12 - j) = 12 by omega]
  have e2 : 18446744073709551616 = 4096 * 16 ^ j * 16 * 16 ^ (12 - j) := by
    rw [Nat.mul_assoc, Nat.mul_assoc, ← Nat.mul_assoc (16 ^ j), ← Nat.pow_succ, ← Nat.pow_add, show j + 1 + (12 - j) = 13 by omega]
  constructor
  · rw [e1, Nat.mul_comm n, Nat.mul_div_mul_left _ _ (by omega)]
  · rw [e2, show n * (4096 * 16 ^ j) * 16 = 4096 * 16 ^ j * 16 * n by rw [Nat.mul_comm n, Nat.mul_right_comm], Nat.mul_mod_mul_left, Nat.mul_comm, Nat.pow_succ]
    congr 1
    rw [Nat.mul_assoc]
end Go.Vc
namespace Go.Proofs.YtffhlgejfgmpiaaGreatDoor
open Go.RowKit Go.Vc
variable {w : World} {R : Ending → World → Prop}
theorem rshow_does {x : Nat} (hx : Wd x) : Does Tryz.prog 10 #[.float .f64 x] w fun e w' => ∃ s, e = .returned (.string s) ∧ L s = showS x ∧ Ext w w' := by
  have q63 : (2 : Int) ^ 63 = ((9223372036854775808 : Nat) : Int) := by decide
  have q52 : (2 : Int) ^ 52 = ((4503599627370496 : Nat) : Int) := by decide
  have q60 : (2 : Int) ^ 60 = ((1152921504606846976 : Nat) : Int) := by decide
  have m45 : L ({ data := #[45] } : ByteArray) = [45] := by decide
  have m46 : L ({ data := #[46] } : ByteArray) = [46] := by decide
  have m48 : L ({ data := #[48] } : ByteArray) = [48] := by decide
  have minf : L ({ data := #[105, 110, 102] } : ByteArray) = [105, 110, 102] := by decide
  have mnan : L ({ data := #[110, 97, 110] } : ByteArray) = [110, 97, 110] := by decide
  have mx : L ({ data := #[48, 120, 49] } : ByteArray) = [48, 120, 49] := by decide
  have mp : L ({ data := #[112, 43] } : ByteArray) = [112, 43] := by decide
  have mm : L ({ data := #[112, 45] } : ByteArray) = [112, 45] := by decide
  refine f10_does _ ?_
  unfold f10_vc
  refine rbits_does x ⟨_, rfl, ?_⟩
  unfold fbits
  cases hn : nan x with
  | true =>
    rw [if_pos rfl]
    refine ⟨fun s k wc => w = wc, ⟨by decide, brr (fun _ => ⟨0, rfl⟩) fun _ => ⟨0, rfl⟩⟩, ?_⟩
    rintro s4 _ _ rfl
    refine ⟨by decide, inI64 (by decide) (by decide), tru (by rw [order_self]; exact hn) ⟨_, rfl, ?_, Upd.refl _ _⟩⟩
    rw [mnan]; unfold showS; rw [hn]; rfl
  | false =>
    rw [if_neg (by decide)]
    have hx' : x < 18446744073709551616 := hx
    have hr1 : rung x ≤ 9218868437227405312 := by unfold nan at hn; have := of_decide_eq_false hn; omega
    have hxd : x / 4503599627370496 % 2048 = rung x / 4503599627370496 := by unfold rung; omega
    have hxm : x % 4503599627370496 = rung x % 4503599627370496 := by unfold rung; omega
    rw [and_exp hx', hxd]
    refine ⟨fun s k wc => L s = sgnL (sgn x) ∧ w = wc, ⟨by decide, ?_⟩, ?_⟩
    · rw [q63, fd]
      refine brr (fun q => ⟨0, ?_, rfl⟩) fun q => ⟨0, ?_, rfl⟩
      · have : sgn x = true := by
          unfold sgn
          rw [beq_iff_eq] at q ⊢; omega
        rw [this, m45]; rfl
      · have : sgn x = false := by
          unfold sgn
          rw [beq_eq_false_iff_ne] at q ⊢; omega
        rw [this]; rfl
    rintro s4 _ _ ⟨h4, rfl⟩
    have hS : showS x = sgnL (sgn x) ++ showR (rung x) := by unfold showS; rw [hn]; rfl
    have l4 : s4.size ≤ 1 := by rw [← L_len, h4]; exact sgn_len
    have z3 : ({ data := #[105, 110, 102] } : ByteArray).size = 3 := rfl
    have z16 : ({ data := #[48, 49, 50, 51, 52, 53, 54, 55, 56, 57, 97, 98, 99, 100, 101, 102] } : ByteArray).size = 16 := rfl
    have z1 : ({ data := #[48] } : ByteArray).size = 1 := rfl
    have zx : ({ data := #[48, 120, 49] } : ByteArray).size = 3 := rfl
    have zd : ({ data := #[46] } : ByteArray).size = 1 := rfl
    have zp : ({ data := #[112, 43] } : ByteArray).size = 2 := rfl
    have zm : ({ data := #[112, 45] } : ByteArray).size = 2 := rfl
    rw [hS]
    refine ⟨by decide, inI64 (by omega) (by omega), fls (by rw [order_self]; exact hn) (brr (fun q => ?_) fun q => brr (fun q2 => ?_) fun q2 => ?_)⟩
    · have q : rung x / 4503599627370496 = 2047 := by rw [beq_iff_eq] at q; omega
      have hr : rung x = 9218868437227405312 := by omega
      refine ⟨by rw [z3]; omega, _, rfl, ?_, Upd.refl _ _⟩
      rw [L_append, h4, minf, hr]; rfl
    · rw [order_eq, hn, show nan 0 = false by decide, show fval 0 = 0 by decide] at q2
      have hr : rung x = 0 := by
        have : fval x = 0 := by simpa using q2
        unfold fval at this
        split at this <;> omega
      refine ⟨by rw [z1]; omega, _, rfl, ?_, Upd.refl _ _⟩
      have hf : flr BB 0 = 0 := by unfold flr; rw [MM_zero, Nat.zero_div]
      rw [L_append, h4, m48, hr, showR_whole (by decide) whole_zero, hf, decL_small (by decide)]; rfl
    have h0 : 0 < rung x := by
      rcases Nat.eq_zero_or_pos (rung x) with h | h
      · rw [order_eq, hn, show nan 0 = false by decide, show fval 0 = 0 by decide] at q2
        have : fval x = 0 := by unfold fval; rw [h]; split <;> rfl
        rw [this] at q2; simp at q2
      · exact h
    have h1 : rung x < 9218868437227405312 := by
      have : rung x / 4503599627370496 ≠ 2047 := fun h => by rw [h] at q; simp at q
      omega
    generalize hneg : sgn x = neg at *
    generalize rung x = r at *
    have hcase : (r < 4503599627370496 ∧ mg r = r ∧ ex r = 0) ∨ (4503599627370496 ≤ r ∧ mg r = 4503599627370496 + r % 4503599627370496 ∧ ex r = r / 4503599627370496 - 1) := by
      rcases Nat.lt_or_ge r 4503599627370496 with h | h
      · exact .inl ⟨h, mg_sub h⟩
      · exact .inr ⟨h, (mgk_norm h).2.2⟩
    obtain ⟨b1, b2⟩ := nM_bounds h0
    obtain ⟨e1, e2⟩ := nE_bounds h0 h1
    have hxl := ex_le h1
    have hmk : mgk r ≤ 52 := Nat.sub_le _ _
    have hNE : nE r = (ex r : Int) - 1022 - (mgk r : Int) := rfl
    have hNM : nM r = mg r * 2 ^ mgk r := rfl
    have hwp := whole_parts (B := 1074) rfl h0
    have hsh : wholeB r = true → 0 ≤ nE r → nE r ≤ 52 → showR r = decL (nM r / 2 ^ (52 - nE r).toNat) := fun a b c => by
      rw [showR_whole h1 a, ← flr_of, whole_val (B := 1074) rfl b c]
    have hhx : wholeB r = false → showR r = hexX (nM r - 4503599627370496) (nE r) := fun a => showR_hex h1 a
    generalize nE r = E at *
    generalize nM r = N at *
    generalize mgk r = K at *
    generalize showR r = S at *
    rw [and_low52 hx', hxm]
    refine ⟨fun x5 x6 k wc => x5 = (ex r : Int) + 1 ∧ x6 = ((mg r : Nat) : Int) ∧ w = wc, brr (fun q => ?_) fun q => ?_, ?_⟩
    · have q : r / 4503599627370496 = 0 := by rw [beq_iff_eq] at q; omega
      exact ⟨0, by omega, by omega, rfl⟩
    · have q : r / 4503599627370496 ≠ 0 := fun h => by rw [h] at q; simp at q
      rw [or_top52 (Nat.mod_lt _ (by decide))]
      exact ⟨0, by omega, by omega, rfl⟩
    rintro _ _ _ _ ⟨rfl, rfl, rfl⟩
    refine ⟨fun x5 x6 k wl => ∃ j : Nat, j ≤ K ∧ k = K - j ∧ x5 = (ex r : Int) + 1 - (j : Int) ∧ x6 = ((mg r * 2 ^ j : Nat) : Int) ∧ w = wl, ⟨_, 0, Nat.zero_le _, rfl, by omega, by rw [Nat.pow_zero, Nat.mul_one], rfl⟩, ?_⟩
    rintro _ _ _ _ ⟨j, hj, rfl, rfl, rfl, rfl⟩
    rw [q52, fd]
    refine ⟨by decide, ?_⟩
    rcases Nat.lt_or_ge j K with hjl | hjl
    · have hle : mg r * 2 ^ (j + 1) ≤ N := by rw [hNM]; exact Nat.mul_le_mul_left _ (Nat.pow_le_pow_right (by decide) (by omega))
      have hX1 : mg r * 2 ^ (j + 1) = mg r * 2 ^ j * 2 := by rw [Nat.pow_succ, Nat.mul_assoc]
      refine tru (by rw [beq_iff_eq]; omega) ⟨by decide, inI64 (by omega) (by omega), K - (j + 1), by omega, j + 1, hjl, rfl, by omega, ?_, rfl⟩
      rw [show ((mg r * 2 ^ j : Nat) : Int) * 2 ^ 1 = ((mg r * 2 ^ (j + 1) : Nat) : Int) by rw [hX1]; omega]
      exact w64 (by omega)
    have hjK : j = K := by omega
    subst hjK
    rw [← hNM, show (ex r : Int) + 1 - (j : Int) = E + 1023 by omega]
    refine fls (by rw [beq_eq_false_iff_ne]; omega) ⟨inI64 (by omega) (by omega), ?_⟩
    rw [show E + 1023 - 1023 = E by omega]
    refine ⟨fun k wc => wholeB r = false ∧ w = wc, ?_, ?_⟩
    · have no : ¬ (0 ≤ E ∧ E ≤ 52 ∧ N % 2 ^ (52 - E).toNat = 0 ∧ N / 2 ^ (52 - E).toNat < 1000000000000000) → wholeB r = false := fun h => by
        rw [Bool.eq_false_iff]; exact fun k => h (hwp.1 k)
      refine brr (fun q1 => ?_) fun q1 => ⟨0, no fun h => of_decide_eq_false q1 h.1, rfl⟩
      refine brr (fun q2 => ?_) fun q2 => ⟨0, no fun h => of_decide_eq_false q2 h.2.1, rfl⟩
      have q1 := of_decide_eq_true q1
      have q2 := of_decide_eq_true q2
      obtain ⟨k, rfl⟩ : ∃ k : Nat, E = k := ⟨E.toNat, by omega⟩
      rw [show ((52 : Int) - (k : Int)).toNat = 52 - k by omega] at hwp hsh no
      rw [w64 (by omega), show (12 : Int) + (k : Int) = ((12 + k : Nat) : Int) by omega, w64 (by omega), show (52 : Int) - (k : Int) = ((52 - k : Nat) : Int) by omega, w64 (by omega), Int.toNat_natCast, Int.toNat_natCast, Nat.min_eq_left (by omega), Nat.min_eq_left (by omega), pow_int, pow_int', fd, wu64]
      have hdv : N * 2 ^ (12 + k) % 18446744073709551616 = N % 2 ^ (52 - k) * 2 ^ (12 + k) := by
        rw [show 18446744073709551616 = 2 ^ (52 - k) * 2 ^ (12 + k) by rw [← Nat.pow_add, show 52 - k + (12 + k) = 64 by omega], Nat.mul_mod_mul_right]
      rw [hdv]
      have hp := Nat.two_pow_pos (12 + k)
      refine ⟨by omega, brr (fun q3 => ?_) fun q3 => ⟨0, no fun h => ?_, rfl⟩⟩
      · have q3 : N % 2 ^ (52 - k) = 0 := by
          rw [beq_iff_eq] at q3
          have : N % 2 ^ (52 - k) * 2 ^ (12 + k) = 0 := by omega
          rcases Nat.mul_eq_zero.1 this with h | h
          · exact h
          · omega
        refine ⟨by omega, brr (fun q4 => ?_) fun q4 => ⟨0, no fun h => of_decide_eq_false q4 (by omega), rfl⟩⟩
        have q4 := of_decide_eq_true q4
        have hn15 : N / 2 ^ (52 - k) < 1000000000000000 := by omega
        have hw := hwp.2 ⟨q1, q2, q3, hn15⟩
        rw [hsh hw q1 q2]
        generalize N / 2 ^ (52 - k) = n at *
        refine ⟨by omega, (dec_does (by omega)).imp ?_⟩
        rintro e w' ⟨s, rfl, hs, x'⟩
        have hz := L_len s
        have hl := decL_len_le (n := n) (k := 15) (by decide) (by omega)
        rw [hs] at hz
        exact ⟨_, rfl, by omega, _, rfl, by rw [L_append, h4, hs], x'⟩
      · rw [h.2.2.1, Nat.zero_mul] at q3; simp at q3
    rintro _ _ ⟨hw, rfl⟩
    rw [hhx hw]
    clear hsh hhx hwp hNM
    obtain ⟨X, rfl⟩ : ∃ X, N = 4503599627370496 + X := ⟨N - 4503599627370496, by omega⟩
    rw [Nat.add_sub_cancel_left]
    have hX : X < 4503599627370496 := by omega
    have hX13 : X < 16 ^ 13 := by rw [show (16 : Nat) ^ 13 = 4503599627370496 by decide]; exact hX
    rw [pow_int, wu64, show (4503599627370496 + X) * 2 ^ 12 % 18446744073709551616 = X * 4096 by omega]
    refine ⟨by rw [zx]; omega, by decide, fun s k wc => L s = sgnL neg ++ 48 :: 120 :: 49 :: (if X = 0 then [] else [46]) ∧ w = wc, brr (fun q => ?_) fun q => ?_, ?_⟩
    · have q : X ≠ 0 := fun h => by rw [h] at q; simp at q
      refine ⟨by rw [ByteArray.size_append, zx, zd]; omega, 0, ?_, rfl⟩
      rw [L_append, L_append, h4, mx, m46, if_neg q]; simp
    · have q : X = 0 := by rw [bne_eq_false_iff_eq] at q; omega
      exact ⟨0, by rw [L_append, h4, mx, if_pos q], rfl⟩
    rintro s7 _ _ ⟨h7, rfl⟩
    refine ⟨fun s k wc => L s = sgnL neg ++ 48 :: 120 :: 49 :: ptL (frL 13 X) ∧ Ext w wc, ⟨fun s y k wl => ∃ j n : Nat, j ≤ 13 ∧ k = 13 - j ∧ n < 16 ^ (13 - j) ∧ y = ((n * (4096 * 16 ^ j) : Nat) : Int) ∧ s.size ≤ 5 + j ∧ L s ++ frL (13 - j) n = L s7 ++ frL 13 X ∧ Ext w wl, ⟨_, 0, X, Nat.zero_le _, rfl, hX13, by rw [Nat.pow_zero, Nat.mul_one], ?_, rfl, Upd.refl _ _⟩, ?_⟩, ?_⟩
    · rw [← L_len, h7, List.length_append, List.length_cons, List.length_cons, List.length_cons]
      have := sgn_len (neg := neg)
      split
      · simp; omega
      · simp; omega
    · rintro s _ _ wl ⟨j, n, hj, rfl, hn16, rfl, hsz, hcat, xl⟩
      have hp16 := Nat.pow_pos (n := j) (show 0 < 16 by decide)
      refine brr (fun q => ?_) fun q => ?_
      · have q : n ≠ 0 := fun h => by rw [h] at q; simp at q
        have hj13 : j < 13 := by
          rcases Nat.lt_or_ge j 13 with h | h
          · exact h
          · have : j = 13 := by omega
            subst this
            simp at hn16
            omega
        obtain ⟨t1, t2⟩ := take_dig (n := n) hj13
        have hd16 : n / 16 ^ (12 - j) < 16 := by
          rw [Nat.div_lt_iff_lt_mul (Nat.pow_pos (by decide)), ← Nat.pow_succ', show (12 - j).succ = 13 - j by omega]; exact hn16
        have hfr : frL (13 - j) n = hexc (n / 16 ^ (12 - j)) :: frL (13 - (j + 1)) (n % 16 ^ (12 - j)) := by
          rw [show 13 - j = 12 - j + 1 by omega]
          conv => lhs; unfold frL
          rw [if_neg q, show 13 - (j + 1) = 12 - j by omega]
        rw [q60, fd, t1, hex16 _ hd16]
        refine ⟨by decide, ⟨by omega, by rw [z16]; omega⟩, fun b w8 n8 => ?_⟩
        have hk : ∀ y ∈ [hexc (n / 16 ^ (12 - j))], InK .u8 y := fun y hy => by
          simp only [List.mem_singleton] at hy
          rw [hy]; exact hexc_inK hd16
        have hL := L_nums hk
        have hz := L_len (strOfNums [hexc (n / 16 ^ (12 - j))])
        rw [hL] at hz
        have hz1 : (strOfNums [hexc (n / 16 ^ (12 - j))]).size = 1 := by rw [← hz]; rfl
        refine ⟨_, w8, conv_str Tryz.underlying50 Tryz.underlying5 Tryz.underlying9 (n8.ints (k := .u8) [hexc (n / 16 ^ (12 - j))] rfl hk) rfl 1, by rw [hz1]; omega, by decide, 13 - (j + 1), by omega, j + 1, n % 16 ^ (12 - j), hj13, rfl, ?_, ?_, ?_, ?_, Ext.then xl n8.ext⟩
        · rw [show 13 - (j + 1) = 12 - j by omega]; exact Nat.mod_lt _ (Nat.pow_pos (by decide))
        · rw [← t2, pow_int, wu64]
        · rw [ByteArray.size_append, hz1]; omega
        · rw [L_append, hL, ← hcat, hfr, List.append_assoc]; rfl
      · have q : n = 0 := by
          rw [bne_eq_false_iff_eq] at q
          have : n * (4096 * 16 ^ j) = 0 := by omega
          rcases Nat.mul_eq_zero.1 this with h | h
          · exact h
          · omega
        subst q
        rw [frL_zero, List.append_nil] at hcat
        refine ⟨0, ?_, xl⟩
        rw [hcat, h7]
        by_cases hX0 : X = 0
        · rw [if_pos hX0, hX0, frL_zero]; simp [ptL]
        · have hne : frL 13 X ≠ [] := fun h => hX0 (frL_nil hX13 h)
          rw [if_neg hX0]; unfold ptL; rw [if_neg hne]; simp
    rintro s7b _ wc ⟨h7b, xc⟩
    have hz7 := L_len s7b
    have hpl := ptL_len X
    have hsl := sgn_len (neg := neg)
    rw [h7b, List.length_append, List.length_cons, List.length_cons, List.length_cons] at hz7
    have fin : ∀ (m t : ByteArray) (ml : List Int), L m = ml → ml ++ L t = expL E → L ((s7b ++ m) ++ t) = sgnL neg ++ hexX X E := fun m t ml hm ht => by
      unfold hexX
      rw [L_append, L_append, hm, h7b, List.append_assoc, ht]; simp
    refine brr (fun q => ?_) fun q => ?_
    · have q := of_decide_eq_true q
      obtain ⟨k, hk⟩ : ∃ k : Nat, E = -(k : Int) := ⟨(-E).toNat, by omega⟩
      rw [show (0 : Int) - E = (k : Int) by omega, w64 (by omega)]
      refine ⟨by rw [zm]; omega, inI64 (by omega) (by omega), (dec_does (by omega)).imp ?_⟩
      rintro e w' ⟨s, rfl, hs, x'⟩
      have hz := L_len s
      have hl := decL_len_le (n := k) (k := 4) (by decide) (by omega)
      rw [hs] at hz
      refine ⟨_, rfl, by rw [ByteArray.size_append, zm]; omega, _, rfl, fin _ _ _ mm ?_, Ext.then xc x'⟩
      unfold expL
      rw [if_neg (by omega), hs, show (-E).toNat = k by omega]; rfl
    · have q := of_decide_eq_false q
      obtain ⟨k, hk⟩ : ∃ k : Nat, E = (k : Int) := ⟨E.toNat, by omega⟩
      rw [hk, w64 (by omega)]
      refine ⟨by rw [zp]; omega, (dec_does (by omega)).imp ?_⟩
      rintro e w' ⟨s, rfl, hs, x'⟩
      have hz := L_len s
      have hl := decL_len_le (n := k) (k := 4) (by decide) (by omega)
      rw [hs] at hz
      refine ⟨_, rfl, by rw [ByteArray.size_append, zp]; omega, _, rfl, ?_, Ext.then xc x'⟩
      rw [← hk]
      refine fin _ _ _ mp ?_
      unfold expL
      rw [if_pos (by omega), hs, show E.toNat = k by omega]; rfl
end Go.Proofs.YtffhlgejfgmpiaaGreatDoor

/-
  Numbers shown, in plain Lean: two numbers have two texts.
-/
namespace Go.Vc
open Go.Proofs.YtffhlgejfgmpiaaGreatDoor (sgnL exp_text showR_whole showR_hex)
theorem decL_inj {a b : Nat} (h : decL a = decL b) : a = b := by rw [← numV_decL a, h, numV_decL]
theorem hexc_inj {a b : Nat} (ha : a < 16) (hb : b < 16) (h : hexc a = hexc b) : a = b := by
  unfold hexc at h
  split at h <;> split at h <;> omega
theorem frL_inj : ∀ {k a b : Nat}, a < 16 ^ k → b < 16 ^ k → frL k a = frL k b → a = b
  | 0, a, b, ha, hb, _ => by simp at ha hb; omega
  | k + 1, a, b, ha, hb, h => by
    have hp := Nat.pow_pos (n := k) (show 0 < 16 by decide)
    have q : ∀ n, n < 16 ^ (k + 1) → n / 16 ^ k < 16 := fun n hn => by
      rw [Nat.div_lt_iff_lt_mul hp, Nat.mul_comm, ← Nat.pow_succ]; exact hn
    unfold frL at h
    split at h
    · rename_i h0
      split at h
      · omega
      · cases h
    · split at h
      · cases h
      · obtain ⟨h1, h2⟩ := List.cons.inj h
        have e1 := hexc_inj (q a ha) (q b hb) h1
        have e2 := frL_inj (Nat.mod_lt a hp) (Nat.mod_lt b hp) h2
        have d1 := Nat.div_add_mod a (16 ^ k)
        have d2 := Nat.div_add_mod b (16 ^ k)
        rw [← d1, ← d2, e1, e2]
theorem frL_no112 {k n : Nat} (h : n < 16 ^ k) : ∀ c ∈ frL k n, (c != 112) = true := fun c hc => by
  rw [frN_map, List.mem_map] at hc
  obtain ⟨d, hd, rfl⟩ := hc
  rw [bne_iff_ne]
  rcases hexc_range (frN_dig h d hd) with h | h <;> omega
theorem ptL_no112 {k n : Nat} (h : n < 16 ^ k) : ∀ c ∈ ptL (frL k n), (c != 112) = true := fun c hc => by
  unfold ptL at hc
  split at hc
  · cases hc
  · rcases List.mem_cons.1 hc with rfl | hc
    · decide
    · exact frL_no112 h c hc
theorem ptL_inj {a b : List Int} (h : ptL a = ptL b) : a = b := by
  unfold ptL at h
  split at h <;> split at h
  · rename_i h1 h2; rw [h1, h2]
  · cases h
  · cases h
  · exact (List.cons.inj h).2
theorem expL_inj {a b : Int} (h : expL a = expL b) : a = b := by
  obtain ⟨s1, D1, x1, y1, z1⟩ := exp_text (e := a)
  obtain ⟨s2, D2, x2, y2, z2⟩ := exp_text (e := b)
  rw [x1, x2] at h
  obtain ⟨_, h⟩ := List.cons.inj h
  obtain ⟨h1, h2⟩ := List.cons.inj h
  rw [y1, y2] at h2
  have := decL_inj h2
  omega
theorem hexX_inj {X Y : Nat} {a b : Int} (hX : X < 16 ^ 13) (hY : Y < 16 ^ 13) (h : hexX X a = hexX Y b) : X = Y ∧ a = b := by
  unfold hexX at h
  have h := (List.cons.inj (List.cons.inj (List.cons.inj h).2).2).2
  have t : ∀ {Z : Nat} {c : Int}, Z < 16 ^ 13 → (ptL (frL 13 Z) ++ expL c).takeWhile (· != 112) = ptL (frL 13 Z) := fun {Z c} hZ => by
    obtain ⟨s1, D1, x1, _, _⟩ := exp_text (e := c)
    rw [List.takeWhile_append_of_pos (ptL_no112 hZ), x1]
    simp
  have e := congrArg (List.takeWhile (· != 112)) h
  rw [t hX, t hY] at e
  rw [e] at h
  exact ⟨frL_inj hX hY (ptL_inj e), expL_inj (List.append_cancel_left h)⟩
theorem word_inj {r t : Nat} (hr : 0 < r) (ht : 0 < t) (h1 : nM r = nM t) (h2 : nE r = nE t) : r = t := by
  have nEr : nE r = (ex r : Int) - 1022 - (mgk r : Int) := rfl
  have nEt : nE t = (ex t : Int) - 1022 - (mgk t : Int) := rfl
  have nMr : nM r = mg r * 2 ^ mgk r := rfl
  have nMt : nM t = mg t * 2 ^ mgk t := rfl
  obtain ⟨b1, b2⟩ := nM_bounds hr
  obtain ⟨c1, c2⟩ := nM_bounds ht
  rcases Nat.lt_or_ge r 4503599627370496 with a | a <;> rcases Nat.lt_or_ge t 4503599627370496 with b | b
  · obtain ⟨p1, p2⟩ := mg_sub a
    obtain ⟨q1, q2⟩ := mg_sub b
    have e : mgk r = mgk t := by omega
    rw [nMr, nMt, e, p1, q1] at h1
    exact Nat.eq_of_mul_eq_mul_right (Nat.two_pow_pos _) h1
  · obtain ⟨p1, p2⟩ := mg_sub a
    obtain ⟨q1, q2, q3, q4⟩ := mgk_norm b
    have e : mgk r = 0 := by omega
    rw [e, p1, Nat.pow_zero, Nat.mul_one] at nMr
    omega
  · obtain ⟨p1, p2⟩ := mg_sub b
    obtain ⟨q1, q2, q3, q4⟩ := mgk_norm a
    have e : mgk t = 0 := by omega
    rw [e, p1, Nat.pow_zero, Nat.mul_one] at nMt
    omega
  · obtain ⟨p1, p2, p3, p4⟩ := mgk_norm a
    obtain ⟨q1, q2, q3, q4⟩ := mgk_norm b
    omega
theorem showR_form {r : Nat} (h : r ≤ 9218868437227405312) : (r = 9218868437227405312 ∧ showR r = [105, 110, 102]) ∨ (∃ n, showR r = decL n ∧ r = RR BB (n * 2 ^ (2 * BB))) ∨ (0 < r ∧ showR r = hexX (nM r - 4503599627370496) (nE r)) := by
  rcases Nat.lt_or_ge r 9218868437227405312 with hlt | hge
  · right
    cases hw : wholeB r with
    | true => exact .inl ⟨_, showR_whole hlt hw, (whole_iff.1 hw).2⟩
    | false =>
      refine .inr ⟨?_, showR_hex hlt hw⟩
      rcases Nat.eq_zero_or_pos r with h | h
      · rw [h, whole_zero] at hw; cases hw
      · exact h
  · left
    have e : r = 9218868437227405312 := by omega
    refine ⟨e, ?_⟩
    unfold showR
    rw [if_pos e]
theorem decL_ne_hex {n X : Nat} {e : Int} (h : decL n = hexX X e) : False := by
  have h1 := decL_dig n 120 (by rw [h]; unfold hexX; simp)
  omega
theorem decL_ne_inf {n : Nat} (h : decL n = [105, 110, 102]) : False := by
  have h1 := decL_dig n 105 (by rw [h]; simp)
  omega
theorem showR_inj {r t : Nat} (hr : r ≤ 9218868437227405312) (ht : t ≤ 9218868437227405312) (h : showR r = showR t) : r = t := by
  rcases showR_form hr with ⟨a, b⟩ | ⟨n, b, c⟩ | ⟨a, b⟩ <;> rcases showR_form ht with ⟨a', b'⟩ | ⟨n', b', c'⟩ | ⟨a', b'⟩ <;> rw [b, b'] at h
  · omega
  · exact (decL_ne_inf h.symm).elim
  · unfold hexX at h; have := (List.cons.inj h).1; omega
  · exact (decL_ne_inf h).elim
  · rw [c, c', decL_inj h]
  · exact (decL_ne_hex h).elim
  · unfold hexX at h; have := (List.cons.inj h).1; omega
  · exact (decL_ne_hex h.symm).elim
  · obtain ⟨b1, b2⟩ := nM_bounds a
    obtain ⟨c1, c2⟩ := nM_bounds a'
    have p : (16 : Nat) ^ 13 = 4503599627370496 := by decide
    obtain ⟨e1, e2⟩ := hexX_inj (by rw [p]; omega) (by rw [p]; omega) h
    exact word_inj a a' (by omega) e2
theorem showR_head {r : Nat} (h : r ≤ 9218868437227405312) : ∃ c q, showR r = c :: q ∧ (c = 105 ∨ 48 ≤ c ∧ c ≤ 57) := by
  rcases showR_form h with ⟨_, b⟩ | ⟨n, b, _⟩ | ⟨_, b⟩
  · exact ⟨_, _, b, .inl rfl⟩
  · cases hq : decL n with
    | nil => exact absurd hq (decL_ne n)
    | cons c q => exact ⟨c, q, by rw [b, hq], .inr (decL_dig n c (by rw [hq]; exact List.mem_cons_self))⟩
  · exact ⟨48, _, by rw [b]; rfl, .inr (by decide)⟩
theorem showS_eq {x : Nat} (h : nan x = false) : showS x = sgnL (sgn x) ++ showR (rung x) := by unfold showS; rw [h]; rfl
theorem show_inj {x y : Nat} (hx : Wd x) (hy : Wd y) (h : showS x = showS y) : cls x = cls y := by
  have le : ∀ {z : Nat}, nan z = false → rung z ≤ 9218868437227405312 := fun hz => by
    unfold nan at hz; have := of_decide_eq_false hz; omega
  have nn : ∀ {z : Nat}, nan z = false → showS z ≠ [110, 97, 110] := fun {z} hz hk => by
    obtain ⟨c, q, e, hc⟩ := showR_head (le hz)
    rw [showS_eq hz, e] at hk
    cases hsz : sgn z <;> rw [hsz] at hk
    · have := (List.cons.inj hk).1; omega
    · have := (List.cons.inj hk).1; omega
  have nt : ∀ {z : Nat}, nan z = true → showS z = [110, 97, 110] := fun hz => by unfold showS; rw [hz]; rfl
  cases e1 : nan x <;> cases e2 : nan y
  · obtain ⟨c, q, p1, p2⟩ := showR_head (le e1)
    obtain ⟨c', q', p1', p2'⟩ := showR_head (le e2)
    have h' : sgnL (sgn x) ++ showR (rung x) = sgnL (sgn y) ++ showR (rung y) := by rw [← showS_eq e1, ← showS_eq e2, h]
    have hsr : sgn x = sgn y ∧ showR (rung x) = showR (rung y) := by
      cases s1 : sgn x <;> cases s2 : sgn y <;> rw [s1, s2] at h'
      · exact ⟨rfl, h'⟩
      · rw [p1] at h'; have := (List.cons.inj h').1; omega
      · rw [p1'] at h'; have := (List.cons.inj h').1; omega
      · exact ⟨rfl, (List.cons.inj h').2⟩
    have := showR_inj (le e1) (le e2) hsr.2
    rw [word_parts hx, word_parts hy, hsr.1, this]
  · exact absurd (h.trans (nt e2)) (nn e1)
  · exact absurd (h.symm.trans (nt e1)) (nn e2)
  · unfold cls; rw [e1, e2]; rfl
end Go.Vc
