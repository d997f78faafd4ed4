/-
  Numbers read: a text in base 16.
-/
import Derived.Test.YtffhlgejfgmpiaaGreatDoorReadNum
import Derived.Test.YtffhlgejfgmpiaaGreatDoorHexPure
import Derived.Test.YtffhlgejfgmpiaaGreatDoorRealDec
namespace Go.Proofs.YtffhlgejfgmpiaaGreatDoor
open Go.RowKit Go.Vc
variable {w : World} {R : Ending → World → Prop}
theorem low_tab : ∀ c : Nat, c < 256 → (c = 120 ∨ c = 112 ∨ (97 ≤ c ∧ c ≤ 102)) → bits .or .u8 (c : Int) 32 = c := by decide +kernel
theorem lower_keep {c : Nat} (hc : c < 256) (h : c = 120 ∨ c = 112 ∨ (97 ≤ c ∧ c ≤ 102)) (k : R (.returned (.int .u8 (c : Int))) w) : Does Tryz.prog 132 #[.int .u8 (c : Int)] w R := by
  refine f132_does _ ?_
  unfold f132_vc
  rw [low_tab c hc h]; exact k
section
variable {s : ByteArray} {neg : Bool} {ds : List Nat} {e : Int} (hs : L s = sgnL neg ++ 48 :: 120 :: (mantL ds ++ expL e)) (hd : ∀ d ∈ ds, d < 16) (hl : ds.length ≤ 13) (he1 : -1074 ≤ e) (he2 : e ≤ 1023)
include hs
omit hs in
theorem hex_at {i : Nat} (p : List Int) {x : Int} {r : List Int} (h : L s = p ++ x :: r) (hi : i = p.length) : sb s (i : Int) = x ∧ i < s.size := by
  have hlen : i < (L s).length := by rw [h, List.length_append, List.length_cons]; omega
  refine ⟨?_, by rw [← L_len]; exact hlen⟩
  rw [L_sb hlen]
  have : (L s)[i]? = some x := by rw [h, hi, List.getElem?_append_right (Nat.le_refl _), Nat.sub_self]; rfl
  rw [List.getElem?_eq_getElem hlen] at this
  exact Option.some.inj this
theorem hex_size : s.size = (sgnL neg).length + 2 + (mantL ds).length + (expL e).length := by
  have := L_len s
  rw [hs, List.length_append, List.length_cons, List.length_cons, List.length_append] at this
  omega
theorem hex_mant {j : Nat} (hj : j < (mantL ds).length) : sb s (((sgnL neg).length + 2 + j : Nat) : Int) = (mantL ds)[j] := by
  refine (hex_at (sgnL neg ++ [48, 120] ++ (mantL ds).take j) (r := (mantL ds).drop (j + 1) ++ expL e) ?_ ?_).1
  · have e1 : mantL ds ++ expL e = (mantL ds).take j ++ (mantL ds)[j] :: ((mantL ds).drop (j + 1) ++ expL e) := by
      rw [← List.cons_append, ← List.append_assoc, ← List.drop_eq_getElem_cons hj, List.take_append_drop]
    rw [hs]
    simp only [List.append_assoc, List.cons_append, List.nil_append]
    rw [← e1]
  · rw [List.length_append, List.length_append, List.length_take]; simp; omega
theorem hex_exp {t : Nat} (ht : t < (expL e).length) : sb s (((sgnL neg).length + 2 + (mantL ds).length + t : Nat) : Int) = (expL e)[t] := by
  refine (hex_at (sgnL neg ++ [48, 120] ++ mantL ds ++ (expL e).take t) (r := (expL e).drop (t + 1)) ?_ ?_).1
  · rw [hs]
    conv => lhs; rw [← List.take_append_drop t (expL e), List.drop_eq_getElem_cons ht]
    simp
  · rw [List.length_append, List.length_append, List.length_append, List.length_take]; simp; omega
omit hs in
theorem sgn_len : (sgnL neg).length ≤ 1 := by cases neg <;> decide
omit hs in
/-- The exponent's text. -/
theorem exp_text : ∃ (sg : Int) (D : List Int), expL e = 112 :: sg :: D ∧ D = decL e.natAbs ∧ ((sg = 43 ∧ 0 ≤ e) ∨ (sg = 45 ∧ e < 0)) := by
  unfold expL
  split
  · exact ⟨43, _, rfl, by congr 1; omega, .inl ⟨rfl, by assumption⟩⟩
  · exact ⟨45, _, rfl, by congr 1; omega, .inr ⟨rfl, by omega⟩⟩
include hd hl he1 he2
theorem readf_hex (h : R (.returned (.tuple #[.int .u64 (hexN (1 :: ds)), .int .i64 (e - 4 * (ds.length : Int)), .bool neg, .bool false, .bool true, .int .i64 s.size, .bool true])) w) : Does Tryz.prog 112 #[.string s] w R := by
  have hz := hex_size hs
  have hsl := sgn_len (neg := neg)
  have hml := mant_len ds
  have hm1 : 1 ≤ (mantL ds).length := by rw [hml]; split <;> omega
  have hm2 : (mantL ds).length ≤ 15 := by rw [hml]; split <;> omega
  obtain ⟨sg, D, hx, hD, hsg⟩ := exp_text (e := e)
  have hxl : (expL e).length = D.length + 2 := by rw [hx]; rfl
  have hDl : D.length ≤ 4 := by rw [hD]; exact decL_len_le (by decide) (by omega)
  have hDp : 1 ≤ D.length := by rw [hD]; exact decL_pos _
  have c0 : sb s (((sgnL neg).length : Nat) : Int) = 48 := (hex_at (sgnL neg) hs rfl).1
  have c1 : sb s (((sgnL neg).length + 1 : Nat) : Int) = 120 := (hex_at (sgnL neg ++ [48]) (x := 120) (r := mantL ds ++ expL e) (by rw [hs]; simp) (by simp)).1
  have n0 : neg = true → sb s 0 = 45 := fun hn => by
    subst hn
    exact (hex_at (i := 0) [] (x := 45) (r := 48 :: 120 :: (mantL ds ++ expL e)) hs rfl).1
  refine f112_does _ (fls (decide_eq_false (by omega)) ⟨fun b x n wc => neg = b ∧ x = ((sgnL neg).length : Int) ∧ wc = w, ⟨⟨by omega, by omega⟩, ?_⟩, ?_⟩)
  · cases hneg : neg with
    | false =>
      have : sb s 0 = 48 := by have := c0; rw [hneg] at this; exact this
      rw [this]
      exact fls (by decide) (fls (by decide) ⟨0, rfl, rfl, rfl⟩)
    | true =>
      rw [n0 hneg]
      exact fls (by decide) (tru (by decide) ⟨by decide, 0, rfl, rfl, rfl⟩)
  rintro _ _ _ wc1 ⟨rfl, rfl, rfl⟩
  refine ⟨fun b x y z c n wc => b = true ∧ x = ((sgnL b).length : Int) - (sgnL b).length + (sgnL neg).length + 2 ∧ y = 16 ∧ z = 16 ∧ c = 112 ∧ wc = wc1, ⟨inI64 (by omega) (by omega), tru (decide_eq_true (by omega)) ⟨⟨by omega, by omega⟩, ?_⟩⟩, ?_⟩
  · rw [c0]
    refine tru rfl ⟨inI64 (by omega) (by omega), ⟨by omega, by omega⟩, ?_⟩
    rw [show ((sgnL neg).length : Int) + 1 = (((sgnL neg).length + 1 : Nat) : Int) by omega, c1]
    exact lower_keep (c := 120) (by decide) (.inl rfl) ⟨_, rfl, tru rfl ⟨inI64 (by omega) (by omega), 0, rfl, by omega, rfl, rfl, rfl, rfl⟩⟩
  rintro _ _ _ _ _ _ wc2 ⟨rfl, rfl, rfl, rfl, rfl, rfl⟩
  rw [show ((sgnL true).length : Int) - (sgnL true).length + (sgnL neg).length + 2 = (((sgnL neg).length + 2 + 0 : Nat) : Int) by omega]
  -- the digits
  refine ⟨fun x2 b5 x7 b9 b13 b14 x15 x16 x17 n wc => x2 = ((hexN (1 :: ds) : Nat) : Int) ∧ b5 = false ∧ x7 = (((sgnL neg).length + 2 + (mantL ds).length : Nat) : Int) ∧ b9 = false ∧ b13 = decide (2 ≤ (mantL ds).length) ∧ b14 = true ∧ x15 = ((ds.length + 1 : Nat) : Int) ∧ x16 = ((ds.length + 1 : Nat) : Int) ∧ (2 ≤ (mantL ds).length → x17 = 1) ∧ wc = wc2,
    ⟨fun x2 b5 x7 b9 b13 b14 x15 x16 x17 n wl => ∃ j : Nat, j ≤ (mantL ds).length ∧ n = (mantL ds).length - j ∧ x7 = (((sgnL neg).length + 2 + j : Nat) : Int) ∧ x2 = ((hexN (digN ds j) : Nat) : Int) ∧ b5 = false ∧ b9 = false ∧ b13 = decide (2 ≤ j) ∧ b14 = decide (1 ≤ j) ∧ x15 = (((digN ds j).length : Nat) : Int) ∧ x16 = x15 ∧ x17 = (if 2 ≤ j then 1 else 0) ∧ wl = wc2,
      ⟨_, 0, Nat.zero_le _, rfl, rfl, rfl, rfl, rfl, rfl, rfl, rfl, rfl, rfl, rfl⟩, ?_⟩, ?_⟩
  · rintro _ _ _ _ _ _ _ _ _ _ wl ⟨j, hj, rfl, rfl, rfl, rfl, rfl, rfl, rfl, rfl, rfl, rfl, rfl⟩
    have hdl := digN_len hj
    have hlt := digN_lt hd j
    refine tru (decide_eq_true (by omega)) ?_
    rcases Nat.lt_or_ge j (mantL ds).length with hjm | hjm
    · have hc := hex_mant hs hjm
      refine ⟨fun x2 b5 b9 b13 b14 x15 x16 x17 n wc => x2 = ((hexN (digN ds (j + 1)) : Nat) : Int) ∧ b5 = false ∧ b9 = false ∧ b13 = decide (2 ≤ j + 1) ∧ b14 = true ∧ x15 = (((digN ds (j + 1)).length : Nat) : Int) ∧ x16 = x15 ∧ x17 = (if 2 ≤ j + 1 then 1 else 0) ∧ wc = wl, ⟨⟨by omega, by omega⟩, ?_⟩, ?_⟩
      · rw [hc]
        have hcase : (∃ d : Nat, d < 16 ∧ digN ds (j + 1) = digN ds j ++ [d] ∧ (j = 0 → d ≠ 0) ∧ j ≠ 1 ∧ (mantL ds)[j] = hexc d) ∨ (j = 1 ∧ (mantL ds)[j] = 46) := by
          rcases mant_at hjm with ⟨h0, h49⟩ | h46 | ⟨h2, hjd, hcj⟩
          · subst h0
            exact .inl ⟨1, by decide, rfl, fun _ => by decide, by decide, by rw [h49]; decide⟩
          · exact .inr h46
          · exact .inl ⟨_, hd _ (List.getElem_mem hjd), digN_next h2 hjd, fun h0 => by omega, by omega, hcj⟩
        rcases hcase with ⟨d, hd16, hnx, hj0, hj1, hcd⟩ | ⟨rfl, h46⟩
        · rw [hcd]
          have hN : hexN (digN ds (j + 1)) = hexN (digN ds j) * 16 + d := by rw [hnx, hexN_snoc]
          have hL1 : (digN ds (j + 1)).length = (digN ds j).length + 1 := by rw [hnx]; simp
          have hlen13 : (digN ds j).length ≤ 13 := by rw [hdl]; split <;> omega
          have hbig : hexN (digN ds j) * 16 + d < 72057594037927936 := by
            have h1 : 16 ^ (digN ds j).length ≤ 16 ^ 13 := Nat.pow_le_pow_right (by decide) hlen13
            have h2 : (16 : Nat) ^ 13 = 4503599627370496 := by decide
            omega
          have ew : IntKind.wrap .u64 (((hexN (digN ds j) : Nat) : Int) * 16) = ((hexN (digN ds j) * 16 : Nat) : Int) := by
            rw [show ((hexN (digN ds j) : Nat) : Int) * 16 = ((hexN (digN ds j) * 16 : Nat) : Int) by omega]; exact w64 (by omega)
          have es : ((hexN (digN ds j) * 16 : Nat) : Int) + (d : Int) = ((hexN (digN ds (j + 1)) : Nat) : Int) := by rw [hN]; omega
          have e17 : (if 2 ≤ j then (1 : Int) else 0) = if 2 ≤ j + 1 then 1 else 0 := by split <;> split <;> omega
          have e13 : decide (2 ≤ j) = decide (2 ≤ j + 1) := by rw [decide_eq_decide]; omega
          have fin : (∃ nc24 : Nat, ((hexN (digN ds (j + 1)) : Nat) : Int) = ((hexN (digN ds (j + 1)) : Nat) : Int) ∧ false = false ∧ false = false ∧ decide (2 ≤ j) = decide (2 ≤ j + 1) ∧ true = true ∧ ((digN ds j).length : Int) + 1 = (((digN ds (j + 1)).length : Nat) : Int) ∧ ((digN ds j).length : Int) + 1 = ((digN ds j).length : Int) + 1 ∧ (if 2 ≤ j then (1 : Int) else 0) = (if 2 ≤ j + 1 then 1 else 0) ∧ wl = wl) := ⟨0, rfl, rfl, rfl, e13, rfl, by rw [hL1]; omega, rfl, e17, rfl⟩
          rcases hexc_range hd16 with ⟨a1, a2, a3, a4⟩ | ⟨a1, a2, a3, a4⟩
          · have e8 : IntKind.wrap .u64 (IntKind.wrap .u8 (hexc d - 48)) = (d : Int) := by
              rw [a4, show (48 : Int) + (d : Int) - 48 = (d : Int) by omega, Go.Vc.w8 (by omega), w64 (by omega)]
            have upd : InK .i64 (((digN ds j).length : Int) + 1) ∧ Br (decide (((digN ds j).length : Int) < 16)) (InK .i64 (((digN ds j).length : Int) + 1) ∧ (∃ nc24 : Nat, IntKind.wrap .u64 ((IntKind.wrap .u64 (((hexN (digN ds j) : Nat) : Int) * 16)) + (IntKind.wrap .u64 (IntKind.wrap .u8 (hexc d - 48)))) = ((hexN (digN ds (j + 1)) : Nat) : Int) ∧ false = false ∧ false = false ∧ decide (2 ≤ j) = decide (2 ≤ j + 1) ∧ true = true ∧ ((digN ds j).length : Int) + 1 = (((digN ds (j + 1)).length : Nat) : Int) ∧ ((digN ds j).length : Int) + 1 = ((digN ds j).length : Int) + 1 ∧ (if 2 ≤ j then (1 : Int) else 0) = (if 2 ≤ j + 1 then 1 else 0) ∧ wl = wl)) True := by
              refine ⟨inI64 (by omega) (by omega), ⟨fun _ => ⟨inI64 (by omega) (by omega), ?_⟩, fun _ => trivial⟩⟩
              rw [ew, e8, es, w64 (by omega)]
              exact fin
            refine fls (by rw [beq_eq_false_iff_ne]; simp; omega) (fls (by rw [beq_eq_false_iff_ne]; simp; omega) (tru (decide_eq_true a1) (tru (by rw [decide_eq_true a2]; rfl) (brr (fun q => ?_) fun q => ?_))))
            · have q : hexc d = 48 := by simpa using q
              have hjj : j ≠ 0 := fun h0 => hj0 h0 (by omega)
              refine fls (by rw [beq_eq_false_iff_ne, hdl]; split <;> omega) ⟨upd.1, tru (decide_eq_true (by omega)) (upd.2.1 (decide_eq_true (by omega)))⟩
            · exact ⟨upd.1, tru (decide_eq_true (by omega)) (upd.2.1 (decide_eq_true (by omega)))⟩
          · have hcc : hexc d = ((87 + d : Nat) : Int) := by rw [a4]; omega
            have e8 : IntKind.wrap .u64 (IntKind.wrap .u8 ((IntKind.wrap .u8 (hexc d - 97)) + 10)) = (d : Int) := by
              rw [a4, show (87 : Int) + (d : Int) - 97 = ((d - 10 : Nat) : Int) by omega, Go.Vc.w8 (by omega), show ((d - 10 : Nat) : Int) + 10 = ((d : Nat) : Int) by omega, Go.Vc.w8 (by omega), w64 (by omega)]
            have low : ∀ {R' : Ending → World → Prop}, R' (.returned (.int .u8 (hexc d))) wl → Does Tryz.prog 132 #[.int .u8 (hexc d)] wl R' := fun {R'} k => by
              rw [hcc] at k ⊢
              exact lower_keep (by omega) (.inr (.inr ⟨by omega, by omega⟩)) k
            refine fls (by rw [beq_eq_false_iff_ne]; simp; omega) (fls (by rw [beq_eq_false_iff_ne]; simp; omega) (tru (decide_eq_true (by omega)) (fls (by rw [decide_eq_false (by omega)]; rfl) (tru rfl (low ⟨_, rfl, tru (decide_eq_true (by omega)) (low ⟨_, rfl, tru (by rw [decide_eq_true (by omega)]; rfl) ⟨inI64 (by omega) (by omega), tru (decide_eq_true (by omega)) (low ⟨_, rfl, inI64 (by omega) (by omega), ?_⟩)⟩⟩)⟩)))))
            rw [ew, e8, es, w64 (by omega)]
            exact fin
        · rw [h46]
          exact fls (by decide) (tru (by decide) (fls (by decide) ⟨0, rfl, rfl, rfl, rfl, rfl, rfl, rfl, rfl, rfl⟩))
      · rintro _ _ _ _ _ _ _ _ _ wc ⟨rfl, rfl, rfl, rfl, rfl, rfl, rfl, rfl, rfl⟩
        exact ⟨inI64 (by omega) (by omega), (mantL ds).length - (j + 1), by omega, j + 1, by omega, rfl, by omega, rfl, rfl, rfl, rfl, (decide_eq_true (by omega)).symm, rfl, rfl, rfl, rfl⟩
    · have hjm : j = (mantL ds).length := by omega
      have hc : sb s (((sgnL neg).length + 2 + j : Nat) : Int) = ((112 : Nat) : Int) := by
        have := hex_exp hs (t := 0) (by omega)
        rw [Nat.add_zero, ← hjm] at this
        rw [this]
        simp [hx]
      have low : ∀ {R' : Ending → World → Prop}, R' (.returned (.int .u8 ((112 : Nat) : Int))) wl → Does Tryz.prog 132 #[.int .u8 ((112 : Nat) : Int)] wl R' := fun {R'} k => lower_keep (by decide) (.inr (.inl rfl)) k
      have hda : digN ds j = 1 :: ds := by rw [hjm]; exact digN_all
      refine ⟨fun _ _ _ _ _ _ _ _ _ _ => False, ⟨⟨by omega, by omega⟩, ?_⟩, fun _ _ _ _ _ _ _ _ _ _ k => k.elim⟩
      rw [hc]
      refine fls (by decide) (fls (by decide) (tru (by decide) (fls (by decide) (tru rfl (low ⟨_, rfl, tru (by decide) (low ⟨_, rfl, fls (by decide) ⟨0, by rw [hda], rfl, by rw [hjm], rfl, by rw [hjm], decide_eq_true (by omega), by rw [hda]; simp, by rw [hda]; simp, fun h2 => by rw [if_pos (by omega)], rfl⟩⟩)⟩)))))
  rintro _ _ _ _ _ _ _ _ x17 _ wc3 ⟨rfl, rfl, rfl, rfl, rfl, rfl, rfl, rfl, h17, rfl⟩
  -- behind them
  refine fls rfl ⟨fun x n wc => x = 1 ∧ wc = wc3, ?_, ?_⟩
  · refine brr (fun q => ⟨0, ?_, rfl⟩) fun q => ⟨0, h17 (by simpa using q), rfl⟩
    have q : ¬ 2 ≤ (mantL ds).length := by simpa using q
    rw [hml] at q
    split at q
    · rename_i h0; rw [h0]; rfl
    · omega
  rintro _ _ wc4 ⟨rfl, rfl⟩
  refine ⟨fun x y n wc => x = ((ds.length + 1 : Nat) : Int) * 4 ∧ y = 4 ∧ wc = wc4, tru rfl ⟨inI64 (by omega) (by omega), 0, rfl, by decide, rfl⟩, ?_⟩
  rintro _ _ _ wc5 ⟨rfl, rfl, rfl⟩
  have hx0 : sb s (((sgnL neg).length + 2 + (mantL ds).length : Nat) : Int) = ((112 : Nat) : Int) := by
    have := hex_exp hs (t := 0) (by omega)
    rw [Nat.add_zero] at this
    rw [this]; simp [hx]
  have hx1 : sb s (((sgnL neg).length + 2 + (mantL ds).length : Nat) + 1 : Int) = sg := by
    have := hex_exp hs (t := 1) (by omega)
    rw [show (((sgnL neg).length + 2 + (mantL ds).length : Nat) + 1 : Int) = (((sgnL neg).length + 2 + (mantL ds).length + 1 : Nat) : Int) by omega, this]
    simp [hx]
  have hxd : ∀ t (ht : t < D.length), sb s (((sgnL neg).length + 2 + (mantL ds).length + 2 + t : Nat) : Int) = D[t] := fun t ht => by
    have := hex_exp hs (t := 2 + t) (by omega)
    rw [show (sgnL neg).length + 2 + (mantL ds).length + 2 + t = (sgnL neg).length + 2 + (mantL ds).length + (2 + t) by omega, this]
    have : (expL e)[2 + t]? = some D[t] := by
      rw [hx, show 2 + t = t + 1 + 1 by omega, List.getElem?_cons_succ, List.getElem?_cons_succ, List.getElem?_eq_getElem ht]
    rw [List.getElem?_eq_getElem (by omega)] at this
    exact Option.some.inj this
  have hDd : ∀ t (ht : t < D.length), 48 ≤ D[t] ∧ D[t] ≤ 57 := fun t ht => by
    have hm : ∀ x ∈ D, 48 ≤ x ∧ x ≤ 57 := by rw [hD]; exact decL_dig _
    exact hm _ (List.getElem_mem ht)
  refine ⟨fun x b y n wc => x = (s.size : Int) ∧ b = false ∧ y = 4 + e ∧ wc = wc5, tru (decide_eq_true (by omega)) ⟨⟨by omega, by omega⟩, ?_⟩, ?_⟩
  · rw [hx0]
    refine lower_keep (by decide) (.inr (.inl rfl)) ⟨_, rfl, tru rfl ⟨inI64 (by omega) (by omega), fls (decide_eq_false (by omega)) ⟨fun x y n wc => x = (((sgnL neg).length + 2 + (mantL ds).length + 2 + 0 : Nat) : Int) ∧ y = (if e < 0 then -1 else 1) ∧ wc = wc5, ⟨⟨by omega, by omega⟩, ?_⟩, ?_⟩⟩⟩
    · rw [hx1]
      rcases hsg with ⟨rfl, h0⟩ | ⟨rfl, h0⟩
      · exact tru rfl ⟨inI64 (by omega) (by omega), 0, by omega, by rw [if_neg (by omega)], rfl⟩
      · exact fls (by decide) (tru rfl ⟨inI64 (by omega) (by omega), 0, by omega, by rw [if_pos h0], rfl⟩)
    rintro _ _ _ wc6 ⟨rfl, rfl, rfl⟩
    have d0 := hDd 0 (by omega)
    refine fls (decide_eq_false (by omega)) ⟨⟨by omega, by omega⟩, ?_⟩
    rw [hxd 0 (by omega)]
    refine fls (decide_eq_false (by omega)) ⟨⟨by omega, by omega⟩, fls (decide_eq_false (by omega)) ⟨fun x b y n wc => x = (s.size : Int) ∧ b = false ∧ y = (e.natAbs : Int) ∧ wc = wc6, ⟨fun x b y n wl => ∃ t : Nat, t ≤ D.length ∧ n = D.length - t ∧ x = (((sgnL neg).length + 2 + (mantL ds).length + 2 + t : Nat) : Int) ∧ b = false ∧ y = ((numV (D.take t) : Nat) : Int) ∧ wl = wc6, ⟨_, 0, Nat.zero_le _, rfl, rfl, rfl, rfl, rfl⟩, ?_⟩, ?_⟩⟩
    · rintro _ _ _ _ wl ⟨t, ht, rfl, rfl, rfl, rfl, rfl⟩
      refine brr (fun q => ?_) fun q => ?_
      · have q := of_decide_eq_true q
        have htl : t < D.length := by omega
        have dt := hDd t htl
        rw [hxd t htl]
        have hval : numV (D.take t) < 10000 := by
          have h1 := numV_lt (l := D.take t) fun x hx' => by
            have := List.mem_of_mem_take hx'
            rw [hD] at this
            have := decL_dig _ _ this
            unfold isDig; simp only [Bool.and_eq_true, decide_eq_true_eq]; exact this
          have h2 : (10 : Nat) ^ (D.take t).length ≤ 10 ^ 4 := Nat.pow_le_pow_right (by decide) (by rw [List.length_take]; omega)
          have h3 : (10 : Nat) ^ 4 = 10000 := by decide
          omega
        have hsn : numV (D.take (t + 1)) = numV (D.take t) * 10 + (D[t] - 48).toNat := by rw [List.take_succ_eq_append_getElem htl, numV_snoc]
        refine ⟨⟨by omega, by omega⟩, tru (decide_eq_true dt.1) ⟨⟨by omega, by omega⟩, tru (decide_eq_true dt.2) ⟨fun b y n wc => b = false ∧ y = ((numV (D.take (t + 1)) : Nat) : Int) ∧ wc = wl, ⟨⟨by omega, by omega⟩, fls (by rw [beq_eq_false_iff_ne]; omega) (tru (decide_eq_true (by omega)) ⟨inI64 (by omega) (by omega), ⟨by omega, by omega⟩, inI64 (by omega) (by omega), inI64 (by omega) (by omega), inI64 (by omega) (by omega), 0, rfl, by rw [hsn]; omega, rfl⟩)⟩, ?_⟩⟩⟩
        rintro _ _ _ wc ⟨rfl, rfl, rfl⟩
        exact ⟨inI64 (by omega) (by omega), D.length - (t + 1), by omega, t + 1, by omega, rfl, by omega, rfl, rfl, rfl⟩
      · have q := of_decide_eq_false q
        have htl : t = D.length := by omega
        refine ⟨0, by omega, rfl, ?_, rfl⟩
        rw [htl, List.take_length, hD]
        have := numV_decL e.natAbs
        rw [this]
    rintro _ _ _ _ wc7 ⟨rfl, rfl, rfl, rfl⟩
    refine ⟨?_, 0, rfl, rfl, ?_, rfl⟩
    · split <;> exact inI64 (by omega) (by omega)
    · rw [wrap_in]
      · split <;> omega
      · split <;> exact inI64 (by omega) (by omega)
  rintro _ _ _ _ wc8 ⟨rfl, rfl, rfl, rfl⟩
  have hM : (((hexN (1 :: ds) : Nat) : Int) != 0) = true := by
    rw [bne_iff_ne, hexN_cons]
    have := Nat.pow_pos (n := ds.length) (show 0 < 16 by decide)
    omega
  refine ⟨fun x n wc => x = e - 4 * (ds.length : Int) ∧ wc = wc8, tru hM ⟨0, ?_, rfl⟩, ?_⟩
  · rw [wrap_in (inI64 (by omega) (by omega))]; omega
  rintro _ _ wc9 ⟨rfl, rfl⟩
  exact fls rfl h
end
end Go.Proofs.YtffhlgejfgmpiaaGreatDoor
