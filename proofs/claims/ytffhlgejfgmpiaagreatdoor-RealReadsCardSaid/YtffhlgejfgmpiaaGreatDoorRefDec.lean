/-
  Expressions: the document's reading of digits with a point.
-/
import Derived.Test.YtffhlgejfgmpiaaGreatDoorRefPure
import Derived.Test.YtffhlgejfgmpiaaGreatDoorReadNum
namespace Go.Vc
open Go.RowKit
theorem dec_tail {d : List Int} (h : decOk d = true) (hp : (headD d).length < d.length) : 0 < (tailD d).length := by
  unfold decOk at h
  simp only [Bool.and_eq_true, Bool.or_eq_true, Bool.not_eq_true'] at h
  obtain ⟨⟨⟨_, _⟩, h3⟩, _⟩ := h
  rcases h3 with h3 | h3
  · have : ¬ (headD d).length < d.length := of_decide_eq_false h3
    omega
  · unfold figs at h3
    simp only [Bool.and_eq_true, Bool.not_eq_true', List.isEmpty_eq_false_iff] at h3
    exact List.length_pos_iff.2 h3.2
theorem head_no : ∀ {d : List Int}, ∀ x ∈ headD d, x ≠ 46
  | [], x, h => by cases h
  | y :: r, x, h => by
    unfold headD at h
    rw [List.takeWhile_cons] at h
    split at h
    · rename_i hy
      rcases List.mem_cons.1 h with rfl | h
      · simpa using hy
      · exact head_no (d := r) x h
    · cases h
theorem headD_zero : ∀ {l : List Int} (h : 0 < l.length), l.headD 0 = l[0]
  | _ :: _, _ => rfl
theorem head_char {d : List Int} {j : Nat} (hj : j < (headD d).length) (hl : j < d.length) : d[j] ≠ 46 := by
  have hs := dec_split d
  have e : d[j]? = (headD d)[j]? := by
    conv => lhs; rw [hs]
    rw [List.getElem?_append_left hj]
  rw [List.getElem?_eq_getElem hl, List.getElem?_eq_getElem hj] at e
  rw [Option.some.inj e]
  exact head_no _ (List.getElem_mem hj)
theorem head_stop {d : List Int} (hl : (headD d).length < d.length) : d[(headD d).length] = 46 :=
  drop_head (List.drop_eq_getElem_cons hl)
theorem digs_all' {d : List Int} (h : ∀ x ∈ tailD d, x ≠ 46) : digs d d.length = headD d ++ tailD d := by
  have ne : ∀ l : List Int, (∀ x ∈ l, x ≠ 46) → l.filter (· != 46) = l := fun l hl => by
    rw [List.filter_eq_self]
    intro x hx
    rw [bne_iff_ne]; exact hl x hx
  unfold digs
  rw [List.take_length]
  conv => lhs; rw [dec_split d]
  rw [List.filter_append, ne _ head_no]
  congr 1
  cases hq : d.drop (headD d).length with
  | nil =>
    have : tailD d = [] := by unfold tailD; rw [← List.drop_drop, hq]; rfl
    rw [this]; rfl
  | cons y q =>
    have hy := drop_head hq
    have ht : tailD d = q := by unfold tailD; rw [← List.drop_drop, hq]; rfl
    rw [hy]
    rw [ht] at h ⊢
    show List.filter (· != 46) (46 :: q) = q
    rw [List.filter_cons_of_neg (by decide), ne _ h]
theorem ten_mul : ∀ t, t < 15 → floatBits .mul .f64 (ten t) 4621819117588971520 = some (ten (t + 1)) := by decide +kernel
theorem ten_zero : ten 0 = 4607182418800017408 := by decide +kernel
theorem zero_quo : ∀ k, k < 16 → opC .quo (floatOfInt .f64 ((0 : Nat) : Int)) (ten k) = some 0 := by decide +kernel
/-- The quotient is the value. -/
theorem decV_eq {M k : Nat} (hM : M < 1000000000000000) (hk : k < 16) : opC .quo (floatOfInt .f64 (M : Int)) (ten k) = decV M k := by
  unfold decV
  by_cases h0 : M = 0
  · rw [if_pos h0]; subst h0; exact zero_quo k hk
  · rw [if_neg h0]
    by_cases hk0 : k = 0
    · rw [if_pos hk0]; subst hk0
      obtain ⟨B, hB⟩ : ∃ B : Nat, B = 1074 := ⟨_, rfl⟩
      have h1 := foi_val hB (N := M) (by omega)
      have h2 := foi_low hB (N := M) (by omega)
      have h3 := foi_top hB (N := M) (by omega)
      rw [← h1] at h2 h3
      unfold opC
      rw [ten_zero, quo_one hB h2 (by omega)]
    · rw [if_neg hk0]
end Go.Vc
namespace Go.Proofs.YtffhlgejfgmpiaaGreatDoor
open Go.RowKit Go.Vc
variable {w : World} {R : Ending → World → Prop}
theorem digit_does (c : Int) (h : R (.returned (.bool (isDig c))) w) : Does Tryz.prog 55 #[.int .u8 c] w R := by
  refine f55_does _ (brr (fun q => ?_) fun q => ?_)
  · unfold isDig at h
    rw [show decide (48 ≤ c) = true from q, Bool.true_and] at h
    exact h
  · unfold isDig at h
    rw [show decide (48 ≤ c) = false from q, Bool.false_and] at h
    exact h
theorem i2f {n : Int} (w : World) : (convert 3 22 (.int .i64 n)).run Tryz.prog w = .ok (.float .f64 (floatOfInt .f64 n)) w := run_convert_int_float w _ _ _ _ _ (by kernel_rfl) Tryz.underlying22
theorem rdec_does (s : ByteArray) (hs : s.size ≤ 140737488355328) (hall : ∀ x ∈ L s, isNum x = true) : Does Tryz.prog 33 #[.string s] w fun e w' => ∃ f b, e = .returned (.tuple #[.float .f64 f, .bool b]) ∧ Wd f ∧ decC (L s) = (if b then some (cls f) else none) ∧ Ext w w' := by
  refine f33_does _ ?_
  have hl := L_len s
  have no : decOk (L s) = false → ∀ {w'}, Ext w w' → ∃ f b, Ending.returned (.tuple #[.float .f64 0, .bool false]) = .returned (.tuple #[.float .f64 f, .bool b]) ∧ Wd f ∧ decC (L s) = (if b then some (cls f) else none) ∧ Ext w w' := fun h {w'} x =>
    ⟨0, false, rfl, by unfold Wd; decide, by unfold decC; rw [if_neg (by rw [h]; simp)]; rfl, x⟩
  have noc : (decOk (L s) = true → False) → decOk (L s) = false := fun h => by
    cases e : decOk (L s) with
    | false => rfl
    | true => exact (h e).elim
  refine ⟨fun x4 x5 x6 x7 n wl => ∃ j : Nat, x7 = j ∧ n = s.size - j ∧ j ≤ s.size ∧ x4 = (numV (digs (L s) j) : Int) ∧ x5 = ((digs (L s) j).length : Int) ∧ (digs (L s) j).length ≤ 15 ∧ numV (digs (L s) j) < 10 ^ (digs (L s) j).length ∧
      ((j ≤ (headD (L s)).length ∧ x6 = -1) ∨ ((headD (L s)).length < j ∧ 0 < (headD (L s)).length ∧ x6 = (j : Int) - (headD (L s)).length - 1 ∧ ∀ i (hi : i < (L s).length), (headD (L s)).length < i → i < j → (L s)[i] ≠ 46)) ∧ wl = w,
    ⟨_, 0, rfl, rfl, Nat.zero_le _, rfl, rfl, Nat.zero_le _, by show numV [] < 10 ^ 0; decide, .inl ⟨Nat.zero_le _, rfl⟩, rfl⟩, ?_⟩
  rintro _ _ x6 _ _ wl ⟨j, rfl, rfl, hj, rfl, rfl, h15, hlt, hst, rfl⟩
  have hpow : (10 : Nat) ^ (digs (L s) j).length ≤ 1000000000000000 := by
    have := Nat.pow_le_pow_right (show 0 < 10 by decide) h15
    have e : (10 : Nat) ^ 15 = 1000000000000000 := by decide
    omega
  refine brr (fun q => ?_) fun q => ?_
  · have q := of_decide_eq_true q
    have hjl : j < (L s).length := by omega
    rw [L_sb hjl]
    have hn := hall _ (List.getElem_mem hjl)
    have dig : (L s)[j] ≠ 46 → 48 ≤ (L s)[j] ∧ (L s)[j] ≤ 57 := fun h => by
      unfold isNum at hn
      simp only [Bool.or_eq_true, beq_iff_eq, Bool.and_eq_true, decide_eq_true_eq] at hn
      rcases hn with hn | hn
      · exact absurd hn h
      · exact hn
    have hb1 : 0 ≤ x6 → (L s)[j] = 46 → decOk (L s) = true → False := fun h6 hc hd => by
      rcases dec_char hd hjl with ⟨e, _⟩ | ⟨_, e⟩
      · rcases hst with ⟨_, e6⟩ | ⟨h1, _⟩ <;> omega
      · omega
    have hb2 : ¬ (j : Int) > 0 → (L s)[j] = 46 → decOk (L s) = true → False := fun h0 hc hd => by
      rcases dec_char hd hjl with ⟨e, _⟩ | ⟨_, e⟩
      · have h0 := (dec_facts hd).2.1
        omega
      · omega
    refine ⟨⟨by omega, by omega⟩, brr (fun hc => brr (fun q1 => brr (fun q2 => ?a) fun q2 => ?_) fun q1 => ?_) fun hc => ?_⟩
    case a =>
      have hc : (L s)[j] = 46 := by simpa using hc
      have q1 := of_decide_eq_true q1
      have q2 := of_decide_eq_true q2
      refine fls (decide_eq_false (by omega)) ⟨inI64 (by omega) (by omega), _, ?_, j + 1, by omega, rfl, by omega, by rw [digs_dot hjl hc], by rw [digs_dot hjl hc], by rw [digs_dot hjl hc]; exact h15, by rw [digs_dot hjl hc]; exact hlt, .inr ?_, rfl⟩
      · omega
      · rcases hst with ⟨h1, _⟩ | ⟨h1, _, h3, _⟩
        · have e : j = (headD (L s)).length := by
            rcases Nat.lt_or_ge j (headD (L s)).length with h | h
            · exact absurd hc (head_char h hjl)
            · omega
          exact ⟨by omega, by omega, by omega, fun i hi a b => by omega⟩
        · omega
    all_goals
      have hb : (L s)[j] = 46 → decOk (L s) = true → False := by
        first
          | exact hb1 (by have := of_decide_eq_false q1; omega)
          | exact hb2 (of_decide_eq_false q2)
          | exact fun h => by rw [h] at hc; simp at hc
      refine ⟨⟨by omega, by omega⟩, digit_does _ ⟨_, rfl, brr (fun hd => no (noc fun h => ?_) (Upd.refl _ _)) fun hd => ?_⟩⟩
      · rcases dec_char h hjl with ⟨_, e⟩ | ⟨_, e⟩
        · exact hb e h
        · unfold isDig at hd; simp at hd; omega
      · have hd : 48 ≤ (L s)[j] ∧ (L s)[j] ≤ 57 := by unfold isDig at hd; simpa using hd
        have h46 : (L s)[j] ≠ 46 := by omega
        have hw : IntKind.wrap .u8 ((L s)[j] - 48) = (L s)[j] - 48 := wrap_in ⟨by show (0 : Int) ≤ _; omega, by show _ ≤ (255 : Int); omega⟩
        have e1 := digs_dig hjl h46
        have e2 : (numV (digs (L s) (j + 1)) : Int) = (numV (digs (L s) j) : Int) * 10 + ((L s)[j] - 48) := by rw [e1, numV_snoc]; omega
        have e3 : (digs (L s) (j + 1)).length = (digs (L s) j).length + 1 := by rw [e1]; simp
        have e4 : numV (digs (L s) (j + 1)) < 10 ^ (digs (L s) (j + 1)).length := by rw [e3, Nat.pow_succ]; omega
        have long : ((digs (L s) j).length : Int) + 1 > 15 → decOk (L s) = true → False := fun h hd => by have := digs_len hd (j + 1); omega
        rw [hw, ← e2]
        refine ⟨inI64 (by omega) (by omega), ⟨by omega, by omega⟩, inI64 (by omega) (by omega), inI64 (by omega) (by rw [e3, Nat.pow_succ] at e4; omega), inI64 (by omega) (by omega), brr (fun q6 => ⟨inI64 (by omega) (by omega), brr (fun q7 => no (noc (long (of_decide_eq_true q7))) (Upd.refl _ _)) fun q7 => ⟨inI64 (by omega) (by omega), _, ?_, j + 1, by omega, rfl, by omega, rfl, by omega, by have := of_decide_eq_false q7; omega, e4, ?_, rfl⟩⟩) fun q6 => brr (fun q7 => no (noc (long (of_decide_eq_true q7))) (Upd.refl _ _)) fun q7 => ⟨inI64 (by omega) (by omega), _, ?_, j + 1, by omega, rfl, by omega, rfl, by omega, by have := of_decide_eq_false q7; omega, e4, ?_, rfl⟩⟩
        · omega
        · have q6 := of_decide_eq_true q6
          rcases hst with ⟨h1, h2⟩ | ⟨h1, h2, h3, h4⟩
          · omega
          · refine .inr ⟨by omega, h2, by omega, fun i hi a b => ?_⟩
            rcases Nat.lt_or_ge i j with h | h
            · exact h4 i hi a h
            · have : i = j := by omega
              subst this; exact h46
        · omega
        · have q6 := of_decide_eq_false q6
          rcases hst with ⟨h1, h2⟩ | ⟨h1, h2, h3, h4⟩
          · refine .inl ⟨?_, h2⟩
            rcases Nat.lt_or_ge j (headD (L s)).length with h | h
            · omega
            · have e : j = (headD (L s)).length := by omega
              have := head_stop (d := L s) (by omega)
              simp only [← e] at this
              exact absurd this h46
          · omega
  · have q := of_decide_eq_false q
    have hjs : j = (L s).length := by omega
    have htl : (tailD (L s)).length = (L s).length - ((headD (L s)).length + 1) := by unfold tailD; rw [List.length_drop]
    have hhl : (headD (L s)).length ≤ (L s).length := List.IsPrefix.length_le (List.takeWhile_prefix _)
    have ht46 : ∀ x ∈ tailD (L s), x ≠ 46 := fun x hx => by
      obtain ⟨i, hi, e⟩ := List.mem_iff_getElem.1 hx
      rcases hst with ⟨h1, h2⟩ | ⟨h1, h2, h3, h4⟩
      · omega
      · have := h4 ((headD (L s)).length + 1 + i) (by omega) (by omega) (by omega)
        have e2 : (tailD (L s))[i]? = (L s)[(headD (L s)).length + 1 + i]? := by unfold tailD; rw [List.getElem?_drop]
        rw [List.getElem?_eq_getElem hi, List.getElem?_eq_getElem (by omega), e] at e2
        rw [Option.some.inj e2]
        exact this
    have hD := digs_all' ht46
    rw [hjs, hD] at hlt h15 hpow ⊢
    have digOf : ∀ x, isNum x = true → x ≠ 46 → isDig x = true := fun x h1 h2 => by
      unfold isNum at h1
      simp only [Bool.or_eq_true, beq_iff_eq] at h1
      rcases h1 with h1 | h1
      · exact absurd h1 h2
      · exact h1
    have memH : ∀ x ∈ headD (L s), x ∈ L s := fun x hx => (List.takeWhile_sublist _).subset hx
    have memT : ∀ x ∈ tailD (L s), x ∈ L s := fun x hx => List.mem_of_mem_drop hx
    have fH : (headD (L s)).all isDig = true := List.all_eq_true.2 fun x hx => digOf x (hall x (memH x hx)) (head_no x hx)
    have fT : (tailD (L s)).all isDig = true := List.all_eq_true.2 fun x hx => digOf x (hall x (memT x hx)) (ht46 x hx)
    have h15' : (headD (L s)).length + (tailD (L s)).length ≤ 15 := by rw [List.length_append] at h15; exact h15
    refine brr (fun q2 => no (noc fun h => ?_) (Upd.refl _ _)) fun q2 => brr (fun q3 => no (noc fun h => ?_) (Upd.refl _ _)) fun q3 => ?_
    · have q2 : ((headD (L s) ++ tailD (L s)).length : Int) = 0 := by simpa using q2
      have := (dec_facts h).2.1
      rw [List.length_append] at q2
      omega
    · have q3 : x6 = 0 := by simpa using q3
      rcases hst with ⟨h1, h2⟩ | ⟨h1, h2, h3, h4⟩
      · omega
      · have := dec_tail h (by omega)
        omega
    have q2 : (headD (L s)).length + (tailD (L s)).length ≠ 0 := fun e => by
      rw [List.length_append, e] at q2; simp at q2
    have q3 : x6 ≠ 0 := by simpa using q3
    have hh0 : 0 < (headD (L s)).length := by
      rcases hst with ⟨h1, h2⟩ | ⟨h1, h2, h3, h4⟩ <;> omega
    have hsz0 : 0 < (L s).length := by omega
    have hfirst : (headD (L s)).headD 0 = (L s)[0] := by
      have e : (L s)[0]? = (headD (L s))[0]? := by
        conv => lhs; rw [dec_split (L s)]
        rw [List.getElem?_append_left hh0]
      rw [List.getElem?_eq_getElem hsz0, List.getElem?_eq_getElem hh0] at e
      rw [Option.some.inj e, headD_zero hh0]
    have hk : ∃ k : Nat, k = (tailD (L s)).length ∧ (x6 = k ∨ (x6 = -1 ∧ k = 0)) := ⟨_, rfl, by
      rcases hst with ⟨h1, h2⟩ | ⟨h1, h2, h3, h4⟩ <;> omega⟩
    obtain ⟨k, hkt, hk6⟩ := hk
    have good : ((headD (L s)).length ≤ 1 ∨ (L s)[0] ≠ 48) → decOk (L s) = true := fun h => by
      unfold decOk
      simp only [Bool.and_eq_true, Bool.or_eq_true, decide_eq_true_eq, bne_iff_ne, Bool.not_eq_true']
      refine ⟨⟨⟨?_, by rw [hfirst]; exact h⟩, ?_⟩, h15'⟩
      · unfold figs
        rw [fH, Bool.true_and, Bool.not_eq_true', List.isEmpty_eq_false_iff]
        exact List.length_pos_iff.1 hh0
      · rcases hst with ⟨h1, h2⟩ | ⟨h1, h2, h3, h4⟩
        · left; unfold pointD; exact decide_eq_false (by omega)
        · right
          unfold figs
          rw [fT, Bool.true_and, Bool.not_eq_true', List.isEmpty_eq_false_iff]
          exact List.length_pos_iff.1 (by omega)
    have hM : numV (headD (L s) ++ tailD (L s)) < 1000000000000000 := by omega
    have fin : decOk (L s) = true → ∃ f71 : Nat, ∃ w71, (convert 3 22 (.int .i64 (numV (headD (L s) ++ tailD (L s)) : Int))).run Tryz.prog wl = .ok (.float .f64 f71) w71 ∧ ∃ I22 : Nat → Int → Nat → World → Prop, (∃ nl22, I22 4607182418800017408 0 nl22 w71) ∧ ∀ f9 : Nat, ∀ x10 : Int, ∀ (nl22 : Nat) (wl22 : World), I22 f9 x10 nl22 wl22 →
        Br (decide (x10 < x6))
        (∃ f78 : Nat, ∃ w78, (binOp .mul 22 (.float .f64 f9) (.float .f64 4621819117588971520)).run Tryz.prog wl22 = .ok (.float .f64 f78) w78 ∧ InK .i64 (x10 + 1) ∧ ∃ ml22, ml22 < nl22 ∧ I22 f78 (x10 + 1) ml22 w78)
        (∃ f81 : Nat, ∃ w81, (binOp .quo 22 (.float .f64 f71) (.float .f64 f9)).run Tryz.prog wl22 = .ok (.float .f64 f81) w81 ∧ ∃ f b, Ending.returned (.tuple #[.float .f64 f81, .bool true]) = .returned (.tuple #[.float .f64 f, .bool b]) ∧ Wd f ∧ decC (L s) = (if b then some (cls f) else none) ∧ Ext wl w81) := fun hd => by
      refine ⟨_, wl, i2f wl, fun f9 x10 n22 w22 => ∃ t : Nat, x10 = t ∧ t ≤ k ∧ n22 = k - t ∧ f9 = ten t ∧ Ext wl w22, ⟨_, 0, rfl, Nat.zero_le _, rfl, ten_zero.symm, Upd.refl _ _⟩, ?_⟩
      rintro _ _ _ w22 ⟨t, rfl, ht, rfl, rfl, x22⟩
      refine brr (fun q7 => ?_) fun q7 => ?_
      · have q7 := of_decide_eq_true q7
        have hm := ten_mul t (by omega)
        have hw1 : Wd (ten (t + 1)) := foi_wd _
        obtain ⟨r, w', h1, h2, h3, h4⟩ := flt_run (P := Tryz.prog) .mul rfl 22 (ten t) 4621819117588971520 w22
        refine ⟨r, w', h1, inI64 (by omega) (by omega), _, ?_, t + 1, by omega, by omega, rfl, ?_, Ext.then x22 h2⟩
        · omega
        · rcases h4 with h | ⟨h, _⟩
          · rw [hm] at h; exact (Option.some.inj h).symm
          · rw [hm] at h; cases h
      · have q7 := of_decide_eq_false q7
        have et : t = k := by omega
        subst et
        obtain ⟨r, w', h1, h2, h3, h4⟩ := opC_run (P := Tryz.prog) .quo rfl 22 (floatOfInt .f64 (numV (headD (L s) ++ tailD (L s)) : Int)) (ten t) w22
        refine ⟨r, w', h1, r, true, rfl, h3, ?_, Ext.then x22 h2⟩
        unfold decC
        rw [if_pos hd, if_pos rfl, h4, decV_eq hM (by omega), hkt]
    refine ⟨⟨by omega, by omega⟩, brr (fun q4 => ⟨by split <;> exact inI64 (by omega) (by omega), brr (fun q5 => no (noc fun h => ?_) (Upd.refl _ _)) fun q5 => fin (good ?_)⟩) fun q4 => fin (good (.inr ?_))⟩
    · have q5 := of_decide_eq_true q5
      have h3 := (dec_facts h).2.2.1
      rw [hfirst] at h3
      have e0 : sb s 0 = (L s)[0] := L_sb hsz0
      rw [e0] at q4
      have q4 : (L s)[0] = 48 := by simpa using q4
      rw [List.length_append] at q5
      split at q5 <;> omega
    · have q5 := of_decide_eq_false q5
      left
      rw [List.length_append] at q5
      split at q5 <;> omega
    · have e0 : sb s 0 = (L s)[0] := L_sb hsz0
      rw [e0] at q4
      simpa using q4
end Go.Proofs.YtffhlgejfgmpiaaGreatDoor
