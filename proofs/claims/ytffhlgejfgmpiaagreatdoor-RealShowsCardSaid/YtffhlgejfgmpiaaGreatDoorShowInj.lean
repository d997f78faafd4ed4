/-
  Numbers shown, in plain Lean: two numbers have two texts.
-/
import Derived.Test.YtffhlgejfgmpiaaGreatDoorReadHex3
namespace Go.Vc
open Go.Proofs.YtffhlgejfgmpiaaGreatDoor (sgnL exp_text showR_whole showR_hex)
theorem decL_inj {a b : Nat} (h : decL a = decL b) : a = b := by rw [← numV_decL a, h, numV_decL]
theorem hexc_inj {a b : Nat} (ha : a < 16) (hb : b < 16) (h : hexc a = hexc b) : a = b := by
  unfold hexc at h
  split at h <;> split at h <;> omega
theorem frL_inj : ∀ {k a b : Nat}, a < 16 ^ k → b < 16 ^ k → frL k a = frL k b → a = b
  | 0, a, b, ha, hb, _ => by simp at ha hb; omega
  | k + 1, a, b, ha, hb, h => by
    have hp := Nat.pow_pos (n := k) (show 0 < 16 by decide)
    have q : ∀ n, n < 16 ^ (k + 1) → n / 16 ^ k < 16 := fun n hn => by
      rw [Nat.div_lt_iff_lt_mul hp, Nat.mul_comm, ← Nat.pow_succ]; exact hn
    unfold frL at h
    split at h
    · rename_i h0
      split at h
      · omega
      · cases h
    · split at h
      · cases h
      · obtain ⟨h1, h2⟩ := List.cons.inj h
        have e1 := hexc_inj (q a ha) (q b hb) h1
        have e2 := frL_inj (Nat.mod_lt a hp) (Nat.mod_lt b hp) h2
        have d1 := Nat.div_add_mod a (16 ^ k)
        have d2 := Nat.div_add_mod b (16 ^ k)
        rw [← d1, ← d2, e1, e2]
theorem frL_no112 {k n : Nat} (h : n < 16 ^ k) : ∀ c ∈ frL k n, (c != 112) = true := fun c hc => by
  rw [frN_map, List.mem_map] at hc
  obtain ⟨d, hd, rfl⟩ := hc
  rw [bne_iff_ne]
  rcases hexc_range (frN_dig h d hd) with h | h <;> omega
theorem ptL_no112 {k n : Nat} (h : n < 16 ^ k) : ∀ c ∈ ptL (frL k n), (c != 112) = true := fun c hc => by
  unfold ptL at hc
  split at hc
  · cases hc
  · rcases List.mem_cons.1 hc with rfl | hc
    · decide
    · exact frL_no112 h c hc
theorem ptL_inj {a b : List Int} (h : ptL a = ptL b) : a = b := by
  unfold ptL at h
  split at h <;> split at h
  · rename_i h1 h2; rw [h1, h2]
  · cases h
  · cases h
  · exact (List.cons.inj h).2
theorem expL_inj {a b : Int} (h : expL a = expL b) : a = b := by
  obtain ⟨s1, D1, x1, y1, z1⟩ := exp_text (e := a)
  obtain ⟨s2, D2, x2, y2, z2⟩ := exp_text (e := b)
  rw [x1, x2] at h
  obtain ⟨_, h⟩ := List.cons.inj h
  obtain ⟨h1, h2⟩ := List.cons.inj h
  rw [y1, y2] at h2
  have := decL_inj h2
  omega
theorem hexX_inj {X Y : Nat} {a b : Int} (hX : X < 16 ^ 13) (hY : Y < 16 ^ 13) (h : hexX X a = hexX Y b) : X = Y ∧ a = b := by
  unfold hexX at h
  have h := (List.cons.inj (List.cons.inj (List.cons.inj h).2).2).2
  have t : ∀ {Z : Nat} {c : Int}, Z < 16 ^ 13 → (ptL (frL 13 Z) ++ expL c).takeWhile (· != 112) = ptL (frL 13 Z) := fun {Z c} hZ => by
    obtain ⟨s1, D1, x1, _, _⟩ := exp_text (e := c)
    rw [List.takeWhile_append_of_pos (ptL_no112 hZ), x1]
    simp
  have e := congrArg (List.takeWhile (· != 112)) h
  rw [t hX, t hY] at e
  rw [e] at h
  exact ⟨frL_inj hX hY (ptL_inj e), expL_inj (List.append_cancel_left h)⟩
theorem word_inj {r t : Nat} (hr : 0 < r) (ht : 0 < t) (h1 : nM r = nM t) (h2 : nE r = nE t) : r = t := by
  have nEr : nE r = (ex r : Int) - 1022 - (mgk r : Int) := rfl
  have nEt : nE t = (ex t : Int) - 1022 - (mgk t : Int) := rfl
  have nMr : nM r = mg r * 2 ^ mgk r := rfl
  have nMt : nM t = mg t * 2 ^ mgk t := rfl
  obtain ⟨b1, b2⟩ := nM_bounds hr
  obtain ⟨c1, c2⟩ := nM_bounds ht
  rcases Nat.lt_or_ge r 4503599627370496 with a | a <;> rcases Nat.lt_or_ge t 4503599627370496 with b | b
  · obtain ⟨p1, p2⟩ := mg_sub a
    obtain ⟨q1, q2⟩ := mg_sub b
    have e : mgk r = mgk t := by omega
    rw [nMr, nMt, e, p1, q1] at h1
    exact Nat.eq_of_mul_eq_mul_right (Nat.two_pow_pos _) h1
  · obtain ⟨p1, p2⟩ := mg_sub a
    obtain ⟨q1, q2, q3, q4⟩ := mgk_norm b
    have e : mgk r = 0 := by omega
    rw [e, p1, Nat.pow_zero, Nat.mul_one] at nMr
    omega
  · obtain ⟨p1, p2⟩ := mg_sub b
    obtain ⟨q1, q2, q3, q4⟩ := mgk_norm a
    have e : mgk t = 0 := by omega
    rw [e, p1, Nat.pow_zero, Nat.mul_one] at nMt
    omega
  · obtain ⟨p1, p2, p3, p4⟩ := mgk_norm a
    obtain ⟨q1, q2, q3, q4⟩ := mgk_norm b
    omega
theorem showR_form {r : Nat} (h : r ≤ 9218868437227405312) : (r = 9218868437227405312 ∧ showR r = [105, 110, 102]) ∨ (∃ n, showR r = decL n ∧ r = RR BB (n * 2 ^ (2 * BB))) ∨ (0 < r ∧ showR r = hexX (nM r - 4503599627370496) (nE r)) := by
  rcases Nat.lt_or_ge r 9218868437227405312 with hlt | hge
  · right
    cases hw : wholeB r with
    | true => exact .inl ⟨_, showR_whole hlt hw, (whole_iff.1 hw).2⟩
    | false =>
      refine .inr ⟨?_, showR_hex hlt hw⟩
      rcases Nat.eq_zero_or_pos r with h | h
      · rw [h, whole_zero] at hw; cases hw
      · exact h
  · left
    have e : r = 9218868437227405312 := by omega
    refine ⟨e, ?_⟩
    unfold showR
    rw [if_pos e]
theorem decL_ne_hex {n X : Nat} {e : Int} (h : decL n = hexX X e) : False := by
  have h1 := decL_dig n 120 (by rw [h]; unfold hexX; simp)
  omega
theorem decL_ne_inf {n : Nat} (h : decL n = [105, 110, 102]) : False := by
  have h1 := decL_dig n 105 (by rw [h]; simp)
  omega
theorem showR_inj {r t : Nat} (hr : r ≤ 9218868437227405312) (ht : t ≤ 9218868437227405312) (h : showR r = showR t) : r = t := by
  rcases showR_form hr with ⟨a, b⟩ | ⟨n, b, c⟩ | ⟨a, b⟩ <;> rcases showR_form ht with ⟨a', b'⟩ | ⟨n', b', c'⟩ | ⟨a', b'⟩ <;> rw [b, b'] at h
  · omega
  · exact (decL_ne_inf h.symm).elim
  · unfold hexX at h; have := (List.cons.inj h).1; omega
  · exact (decL_ne_inf h).elim
  · rw [c, c', decL_inj h]
  · exact (decL_ne_hex h).elim
  · unfold hexX at h; have := (List.cons.inj h).1; omega
  · exact (decL_ne_hex h.symm).elim
  · obtain ⟨b1, b2⟩ := nM_bounds a
    obtain ⟨c1, c2⟩ := nM_bounds a'
    have p : (16 : Nat) ^ 13 = 4503599627370496 := by decide
    obtain ⟨e1, e2⟩ := hexX_inj (by rw [p]; omega) (by rw [p]; omega) h
    exact word_inj a a' (by omega) e2
theorem showR_head {r : Nat} (h : r ≤ 9218868437227405312) : ∃ c q, showR r = c :: q ∧ (c = 105 ∨ 48 ≤ c ∧ c ≤ 57) := by
  rcases showR_form h with ⟨_, b⟩ | ⟨n, b, _⟩ | ⟨_, b⟩
  · exact ⟨_, _, b, .inl rfl⟩
  · cases hq : decL n with
    | nil => exact absurd hq (decL_ne n)
    | cons c q => exact ⟨c, q, by rw [b, hq], .inr (decL_dig n c (by rw [hq]; exact List.mem_cons_self))⟩
  · exact ⟨48, _, by rw [b]; rfl, .inr (by decide)⟩
theorem showS_eq {x : Nat} (h : nan x = false) : showS x = sgnL (sgn x) ++ showR (rung x) := by unfold showS; rw [h]; rfl
theorem show_inj {x y : Nat} (hx : Wd x) (hy : Wd y) (h : showS x = showS y) : cls x = cls y := by
  have le : ∀ {z : Nat}, nan z = false → rung z ≤ 9218868437227405312 := fun hz => by
    unfold nan at hz; have := of_decide_eq_false hz; omega
  have nn : ∀ {z : Nat}, nan z = false → showS z ≠ [110, 97, 110] := fun {z} hz hk => by
    obtain ⟨c, q, e, hc⟩ := showR_head (le hz)
    rw [showS_eq hz, e] at hk
    cases hsz : sgn z <;> rw [hsz] at hk
    · have := (List.cons.inj hk).1; omega
    · have := (List.cons.inj hk).1; omega
  have nt : ∀ {z : Nat}, nan z = true → showS z = [110, 97, 110] := fun hz => by unfold showS; rw [hz]; rfl
  cases e1 : nan x <;> cases e2 : nan y
  · obtain ⟨c, q, p1, p2⟩ := showR_head (le e1)
    obtain ⟨c', q', p1', p2'⟩ := showR_head (le e2)
    have h' : sgnL (sgn x) ++ showR (rung x) = sgnL (sgn y) ++ showR (rung y) := by rw [← showS_eq e1, ← showS_eq e2, h]
    have hsr : sgn x = sgn y ∧ showR (rung x) = showR (rung y) := by
      cases s1 : sgn x <;> cases s2 : sgn y <;> rw [s1, s2] at h'
      · exact ⟨rfl, h'⟩
      · rw [p1] at h'; have := (List.cons.inj h').1; omega
      · rw [p1'] at h'; have := (List.cons.inj h').1; omega
      · exact ⟨rfl, (List.cons.inj h').2⟩
    have := showR_inj (le e1) (le e2) hsr.2
    rw [word_parts hx, word_parts hy, hsr.1, this]
  · exact absurd (h.trans (nt e2)) (nn e1)
  · exact absurd (h.symm.trans (nt e1)) (nn e2)
  · unfold cls; rw [e1, e2]; rfl
end Go.Vc
