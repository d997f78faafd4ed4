/-
  Numbers with a point: the statements' first look; an order of all numbers.
-/
import Derived.Test.YtdcibnjlbkadbaaDoorFltCalls
namespace Go.Vc
open Go.RowKit
/-- Arithmetic: a number, or any NaN. -/
theorem flt_run {P : Program} (op : BinOp) (hop : arithB op = true) (T : TypeId) (x y : Nat) (w : World) : ∃ r w', (binOp op T (.float .f64 x) (.float .f64 y)).run P w = .ok (.float .f64 r) w' ∧ Ext w w' ∧ Wd r ∧ (floatBits op .f64 x y = some r ∨ floatBits op .f64 x y = none ∧ nan r = true) := by
  cases h : floatBits op .f64 x y with
  | some r =>
    refine ⟨r, w, run_float_arith w op T .f64 x y r h, Upd.refl _ _, ?_, .inl rfl⟩
    have := floatBits_wf h
    simp [Lit.wf] at this
    exact this
  | none =>
    refine ⟨(w.tape w.drawn (.nanBits .f64 x y) % 2) * 2 ^ 63 + 0x7ff0000000000000 + 1 + (w.tape w.drawn (.nanBits .f64 x y) / 2) % (2 ^ 52 - 1), { w with drawn := w.drawn + 1 }, ?_, ⟨rfl, rfl, rfl, Nat.le_refl _, fun _ _ _ => rfl⟩, ?_, .inr ⟨rfl, ?_⟩⟩
    · unfold floatBits at h
      cases op <;> simp only [arithB, Bool.false_eq_true] at hop <;> simp only at h
      all_goals simp [binOp, Op.floatArith, h, choose, Sem.run, Question.forced, Question.cut]
    · unfold Wd; omega
    · unfold nan rung
      rw [decide_eq_true_eq]
      generalize w.tape w.drawn (.nanBits .f64 x y) = t
      have h1 : t % 2 = 0 ∨ t % 2 = 1 := by omega
      have h2 := Nat.mod_lt (t / 2) (show 0 < 2 ^ 52 - 1 by decide)
      generalize t / 2 % (2 ^ 52 - 1) = q at *
      rcases h1 with h1 | h1 <;> rw [h1] <;> omega
end Go.Vc
namespace Go.Proofs.YtdcibnjlbkadbaaDoor
open Go.RowKit Go.Vc
variable {w : World} {R : Ending → World → Prop}
theorem wd_of_wf {n : Nat} (h : (Lit.float .f64 n).wf = true) : Wd n := by
  have := of_decide_eq_true h
  exact this
theorem awake_does : Does Tryd.prog 7 #[] w fun e w' => e = .returned (.bool true) ∧ Ext w w' := by
  refine f7_does (compare_does (by unfold Wd; decide) (by unfold Wd; decide) ⟨_, rfl, tru (by decide) ?_⟩)
  refine ⟨9218868437227405312, w, run_float_arith w .quo _ .f64 _ _ _ (by decide +kernel), compare_does (by unfold Wd; decide) (by unfold Wd; decide) ⟨_, rfl, tru (by decide) ?_⟩⟩
  obtain ⟨r, w15, hr, x15, _, hn⟩ := flt_run (P := Tryd.prog) .quo rfl 25 0 0 w
  have hnan : nan r = true := by
    rcases hn with h | ⟨_, h⟩
    · rw [show floatBits .quo .f64 0 0 = none from by decide +kernel] at h; cases h
    · exact h
  refine ⟨r, w15, hr, f18_does _ (tru (by rw [order_self]; exact hnan) ⟨_, rfl, tru (by decide +kernel) ?_⟩)⟩
  refine ⟨18442240474082181120, w15, run_float_arith w15 .quo _ .f64 _ _ _ (by decide +kernel), f18_does _ (fls (by decide +kernel) (f26_does _ _ (fls (by decide) (fls (by decide) ⟨_, rfl, fls (by decide +kernel) (f26_does _ _ (fls (by decide) (tru (by decide) ⟨_, rfl, tru (by decide +kernel) ⟨_, rfl, ?_, x15⟩⟩)))⟩))))⟩
  exact congrArg (fun b => Ending.returned (.bool b)) (by decide +kernel)
/-- An order of all numbers. -/
theorem orders_law {a b c : Nat} (ha : Wd a) (hb : Wd b) (hc : Wd c) : Does Tryd.prog 4 #[.float .f64 a, .float .f64 b, .float .f64 c] w (Holds w) := by
  refine f4_does _ _ _ (awake_does.imp ?_)
  rintro e w10 ⟨rfl, x10⟩
  have kab := fcmp_key ha hb
  have kbc := fcmp_key hb hc
  have kac := fcmp_key ha hc
  have kba := fcmp_key hb ha
  have kb := fkey_bits ha hb
  have nlt : (FloatKind.f64.format.order a b == some Ordering.lt) = true → fkey a < fkey b := fun h => by
    rw [order_lt] at h
    simp only [Bool.and_eq_true, Bool.not_eq_true', decide_eq_true_eq] at h
    obtain ⟨⟨h1, h2⟩, h3⟩ := h
    unfold fkey
    rw [h1, h2]
    unfold fval at h3
    rcases sgn_pos ha with ⟨s1, r1, b1⟩ | ⟨s1, r1, b1⟩ <;> rcases sgn_pos hb with ⟨s2, r2, b2⟩ | ⟨s2, r2, b2⟩ <;> rw [s1, s2] at h3 ⊢ <;> simp only [Bool.false_eq_true, if_true, if_false] at h3 ⊢ <;> omega
  have ngt : (FloatKind.f64.format.order a b == some Ordering.gt) = true → fkey b < fkey a := fun h => by
    rw [order_gt] at h
    simp only [Bool.and_eq_true, Bool.not_eq_true', decide_eq_true_eq] at h
    obtain ⟨⟨h1, h2⟩, h3⟩ := h
    unfold fkey
    rw [h1, h2]
    unfold fval at h3
    rcases sgn_pos ha with ⟨s1, r1, b1⟩ | ⟨s1, r1, b1⟩ <;> rcases sgn_pos hb with ⟨s2, r2, b2⟩ | ⟨s2, r2, b2⟩ <;> rw [s1, s2] at h3 ⊢ <;> simp only [Bool.false_eq_true, if_true, if_false] at h3 ⊢ <;> omega
  refine ⟨_, rfl, fls rfl (compare_does ha hb ⟨_, rfl, compare_does hb hc ⟨_, rfl, compare_does ha hc ⟨_, rfl, rcompare_does ha hb ⟨_, rfl, fls (by simp) (compare_does hb ha ⟨_, rfl, ?_⟩)⟩⟩⟩⟩)⟩
  rw [kab, kbc, kac, kba]
  generalize fkey a = ka at *
  generalize fkey b = kb' at *
  generalize fkey c = kc at *
  have r1 : cmpK ka kb' = -1 ∨ cmpK ka kb' = 0 ∨ cmpK ka kb' = 1 := by unfold cmpK; (repeat' split) <;> omega
  have r2 : cmpK kb' kc = -1 ∨ cmpK kb' kc = 0 ∨ cmpK kb' kc = 1 := by unfold cmpK; (repeat' split) <;> omega
  have r3 : cmpK ka kc = -1 ∨ cmpK ka kc = 0 ∨ cmpK ka kc = 1 := by unfold cmpK; (repeat' split) <;> omega
  have t1 : cmpK kb' ka = 0 - cmpK ka kb' := by unfold cmpK; (repeat' split) <;> omega
  have z1 : cmpK ka kb' = 0 ↔ ka = kb' := by unfold cmpK; (repeat' split) <;> omega
  have l1 : cmpK ka kb' = -1 ↔ ka < kb' := by unfold cmpK; (repeat' split) <;> omega
  have g1 : cmpK ka kb' = 1 ↔ kb' < ka := by unfold cmpK; (repeat' split) <;> omega
  have z2 : cmpK kb' kc = 0 ↔ kb' = kc := by unfold cmpK; (repeat' split) <;> omega
  have l2 : cmpK kb' kc = -1 ↔ kb' < kc := by unfold cmpK; (repeat' split) <;> omega
  have z3 : cmpK ka kc = 0 ↔ ka = kc := by unfold cmpK; (repeat' split) <;> omega
  have l3 : cmpK ka kc = -1 ↔ ka < kc := by unfold cmpK; (repeat' split) <;> omega
  generalize cmpK ka kb' = x at *
  generalize cmpK kb' kc = y at *
  generalize cmpK ka kc = z at *
  have hH : Holds w (.returned (.bool true)) w10 := ⟨rfl, x10⟩
  refine ⟨inI64 (by omega) (by omega), fls (by rw [t1]; simp) (bits_does a ⟨_, rfl, bits_does b ⟨_, rfl, fls ?_ (bits_does a ⟨_, rfl, rbits_does a ⟨_, rfl, fls (by simp) ?_⟩⟩)⟩⟩)⟩
  · have : (x == 0) = (fbits a == fbits b) := by
      by_cases h : ka = kb'
      · rw [beq_iff_eq.2 (z1.2 h), beq_iff_eq.2 (kb.1 h)]
      · rw [beq_eq_false_iff_ne.2 fun e => h (z1.1 e), beq_eq_false_iff_ne.2 fun e => h (kb.2 e)]
    rw [this]; simp
  have tail : Br (decide (x ≤ 0)) (Br (!(decide (y ≤ 0))) (Holds w (.returned (.bool true)) w10) (Br (decide (z ≤ 0)) (Br (decide (z < 0)) (Holds w (.returned (.bool true)) w10) (Br (x == 0) (Holds w (.returned (.bool (y == 0))) w10) (Holds w (.returned (.bool false)) w10))) (Holds w (.returned (.bool false)) w10))) (Holds w (.returned (.bool true)) w10) := by
    refine brr (fun h1 => brr (fun _ => hH) fun h2 => ?_) fun _ => hH
    have h1 := of_decide_eq_true h1
    have h2 : y ≤ 0 := by simpa using h2
    refine tru (decide_eq_true (by omega)) (brr (fun _ => hH) fun h3 => ?_)
    have h3 := of_decide_eq_false h3
    have : x = 0 ∧ y = 0 := by omega
    rw [this.1, this.2]
    exact tru rfl hH
  refine brr (fun h => ?_) fun _ => brr (fun h => ?_) fun _ => tail
  · have h1 := l1.2 (nlt h)
    refine fls (by rw [h1]; rfl) (brr (fun h2 => ?_) fun _ => tail)
    have := ngt h2
    have := nlt h
    omega
  · have h1 := g1.2 (ngt h)
    exact fls (by rw [h1]; rfl) tail
end Go.Proofs.YtdcibnjlbkadbaaDoor
