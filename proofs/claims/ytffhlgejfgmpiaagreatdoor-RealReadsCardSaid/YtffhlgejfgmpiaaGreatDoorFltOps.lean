/-
  Numbers with a point: arithmetic gives a number, or any NaN.
-/
import Derived.Test.YtffhlgejfgmpiaaGreatDoorFltCalls
namespace Go.Vc
open Go.RowKit
/-- Arithmetic: a number, or any NaN. -/
theorem flt_run {P : Program} (op : BinOp) (hop : arithB op = true) (T : TypeId) (x y : Nat) (w : World) : ∃ r w', (binOp op T (.float .f64 x) (.float .f64 y)).run P w = .ok (.float .f64 r) w' ∧ Ext w w' ∧ Wd r ∧ (floatBits op .f64 x y = some r ∨ floatBits op .f64 x y = none ∧ nan r = true) := by
  cases h : floatBits op .f64 x y with
  | some r =>
    refine ⟨r, w, run_float_arith w op T .f64 x y r h, Upd.refl _ _, ?_, .inl rfl⟩
    have := floatBits_wf h
    simp [Lit.wf] at this
    exact this
  | none =>
    refine ⟨(w.tape w.drawn (.nanBits .f64 x y) % 2) * 2 ^ 63 + 0x7ff0000000000000 + 1 + (w.tape w.drawn (.nanBits .f64 x y) / 2) % (2 ^ 52 - 1), { w with drawn := w.drawn + 1 }, ?_, ⟨rfl, rfl, rfl, Nat.le_refl _, fun _ _ _ => rfl⟩, ?_, .inr ⟨rfl, ?_⟩⟩
    · unfold floatBits at h
      cases op <;> simp only [arithB, Bool.false_eq_true] at hop <;> simp only at h
      all_goals simp [binOp, Op.floatArith, h, choose, Sem.run, Question.forced, Question.cut]
    · unfold Wd; omega
    · unfold nan rung
      rw [decide_eq_true_eq]
      generalize w.tape w.drawn (.nanBits .f64 x y) = t
      have h1 : t % 2 = 0 ∨ t % 2 = 1 := by omega
      have h2 := Nat.mod_lt (t / 2) (show 0 < 2 ^ 52 - 1 by decide)
      generalize t / 2 % (2 ^ 52 - 1) = q at *
      rcases h1 with h1 | h1 <;> rw [h1] <;> omega
theorem wd_of_wf {n : Nat} (h : (Lit.float .f64 n).wf = true) : Wd n := by
  have := of_decide_eq_true h
  exact this
end Go.Vc
