/-
  States: what recovers.
-/
import Derived.Test.YtlenmnffdbgkkaaStateRead3
import Derived.RecoverIn
namespace Go.Proofs.Ytlenmnffdbgkkaa
open Go.RowKit Go.Vc
theorem assert_err (n : Int) (w : World) : (Instr.typeAssert (.iface 26 (.int .i64 n)) 20 26 true).run Try.prog w = .ok (.tuple #[.int .i64 n, .bool true]) w := by kernel_rfl
theorem catch_panicking (b : Nat) (n : Int) (w : World) (P : World → Prop) (hb : CanStore w b 0) (hP : ∀ w', Upd (fun z => z = b) w w' → w'.cell? ⟨b, 0, none⟩ = some (.int .i64 n) → P w') :
    CallsDIn Fence.wide 0 Try.prog 48 #[.pointer (some ⟨b, 0, none⟩)] (.panicking [{ v := .iface 26 (.int .i64 n), recovered := false }]) w fun e u' w' =>
      e = .returned (.tuple #[]) ∧ u' = .panicking [{ v := .iface 26 (.int .i64 n), recovered := true }] ∧ P w' := by
  refine callsDIn_of_wpSIn Try.func48 rfl trivial fun c₀ cs hu => ?_
  apply wpSIn_seq
  apply wpSIn_region
  simp [wpOpsSIn, go_sem, recoverD, hu, Exit.thenS]
  apply wpSIn_seq
  apply wpSIn_region
  simp [wpOpsSIn, go_sem, Exit.thenS]
  refine wpSIn_cond (t := true) (by simp [Act.eval, Array.replicate]) ?_
  simp only [if_true]
  apply wpSIn_seq
  apply wpSIn_region
  simp [wpOpsSIn, go_sem, Exit.thenS, assert_err]
  apply wpSIn_seq
  apply wpSIn_seq
  apply wpSIn_region
  simp [wpOpsSIn, go_sem, Exit.thenS]
  refine wpSIn_cond (t := false) (by simp [Act.eval, Array.replicate]) ?_
  simp only [Bool.false_eq_true, if_false]
  refine wpSIn_of_wpIn rfl (wpIn_skip ?_)
  simp only [Exit.thenS]
  have s0 : Stored w b 0 (.int .i64 n) (w.setCell ⟨b, 0, none⟩ (.int .i64 n)) := ⟨rfl⟩
  have fin := hP _ s0.upd (s0.cell hb)
  obtain ⟨⟨u0, h0⟩, f0⟩ := hb
  apply wpSIn_region
  simp [wpOpsSIn, go_sem, bodyPostS, results, h0, f0, fin]
theorem catch_idle (b : Nat) (w : World) :
    CallsDIn Fence.wide 0 Try.prog 48 #[.pointer (some ⟨b, 0, none⟩)] .returning w fun e u' w' => e = .returned (.tuple #[]) ∧ u' = .returning ∧ w' = w := by
  refine callsDIn_of_wpSIn Try.func48 rfl trivial fun c₀ cs hu => ?_
  apply wpSIn_seq
  apply wpSIn_region
  simp [wpOpsSIn, go_sem, recoverD, hu, Exit.thenS]
  apply wpSIn_seq
  apply wpSIn_region
  simp [wpOpsSIn, go_sem, Exit.thenS]
  refine wpSIn_cond (t := false) (by simp [Act.eval, Array.replicate]) ?_
  simp only [Bool.false_eq_true, if_false]
  refine wpSIn_of_wpIn rfl (wpIn_skip ?_)
  cases c₀
  simp_all [bodyPostS, results]
theorem call_catch : callableB Try.prog 48 = true := by kernel_rfl
section
variable {K : World → Prop} {Kp : List PanicEntry → World → Prop} {b : Nat} {w : World}
theorem leave_ok (h : K w) : LeavesV K Kp Try.prog ({ target := .fn (.func 48) #[.pointer (some ⟨b, 0, none⟩)], args := #[] } :: []) .returning w := by
  refine ⟨by simp, call_catch, (catch_idle b w).mono ?_⟩
  rintro e u' w' ⟨rfl, rfl, rfl⟩
  exact h
theorem leave_panic {n : Int} (hb : CanStore w b 0) (h : ∀ w', Upd (fun z => z = b) w w' → w'.cell? ⟨b, 0, none⟩ = some (.int .i64 n) → K w') :
    LeavesV K Kp Try.prog ({ target := .fn (.func 48) #[.pointer (some ⟨b, 0, none⟩)], args := #[] } :: []) (.panicking [{ v := .iface 26 (.int .i64 n), recovered := false }]) w := by
  refine ⟨by simp, call_catch, (catch_panicking b n w K hb h).mono ?_⟩
  rintro e u' w' ⟨rfl, rfl, hk⟩
  exact hk
end
end Go.Proofs.Ytlenmnffdbgkkaa
