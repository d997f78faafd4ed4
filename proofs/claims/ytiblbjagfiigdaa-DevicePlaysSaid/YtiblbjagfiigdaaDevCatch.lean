/-
  Devices: what recovers where one dies.
-/
import Derived.Test.YtiblbjagfiigdaaV
import Derived.Test.YtiblbjagfiigdaaDevWords
import Derived.RecoverIn
namespace Go.Proofs.Ytiblbjagfiigdaa
open Go.RowKit Go.Vc
theorem assert_death (w : World) : (Instr.typeAssert (.iface 82 (.agg #[])) 20 82 true).run Try.prog w = .ok (.tuple #[.agg #[], .bool true]) w := by kernel_rfl
/-- What is done where it has died. -/
def tailOf : Code → Code
  | .seq _ (.seq _ (.cond _ (.seq _ t) _)) => t
  | c => c
def tail_vc (b e y : Nat) (F : World → Prop) (w : World) : Prop :=
  ∃ p17 : Option Addr, w.cell? ⟨b, 0, none⟩ = some (.pointer p17) ∧ ∃ b18 o18, p17 = some ⟨b18, o18, none⟩ ∧ CanStore w b18 (o18 + 5) ∧ ∀ ws, Stored w b18 (o18 + 5) (.bool true) ws →
  CanStore ws e 0 ∧ ∀ ws_1, Stored ws e 0 (.int .i64 7) ws_1 →
  ∃ (g20 : Go.Fn) (fs20 cs20 : Array Value), ws_1.cell? ⟨y, 0, none⟩ = some (.func g20 fs20 cs20) ∧ DoesV Try.prog g20 fs20 #[] cs20 ws_1 fun e21 w21 =>
  e21 = .returned (.tuple #[]) ∧ (Exit.normal = Exit.normal ∧ ([] : List Deferred) = [] ∧ F w21)
theorem tail_eq (b e y : Nat) (F : World → Prop) (w : World) :
    vc Try.prog { loops := [], cuts := [], flip := [], throws := [] } (tailOf (bodyOf Try.f50)) (fun x _ ds w' => x = Exit.normal ∧ ds = [] ∧ F w') (envOf 22 [.pt b 0, .pt e 0, .pt y 0]) [] w = tail_vc b e y F w := by kernel_rfl
theorem catch_panicking (b e y : Nat) (w : World) (F : World → Prop) (h : ∀ wa, Ext w wa → tail_vc b e y F wa) :
    CallsDIn Fence.wide 0 Try.prog 50 #[.pointer (some ⟨b, 0, none⟩), .pointer (some ⟨e, 0, none⟩), .pointer (some ⟨y, 0, none⟩)] (.panicking [{ v := .iface 82 (.agg #[]), recovered := false }]) w fun e u' w' =>
      e = .returned (.tuple #[]) ∧ u' = .panicking [{ v := .iface 82 (.agg #[]), recovered := true }] ∧ F w' := by
  have xa : Ext w (w.alloc (.cells #[] 82)) := NewBlk.ext (b := w.heap.size) (cs := []) (T := 82) ⟨rfl, rfl⟩
  refine callsDIn_of_wpSIn Try.func50 rfl trivial fun c₀ cs hu => ?_
  apply wpSIn_seq
  apply wpSIn_region
  simp [wpOpsSIn, go_sem, recoverD, hu, Exit.thenS]
  apply wpSIn_seq
  apply wpSIn_region
  simp [wpOpsSIn, go_sem, Exit.thenS]
  refine wpSIn_cond (t := true) (by simp [Act.eval, Array.replicate]) ?_
  simp only [if_true]
  apply wpSIn_seq
  apply wpSIn_seq
  apply wpSIn_region
  simp [wpOpsSIn, go_sem, Exit.thenS, assert_death]
  generalize w.alloc (.cells #[] 82) = wa at *
  apply wpSIn_seq
  apply wpSIn_region
  simp [wpOpsSIn, go_sem, Exit.thenS]
  refine wpSIn_cond (t := false) (by simp [Act.eval, Array.replicate]) ?_
  simp only [Bool.false_eq_true, if_false]
  refine wpSIn_of_wpIn rfl (wpIn_skip ?_)
  simp only [Exit.thenS]
  refine wpSIn_of_wpIn rfl ?_
  have hv := h wa xa
  rw [← tail_eq] at hv
  refine wpIn_mono (vc_sound mixed (tailOf (bodyOf Try.f50)) none _ _ wa _ (.inl rfl) hv ?_) ?_
  · refine ⟨by simp [envOf], fun t s hs => ?_⟩
    have hs := get_env hs
    have ht := (List.getElem?_eq_some_iff.1 hs).1
    simp only [List.length_cons, List.length_nil] at ht
    rw [Array.getD_eq_getD_getElem?, Array.getElem?_append_left (by simpa using ht)]
    match t, ht, hs with
    | 0, _, hs => simp at hs; subst hs; rfl
    | 1, _, hs => simp at hs; subst hs; rfl
    | 2, _, hs => simp at hs; subst hs; rfl
  · rintro x a' w' ⟨⟨σ, hf, rfl, hd, hF⟩, hk⟩
    exact ⟨hd, _, rfl, .tuple #[], by simp [results], rfl, rfl, hF⟩
theorem catch_idle (b e y : Nat) (w : World) :
    CallsDIn Fence.wide 0 Try.prog 50 #[.pointer (some ⟨b, 0, none⟩), .pointer (some ⟨e, 0, none⟩), .pointer (some ⟨y, 0, none⟩)] .returning w fun e u' w' => e = .returned (.tuple #[]) ∧ u' = .returning ∧ w' = w := by
  refine callsDIn_of_wpSIn Try.func50 rfl trivial fun c₀ cs hu => ?_
  apply wpSIn_seq
  apply wpSIn_region
  simp [wpOpsSIn, go_sem, recoverD, hu, Exit.thenS]
  apply wpSIn_seq
  apply wpSIn_region
  simp [wpOpsSIn, go_sem, Exit.thenS]
  refine wpSIn_cond (t := false) (by simp [Act.eval, Array.replicate]) ?_
  simp only [Bool.false_eq_true, if_false]
  refine wpSIn_of_wpIn rfl (wpIn_skip ?_)
  cases c₀
  simp_all [bodyPostS, results]
theorem call_catch : callableB Try.prog 50 = true := by kernel_rfl
section
variable {K : World → Prop} {Kp : List PanicEntry → World → Prop} {b e y : Nat} {w : World}
theorem leave_ok (h : K w) : LeavesV K Kp Try.prog ({ target := .fn (.func 50) #[.pointer (some ⟨b, 0, none⟩), .pointer (some ⟨e, 0, none⟩), .pointer (some ⟨y, 0, none⟩)], args := #[] } :: []) .returning w := by
  refine ⟨by simp, call_catch, (catch_idle b e y w).mono ?_⟩
  rintro e u' w' ⟨rfl, rfl, rfl⟩
  exact h
theorem leave_panic (h : ∀ wa, Ext w wa → tail_vc b e y K wa) :
    LeavesV K Kp Try.prog ({ target := .fn (.func 50) #[.pointer (some ⟨b, 0, none⟩), .pointer (some ⟨e, 0, none⟩), .pointer (some ⟨y, 0, none⟩)], args := #[] } :: []) (.panicking [{ v := .iface 82 (.agg #[]), recovered := false }]) w := by
  refine ⟨by simp, call_catch, (catch_panicking b e y w K h).mono ?_⟩
  rintro e u' w' ⟨rfl, rfl, hk⟩
  exact hk
end
end Go.Proofs.Ytiblbjagfiigdaa
