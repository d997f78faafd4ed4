/-
  Letters: what recovers.
-/
import Derived.Test.YtgfdgopmbfljeaaUtfPure
import Derived.RecoverIn
import Derived.Test.YtgfdgopmbfljeaaV
namespace Go.Proofs.Ytgfdgopmbfljeaa
open Go.RowKit Go.Vc
theorem assert_none (w : World) : (Instr.typeAssert (.iface 43 (.agg #[])) 20 43 true).run Try.prog w = .ok (.tuple #[.agg #[], .bool true]) w := by kernel_rfl
theorem catch_panicking (b c : Nat) (hbc : c ≠ b) (x y : Int) (w : World) (hb : w.cell? ⟨b, 0, none⟩ = some (.int .i64 x)) (hc : w.cell? ⟨c, 0, none⟩ = some (.int .i64 y)) (fb : w.frozen? ⟨b, 0, none⟩ = false) (fc : w.frozen? ⟨c, 0, none⟩ = false) :
    CallsDIn Fence.wide 0 Try.prog 31 #[.pointer (some ⟨b, 0, none⟩), .pointer (some ⟨c, 0, none⟩)] (.panicking [{ v := .iface 43 (.agg #[]), recovered := false }]) w fun e u' w' =>
      e = .returned (.tuple #[]) ∧ u' = .panicking [{ v := .iface 43 (.agg #[]), recovered := true }] ∧ w' = ((w.alloc (.cells #[] 43)).setCell ⟨b, 0, none⟩ (.int .i64 0)).setCell ⟨c, 0, none⟩ (.int .i64 0) := by
  have xa : Ext w (w.alloc (.cells #[] 43)) := NewBlk.ext (b := w.heap.size) (cs := []) (T := 43) ⟨rfl, rfl⟩
  have hb' := xa.cell hb
  have hc' := xa.cell hc
  have kb := xa.can (show CanStore w b 0 from ⟨⟨_, hb⟩, fb⟩)
  have kc := xa.can (show CanStore w c 0 from ⟨⟨_, hc⟩, fc⟩)
  have s1 : Stored (w.alloc (.cells #[] 43)) b 0 (.int .i64 0) ((w.alloc (.cells #[] 43)).setCell ⟨b, 0, none⟩ (.int .i64 0)) := ⟨rfl⟩
  have kc' := s1.can kc
  have hc'' : ((w.alloc (.cells #[] 43)).setCell ⟨b, 0, none⟩ (.int .i64 0)).cell? ⟨c, 0, none⟩ = some (.int .i64 y) := by rw [s1.other (.inl hbc)]; exact hc'
  have fb' := kb.2
  have fc' := kc'.2
  refine callsDIn_of_wpSIn Try.func31 rfl trivial fun c₀ cs hu => ?_
  apply wpSIn_seq
  apply wpSIn_region
  simp [wpOpsSIn, go_sem, recoverD, hu, Exit.thenS]
  apply wpSIn_seq
  apply wpSIn_region
  simp [wpOpsSIn, go_sem, Exit.thenS]
  refine wpSIn_cond (t := true) (by simp [Act.eval, Array.replicate]) ?_
  simp only [if_true]
  apply wpSIn_seq
  apply wpSIn_seq
  apply wpSIn_region
  simp [wpOpsSIn, go_sem, Exit.thenS, assert_none]
  generalize w.alloc (.cells #[] 43) = wa at *
  apply wpSIn_seq
  apply wpSIn_region
  simp [wpOpsSIn, go_sem, Exit.thenS]
  refine wpSIn_cond (t := false) (by simp [Act.eval, Array.replicate]) ?_
  simp only [Bool.false_eq_true, if_false]
  refine wpSIn_of_wpIn rfl (wpIn_skip ?_)
  simp only [Exit.thenS]
  apply wpSIn_region
  simp [wpOpsSIn, go_sem, hb', hc'', fb', fc', bodyPostS, results]
theorem catch_idle (b c : Nat) (w : World) :
    CallsDIn Fence.wide 0 Try.prog 31 #[.pointer (some ⟨b, 0, none⟩), .pointer (some ⟨c, 0, none⟩)] .returning w fun e u' w' => e = .returned (.tuple #[]) ∧ u' = .returning ∧ w' = w := by
  refine callsDIn_of_wpSIn Try.func31 rfl trivial fun c₀ cs hu => ?_
  apply wpSIn_seq
  apply wpSIn_region
  simp [wpOpsSIn, go_sem, recoverD, hu, Exit.thenS]
  apply wpSIn_seq
  apply wpSIn_region
  simp [wpOpsSIn, go_sem, Exit.thenS]
  refine wpSIn_cond (t := false) (by simp [Act.eval, Array.replicate]) ?_
  simp only [Bool.false_eq_true, if_false]
  refine wpSIn_of_wpIn rfl (wpIn_skip ?_)
  cases c₀
  simp_all [bodyPostS, results]
end Go.Proofs.Ytgfdgopmbfljeaa
