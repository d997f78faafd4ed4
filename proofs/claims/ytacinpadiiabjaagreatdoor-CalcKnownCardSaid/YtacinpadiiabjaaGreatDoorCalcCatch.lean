/-
  Expressions: what recovers.
-/
import Derived.Test.YtacinpadiiabjaaGreatDoorCalcRun2
import Derived.RecoverIn
namespace Go.Proofs.YtacinpadiiabjaaGreatDoor
open Go.RowKit Go.Vc
theorem assert_bad (w : World) : (Instr.typeAssert (.iface 60 (.agg #[])) 20 60 true).run Tryz.prog w = .ok (.tuple #[.agg #[], .bool true]) w := by kernel_rfl
theorem catch_panicking (b c : Nat) (hbc : c ≠ b) (w : World) (P : World → Prop) (hb : CanStore w b 0) (hc : CanStore w c 0)
    (hP : ∀ w', Upd (fun z => z = b ∨ z = c) w w' → w'.cell? ⟨b, 0, none⟩ = some (.float .f64 0) → w'.cell? ⟨c, 0, none⟩ = some (.bool false) → P w') :
    CallsDIn Fence.wide 0 Tryz.prog 36 #[.pointer (some ⟨b, 0, none⟩), .pointer (some ⟨c, 0, none⟩)] (.panicking [{ v := .iface 60 (.agg #[]), recovered := false }]) w fun e u' w' =>
      e = .returned (.tuple #[]) ∧ u' = .panicking [{ v := .iface 60 (.agg #[]), recovered := true }] ∧ P w' := by
  have xa : Ext w (w.alloc (.cells #[] 60)) := NewBlk.ext (b := w.heap.size) (cs := []) (T := 60) ⟨rfl, rfl⟩
  have kb := xa.can hb
  have kc := xa.can hc
  refine callsDIn_of_wpSIn Tryz.func36 rfl trivial fun c₀ cs hu => ?_
  apply wpSIn_seq
  apply wpSIn_region
  simp [wpOpsSIn, go_sem, recoverD, hu, Exit.thenS]
  apply wpSIn_seq
  apply wpSIn_region
  simp [wpOpsSIn, go_sem, Exit.thenS]
  refine wpSIn_cond (t := true) (by simp [Act.eval, Array.replicate]) ?_
  simp only [if_true]
  apply wpSIn_seq
  apply wpSIn_seq
  apply wpSIn_region
  simp [wpOpsSIn, go_sem, Exit.thenS, assert_bad]
  generalize w.alloc (.cells #[] 60) = wa at *
  apply wpSIn_seq
  apply wpSIn_region
  simp [wpOpsSIn, go_sem, Exit.thenS]
  refine wpSIn_cond (t := false) (by simp [Act.eval, Array.replicate]) ?_
  simp only [Bool.false_eq_true, if_false]
  refine wpSIn_of_wpIn rfl (wpIn_skip ?_)
  simp only [Exit.thenS]
  have s0 : Stored wa b 0 (.float .f64 0) (wa.setCell ⟨b, 0, none⟩ (.float .f64 0)) := ⟨rfl⟩
  have p0 := s0.cell kb
  have kc := s0.can kc
  have u0 : Upd (fun z => z = b ∨ z = c) wa _ := s0.upd.mono fun _ _ e => .inl e
  have st0 := store_one (P := Tryz.prog) (x := .float .f64 0) rfl kb
  generalize hw1 : wa.setCell ⟨b, 0, none⟩ (.float .f64 0) = w1 at *
  have s1 : Stored w1 c 0 (.bool false) (w1.setCell ⟨c, 0, none⟩ (.bool false)) := ⟨rfl⟩
  have t1 := s1.cell kc
  have t0 := (s1.other (b' := b) (o' := 0) (.inl (Ne.symm hbc))).trans p0
  have u1 : Upd (fun z => z = b ∨ z = c) wa _ := Upd.trans u0 (s1.upd.mono fun _ _ e => .inr e)
  obtain ⟨⟨u1', h1⟩, f1⟩ := kc
  have fin := hP _ (Upd.trans (xa.mono fun _ _ e => e.elim) u1) t0 t1
  apply wpSIn_region
  simp [wpOpsSIn, go_sem, bodyPostS, results, st0, h1, f1, fin]
theorem catch_idle (b c : Nat) (w : World) :
    CallsDIn Fence.wide 0 Tryz.prog 36 #[.pointer (some ⟨b, 0, none⟩), .pointer (some ⟨c, 0, none⟩)] .returning w fun e u' w' => e = .returned (.tuple #[]) ∧ u' = .returning ∧ w' = w := by
  refine callsDIn_of_wpSIn Tryz.func36 rfl trivial fun c₀ cs hu => ?_
  apply wpSIn_seq
  apply wpSIn_region
  simp [wpOpsSIn, go_sem, recoverD, hu, Exit.thenS]
  apply wpSIn_seq
  apply wpSIn_region
  simp [wpOpsSIn, go_sem, Exit.thenS]
  refine wpSIn_cond (t := false) (by simp [Act.eval, Array.replicate]) ?_
  simp only [Bool.false_eq_true, if_false]
  refine wpSIn_of_wpIn rfl (wpIn_skip ?_)
  cases c₀
  simp_all [bodyPostS, results]
theorem call_catch : callableB Tryz.prog 36 = true := by kernel_rfl
section
variable {K : World → Prop} {Kp : List PanicEntry → World → Prop} {b c : Nat} {w : World}
theorem leave_ok (h : K w) : LeavesV K Kp Tryz.prog ({ target := .fn (.func 36) #[.pointer (some ⟨b, 0, none⟩), .pointer (some ⟨c, 0, none⟩)], args := #[] } :: []) .returning w := by
  refine ⟨by simp, call_catch, (catch_idle b c w).mono ?_⟩
  rintro e u' w' ⟨rfl, rfl, rfl⟩
  exact h
theorem leave_panic (hbc : c ≠ b) (hb : CanStore w b 0) (hc : CanStore w c 0)
    (h : ∀ w', Upd (fun z => z = b ∨ z = c) w w' → w'.cell? ⟨b, 0, none⟩ = some (.float .f64 0) → w'.cell? ⟨c, 0, none⟩ = some (.bool false) → K w') :
    LeavesV K Kp Tryz.prog ({ target := .fn (.func 36) #[.pointer (some ⟨b, 0, none⟩), .pointer (some ⟨c, 0, none⟩)], args := #[] } :: []) (.panicking [{ v := .iface 60 (.agg #[]), recovered := false }]) w := by
  refine ⟨by simp, call_catch, (catch_panicking b c hbc w K hb hc h).mono ?_⟩
  rintro e u' w' ⟨rfl, rfl, hk⟩
  exact hk
end
end Go.Proofs.YtacinpadiiabjaaGreatDoor
