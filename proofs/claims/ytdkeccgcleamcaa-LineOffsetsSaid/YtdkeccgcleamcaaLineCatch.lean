/-
  Command lines: what recovers.
-/
import Derived.Test.YtdkeccgcleamcaaLineCalls2
import Derived.RecoverIn
namespace Go.Proofs.Ytdkeccgcleamcaa
open Go.RowKit Go.Vc
theorem assert_bad (w : World) : (Instr.typeAssert (.iface 58 (.agg #[])) 20 58 true).run Try.prog w = .ok (.tuple #[.agg #[], .bool true]) w := by kernel_rfl
theorem catch_panicking (b c : Nat) (hbc : c ≠ b) (w : World) (P : World → Prop) (hc : CanStore w c 0) (hb : ∀ j, j < 4 → CanStore w b j)
    (hP : ∀ w', Upd (fun z => z = b ∨ z = c) w w' → w'.cell? ⟨b, 0, none⟩ = some (.slice none 0 0) → w'.cell? ⟨b, 1, none⟩ = some (.string { data := #[] }) → w'.cell? ⟨b, 2, none⟩ = some (.bool false) → w'.cell? ⟨b, 3, none⟩ = some (.string { data := #[] }) → w'.cell? ⟨c, 0, none⟩ = some (.int .i64 11) → P w') :
    CallsDIn Fence.wide 0 Try.prog 21 #[.pointer (some ⟨b, 0, none⟩), .pointer (some ⟨c, 0, none⟩)] (.panicking [{ v := .iface 58 (.agg #[]), recovered := false }]) w fun e u' w' =>
      e = .returned (.tuple #[]) ∧ u' = .panicking [{ v := .iface 58 (.agg #[]), recovered := true }] ∧ P w' := by
  have xa : Ext w (w.alloc (.cells #[] 58)) := NewBlk.ext (b := w.heap.size) (cs := []) (T := 58) ⟨rfl, rfl⟩
  have kb := fun j hj => xa.can (hb j hj)
  have kc := xa.can hc
  refine callsDIn_of_wpSIn Try.func21 rfl trivial fun c₀ cs hu => ?_
  apply wpSIn_seq
  apply wpSIn_region
  simp [wpOpsSIn, go_sem, recoverD, hu, Exit.thenS]
  apply wpSIn_seq
  apply wpSIn_region
  simp [wpOpsSIn, go_sem, Exit.thenS]
  refine wpSIn_cond (t := true) (by simp [Act.eval, Array.replicate]) ?_
  simp only [if_true]
  apply wpSIn_seq
  apply wpSIn_seq
  apply wpSIn_region
  simp [wpOpsSIn, go_sem, Exit.thenS, assert_bad]
  generalize w.alloc (.cells #[] 58) = wa at *
  apply wpSIn_seq
  apply wpSIn_region
  simp [wpOpsSIn, go_sem, Exit.thenS]
  refine wpSIn_cond (t := false) (by simp [Act.eval, Array.replicate]) ?_
  simp only [Bool.false_eq_true, if_false]
  refine wpSIn_of_wpIn rfl (wpIn_skip ?_)
  simp only [Exit.thenS]
  have s0 : Stored wa b 0 (.slice none 0 0) (wa.setCell ⟨b, 0, none⟩ (.slice none 0 0)) := ⟨rfl⟩
  obtain ⟨⟨u0, h0⟩, f0⟩ := kb 0 (by omega)
  have k1 := s0.can (kb 1 (by omega))
  have s1 : Stored (wa.setCell ⟨b, 0, none⟩ (.slice none 0 0)) b 1 (.string { data := #[] }) ((wa.setCell ⟨b, 0, none⟩ (.slice none 0 0)).setCell ⟨b, 1, none⟩ (.string { data := #[] })) := ⟨rfl⟩
  have k2 := s1.can (s0.can (kb 2 (by omega)))
  have k3 := s1.can (s0.can (kb 3 (by omega)))
  have kc := s1.can (s0.can kc)
  have p0 := (s1.other (b' := b) (o' := 0) (.inr (by decide))).trans (s0.cell ⟨⟨u0, h0⟩, f0⟩)
  have p1 := s1.cell k1
  have u01 : Upd (fun z => z = b ∨ z = c) wa _ := Upd.trans (s0.upd.mono fun _ _ e => .inl e) (s1.upd.mono fun _ _ e => .inl e)
  obtain ⟨⟨u1, h1⟩, f1⟩ := k1
  generalize hw1 : wa.setCell ⟨b, 0, none⟩ (.slice none 0 0) = w1 at *
  generalize hw2 : w1.setCell ⟨b, 1, none⟩ (.string { data := #[] }) = w2 at *
  have s2 : Stored w2 b 2 (.bool false) (w2.setCell ⟨b, 2, none⟩ (.bool false)) := ⟨rfl⟩
  have k3' := s2.can k3
  have kc' := s2.can kc
  have q2 := s2.cell k2
  have q0 := (s2.other (b' := b) (o' := 0) (.inr (by decide))).trans p0
  have q1 := (s2.other (b' := b) (o' := 1) (.inr (by decide))).trans p1
  have u02 := Upd.trans u01 (s2.upd.mono fun _ _ e => .inl e)
  obtain ⟨⟨u2, h2⟩, f2⟩ := k2
  generalize hw3 : w2.setCell ⟨b, 2, none⟩ (.bool false) = w3 at *
  have s3 : Stored w3 b 3 (.string { data := #[] }) (w3.setCell ⟨b, 3, none⟩ (.string { data := #[] })) := ⟨rfl⟩
  have kc'' := s3.can kc'
  have r3 := s3.cell k3'
  have r0 := (s3.other (b' := b) (o' := 0) (.inr (by decide))).trans q0
  have r1 := (s3.other (b' := b) (o' := 1) (.inr (by decide))).trans q1
  have r2 := (s3.other (b' := b) (o' := 2) (.inr (by decide))).trans q2
  have u03 := Upd.trans u02 (s3.upd.mono fun _ _ e => .inl e)
  obtain ⟨⟨u3, h3⟩, f3⟩ := k3'
  generalize hw4 : w3.setCell ⟨b, 3, none⟩ (.string { data := #[] }) = w4 at *
  have s4 : Stored w4 c 0 (.int .i64 11) (w4.setCell ⟨c, 0, none⟩ (.int .i64 11)) := ⟨rfl⟩
  have t4 := s4.cell kc''
  have t := fun j => s4.other (b' := b) (o' := j) (.inl (Ne.symm hbc))
  have u04 := Upd.trans u03 (s4.upd.mono fun _ _ e => .inr e)
  obtain ⟨⟨u4, h4⟩, f4⟩ := kc''
  have fin := hP _ (Upd.trans (xa.mono fun _ _ e => e.elim) u04) ((t 0).trans r0) ((t 1).trans r1) ((t 2).trans r2) ((t 3).trans r3) t4
  apply wpSIn_region
  simp [wpOpsSIn, go_sem, bodyPostS, results, h0, f0, hw1, h1, f1, hw2, h2, f2, hw3, h3, f3, hw4, h4, f4, fin]
theorem catch_idle (b c : Nat) (w : World) :
    CallsDIn Fence.wide 0 Try.prog 21 #[.pointer (some ⟨b, 0, none⟩), .pointer (some ⟨c, 0, none⟩)] .returning w fun e u' w' => e = .returned (.tuple #[]) ∧ u' = .returning ∧ w' = w := by
  refine callsDIn_of_wpSIn Try.func21 rfl trivial fun c₀ cs hu => ?_
  apply wpSIn_seq
  apply wpSIn_region
  simp [wpOpsSIn, go_sem, recoverD, hu, Exit.thenS]
  apply wpSIn_seq
  apply wpSIn_region
  simp [wpOpsSIn, go_sem, Exit.thenS]
  refine wpSIn_cond (t := false) (by simp [Act.eval, Array.replicate]) ?_
  simp only [Bool.false_eq_true, if_false]
  refine wpSIn_of_wpIn rfl (wpIn_skip ?_)
  cases c₀
  simp_all [bodyPostS, results]
theorem call_catch : callableB Try.prog 21 = true := by kernel_rfl
section
variable {K : World → Prop} {Kp : List PanicEntry → World → Prop} {b c : Nat} {w : World}
theorem leave_ok (h : K w) : LeavesV K Kp Try.prog ({ target := .fn (.func 21) #[.pointer (some ⟨b, 0, none⟩), .pointer (some ⟨c, 0, none⟩)], args := #[] } :: []) .returning w := by
  refine ⟨by simp, call_catch, (catch_idle b c w).mono ?_⟩
  rintro e u' w' ⟨rfl, rfl, rfl⟩
  exact h
theorem leave_panic (hbc : c ≠ b) (hc : CanStore w c 0) (hb : ∀ j, j < 4 → CanStore w b j)
    (h : ∀ w', Upd (fun z => z = b ∨ z = c) w w' → w'.cell? ⟨b, 0, none⟩ = some (.slice none 0 0) → w'.cell? ⟨b, 1, none⟩ = some (.string { data := #[] }) → w'.cell? ⟨b, 2, none⟩ = some (.bool false) → w'.cell? ⟨b, 3, none⟩ = some (.string { data := #[] }) → w'.cell? ⟨c, 0, none⟩ = some (.int .i64 11) → K w') :
    LeavesV K Kp Try.prog ({ target := .fn (.func 21) #[.pointer (some ⟨b, 0, none⟩), .pointer (some ⟨c, 0, none⟩)], args := #[] } :: []) (.panicking [{ v := .iface 58 (.agg #[]), recovered := false }]) w := by
  refine ⟨by simp, call_catch, (catch_panicking b c hbc w K hc hb h).mono ?_⟩
  rintro e u' w' ⟨rfl, rfl, hk⟩
  exact hk
end
end Go.Proofs.Ytdkeccgcleamcaa
