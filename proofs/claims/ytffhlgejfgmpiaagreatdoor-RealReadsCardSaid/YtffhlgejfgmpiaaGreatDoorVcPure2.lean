/-
  The verification conditions of the operations that leave the world alone suffice: addresses, parts, slices, literals; all of them.
-/
import Derived.Test.YtffhlgejfgmpiaaGreatDoorVcPure
namespace Go.Vc
open Go.RowKit
section
variable {P : Program} {A : Ann} {ρ : Operand → Value} {K : SV → Prop}

theorem gives_of {o : Oper} {s : SV} (S : Sem Value) (he : execOp ρ o = (do pure (.value (← S)))) (h : ∀ w, S.run P w = .ok s.val w) : Gives P ρ o s := fun w => by
  rw [he]; simp only [Sem.run_bind, h, Result.andThen_ok, Sem.run_pure]
theorem sizeO_run {t : TypeId} {n : Nat} (h : sizeO P t = some n) (w : World) : (sizeOf t).run P w = .ok n w := by
  unfold sizeO at h
  cases hi : P.info? t with
  | none => simp [hi] at h
  | some i =>
    simp only [hi, Option.map_some, Option.some.injEq] at h
    subst h
    simp [sizeOf, typeInfo, hi]
theorem zeroO_run {t : TypeId} {z : Value} (h : zeroO P t = some z) (w : World) : (zeroValue t).run P w = .ok z w := by
  unfold zeroO at h
  cases hi : P.info? t with
  | none => simp [hi] at h
  | some i =>
    simp only [hi, Option.bind_some] at h
    simp [zeroValue, typeInfo, hi, h]
theorem isAggT_run {t : TypeId} {b : Bool} (h : isAggT P t = some b) (w : World) : (isAgg t).run P w = .ok b w := by
  unfold isAggT at h
  cases hu : P.underlying t with
  | none => simp [hu] at h
  | some d =>
    simp only [hu] at h
    simp only [isAgg, Sem.run_bind, run_underlying hu, Result.andThen_ok]
    cases d <;> simp at h <;> subst h <;> rfl
theorem field_run {T f : Nat} {fd : Field} (h : fieldOf P T f = some fd) : ∃ fs, P.underlying T = some (.struct fs) ∧ fs[f]? = some fd := by
  unfold fieldOf at h
  split at h
  · rename_i fs hu; exact ⟨fs, hu, h⟩
  · simp at h
theorem add_plain' (b o n : Nat) : (⟨b, o, none⟩ : Addr).add n = ⟨b, o + n, none⟩ := by
  unfold Addr.add; split <;> simp_all
theorem part_agg {t : TypeId} (ht : isAggT P t = some true) {sz : Nat} (hs : sizeO P t = some sz) (cs : Array Value) (off : Nat) (w : World) :
    (part t cs off).run P w = .ok (.agg ((cs.toList.drop off).take sz).toArray) w := by
  simp only [part, Sem.run_bind, isAggT_run ht, sizeO_run hs, Result.andThen_ok, if_true, Sem.run_pure]
  congr 2
  apply Array.ext'
  simp
theorem part_one {t : TypeId} (ht : isAggT P t = some false) {cs : Array Value} {off : Nat} {x : Value} (hx : cs.toList[off]? = some x) (w : World) :
    (part t cs off).run P w = .ok x w := by
  have hx' : cs[off]? = some x := by rw [← Array.getElem?_toList]; exact hx
  simp only [part, Sem.run_bind, isAggT_run ht, Result.andThen_ok, hx', Bool.false_eq_true, if_false, Sem.run_pure]

theorem idx_eq (n sz : Nat) : idx n sz = n * sz := by
  unfold idx
  split <;> simp
theorem indexAt_slice {T e : TypeId} (hu : P.underlying T = some (.slice e)) {sz : Nat} (hs : sizeO P e = some sz) (b o l c : Nat) (k : IntKind) (n : Int) (h : 0 ≤ n ∧ n < (l : Int)) (w : World) :
    (Instr.indexAt T (.slice (some ⟨b, o, none⟩) l c) (.int k n)).run P w = .ok (.pointer (some ⟨b, o + idx n.toNat sz, none⟩)) w := by
  simp only [Instr.indexAt, Sem.run_bind, asIntOf, Sem.run_pure, Result.andThen_ok, run_underlying hu, if_pos h, sizeO_run hs, add_plain', idx_eq]
theorem indexAt_array {T e : TypeId} {len : Nat} (hu : P.underlying T = some (.array len e)) {sz : Nat} (hs : sizeO P e = some sz) (b o : Nat) (k : IntKind) (n : Int) (h : 0 ≤ n ∧ n < (len : Int)) (w : World) :
    (Instr.indexAt T (.pointer (some ⟨b, o, none⟩)) (.int k n)).run P w = .ok (.pointer (some ⟨b, o + idx n.toNat sz, none⟩)) w := by
  simp only [Instr.indexAt, Instr.sureAddr, Sem.run_bind, asIntOf, Sem.run_pure, Result.andThen_ok, run_underlying hu, if_pos h, sizeO_run hs, add_plain', idx_eq]
theorem oneOf_get : ∀ {xs : List Value} {i : Int} {K : SV → Prop} {n : Nat}, oneOf xs i K n → ∀ j x, xs[j]? = some x → i = ((n + j : Nat) : Int) → K (svC x)
  | [], _, _, _, _, _, _, hx, _ => by simp at hx
  | y :: r, i, K, n, h, 0, x, hx, hi => by
    simp only [List.getElem?_cons_zero, Option.some.injEq] at hx
    subst hx
    exact h.1 (by simpa using hi)
  | y :: r, i, K, n, h, j + 1, x, hx, hi => by
    simp only [List.getElem?_cons_succ] at hx
    exact oneOf_get h.2 j x hx (by rw [hi]; congr 1; omega)
theorem svC_val (x : Value) : (svC x).val = x := by cases x <;> rfl

theorem bounds_sound {len cap : Nat} (hlc : True) {lo hi mx : Option Int} {F : Nat → Nat → Nat → Prop} (h : boundsVc len cap lo hi mx F) (kl kh km : IntKind) (sl : Bool) :
    ∃ l h m, F l h m ∧ ∀ w, (Instr.sliceBounds sl len cap (lo.map (.int kl)) (hi.map (.int kh)) (mx.map (.int km))).run P w = .ok (l, h, m) w := by
  have sb : ∀ (k : IntKind) (i : Int) (y : Nat) (code : BoundsCode) (w : World), 0 ≤ i → i ≤ (y : Int) → (Instr.sliceBound (.int k i) y code).run P w = .ok i.toNat w := by
    intro k i y code w h0 h1
    simp only [Instr.sliceBound, asIntOf, Sem.run_bind, Sem.run_pure, Result.andThen_ok, if_pos (And.intro h0 h1)]
  have ct : ∀ i : Int, 0 ≤ i → ((i.toNat : Nat) : Int) = i := fun i h => Int.toNat_of_nonneg h
  unfold boundsVc at h
  split at h
  · exact ⟨_, _, _, h, fun w => by simp [Instr.sliceBounds]⟩
  · obtain ⟨⟨h1, h2⟩, h⟩ := h
    exact ⟨_, _, _, h, fun w => by simp [Instr.sliceBounds, sb, h1, h2]⟩
  · obtain ⟨⟨h1, h2⟩, h⟩ := h
    exact ⟨_, _, _, h, fun w => by simp [Instr.sliceBounds, sb, h1, h2]⟩
  · obtain ⟨⟨h1, h2⟩, ⟨h3, h4⟩, h⟩ := h
    exact ⟨_, _, _, h, fun w => by simp [Instr.sliceBounds, sb, h1, h2, h3, ct _ h1, h4]⟩
  · obtain ⟨⟨h1, h2⟩, ⟨h3, h4⟩, h⟩ := h
    exact ⟨_, _, _, h, fun w => by simp [Instr.sliceBounds, sb, h1, h2, h3, ct _ h1, h4]⟩
  · obtain ⟨⟨h1, h2⟩, ⟨h3, h4⟩, ⟨h5, h6⟩, h⟩ := h
    exact ⟨_, _, _, h, fun w => by simp [Instr.sliceBounds, sb, h1, h2, h3, ct _ h1, h4, ct _ h3, h5, h6]⟩
  · exact h.elim

theorem optI_some {v : Operand → Option SV} (hv : ∀ x s, v x = some s → ρ x = s.val) {x : Option Operand} {F : Option Int → Prop} (h : optI v x F) :
    ∃ i k, F i ∧ x.map ρ = i.map (.int k) := by
  unfold optI at h
  split at h
  · exact ⟨none, .i64, h, rfl⟩
  · obtain ⟨s, hs, h⟩ := opt_some h
    obtain ⟨n, hn, h⟩ := opt_some h
    obtain ⟨k, hk⟩ := intOfV_some hn
    exact ⟨some n, k, h, by simp [hv _ _ hs, hk]⟩

theorem foldl_set : ∀ (xs : List Value) (off j : Nat) (cs : Array Value), off + j + xs.length ≤ cs.size →
    (xs.zipIdx j).foldl (fun cs (p : Value × Nat) => cs.setIfInBounds (off + p.2) p.1) cs = (cs.toList.take (off + j) ++ xs ++ cs.toList.drop (off + j + xs.length)).toArray
  | [], off, j, cs, h => by simp
  | x :: r, off, j, cs, h => by
    simp only [List.length_cons] at h
    simp only [List.zipIdx_cons, List.foldl_cons]
    rw [foldl_set r off (j + 1) _ (by simp; omega)]
    apply Array.ext'
    simp only [Array.toList_setIfInBounds]
    rw [show off + (j + 1) = off + j + 1 by omega, List.take_set, List.drop_set_of_lt (by omega)]
    rw [List.take_succ_eq_append_getElem (by simp; omega)]
    rw [List.set_append_right _ _ (by simp; omega)]
    simp only [List.length_take, Array.length_toList]
    rw [show off + j - min (off + j) cs.size = 0 by omega]
    simp only [List.set_cons_zero, List.append_assoc, List.cons_append, List.nil_append, List.length_cons]
    rw [show off + j + 1 + r.length = off + j + (r.length + 1) by omega]
theorem fill_sound (ps : List (Nat × Nat)) (pl : Nat → Option (Nat × Nat)) (hpl : ∀ i x, ps[i]? = some x → pl i = some x) :
    ∀ (r : List (Nat × Value)) (cs out : List Value), fillL ps cs r = some out → Instr.fill pl cs.toArray r = some out.toArray
  | [], cs, out, h => by simp [fillL] at h; simp [Instr.fill, h]
  | (i, x) :: r, cs, out, h => by
    unfold fillL at h
    split at h
    · rename_i off size hi
      split at h
      · rename_i hc
        obtain ⟨h1, h2⟩ := hc
        unfold Instr.fill
        rw [hpl i _ hi]
        simp only
        rw [if_neg (by simp [h1]; omega)]
        have hf := foldl_set x.cells.toList off 0 cs.toArray (by simp; omega)
        have hx : x.cells.toList.length = size := by simpa using h1
        simp only [Nat.add_zero, hx] at hf
        have : x.cells.zipIdx.foldl (fun cs (p : Value × Nat) => cs.setIfInBounds (off + p.2) p.1) cs.toArray = (cs.take off ++ x.cells.toList ++ cs.drop (off + size)).toArray := by
          rw [← hf, ← Array.foldl_toList]
          simp
        rw [← fill_sound ps pl hpl r _ out h, ← this]
      · simp at h
    · simp at h
end
end Go.Vc
