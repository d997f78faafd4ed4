/-
  Numbers with a point: sums from the left on, shares.
-/
import Derived.Test.YtdcibnjlbkadbaaDoorFltPlace
import Derived.Test.YtdcibnjlbkadbaaDoorFltSort
namespace Go.Vc
open Go.RowKit
/-- A number, all NaNs as one. -/
def cls (x : Nat) : Option Nat := if nan x then none else some x
theorem cls_bits {x y : Nat} (h : cls x = cls y) : fbits x = fbits y := by
  unfold cls at h
  unfold fbits
  cases e1 : nan x <;> cases e2 : nan y <;> rw [e1, e2] at h <;> simp at h ⊢
  omega
/-- An operation, all NaNs as one. -/
def opC (op : BinOp) (x y : Nat) : Option Nat := match floatBits op .f64 x y with
  | some r => cls r
  | none => none
theorem opC_run {P : Program} (op : BinOp) (hop : arithB op = true) (T : TypeId) (x y : Nat) (w : World) : ∃ r w', (binOp op T (.float .f64 x) (.float .f64 y)).run P w = .ok (.float .f64 r) w' ∧ Ext w w' ∧ Wd r ∧ cls r = opC op x y := by
  obtain ⟨r, w', h1, h2, h3, h4⟩ := flt_run (P := P) op hop T x y w
  refine ⟨r, w', h1, h2, h3, ?_⟩
  unfold opC
  rcases h4 with h | ⟨h, hn⟩ <;> rw [h]
  unfold cls; rw [hn]; rfl
theorem read_nan' {x : Nat} (h : nan x = true) : ∃ s f, Ieee.double.read x = .nan s f := ⟨_, _, read_nan (nan_rung.1 h)⟩
theorem add_eq (x y : Nat) : floatBits .add .f64 x y = ((Ieee.double.read x).sum (Ieee.double.read y)).map Ieee.double.write := by
  unfold floatBits FloatKind.format Ieee.Format.add
  rfl
theorem add_nan {x y : Nat} (h : nan x = true ∨ nan y = true) : floatBits .add .f64 x y = none := by
  rw [add_eq]
  rcases h with h | h
  · obtain ⟨s, f, e⟩ := read_nan' h
    rw [e]
    cases Ieee.double.read y <;> rfl
  · obtain ⟨s, f, e⟩ := read_nan' h
    rw [e]
    cases Ieee.double.read x <;> rfl
/-- A sum of two, all NaNs as one. -/
def addC (a b : Option Nat) : Option Nat := match a, b with
  | some x, some y => opC .add x y
  | _, _ => none
theorem addC_cls (x y : Nat) : addC (cls x) (cls y) = opC .add x y := by
  have hn : nan x = true ∨ nan y = true → opC .add x y = none := fun h => by unfold opC; rw [add_nan h]
  unfold cls
  cases e1 : nan x
  · cases e2 : nan y
    · rfl
    · rw [hn (.inr e2)]; rfl
  · rw [hn (.inl e1)]; rfl
def sumC (xs : List Nat) : Option Nat := match xs with
  | [] => some 0
  | x :: r => r.foldl (fun a y => addC a (cls y)) (cls x)
theorem Src.fl {w : World} {p : Option Addr} {xs : List Nat} (h : Go.Vc.Src w p (FL xs)) {i : Nat} (hi : i < xs.length) : ∃ b o, p = some ⟨b, o, none⟩ ∧ w.cell? ⟨b, o + i, none⟩ = some (.float .f64 (xs.getD i 0)) :=
  h i _ (by simp [List.getD, hi])
theorem Src.extw {w w' : World} {p : Option Addr} {cs : List Value} (h : Go.Vc.Src w p cs) (hu : Ext w w') : Go.Vc.Src w' p cs := fun j u hj => by
  obtain ⟨b, o, e, hc⟩ := h j u hj
  exact ⟨b, o, e, hu.cell hc⟩
theorem fold_snoc {r : List Nat} {k : Nat} (hk : k < r.length) (a : Option Nat) : (r.take (k + 1)).foldl (fun a y => addC a (cls y)) a = addC ((r.take k).foldl (fun a y => addC a (cls y)) a) (cls (r.getD k 0)) := by
  rw [List.take_succ_eq_append_getElem hk, List.foldl_append]
  simp [List.getD, hk]
end Go.Vc
namespace Go.Proofs.YtdcibnjlbkadbaaDoor
open Go.RowKit Go.Vc
variable {w : World} {R : Ending → World → Prop}
theorem sum_does {p : Option Addr} {xs : List Nat} (hx : ∀ x ∈ xs, Wd x) (hp : Go.Vc.Src w p (FL xs)) {l : Nat} (hl : l = xs.length) {c : Nat} (hc : l ≤ c) (hm : xs.length ≤ 1000000) : Does Tryd.prog 15 #[.slice p l c] w fun e w' => ∃ f, e = .returned (.float .f64 f) ∧ cls f = sumC xs ∧ Ext w w' := by
  subst hl
  refine f15_does _ _ _ ?_
  unfold f15_vc
  cases xs with
  | nil => exact tru rfl ⟨0, rfl, by decide, Upd.refl _ _⟩
  | cons x r =>
    refine fls (by simp; omega) ?_
    obtain ⟨b, o, e, h0⟩ := hp.fl (i := 0) (by simp)
    subst e
    simp only [List.length_cons] at hc hm
    have e1 : ((1 : Int).toNat) = 1 := rfl
    refine ⟨⟨by omega, by simp only [List.length_cons]; omega⟩, b, o, rfl, x, h0, ⟨by omega, by simp only [List.length_cons]; omega⟩, fun f i n wl => ∃ k : Nat, i = k ∧ n = r.length - k ∧ k ≤ r.length ∧ cls f = (r.take k).foldl (fun a y => addC a (cls y)) (cls x) ∧ Ext w wl, ⟨_, 0, rfl, rfl, Nat.zero_le _, rfl, Upd.refl _ _⟩, ?_⟩
    rintro f _ n wl ⟨k, rfl, rfl, hk, hf, hw⟩
    have hlen : (((x :: r).length - (1 : Int).toNat : Nat) : Int) = r.length := by rw [e1]; simp
    rw [hlen]
    refine brr (fun h => ?_) fun h => ?_
    · have h := of_decide_eq_true h
      obtain ⟨b', o', e', h1⟩ := (Src.extw hp hw).fl (i := k + 1) (by simp only [List.length_cons]; omega)
      injection e' with e'
      injection e' with e2 e3
      subst e2; subst e3
      obtain ⟨g, w2, hr, x2, _, hg⟩ := opC_run (P := Tryd.prog) .add rfl 25 f (r.getD k 0) wl
      refine ⟨⟨by omega, by omega⟩, b, o + 1, ?_, _, ?_, g, w2, hr, inI64 (by omega) (by omega), r.length - (k + 1), by omega, k + 1, by omega, rfl, by omega, ?_, Ext.then hw x2⟩
      · unfold subp
        rw [if_neg (by rw [e1]; omega)]
        simp [add_plain']
      · rw [Int.toNat_natCast, Nat.add_assoc, Nat.add_comm 1 k]; exact h1
      · rw [fold_snoc (by omega), ← hf, addC_cls, hg]
    · have h := of_decide_eq_false h
      refine ⟨f, rfl, ?_, hw⟩
      have : k = r.length := by omega
      rw [hf, this, List.take_length]; rfl
theorem rsum_does {p : Option Addr} {xs : List Nat} (hx : ∀ x ∈ xs, Wd x) (hp : Go.Vc.Src w p (FL xs)) {l : Nat} (hl : l = xs.length) {c : Nat} (hm : xs.length ≤ 1000000) : Does Tryd.prog 16 #[.slice p l c] w fun e w' => ∃ f, e = .returned (.float .f64 f) ∧ cls f = sumC xs ∧ Ext w w' := by
  subst hl
  refine f16_does _ _ _ ?_
  unfold f16_vc
  cases xs with
  | nil => exact tru rfl ⟨0, rfl, by decide, Upd.refl _ _⟩
  | cons x r =>
    refine fls (by simp; omega) ?_
    obtain ⟨b, o, e, h0⟩ := hp.fl (i := 0) (by simp)
    subst e
    simp only [List.length_cons] at hm
    refine ⟨⟨by omega, by simp only [List.length_cons]; omega⟩, b, o, rfl, x, h0, fun f i n wl => ∃ k : Nat, i = (k : Int) + 1 ∧ n = r.length - k ∧ k ≤ r.length ∧ cls f = (r.take k).foldl (fun a y => addC a (cls y)) (cls x) ∧ Ext w wl, ⟨_, 0, rfl, rfl, Nat.zero_le _, rfl, Upd.refl _ _⟩, ?_⟩
    rintro f _ n wl ⟨k, rfl, rfl, hk, hf, hw⟩
    have hlen : (((x :: r).length : Nat) : Int) = r.length + 1 := by simp
    rw [hlen]
    refine brr (fun h => ?_) fun h => ?_
    · have h := of_decide_eq_true h
      obtain ⟨b', o', e', h1⟩ := (Src.extw hp hw).fl (i := k + 1) (by simp only [List.length_cons]; omega)
      injection e' with e'
      injection e' with e2 e3
      subst e2; subst e3
      obtain ⟨g, w2, hr, x2, _, hg⟩ := opC_run (P := Tryd.prog) .add rfl 25 f (r.getD k 0) wl
      refine ⟨⟨by omega, by omega⟩, b, o, rfl, _, ?_, g, w2, hr, inI64 (by omega) (by omega), r.length - (k + 1), by omega, k + 1, by omega, rfl, by omega, ?_, Ext.then hw x2⟩
      · rw [show ((k : Int) + 1).toNat = k + 1 by omega]; exact h1
      · rw [fold_snoc (by omega), ← hf, addC_cls, hg]
    · have h := of_decide_eq_false h
      refine ⟨f, rfl, ?_, hw⟩
      have : k = r.length := by omega
      rw [hf, this, List.take_length]; rfl
theorem share_does (a b : Int) : Does Tryd.prog 13 #[.int .i64 a, .int .i64 b] w fun e w' => ∃ f, e = .returned (.float .f64 f) ∧ Wd f ∧ cls f = opC .quo (floatOfInt .f64 a) (floatOfInt .f64 b) ∧ Ext w w' := by
  obtain ⟨r, w', h1, h2, h3, h4⟩ := opC_run (P := Tryd.prog) .quo rfl 25 (floatOfInt .f64 a) (floatOfInt .f64 b) w
  exact f13_does _ _ ⟨_, w, i2f w, _, w, i2f w, r, w', h1, r, rfl, h3, h4, h2⟩
theorem rshare_does (a b : Int) : Does Tryd.prog 17 #[.int .i64 a, .int .i64 b] w fun e w' => ∃ f, e = .returned (.float .f64 f) ∧ Wd f ∧ cls f = opC .quo (floatOfInt .f64 a) (floatOfInt .f64 b) ∧ Ext w w' := by
  obtain ⟨r, w', h1, h2, h3, h4⟩ := opC_run (P := Tryd.prog) .quo rfl 25 (floatOfInt .f64 a) (floatOfInt .f64 b) w
  exact f17_does _ _ ⟨_, w, i2f w, _, w, i2f w, r, w', h1, r, rfl, h3, h4, h2⟩
/-- Sums, shares, places. -/
theorem sums_law {p : Option Addr} {xs : List Nat} (hx : ∀ x ∈ xs, Wd x) (hp : Go.Vc.Src w p (FL xs)) {l : Nat} (hl : l = xs.length) {c : Nat} (hc : l ≤ c) {a b : Int} (ha : InK .i64 a) : Does Tryd.prog 6 #[.slice p l c, .int .i64 a, .int .i64 b] w (Holds w) := by
  subst hl
  refine f6_does _ _ _ _ _ (awake_does.imp ?_)
  rintro e w12 ⟨rfl, x12⟩
  refine ⟨_, rfl, fls rfl (brr (fun _ => ⟨rfl, x12⟩) fun h => (share_does a b).imp ?_)⟩
  have h := of_decide_eq_false h
  rintro e w19 ⟨x, rfl, hxw, hxc, x19⟩
  have x19 := Ext.then x12 x19
  refine ⟨_, rfl, place_does hxw ha ⟨_, _, rfl, rplace_does hxw ha ⟨_, _, rfl, (sum_does hx (Src.extw hp x19) rfl hc (by omega)).imp ?_⟩⟩⟩
  rintro e w33 ⟨f33, rfl, hf33, x33⟩
  have x33 := Ext.then x19 x33
  refine ⟨_, rfl, bits_does _ ⟨_, rfl, (rsum_does hx (Src.extw hp x33) rfl (by omega)).imp ?_⟩⟩
  rintro e w36 ⟨f36, rfl, hf36, x36⟩
  have x36 := Ext.then x33 x36
  refine ⟨_, rfl, rbits_does _ ⟨_, rfl, tru (by rw [cls_bits (hf33.trans hf36.symm)]; simp) (bits_does _ ⟨_, rfl, (rshare_does a b).imp ?_⟩)⟩⟩
  rintro e w44 ⟨f44, rfl, _, hf44, x44⟩
  have x44 := Ext.then x36 x44
  refine ⟨_, rfl, rbits_does _ ⟨_, rfl, tru (by rw [cls_bits (hxc.trans hf44.symm)]; simp) (tru (by simp) ?_)⟩⟩
  rw [beq_self_eq_true]
  exact ⟨rfl, x44⟩
end Go.Proofs.YtdcibnjlbkadbaaDoor
