/-
  Numbers with a point: numbers put in order.
-/
import Derived.Test.YtdcibnjlbkadbaaDoorFltLaws
import Derived.Test.YtdcibnjlbkadbaaDoorRowW
import Derived.Test.YtdcibnjlbkadbaaDoorOpen
namespace Go.Vc
open Go.RowKit
abbrev FL (xs : List Nat) : List Value := xs.map (Value.float .f64)
theorem lt_key {a b : Nat} (ha : Wd a) (hb : Wd b) (h : (FloatKind.f64.format.order a b == some Ordering.lt) = true) : fkey a < fkey b := by
  rw [order_lt] at h
  simp only [Bool.and_eq_true, Bool.not_eq_true', decide_eq_true_eq] at h
  obtain ⟨⟨h1, h2⟩, h3⟩ := h
  unfold fkey
  rw [h1, h2]
  unfold fval at h3
  rcases sgn_pos ha with ⟨s1, r1, b1⟩ | ⟨s1, r1, b1⟩ <;> rcases sgn_pos hb with ⟨s2, r2, b2⟩ | ⟨s2, r2, b2⟩ <;> rw [s1, s2] at h3 ⊢ <;> simp only [Bool.false_eq_true, if_true, if_false] at h3 ⊢ <;> omega
theorem same_cmp {a b : Nat} (ha : Wd a) (hb : Wd b) (h : (FloatKind.f64.format.order a b == some Ordering.eq) = true) (h0 : (FloatKind.f64.format.order a 0 != some Ordering.eq) = true) : fcmp a b = 0 := by
  have z0 : nan 0 = false := by decide
  have v0 : fval 0 = 0 := by decide
  simp only [bne, order_eq, z0, v0] at h h0
  simp only [Bool.and_eq_true, Bool.not_eq_true', decide_eq_true_eq, Bool.not_false, Bool.and_true] at h h0
  obtain ⟨⟨h1, h2⟩, h3⟩ := h
  rw [h1] at h0
  have h0 : fval a ≠ 0 := by simpa using h0
  rw [fcmp_key ha hb]
  have : a = b := by
    unfold fval at h3 h0
    rcases sgn_pos ha with ⟨s1, r1, b1⟩ | ⟨s1, r1, b1⟩ <;> rcases sgn_pos hb with ⟨s2, r2, b2⟩ | ⟨s2, r2, b2⟩ <;> rw [s1] at h0 <;> rw [s1, s2] at h3 <;> simp only [Bool.false_eq_true, if_true, if_false] at h3 h0 <;> omega
  rw [this]
  unfold cmpK
  rw [if_neg (by omega), if_neg (by omega)]
theorem key_nan {a : Nat} (ha : Wd a) : fkey a ≤ 18446744073709551615 ∧ (nan a = true ↔ fkey a = 18446744073709551615) := by
  unfold fkey nan
  rcases sgn_pos ha with ⟨s1, r1, b1⟩ | ⟨s1, r1, b1⟩ <;> rw [s1] <;> by_cases h : 9218868437227405312 < rung a <;> simp [h] <;> omega
/-- A given slice of numbers. -/
theorem floats_open {H : Type} {enc : TypeId × Value → H} {P : Program} {w : World} {base : Nat} {sp : Nat → Bool} {held : Bool} {t e : TypeId} (ht : P.underlying t = some (.slice e)) (he : P.underlying e = some (.float .f64)) (hsz : P.cellsOf e = 1)
    {fuel : Nat} {p : Option Addr} {l c : Nat} {x : DataW H × List MemPlace} (h : DataW.trod enc P w base sp held fuel t [.slice p l c] = some x) :
    l ≤ c ∧ c ≤ maxLen ∧ ∃ xs : List Nat, l = xs.length ∧ (∀ x ∈ xs, Wd x) ∧ Src w p (FL xs) := by
  obtain ⟨h1, h2, h3⟩ := slice_open ht (by omega) h
  obtain ⟨xs, hl, hxs⟩ := list_of (α := Nat) (Q := fun i x => ∃ b o, p = some ⟨b, o, none⟩ ∧ w.cell? ⟨b, o + i, none⟩ = some (.float .f64 x) ∧ Wd x) fun i hi => by
    obtain ⟨b, o, cs, y, n, hp, hb, _, hc, hy⟩ := h3 i hi
    have hln : cs.length = 1 := by rw [← hsz]; assumption
    obtain ⟨z, rfl, hw⟩ : ∃ z, cs = [.float .f64 z] ∧ Wd z := by
      obtain ⟨v, rfl⟩ : ∃ v, cs = [v] := by
        match cs, hln with
        | [v], _ => exact ⟨v, rfl⟩
      cases n with
      | zero => simp [DataW.trod] at hy
      | succ n =>
        cases v <;> simp [DataW.trod, he] at hy
        rename_i kd bz _
        exact ⟨bz, by rw [hy.1.1], Go.Proofs.YtdcibnjlbkadbaaDoor.wd_of_wf hy.1.2⟩
    rw [hsz] at hc
    exact ⟨z, b, o, hp, by simpa using hc 0 _ rfl, hw⟩
  refine ⟨h1, h2, xs, hl.symm, fun x hx => ?_, fun j u hj => ?_⟩
  · obtain ⟨i, hi, e⟩ := List.getElem_of_mem hx
    obtain ⟨_, _, _, _, hw⟩ := hxs i hi
    rw [← e]; exact hw
  · have hj' := (List.getElem?_eq_some_iff.1 hj).1
    rw [List.length_map] at hj'
    obtain ⟨b, o, hp, hc, _⟩ := hxs j hj'
    refine ⟨b, o, hp, ?_⟩
    rw [hc, ← hj]; simp [hj']
theorem fl_one (xs : List Nat) : ∀ u ∈ FL xs, u.oneCell' = true := fun u hu => by
  obtain ⟨x, _, rfl⟩ := List.mem_map.1 hu; rfl
abbrev FRow (w0 w : World) (p : Option Addr) (l c : Nat) (xs : List Nat) : Prop := Row w (fun g => w0.heap.size ≤ g) 1 p l c (FL xs)
section
variable {w0 w : World} {p : Option Addr} {l c : Nat} {xs : List Nat}
theorem FRow.len (h : FRow w0 w p l c xs) : xs.length = l := by have := h.1; simpa using this
theorem FRow.at (h : FRow w0 w p l c xs) {i : Int} (h0 : 0 ≤ i) (h1 : i < l) {G : Nat → Prop} (k : G (xs.getD i.toNat 0)) :
    ((0 : Int) ≤ i ∧ i < (l : Int)) ∧ ∃ b o, p = some ⟨b, o, none⟩ ∧ ∃ f, w.cell? ⟨b, o + i.toNat, none⟩ = some (.float .f64 f) ∧ G f := by
  have hl := h.len
  obtain ⟨g, o, hp, _, _, hc⟩ := Row.can h (j := i.toNat) (by rw [List.length_map]; omega)
  refine ⟨⟨h0, h1⟩, g, o, hp, _, hc _ ?_, k⟩
  have : i.toNat < xs.length := by omega
  simp [List.getD, this]
theorem FRow.atS {S : World → Prop} (hS : ∀ w, S w → FRow w0 w p l c xs) (hw : S w) {i : Int} (h0 : 0 ≤ i) (h1 : i < l) {G : Nat → Prop} (k : G (xs.getD i.toNat 0)) :
    ((0 : Int) ≤ i ∧ i < (l : Int)) ∧ ∃ b o, p = some ⟨b, o, none⟩ ∧ ∃ f, (∀ w, S w → w.cell? ⟨b, o + i.toNat, none⟩ = some (.float .f64 f)) ∧ G f := by
  have hl := (hS w hw).len
  obtain ⟨g, o, hp, _, _, hc⟩ := Row.can (hS w hw) (j := i.toNat) (by rw [List.length_map]; omega)
  have : i.toNat < xs.length := by omega
  refine ⟨⟨h0, h1⟩, g, o, hp, xs.getD i.toNat 0, fun w' hw' => ?_, k⟩
  obtain ⟨g', o', hp', _, _, hc'⟩ := Row.can (hS w' hw') (j := i.toNat) (by rw [List.length_map]; omega)
  rw [hp] at hp'
  injection hp' with hp'
  injection hp' with e1 e2
  subst e1; subst e2
  exact hc' _ (by simp [List.getD, this])
theorem FRow.st (h : FRow w0 w p l c xs) (he : Ext w0 w) {i : Int} (h0 : 0 ≤ i) (h1 : i < l) {f : Nat} {G : World → Prop} (k : ∀ ws, FRow w0 ws p l c (xs.set i.toNat f) → Ext w0 ws → G ws) :
    ((0 : Int) ≤ i ∧ i < (l : Int)) ∧ ∃ b o, p = some ⟨b, o, none⟩ ∧ CanStore w b (o + i.toNat) ∧ ∀ ws, Stored w b (o + i.toNat) (.float .f64 f) ws → G ws := by
  have hl := h.len
  have hj : i.toNat < (FL xs).length := by rw [List.length_map]; omega
  obtain ⟨g, o, rfl, ho, hc, _⟩ := Row.can h (j := i.toNat) hj
  refine ⟨⟨h0, h1⟩, g, o, rfl, hc, fun ws hs => k ws ?_ (Upd.then he hs.upd fun z hz e => by omega)⟩
  have := Row.set h hj hs
  unfold FRow FL
  rwa [List.map_set]
end
/-- The first i stand in order. -/
def SortK (xs : List Nat) (i : Nat) : Prop := ∀ j, j + 1 < i → fkey (xs.getD j 0) ≤ fkey (xs.getD (j + 1) 0)
theorem fgetD_set (xs : List Nat) (i v j : Nat) (hi : i < xs.length) : (xs.set i v).getD j 0 = if j = i then v else xs.getD j 0 := by
  unfold List.getD
  by_cases h : j = i
  · subst h; simp [hi]
  · rw [List.getElem?_set_ne (Ne.symm h), if_neg h]
theorem wd_getD {xs : List Nat} (h : ∀ x ∈ xs, Wd x) (i : Nat) : Wd (xs.getD i 0) := by
  unfold List.getD
  cases e : xs[i]? with
  | none => unfold Wd; decide
  | some x => exact h x (List.mem_of_getElem? e)
/-- In order but for the one at k, which is still on its way. -/
def SortB (xs : List Nat) (i k : Nat) : Prop := (∀ j, j + 1 ≤ i → j + 1 ≠ k → fkey (xs.getD j 0) ≤ fkey (xs.getD (j + 1) 0)) ∧ (1 ≤ k → k + 1 ≤ i → fkey (xs.getD (k - 1) 0) ≤ fkey (xs.getD (k + 1) 0))
theorem SortB.start {xs : List Nat} {i : Nat} (h : SortK xs i) : SortB xs i i := ⟨fun j h1 h2 => h j (by omega), fun _ h2 => by omega⟩
theorem SortB.stop {xs : List Nat} {i k : Nat} (h : SortB xs i k) (hk : k = 0 ∨ fkey (xs.getD (k - 1) 0) ≤ fkey (xs.getD k 0)) : SortK xs (i + 1) := fun j hj => by
  by_cases e : j + 1 = k
  · rcases hk with h | h
    · omega
    · have e1 : k - 1 = j := by omega
      rw [e1] at h
      rw [e]; exact h
  · exact h.1 j (by omega) e
theorem SortB.swap {xs : List Nat} {i k : Nat} (h : SortB xs i k) (hk : 1 ≤ k) (hki : k ≤ i) (hi : i < xs.length) (hlt : fkey (xs.getD k 0) < fkey (xs.getD (k - 1) 0)) : SortB ((xs.set k (xs.getD (k - 1) 0)).set (k - 1) (xs.getD k 0)) i (k - 1) := by
  have g : ∀ j, ((xs.set k (xs.getD (k - 1) 0)).set (k - 1) (xs.getD k 0)).getD j 0 = if j = k - 1 then xs.getD k 0 else if j = k then xs.getD (k - 1) 0 else xs.getD j 0 := fun j => by
    rw [fgetD_set _ _ _ _ (by rw [List.length_set]; omega), fgetD_set _ _ _ _ (by omega)]
  obtain ⟨h1, h2⟩ := h
  refine ⟨fun j e1 e2 => ?_, fun e1 e2 => ?_⟩
  · rw [g, g]
    by_cases a : j = k - 1
    · rw [if_pos a, if_neg (by omega), if_pos (by omega)]; omega
    · rw [if_neg a]
      by_cases b : j = k
      · rw [if_pos b, if_neg (by omega), if_neg (by omega), b]
        exact h2 hk (by omega)
      · rw [if_neg b, if_neg (by omega), if_neg (by omega)]
        exact h1 j e1 (by omega)
  · rw [g, g, if_neg (by omega), if_neg (by omega), if_neg (by omega), if_pos (by omega)]
    have := h1 (k - 1 - 1) (by omega) (by omega)
    rwa [show k - 1 - 1 + 1 = k - 1 by omega] at this
end Go.Vc
namespace Go.Proofs.YtdcibnjlbkadbaaDoor
open Go.RowKit Go.Vc
variable {w : World} {R : Ending → World → Prop}
set_option maxRecDepth 100000 in
theorem slF : SlT Tryd.prog 22 25 1 8 := ⟨Tryd.underlying22, _, .float .f64 0, rfl, by kernel_rfl, rfl, rfl, by kernel_rfl, by decide⟩
/-- Numbers in order. -/
theorem sorts_law {p : Option Addr} {xs : List Nat} (hx : ∀ x ∈ xs, Wd x) (hp : Go.Vc.Src w p (FL xs)) {l : Nat} (hl : l = xs.length) (c : Nat) : Does Tryd.prog 3 #[.slice p l c] w (Holds w) := by
  subst hl
  refine f3_does _ _ _ (awake_does.imp ?_)
  rintro e w8 ⟨rfl, x8⟩
  refine ⟨_, rfl, fls rfl (brr (fun _ => ⟨rfl, x8⟩) fun h40 => ?_)⟩
  have h40 := of_decide_eq_false h40
  intro b13 w13 hn
  have xn : Ext w w13 := Ext.then x8 hn.ext
  have r0 : Row w13 (fun g => w.heap.size ≤ g) 1 (some ⟨b13, 0, none⟩) 0 0 [] := (hn.row (l := 0) (sz := 1) rfl (Nat.zero_le _)).ok fun g _ e => by rw [e, hn.eq]; exact x8.size
  have hsrc : Go.Vc.Src w13 p (FL xs) := fun j u hj => by
    obtain ⟨b, o, e, hc⟩ := hp j u hj
    exact ⟨b, o, e, xn.cell hc⟩
  obtain ⟨p15, c15, w15, hr, hrow, hu, _⟩ := r0.append slF 22 (hsrc.kit (P := Tryd.prog) (sz := 1) Tryd.underlying22 c (n := xs.length) (by simp) (by decide) (fl_one xs)) (by simp only [maxLen]; omega) (by omega)
  have x15 : Ext w w15 := Upd.then xn hu fun g _ hk => by obtain ⟨h1, h2, _⟩ := hk; omega
  have hrow : FRow w w15 p15 xs.length c15 xs := by
    rw [Nat.zero_add] at hrow
    exact Go.Vc.Row.ok hrow fun g _ hg => by
      rcases hg with h | h
      · exact h
      · rw [h]; exact xn.size
  rw [Nat.zero_add] at hr
  refine ⟨p15, xs.length, c15, w15, hr, ?_⟩
  clear hr hu hsrc r0
  generalize hL : xs.length = l at *
  refine ⟨fun i n wl => ∃ (k : Nat) (ys : List Nat), i = k ∧ n = l - k ∧ 1 ≤ k ∧ (k ≤ l ∨ k = 1) ∧ FRow w wl p15 l c15 ys ∧ (∀ y ∈ ys, Wd y) ∧ SortK ys k ∧ Ext w wl, ⟨_, 1, xs, rfl, rfl, Nat.le_refl _, .inr rfl, hrow, hx, fun j hj => by omega, x15⟩, ?_⟩
  rintro _ n wl ⟨k, ys, rfl, rfl, k1, kl, hr, hy, hs, hw⟩
  refine brr (fun h => ?_) fun h => ?_
  · have h := of_decide_eq_true h
    refine ⟨fun i n wl => ∃ (j : Nat) (ys : List Nat), i = j ∧ n = j ∧ j ≤ k ∧ FRow w wl p15 l c15 ys ∧ (∀ y ∈ ys, Wd y) ∧ SortB ys k j ∧ Ext w wl, ⟨_, k, ys, rfl, rfl, Nat.le_refl _, hr, hy, .start hs, hw⟩, ?_⟩
    clear hr hy hs hw ys wl
    rintro _ j wl ⟨_, ys, rfl, rfl, hjk, hr, hy, hs, hw⟩
    intro wd hd
    have hr : FRow w wd p15 l c15 ys := Row.ext hr hd.ext
    have hw := Ext.then hw hd.ext
    have hlen := hr.len
    refine brr (fun h0 => ?_) fun h0 => ?_
    · have h0 := of_decide_eq_true h0
      refine hr.at (by omega) (by omega) ⟨inI64 (by omega) (by omega), hr.at (by omega) (by omega) (compare_does (wd_getD hy _) (wd_getD hy _) ⟨_, rfl, ?_⟩)⟩
      rw [fcmp_key (wd_getD hy _) (wd_getD hy _)]
      have ej : ((j : Int) - 1).toNat = j - 1 := by omega
      refine brr (fun hc => ?_) fun hc => ?_
      · have hc := of_decide_eq_true hc
        rw [Int.toNat_natCast, ej] at hc
        have hlt : fkey (ys.getD j 0) < fkey (ys.getD (j - 1) 0) := by
          unfold cmpK at hc
          (repeat' split at hc) <;> omega
        intro wd2 hd2
        have hr : FRow w wd2 p15 l c15 ys := Row.ext hr hd2.ext
        have hw := Ext.then hw hd2.ext
        refine ⟨inI64 (by omega) (by omega), inI64 (by omega) (by omega), hr.at (by omega) (by omega) (hr.at (by omega) (by omega) (hr.st hw (by omega) (by omega) fun ws hr2 hw2 => hr2.st hw2 (by omega) (by omega) fun ws2 hr3 hw3 => ?_))⟩
        rw [Int.toNat_natCast, ej] at hr3
        refine ⟨inI64 (by omega) (by omega), j - 1, by omega, j - 1, _, by omega, rfl, by omega, hr3, fun y hm => ?_, hs.swap (by omega) hjk (by omega) hlt, hw3⟩
        rcases List.mem_or_eq_of_mem_set hm with hm | rfl
        · rcases List.mem_or_eq_of_mem_set hm with hm | rfl
          · exact hy y hm
          · exact wd_getD hy _
        · exact wd_getD hy _
      · have hc := of_decide_eq_false hc
        rw [Int.toNat_natCast, ej] at hc
        have hge : fkey (ys.getD (j - 1) 0) ≤ fkey (ys.getD j 0) := by
          unfold cmpK at hc
          (repeat' split at hc) <;> omega
        exact ⟨inI64 (by omega) (by omega), l - (k + 1), by omega, k + 1, ys, by omega, rfl, by omega, .inl (by omega), hr, hy, hs.stop (.inr hge), hw⟩
    · have h0 := of_decide_eq_false h0
      exact ⟨inI64 (by omega) (by omega), l - (k + 1), by omega, k + 1, ys, by omega, rfl, by omega, .inl (by omega), hr, hy, hs.stop (.inl (by omega)), hw⟩
  · have h := of_decide_eq_false h
    have hs2 : SortK ys l := fun j hj => hs j (by omega)
    clear hrow
    have hlen := hr.len
    have nx : ∀ j, j + 1 < l → fkey (ys.getD j 0) ≤ fkey (ys.getD (j + 1) 0) := hs2
    refine ⟨fun a i n wl => ∃ k m : Nat, i = k ∧ a = m ∧ n = l - k ∧ k ≤ l ∧ m ≤ k ∧ (m ≠ 0 → 1 ≤ k ∧ nan (ys.getD (k - 1) 0) = true) ∧ FRow w wl p15 l c15 ys ∧ Ext w wl, ⟨_, 0, 0, rfl, rfl, rfl, Nat.zero_le _, Nat.le_refl _, fun h => absurd rfl h, hr, hw⟩, ?_⟩
    rintro _ _ n wl ⟨k, m, rfl, rfl, rfl, hkl, hmk, hnn, hr, hw⟩
    refine brr (fun h => ?_) fun _ => ⟨rfl, hw⟩
    have h := of_decide_eq_true h
    refine ⟨fun a n wc => ∃ m : Nat, a = m ∧ m ≤ k + 1 ∧ (m ≠ 0 → nan (ys.getD k 0) = true) ∧ FRow w wc p15 l c15 ys ∧ Ext w wc, fun wd hd => ?_, ?_⟩
    · have hr : FRow w wd p15 l c15 ys := Row.ext hr hd.ext
      have hw := Ext.then hw hd.ext
      refine hr.at (by omega) (by omega) (hr.at (by omega) (by omega) ?_)
      rw [order_self]
      have ek0 : ((k : Int)).toNat = k := Int.toNat_natCast k
      refine brr (fun hn => by rw [ek0] at hn; exact ⟨inI64 (by omega) (by omega), 0, m + 1, by omega, by omega, fun _ => hn, hr, hw⟩) fun hn => brr (fun hm => ?_) fun hm => ⟨0, m, rfl, by omega, fun h => absurd (of_decide_eq_false hm) (by omega), hr, hw⟩
      have hm := of_decide_eq_true hm
      obtain ⟨k1, hnan⟩ := hnn (by omega)
      have e1 := (key_nan (wd_getD hy (k - 1))).2.1 hnan
      have e2 := nx (k - 1) (by omega)
      rw [show k - 1 + 1 = k by omega] at e2
      have e3 := key_nan (wd_getD hy k)
      have := e3.2.2 (by omega)
      rw [ek0, this] at hn; cases hn
    · clear hr hw wl hmk hnn m
      rintro _ n wc ⟨m, rfl, hm, hnn, hr, hw⟩
      refine ⟨fun _ wc => FRow w wc p15 l c15 ys ∧ Ext w wc, fun wd hd => ?_, ?_⟩
      · have hr : FRow w wd p15 l c15 ys := Row.ext hr hd.ext
        have hw := Ext.then hw hd.ext
        refine ⟨fun z => FRow w z p15 l c15 ys ∧ Ext w z, ⟨hr, hw⟩, brr (fun h0 => ?_) fun h0 => ⟨0, hr, hw⟩⟩
        have h0 := of_decide_eq_true h0
        have ek : ((k : Int) - 1).toNat = k - 1 := by omega
        have e2 := nx (k - 1) (by omega)
        rw [show k - 1 + 1 = k by omega] at e2
        have inn : InK .i64 ((k : Int) - 1) := inI64 (by omega) (by omega)
        refine hr.at (by omega) (by omega) ⟨inn, hr.at (by omega) (by omega) ?_⟩
        have ek0 : ((k : Int)).toNat = k := Int.toNat_natCast k
        refine brr (fun hc => ?_) fun hc => ⟨inn, hr.at (by omega) (by omega) (hr.at (by omega) (by omega) (compare_does (wd_getD hy _) (wd_getD hy _) ⟨_, rfl, ⟨hr, hw⟩, ?_⟩))⟩
        · have := lt_key (wd_getD hy _) (wd_getD hy _) hc
          rw [ek0, ek] at this
          omega
        · rw [fcmp_key (wd_getD hy _) (wd_getD hy _)]
          refine fls (decide_eq_false ?_) (FRow.atS (fun z hz => hz.1) ⟨hr, hw⟩ (by omega) (by omega) ⟨inn, FRow.atS (fun z hz => hz.1) ⟨hr, hw⟩ (by omega) (by omega) (compare_does (wd_getD hy _) (wd_getD hy _) ⟨_, rfl, ?_⟩)⟩)
          · rw [ek0, ek]
            unfold cmpK
            (repeat' split) <;> omega
          · rw [fcmp_key (wd_getD hy _) (wd_getD hy _)]
            refine fls (decide_eq_false ?_) ⟨0, hr, hw⟩
            rw [ek0, ek]
            unfold cmpK
            (repeat' split) <;> omega
      · rintro n wc ⟨hr, hw⟩
        intro wd hd
        have hr : FRow w wd p15 l c15 ys := Row.ext hr hd.ext
        have hw := Ext.then hw hd.ext
        have fin : ∀ z, FRow w z p15 l c15 ys → Ext w z → InK .i64 ((k : Int) + 1) ∧ ∃ ml, ml < l - k ∧ ∃ k' m' : Nat, (k : Int) + 1 = k' ∧ (m : Int) = m' ∧ ml = l - k' ∧ k' ≤ l ∧ m' ≤ k' ∧ (m' ≠ 0 → 1 ≤ k' ∧ nan (ys.getD (k' - 1) 0) = true) ∧ FRow w z p15 l c15 ys ∧ Ext w z := fun z hr hw =>
          ⟨inI64 (by omega) (by omega), l - (k + 1), by omega, k + 1, m, by omega, rfl, rfl, by omega, hm, fun h => ⟨by omega, by rw [Nat.add_sub_cancel]; exact hnn h⟩, hr, hw⟩
        refine brr (fun h0 => ?_) fun _ => fin _ hr hw
        have h0 := of_decide_eq_true h0
        have ek : ((k : Int) - 1).toNat = k - 1 := by omega
        have inn : InK .i64 ((k : Int) - 1) := inI64 (by omega) (by omega)
        refine hr.at (by omega) (by omega) ⟨inn, hr.at (by omega) (by omega) (brr (fun hc => hr.at (by omega) (by omega) (brr (fun hc0 => hr.at (by omega) (by omega) ⟨inn, hr.at (by omega) (by omega) (compare_does (wd_getD hy _) (wd_getD hy _) ⟨_, rfl, fls ?_ (fin _ hr hw)⟩)⟩) fun _ => fin _ hr hw)) fun _ => fin _ hr hw)⟩
        rw [same_cmp (wd_getD hy _) (wd_getD hy _) hc hc0]; rfl
end Go.Proofs.YtdcibnjlbkadbaaDoor
