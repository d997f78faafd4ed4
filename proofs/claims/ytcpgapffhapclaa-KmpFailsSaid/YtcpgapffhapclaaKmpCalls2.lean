/-
  Patterns in bytes: what each function of the code does, second part: finding.
-/
import Derived.Test.YtcpgapffhapclaaKmpCalls
namespace Go.Proofs.Ytcpgapffhapclaa
open Go.RowKit Go.Vc
section
variable {w : World} {ok ok' : Nat → Prop} {p q : Option Addr} {xs ps : List Int}
theorem stands_does (hx : Ints .u8 w ok p xs) (hp : Ints .u8 w ok' q ps) {l m : Nat} (hl : l = xs.length) (hm : m = ps.length) (c d : Nat) (hlc : l ≤ c) (h1 : xs.length ≤ 1000000000) (h2 : ps.length ≤ 1000000000) (at_ : Int) :
    Does Try.prog 26 #[.slice p l c, .slice q m d, .int .i64 at_] w fun e w' => ∃ s, e = .returned (.bool s) ∧ (s = true ↔ 0 ≤ at_ ∧ Occ ps xs at_.toNat) ∧ Ext w w' := by
  subst hl hm
  apply f26_does
  have no : (¬ (0 ≤ at_ ∧ Occ ps xs at_.toNat)) → ∃ s, Ending.returned (.bool false) = .returned (.bool s) ∧ (s = true ↔ 0 ≤ at_ ∧ Occ ps xs at_.toNat) ∧ Ext w w := fun h => ⟨false, rfl, by simp [h], Upd.refl _ _⟩
  refine ⟨fun j1 => ?_, fun j1 => no fun h => by have := of_decide_eq_false j1; omega⟩
  have j1 := of_decide_eq_true j1
  refine ⟨fun j2 => ?_, fun j2 => no fun h => by have := of_decide_eq_false j2; have := h.2.le; omega⟩
  have j2 := of_decide_eq_true j2
  refine ⟨fun j3 => ?_, fun j3 => no fun h => by have := of_decide_eq_false j3; have := h.2.le; omega⟩
  have j3 := of_decide_eq_true j3
  refine ⟨inI64 (by omega) (by omega), fun j4 => ?_, fun j4 => no fun h => by have := of_decide_eq_false j4; have := h.2.le; omega⟩
  have j4 := of_decide_eq_true j4
  rw [show (at_ + (ps.length : Int)).toNat = at_.toNat + ps.length by omega]
  refine ⟨inI64 (by omega) (by omega), ⟨by omega, by omega⟩, ⟨by omega, by omega⟩, (same_does (hx.sub at_.toNat (at_.toNat + ps.length) c (by omega)) hp (by simp; omega) rfl _ _ (by simp; omega)).imp ?_⟩
  rintro e w' ⟨rfl, hw⟩
  refine ⟨_, rfl, _, rfl, ?_, hw⟩
  have hne : ps ≠ [] := List.length_pos_iff.1 (by omega)
  rw [decide_eq_true_eq, List.drop_take, Nat.add_sub_cancel_left]
  exact ⟨fun h => ⟨j1, hne, h⟩, fun h => h.2.2⟩
theorem rends_does (hx : Ints .u8 w ok p xs) (hp : Ints .u8 w ok' q ps) {l m : Nat} (hl : l = xs.length) (hm : m = ps.length) (c d : Nat) (hlc : l ≤ c) (h1 : xs.length ≤ 1000000000) (h2 : ps.length ≤ 1000000000) (behind : Nat) {bh : Int} (hbh : bh = behind) :
    Does Try.prog 18 #[.slice p l c, .slice q m d, .int .i64 bh] w fun e w' => ∃ p' l' c', e = .returned (.slice p' l' c') ∧ Row w' (fun k => w.heap.size ≤ k) 1 p' l' c' ((endsE ps xs behind xs.length).map (Value.int .i64)) ∧ Ext w w' := by
  subst hl hm hbh
  apply f18_does
  have lenE : ∀ n, (endsE ps xs behind n).length ≤ n := fun n => by
    unfold endsE occN
    rw [List.length_map]
    refine Nat.le_trans (List.length_filter_le _ _) (Nat.le_trans (List.length_filter_le _ _) ?_)
    simp
  refine ⟨fun q m d i n wl => ∃ k : Nat, i = k ∧ n = xs.length + 1 - k ∧ k ≤ xs.length + 1 ∧ Row wl (fun k => w.heap.size ≤ k) 1 q m d ((endsE ps xs behind k).map (Value.int .i64)) ∧ Ext w wl, ⟨_, 0, rfl, rfl, Nat.zero_le _, Row.nil _ _ _, Upd.refl _ _⟩, ?_⟩
  rintro q' m' d' _ n wl ⟨k, rfl, rfl, hk, hr, hw⟩
  have hm' := hr.1
  simp only [List.length_map, Nat.mul_one] at hm'
  have := lenE k
  refine ⟨inI64 (by omega) (by omega), fun j => ?_, fun j => ?_⟩
  · have j := of_decide_eq_true j
    have nx : ∀ {b : Bool}, (b = true ↔ 0 ≤ (k : Int) ∧ Occ ps xs (k : Int).toNat) → (b = true ↔ Occ ps xs k) := fun h => by rw [h]; simp
    refine ⟨inI64 (by omega) (by omega), fun j2 => ?_, fun j2 => ?_⟩
    · have j2 := of_decide_eq_true j2
      refine (stands_does (hx.ext hw) (hp.ext hw) rfl rfl c d hlc h1 h2 k).imp ?_
      rintro e w28 ⟨s, rfl, hs, hw2⟩
      have hs := nx hs
      refine ⟨_, rfl, fun h => ⟨inI64 (by omega) (by omega), fun b35 w35 hn => ?_⟩, fun h => ?_⟩
      · have hw3 := Ext.thn (Ext.thn hw hw2) hn.ext
        obtain ⟨p', c', w34, hrun, hr', hu, _⟩ := Row.append slI 25 ((hr.ext hw2).ext hn.ext) (Src.kit (P := Try.prog) hn.src Try.underlying25 (n := 1) 1 rfl (by decide) (by simp [Value.oneCell'])) (by simp only [maxLen]; omega) (by omega)
        refine ⟨_, _, _, w34, hrun, inI64 (by omega) (by omega), _, ?_, k + 1, by omega, rfl, by omega, ?_, Upd.then hw3 hu fun i hi ⟨_, _, a, ha, e⟩ => by have := (hr.lt ha).1; omega⟩
        · omega
        · rw [endsE_succ, if_pos ⟨hs.1 h, by omega⟩, List.map_append]
          exact hr'.ok fun g _ hg => by
            rcases hg with hg | rfl
            · exact hg
            · exact hw3.size
      · refine ⟨inI64 (by omega) (by omega), _, ?_, k + 1, by omega, rfl, by omega, ?_, Ext.thn hw hw2⟩
        · omega
        · rw [endsE_succ, if_neg (fun x => by rw [hs.2 x.1] at h; cases h), List.append_nil]
          exact hr.ext hw2
    · have j2 := of_decide_eq_false j2
      refine ⟨inI64 (by omega) (by omega), _, ?_, k + 1, by omega, rfl, by omega, ?_, hw⟩
      · omega
      · rw [endsE_succ, if_neg (fun x => by have := x.2; omega), List.append_nil]
        exact hr
  · have j := of_decide_eq_false j
    refine ⟨q', m', d', rfl, ?_, hw⟩
    have : endsE ps xs behind xs.length = endsE ps xs behind k := by
      by_cases hkl : k ≤ xs.length
      · exact endsE_le hkl fun a h3 h4 h5 => by have := h5.le; omega
      · exact (endsE_le (by omega) fun a h3 h4 h5 => by have := h5.le; omega).symm
    rw [this]
    exact hr
theorem rfirst_does (hx : Ints .u8 w ok p xs) (hp : Ints .u8 w ok' q ps) {l m : Nat} (hl : l = xs.length) (hm : m = ps.length) (c d : Nat) (hlc : l ≤ c) (h1 : xs.length ≤ 1000000000) (h2 : ps.length ≤ 1000000000) (from_ : Int) :
    Does Try.prog 13 #[.slice p l c, .slice q m d, .int .i64 from_] w fun e w' => e = .returned (.int .i64 (firstE ps xs from_)) ∧ Ext w w' := by
  subst hl hm
  apply f13_does
  refine ⟨fun i n wl => 0 ≤ i ∧ from_ ≤ i ∧ n = ((xs.length : Int) + 1 - i).toNat ∧ (∀ a : Nat, (a : Int) < i → from_ ≤ (a : Int) → ¬ Occ ps xs a) ∧ Ext w wl, ⟨_, by split <;> omega, by split <;> omega, rfl, fun a ha hf => by split at ha <;> omega, Upd.refl _ _⟩, ?_⟩
  rintro i n wl ⟨h3, h4, rfl, hall, hw⟩
  refine ⟨inI64 (by omega) (by omega), fun j => ?_, fun j => ?_⟩
  · have j := of_decide_eq_true j
    refine (stands_does (hx.ext hw) (hp.ext hw) rfl rfl c d hlc h1 h2 i).imp ?_
    rintro e w22 ⟨s, rfl, hs, hw2⟩
    refine ⟨_, rfl, fun h => ?_, fun h => ?_⟩
    · have := (hs.1 h).2
      refine ⟨?_, Ext.thn hw hw2⟩
      rw [firstE_some this (by omega) fun a ha hf => hall a (by omega) hf, Int.toNat_of_nonneg h3]
    · refine ⟨inI64 (by omega) (by omega), _, ?_, by omega, by omega, rfl, fun a ha hf => ?_, Ext.thn hw hw2⟩
      · omega
      · by_cases he : (a : Int) = i
        · intro ho
          have : s = true := hs.2 ⟨h3, by rw [← he]; simpa using ho⟩
          rw [this] at h; cases h
        · exact hall a (by omega) hf
  · have j := of_decide_eq_false j
    refine ⟨?_, hw⟩
    rw [firstE_none fun a hf ho => ?_]
    by_cases ha : (a : Int) < i
    · exact hall a ha hf ho
    · have := ho.le; omega
theorem rlast_does (hx : Ints .u8 w ok p xs) (hp : Ints .u8 w ok' q ps) {l m : Nat} (hl : l = xs.length) (hm : m = ps.length) (c d : Nat) (hlc : l ≤ c) (h1 : xs.length ≤ 1000000000) (h2 : ps.length ≤ 1000000000) (before : Int) (hb : InK .i64 before) :
    Does Try.prog 15 #[.slice p l c, .slice q m d, .int .i64 before] w fun e w' => e = .returned (.int .i64 (lastE ps xs before)) ∧ Ext w w' := by
  subst hl hm
  apply f15_does
  have hb : -9223372036854775808 ≤ before ∧ before ≤ 9223372036854775807 := hb
  refine ⟨inI64 (by omega) (by omega), fun i n wl => i ≤ xs.length ∧ i ≤ (xs.length : Int) - ps.length ∧ (0 < before → i ≤ before - 1) ∧ n = (i + 1).toNat ∧ (0 < before → ∀ a : Nat, i < (a : Int) → (a : Int) < before → ¬ Occ ps xs a) ∧ Ext w wl, ⟨_, ?_, ?_, ?_, rfl, ?_, Upd.refl _ _⟩, ?_⟩
  · split <;> omega
  · split <;> omega
  · intro h
    have hwr : IntKind.wrap .i64 (before - 1) = before - 1 := wrap_in (inI64 (by omega) (by omega))
    rw [hwr]
    split <;> omega
  · intro h a ha hab ho
    have hwr : IntKind.wrap .i64 (before - 1) = before - 1 := wrap_in (inI64 (by omega) (by omega))
    rw [hwr] at ha
    have := ho.le
    split at ha <;> omega
  rintro i n wl ⟨h3, h4, h5, rfl, hall, hw⟩
  refine ⟨fun j => ?_, fun j => ?_⟩
  · have j := of_decide_eq_true j
    refine ⟨fun j2 => ?_, fun j2 => ?_⟩
    · have j2 := of_decide_eq_true j2
      refine (stands_does (hx.ext hw) (hp.ext hw) rfl rfl c d hlc h1 h2 i).imp ?_
      rintro e w22 ⟨s, rfl, hs, hw2⟩
      refine ⟨_, rfl, fun h => ?_, fun h => ?_⟩
      · have := (hs.1 h).2
        refine ⟨?_, Ext.thn hw hw2⟩
        rw [lastE_some this (by omega) fun a ha hf => hall j2 a (by omega) hf, Int.toNat_of_nonneg j]
      · refine ⟨inI64 (by omega) (by omega), _, ?_, by omega, by omega, by omega, rfl, fun _ a ha hf => ?_, Ext.thn hw hw2⟩
        · omega
        · by_cases he : (a : Int) = i
          · intro ho
            have : s = true := hs.2 ⟨j, by rw [← he]; simpa using ho⟩
            rw [this] at h; cases h
          · exact hall j2 a (by omega) hf
    · have j2 := of_decide_eq_false j2
      exact ⟨by rw [lastE_none fun a ha => by omega], hw⟩
  · have j := of_decide_eq_false j
    refine ⟨?_, hw⟩
    rw [lastE_none fun a hf ho => ?_]
    exact hall (by omega) a (by omega) hf ho
/-- kmp.each: tells the places, rising, till it is told to end. -/
theorem each_does {T : Nat → Prop} (hx : Ints .u8 w ok p xs) (hp : Ints .u8 w ok' q ps) (hT : ∀ k, ok k → ¬ T k) (hT' : ∀ k, ok' k → ¬ T k) (hTl : ∀ k, T k → k < w.heap.size) {l m : Nat} (hl : l = xs.length) (hm : m = ps.length) (c d : Nat) (hmd : m ≤ d) (h1 : xs.length ≤ 1000000000) (h2 : ps.length ≤ 1000000000)
    (g : FuncId) (fs cs : Array Value) (Inv : List Nat → World → Prop) (Fin : List Nat → Nat → World → Prop) (hst : ∀ ys v v', Ext v v' → Inv ys v → Inv ys v') (h0 : Inv [] w)
    (hy : ∀ ys (a : Nat) v, Upd T w v → Inv ys v → Does Try.prog g (fs ++ #[.int .i64 a] ++ cs) v fun e v' => ∃ b, e = .returned (.bool b) ∧ Upd T v v' ∧ (b = true → Inv (ys ++ [a]) v') ∧ (b = false → Fin ys a v')) :
    Does Try.prog 24 #[.slice p l c, .slice q m d, .func (.func g) fs cs] w fun e w' => e = .returned (.tuple #[]) ∧ Upd T w w' ∧ (Inv (occs ps xs) w' ∨ ∃ ys a r, occs ps xs = ys ++ a :: r ∧ Fin ys a w') := by
  subst hl hm
  apply f24_does
  refine ⟨fun h => ?_, fun h => ?_⟩
  · have h : ps.length = 0 := by simpa using h
    have hz : ps = [] := List.eq_nil_of_length_eq_zero h
    have : occs ps xs = [] := by rw [hz]; unfold occs occN; rw [List.filter_eq_nil_iff]; intro a _; simp [Occ]
    exact ⟨rfl, Upd.refl _ _, .inl (by rw [this]; exact h0)⟩
  have hpos : ps.length ≠ 0 := by simpa using h
  have hne : ps ≠ [] := List.length_pos_iff.1 (by omega)
  refine (fail_does hp rfl d hmd h2).imp ?_
  rintro e w14 ⟨p14, l14, c14, fl, rfl, r14, hfok, hfl, x14⟩
  have hInK : ∀ x ∈ fl, InK .i64 x := fun x hx => by
    obtain ⟨i, hi, rfl⟩ := List.getElem_of_mem hx
    obtain ⟨z, hz, hzb⟩ := hfok i hi
    rw [List.getElem?_eq_getElem hi] at hz
    injection hz with hz
    have := hzb.1
    rw [hz]; exact inI64 (by omega) (by omega)
  obtain ⟨hl14, i14⟩ := r14.ints hInK
  refine ⟨_, _, _, rfl, fun x i n wl => ∃ (k j : Nat), x = k ∧ i = j ∧ n = xs.length - j ∧ j ≤ xs.length ∧ Best ps (xs.take j) j k ∧ Inv (occN ps xs (j + 1 - ps.length)) wl ∧ Upd T w14 wl,
    ⟨_, 0, 0, rfl, rfl, rfl, Nat.zero_le _, ⟨Nat.le_refl _, suf_zero _ _, fun j hj _ => hj⟩, by rw [show 0 + 1 - ps.length = 0 by omega]; exact hst _ _ _ x14 h0, Upd.refl _ _⟩, ?_⟩
  rintro _ _ n wl ⟨k, j, rfl, rfl, rfl, hj, hb, hinv, hu⟩
  have huw : Upd T w wl := Upd.then (x14.mono fun _ _ x => x.elim) hu fun _ _ h => h
  refine ⟨fun jj => ?_, fun jj => ?_⟩
  · have jj := of_decide_eq_true jj
    have hlt : j < xs.length := by omega
    obtain ⟨b, o, hpp, hcc⟩ := (hx.upd huw hT).at j hlt
    refine ⟨⟨by omega, by omega⟩, b, o, hpp, _, hcc, (on_does (hp.upd huw hT') (i14.upd hu fun z hz h => by have := hTl z h; omega) hfok rfl (by omega) d c14 hb (by have := hb.2.1.1; omega) h2 _).imp ?_⟩
    rintro e w26 ⟨r, rfl, hbr, rfl⟩
    have htk : xs.take (j + 1) = xs.take j ++ [xs[j]] := List.take_succ_eq_append_getElem hlt
    rw [← htk] at hbr
    have hiff : r = ps.length ↔ ps.length ≤ j + 1 ∧ Occ ps xs (j + 1 - ps.length) := by
      rw [← suf_occ hne (by omega : j + 1 ≤ xs.length)]
      constructor
      · intro h; rw [← h]; exact h ▸ hbr.2.1
      · intro h
        have h5 := hbr.2.2 ps.length (by have := h.2.1; rw [List.length_take] at this; omega) h
        have h6 := hbr.2.1.1
        omega
    refine ⟨_, rfl, fun h => ?_, fun h => ?_⟩
    · have h : (r : Int) = ps.length := by simpa using h
      have h : r = ps.length := by omega
      obtain ⟨h5, h6⟩ := hiff.1 h
      have ea : ((j : Int) + 1 - (ps.length : Int)) = ((j + 1 - ps.length : Nat) : Int) := by omega
      rw [ea]
      refine ⟨inI64 (by omega) (by omega), inI64 (by omega) (by omega), (hy _ _ _ huw hinv).imp ?_⟩
      rintro e w38 ⟨b, rfl, hu2, hT1, hF1⟩
      refine ⟨b, rfl, fun hb' => ?_, fun hb' => ?_⟩
      · obtain ⟨r', e1, _⟩ := occs_at h6
        exact ⟨rfl, huw.trans hu2, .inr ⟨_, _, r', e1, hF1 (by simpa using hb')⟩⟩
      · refine ⟨inI64 (by omega) (by omega), _, ?_, r, j + 1, rfl, by omega, rfl, hlt, hbr, ?_, hu.trans hu2⟩
        · omega
        · have := hT1 (by simpa using hb')
          rw [show j + 1 + 1 - ps.length = (j + 1 - ps.length) + 1 by omega, occN_succ, if_pos h6]
          exact this
    · have h : ¬ (r : Int) = ps.length := by simpa using h
      have h : r ≠ ps.length := by omega
      refine ⟨inI64 (by omega) (by omega), _, ?_, r, j + 1, rfl, by omega, rfl, hlt, hbr, ?_, hu⟩
      · omega
      · by_cases h5 : ps.length ≤ j + 1
        · rw [show j + 1 + 1 - ps.length = (j + 1 - ps.length) + 1 by omega, occN_succ, if_neg (fun x => h (hiff.2 ⟨h5, x⟩)), List.append_nil]
          exact hinv
        · rw [show j + 1 + 1 - ps.length = j + 1 - ps.length by omega]
          exact hinv
  · have jj := of_decide_eq_false jj
    obtain rfl : j = xs.length := by omega
    have : occs ps xs = occN ps xs (xs.length + 1 - ps.length) := by
      exact occN_le (by omega) fun a h3 h4 h5 => by have := h5.le; omega
    exact ⟨rfl, huw, .inl (by rw [this]; exact hinv)⟩
end
end Go.Proofs.Ytcpgapffhapclaa
