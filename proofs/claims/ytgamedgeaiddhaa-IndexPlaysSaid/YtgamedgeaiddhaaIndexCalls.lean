/-
  Where lines begin: what each function of the code does.
-/
import Derived.Test.YtgamedgeaiddhaaV
import Derived.Test.YtgamedgeaiddhaaRowW
import Derived.Test.YtgamedgeaiddhaaIndexPure
namespace Go.Proofs.Ytgamedgeaiddhaa
open Go.RowKit Go.Vc
theorem slI : SlT Try.prog 42 3 1 8 := ⟨Try.underlying42, _, _, rfl, rfl, rfl, rfl, rfl, by decide⟩
theorem lines_does {w : World} {ok : Nat → Prop} {p : Option Addr} {xs : List Int} (hx : Ints .u8 w ok p xs) {l : Nat} (hl : l = xs.length) (c : Nat) (hs : xs.length ≤ 1000000000) :
    Does Try.prog 14 #[.slice p l c] w fun e w' => e = .returned (.int .i64 (linesF xs)) ∧ w' = w := by
  subst hl
  apply f14_does
  refine ⟨fun a i n wl => ∃ k : Nat, i = k ∧ n = xs.length - k ∧ k ≤ xs.length ∧ a = linesF (xs.take k) ∧ wl = w, ⟨_, 0, rfl, rfl, Nat.zero_le _, rfl, rfl⟩, ?_⟩
  rintro a _ n wl ⟨k, rfl, rfl, hk, rfl, rfl⟩
  have hll := endsF_le 0 (xs.take k)
  rw [List.length_take] at hll
  refine ⟨fun h => ?_, fun h => ?_⟩
  · have h := of_decide_eq_true h
    have hlt : k < xs.length := by omega
    obtain ⟨b, o, hp, hc⟩ := hx.at k hlt
    refine ⟨⟨by omega, by omega⟩, b, o, hp, _, hc, fun h1 => ?_, fun h1 => ?_⟩
    · refine ⟨inI64 (by omega) (by unfold linesF; omega), inI64 (by omega) (by omega), xs.length - (k + 1), by omega, k + 1, by omega, rfl, hlt, ?_, rfl⟩
      rw [List.take_succ_eq_append_getElem hlt, linesF_snoc, if_pos (by simpa using h1)]
      simp
    · refine ⟨inI64 (by omega) (by omega), xs.length - (k + 1), by omega, k + 1, by omega, rfl, hlt, ?_, rfl⟩
      rw [List.take_succ_eq_append_getElem hlt, linesF_snoc, if_neg (by simpa using h1)]
      simp
  · have h := of_decide_eq_false h
    obtain rfl : k = xs.length := by omega
    exact ⟨by rw [List.take_length], rfl⟩
theorem ends_does {w : World} {ok : Nat → Prop} {p : Option Addr} {xs : List Int} (hx : Ints .u8 w ok p xs) {l : Nat} (hl : l = xs.length) (c : Nat) (at_ : Int) (h0 : 0 ≤ at_) (h1 : at_ ≤ 1000000000) (hs : xs.length ≤ 1000000000) :
    Does Try.prog 20 #[.slice p l c, .int .i64 at_] w fun e w' => ∃ p' l' c', e = .returned (.slice p' l' c') ∧ Row w' (fun k => w.heap.size ≤ k) 1 p' l' c' ((endsF at_ xs).map (Value.int .i64)) ∧ Ext w w' := by
  subst hl
  apply f20_does
  refine ⟨fun p l c i n wl => ∃ k : Nat, i = k ∧ n = xs.length - k ∧ k ≤ xs.length ∧ Row wl (fun k => w.heap.size ≤ k) 1 p l c ((endsF at_ (xs.take k)).map (Value.int .i64)) ∧ Ext w wl, ⟨_, 0, rfl, rfl, Nat.zero_le _, Row.nil _ _ _, Upd.refl _ _⟩, ?_⟩
  rintro p5 l5 c5 _ n wl ⟨k, rfl, rfl, hk, hr, hw⟩
  have hll := endsF_le at_ (xs.take k)
  rw [List.length_take] at hll
  have hl5 := hr.1
  simp only [List.length_map, Nat.mul_one] at hl5
  refine ⟨fun h => ?_, fun h => ?_⟩
  · have h := of_decide_eq_true h
    have hlt : k < xs.length := by omega
    obtain ⟨b, o, hp, hc⟩ := (hx.ext hw).at k hlt
    refine ⟨⟨by omega, by omega⟩, b, o, hp, _, hc, fun h1 => ?_, fun h1 => ?_⟩
    · refine ⟨inI64 (by omega) (by omega), inI64 (by omega) (by omega), fun b22 w22 hn => ?_⟩
      obtain ⟨p', c', w', hrun, hr', hu, _⟩ := Row.append slI 42 (hr.ext hn.ext) (Src.kit (P := Try.prog) hn.src Try.underlying42 (n := 1) 1 rfl (by decide) (by simp [Value.oneCell'])) (by simp only [maxLen]; omega) (by omega)
      refine ⟨_, _, _, w', hrun, inI64 (by omega) (by omega), xs.length - (k + 1), by omega, k + 1, by omega, rfl, hlt, ?_, ?_⟩
      · rw [List.take_succ_eq_append_getElem hlt, endsF_snoc, if_pos (by simpa using h1), List.map_append, List.length_take, Nat.min_eq_left (by omega)]
        refine hr'.ok fun g _ hg => ?_
        rcases hg with hg | rfl
        · exact hg
        · have := hw.size; have := hn.size; omega
      · refine Upd.then (Ext.then hw hn.ext) hu fun i hi ⟨_, _, a, ha, e⟩ => ?_
        have := (hr.lt ha).1; omega
    · refine ⟨inI64 (by omega) (by omega), xs.length - (k + 1), by omega, k + 1, by omega, rfl, hlt, ?_, hw⟩
      rw [List.take_succ_eq_append_getElem hlt, endsF_snoc, if_neg (by simpa using h1), List.append_nil]
      exact hr
  · have h := of_decide_eq_false h
    obtain rfl : k = xs.length := by omega
    exact ⟨p5, l5, c5, rfl, by simpa using hr, hw⟩
/-- How many of rising numbers are at most a number. -/
theorem upto_does {w : World} {ok : Nat → Prop} {p : Option Addr} {us vs : List Int} (hx : Ints .i64 w ok p (us ++ vs)) {l : Nat} (hl : l = us.length + vs.length) (c : Nat) (most : Int) (ha : ∀ x ∈ us, x ≤ most) (hb : ∀ x ∈ vs, most < x)
    (hs : us.length + vs.length ≤ 1000000000) : Does Try.prog 21 #[.slice p l c, .int .i64 most] w fun e w' => e = .returned (.int .i64 us.length) ∧ w' = w := by
  subst hl
  apply f21_does
  refine ⟨fun f t n wl => ∃ i j : Nat, f = i ∧ t = j ∧ n = j - i ∧ i ≤ us.length ∧ us.length ≤ j ∧ j ≤ us.length + vs.length ∧ wl = w, ⟨_, 0, us.length + vs.length, rfl, by simp, rfl, Nat.zero_le _, by omega, by omega, rfl⟩, ?_⟩
  rintro _ _ n wl ⟨i, j, rfl, rfl, rfl, hi, hj, hj2, rfl⟩
  refine ⟨fun h => ?_, fun h => ?_⟩
  · have h := of_decide_eq_true h
    have em : ((i : Int) + (j : Int)).tdiv 2 = ((i + j) / 2 : Nat) := by
      rw [Int.tdiv_eq_ediv_of_nonneg (by omega)]; omega
    rw [em]
    have hm1 : i ≤ (i + j) / 2 := by omega
    have hm2 : (i + j) / 2 < j := by omega
    generalize (i + j) / 2 = m at hm1 hm2 ⊢
    obtain ⟨b, o, hp, hc⟩ := hx.at m (by simp; omega)
    refine ⟨inI64 (by omega) (by omega), by decide, inI64 (by omega) (by omega), ⟨by omega, by omega⟩, b, o, hp, _, hc, fun h1 => ?_, fun h1 => ?_⟩
    · have h1 := of_decide_eq_true h1
      refine ⟨inI64 (by omega) (by omega), j - (m + 1), by omega, m + 1, j, by omega, rfl, rfl, ?_, hj, hj2, rfl⟩
      by_cases hlt : m < us.length
      · exact hlt
      · rw [List.getElem_append_right (by omega)] at h1
        have := hb _ (List.getElem_mem (by omega : m - us.length < vs.length))
        omega
    · have h1 := of_decide_eq_false h1
      refine ⟨m - i, by omega, i, m, rfl, rfl, rfl, hi, ?_, by omega, rfl⟩
      by_cases hlt : m < us.length
      · rw [List.getElem_append_left hlt] at h1
        have := ha _ (List.getElem_mem hlt)
        omega
      · omega
  · have h := of_decide_eq_false h
    exact ⟨by rw [show i = us.length by omega], rfl⟩
/-- An index that has seen bytes; it lies in blocks of O. -/
def Idx (w : World) (O : Nat → Prop) (g : Nat) (c : List Int) : Prop :=
  O g ∧ c.length ≤ 1000000000 ∧ CanStore w g 0 ∧ CanStore w g 1 ∧ w.cell? ⟨g, 0, none⟩ = some (.int .i64 c.length) ∧
    ∃ p l cp, w.cell? ⟨g, 1, none⟩ = some (.slice p l cp) ∧ Row w (fun k => O k ∧ k ≠ g) 1 p l cp ((endsF 0 c).map (Value.int .i64))
theorem Idx.upd {w w' : World} {O T : Nat → Prop} {g : Nat} {c : List Int} (h : Idx w O g c) (hu : Upd T w w') (ht : ∀ k, O k → ¬ T k) : Idx w' O g c := by
  obtain ⟨h1, h2, h3, h4, h5, p, l, cp, h6, h7⟩ := h
  exact ⟨h1, h2, hu.can (ht g h1) h3, hu.can (ht g h1) h4, hu.cell (ht g h1) h5, p, l, cp, hu.cell (ht g h1) h6, h7.upd hu fun a ha => ht _ (h7.lt ha).1.1⟩
theorem Idx.ext {w w' : World} {O : Nat → Prop} {g : Nat} {c : List Int} (h : Idx w O g c) (hu : Ext w w') : Idx w' O g c := h.upd hu fun _ _ => id
theorem Idx.mono {w : World} {O O' : Nat → Prop} {g : Nat} {c : List Int} (h : Idx w O g c) (hO : ∀ k, k < w.heap.size → O k → O' k) : Idx w O' g c := by
  obtain ⟨h1, h2, h3, h4, h5, p, l, cp, h6, h7⟩ := h
  exact ⟨hO _ h3.lt h1, h2, h3, h4, h5, p, l, cp, h6, h7.ok fun k hk ⟨a, b⟩ => ⟨hO k hk a, b⟩⟩
theorem ends_inK {c : List Int} (h : c.length ≤ 1000000000) : ∀ x ∈ endsF 0 c, InK .i64 x := fun x hx => by
  have := endsF_bounds hx
  exact inI64 (by omega) (by omega)
theorem new_does {w : World} : Does Try.prog 8 #[] w fun e w' => ∃ g, e = .returned (.pointer (some ⟨g, 0, none⟩)) ∧ g = w.heap.size ∧ w'.heap.size = g + 1 ∧ (∀ O : Nat → Prop, O g → Idx w' O g []) ∧ Ext w w' := by
  apply f8_does
  intro b w2 hn
  exact ⟨b, rfl, hn.eq, by rw [hn.size, hn.eq], fun O hO => ⟨hO, by simp, hn.can 0 (by simp), hn.can 1 (by simp), hn.cell 0 rfl, _, _, _, hn.cell 1 rfl, Row.nil _ _ _⟩, hn.ext⟩
theorem seen_does {w : World} {O : Nat → Prop} {g : Nat} {c : List Int} (h : Idx w O g c) : Does Try.prog 12 #[.pointer (some ⟨g, 0, none⟩)] w fun e w' => e = .returned (.int .i64 c.length) ∧ w' = w := by
  apply f12_does
  obtain ⟨h1, h2, h3, h4, h5, p, l, cp, h6, h7⟩ := h
  exact fls rfl ⟨g, 0, rfl, _, h5, rfl, rfl⟩
theorem known_does {w : World} {O : Nat → Prop} {g : Nat} {c : List Int} (h : Idx w O g c) : Does Try.prog 13 #[.pointer (some ⟨g, 0, none⟩)] w fun e w' => e = .returned (.int .i64 (linesF c)) ∧ w' = w := by
  apply f13_does
  obtain ⟨h1, h2, h3, h4, h5, p, l, cp, h6, h7⟩ := h
  obtain ⟨hl, hi⟩ := h7.ints (ends_inK h2)
  exact fls rfl ⟨g, 0, rfl, _, _, _, h6, by rw [hl]; rfl, rfl⟩
theorem begin_does {w : World} {O : Nat → Prop} {g : Nat} {c : List Int} (h : Idx w O g c) (k : Int) : Does Try.prog 10 #[.pointer (some ⟨g, 0, none⟩), .int .i64 k] w fun e w' => e = .returned (.tuple #[.int .i64 (beginE c k).1, .bool (beginE c k).2]) ∧ w' = w := by
  apply f10_does
  obtain ⟨h1, h2, h3, h4, h5, p, l, cp, h6, h7⟩ := h
  obtain ⟨hl, hi⟩ := h7.ints (ends_inK h2)
  subst hl
  refine fls rfl ⟨fun j => ?_, fun j => ?_⟩
  · have j := of_decide_eq_true j
    exact ⟨by rw [beginE, if_pos (.inl j)], rfl⟩
  have j := of_decide_eq_false j
  refine ⟨g, 0, rfl, _, _, _, h6, fun j2 => ?_, fun j2 => ?_⟩
  · have j2 := of_decide_eq_true j2
    exact ⟨by rw [beginE, if_pos (.inr j2)], rfl⟩
  have j2 := of_decide_eq_false j2
  refine ⟨fun j3 => ?_, fun j3 => ?_⟩
  · have j3 : k = 0 := by simpa using j3
    exact ⟨by rw [beginE, if_neg (by omega), if_pos j3], rfl⟩
  · have j3 : k ≠ 0 := by simpa using j3
    obtain ⟨b, o, hp, hc⟩ := hi.at (k - 1).toNat (by omega)
    refine ⟨g, 0, rfl, _, _, _, h6, inI64 (by omega) (by have := endsF_le 0 c; omega), ⟨by omega, by omega⟩, b, o, hp, _, hc, ?_, rfl⟩
    have hg : (endsF 0 c).getD (k.toNat - 1) 0 = (endsF 0 c)[(k - 1).toNat]'(by omega) := by
      rw [List.getD_eq_getElem?_getD, ← show (k - 1).toNat = k.toNat - 1 by omega, List.getElem?_eq_getElem (by omega)]; rfl
    rw [beginE, if_neg (by omega), if_neg j3, hg]
theorem ends_parts {c : List Int} {n : Nat} (h : n ≤ c.length) : (∀ x ∈ endsF 0 (c.take n), x ≤ (n : Int)) ∧ ∀ x ∈ endsF n (c.drop n), (n : Int) < x := by
  refine ⟨fun x hx => ?_, fun x hx => ?_⟩
  · have := endsF_bounds hx
    simp at this; omega
  · exact (endsF_bounds hx).1
theorem line_does {w : World} {O : Nat → Prop} {g : Nat} {c : List Int} (h : Idx w O g c) (at_ : Int) : Does Try.prog 11 #[.pointer (some ⟨g, 0, none⟩), .int .i64 at_] w fun e w' => e = .returned (.tuple #[.int .i64 (lineE c at_).1, .bool (lineE c at_).2]) ∧ w' = w := by
  apply f11_does
  obtain ⟨h1, h2, h3, h4, h5, p, l, cp, h6, h7⟩ := h
  refine fls rfl ⟨fun j => ?_, fun j => ?_⟩
  · have j := of_decide_eq_true j
    exact ⟨by rw [lineE, if_pos (.inl j)], rfl⟩
  have j := of_decide_eq_false j
  refine ⟨g, 0, rfl, _, h5, fun j2 => ?_, fun j2 => ?_⟩
  · have j2 := of_decide_eq_true j2
    exact ⟨by rw [lineE, if_pos (.inr j2)], rfl⟩
  have j2 := of_decide_eq_false j2
  obtain ⟨hl, hi⟩ := h7.ints (ends_inK h2)
  have hle := endsF_le 0 c
  have hsp := endsF_split c at_.toNat (by omega)
  rw [hsp] at hi hl hle
  rw [List.length_append] at hl hle
  obtain ⟨q1, q2⟩ := ends_parts (c := c) (n := at_.toNat) (by omega)
  refine ⟨g, 0, rfl, _, _, _, h6, (upto_does hi hl cp at_ (fun x hx => by have := q1 x hx; omega) (fun x hx => by have := q2 x hx; omega) (by omega)).imp ?_⟩
  rintro e w' ⟨rfl, rfl⟩
  exact ⟨_, rfl, by rw [lineE, if_neg (by omega)]; rfl, rfl⟩
theorem rbegin_does {w : World} {ok : Nat → Prop} {p : Option Addr} {xs : List Int} (hx : Ints .u8 w ok p xs) {l : Nat} (hl : l = xs.length) (c : Nat) (k : Int) (hs : xs.length ≤ 1000000000) :
    Does Try.prog 22 #[.slice p l c, .int .i64 k] w fun e w' => e = .returned (.tuple #[.int .i64 (beginE xs k).1, .bool (beginE xs k).2]) ∧ w' = w := by
  subst hl
  apply f22_does
  refine ⟨fun h => ?_, fun h => ?_⟩
  · have h : k = 0 := by simpa using h
    exact ⟨by rw [beginE, if_neg (by omega), if_pos h], rfl⟩
  have hk0 : k ≠ 0 := by simpa using h
  refine ⟨fun a i n wl => ∃ j : Nat, i = j ∧ n = xs.length - j ∧ j ≤ xs.length ∧ a = linesF (xs.take j) ∧ (k < 0 ∨ a < k) ∧ wl = w, ⟨_, 0, rfl, rfl, Nat.zero_le _, rfl, by omega, rfl⟩, ?_⟩
  rintro a _ n wl ⟨j, rfl, rfl, hj, rfl, hlt', rfl⟩
  have hll := endsF_le 0 (xs.take j)
  rw [List.length_take] at hll
  refine ⟨fun h => ?_, fun h => ?_⟩
  · have h := of_decide_eq_true h
    have hlt : j < xs.length := by omega
    obtain ⟨b, o, hp, hc⟩ := hx.at j hlt
    refine ⟨⟨by omega, by omega⟩, b, o, hp, _, hc, fun h1 => ?_, fun h1 => ?_⟩
    · have h1 : xs[j] = 10 := by simpa using h1
      have hsn : linesF (xs.take (j + 1)) = linesF (xs.take j) + 1 := by rw [List.take_succ_eq_append_getElem hlt, linesF_snoc, if_pos h1]
      refine ⟨inI64 (by omega) (by unfold linesF; omega), fun h2 => ?_, fun h2 => ?_⟩
      · have h2 : (linesF (xs.take j) : Int) + 1 = k := by simpa using h2
        refine ⟨inI64 (by omega) (by omega), ?_, rfl⟩
        have hsp := endsF_split xs (j + 1) hlt
        have htake : endsF 0 (xs.take (j + 1)) = endsF 0 (xs.take j) ++ [(j : Int) + 1] := by
          rw [List.take_succ_eq_append_getElem hlt, endsF_snoc, if_pos h1, List.length_take, Nat.min_eq_left (by omega), Int.zero_add]
        have hlen : (endsF 0 (xs.take j)).length = k.toNat - 1 := by unfold linesF at h2; omega
        have hget : (endsF 0 xs).getD (k.toNat - 1) 0 = (j : Int) + 1 := by
          rw [hsp, htake, List.getD_eq_getElem?_getD, List.append_assoc, List.getElem?_append_right (by omega), hlen]
          simp
        have hkl : k ≤ (endsF 0 xs).length := by
          rw [hsp, htake]; simp; unfold linesF at h2; omega
        rw [beginE, if_neg (by omega), if_neg hk0, hget]
      · have h2 : (linesF (xs.take j) : Int) + 1 ≠ k := by simpa using h2
        refine ⟨inI64 (by omega) (by omega), xs.length - (j + 1), by omega, j + 1, by omega, rfl, hlt, by rw [hsn]; simp, by omega, rfl⟩
    · have h1 : xs[j] ≠ 10 := by simpa using h1
      refine ⟨inI64 (by omega) (by omega), xs.length - (j + 1), by omega, j + 1, by omega, rfl, hlt, ?_, by omega, rfl⟩
      rw [List.take_succ_eq_append_getElem hlt, linesF_snoc, if_neg h1]
      simp
  · have h := of_decide_eq_false h
    obtain rfl : j = xs.length := by omega
    rw [List.take_length] at hlt'
    exact ⟨by rw [beginE, if_pos (by unfold linesF at hlt'; omega)], rfl⟩
end Go.Proofs.Ytgamedgeaiddhaa
