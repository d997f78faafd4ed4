/-
  Which pages are free: what each function of the code does, third part: the document's own answer; the bits.
-/
import Derived.Test.YtcfcbhkkolilmaaSpaceCalls2
namespace Go.Proofs.Ytcfcbhkkolilmaa
open Go.RowKit Go.Vc
section
variable {w : World} {O : Nat → Prop} {g : Nat} {p : Option Addr} {c : Nat} {st : List Int}
theorem ralloc_does (h : Sp .i64 w O g p c st) : Does Try.prog 20 #[.pointer (some ⟨g, 0, none⟩)] w fun e w' => e = .returned (.tuple #[.int .i64 (allocF st).2.1, .int .i64 (allocF st).2.2]) ∧ Sp .i64 w' O g p c (allocF st).1 ∧ Upd O w w' := by
  apply f20_does
  have h4 := h.2.2.2.1
  have hcc := h.2.2.2.2.1
  refine ⟨fun i n wl => ∃ j : Nat, i = j ∧ n = st.length - j ∧ j ≤ st.length ∧ (∀ z, z < j → st[z]? ≠ some 0) ∧ wl = w, ⟨_, 0, rfl, rfl, Nat.zero_le _, by omega, rfl⟩, ?_⟩
  rintro _ n wl ⟨j, rfl, rfl, hj, hno, rfl⟩
  refine ⟨g, 0, rfl, _, _, _, hcc, fun jj => ?_, fun jj => ?_⟩
  · have jj := of_decide_eq_true jj
    have hlt : j < st.length := by omega
    obtain ⟨b, o, rfl, ho, hne, hcan, hc⟩ := h.at hlt
    refine ⟨g, 0, rfl, _, _, _, hcc, ⟨by omega, by omega⟩, b, o, rfl, _, hc, fun hz => ?_, fun hz => ?_⟩
    · have hz : st[j] = 0 := by simpa using hz
      have hal : allocF st = (st.set j 2, (j : Int), 0) := by unfold allocF; rw [freeI_some (by rw [List.getElem?_eq_getElem hlt, hz]) hno]
      rw [hal]
      refine ⟨g, 0, rfl, _, _, _, hcc, ⟨by omega, by omega⟩, b, o, rfl, hcan, fun ws s => ?_⟩
      obtain ⟨q1, q2⟩ := h.set hlt (by decide) (by decide) s
      exact ⟨rfl, q1, q2⟩
    · have hz : st[j] ≠ 0 := by simpa using hz
      refine ⟨inI64 (by omega) (by omega), _, ?_, j + 1, by omega, rfl, hlt, fun z hz' => ?_, rfl⟩
      · omega
      · by_cases he : z = j
        · subst he; rw [List.getElem?_eq_getElem hlt]; exact fun e => hz (Option.some.inj e)
        · exact hno z (by omega)
  · have jj := of_decide_eq_false jj
    have hal : allocF st = (st, 0, 6) := by unfold allocF; rw [freeI_none fun z hz => hno z (by omega)]
    rw [hal]
    exact ⟨rfl, h, Upd.refl _ _⟩
theorem rgive_does (h : Sp .i64 w O g p c st) (page : Int) : Does Try.prog 21 #[.pointer (some ⟨g, 0, none⟩), .int .i64 page] w fun e w' => e = .returned (.int .i64 (giveF st page).2) ∧ Sp .i64 w' O g p c (giveF st page).1 ∧ Upd O w w' := by
  apply f21_does
  have hc := h.2.2.2.2.1
  refine ⟨fun j => ?_, fun j => ?_⟩
  · have j := of_decide_eq_true j
    have hg : giveF st page = (st, 1) := by rw [giveF, if_pos (.inl j)]
    rw [hg]
    exact ⟨rfl, h, Upd.refl _ _⟩
  have j := of_decide_eq_false j
  refine ⟨g, 0, rfl, _, _, _, hc, fun j2 => ?_, fun j2 => ?_⟩
  · have j2 := of_decide_eq_true j2
    have hg : giveF st page = (st, 1) := by rw [giveF, if_pos (.inr j2)]
    rw [hg]
    exact ⟨rfl, h, Upd.refl _ _⟩
  have j2 := of_decide_eq_false j2
  have hlt : page.toNat < st.length := by omega
  have hgd : st.getD page.toNat 0 = st[page.toNat] := by rw [List.getD_eq_getElem?_getD, List.getElem?_eq_getElem hlt]; rfl
  obtain ⟨b, o, rfl, ho, hne, hcan, hcell⟩ := h.at hlt
  refine ⟨g, 0, rfl, _, _, _, hc, ⟨by omega, by omega⟩, b, o, rfl, _, hcell, fun z => ?_, fun z => ?_⟩
  · have z : st[page.toNat] = 2 := by simpa using z
    have hg : giveF st page = (st.set page.toNat 0, 0) := by rw [giveF, if_neg (by omega), hgd, if_pos z]
    rw [hg]
    refine ⟨g, 0, rfl, _, _, _, hc, ⟨by omega, by omega⟩, b, o, rfl, hcan, fun ws s => ?_⟩
    obtain ⟨q1, q2⟩ := h.set hlt (by decide) (by decide) s
    exact ⟨rfl, q1, q2⟩
  have z : st[page.toNat] ≠ 2 := by simpa using z
  refine ⟨fun z2 => ?_, fun z2 => ?_⟩
  · have z2 : st[page.toNat] = 1 := by simpa using z2
    have hg : giveF st page = (st.set page.toNat 3, 0) := by rw [giveF, if_neg (by omega), hgd, if_neg z, if_pos z2]
    rw [hg]
    refine ⟨g, 0, rfl, _, _, _, hc, ⟨by omega, by omega⟩, b, o, rfl, hcan, fun ws s => ?_⟩
    obtain ⟨q1, q2⟩ := h.set hlt (by decide) (by decide) s
    exact ⟨rfl, q1, q2⟩
  · have z2 : st[page.toNat] ≠ 1 := by simpa using z2
    have hg : giveF st page = (st, 10) := by rw [giveF, if_neg (by omega), hgd, if_neg z, if_neg z2]
    rw [hg]
    exact ⟨rfl, h, Upd.refl _ _⟩
theorem rturn_does (h : Sp .i64 w O g p c st) {a b : Int} (ha : 0 ≤ a ∧ a ≤ 3) (hb : 0 ≤ b ∧ b ≤ 3) : Does Try.prog 40 #[.pointer (some ⟨g, 0, none⟩), .int .i64 a, .int .i64 b] w fun e w' => e = .returned (.tuple #[]) ∧ Sp .i64 w' O g p c (turnF a b st) ∧ Upd O w w' := by
  apply f40_does
  have h4 := h.2.2.2.1
  refine ⟨fun i n wl => ∃ j : Nat, i = j ∧ n = st.length - j ∧ j ≤ st.length ∧ Sp .i64 wl O g p c (turnF a b (st.take j) ++ st.drop j) ∧ Upd O w wl, ⟨_, 0, rfl, rfl, Nat.zero_le _, by simpa [turnF] using h, Upd.refl _ _⟩, ?_⟩
  rintro _ n wl ⟨j, rfl, rfl, hj, hs, hu⟩
  have hlen : (turnF a b (st.take j) ++ st.drop j).length = st.length := by simp [turnF]; omega
  have hcc := hs.2.2.2.2.1
  rw [hlen] at hcc
  refine ⟨g, 0, rfl, _, _, _, hcc, fun jj => ?_, fun jj => ?_⟩
  · have jj := of_decide_eq_true jj
    have hlt : j < st.length := by omega
    have htl : (turnF a b (st.take j)).length = j := by simp [turnF]; omega
    obtain ⟨b', o, rfl, ho, hne, hcan, hcell⟩ := hs.at (i := j) (by omega)
    have hget : (turnF a b (st.take j) ++ st.drop j)[j]'(by omega) = st[j] := by
      rw [List.getElem_append_right (by omega)]; simp [htl]
    rw [hget] at hcell
    have step : ∀ v : Int, (turnF a b (st.take j) ++ st.drop j).set j v = turnF a b (st.take j) ++ v :: st.drop (j + 1) := fun v => by
      rw [List.drop_eq_getElem_cons hlt, List.set_append_right _ _ (by omega), htl, Nat.sub_self]; rfl
    have fin : ∀ {v : Int}, v = turnV a b st[j] → turnF a b (st.take j) ++ v :: st.drop (j + 1) = turnF a b (st.take (j + 1)) ++ st.drop (j + 1) := fun hv => by
      rw [hv, List.take_succ_eq_append_getElem hlt]
      unfold turnF
      rw [List.map_append, List.append_assoc]
      rfl
    refine ⟨g, 0, rfl, _, _, _, hcc, ⟨by omega, by omega⟩, b', o, rfl, _, hcell, fun z => ?_, fun z => ?_⟩
    · have z : st[j] = 2 := by simpa using z
      refine ⟨g, 0, rfl, _, _, _, hcc, ⟨by omega, by omega⟩, b', o, rfl, hcan, fun ws s => ?_⟩
      obtain ⟨q1, q2⟩ := hs.set (by omega) ha.1 ha.2 s
      rw [Int.toNat_natCast, step, fin (by rw [z]; rfl)] at q1
      exact ⟨inI64 (by omega) (by omega), _, by omega, j + 1, by omega, rfl, hlt, q1, hu.trans q2⟩
    have z : st[j] ≠ 2 := by simpa using z
    refine ⟨fun z2 => ?_, fun z2 => ?_⟩
    · have z2 : st[j] = 3 := by simpa using z2
      refine ⟨g, 0, rfl, _, _, _, hcc, ⟨by omega, by omega⟩, b', o, rfl, hcan, fun ws s => ?_⟩
      obtain ⟨q1, q2⟩ := hs.set (by omega) hb.1 hb.2 s
      rw [Int.toNat_natCast, step, fin (by rw [z2]; rfl)] at q1
      exact ⟨inI64 (by omega) (by omega), _, by omega, j + 1, by omega, rfl, hlt, q1, hu.trans q2⟩
    · have z2 : st[j] ≠ 3 := by simpa using z2
      have hv : st[j] = turnV a b st[j] := by unfold turnV; rw [if_neg z, if_neg z2]
      have hq := hs
      rw [List.drop_eq_getElem_cons hlt, fin hv] at hq
      exact ⟨inI64 (by omega) (by omega), _, by omega, j + 1, by omega, rfl, hlt, hq, hu⟩
  · have jj := of_decide_eq_false jj
    obtain rfl : j = st.length := by omega
    exact ⟨rfl, by simpa using hs, hu⟩
theorem rcommit_does (h : Sp .i64 w O g p c st) : Does Try.prog 22 #[.pointer (some ⟨g, 0, none⟩)] w fun e w' => e = .returned (.tuple #[]) ∧ Sp .i64 w' O g p c (turnF 1 0 st) ∧ Upd O w w' := by
  apply f22_does
  refine (rturn_does h (by decide) (by decide)).imp ?_
  rintro e w7 ⟨rfl, h2, h3⟩
  exact ⟨rfl, rfl, h2, h3⟩
theorem rdoubt_does (h : Sp .i64 w O g p c st) : Does Try.prog 24 #[.pointer (some ⟨g, 0, none⟩)] w fun e w' => e = .returned (.tuple #[]) ∧ Sp .i64 w' O g p c (turnF 1 3 st) ∧ Upd O w w' := by
  apply f24_does
  refine (rturn_does h (by decide) (by decide)).imp ?_
  rintro e w7 ⟨rfl, h2, h3⟩
  exact ⟨rfl, rfl, h2, h3⟩
theorem rabort_does (h : Sp .i64 w O g p c st) : Does Try.prog 25 #[.pointer (some ⟨g, 0, none⟩)] w fun e w' => e = .returned (.tuple #[]) ∧ Sp .i64 w' O g p c (turnF 0 1 st) ∧ Upd O w w' := by
  apply f25_does
  refine (rturn_does h (by decide) (by decide)).imp ?_
  rintro e w7 ⟨rfl, h2, h3⟩
  exact ⟨rfl, rfl, h2, h3⟩
theorem rcount_does (h : Sp .i64 w O g p c st) (v : Int) : Does Try.prog 27 #[.pointer (some ⟨g, 0, none⟩), .int .i64 v] w fun e w' => e = .returned (.int .i64 (countF v st)) ∧ w' = w := by
  apply f27_does
  have h4 := h.2.2.2.1
  have hcc := h.2.2.2.2.1
  refine ⟨fun a i n wl => ∃ j : Nat, i = j ∧ n = st.length - j ∧ j ≤ st.length ∧ a = countF v (st.take j) ∧ wl = w, ⟨_, 0, rfl, rfl, Nat.zero_le _, rfl, rfl⟩, ?_⟩
  rintro _ _ n wl ⟨j, rfl, rfl, hj, rfl, rfl⟩
  have hcl := countF_le v (st.take j)
  rw [List.length_take] at hcl
  refine ⟨g, 0, rfl, _, _, _, hcc, fun jj => ?_, fun jj => ?_⟩
  · have jj := of_decide_eq_true jj
    have hlt : j < st.length := by omega
    obtain ⟨b, o, e, ho, hne, hcan, hc⟩ := h.at hlt
    have hct := countF_take v hlt
    refine ⟨g, 0, rfl, _, _, _, hcc, ⟨by omega, by omega⟩, b, o, e, _, hc, fun hz => ?_, fun hz => ?_⟩
    · have hz : st[j] = v := by simpa using hz
      rw [if_pos hz] at hct
      refine ⟨inI64 (by omega) (by omega), inI64 (by omega) (by omega), _, ?_, j + 1, by omega, rfl, hlt, by omega, rfl⟩
      omega
    · have hz : st[j] ≠ v := by simpa using hz
      rw [if_neg hz] at hct
      refine ⟨inI64 (by omega) (by omega), _, ?_, j + 1, by omega, rfl, hlt, by omega, rfl⟩
      omega
  · have jj := of_decide_eq_false jj
    obtain rfl : j = st.length := by omega
    exact ⟨by rw [List.take_length], rfl⟩
theorem ris_does (h : Sp .i64 w O g p c st) (page v : Int) : Does Try.prog 29 #[.pointer (some ⟨g, 0, none⟩), .int .i64 page, .int .i64 v] w fun e w' => e = .returned (.bool (isF st page v)) ∧ w' = w := by
  apply f29_does
  have hc := h.2.2.2.2.1
  refine ⟨fun j => ?_, fun j => ?_⟩
  · have j := of_decide_eq_true j
    refine ⟨g, 0, rfl, _, _, _, hc, fun j2 => ?_, fun j2 => ?_⟩
    · have j2 := of_decide_eq_true j2
      obtain ⟨b, o, e, ho, hne, hcan, hcell⟩ := h.at (i := page.toNat) (by omega)
      refine ⟨g, 0, rfl, _, _, _, hc, ⟨by omega, by omega⟩, b, o, e, _, hcell, ?_, rfl⟩
      rw [isF_of j j2]; rfl
    · have j2 := of_decide_eq_false j2
      exact ⟨by rw [isF_not (by omega)], rfl⟩
  · have j := of_decide_eq_false j
    exact ⟨by rw [isF_not (by omega)], rfl⟩
end
theorem rnew_does {w : World} (pages : Int) : Does Try.prog 19 #[.int .i64 pages] w fun e w' => Ext w w' ∧ ((pages < 8 ∨ pages > 4096) ∧ e = .returned (.tuple #[.pointer none, .int .i64 1]) ∨
    (8 ≤ pages ∧ pages ≤ 4096) ∧ ∃ g p c, e = .returned (.tuple #[.pointer (some ⟨g, 0, none⟩), .int .i64 0]) ∧ Sp .i64 w' (fun z => w.heap.size ≤ z ∧ z < w'.heap.size) g p c (newS pages.toNat)) := by
  apply f19_does
  refine ⟨fun j => ⟨Upd.refl _ _, .inl ⟨.inl (of_decide_eq_true j), rfl⟩⟩, fun j => ⟨fun j2 => ⟨Upd.refl _ _, .inl ⟨.inr (of_decide_eq_true j2), rfl⟩⟩, fun j2 => ?_⟩⟩
  have j := of_decide_eq_false j
  have j2 := of_decide_eq_false j2
  refine ⟨⟨by omega, by omega, by omega, by omega⟩, fun b12 w12 n12 b14 w14 n14 => ?_⟩
  rw [zerosL_int] at n12
  have e12 := n12.eq
  have e14 := n14.eq
  have s12 := n12.size
  have s14 := n14.size
  have hc : w14.cell? ⟨b14, 0, none⟩ = some (.slice (some ⟨b12, 0, none⟩) pages.toNat pages.toNat) := n14.cell 0 rfl
  have y : Ext w w14 := Ext.thn n12.ext n14.ext
  have z : Sp .i64 w14 (fun z => w.heap.size ≤ z ∧ z < w14.heap.size) b14 (some ⟨b12, 0, none⟩) pages.toNat (List.replicate pages.toNat 0) := by
    refine ⟨⟨by omega, by omega⟩, fun x hx => by have := List.eq_of_mem_replicate hx; omega, by simp; omega, by simp; omega, by rw [List.length_replicate]; exact hc, ?_⟩
    rw [List.length_replicate]
    refine ((n12.row (l := pages.toNat) (sz := 1) (by simp) (by simp only [maxLen]; omega)).ext n14.ext).ok fun k hk e => ?_
    have e : k = b12 := e
    exact ⟨⟨by omega, by omega⟩, by omega⟩
  obtain ⟨b, o, e, ho, hne, hcan, _⟩ := z.at (i := 0) (by simp; omega)
  injection e with e
  injection e with e1 e2
  subst e1; subst e2
  refine ⟨_, _, _, hc, ⟨by omega, by omega⟩, b12, 0, rfl, hcan, fun ws s => ?_⟩
  obtain ⟨z1, u1⟩ := z.set (i := 0) (by simp; omega) (by decide) (by decide) s
  obtain ⟨b, o, e, ho1, hne1, hcan1, _⟩ := z1.at (i := 1) (by simp; omega)
  injection e with e
  injection e with e1 e2
  subst e1; subst e2
  have hc1 := z1.2.2.2.2.1
  rw [List.length_set, List.length_replicate] at hc1
  refine ⟨_, _, _, hc1, ⟨by omega, by omega⟩, b12, 0, rfl, hcan1, fun ws1 s1 => ?_⟩
  obtain ⟨z2, u2⟩ := z1.set (i := 1) (by simp; omega) (by decide) (by decide) s1
  have sz1 := s.size
  have sz2 := s1.size
  refine ⟨Upd.then y (u1.trans u2) fun i hi h => by omega, .inr ⟨⟨by omega, by omega⟩, b14, some ⟨b12, 0, none⟩, pages.toNat, rfl, ?_⟩⟩
  rw [show ws1.heap.size = w14.heap.size by omega]
  exact z2
end Go.Proofs.Ytcfcbhkkolilmaa
