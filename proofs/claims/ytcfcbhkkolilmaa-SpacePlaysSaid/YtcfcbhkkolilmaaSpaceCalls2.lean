/-
  Which pages are free: what each function of the code does, second part.
-/
import Derived.Test.YtcfcbhkkolilmaaSpaceCalls
import Derived.Test.YtcfcbhkkolilmaaBytes
namespace Go.Proofs.Ytcfcbhkkolilmaa
open Go.RowKit Go.Vc
section
variable {w : World} {O : Nat → Prop} {g : Nat} {p : Option Addr} {c : Nat} {st : List Int}
theorem commit_does (h : Sp .u8 w O g p c st) (hO : ∀ z, O z → z < w.heap.size) : Does Try.prog 12 #[.pointer (some ⟨g, 0, none⟩)] w fun e w' => e = .returned (.tuple #[]) ∧ Sp .u8 w' O g p c (turnF 1 0 st) ∧ Upd O w w' := by
  apply f12_does
  refine (end_does h hO use_eff free_eff (by decide) (by decide)).imp ?_
  rintro e w7 ⟨rfl, h2, h3⟩
  exact ⟨rfl, rfl, h2, h3⟩
theorem doubt_does (h : Sp .u8 w O g p c st) (hO : ∀ z, O z → z < w.heap.size) : Does Try.prog 23 #[.pointer (some ⟨g, 0, none⟩)] w fun e w' => e = .returned (.tuple #[]) ∧ Sp .u8 w' O g p c (turnF 1 3 st) ∧ Upd O w w' := by
  apply f23_does
  refine (end_does h hO use_eff stay_eff (by decide) (by decide)).imp ?_
  rintro e w7 ⟨rfl, h2, h3⟩
  exact ⟨rfl, rfl, h2, h3⟩
theorem abort_does (h : Sp .u8 w O g p c st) (hO : ∀ z, O z → z < w.heap.size) : Does Try.prog 15 #[.pointer (some ⟨g, 0, none⟩)] w fun e w' => e = .returned (.tuple #[]) ∧ Sp .u8 w' O g p c (turnF 0 1 st) ∧ Upd O w w' := by
  apply f15_does
  refine (end_does h hO free_eff use_eff (by decide) (by decide)).imp ?_
  rintro e w7 ⟨rfl, h2, h3⟩
  exact ⟨rfl, rfl, h2, h3⟩
theorem countF_take (v : Int) {st : List Int} {j : Nat} (h : j < st.length) : countF v (st.take (j + 1)) = countF v (st.take j) + if st[j] = v then 1 else 0 := by
  rw [List.take_succ_eq_append_getElem h, countF_snoc]
theorem countF_le (v : Int) (st : List Int) : countF v st ≤ st.length := List.countP_le_length
theorem free_does (h : Sp .u8 w O g p c st) : Does Try.prog 13 #[.pointer (some ⟨g, 0, none⟩)] w fun e w' => e = .returned (.int .i64 (countF 0 st)) ∧ w' = w := by
  apply f13_does
  refine (made_does h).imp ?_
  rintro e w7 ⟨rfl, rfl⟩
  have h4 := h.2.2.2.1
  refine ⟨_, rfl, fls rfl ⟨g, 0, rfl, _, _, _, h.2.2.2.2.1, fun a i n wl => ∃ j : Nat, i = j ∧ n = st.length - j ∧ j ≤ st.length ∧ a = countF 0 (st.take j) ∧ wl = w7, ⟨_, 0, rfl, rfl, Nat.zero_le _, rfl, rfl⟩, ?_⟩⟩
  rintro _ _ n wl ⟨j, rfl, rfl, hj, rfl, rfl⟩
  have hcl := countF_le 0 (st.take j)
  rw [List.length_take] at hcl
  refine ⟨fun jj => ?_, fun jj => ?_⟩
  · have jj := of_decide_eq_true jj
    have hlt : j < st.length := by omega
    obtain ⟨b, o, e, ho, hne, hcan, hc⟩ := h.at hlt
    have hct := countF_take 0 hlt
    refine ⟨⟨by omega, by omega⟩, b, o, e, _, hc, fun hz => ?_, fun hz => ?_⟩
    · have hz : st[j] = 0 := by simpa using hz
      rw [if_pos hz] at hct
      refine ⟨inI64 (by omega) (by omega), inI64 (by omega) (by omega), _, ?_, j + 1, by omega, rfl, hlt, by omega, rfl⟩
      omega
    · have hz : st[j] ≠ 0 := by simpa using hz
      rw [if_neg hz] at hct
      refine ⟨inI64 (by omega) (by omega), _, ?_, j + 1, by omega, rfl, hlt, by omega, rfl⟩
      omega
  · have jj := of_decide_eq_false jj
    obtain rfl : j = st.length := by omega
    exact ⟨by rw [List.take_length], rfl⟩
theorem isF_of {st : List Int} {page v : Int} (h0 : 0 ≤ page) (h1 : page < st.length) : isF st page v = decide (st[page.toNat]'(by omega) = v) := by
  unfold isF
  rw [decide_eq_true ⟨h0, h1⟩, List.getD_eq_getElem?_getD, List.getElem?_eq_getElem (by omega)]
  rfl
theorem isF_not {st : List Int} {page v : Int} (h : ¬ (0 ≤ page ∧ page < st.length)) : isF st page v = false := by
  unfold isF
  rw [decide_eq_false h]
  rfl
theorem own_does' (h : Sp .u8 w O g p c st) (page : Int) : Does Try.prog 28 #[.pointer (some ⟨g, 0, none⟩), .int .i64 page] w fun e w' => e = .returned (.bool (isF st page 2)) ∧ w' = w := by
  apply f28_does
  refine (made_does h).imp ?_
  rintro e w7 ⟨rfl, rfl⟩
  have hc := h.2.2.2.2.1
  refine ⟨_, rfl, tru rfl ⟨fun j => ?_, fun j => ?_⟩⟩
  · have j := of_decide_eq_true j
    refine ⟨g, 0, rfl, _, _, _, hc, fun j2 => ?_, fun j2 => ?_⟩
    · have j2 := of_decide_eq_true j2
      obtain ⟨b, o, e, ho, hne, hcan, hcell⟩ := h.at (i := page.toNat) (by omega)
      refine ⟨g, 0, rfl, _, _, _, hc, ⟨by omega, by omega⟩, b, o, e, _, hcell, ?_, rfl⟩
      rw [isF_of j j2]; rfl
    · have j2 := of_decide_eq_false j2
      exact ⟨by rw [isF_not (by omega)], rfl⟩
  · have j := of_decide_eq_false j
    exact ⟨by rw [isF_not (by omega)], rfl⟩
theorem used_does (h : Sp .u8 w O g p c st) (page : Int) : Does Try.prog 30 #[.pointer (some ⟨g, 0, none⟩), .int .i64 page] w fun e w' => e = .returned (.bool (decide (0 ≤ page ∧ page < st.length) && !isF st page 0)) ∧ w' = w := by
  apply f30_does
  refine (made_does h).imp ?_
  rintro e w7 ⟨rfl, rfl⟩
  have hc := h.2.2.2.2.1
  refine ⟨_, rfl, tru rfl ⟨fun j => ?_, fun j => ?_⟩⟩
  · have j := of_decide_eq_true j
    refine ⟨g, 0, rfl, _, _, _, hc, fun j2 => ?_, fun j2 => ?_⟩
    · have j2 := of_decide_eq_true j2
      obtain ⟨b, o, e, ho, hne, hcan, hcell⟩ := h.at (i := page.toNat) (by omega)
      refine ⟨g, 0, rfl, _, _, _, hc, ⟨by omega, by omega⟩, b, o, e, _, hcell, ?_, rfl⟩
      rw [isF_of j j2, decide_eq_true ⟨j, j2⟩]; rfl
    · have j2 := of_decide_eq_false j2
      exact ⟨by rw [decide_eq_false (by omega)]; rfl, rfl⟩
  · have j := of_decide_eq_false j
    exact ⟨by rw [decide_eq_false (by omega)]; rfl, rfl⟩
theorem clone_does (h : Sp .u8 w O g p c st) : Does Try.prog 26 #[.pointer (some ⟨g, 0, none⟩)] w fun e w' => ∃ g' p' c', e = .returned (.pointer (some ⟨g', 0, none⟩)) ∧ Sp .u8 w' (fun z => w.heap.size ≤ z ∧ z < w'.heap.size) g' p' c' st ∧ Ext w w' := by
  apply f26_does
  refine (made_does h).imp ?_
  rintro e w4 ⟨rfl, rfl⟩
  obtain ⟨h1, h2, h3, h4, h5, h6⟩ := h
  have hk : ∀ x ∈ st, InK .u8 x := fun x hx => ⟨by have := (h2 x hx).1; exact this, by have := (h2 x hx).2; show x ≤ 255; omega⟩
  obtain ⟨_, i6⟩ := h6.ints hk
  obtain ⟨p10, c10, w10, hr, ho, hu⟩ := append_b (xs := []) (own_nil w4 w4.heap.size 5 1) i6 rfl c (by simp; omega) (Nat.le_refl _)
  have x10 : Ext w4 w10 := Own.ext_of (own_nil w4 w4.heap.size 5 1) hu (Upd.refl _ _) (Nat.le_refl _)
  simp only [List.length_nil, Nat.zero_add, List.nil_append] at hr ho
  refine ⟨_, rfl, fls rfl ⟨g, 0, rfl, _, _, _, h5, _, _, _, w10, hr, fun b12 w12 hn => ?_⟩⟩
  have e12 := hn.eq
  have s12 := hn.size
  have s10 := x10.size
  refine ⟨b12, p10, c10, rfl, ⟨⟨by omega, by omega⟩, h2, h3, h4, hn.cell 0 rfl, ?_⟩, Ext.thn x10 hn.ext⟩
  refine ((ho.row.ok fun k hk hb => (⟨hb, hk⟩ : w4.heap.size ≤ k ∧ k < w10.heap.size)).ext hn.ext).ok fun k hk hb => ⟨⟨hb.1, hk⟩, by omega⟩
end
theorem zerosL_int (k : IntKind) (n : Nat) : zerosL (.int k 0) n = (List.replicate n (0 : Int)).map (Value.int k) := by
  unfold zerosL
  show (List.replicate n [Value.int k 0]).flatten = _
  induction n with
  | zero => rfl
  | succ n ih => rw [List.replicate_succ, List.replicate_succ, List.flatten_cons, ih]; rfl
/-- The states of a new space. -/
def newS (n : Nat) : List Int := ((List.replicate n (0 : Int)).set 0 1).set 1 1
theorem newS_length (n : Nat) : (newS n).length = n := by simp [newS]
theorem newS_ok (n : Nat) : OkS (newS n) := by
  refine OkS.set (OkS.set (fun x hx => ?_) 0 (by decide) (by decide)) 1 (by decide) (by decide)
  have := List.eq_of_mem_replicate hx
  omega
theorem new_does {w : World} (pages : Int) : Does Try.prog 9 #[.int .i64 pages] w fun e w' => Ext w w' ∧ ((pages < 8 ∨ pages > 4096) ∧ e = .returned (.tuple #[.pointer none, .int .i64 1]) ∨
    (8 ≤ pages ∧ pages ≤ 4096) ∧ ∃ g p c, e = .returned (.tuple #[.pointer (some ⟨g, 0, none⟩), .int .i64 0]) ∧ Sp .u8 w' (fun z => w.heap.size ≤ z ∧ z < w'.heap.size) g p c (newS pages.toNat)) := by
  apply f9_does
  refine ⟨fun j => ⟨Upd.refl _ _, .inl ⟨.inl (of_decide_eq_true j), rfl⟩⟩, fun j => ⟨fun j2 => ⟨Upd.refl _ _, .inl ⟨.inr (of_decide_eq_true j2), rfl⟩⟩, fun j2 => ?_⟩⟩
  have j := of_decide_eq_false j
  have j2 := of_decide_eq_false j2
  refine ⟨⟨by omega, by omega, by omega, by omega⟩, fun b12 w12 n12 b14 w14 n14 wd hd => ?_⟩
  rw [zerosL_int] at n12
  have e12 := n12.eq
  have e14 := n14.eq
  have s12 := n12.size
  have s14 := n14.size
  have hc : wd.cell? ⟨b14, 0, none⟩ = some (.slice (some ⟨b12, 0, none⟩) pages.toNat pages.toNat) := hd.ext.cell (n14.cell 0 rfl)
  have y : Ext w wd := Ext.thn (Ext.thn n12.ext n14.ext) hd.ext
  have sd : wd.heap.size = w14.heap.size := by rw [hd.eq]
  have z : Sp .u8 wd (fun z => w.heap.size ≤ z ∧ z < wd.heap.size) b14 (some ⟨b12, 0, none⟩) pages.toNat (List.replicate pages.toNat 0) := by
    refine ⟨⟨by omega, by omega⟩, fun x hx => by have := List.eq_of_mem_replicate hx; omega, by simp; omega, by simp; omega, by rw [List.length_replicate]; exact hc, ?_⟩
    rw [List.length_replicate]
    refine ((n12.row (l := pages.toNat) (sz := 1) (by simp) (by simp only [maxLen]; omega)).ext (Ext.thn n14.ext hd.ext)).ok fun k hk e => ?_
    have e : k = b12 := e
    exact ⟨⟨by omega, by omega⟩, by omega⟩
  obtain ⟨b, o, e, ho, hne, hcan, _⟩ := z.at (i := 0) (by simp; omega)
  injection e with e
  injection e with e1 e2
  subst e1; subst e2
  refine ⟨_, _, _, hc, _, _, _, hc, ⟨by omega, by omega⟩, b12, 0, rfl, hcan, fun ws s => ?_⟩
  obtain ⟨z1, u1⟩ := z.set (i := 0) (by simp; omega) (by decide) (by decide) s
  obtain ⟨b, o, e, ho1, hne1, hcan1, _⟩ := z1.at (i := 1) (by simp; omega)
  injection e with e
  injection e with e1 e2
  subst e1; subst e2
  refine ⟨⟨by omega, by omega⟩, b12, 0, rfl, hcan1, fun ws1 s1 => ?_⟩
  obtain ⟨z2, u2⟩ := z1.set (i := 1) (by simp; omega) (by decide) (by decide) s1
  have sz1 := s.size
  have sz2 := s1.size
  refine ⟨Upd.then y (u1.trans u2) fun i hi h => by omega, .inr ⟨⟨by omega, by omega⟩, b14, some ⟨b12, 0, none⟩, pages.toNat, rfl, ?_⟩⟩
  rw [show ws1.heap.size = wd.heap.size by omega]
  exact z2
end Go.Proofs.Ytcfcbhkkolilmaa
