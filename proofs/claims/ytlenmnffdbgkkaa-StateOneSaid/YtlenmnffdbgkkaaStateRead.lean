/-
  States: what each function of the code does: reading.
-/
import Derived.Test.YtlenmnffdbgkkaaStateREnc
namespace Go.Proofs.Ytlenmnffdbgkkaa
open Go.RowKit Go.Vc
def shortC : List PanicEntry := [{ v := .iface 26 (.int .i64 2), recovered := false }]
def longC : List PanicEntry := [{ v := .iface 26 (.int .i64 3), recovered := false }]
/-- A reader: what is left, and its other cells. -/
def RdB (w : World) (r : Nat) (ok : Nat → Prop) (t : List Int) (rest : List Value) : Prop :=
  ∃ p c, Blk w r (.slice p t.length c :: rest) ∧ t.length ≤ c ∧ Ints .u8 w ok p t ∧ ∀ z, ok z → z ≠ r ∧ z < w.heap.size
/-- What reading tells: too short, or so. -/
def RdQ {α : Type} (w : World) (r : Nat) (q : Option (α × List Int)) (K : α → List Int → Ending → World → Prop) (e : Ending) (w' : World) : Prop :=
  (q = none ∧ e = .panicked shortC ∧ Upd (fun z => z = r) w w') ∨ ∃ a t, q = some (a, t) ∧ K a t e w'
section
variable {w : World} {r : Nat} {ok : Nat → Prop} {t : List Int} {rest : List Value}
theorem RdB.upd {T : Nat → Prop} {w' : World} (h : RdB w r ok t rest) (u : Upd T w w') (h1 : ¬ T r) (h2 : ∀ z, ok z → ¬ T z) : RdB w' r ok t rest := by
  obtain ⟨p, c, a1, a2, a3, a4⟩ := h
  exact ⟨p, c, a1.upd u h1, a2, a3.upd u h2, fun z hz => ⟨(a4 z hz).1, Nat.lt_of_lt_of_le (a4 z hz).2 u.size⟩⟩
theorem RdB.ext {w' : World} (h : RdB w r ok t rest) (x : Ext w w') : RdB w' r ok t rest := h.upd x id fun _ _ => id
theorem RdB.bytes (h : RdB w r ok t rest) : FB t := by
  obtain ⟨p, c, a1, a2, a3, a4⟩ := h
  exact fun x hx => a3.inK x hx
theorem take_does (h : RdB w r ok t rest) {n : Int} (hn : 0 ≤ n) (hl : t.length ≤ 1000000) : Does Try.prog 58 #[.pointer (some ⟨r, 0, none⟩), .int .i64 n] w
    (RdQ w r (takeP n t) fun x t' e w' => ∃ p, e = .returned (.slice p x.length x.length) ∧ Ints .u8 w' ok p x ∧ RdB w' r ok t' rest ∧ Upd (fun z => z = r) w w') := by
  obtain ⟨p, c, a1, a2, a3, a4⟩ := h
  apply f58_does
  refine ⟨r, 0, rfl, _, _, _, a1.cell 0 rfl, brr (fun q => ?_) fun q => ?_⟩
  · have q := of_decide_eq_true q
    exact .inl ⟨by unfold takeP; rw [if_pos (by omega)], rfl, Upd.refl _ _⟩
  · have q := of_decide_eq_false q
    have htk : takeP n t = some (t.take n.toNat, t.drop n.toNat) := by unfold takeP; rw [if_neg (by omega)]
    have hx : (t.take n.toNat).length = n.toNat := by rw [List.length_take]; omega
    refine ⟨r, 0, rfl, _, _, _, a1.cell 0 rfl, ⟨hn, by omega⟩, ⟨hn, Int.le_refl _⟩, r, 0, rfl, _, _, _, a1.cell 0 rfl, ⟨hn, by omega⟩, r, 0, rfl, a1.st (by simp) fun w' B u => .inr ⟨_, _, htk, subp p 0 n.toNat 1, ?_, ?_, ?_, u⟩⟩
    · rw [hx, Nat.sub_zero]
    · have := a3.sub 0 n.toNat n.toNat (Nat.le_refl _)
      rw [List.drop_zero] at this
      exact Ints.upd this u fun z hz e => (a4 z hz).1 e
    · refine ⟨subp p n.toNat c 1, c - n.toNat, ?_, ?_, ?_, fun z hz => ⟨(a4 z hz).1, Nat.lt_of_lt_of_le (a4 z hz).2 u.size⟩⟩
      · have : (t.drop n.toNat).length = t.length - n.toNat := List.length_drop
        rw [this]; exact B
      · rw [List.length_drop]; omega
      · have := a3.sub n.toNat t.length c a2
        rw [List.take_length] at this
        exact Ints.upd this u fun z hz e => (a4 z hz).1 e
theorem rnum_does (h : RdB w r ok t rest) (hl : t.length ≤ 1000000) : Does Try.prog 56 #[.pointer (some ⟨r, 0, none⟩)] w
    (RdQ w r (numP t) fun n t' e w' => e = .returned (.int .i64 n) ∧ RdB w' r ok t' rest ∧ Upd (fun z => z = r) w w') := by
  apply f56_does
  refine (take_does h (by decide) hl).imp ?_
  rintro e w7 (⟨h1, rfl, u⟩ | ⟨x, t', h1, p, rfl, hx, hb, u⟩)
  · exact .inr ⟨_, rfl, .inl ⟨by unfold numP andThen; rw [h1], rfl, u⟩⟩
  · obtain ⟨e1, hlx⟩ := back_take h1 (by decide)
    have hlx : x.length = 4 := by omega
    refine .inl ⟨_, _, _, rfl, ?_⟩
    rw [hlx]
    refine (get_does 4 hlx hx).imp ?_
    rintro e w8 ⟨rfl, x8⟩
    exact ⟨_, _, rfl, .inr ⟨getN x, t', by unfold numP andThen; rw [h1]; rfl, rfl, hb.ext x8, Upd.then u x8 fun _ _ e => e.elim⟩⟩
theorem len_num {t t' : List Int} {n : Int} (hb : FB t) (h : numP t = some (n, t')) : t'.length ≤ t.length ∧ 0 ≤ n := by
  obtain ⟨rfl, h1⟩ := back_num hb h
  exact ⟨by rw [List.length_append]; omega, h1.1⟩
theorem rtext_does (h : RdB w r ok t rest) (hl : t.length ≤ 1000000) : Does Try.prog 62 #[.pointer (some ⟨r, 0, none⟩)] w
    (RdQ w r (textP t) fun x t' e w' => ∃ p c, e = .returned (.slice p x.length c) ∧ Own w' w.heap.size 5 1 p x.length c (x.map (Value.int .u8)) ∧ (∀ y ∈ x, InK .u8 y) ∧ RdB w' r ok t' rest ∧ Upd (fun z => z = r) w w') := by
  apply f62_does
  refine (rnum_does h hl).imp ?_
  rintro e w5 (⟨h1, rfl, u⟩ | ⟨n, t1, h1, rfl, hb, u⟩)
  · exact .inr ⟨_, rfl, .inl ⟨by unfold textP andThen; rw [h1], rfl, u⟩⟩
  · have hn := len_num h.bytes h1
    refine .inl ⟨_, rfl, (take_does hb hn.2 (by omega)).imp ?_⟩
    have e1 : textP t = takeP n t1 := by unfold textP andThen; rw [h1]
    rintro e w6 (⟨h2, rfl, u2⟩ | ⟨x, t2, h2, p, rfl, hx, hb2, u2⟩)
    · exact .inr ⟨_, rfl, .inl ⟨by rw [e1, h2], rfl, Upd.trans u u2⟩⟩
    · have hxl : x.length ≤ 1000000 := by
        obtain ⟨e2, _⟩ := back_take h2 hn.2
        have := congrArg List.length e2
        rw [List.length_append] at this
        omega
      have u12 := Upd.trans u u2
      obtain ⟨p', c', w7, hr, ho, hu⟩ := append_b (own_nil w6 w.heap.size 5 1) (xs := []) hx (l2 := x.length) rfl x.length (by simp; omega) u12.size
      simp only [List.length_nil, Nat.zero_add, List.nil_append] at hr ho
      have X : Ext w6 w7 := hu.mono fun k _ ⟨a, e, _⟩ => by cases e
      exact .inl ⟨_, _, _, rfl, p', _, c', w7, hr, .inr ⟨x, t2, by rw [e1, h2], p', c', rfl, ho, hx.inK, hb2.ext X, Upd.then u12 X fun _ _ e => e.elim⟩⟩
theorem len_text {t t' x : List Int} (hb : FB t) (h : textP t = some (x, t')) : t'.length ≤ t.length ∧ x.length ≤ t.length := by
  obtain ⟨rfl, h1⟩ := back_text hb h
  simp only [List.length_append]; omega
/-- An edit that was read. -/
def EdQ (w : World) (base : Nat) (e : E) (v : Value) : Prop := ∃ p c q d, v = .agg #[.int .i64 e.at_, .slice p e.old.length c, .slice q e.new.length d] ∧ InK .i64 e.at_ ∧ Own w base 5 1 p e.old.length c (e.old.map (Value.int .u8)) ∧ Own w base 5 1 q e.new.length d (e.new.map (Value.int .u8)) ∧ (∀ y ∈ e.old, InK .u8 y) ∧ ∀ y ∈ e.new, InK .u8 y
theorem redit_does (h : RdB w r ok t rest) (hl : t.length ≤ 1000000) : Does Try.prog 60 #[.pointer (some ⟨r, 0, none⟩)] w
    (RdQ w r (editP t) fun x t' e w' => ∃ v, e = .returned v ∧ EdQ w' w.heap.size x v ∧ RdB w' r ok t' rest ∧ Upd (fun z => z = r) w w') := by
  have hr : r < w.heap.size := by obtain ⟨p, c, a1, _⟩ := h; exact a1.lt
  have hf := h.bytes
  apply f60_does
  intro b2 w2 hb2
  have e2 := hb2.eq
  have z2 := hb2.size
  have h2 := h.ext hb2.ext
  have x2 : Upd (fun z => z = r) w w2 := hb2.ext.mono fun _ _ e => e.elim
  refine (rnum_does h2 hl).imp ?_
  rintro e w6 (⟨h1, rfl, u⟩ | ⟨a, t1, h1, rfl, hb, u⟩)
  · exact .inr ⟨_, rfl, .inl ⟨by unfold editP andThen; rw [h1], rfl, Upd.trans x2 u⟩⟩
  have hn1 := len_num hf h1
  have ha := (back_num hf h1).2
  refine .inl ⟨_, rfl, (rtext_does hb (by omega)).imp ?_⟩
  rintro e w8 (⟨h3, rfl, u3⟩ | ⟨x, t2, h3, p, c, rfl, ho, hx, hb3, u3⟩)
  · exact .inr ⟨_, rfl, .inl ⟨by unfold editP andThen; rw [h1]; simp only; rw [h3], rfl, Upd.trans x2 (Upd.trans u u3)⟩⟩
  have hn3 := len_text hb.bytes h3
  refine .inl ⟨_, _, _, rfl, (rtext_does hb3 (by omega)).imp ?_⟩
  rintro e w12 (⟨h4, rfl, u4⟩ | ⟨y, t3, h4, q, d, rfl, ho4, hy, hb4, u4⟩)
  · exact .inr ⟨_, rfl, .inl ⟨by unfold editP andThen; rw [h1]; simp only; rw [h3]; simp only; rw [h4], rfl, Upd.trans x2 (Upd.trans u (Upd.trans u3 u4))⟩⟩
  have U := Upd.trans u (Upd.trans u3 u4)
  have s6 := u.size
  have s8 := u3.size
  have B2 := hb2.blk.upd U (by omega)
  have ho' := ho.upd u4 fun a ha e => by have := (ho.base ha).1; omega
  refine .inl ⟨_, _, _, rfl, B2.st3 rfl fun w13 B13 u13 => ⟨_, B13.cell 0 rfl, _, _, _, B13.cell 1 rfl, _, _, _, B13.cell 2 rfl, .inr ⟨⟨a, x, y⟩, t3, ?_, _, rfl, ⟨p, c, q, d, rfl, inI64 (by show _ ≤ a; have := ha.1; omega) (by show a ≤ _; have := ha.2; omega), ?_, ?_, hx, hy⟩, hb4.upd u13 (by omega) fun z hz e => ?_, ?_⟩⟩⟩
  · unfold editP andThen
    rw [h1]; simp only; rw [h3]; simp only; rw [h4]; rfl
  · exact (ho'.lower (by omega)).upd u13 fun a ha e => by have := (ho.base ha).1; omega
  · exact (ho4.lower (by omega)).upd u13 fun a ha e => by have := (ho4.base ha).1; omega
  · obtain ⟨_, _, _, _, _, a4⟩ := h
    have := (a4 z hz).2
    omega
  · exact Upd.then (Upd.trans x2 U) u13 fun z hz e => by omega
end
end Go.Proofs.Ytlenmnffdbgkkaa
