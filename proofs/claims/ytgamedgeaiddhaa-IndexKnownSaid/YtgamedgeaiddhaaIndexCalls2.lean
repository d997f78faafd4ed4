/-
  Where lines begin: what each function of the code does, second part.
-/
import Derived.Test.YtgamedgeaiddhaaIndexCalls
namespace Go.Proofs.Ytgamedgeaiddhaa
open Go.RowKit Go.Vc
theorem step_does {w : World} {O : Nat → Prop} {g : Nat} {cc : List Int} (h : Idx w O g cc) (hO : ∀ k, w.heap.size ≤ k → O k) {ok : Nat → Prop} {p : Option Addr} {xs : List Int} (hx : Ints .u8 w ok p xs) {l : Nat} (hl : l = xs.length) (c : Nat)
    (hs : cc.length + xs.length ≤ 1000000000) : Does Try.prog 9 #[.pointer (some ⟨g, 0, none⟩), .slice p l c] w fun e w' => e = .returned (.tuple #[]) ∧ Idx w' O g (cc ++ xs) ∧ Upd O w w' := by
  subst hl
  apply f9_does
  obtain ⟨h1, h2, h3, h4, h5, q, m, cp, h6, h7⟩ := h
  refine tru rfl fun wd1 hd => ⟨fun v => Ext wd1 v, Upd.refl _ _, g, 0, rfl, _, _, _, fun v hv => Ext.cell hv (hd.ext.cell h6), g, 0, rfl, _, hd.ext.cell h5, ?_⟩
  refine (ends_does (hx.ext hd.ext) rfl c cc.length (by omega) (by omega) (by omega)).imp ?_
  rintro e w16 ⟨p16, l16, c16, rfl, r16, x16⟩
  have y16 : Ext w w16 := Ext.then hd.ext x16
  have hl16 := r16.1
  simp only [List.length_map, Nat.mul_one] at hl16
  have hm := h7.1
  simp only [List.length_map, Nat.mul_one] at hm
  have b1 := endsF_le 0 cc
  have b2 := endsF_le cc.length xs
  refine ⟨_, _, _, rfl, x16, ?_⟩
  obtain ⟨p17, c17, w17, hrun, r17, u17, _⟩ := Row.append slI 42 (h7.ext y16) (Src.kit (P := Try.prog) r16.src Try.underlying42 (n := l16) c16 r16.1 (by decide) (ints_one _ _)) (by simp only [maxLen]; omega) (by omega)
  have hg17 : ¬ (0 < l16 ∧ m + l16 ≤ cp ∧ ∃ a, q = some a ∧ a.block = g) := fun ⟨_, _, a, ha, e⟩ => (h7.lt ha).1.2 e
  have v17 : Upd O w w17 := Upd.then (y16.mono fun _ _ x => x.elim) u17 fun i _ ⟨_, _, a, ha, e⟩ => e ▸ (h7.lt ha).1.1
  have can1 : CanStore w17 g 1 := u17.can hg17 (y16.can h4)
  have can0 : CanStore w17 g 0 := u17.can hg17 (y16.can h3)
  refine ⟨_, _, _, w17, hrun, g, 0, rfl, can1, fun ws hs1 => ?_⟩
  have c0 : ws.cell? ⟨g, 0, none⟩ = some (.int .i64 cc.length) := by rw [hs1.other (.inr (by decide))]; exact u17.cell hg17 (y16.cell h5)
  refine ⟨g, 0, rfl, _, c0, inI64 (by omega) (by omega), g, 0, rfl, hs1.can can0, fun ws2 hs2 => ⟨rfl, ⟨h1, by rw [List.length_append]; exact hs, hs2.can (hs1.can can0), hs2.can (hs1.can can1), ?_, p17, m + l16, c17, ?_, ?_⟩, ?_⟩⟩
  · rw [hs2.cell (hs1.can can0), List.length_append]; simp
  · rw [hs2.other (.inr (by decide)), hs1.cell can1]
  · have r17' : Row w17 (fun k => O k ∧ k ≠ g) 1 p17 (m + l16) c17 ((endsF 0 (cc ++ xs)).map (Value.int .i64)) := by
      rw [endsF_append, List.map_append, Int.zero_add]
      refine r17.ok fun k _ hk => ?_
      rcases hk with hk | rfl
      · exact hk
      · have := y16.size; have := h3.lt
        exact ⟨hO _ y16.size, by omega⟩
    exact (r17'.upd hs1.upd fun a ha => (r17'.lt ha).1.2).upd hs2.upd fun a ha => (r17'.lt ha).1.2
  · exact Upd.then (Upd.then v17 hs1.upd fun i _ e => e ▸ h1) hs2.upd fun i _ e => e ▸ h1
/-- What Cut leaves. -/
def cutF (c : List Int) (at_ : Int) : List Int := if 0 ≤ at_ ∧ at_ ≤ c.length then c.take at_.toNat else c
theorem cutF_le (c : List Int) (at_ : Int) : (cutF c at_).length ≤ c.length := by unfold cutF; split <;> simp; omega
theorem cut_does {w : World} {O : Nat → Prop} {g : Nat} {c : List Int} (h : Idx w O g c) (at_ : Int) : Does Try.prog 18 #[.pointer (some ⟨g, 0, none⟩), .int .i64 at_] w fun e w' => e = .returned (.tuple #[]) ∧ Idx w' O g (cutF c at_) ∧ Upd O w w' := by
  apply f18_does
  have h0 := h
  obtain ⟨h1, h2, h3, h4, h5, p, l, cp, h6, h7⟩ := h
  refine tru rfl ⟨fun j => ?_, fun j => ?_⟩
  case refine_2 =>
    have j := of_decide_eq_false j
    exact ⟨rfl, by rw [cutF, if_neg (by omega)]; exact h0, Upd.refl _ _⟩
  have j := of_decide_eq_true j
  refine ⟨g, 0, rfl, _, h5, fun j2 => ?_, fun j2 => ?_⟩
  case refine_2 =>
    have j2 := of_decide_eq_false j2
    exact ⟨rfl, by rw [cutF, if_neg (by omega)]; exact h0, Upd.refl _ _⟩
  have j2 := of_decide_eq_true j2
  obtain ⟨hl, hi⟩ := h7.ints (ends_inK h2)
  have hle := endsF_le 0 c
  have hsp := endsF_split c at_.toNat (by omega)
  have hi' := hi
  rw [hsp] at hi hl hle
  rw [List.length_append] at hl hle
  obtain ⟨q1, q2⟩ := ends_parts (c := c) (n := at_.toNat) (by omega)
  refine ⟨g, 0, rfl, _, _, _, h6, (upto_does hi hl cp at_ (fun x hx => by have := q1 x hx; omega) (fun x hx => by have := q2 x hx; omega) (by omega)).imp ?_⟩
  rintro e w' ⟨rfl, rfl⟩
  refine ⟨_, rfl, fun wd2 hd => ⟨g, 0, rfl, _, _, _, hd.ext.cell h6, ⟨by omega, by have := h7.2.1; omega⟩, ⟨by omega, by omega⟩, g, 0, rfl, hd.ext.can h3, fun ws s1 => ⟨g, 0, rfl, s1.can (hd.ext.can h4), fun ws2 s2 => ?_⟩⟩⟩
  have r := (h7.ext hd.ext).sub (lo := 0) (hi := (endsF 0 (c.take at_.toNat)).length) (m := (endsF 0 (c.take at_.toNat)).length) (by omega) (by omega) (by omega) (by have := h7.2.1; omega)
  have hr : ((((endsF 0 c).map (Value.int .i64)).take ((endsF 0 (c.take at_.toNat)).length * 1)).drop (0 * 1)) = (endsF 0 (c.take at_.toNat)).map (Value.int .i64) := by
    simp only [Nat.mul_one, Nat.zero_mul, List.drop_zero]
    rw [hsp, List.map_append, List.take_left' (by simp)]
  rw [hr] at r
  have hct : cutF c at_ = c.take at_.toNat := by rw [cutF, if_pos ⟨by omega, by omega⟩]
  rw [hct]
  refine ⟨rfl, ⟨h1, by rw [List.length_take]; omega, s2.can (s1.can (hd.ext.can h3)), s2.can (s1.can (hd.ext.can h4)), ?_, _, _, _, s2.cell (s1.can (hd.ext.can h4)), ?_⟩, ?_⟩
  · rw [s2.other (.inr (by decide)), s1.cell (hd.ext.can h3), List.length_take]
    congr 2; omega
  · rw [show ((((endsF 0 (c.take at_.toNat)).length : Nat) : Int).toNat) = (endsF 0 (c.take at_.toNat)).length by omega]
    exact (r.upd s1.upd fun a ha => (r.lt ha).1.2).upd s2.upd fun a ha => (r.lt ha).1.2
  · exact Upd.then (Upd.then (hd.ext.mono fun _ _ x => x.elim) s1.upd fun i _ e => e ▸ h1) s2.upd fun i _ e => e ▸ h1
/-- What Edit leaves. -/
def editF (c : List Int) (at_ old : Int) (b : List Int) : List Int :=
  if at_ < 0 ∨ old < 0 ∨ at_ > c.length then c else if old > c.length - at_ then c.take at_.toNat else c.take at_.toNat ++ b ++ c.drop (at_ + old).toNat
theorem edit_does {w : World} {O : Nat → Prop} {g : Nat} {cc : List Int} (h : Idx w O g cc) (hO : ∀ k, w.heap.size ≤ k → O k) {ok : Nat → Prop} {p : Option Addr} {xs : List Int} (hx : Ints .u8 w ok p xs) {l : Nat} (hl : l = xs.length) (c : Nat)
    (hs : cc.length + xs.length ≤ 1000000000) (at_ old : Int) :
    Does Try.prog 15 #[.pointer (some ⟨g, 0, none⟩), .int .i64 at_, .int .i64 old, .slice p l c] w fun e w' => e = .returned (.tuple #[]) ∧ Idx w' O g (editF cc at_ old xs) ∧ Upd O w w' := by
  subst hl
  apply f15_does
  have h0 := h
  obtain ⟨h1, h2, h3, h4, h5, q, m, cp, h6, h7⟩ := h
  refine fls rfl ⟨fun j => ?_, fun j => ?_⟩
  · have j := of_decide_eq_true j
    exact ⟨rfl, by rw [editF, if_pos (.inl j)]; exact h0, Upd.refl _ _⟩
  have j := of_decide_eq_false j
  refine ⟨fun j2 => ?_, fun j2 => ?_⟩
  · have j2 := of_decide_eq_true j2
    exact ⟨rfl, by rw [editF, if_pos (.inr (.inl j2))]; exact h0, Upd.refl _ _⟩
  have j2 := of_decide_eq_false j2
  refine ⟨g, 0, rfl, _, h5, fun j3 => ?_, fun j3 => ?_⟩
  · have j3 := of_decide_eq_true j3
    exact ⟨rfl, by rw [editF, if_pos (.inr (.inr j3))]; exact h0, Upd.refl _ _⟩
  have j3 := of_decide_eq_false j3
  refine ⟨g, 0, rfl, _, h5, inI64 (by omega) (by omega), fun j4 => ?_, fun j4 => ?_⟩
  · have j4 := of_decide_eq_true j4
    refine (cut_does h0 at_).imp ?_
    rintro e w' ⟨rfl, hi, hu⟩
    refine ⟨rfl, rfl, ?_, hu⟩
    rw [editF, if_neg (by omega), if_pos (by omega)]
    rwa [cutF, if_pos ⟨by omega, by omega⟩] at hi
  have j4 := of_decide_eq_false j4
  have hE : editF cc at_ old xs = cc.take at_.toNat ++ xs ++ cc.drop (at_ + old).toNat := by rw [editF, if_neg (by omega), if_neg (by omega)]
  obtain ⟨hl, hi⟩ := h7.ints (ends_inK h2)
  have hle := endsF_le 0 cc
  have sp1 := endsF_split cc at_.toNat (by omega)
  have sp2 := endsF_split cc (at_ + old).toNat (by omega)
  have hl1 : (endsF 0 cc).length = (endsF 0 (cc.take at_.toNat)).length + (endsF at_.toNat (cc.drop at_.toNat)).length := by conv => lhs; rw [sp1, List.length_append]
  have hl2 : (endsF 0 cc).length = (endsF 0 (cc.take (at_ + old).toNat)).length + (endsF (at_ + old).toNat (cc.drop (at_ + old).toNat)).length := by conv => lhs; rw [sp2, List.length_append]
  obtain ⟨q1, q2⟩ := ends_parts (c := cc) (n := at_.toNat) (by omega)
  obtain ⟨q3, q4⟩ := ends_parts (c := cc) (n := (at_ + old).toNat) (by omega)
  intro wd3 hd3
  refine ⟨fun v => Ext wd3 v, Upd.refl _ _, g, 0, rfl, _, _, _, hd3.ext.cell h6, (upto_does (by rw [← sp1]; exact hi.ext hd3.ext) (by omega) cp at_ (fun x hx => by have := q1 x hx; omega) (fun x hx => by have := q2 x hx; omega) (by omega)).imp ?_⟩
  rintro e w47 ⟨rfl, rfl⟩
  refine ⟨_, rfl, Upd.refl _ _, g, 0, rfl, _, _, _, fun v hv => Ext.cell hv (hd3.ext.cell h6), inI64 (by omega) (by omega), (upto_does (by rw [← sp2]; exact hi.ext hd3.ext) (by omega) cp (at_ + old) (fun x hx => by have := q3 x hx; omega) (fun x hx => by have := q4 x hx; omega) (by omega)).imp ?_⟩
  rintro e w55 ⟨rfl, rfl⟩
  refine ⟨_, rfl, fun wd4 hd4 => ?_⟩
  have x4 : Ext w wd4 := Ext.then hd3.ext hd4.ext
  generalize hn1 : (endsF 0 (cc.take at_.toNat)).length = n1 at *
  generalize hn2 : (endsF 0 (cc.take (at_ + old).toNat)).length = n2 at *
  refine ⟨fun v => Ext wd4 v, Upd.refl _ _, g, 0, rfl, _, _, _, fun v hv => Ext.cell hv (x4.cell h6), ⟨by omega, by have := h7.2.1; omega⟩, ⟨by omega, by omega⟩, ?_⟩
  refine (ends_does (hx.ext x4) rfl c at_ (by omega) (by omega) (by omega)).imp ?_
  rintro e w65 ⟨p65, l65, c65, rfl, r65, x65⟩
  have y65 : Ext w w65 := Ext.then x4 x65
  have b2 := endsF_le at_ xs
  have hl65 := r65.1
  simp only [List.length_map, Nat.mul_one] at hl65
  have r := (h7.ext y65).sub (lo := 0) (hi := n1) (m := n1) (by omega) (by omega) (by omega) (by have := h7.2.1; omega)
  have hr : ((((endsF 0 cc).map (Value.int .i64)).take (n1 * 1)).drop (0 * 1)) = (endsF 0 (cc.take at_.toNat)).map (Value.int .i64) := by
    simp only [Nat.mul_one, Nat.zero_mul, List.drop_zero]
    rw [sp1, List.map_append, List.take_left' (by simp [hn1])]
  rw [hr] at r
  rw [show ((n1 : Int).toNat) = n1 by omega, show ((n2 : Int).toNat) = n2 by omega]
  obtain ⟨p66, c66, w66, hrun, r66, u66, at66⟩ := Row.append slI 42 r (Src.kit (P := Try.prog) r65.src Try.underlying42 (n := l65) c65 r65.1 (by decide) (ints_one _ _)) (by simp only [maxLen]; omega) (by omega)
  have hgo : ∀ a, subp q 0 n1 1 = some a → O a.block ∧ a.block ≠ g := fun a ha => (r.lt ha).1
  have x66 : Ext w w66 := Upd.then y65 u66 fun i _ ⟨a1, a2, _⟩ => by omega
  have hsize := x66.size
  have hglt := h3.lt
  refine ⟨_, _, _, rfl, x65, _, _, _, w66, hrun, g, 0, rfl, _, _, _, x66.cell h6, ⟨by omega, by omega⟩, ?_⟩
  have r66' : Row w66 (fun k => O k ∧ k ≠ g) 1 p66 (n1 - 0 + l65) c66 ((endsF 0 (cc.take at_.toNat)).map (Value.int .i64) ++ (endsF at_ xs).map (Value.int .i64)) := r66.ok fun k _ hk => by
    rcases hk with hk | rfl
    · exact hk
    · have := y65.size
      exact ⟨hO _ this, by omega⟩
  have full66 : ∀ a, p66 = some a → w.heap.size ≤ a.block ∨ n1 - 0 + l65 = c66 := fun a ha => by
    rcases at66 with ⟨b1, b2, b3⟩ | ⟨b1, b2⟩
    · right; have := r66.2.1; omega
    · left; rw [b2] at ha; injection ha with ha; subst ha; exact y65.size
  have hE2 : ∀ {wl}, Ext w wl → Ints .i64 wl (fun k => O k ∧ k ≠ g) (subp q n2 cp 1) (endsF (at_ + old).toNat (cc.drop (at_ + old).toNat)) := fun hw => by
    have := (hi.ext hw).sub n2 m cp h7.2.1
    rw [hl, List.take_length] at this
    rw [sp2, List.drop_left' hn2] at this
    exact this
  generalize hE2d : endsF (at_ + old).toNat (cc.drop (at_ + old).toNat) = E2 at *
  have hm2 : m - n2 = E2.length := by omega
  rw [hm2]
  have hb2 : ∀ x ∈ E2, 0 ≤ x ∧ x ≤ 1000000000 := fun x hx => by
    rw [← hE2d] at hx
    have := endsF_bounds hx
    rw [List.length_drop] at this
    omega
  have hEb := endsF_le 0 cc
  have hEb1 := endsF_le 0 (cc.take at_.toNat)
  refine ⟨fun p l c i n wl => ∃ j : Nat, i = j ∧ n = E2.length - j ∧ j ≤ E2.length ∧ Row wl (fun k => O k ∧ k ≠ g) 1 p l c (((endsF 0 (cc.take at_.toNat) ++ endsF at_ xs) ++ (E2.take j).map (fun e => e + xs.length - old)).map (Value.int .i64)) ∧
    (∀ a, p = some a → w.heap.size ≤ a.block ∨ l = c) ∧ Ext w wl, ⟨_, 0, rfl, rfl, Nat.zero_le _, by simpa using r66', full66, x66⟩, ?_⟩
  rintro p10 l10 c10 _ n wl ⟨k, rfl, rfl, hk, hr10, full, hw⟩
  have hl10 := hr10.1
  simp only [List.length_map, List.length_append, List.length_take, Nat.mul_one] at hl10
  refine ⟨fun jj => ?_, fun jj => ?_⟩
  · have jj := of_decide_eq_true jj
    have hlt : k < E2.length := by omega
    obtain ⟨b, o, hp, hc⟩ := (hE2 hw).at k hlt
    have := hb2 _ (List.getElem_mem hlt)
    refine ⟨⟨by omega, by omega⟩, b, o, hp, _, hc, inI64 (by omega) (by omega), inI64 (by omega) (by omega), fun b85 w85 hn => ?_⟩
    obtain ⟨p', c', w', hrun', hr', hu', at'⟩ := Row.append slI 42 (hr10.ext hn.ext) (Src.kit (P := Try.prog) hn.src Try.underlying42 (n := 1) 1 rfl (by decide) (by simp [Value.oneCell'])) (by simp only [maxLen]; omega) (by omega)
    refine ⟨_, _, _, w', hrun', inI64 (by omega) (by omega), E2.length - (k + 1), by omega, k + 1, by omega, rfl, hlt, ?_, ?_, ?_⟩
    · rw [List.take_succ_eq_append_getElem hlt]
      simp only [List.map_append, List.map_cons, List.map_nil, List.append_assoc] at hr' ⊢
      refine hr'.ok fun z _ hz => ?_
      rcases hz with hz | rfl
      · exact hz
      · have h1 := hw.size; have h2 := hn.size
        exact ⟨hO _ (by omega), by omega⟩
    · intro a ha
      rcases at' with ⟨b1, b2, b3⟩ | ⟨b1, b2⟩
      · rw [b2] at ha
        rcases full a ha with h | h
        · exact .inl h
        · omega
      · left; rw [b2] at ha; injection ha with ha; subst ha
        have h1 := hw.size; have h2 := hn.size
        show w.heap.size ≤ w85.heap.size
        omega
    · refine Upd.then (Ext.then hw hn.ext) hu' fun i hi ⟨_, b1, a, ha, e⟩ => ?_
      rcases full a ha with h | h <;> omega
  · have jj := of_decide_eq_false jj
    obtain rfl : k = E2.length := by omega
    rw [List.take_length] at hr10
    refine ⟨g, 0, rfl, _, hw.cell h5, inI64 (by omega) (by omega), inI64 (by omega) (by omega), g, 0, rfl, hw.can h3, fun ws s1 => ⟨g, 0, rfl, s1.can (hw.can h4), fun ws2 s2 => ?_⟩⟩
    have hlen : ((editF cc at_ old xs).length : Int) = cc.length + xs.length - old := by
      rw [hE]; simp; omega
    have hends : endsF 0 (editF cc at_ old xs) = (endsF 0 (cc.take at_.toNat) ++ endsF at_ xs) ++ E2.map (fun e => e + xs.length - old) := by
      have hf : (fun e : Int => e + xs.length - old) = (· + ((xs.length : Int) - old)) := by funext e; omega
      rw [hE, endsF_append, endsF_append, hf, ← hE2d, endsF_shift, List.length_append, List.length_take]
      congr 2
      · congr 1; omega
      · omega
    refine ⟨rfl, ⟨h1, by omega, s2.can (s1.can (hw.can h3)), s2.can (s1.can (hw.can h4)), ?_, _, _, _, s2.cell (s1.can (hw.can h4)), ?_⟩, ?_⟩
    · rw [s2.other (.inr (by decide)), s1.cell (hw.can h3), hlen]
    · rw [hends]
      exact (hr10.upd s1.upd fun a ha => (hr10.lt ha).1.2).upd s2.upd fun a ha => (hr10.lt ha).1.2
    · exact Upd.then (Upd.then (hw.mono fun _ _ x => x.elim) s1.upd fun i _ e => e ▸ h1) s2.upd fun i _ e => e ▸ h1
end Go.Proofs.Ytgamedgeaiddhaa
