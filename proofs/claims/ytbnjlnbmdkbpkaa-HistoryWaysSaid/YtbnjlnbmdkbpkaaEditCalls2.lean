/-
  Edits: what each function of the code does, second part: lists of edits.
-/
import Derived.Test.YtbnjlnbmdkbpkaaEditCalls
namespace Go.Proofs.Ytbnjlnbmdkbpkaa
open Go.RowKit Go.Vc
theorem slE : SlT Try.prog 45 43 3 56 := ⟨Try.underlying45, _, _, rfl, rfl, rfl, rfl, rfl, by decide⟩
theorem take_snoc_eq {α : Type} {xs ys : List α} {k : Nat} (h : k < xs.length) (h' : k < ys.length) (he : xs.take k = ys.take k) (hk : xs[k] = ys[k]) : xs.take (k + 1) = ys.take (k + 1) := by
  rw [List.take_succ_eq_append_getElem h, List.take_succ_eq_append_getElem h', he, hk]
/-- escritoireref18.Same. -/
theorem rsame_does {w : World} {ok ok' : Nat → Prop} {p q : Option Addr} {xs ys : List E} (hx : Edits w ok p xs) (hy : Edits w ok' q ys) {l m : Nat} (hl : l = xs.length) (hm : m = ys.length) (c d : Nat)
    (hs : xs.length ≤ 9223372036854775807) (hb : ∀ e ∈ xs, e.old.length ≤ 9223372036854775807 ∧ e.new.length ≤ 9223372036854775807) :
    Does Try.prog 24 #[.slice p l c, .slice q m d] w fun e w' => e = .returned (.bool (decide (xs = ys))) ∧ Ext w w' := by
  subst hl hm
  apply f24_does
  by_cases hlen : xs.length = ys.length
  case neg =>
    refine tru (by simp; omega) ⟨?_, Upd.refl _ _⟩
    rw [decide_eq_false (fun h => hlen (by rw [h]))]
  refine fls (by simp [hlen]) ?_
  refine ⟨fun i n wl => ∃ k : Nat, i = k ∧ n = xs.length - k ∧ k ≤ xs.length ∧ xs.take k = ys.take k ∧ Ext w wl, ⟨_, 0, rfl, rfl, Nat.zero_le _, rfl, Upd.refl _ _⟩, ?_⟩
  rintro _ n wl ⟨k, rfl, rfl, hk, heq, hw⟩
  refine ⟨fun h => ?_, fun h => ?_⟩
  · have h := of_decide_eq_true h
    have hlt : k < xs.length := by omega
    have hlt' : k < ys.length := by omega
    intro wd hd
    have hwd := Ext.then hw hd.ext
    obtain ⟨b, o, p1, c1, p2, c2, hp, _, a1, a2, a3, _, _, a4, _, a5⟩ := (hx.ext hwd).at k hlt
    obtain ⟨b', o', q1, d1, q2, d2, hp', _, b1, b2, b3, _, _, b4, _, b5⟩ := (hy.ext hwd).at k hlt'
    refine ⟨fun v => Ext wd v, Upd.refl _ _, ⟨by omega, by omega⟩, b, o, hp, _, a1, ⟨by omega, by omega⟩, b', o', hp', _, b1, fun h => ?_, fun h => ?_⟩
    · refine ⟨?_, hwd⟩
      have hne : xs[k].at_ ≠ ys[k].at_ := by simpa using h
      rw [decide_eq_false (fun h => hne (by simp [h]))]
    have he1 : xs[k].at_ = ys[k].at_ := by simpa using h
    refine ⟨⟨by omega, by omega⟩, b, o, hp, _, _, _, a2, ⟨by omega, by omega⟩, b', o', hp', _, _, _, b2, (same_does a4 b4 rfl rfl _ _ (hb _ (List.getElem_mem _)).1).imp ?_⟩
    rintro e w39 ⟨rfl, hw39⟩
    refine ⟨_, rfl, hw39, fun h => ?_, fun h => ?_⟩
    · have hne : xs[k].old ≠ ys[k].old := by simpa using h
      refine ⟨?_, Ext.then hwd hw39⟩
      rw [decide_eq_false (fun h => hne (by simp [h]))]
    have he2 : xs[k].old = ys[k].old := by simpa using h
    refine ⟨⟨by omega, by omega⟩, b, o, hp, _, _, _, fun v hv => Ext.cell hv a3, ⟨by omega, by omega⟩, b', o', hp', _, _, _, fun v hv => Ext.cell hv b3, (same_does (a5.ext hw39) (b5.ext hw39) rfl rfl _ _ (hb _ (List.getElem_mem _)).2).imp ?_⟩
    rintro e w53 ⟨rfl, hw53⟩
    refine ⟨_, rfl, fun h => ?_, fun h => ?_⟩
    · have hne : xs[k].new ≠ ys[k].new := by simpa using h
      refine ⟨?_, Ext.then (Ext.then hwd hw39) hw53⟩
      rw [decide_eq_false (fun h => hne (by simp [h]))]
    have he3 : xs[k].new = ys[k].new := by simpa using h
    exact ⟨inI64 (by omega) (by omega), xs.length - (k + 1), by omega, k + 1, by omega, rfl, hlt, take_snoc_eq hlt hlt' heq (E.ext.2 ⟨he1, he2, he3⟩), Ext.then (Ext.then hwd hw39) hw53⟩
  · have h := of_decide_eq_false h
    have : k = xs.length := by omega
    subst this
    refine ⟨?_, hw⟩
    rw [decide_eq_true]
    rw [List.take_length] at heq
    rw [heq, hlen, List.take_length]
theorem turnE_take {xs : List E} {k : Nat} (h : k < xs.length) : turnE (xs.drop (k + 1)) ++ [turn1 xs[k]] = turnE (xs.drop k) := by
  rw [turnE, turnE, List.drop_eq_getElem_cons h, List.map_cons, List.reverse_cons]
/-- What edit.Turn makes of a list. -/
theorem turn_does {w : World} {ok : Nat → Prop} {p : Option Addr} {xs : List E} (hx : Edits w ok p xs) {l : Nat} (hl : l = xs.length) (c : Nat) (hs : xs.length ≤ 1000000000)
    (hb : ∀ e ∈ xs, e.old.length ≤ 1000000000 ∧ e.new.length ≤ 1000000000) :
    Does Try.prog 25 #[.slice p l c] w fun e w' => ∃ p' c', e = .returned (.slice p' l c') ∧ OwnL EditV w' w.heap.size 43 3 p' l c' (turnE xs) ∧ Ext w w' := by
  subst hl
  apply f25_does
  refine ⟨inI64 (by omega) (by omega), fun p l c i n wl => ∃ k : Nat, i = (k : Int) - 1 ∧ k = n ∧ l + k = xs.length ∧ OwnL EditV wl w.heap.size 43 3 p l c (turnE (xs.drop k)) ∧ Ext w wl,
    ⟨_, xs.length, rfl, rfl, by omega, by simpa [turnE] using OwnL.nil _ _ _ _, Upd.refl _ _⟩, ?_⟩
  rintro p3 l3 c3 _ _ wl ⟨k, rfl, rfl, hk, ho, hw⟩
  refine ⟨fun h => ?_, fun h => ?_⟩
  · have h := of_decide_eq_true h
    obtain ⟨k, rfl⟩ : ∃ j, k = j + 1 := ⟨k - 1, by omega⟩
    have hlt : k < xs.length := by omega
    have ek : (((k + 1 : Nat) : Int) - 1) = (k : Int) := by omega
    rw [ek]
    intro wd hd
    have hwd := Ext.then hw hd.ext
    obtain ⟨b, o, p1, c1, p2, c2, hp, _, a1, a2, a3, hin, h1, a4, h2, a5⟩ := (hx.ext hwd).at k hlt
    have hbk := hb _ (List.getElem_mem hlt)
    refine ⟨fun v => Ext wd v, Upd.refl _ _, ⟨by omega, by omega⟩, b, o, hp, _, fun v hv => Ext.cell hv a1, ⟨by omega, by omega⟩, b, o, hp, _, _, _, a3, (own_does a5 rfl _ (by omega)).imp ?_⟩
    rintro e w23 ⟨p23, c23, rfl, o23, hw23⟩
    refine ⟨_, _, _, rfl, hw23, ⟨by omega, by omega⟩, b, o, hp, _, _, _, fun v hv => Ext.cell hv a2, (own_does (a4.ext hw23) rfl _ (by omega)).imp ?_⟩
    rintro e w29 ⟨p29, c29, rfl, o29, hw29⟩
    refine ⟨_, _, _, rfl, Ext.then hw23 hw29, fun b31 w31 hn => ?_⟩
    have hl31 : Ext wl w31 := Ext.then (Ext.then (Ext.then hd.ext hw23) hw29) hn.ext
    have o23' := (o23.ext (Ext.then hw29 hn.ext))
    have o29' := (o29.ext hn.ext)
    have hsz : wl.heap.size ≤ wd.heap.size := hd.ext.size
    have hin23 : ∀ g, wd.heap.size ≤ g ∧ g < w31.heap.size → Inner w31 w.heap.size p3 g := fun g hg => ⟨by have := hwd.size; omega, hg.2, fun a ea => by have := (ho.base ea).2; omega⟩
    obtain ⟨p', c', w32, hr, ho', hu, _⟩ := OwnL.append EditV.stable EditV.widens slE 45 (ho.ext EditV.stable EditV.widens hl31) (b := b31) (vs := [.int .i64 xs[k].at_, .slice p23 xs[k].new.length c23, .slice p29 xs[k].old.length c29]) rfl
      (fun j u hj => hn.cell j hj) (by simp [Value.oneCell']) (x := turn1 xs[k])
      ⟨p23, c23, p29, c29, rfl, hin, o23.cap.1, (o23'.ints a5.inK).ok (fun g _ hg => hin23 g hg), o29.cap.1, (o29'.ints a4.inK).ok (fun g _ hg => hin23 g ⟨by have := hw23.size; omega, hg.2⟩)⟩ (by simp only [maxLen]; omega) (by omega) (by have := Ext.then hw hl31; exact this.size)
    rw [turnE_take hlt] at ho'
    exact ⟨p', _, c', w32, hr, inI64 (by omega) (by omega), k, by omega, k, rfl, rfl, by omega, ho', OwnL.ext_of (ho.ext EditV.stable EditV.widens hl31) hu (Ext.then hw hl31) (Nat.le_refl _)⟩
  · have h := of_decide_eq_false h
    obtain rfl : k = 0 := by omega
    refine ⟨p3, c3, ?_, by simpa [show l3 = xs.length by omega] using ho, hw⟩
    rw [show l3 = xs.length by omega]
/-- escritoireref18.Turn. -/
theorem rturn_does {w : World} {ok : Nat → Prop} {p : Option Addr} {xs : List E} (hx : Edits w ok p xs) {l : Nat} (hl : l = xs.length) (c : Nat) (hs : xs.length ≤ 1000000000)
    (hb : ∀ e ∈ xs, e.old.length ≤ 1000000000 ∧ e.new.length ≤ 1000000000) :
    Does Try.prog 48 #[.slice p l c] w fun e w' => ∃ p' c', e = .returned (.slice p' l c') ∧ OwnL EditV w' w.heap.size 43 3 p' l c' (turnE xs) ∧ Ext w w' := by
  subst hl
  apply f48_does
  refine ⟨inI64 (by omega) (by omega), fun p l c i n wl => ∃ k : Nat, i = (k : Int) - 1 ∧ k = n ∧ l + k = xs.length ∧ OwnL EditV wl w.heap.size 43 3 p l c (turnE (xs.drop k)) ∧ Ext w wl,
    ⟨_, xs.length, rfl, rfl, by omega, by simpa [turnE] using OwnL.nil _ _ _ _, Upd.refl _ _⟩, ?_⟩
  rintro p3 l3 c3 _ _ wl ⟨k, rfl, rfl, hk, ho, hw⟩
  refine ⟨fun h => ?_, fun h => ?_⟩
  · have h := of_decide_eq_true h
    obtain ⟨k, rfl⟩ : ∃ j, k = j + 1 := ⟨k - 1, by omega⟩
    have hlt : k < xs.length := by omega
    have ek : (((k + 1 : Nat) : Int) - 1) = (k : Int) := by omega
    rw [ek]
    intro wd hd
    have hwd := Ext.then hw hd.ext
    obtain ⟨b, o, p1, c1, p2, c2, hp, _, a1, a2, a3, hin, h1, a4, h2, a5⟩ := (hx.ext hwd).at k hlt
    have hbk := hb _ (List.getElem_mem hlt)
    refine ⟨fun v => Ext wd v, Upd.refl _ _, ⟨by omega, by omega⟩, b, o, hp, _, fun v hv => Ext.cell hv a1, ⟨by omega, by omega⟩, b, o, hp, _, _, _, a3, (copy_does a5 rfl _ (by omega)).imp ?_⟩
    rintro e w23 ⟨p23, c23, rfl, o23, hw23⟩
    refine ⟨_, _, _, rfl, hw23, ⟨by omega, by omega⟩, b, o, hp, _, _, _, fun v hv => Ext.cell hv a2, (copy_does (a4.ext hw23) rfl _ (by omega)).imp ?_⟩
    rintro e w29 ⟨p29, c29, rfl, o29, hw29⟩
    refine ⟨_, _, _, rfl, Ext.then hw23 hw29, fun b31 w31 hn => ?_⟩
    have hl31 : Ext wl w31 := Ext.then (Ext.then (Ext.then hd.ext hw23) hw29) hn.ext
    have o23' := (o23.ext (Ext.then hw29 hn.ext))
    have o29' := (o29.ext hn.ext)
    have hsz : wl.heap.size ≤ wd.heap.size := hd.ext.size
    have hin23 : ∀ g, wd.heap.size ≤ g ∧ g < w31.heap.size → Inner w31 w.heap.size p3 g := fun g hg => ⟨by have := hwd.size; omega, hg.2, fun a ea => by have := (ho.base ea).2; omega⟩
    obtain ⟨p', c', w32, hr, ho', hu, _⟩ := OwnL.append EditV.stable EditV.widens slE 45 (ho.ext EditV.stable EditV.widens hl31) (b := b31) (vs := [.int .i64 xs[k].at_, .slice p23 xs[k].new.length c23, .slice p29 xs[k].old.length c29]) rfl
      (fun j u hj => hn.cell j hj) (by simp [Value.oneCell']) (x := turn1 xs[k])
      ⟨p23, c23, p29, c29, rfl, hin, o23.cap.1, (o23'.ints a5.inK).ok (fun g _ hg => hin23 g hg), o29.cap.1, (o29'.ints a4.inK).ok (fun g _ hg => hin23 g ⟨by have := hw23.size; omega, hg.2⟩)⟩ (by simp only [maxLen]; omega) (by omega) (by have := Ext.then hw hl31; exact this.size)
    rw [turnE_take hlt] at ho'
    exact ⟨p', _, c', w32, hr, inI64 (by omega) (by omega), k, by omega, k, rfl, rfl, by omega, ho', OwnL.ext_of (ho.ext EditV.stable EditV.widens hl31) hu (Ext.then hw hl31) (Nat.le_refl _)⟩
  · have h := of_decide_eq_false h
    obtain rfl : k = 0 := by omega
    refine ⟨p3, c3, ?_, by simpa [show l3 = xs.length by omega] using ho, hw⟩
    rw [show l3 = xs.length by omega]
end Go.Proofs.Ytbnjlnbmdkbpkaa
