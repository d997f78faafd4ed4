/-
  Edits: what each function of the code does, second part: lists of edits.
-/
import Derived.Test.YtlenmnffdbgkkaaEditCalls
namespace Go.Proofs.Ytlenmnffdbgkkaa
open Go.RowKit Go.Vc
theorem slE : SlT Try.prog 59 58 3 56 := ⟨Try.underlying59, _, _, rfl, rfl, rfl, rfl, rfl, by decide⟩
theorem take_snoc_eq {α : Type} {xs ys : List α} {k : Nat} (h : k < xs.length) (h' : k < ys.length) (he : xs.take k = ys.take k) (hk : xs[k] = ys[k]) : xs.take (k + 1) = ys.take (k + 1) := by
  rw [List.take_succ_eq_append_getElem h, List.take_succ_eq_append_getElem h', he, hk]
/-- escritoireref18.Same. -/
theorem rsame_does {w : World} {ok ok' : Nat → Prop} {p q : Option Addr} {xs ys : List E} (hx : Edits w ok p xs) (hy : Edits w ok' q ys) {l m : Nat} (hl : l = xs.length) (hm : m = ys.length) (c d : Nat)
    (hs : xs.length ≤ 9223372036854775807) (hb : ∀ e ∈ xs, e.old.length ≤ 9223372036854775807 ∧ e.new.length ≤ 9223372036854775807) :
    Does Try.prog 39 #[.slice p l c, .slice q m d] w fun e w' => e = .returned (.bool (decide (xs = ys))) ∧ Ext w w' := by
  subst hl hm
  apply f39_does
  by_cases hlen : xs.length = ys.length
  case neg =>
    refine tru (by simp; omega) ⟨?_, Upd.refl _ _⟩
    rw [decide_eq_false (fun h => hlen (by rw [h]))]
  refine fls (by simp [hlen]) ?_
  refine ⟨fun i n wl => ∃ k : Nat, i = k ∧ n = xs.length - k ∧ k ≤ xs.length ∧ xs.take k = ys.take k ∧ Ext w wl, ⟨_, 0, rfl, rfl, Nat.zero_le _, rfl, Upd.refl _ _⟩, ?_⟩
  rintro _ n wl ⟨k, rfl, rfl, hk, heq, hw⟩
  refine ⟨fun h => ?_, fun h => ?_⟩
  · have h := of_decide_eq_true h
    have hlt : k < xs.length := by omega
    have hlt' : k < ys.length := by omega
    intro wd hd
    have hwd := Ext.then hw hd.ext
    obtain ⟨b, o, p1, c1, p2, c2, hp, _, a1, a2, a3, _, _, a4, _, a5⟩ := (hx.ext hwd).at k hlt
    obtain ⟨b', o', q1, d1, q2, d2, hp', _, b1, b2, b3, _, _, b4, _, b5⟩ := (hy.ext hwd).at k hlt'
    refine ⟨fun v => Ext wd v, Upd.refl _ _, ⟨by omega, by omega⟩, b, o, hp, _, a1, ⟨by omega, by omega⟩, b', o', hp', _, b1, fun h => ?_, fun h => ?_⟩
    · refine ⟨?_, hwd⟩
      have hne : xs[k].at_ ≠ ys[k].at_ := by simpa using h
      rw [decide_eq_false (fun h => hne (by simp [h]))]
    have he1 : xs[k].at_ = ys[k].at_ := by simpa using h
    refine ⟨⟨by omega, by omega⟩, b, o, hp, _, _, _, a2, ⟨by omega, by omega⟩, b', o', hp', _, _, _, b2, (same_does a4 b4 rfl rfl _ _ (hb _ (List.getElem_mem _)).1).imp ?_⟩
    rintro e w39 ⟨rfl, hw39⟩
    refine ⟨_, rfl, hw39, fun h => ?_, fun h => ?_⟩
    · have hne : xs[k].old ≠ ys[k].old := by simpa using h
      refine ⟨?_, Ext.then hwd hw39⟩
      rw [decide_eq_false (fun h => hne (by simp [h]))]
    have he2 : xs[k].old = ys[k].old := by simpa using h
    refine ⟨⟨by omega, by omega⟩, b, o, hp, _, _, _, fun v hv => Ext.cell hv a3, ⟨by omega, by omega⟩, b', o', hp', _, _, _, fun v hv => Ext.cell hv b3, (same_does (a5.ext hw39) (b5.ext hw39) rfl rfl _ _ (hb _ (List.getElem_mem _)).2).imp ?_⟩
    rintro e w53 ⟨rfl, hw53⟩
    refine ⟨_, rfl, fun h => ?_, fun h => ?_⟩
    · have hne : xs[k].new ≠ ys[k].new := by simpa using h
      refine ⟨?_, Ext.then (Ext.then hwd hw39) hw53⟩
      rw [decide_eq_false (fun h => hne (by simp [h]))]
    have he3 : xs[k].new = ys[k].new := by simpa using h
    exact ⟨inI64 (by omega) (by omega), xs.length - (k + 1), by omega, k + 1, by omega, rfl, hlt, take_snoc_eq hlt hlt' heq (E.ext.2 ⟨he1, he2, he3⟩), Ext.then (Ext.then hwd hw39) hw53⟩
  · have h := of_decide_eq_false h
    have : k = xs.length := by omega
    subst this
    refine ⟨?_, hw⟩
    rw [decide_eq_true]
    rw [List.take_length] at heq
    rw [heq, hlen, List.take_length]
theorem turnE_take {xs : List E} {k : Nat} (h : k < xs.length) : turnE (xs.drop (k + 1)) ++ [turn1 xs[k]] = turnE (xs.drop k) := by
  rw [turnE, turnE, List.drop_eq_getElem_cons h, List.map_cons, List.reverse_cons]
end Go.Proofs.Ytlenmnffdbgkkaa
