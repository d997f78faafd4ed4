/-
  Bytes: what common functions of the code do.
-/
import Derived.Test.YtiblbjagfiigdaaV
import Derived.Test.YtiblbjagfiigdaaWords2
namespace Go.Proofs.Ytiblbjagfiigdaa
open Go.RowKit Go.Vc
theorem slB : SlT Try.prog 22 5 1 1 := ⟨Try.underlying22, _, _, rfl, rfl, rfl, rfl, rfl, by decide⟩
/-- An append to an own row of bytes. -/
theorem append_b {w : World} {base : Nat} {p : Option Addr} {l c : Nat} {xs ys : List Int} (ho : Own w base 5 1 p l c (xs.map (Value.int .u8))) {ok : Nat → Prop} {p2 : Option Addr} (hy : Ints .u8 w ok p2 ys) {l2 : Nat} (hl : l2 = ys.length) (c2 : Nat)
    (hs : xs.length + ys.length ≤ 140737488351232) (hb : base ≤ w.heap.size) :
    ∃ p' c' w', (Builtin.append_ #[22, 22] 22 #[.slice p l c, .slice p2 l2 c2]).run Try.prog w = .ok (.slice p' (xs.length + ys.length) c') w' ∧ Own w' base 5 1 p' (xs.length + ys.length) c' ((xs ++ ys).map (Value.int .u8)) ∧
      Upd (fun k => ∃ a, p = some a ∧ a.block = k) w w' := by
  have hl' := ho.len
  rw [List.length_map] at hl'
  subst hl hl'
  obtain ⟨p', c', w', hr, ho', hu, _⟩ := append_own slB 22 ho (l2 := ys.length) (c2 := c2) (news := ys.map (Value.int .u8)) (by simp) hy.src (ints_one _ _) (by simp only [maxLen]; omega) (by omega) hb
  exact ⟨p', c', w', hr, by rw [List.map_append]; exact ho', hu⟩
/-- escritoireref1.Copy: bytes in new memory. -/
theorem copy_does {w : World} {ok : Nat → Prop} {p : Option Addr} {xs : List Int} (hx : Ints .u8 w ok p xs) {l : Nat} (hl : l = xs.length) (c : Nat) (hs : xs.length ≤ 140737488351232) :
    Does Try.prog 47 #[.slice p l c] w fun e w' => ∃ p' c', e = .returned (.slice p' l c') ∧ Own w' w.heap.size 5 1 p' l c' (xs.map (Value.int .u8)) ∧ Ext w w' := by
  subst hl
  apply f47_does
  refine ⟨fun p l c i n wl => ∃ k : Nat, i = k ∧ k = l ∧ n = xs.length - k ∧ k ≤ xs.length ∧ Own wl w.heap.size 5 1 p l c ((xs.take k).map (Value.int .u8)) ∧ Ext w wl,
    ⟨_, 0, rfl, rfl, rfl, Nat.zero_le _, by simpa using own_nil _ _ _ _, Upd.refl _ _⟩, ?_⟩
  rintro p3 l3 c3 _ n wl ⟨k, rfl, rfl, rfl, hk, ho, hw⟩
  refine ⟨fun h => ?_, fun h => ?_⟩
  · have h := of_decide_eq_true h
    have hlt : k < xs.length := by omega
    obtain ⟨b, o, hp, hc⟩ := (hx.ext hw).at k hlt
    refine ⟨⟨by omega, by omega⟩, b, o, hp, _, hc, fun b1 w1 hn => ?_⟩
    obtain ⟨p', c', w2, hr, ho', hu, _⟩ := append_own slB 22 (ho.ext hn.ext) (p2 := some ⟨b1, 0, none⟩) (l2 := 1) (c2 := 1) (news := [.int .u8 xs[k]]) rfl hn.src (by simp [Value.oneCell']) (by simp only [maxLen]; omega) (by omega)
      (by have := hw.size; have := hn.size; omega)
    refine ⟨p', _, c', w2, hr, inI64 (by omega) (by omega), xs.length - (k + 1), by omega, k + 1, by omega, rfl, rfl, hlt, ?_, ?_⟩
    · rw [List.take_succ_eq_append_getElem hlt, List.map_append]; exact ho'
    · exact Own.ext_of (ho.ext hn.ext) hu (Ext.then hw hn.ext) (Nat.le_refl _)
  · have h := of_decide_eq_false h
    have : k = xs.length := by omega
    subst this
    exact ⟨p3, c3, rfl, by simpa using ho, hw⟩
/-- escritoireref1.Same: are two rows of bytes? -/
theorem same_does {w : World} {ok ok' : Nat → Prop} {p q : Option Addr} {xs ys : List Int} (hx : Ints .u8 w ok p xs) (hy : Ints .u8 w ok' q ys) {l m : Nat} (hl : l = xs.length) (hm : m = ys.length) (c d : Nat)
    (hs : xs.length ≤ 9223372036854775807) :
    Does Try.prog 15 #[.slice p l c, .slice q m d] w fun e w' => e = .returned (.bool (decide (xs = ys))) ∧ Ext w w' := by
  subst hl hm
  apply f15_does
  by_cases hlen : xs.length = ys.length
  case neg =>
    refine tru (by simp; omega) ⟨?_, Upd.refl _ _⟩
    rw [decide_eq_false (fun h => hlen (by rw [h]))]
  refine fls (by simp [hlen]) ?_
  refine ⟨fun i n wl => ∃ k : Nat, i = k ∧ n = xs.length - k ∧ k ≤ xs.length ∧ xs.take k = ys.take k ∧ Ext w wl, ⟨_, 0, rfl, rfl, Nat.zero_le _, rfl, Upd.refl _ _⟩, ?_⟩
  rintro _ n wl ⟨k, rfl, rfl, hk, heq, hw⟩
  refine ⟨fun h => ?_, fun h => ?_⟩
  · have h := of_decide_eq_true h
    have hlt : k < xs.length := by omega
    intro wd hd
    have hwd := Ext.then hw hd.ext
    obtain ⟨b, o, hp, hc⟩ := (hx.ext hwd).at k hlt
    obtain ⟨b', o', hp', hc'⟩ := (hy.ext hwd).at k (by omega)
    refine ⟨⟨by omega, by omega⟩, b, o, hp, _, hc, ⟨by omega, by omega⟩, b', o', hp', _, hc', fun h => ?_, fun h => ?_⟩
    · refine ⟨?_, hwd⟩
      have hne : xs[k] ≠ ys[k] := by simpa using h
      rw [decide_eq_false (fun h => hne (by simp [h]))]
    · have he : xs[k] = ys[k] := by simpa using h
      refine ⟨inI64 (by omega) (by omega), xs.length - (k + 1), by omega, k + 1, by omega, rfl, hlt, ?_, hwd⟩
      rw [List.take_succ_eq_append_getElem hlt, List.take_succ_eq_append_getElem (by omega), heq, he]
  · have h := of_decide_eq_false h
    have : k = xs.length := by omega
    subst this
    refine ⟨?_, hw⟩
    rw [decide_eq_true]
    rw [List.take_length] at heq
    rw [heq, hlen, List.take_length]
end Go.Proofs.Ytiblbjagfiigdaa
