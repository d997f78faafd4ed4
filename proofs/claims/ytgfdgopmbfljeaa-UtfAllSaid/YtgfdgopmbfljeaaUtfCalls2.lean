/-
  Letters: what each function of the code does, second part.
-/
import Derived.Test.YtgfdgopmbfljeaaUtfCalls
namespace Go.Proofs.Ytgfdgopmbfljeaa
open Go.RowKit Go.Vc
theorem sev_drop {xs : List Int} {k : Nat} (h : k < xs.length) : xs.drop k = xs[k] :: xs.drop (k + 1) := List.drop_eq_getElem_cons h
theorem rseveral_does {w : World} {ok : Nat → Prop} {p : Option Addr} {xs : List Int} (hx : Ints .u8 w ok p xs) {l : Nat} (hl : l = xs.length) (c : Nat) (h63 : xs.length ≤ 1000000000) {a : Nat} (ha : a < xs.length) :
    Does Try.prog 27 #[.slice p l c, .int .i64 (a : Int)] w fun e w' => e = .returned (.tuple #[.int .i64 (sevP (xs.drop a)).1, .int .i64 ((sevP (xs.drop a)).2 : Nat)]) ∧ Ext w w' := by
  subst hl
  apply f27_does
  obtain ⟨bb, oo, hp, hcell⟩ := hx.at a ha
  have hk0 : InK .u8 xs[a] := hx.inK _ (List.getElem_mem ha)
  have hk0' : 0 ≤ xs[a] ∧ xs[a] ≤ 255 := hk0
  have hd := sev_drop ha
  have hn4 : ¬ (194 ≤ xs[a] ∧ xs[a] ≤ 244) → sevP (xs.drop a) = (0, 0) := fun h => by
    cases hs : sev (xs.drop a) with
    | none => exact sevP_none hs
    | some x => rw [hd] at hs; exact absurd (lead_ok (v := x.1) (n := x.2) hs) h
  refine ⟨⟨by omega, by omega⟩, bb, oo, hp, _, hcell, fun x r _ ww => ww = w ∧ (x = 0 ∧ sevP (xs.drop a) = (0, 0) ∨ lenC xs[a] ≠ 0 ∧ x = (lenC xs[a] : Nat) ∧ r = headC xs[a]), ?_, ?_⟩
  · have n2 : 194 ≤ xs[a] → xs[a] ≤ 223 → lenC xs[a] = 2 := fun h1 h2 => by unfold lenC; rw [if_pos (by omega)]
    have n3 : 224 ≤ xs[a] → xs[a] ≤ 239 → lenC xs[a] = 3 := fun h1 h2 => by unfold lenC; rw [if_neg (by omega), if_pos (by omega)]
    have n4 : 240 ≤ xs[a] → xs[a] ≤ 244 → lenC xs[a] = 4 := fun h1 h2 => by unfold lenC; rw [if_neg (by omega), if_neg (by omega), if_pos (by omega)]
    have s2 : 194 ≤ xs[a] → xs[a] ≤ 223 → InK .i64 (bits .and .u8 xs[a] 31) ∧ ∃ nc13 : Nat, w = w ∧ ((2 : Int) = 0 ∧ sevP (xs.drop a) = (0, 0) ∨ lenC xs[a] ≠ 0 ∧ (2 : Int) = (lenC xs[a] : Nat) ∧ bits .and .u8 xs[a] 31 = headC xs[a]) := fun h1 h2 => by
      rw [c31 hk0]
      exact ⟨inI64 (by omega) (by omega), 0, rfl, .inr ⟨by rw [n2 h1 h2]; decide, by rw [n2 h1 h2]; rfl, by rw [headC, if_pos (n2 h1 h2)]⟩⟩
    have s3 : 224 ≤ xs[a] → xs[a] ≤ 239 → InK .i64 (bits .and .u8 xs[a] 15) ∧ ∃ nc13 : Nat, w = w ∧ ((3 : Int) = 0 ∧ sevP (xs.drop a) = (0, 0) ∨ lenC xs[a] ≠ 0 ∧ (3 : Int) = (lenC xs[a] : Nat) ∧ bits .and .u8 xs[a] 15 = headC xs[a]) := fun h1 h2 => by
      rw [c15 hk0]
      exact ⟨inI64 (by omega) (by omega), 0, rfl, .inr ⟨by rw [n3 h1 h2]; decide, by rw [n3 h1 h2]; rfl, by rw [headC, n3 h1 h2, if_neg (by decide), if_pos rfl]⟩⟩
    have s4 : 240 ≤ xs[a] → xs[a] ≤ 244 → InK .i64 (bits .and .u8 xs[a] 7) ∧ ∃ nc13 : Nat, w = w ∧ ((4 : Int) = 0 ∧ sevP (xs.drop a) = (0, 0) ∨ lenC xs[a] ≠ 0 ∧ (4 : Int) = (lenC xs[a] : Nat) ∧ bits .and .u8 xs[a] 7 = headC xs[a]) := fun h1 h2 => by
      rw [c7 hk0]
      exact ⟨inI64 (by omega) (by omega), 0, rfl, .inr ⟨by rw [n4 h1 h2]; decide, by rw [n4 h1 h2]; rfl, by rw [headC, n4 h1 h2, if_neg (by decide), if_neg (by decide)]⟩⟩
    have z : ¬ (194 ≤ xs[a] ∧ xs[a] ≤ 244) → ∃ nc13 : Nat, w = w ∧ ((0 : Int) = 0 ∧ sevP (xs.drop a) = (0, 0) ∨ lenC xs[a] ≠ 0 ∧ (0 : Int) = (lenC xs[a] : Nat) ∧ (0 : Int) = headC xs[a]) := fun h => ⟨0, rfl, .inl ⟨rfl, hn4 h⟩⟩
    refine ⟨fun j1 => ⟨fun j2 => s2 (of_decide_eq_true j1) (of_decide_eq_true j2), fun j2 => ⟨fun j3 => ⟨fun j4 => s3 (of_decide_eq_true j3) (of_decide_eq_true j4), fun j4 => ⟨fun j5 => ⟨fun j6 => s4 (of_decide_eq_true j5) (of_decide_eq_true j6), fun j6 => z ?_⟩, fun j5 => ?_⟩⟩, fun j3 => ⟨fun j5 => ⟨fun j6 => s4 (of_decide_eq_true j5) (of_decide_eq_true j6), fun j6 => z ?_⟩, fun j5 => ?_⟩⟩⟩,
      fun j1 => ⟨fun j3 => ⟨fun j4 => s3 (of_decide_eq_true j3) (of_decide_eq_true j4), fun j4 => ⟨fun j5 => ⟨fun j6 => s4 (of_decide_eq_true j5) (of_decide_eq_true j6), fun j6 => z ?_⟩, fun j5 => ?_⟩⟩, fun j3 => ⟨fun j5 => ⟨fun j6 => s4 (of_decide_eq_true j5) (of_decide_eq_true j6), fun j6 => z ?_⟩, fun j5 => z ?_⟩⟩⟩
    · have := of_decide_eq_false j6; omega
    · have := of_decide_eq_false j5; have := of_decide_eq_false j4; omega
    · have := of_decide_eq_false j6; omega
    · have := of_decide_eq_false j5; have := of_decide_eq_false j3; have := of_decide_eq_false j2; omega
    · have := of_decide_eq_false j6; omega
    · have := of_decide_eq_false j5; have := of_decide_eq_false j4; omega
    · have := of_decide_eq_false j6; omega
    · have := of_decide_eq_false j1; have := of_decide_eq_false j3; omega
  rintro x r _ w0 ⟨rfl, ⟨rfl, hz⟩ | ⟨h0, rfl, rfl⟩⟩
  · exact tru rfl ⟨by rw [hz]; rfl, Upd.refl _ _⟩
  have hL := lenC_le xs[a]
  have hhd := headC_bd h0
  have hsev := hd
  generalize hc0 : xs[a] = c0 at *
  have ht : ∀ {k : Nat}, k < lenC c0 - 1 → a + lenC c0 ≤ xs.length → ∃ (h : a + 1 + k < xs.length), (xs.drop (a + 1))[k]? = some xs[a + 1 + k] := fun hk hl => ⟨by omega, by rw [List.getElem?_drop, List.getElem?_eq_getElem (by omega)]⟩
  refine fls (by rw [beq_eq_false_iff_ne]; omega) ⟨inI64 (by omega) (by omega), fun j => ⟨?_, Upd.refl _ _⟩, fun j => ?_⟩
  · have j := of_decide_eq_true j
    have hs : sev (xs.drop a) = none := by rw [hd, sev, if_pos (.inr (by rw [List.length_drop]; omega))]
    rw [sevP_none hs]; rfl
  have j := of_decide_eq_false j
  have hlen : a + lenC c0 ≤ xs.length := by omega
  have hno : ∀ (ww : World), Ext w0 ww → sev (xs.drop a) = none → (Ending.returned (.tuple #[.int .i64 0, .int .i64 0]) = .returned (.tuple #[.int .i64 (sevP (xs.drop a)).1, .int .i64 ((sevP (xs.drop a)).2 : Nat)]) ∧ Ext w0 ww) := fun ww hw hs => ⟨by rw [sevP_none hs]; rfl, hw⟩
  refine ⟨fun r x n ww => ∃ k : Nat, x = (k : Int) + 1 ∧ n = lenC c0 - 1 - k ∧ k ≤ lenC c0 - 1 ∧ r = restV (headC c0) ((xs.drop (a + 1)).take k) ∧ (∀ x ∈ (xs.drop (a + 1)).take k, tl x = true) ∧ ww = w0, ⟨_, 0, rfl, rfl, Nat.zero_le _, rfl, by simp, rfl⟩, ?_⟩
  rintro _ _ nn ww ⟨k, rfl, rfl, hk, rfl, hall, rfl⟩
  have hdl : k < (xs.drop (a + 1)).length ∨ k = lenC c0 - 1 := by rw [List.length_drop]; omega
  refine ⟨fun jj => ?_, fun jj => ?_⟩
  · have jj := of_decide_eq_true jj
    have hlt : k < (xs.drop (a + 1)).length := by rw [List.length_drop]; omega
    have hi : a + 1 + k < xs.length := by omega
    obtain ⟨b', o', hp', hc'⟩ := hx.at (a + 1 + k) hi
    have hki : InK .u8 xs[a + 1 + k] := hx.inK _ (List.getElem_mem hi)
    have e1 : ((a : Int) + ((k : Int) + 1)).toNat = a + 1 + k := by omega
    have hg : (xs.drop (a + 1))[k] = xs[a + 1 + k] := by rw [List.getElem_drop]
    rw [e1]
    refine ⟨inI64 (by omega) (by omega), ⟨by omega, by omega⟩, b', o', hp', _, hc', (follows_does _ hki).imp ?_⟩
    rintro e w66 ⟨rfl, rfl⟩
    have hbd := restV_bd hhd.1 hhd.2 (cs := (xs.drop (a + 1)).take k) (by rw [List.length_take]; omega)
    refine ⟨_, rfl, fun hb => hno _ (Upd.refl _ _) ?_, fun hb => ?_⟩
    · have hb : tl xs[a + 1 + k] = false := by simpa using hb
      rw [hd, sev, if_neg (by rw [List.length_drop]; omega), if_neg]
      intro hA
      have := (List.all_eq_true.1 hA) (xs.drop (a + 1))[k] (List.mem_of_getElem? (by rw [List.getElem?_take_of_lt (show k < lenC c0 - 1 by omega)]; exact List.getElem?_eq_getElem hlt))
      rw [hg, hb] at this
      cases this
    · have hb : tl xs[a + 1 + k] = true := by simpa using hb
      have hm : 0 ≤ xs[a + 1 + k] % 64 ∧ xs[a + 1 + k] % 64 < 64 := by omega
      refine ⟨by decide, inI64 (by omega) (by omega), inI64 (by omega) (by omega), ⟨by omega, by omega⟩, b', o', hp', _, hc', ?_⟩
      rw [c63 hki, orSix hbd.1 (by omega)]
      refine ⟨inI64 (by omega) (by omega), inI64 (by omega) (by omega), _, by omega, k + 1, by omega, rfl, by omega, ?_, ?_, rfl⟩
      · rw [List.take_succ_eq_append_getElem hlt, restV_snoc, hg]
      · rw [List.take_succ_eq_append_getElem hlt]
        intro y hy
        rcases List.mem_append.1 hy with hy | hy
        · exact hall y hy
        · simp at hy; rw [hy]; rw [← hg] at hb; simpa using hb
  have jj := of_decide_eq_false jj
  obtain rfl : k = lenC c0 - 1 := by omega
  intro b79 w79 hb79
  have x79 := hb79.ext
  have hle : ∀ n : Nat, n = 2 ∨ n = 3 ∨ n = 4 → [Value.int .i64 0, .int .i64 0, .int .i64 128, .int .i64 2048, .int .i64 65536][n]? = some (.int .i64 (leastN n)) := by
    rintro n (rfl | rfl | rfl) <;> rfl
  have hcell' := hb79.cell (lenC c0) (hle _ (by omega))
  refine ⟨⟨by omega, by omega⟩, b79, 0, rfl, _, by rw [Nat.zero_add, Int.toNat_natCast]; exact hcell', fun j1 => hno _ x79 ?_, fun j1 => ⟨fun j2 => hno _ x79 ?_, fun j2 => ?_⟩⟩
  · have j1 := of_decide_eq_true j1
    rw [hd, sev, if_neg (by rw [List.length_drop]; omega), if_pos (List.all_eq_true.2 hall), if_neg (fun h => by have := h.1; omega)]
  · have j2 := of_decide_eq_true j2
    rw [hd, sev, if_neg (by rw [List.length_drop]; omega), if_pos (List.all_eq_true.2 hall), if_neg (fun h => by have := h.2; unfold mayR at this; rw [Bool.and_eq_true, decide_eq_true_iff] at this; omega)]
  have j1 := of_decide_eq_false j1
  have j2 := of_decide_eq_false j2
  have hbd := restV_bd hhd.1 hhd.2 (cs := (xs.drop (a + 1)).take (lenC c0 - 1)) (by rw [List.length_take]; omega)
  have yes : (restV (headC c0) ((xs.drop (a + 1)).take (lenC c0 - 1)) < 55296 ∨ restV (headC c0) ((xs.drop (a + 1)).take (lenC c0 - 1)) > 57343) → (Ending.returned (.tuple #[.int .i64 (restV (headC c0) ((xs.drop (a + 1)).take (lenC c0 - 1))), .int .i64 (lenC c0 : Nat)]) = .returned (.tuple #[.int .i64 (sevP (xs.drop a)).1, .int .i64 ((sevP (xs.drop a)).2 : Nat)]) ∧ Ext ww w79) := fun h => by
    refine ⟨?_, x79⟩
    have hs := sev_of (c := c0) (t := xs.drop (a + 1)) h0 (by rw [List.length_drop]; omega) hall (by omega) (by unfold mayR; rw [decide_eq_true (by omega), decide_eq_true h]; rfl)
    rw [← hd] at hs
    rw [sevP_some hs]
  refine ⟨fun j3 => ⟨fun j4 => hno _ x79 ?_, fun j4 => yes ?_⟩, fun j3 => yes ?_⟩
  · have j3 := of_decide_eq_true j3
    have j4 := of_decide_eq_true j4
    rw [hd, sev, if_neg (by rw [List.length_drop]; omega), if_pos (List.all_eq_true.2 hall), if_neg (fun h => by have := h.2; unfold mayR at this; rw [Bool.and_eq_true, decide_eq_true_iff, decide_eq_true_iff] at this; omega)]
  · have j4 := of_decide_eq_false j4; omega
  · have j3 := of_decide_eq_false j3; omega
/-! ### The letter at a place -/
/-- The letter that begins at a place, and how many bytes it has. -/
def nextF (xs : List Int) (a : Int) : Int × Int := if a < 0 ∨ a ≥ xs.length then (0, 0) else if 0 < sevN (xs.drop a.toNat) then ((sevP (xs.drop a.toNat)).1, (sevN (xs.drop a.toNat) : Nat)) else if xs.getD a.toNat 0 < 128 then (xs.getD a.toNat 0, 1) else (-1, 1)
theorem nextF_n {xs : List Int} {a : Nat} (h : a < xs.length) : (nextF xs a).2 = (nx xs a : Nat) := by
  unfold nextF nx
  rw [if_neg (by omega), Int.toNat_natCast]
  by_cases hs : 0 < sevN (xs.drop a)
  · rw [if_pos hs, if_neg (by omega)]
  · rw [if_neg hs, if_pos (show sevN (xs.drop a) = 0 by omega)]
    split <;> rfl
section
variable {w : World} {ok : Nat → Prop} {p : Option Addr} {xs : List Int}
theorem next_does (hx : Ints .u8 w ok p xs) {l : Nat} (hl : l = xs.length) (c : Nat) (hc : l ≤ c) (h63 : xs.length ≤ 1000000000) (a : Int) :
    Does Try.prog 10 #[.slice p l c, .int .i64 a] w fun e w' => e = .returned (.tuple #[.int .i64 (nextF xs a).1, .int .i64 (nextF xs a).2]) ∧ Ext w w' := by
  subst hl
  apply f10_does
  refine ⟨fun j => ⟨?_, Upd.refl _ _⟩, fun j => ⟨fun j1 => ⟨?_, Upd.refl _ _⟩, fun j1 => ?_⟩⟩
  · have j := of_decide_eq_true j
    rw [nextF, if_pos (.inl j)]
  · have j1 := of_decide_eq_true j1
    rw [nextF, if_pos (.inr j1)]
  have j := of_decide_eq_false j
  have j1 := of_decide_eq_false j1
  have hlt : a.toNat < xs.length := by omega
  have hs := hx.sub a.toNat xs.length c (by omega)
  rw [List.take_length] at hs
  refine ⟨⟨by omega, by omega⟩, (several_does hs (by rw [List.length_drop]) _ (by omega) (by rw [List.length_drop]; omega)).imp ?_⟩
  rintro e w20 ⟨rfl, x20⟩
  rw [sevP_n]
  obtain ⟨bb, oo, hp, hcell⟩ := (hx.ext x20).at a.toNat hlt
  have hk0 : InK .u8 xs[a.toNat] := hx.inK _ (List.getElem_mem hlt)
  have hk0' : 0 ≤ xs[a.toNat] ∧ xs[a.toNat] ≤ 255 := hk0
  have hg : xs.getD a.toNat 0 = xs[a.toNat] := by rw [List.getD_eq_getElem?_getD, List.getElem?_eq_getElem hlt]; rfl
  refine ⟨_, _, rfl, fun j2 => ⟨?_, x20⟩, fun j2 => ⟨⟨by omega, by omega⟩, bb, oo, hp, _, hcell, fun j3 => ⟨⟨by omega, by omega⟩, bb, oo, hp, _, hcell, inI64 (by omega) (by omega), ?_, x20⟩, fun j3 => ⟨?_, x20⟩⟩⟩
  · have j2 := of_decide_eq_true j2
    rw [nextF, if_neg (by omega), if_pos (by omega)]
  · have j2 := of_decide_eq_false j2
    have j3 := of_decide_eq_true j3
    rw [nextF, if_neg (by omega), if_neg (by omega), hg, if_pos j3]
  · have j2 := of_decide_eq_false j2
    have j3 := of_decide_eq_false j3
    rw [nextF, if_neg (by omega), if_neg (by omega), hg, if_neg j3]
theorem rnext_does (hx : Ints .u8 w ok p xs) {l : Nat} (hl : l = xs.length) (c : Nat) (h63 : xs.length ≤ 1000000000) (a : Int) :
    Does Try.prog 14 #[.slice p l c, .int .i64 a] w fun e w' => e = .returned (.tuple #[.int .i64 (nextF xs a).1, .int .i64 (nextF xs a).2]) ∧ Ext w w' := by
  subst hl
  apply f14_does
  refine ⟨fun j => ⟨?_, Upd.refl _ _⟩, fun j => ⟨fun j1 => ⟨?_, Upd.refl _ _⟩, fun j1 => ?_⟩⟩
  · have j := of_decide_eq_true j
    rw [nextF, if_pos (.inl j)]
  · have j1 := of_decide_eq_true j1
    rw [nextF, if_pos (.inr j1)]
  have j := of_decide_eq_false j
  have j1 := of_decide_eq_false j1
  have hlt : a.toNat < xs.length := by omega
  have hr := rseveral_does hx rfl c h63 hlt
  rw [show ((a.toNat : Nat) : Int) = a by omega] at hr
  refine hr.imp ?_
  rintro e w20 ⟨rfl, x20⟩
  rw [sevP_n]
  obtain ⟨bb, oo, hp, hcell⟩ := (hx.ext x20).at a.toNat hlt
  have hk0 : InK .u8 xs[a.toNat] := hx.inK _ (List.getElem_mem hlt)
  have hk0' : 0 ≤ xs[a.toNat] ∧ xs[a.toNat] ≤ 255 := hk0
  have hg : xs.getD a.toNat 0 = xs[a.toNat] := by rw [List.getD_eq_getElem?_getD, List.getElem?_eq_getElem hlt]; rfl
  refine ⟨_, _, rfl, fun j2 => ⟨?_, x20⟩, fun j2 => ⟨⟨by omega, by omega⟩, bb, oo, hp, _, hcell, fun j3 => ⟨⟨by omega, by omega⟩, bb, oo, hp, _, hcell, inI64 (by omega) (by omega), ?_, x20⟩, fun j3 => ⟨?_, x20⟩⟩⟩
  · have j2 := of_decide_eq_true j2
    rw [nextF, if_neg (by omega), if_pos (by omega)]
  · have j2 := of_decide_eq_false j2
    have j3 := of_decide_eq_true j3
    rw [nextF, if_neg (by omega), if_neg (by omega), hg, if_pos j3]
  · have j2 := of_decide_eq_false j2
    have j3 := of_decide_eq_false j3
    rw [nextF, if_neg (by omega), if_neg (by omega), hg, if_neg j3]
/-- How many bytes has the letter that ends ahead of a place. -/
def lastF (xs : List Int) (a : Int) : Int := if a < 1 ∨ a > xs.length then 0 else if 2 ≤ a ∧ sevN (xs.drop (a.toNat - 2)) = 2 then 2 else if 3 ≤ a ∧ sevN (xs.drop (a.toNat - 3)) = 3 then 3 else if 4 ≤ a ∧ sevN (xs.drop (a.toNat - 4)) = 4 then 4 else 1
theorem lastF_find {xs : List Int} {a : Int} (h : ¬ (a < 1 ∨ a > xs.length)) {k : Nat} (h2 : 2 ≤ k) (h4 : k ≤ 4) (hk : (k : Int) ≤ a) (hs : sevN (xs.drop (a.toNat - k)) = k) (hb : ∀ j, 2 ≤ j → j < k → sevN (xs.drop (a.toNat - j)) ≠ j) : lastF xs a = k := by
  unfold lastF
  rw [if_neg h]
  obtain rfl | rfl | rfl : k = 2 ∨ k = 3 ∨ k = 4 := by omega
  · rw [if_pos ⟨by omega, hs⟩]; rfl
  · rw [if_neg (fun h => hb 2 (by decide) (by decide) h.2), if_pos ⟨by omega, hs⟩]; rfl
  · rw [if_neg (fun h => hb 2 (by decide) (by decide) h.2), if_neg (fun h => hb 3 (by decide) (by decide) h.2), if_pos ⟨by omega, hs⟩]; rfl
theorem lastF_one {xs : List Int} {a : Int} (h : ¬ (a < 1 ∨ a > xs.length)) (hb : ∀ j : Nat, 2 ≤ j → j ≤ 4 → (j : Int) ≤ a → sevN (xs.drop (a.toNat - j)) ≠ j) : lastF xs a = 1 := by
  unfold lastF
  rw [if_neg h, if_neg (fun h => hb 2 (by decide) (by decide) h.1 h.2), if_neg (fun h => hb 3 (by decide) (by decide) h.1 h.2), if_neg (fun h => hb 4 (by decide) (by decide) h.1 h.2)]
theorem last_does (hx : Ints .u8 w ok p xs) {l : Nat} (hl : l = xs.length) (c : Nat) (hc : l ≤ c) (h63 : xs.length ≤ 1000000000) (a : Int) :
    Does Try.prog 11 #[.slice p l c, .int .i64 a] w fun e w' => e = .returned (.int .i64 (lastF xs a)) ∧ Ext w w' := by
  subst hl
  apply f11_does
  refine ⟨fun j => ⟨?_, Upd.refl _ _⟩, fun j => ⟨fun j1 => ⟨?_, Upd.refl _ _⟩, fun j1 => ?_⟩⟩
  · have j := of_decide_eq_true j
    rw [lastF, if_pos (.inl j)]
  · have j1 := of_decide_eq_true j1
    rw [lastF, if_pos (.inr j1)]
  have j := of_decide_eq_false j
  have j1 := of_decide_eq_false j1
  refine ⟨fun x n ww => ∃ k : Nat, x = k ∧ n = 5 - k ∧ 2 ≤ k ∧ k ≤ 5 ∧ (∀ i : Nat, 2 ≤ i → i < k → (i : Int) ≤ a → sevN (xs.drop (a.toNat - i)) ≠ i) ∧ Ext w ww, ⟨_, 2, rfl, rfl, by omega, by omega, fun i _ _ => by omega, Upd.refl _ _⟩, ?_⟩
  rintro _ nn ww ⟨k, rfl, rfl, hk2, hk5, hno, xw⟩
  refine ⟨fun jj => ?_, fun jj => ?_⟩
  · have jj := of_decide_eq_true jj
    have hka : (k : Int) ≤ a ∧ k ≤ 4 := by split at jj <;> omega
    have hs := (hx.ext xw).sub (a.toNat - k) a.toNat c (by omega)
    rw [show (a - (k : Int)).toNat = a.toNat - k by omega]
    refine ⟨inI64 (by omega) (by omega), ⟨by omega, by omega⟩, ⟨by omega, by omega⟩, (several_does hs (by rw [List.length_drop, List.length_take]; omega) _ (by omega) (by rw [List.length_drop, List.length_take]; omega)).imp ?_⟩
    rintro e w29 ⟨rfl, x29⟩
    rw [sevP_n]
    have hcut := sevN_cut (b := xs) (i := a.toNat) (k := k) (by omega) (by omega) hk2
    refine ⟨_, _, rfl, fun j2 => ⟨?_, Ext.thn xw x29⟩, fun j2 => ⟨inI64 (by omega) (by omega), _, by omega, k + 1, by omega, rfl, by omega, by omega, fun i h1 h2 h3 => ?_, Ext.thn xw x29⟩⟩
    · have j2 : ((sevN ((xs.take a.toNat).drop (a.toNat - k)) : Nat) : Int) = k := eq_of_beq j2
      rw [lastF_find (by omega) hk2 hka.2 hka.1 (hcut.1 (by omega)) (fun i h1 h2 => hno i h1 h2 (by omega))]
    · have j2 := ne_of_beq_false j2
      rcases Nat.lt_or_ge i k with h | h
      · exact hno i h1 h h3
      · obtain rfl : i = k := by omega
        intro he
        exact j2 (by rw [hcut.2 he])
  · have jj := of_decide_eq_false jj
    refine ⟨?_, xw⟩
    rw [lastF_one (by omega) (fun i h1 h2 h3 => hno i h1 (by split at jj <;> omega) h3)]
theorem rlast_does (hx : Ints .u8 w ok p xs) {l : Nat} (hl : l = xs.length) (c : Nat) (h63 : xs.length ≤ 1000000000) (a : Int) :
    Does Try.prog 15 #[.slice p l c, .int .i64 a] w fun e w' => e = .returned (.int .i64 (lastF xs a)) ∧ Ext w w' := by
  subst hl
  apply f15_does
  refine ⟨fun j => ⟨?_, Upd.refl _ _⟩, fun j => ⟨fun j1 => ⟨?_, Upd.refl _ _⟩, fun j1 => ?_⟩⟩
  · have j := of_decide_eq_true j
    rw [lastF, if_pos (.inl j)]
  · have j1 := of_decide_eq_true j1
    rw [lastF, if_pos (.inr j1)]
  have j := of_decide_eq_false j
  have j1 := of_decide_eq_false j1
  refine ⟨fun x n ww => ∃ k : Nat, x = k ∧ n = 5 - k ∧ 2 ≤ k ∧ k ≤ 5 ∧ (∀ i : Nat, 2 ≤ i → i < k → (i : Int) ≤ a → sevN (xs.drop (a.toNat - i)) ≠ i) ∧ Ext w ww, ⟨_, 2, rfl, rfl, by omega, by omega, fun i _ _ => by omega, Upd.refl _ _⟩, ?_⟩
  rintro _ nn ww ⟨k, rfl, rfl, hk2, hk5, hno, xw⟩
  refine ⟨fun jj => ⟨fun ja => ?_, fun ja => ?_⟩, fun jj => ?_⟩
  · have jj := of_decide_eq_true jj
    have ja := of_decide_eq_true ja
    have hr := rseveral_does (hx.ext xw) rfl c h63 (a := a.toNat - k) (by omega)
    rw [show ((a.toNat - k : Nat) : Int) = a - k by omega] at hr
    refine ⟨inI64 (by omega) (by omega), hr.imp ?_⟩
    rintro e w29 ⟨rfl, x29⟩
    rw [sevP_n]
    refine ⟨_, _, rfl, fun j2 => ⟨?_, Ext.thn xw x29⟩, fun j2 => ⟨inI64 (by omega) (by omega), _, by omega, k + 1, by omega, rfl, by omega, by omega, fun i h1 h2 h3 => ?_, Ext.thn xw x29⟩⟩
    · have j2 := eq_of_beq j2
      rw [lastF_find (by omega) hk2 (by omega) ja (by omega) (fun i h1 h2 => hno i h1 h2 (by omega))]
    · have j2 := ne_of_beq_false j2
      rcases Nat.lt_or_ge i k with h | h
      · exact hno i h1 h h3
      · obtain rfl : i = k := by omega
        omega
  · have ja := of_decide_eq_false ja
    refine ⟨?_, xw⟩
    rw [lastF_one (by omega) (fun i h1 h2 h3 => hno i h1 (by omega) h3)]
  · have jj := of_decide_eq_false jj
    refine ⟨?_, xw⟩
    rw [lastF_one (by omega) (fun i h1 h2 h3 => hno i h1 (by omega) h3)]
/-- Does a letter begin (or all end) there? -/
def begF (xs : List Int) (a : Int) : Bool := decide (0 ≤ a ∧ a ≤ xs.length) && !decide (ins xs a.toNat)
theorem begins_does (hx : Ints .u8 w ok p xs) {l : Nat} (hl : l = xs.length) (c : Nat) (hc : l ≤ c) (h63 : xs.length ≤ 1000000000) (a : Int) (ha : InK .i64 a) :
    Does Try.prog 12 #[.slice p l c, .int .i64 a] w fun e w' => e = .returned (.bool (begF xs a)) ∧ Ext w w' := by
  subst hl
  apply f12_does
  refine ⟨fun j => ⟨?_, Upd.refl _ _⟩, fun j => ⟨fun j1 => ⟨?_, Upd.refl _ _⟩, fun j1 => ?_⟩⟩
  · have j := of_decide_eq_true j
    rw [begF, decide_eq_false (by omega)]; rfl
  · have j1 := of_decide_eq_true j1
    rw [begF, decide_eq_false (by omega)]; rfl
  have j := of_decide_eq_false j
  have j1 := of_decide_eq_false j1
  refine ⟨inI64 (by omega) (by omega), inI64 (by omega) (by omega), fun x n ww => ∃ i : Nat, x = i ∧ n = a.toNat - i ∧ (i : Int) ≤ a ∧ (∀ k : Nat, 1 ≤ k → k ≤ 3 → (k : Int) ≤ a → a.toNat - k < i → sevN (xs.drop (a.toNat - k)) ≤ k) ∧ Ext w ww, ⟨_, (if 0 < a - 4 + 1 then a - 4 + 1 else 0).toNat, by split <;> omega, rfl, by split <;> omega, fun k h1 h2 h3 h4 => by split at h4 <;> omega, Upd.refl _ _⟩, ?_⟩
  rintro _ nn ww ⟨i, rfl, rfl, hi, hno, xw⟩
  refine ⟨fun jj => ?_, fun jj => ?_⟩
  · have jj := of_decide_eq_true jj
    have hs := (hx.ext xw).sub i xs.length c (by omega)
    rw [List.take_length] at hs
    rw [Int.toNat_natCast]
    refine ⟨⟨by omega, by omega⟩, (several_does hs (by rw [List.length_drop]) _ (by omega) (by rw [List.length_drop]; omega)).imp ?_⟩
    rintro e w29 ⟨rfl, x29⟩
    rw [sevP_n]
    have hle := sevN_le (xs.drop i)
    refine ⟨_, _, rfl, inI64 (by omega) (by omega), fun j2 => ⟨?_, Ext.thn xw x29⟩, fun j2 => ⟨inI64 (by omega) (by omega), _, by omega, i + 1, by omega, rfl, by omega, fun k h1 h2 h3 h4 => ?_, Ext.thn xw x29⟩⟩
    · have j2 := of_decide_eq_true j2
      have : ins xs a.toNat := ⟨i, by omega, by omega⟩
      rw [begF, decide_eq_true (p := ins xs a.toNat) this, Bool.not_true, Bool.and_false]
    · have j2 := of_decide_eq_false j2
      rcases Nat.lt_or_ge (a.toNat - k) i with h | h
      · exact hno k h1 h2 h3 h
      · obtain rfl : a.toNat - k = i := by omega
        omega
  · have jj := of_decide_eq_false jj
    refine ⟨?_, xw⟩
    have : ¬ ins xs a.toNat := fun h => by
      obtain ⟨k, h1, h2, h3, h4⟩ := ins_iff.1 h
      have := hno k h1 h2 (by omega) (by omega)
      omega
    rw [begF, decide_eq_false (p := ins xs a.toNat) this, decide_eq_true (by omega)]; rfl
theorem rbegins_does (hx : Ints .u8 w ok p xs) {l : Nat} (hl : l = xs.length) (c : Nat) (h63 : xs.length ≤ 1000000000) (a : Int) (ha : InK .i64 a) :
    Does Try.prog 16 #[.slice p l c, .int .i64 a] w fun e w' => e = .returned (.bool (begF xs a)) ∧ Ext w w' := by
  subst hl
  apply f16_does
  refine ⟨fun j => ⟨?_, Upd.refl _ _⟩, fun j => ⟨fun j1 => ⟨?_, Upd.refl _ _⟩, fun j1 => ?_⟩⟩
  · have j := of_decide_eq_true j
    rw [begF, decide_eq_false (by omega)]; rfl
  · have j1 := of_decide_eq_true j1
    rw [begF, decide_eq_false (by omega)]; rfl
  have j := of_decide_eq_false j
  have j1 := of_decide_eq_false j1
  refine ⟨fun x n ww => ∃ k : Nat, x = k ∧ n = 4 - k ∧ 1 ≤ k ∧ k ≤ 4 ∧ (∀ i : Nat, 1 ≤ i → i < k → (i : Int) ≤ a → sevN (xs.drop (a.toNat - i)) ≤ i) ∧ Ext w ww, ⟨_, 1, rfl, rfl, by omega, by omega, fun i _ _ => by omega, Upd.refl _ _⟩, ?_⟩
  rintro _ nn ww ⟨k, rfl, rfl, hk1, hk4, hno, xw⟩
  have yes : (∀ i : Nat, 1 ≤ i → i ≤ 3 → (i : Int) ≤ a → sevN (xs.drop (a.toNat - i)) ≤ i) → (Ending.returned (.bool true) = .returned (.bool (begF xs a)) ∧ Ext w ww) := fun h => by
    have : ¬ ins xs a.toNat := fun h' => by
      obtain ⟨i, h1, h2, h3, h4⟩ := ins_iff.1 h'
      have := h i h1 h2 (by omega)
      omega
    refine ⟨?_, xw⟩
    rw [begF, decide_eq_false (p := ins xs a.toNat) this, decide_eq_true (by omega)]; rfl
  refine ⟨fun jj => ⟨fun ja => ⟨fun jl => ?_, fun jl => ?_⟩, fun ja => ?_⟩, fun jj => ?_⟩
  · have jj := of_decide_eq_true jj
    have ja := of_decide_eq_true ja
    have jl := of_decide_eq_true jl
    have hr := rseveral_does (hx.ext xw) rfl c h63 (a := a.toNat - k) (by omega)
    rw [show ((a.toNat - k : Nat) : Int) = a - k by omega] at hr
    refine ⟨inI64 (by omega) (by omega), hr.imp ?_⟩
    rintro e w29 ⟨rfl, x29⟩
    rw [sevP_n]
    refine ⟨_, _, rfl, fun j2 => ⟨?_, Ext.thn xw x29⟩, fun j2 => ⟨inI64 (by omega) (by omega), _, by omega, k + 1, by omega, rfl, by omega, by omega, fun i h1 h2 h3 => ?_, Ext.thn xw x29⟩⟩
    · have j2 := of_decide_eq_true j2
      have : ins xs a.toNat := ⟨a.toNat - k, by omega, by omega⟩
      rw [begF, decide_eq_true (p := ins xs a.toNat) this, Bool.not_true, Bool.and_false]
    · have j2 := of_decide_eq_false j2
      rcases Nat.lt_or_ge i k with h | h
      · exact hno i h1 h h3
      · obtain rfl : i = k := by omega
        omega
  · have jl := of_decide_eq_false jl
    refine yes fun i h1 h2 h3 => ?_
    have := sevN_le (xs.drop (a.toNat - i))
    rw [List.length_drop] at this
    omega
  · have ja := of_decide_eq_false ja
    exact yes fun i h1 h2 h3 => hno i h1 (by omega) h3
  · have jj := of_decide_eq_false jj
    exact yes fun i h1 h2 h3 => hno i h1 (by omega) h3
theorem count_does (hx : Ints .u8 w ok p xs) {l : Nat} (hl : l = xs.length) (c : Nat) (hc : l ≤ c) (h63 : xs.length ≤ 1000000000) :
    Does Try.prog 13 #[.slice p l c] w fun e w' => e = .returned (.int .i64 ((posL xs xs.length).length : Nat)) ∧ Ext w w' := by
  subst hl
  apply f13_does
  refine ⟨fun x y n ww => ∃ i : Nat, y = i ∧ n = xs.length - i ∧ i ≤ xs.length ∧ ¬ ins xs i ∧ x = ((posL xs i).length : Nat) ∧ Ext w ww, ⟨_, 0, rfl, rfl, Nat.zero_le _, ins_zero _, rfl, Upd.refl _ _⟩, ?_⟩
  rintro _ _ nn ww ⟨i, rfl, rfl, hi, hin, rfl, xw⟩
  refine ⟨fun jj => ?_, fun jj => ?_⟩
  · have jj := of_decide_eq_true jj
    have hlt : i < xs.length := by omega
    refine (next_does (hx.ext xw) rfl c hc h63 i).imp ?_
    rintro e w16 ⟨rfl, x16⟩
    have hn := nx_le hlt
    have hn1 := nx_pos xs i
    have hpl := posL_len_le xs i
    rw [nextF_n hlt]
    refine ⟨_, _, rfl, inI64 (by omega) (by omega), inI64 (by omega) (by omega), _, ?_, i + nx xs i, by omega, rfl, by omega, ins_next hin, ?_, Ext.thn xw x16⟩
    · omega
    · rw [posL_next hin]; simp
  · have jj := of_decide_eq_false jj
    obtain rfl : i = xs.length := by omega
    exact ⟨rfl, xw⟩
theorem rcount_does (hx : Ints .u8 w ok p xs) {l : Nat} (hl : l = xs.length) (c : Nat) (h63 : xs.length ≤ 1000000000) :
    Does Try.prog 17 #[.slice p l c] w fun e w' => e = .returned (.int .i64 ((posL xs xs.length).length : Nat)) ∧ Ext w w' := by
  subst hl
  apply f17_does
  refine ⟨fun x y n ww => ∃ i : Nat, y = i ∧ n = xs.length - i ∧ i ≤ xs.length ∧ ¬ ins xs i ∧ x = ((posL xs i).length : Nat) ∧ Ext w ww, ⟨_, 0, rfl, rfl, Nat.zero_le _, ins_zero _, rfl, Upd.refl _ _⟩, ?_⟩
  rintro _ _ nn ww ⟨i, rfl, rfl, hi, hin, rfl, xw⟩
  refine ⟨fun jj => ?_, fun jj => ?_⟩
  · have jj := of_decide_eq_true jj
    have hlt : i < xs.length := by omega
    refine (rnext_does (hx.ext xw) rfl c h63 i).imp ?_
    rintro e w16 ⟨rfl, x16⟩
    have hn := nx_le hlt
    have hn1 := nx_pos xs i
    have hpl := posL_len_le xs i
    rw [nextF_n hlt]
    refine ⟨_, _, rfl, inI64 (by omega) (by omega), inI64 (by omega) (by omega), _, ?_, i + nx xs i, by omega, rfl, by omega, ins_next hin, ?_, Ext.thn xw x16⟩
    · omega
    · rw [posL_next hin]; simp
  · have jj := of_decide_eq_false jj
    obtain rfl : i = xs.length := by omega
    exact ⟨rfl, xw⟩
end
end Go.Proofs.Ytgfdgopmbfljeaa
