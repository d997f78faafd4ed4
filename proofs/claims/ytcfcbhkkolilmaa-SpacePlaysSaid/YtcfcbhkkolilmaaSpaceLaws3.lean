/-
  Which pages are free: the statements' functions answer true, third part.
-/
import Derived.Test.YtcfcbhkkolilmaaSpaceLaws2
namespace Go.Proofs.Ytcfcbhkkolilmaa
open Go.RowKit Go.Vc
theorem turn_full {n : Nat} (hn : 2 ≤ n) : turnF 1 0 (stA n (n - 2)) = List.replicate n 1 := by
  apply List.ext_getElem?
  intro j
  unfold turnF
  rw [List.getElem?_map]
  by_cases hj : j < n
  · rw [stA_get hj, List.getElem?_replicate, if_pos hj]
    by_cases h2 : j < 2
    · rw [if_pos h2]; rfl
    · rw [if_neg h2, if_pos (by omega)]; rfl
  · rw [List.getElem?_eq_none (by rw [stA_length]; omega), List.getElem?_eq_none (by rw [List.length_replicate]; omega)]; rfl
/-- The pages that were told. -/
def seenL (n i : Nat) : List Value := (List.range n).map (fun j => .bool (decide (2 ≤ j ∧ j < i + 2)))
theorem seenL_length (n i : Nat) : (seenL n i).length = n := by simp [seenL]
theorem seenL_get {n i j : Nat} (h : j < n) : (seenL n i)[j]? = some (.bool (decide (2 ≤ j ∧ j < i + 2))) := by
  unfold seenL
  rw [List.getElem?_map, List.getElem?_range h]
  rfl
theorem zerosL_false (n : Nat) : zerosL (.bool false) n = seenL n 0 := by
  have : zerosL (.bool false) n = List.replicate n (.bool false) := by
    unfold zerosL
    induction n with
    | zero => rfl
    | succ n ih => rw [List.replicate_succ, List.flatten_cons, ih]; rfl
  rw [this]
  apply List.ext_getElem?
  intro j
  by_cases hj : j < n
  · rw [seenL_get hj, List.getElem?_replicate, if_pos hj, decide_eq_false (by omega)]
  · rw [List.getElem?_eq_none (by rw [List.length_replicate]; omega), List.getElem?_eq_none (by rw [seenL_length]; omega)]
theorem seenL_set {n i : Nat} (hi : i + 2 < n) : (seenL n i).set (i + 2) (.bool true) = seenL n (i + 1) := by
  apply List.ext_getElem?
  intro j
  by_cases hj : j < n
  · rw [List.getElem?_set, seenL_length, seenL_get hj, seenL_get hj]
    by_cases he : i + 2 = j
    · subst he; rw [if_pos rfl, if_pos hi, decide_eq_true (by omega)]
    · rw [if_neg he, show decide (2 ≤ j ∧ j < i + 1 + 2) = decide (2 ≤ j ∧ j < i + 2) by rw [decide_eq_decide]; omega]
  · rw [List.getElem?_eq_none (by rw [List.length_set, seenL_length]; omega), List.getElem?_eq_none (by rw [seenL_length]; omega)]
/-- Used or pending. -/
def UP (s : List Int) : Prop := ∀ x ∈ s, x = 1 ∨ x = 3
theorem give_up {s : List Int} (h : UP s) (page : Int) : UP (giveF s page).1 ∧ ((giveF s page).2 = 0 ∧ countF 3 (giveF s page).1 = countF 3 s + 1 ∨ (giveF s page).2 ≠ 0 ∧ (giveF s page).1 = s) := by
  unfold giveF
  split
  · exact ⟨h, .inr ⟨by simp, rfl⟩⟩
  rename_i hp
  have hlt : page.toNat < s.length := by omega
  have hm := h _ (List.getElem_mem hlt)
  rw [getD_of hlt]
  split
  · rename_i e; omega
  split
  · rename_i e
    refine ⟨fun x hx => ?_, .inl ⟨rfl, ?_⟩⟩
    · rcases List.mem_or_eq_of_mem_set hx with h1 | rfl
      · exact h x h1
      · exact .inr rfl
    · unfold countF
      rw [List.countP_set hlt, e]
      simp
  · exact ⟨h, .inr ⟨by simp, rfl⟩⟩
theorem UP.free {s : List Int} (h : UP s) : countF 0 s = 0 := by
  unfold countF
  rw [List.countP_eq_zero]
  intro x hx
  have := h x hx
  simp
  omega
theorem UP.commit {s : List Int} (h : UP s) : countF 0 (turnF 1 0 s) = countF 3 s := by
  unfold countF turnF
  rw [List.countP_map]
  apply List.countP_congr
  intro x hx
  rcases h x hx with rfl | rfl <;> decide
theorem counts_law {w : World} {ok : Nat → Prop} {p : Option Addr} {gs : List Int} (hx : Ints .i64 w ok p gs) {l : Nat} (hl : l = gs.length) (c : Nat) (h63 : gs.length ≤ 9223372036854775807) (pages : Int) :
    Does Try.prog 4 #[.int .i64 pages, .slice p l c] w (Holds w) := by
  subst hl
  apply f4_does
  refine awake_does.imp ?_
  rintro e w13 ⟨rfl, x13⟩
  refine ⟨_, rfl, fls rfl ⟨fun _ => ⟨rfl, x13⟩, fun j => ⟨fun _ => ⟨rfl, x13⟩, fun j1 => ⟨fun _ => ⟨rfl, x13⟩, fun j2 => ?_⟩⟩⟩⟩
  have j := of_decide_eq_false j
  have j1 := of_decide_eq_false j1
  obtain ⟨n, rfl⟩ := Int.eq_ofNat_of_zero_le (show 0 ≤ pages by omega)
  refine (new_some _ (by omega) (by omega)).imp ?_
  rintro e w28 ⟨x28, g, q, d, rfl, hs⟩
  rw [Int.toNat_natCast, newS_stA (by omega)] at hs
  have y28 := Ext.thn x13 x28
  have s13 := x13.size
  refine ⟨_, _, rfl, fls rfl (fls rfl ⟨⟨by omega, by omega, by omega, by omega⟩, ?_⟩)⟩
  intro b38 w38 hb
  rw [Int.toNat_natCast, zerosL_false] at hb
  have hrow := hb.row (l := n) (sz := 1) (by rw [seenL_length, Nat.mul_one]) (by show n ≤ 9223372036854775807; omega)
  have y38 := Ext.thn y28 hb.ext
  have hbe := hb.eq
  have hbl := hb.lt
  have s28 := hs.1
  have hlt28 : ∀ z, (w13.heap.size ≤ z ∧ z < w28.heap.size) → z < b38 := fun z hz => by omega
  have hT : ∀ {v}, Upd (fun z => (w13.heap.size ≤ z ∧ z < w28.heap.size) ∨ z = b38) w38 v → Ext w v := fun hu => Upd.then y38 hu fun i hi h => by
    have := y28.size
    have := x28.size
    rcases h with h | h <;> omega
  refine ⟨fun x m wl => ∃ k : Nat, x = k ∧ m = n - 2 - k ∧ k + 2 ≤ n ∧ Sp .u8 wl (fun z => w13.heap.size ≤ z ∧ z < w28.heap.size) g q d (stA n k) ∧ Row wl (fun z => z = b38) 1 (some ⟨b38, 0, none⟩) n n (seenL n k) ∧
    Upd (fun z => (w13.heap.size ≤ z ∧ z < w28.heap.size) ∨ z = b38) w38 wl, ⟨_, 0, rfl, rfl, by omega, hs.ext hb.ext, hrow, Upd.refl _ _⟩, ?_⟩
  rintro _ m wl ⟨k, rfl, rfl, hk, hs, hr, hu⟩
  refine ⟨inI64 (by omega) (by omega), fun jj => ?_, fun jj => ?_⟩
  · have jj := of_decide_eq_true jj
    have hlt : k + 2 < n := by omega
    have ha := alloc_does hs
    rw [alloc_stA hlt] at ha
    dsimp only at ha
    refine ha.imp ?_
    rintro e w47 ⟨rfl, hs', hu'⟩
    have hr' := hr.upd hu' (fun a e h => by injection e with e; subst e; have := hlt28 _ h; simp at this)
    obtain ⟨bb, oo, hp, _, hcan, hcell⟩ := hr'.can (j := k + 2) (by rw [seenL_length]; exact hlt)
    have hc := hcell _ (seenL_get hlt)
    rw [decide_eq_false (by omega)] at hc
    injection hp with hp
    injection hp with hp1 hp2
    subst hp1; subst hp2
    refine ⟨_, _, rfl, fls rfl (fls (by rw [decide_eq_false_iff_not]; omega) (fls (by rw [decide_eq_false_iff_not]; omega) ⟨⟨by omega, by omega⟩, _, _, rfl, false, by rw [Int.toNat_natCast]; exact hc, fls rfl ((free_does hs').imp ?_)⟩))⟩
    rintro e w69 ⟨rfl, rfl⟩
    rw [count_stA n (k + 1) (by omega)]
    refine ⟨_, rfl, inI64 (by omega) (by omega), inI64 (by omega) (by omega), fls (by rw [bne_eq_false_iff_eq]; omega) ⟨⟨by omega, by omega⟩, _, _, rfl, by rw [Int.toNat_natCast]; exact hcan, ?_⟩⟩
    intro ws hst
    rw [Int.toNat_natCast] at hst
    have hr2 := hr'.set (j := k + 2) (by rw [seenL_length]; exact hlt) hst
    rw [seenL_set hlt] at hr2
    have us := hst.upd
    exact ⟨inI64 (by omega) (by omega), _, by omega, k + 1, by omega, rfl, by omega, hs'.upd us (fun z hz h => by have := hlt28 z hz; omega), hr2, (hu.trans (hu'.mono fun z _ h => .inl h)).trans (us.mono fun z _ h => .inr h)⟩
  have jj := of_decide_eq_false jj
  obtain rfl : k = n - 2 := by omega
  have ha := alloc_does hs
  rw [alloc_full (by omega)] at ha
  refine ha.imp ?_
  rintro e w81 ⟨rfl, hs, u81⟩
  refine ⟨_, _, rfl, fls rfl ?_⟩
  have u81 := hu.trans (u81.mono fun z _ h => .inl h)
  have z81 := u81.size
  have hc := commit_does hs (fun z hz => by have := hlt28 z hz; omega)
  rw [turn_full (by omega)] at hc
  refine hc.imp ?_
  rintro e w87 ⟨rfl, hs, u87⟩
  have u87 := u81.trans (u87.mono fun z _ h => .inl h)
  refine ⟨rfl, fun x i m wl => ∃ (k : Nat) (st : List Int), i = k ∧ m = gs.length - k ∧ k ≤ gs.length ∧ x = (countF 3 st : Nat) ∧ UP st ∧ Sp .u8 wl (fun z => w13.heap.size ≤ z ∧ z < w28.heap.size) g q d st ∧
    Upd (fun z => (w13.heap.size ≤ z ∧ z < w28.heap.size) ∨ z = b38) w38 wl, ⟨_, 0, List.replicate n 1, rfl, rfl, Nat.zero_le _, ?_, fun x hx => .inl (List.eq_of_mem_replicate hx), hs, u87⟩, ?_⟩
  · unfold countF
    rw [List.countP_eq_zero.2 (fun x hx => by rw [List.eq_of_mem_replicate hx]; decide)]
    rfl
  rintro _ _ m wl2 ⟨k, st, rfl, rfl, hk, rfl, hup, hs, hu2⟩
  refine ⟨fun jj => ?_, fun jj => ?_⟩
  · have jj := of_decide_eq_true jj
    have hlt : k < gs.length := by omega
    obtain ⟨bb, oo, hpp, hcc⟩ := (hx.ext (hT hu2)).at k hlt
    refine ⟨⟨by omega, by omega⟩, bb, oo, hpp, _, by rw [Int.toNat_natCast]; exact hcc, (give_does hs _).imp ?_⟩
    rintro e w99 ⟨rfl, hs', u99⟩
    obtain ⟨hup', hcase⟩ := give_up hup gs[k]
    have u99 := hu2.trans (u99.mono fun z _ h => .inl h)
    have hcl := countF_le 3 st
    have hl4 := hs.2.2.2.1
    refine ⟨_, rfl, fun jz => ?_, fun jz => ?_⟩
    · have jz := eq_of_beq jz
      rcases hcase with ⟨_, he⟩ | ⟨hz, _⟩
      · exact ⟨inI64 (by omega) (by omega), inI64 (by omega) (by omega), _, by omega, k + 1, _, by omega, rfl, hlt, by rw [he]; omega, hup', hs', u99⟩
      · exact absurd jz hz
    · have jz := ne_of_beq_false jz
      rcases hcase with ⟨hz, _⟩ | ⟨_, he⟩
      · exact absurd hz jz
      · exact ⟨inI64 (by omega) (by omega), _, by omega, k + 1, _, by omega, rfl, hlt, by rw [he], hup', hs', u99⟩
  refine (free_does hs).imp ?_
  rintro e w104 ⟨rfl, rfl⟩
  rw [hup.free]
  have z2 := hu2.size
  refine ⟨_, rfl, fls rfl ((commit_does hs (fun z hz => by have := hlt28 z hz; omega)).imp ?_)⟩
  rintro e w107 ⟨rfl, hs, u107⟩
  have u107 := hu2.trans (u107.mono fun z _ h => .inl h)
  refine ⟨rfl, (free_does hs).imp ?_⟩
  rintro e w109 ⟨rfl, rfl⟩
  rw [hup.commit]
  exact ⟨_, rfl, by simp, hT u107⟩
/-- Two spaces, the program's and the document's, apart. -/
def Two (w0 w : World) (g : Nat) (st : List Int) (g2 : Nat) : Prop :=
  ∃ (O : Nat → Prop) (p : Option Addr) (c : Nat) (O2 : Nat → Prop) (p2 : Option Addr) (c2 : Nat), Sp .u8 w O g p c st ∧ Sp .i64 w O2 g2 p2 c2 st ∧ (∀ z, O z → w0.heap.size ≤ z ∧ z < w.heap.size ∧ ¬ O2 z) ∧ (∀ z, O2 z → w0.heap.size ≤ z ∧ z < w.heap.size) ∧ Ext w0 w
theorem Two.ext {w0 w w' : World} {g : Nat} {st : List Int} {g2 : Nat} (h : Two w0 w g st g2) (x : Ext w w') : Two w0 w' g st g2 := by
  obtain ⟨O, p, c, O2, p2, c2, h1, h2, d1, d2, x0⟩ := h
  have := x.size
  exact ⟨O, p, c, O2, p2, c2, h1.ext x, h2.ext x, fun z hz => ⟨(d1 z hz).1, by have := (d1 z hz).2.1; omega, (d1 z hz).2.2⟩, fun z hz => ⟨(d2 z hz).1, by have := (d2 z hz).2; omega⟩, Ext.thn x0 x⟩
theorem two_step {w0 w w1 w2 : World} {O O2 : Nat → Prop} {g g2 : Nat} {p p2 : Option Addr} {c c2 : Nat} {st : List Int} (d1 : ∀ z, O z → w0.heap.size ≤ z ∧ z < w.heap.size ∧ ¬ O2 z) (d2 : ∀ z, O2 z → w0.heap.size ≤ z ∧ z < w.heap.size) (x : Ext w0 w)
    (h1 : Sp .u8 w1 O g p c st) (u1 : Upd O w w1) (h2 : Sp .i64 w2 O2 g2 p2 c2 st) (u2 : Upd O2 w1 w2) : Two w0 w2 g st g2 := by
  have z1 := u1.size
  have z2 := u2.size
  exact ⟨O, p, c, O2, p2, c2, h1.upd u2 (fun z hz h => (d1 z hz).2.2 h), h2, fun z hz => ⟨(d1 z hz).1, by have := (d1 z hz).2.1; omega, (d1 z hz).2.2⟩, fun z hz => ⟨(d2 z hz).1, by have := (d2 z hz).2; omega⟩,
    Upd.then (Upd.then x u1 fun i hi h => by have := (d1 i h).1; omega) u2 fun i hi h => by have := (d2 i h).1; omega⟩
theorem plays_law {w : World} {ok : Nat → Prop} {p : Option Addr} {ds : List (Int × Int)} (hd : Dds w ok p ds) {l : Nat} (hl : l = ds.length) (c : Nat) (h63 : ds.length ≤ 9223372036854775807) (pages : Int) :
    Does Try.prog 7 #[.int .i64 pages, .slice p l c] w (Holds w) := by
  subst hl
  apply f7_does
  refine awake_does.imp ?_
  rintro e w18 ⟨rfl, x18⟩
  refine ⟨_, rfl, fls rfl ⟨fun _ => ⟨rfl, x18⟩, fun j1 => ⟨fun _ => ⟨rfl, x18⟩, fun j2 => ?_⟩⟩⟩
  have j1 := of_decide_eq_false j1
  have j2 := of_decide_eq_false j2
  refine (new_does pages).imp ?_
  rintro e w29 ⟨x29, hr⟩
  rcases hr with ⟨hn, rfl⟩ | ⟨hn, g, q, d, rfl, hs⟩
  · refine ⟨_, _, rfl, (rnew_does pages).imp ?_⟩
    rintro e w34 ⟨x34, hr⟩
    rcases hr with ⟨hn', rfl⟩ | ⟨hn', _⟩
    · exact ⟨_, _, rfl, fls rfl (tru rfl ⟨rfl, Ext.thn (Ext.thn x18 x29) x34⟩)⟩
    · omega
  refine ⟨_, _, rfl, (rnew_does pages).imp ?_⟩
  rintro e w34 ⟨x34, hr⟩
  rcases hr with ⟨hn', _⟩ | ⟨hn', g2, q2, d2, rfl, hs2⟩
  · omega
  have z29 := x29.size
  have z34 := x34.size
  have htwo : Two w18 w34 g (newS pages.toNat) g2 := ⟨_, q, d, _, q2, d2, hs.ext x34, hs2, fun z hz => ⟨hz.1, by omega, by omega⟩, fun z hz => ⟨by omega, hz.2⟩, Ext.thn x29 x34⟩
  refine ⟨_, _, rfl, fls rfl (fls rfl ?_)⟩
  refine ⟨fun p5 x n wl => ∃ (k : Nat) (g : Nat) (st : List Int), p5 = some ⟨g, 0, none⟩ ∧ x = k ∧ n = ds.length - k ∧ k ≤ ds.length ∧ (st.length : Int) = pages ∧ Two w18 wl g st g2, ⟨_, 0, g, _, rfl, rfl, rfl, Nat.zero_le _, by rw [newS_length]; omega, htwo⟩, ?_⟩
  rintro _ _ n wl ⟨k, g, st, rfl, rfl, rfl, hk, hlen, O, q, d, O2, q2, d2, h1, h2, e1, e2, xl⟩
  refine ⟨fun jj => ?_, fun _ => ⟨rfl, Ext.thn x18 xl⟩⟩
  have jj := of_decide_eq_true jj
  have hlt : k < ds.length := by omega
  obtain ⟨b, o, hp, _, a1, a2⟩ := (hd.ext (Ext.thn x18 xl)).at k hlt
  refine ⟨⟨by omega, by omega⟩, b, o, hp, _, a1, _, a2, fun b10 w10 hb => ⟨hb.can 0 (by decide), fun wa ha => ⟨(hb.store ha).can 1 (by simp), fun ws hws => ?_⟩⟩⟩
  have hb2 := (hb.store ha).store hws
  have xs := hb2.ext
  have c0 := hb2.cell 0 (v := .int .i64 ds[k].1) rfl
  have c1 := hb2.cell 1 (v := .int .i64 ds[k].2) rfl
  have hbe := hb.eq
  have zs := xs.size
  have h1 := h1.ext xs
  have h2 := h2.ext xs
  have e1' : ∀ z, O z → w18.heap.size ≤ z ∧ z < ws.heap.size ∧ ¬ O2 z := fun z hz => ⟨(e1 z hz).1, by have := (e1 z hz).2.1; omega, (e1 z hz).2.2⟩
  have e2' : ∀ z, O2 z → w18.heap.size ≤ z ∧ z < ws.heap.size := fun z hz => ⟨(e2 z hz).1, by have := (e2 z hz).2; omega⟩
  have nb1 : ¬ O b10 := fun h => by have := (e1 _ h).2.1; omega
  have nb2 : ¬ O2 b10 := fun h => by have := (e2 _ h).2; omega
  have ys := Ext.thn xl xs
  clear e1 e2 xl hb ha hws a1 a2
  refine ⟨fun p5 b n w => ∃ (g : Nat) (st : List Int), p5 = some ⟨g, 0, none⟩ ∧ b = true ∧ (st.length : Int) = pages ∧ w.cell? ⟨b10, 1, none⟩ = some (.int .i64 ds[k].2) ∧ Two w18 w g st g2, ⟨_, c0, fun _ => ?_, fun _ => ⟨_, c0, fun _ => ?_, fun _ => ⟨_, c0, fun _ => ?_, fun _ => ⟨_, c0, fun _ => ?_, fun _ => ⟨_, c0, fun _ => ?_, fun _ => ?_⟩⟩⟩⟩⟩, ?_⟩
  · refine (alloc_does h1).imp ?_
    rintro e w67 ⟨rfl, h1', u1⟩
    refine ⟨_, _, rfl, (ralloc_does (h2.upd u1 fun z hz h => (e1' z h).2.2 hz)).imp ?_⟩
    rintro e w72 ⟨rfl, h2', u2⟩
    exact ⟨_, _, rfl, tru (by simp) ⟨0, g, _, rfl, by simp, by rw [allocF_length]; exact hlen, u2.cell nb2 (u1.cell nb1 c1), two_step e1' e2' ys h1' u1 h2' u2⟩⟩
  · refine ⟨_, c1, (give_does h1 _).imp ?_⟩
    rintro e w90 ⟨rfl, h1', u1⟩
    refine ⟨_, rfl, _, u1.cell nb1 c1, (rgive_does (h2.upd u1 fun z hz h => (e1' z h).2.2 hz) _).imp ?_⟩
    rintro e w95 ⟨rfl, h2', u2⟩
    exact ⟨_, rfl, 0, g, _, rfl, by simp, by rw [giveF_length]; exact hlen, u2.cell nb2 (u1.cell nb1 c1), two_step e1' e2' ys h1' u1 h2' u2⟩
  · refine (commit_does h1 fun z hz => (e1' z hz).2.1).imp ?_
    rintro e w67 ⟨rfl, h1', u1⟩
    refine ⟨rfl, (rcommit_does (h2.upd u1 fun z hz h => (e1' z h).2.2 hz)).imp ?_⟩
    rintro e w72 ⟨rfl, h2', u2⟩
    exact ⟨rfl, 0, g, _, rfl, rfl, by rw [turnF_length]; exact hlen, u2.cell nb2 (u1.cell nb1 c1), two_step e1' e2' ys h1' u1 h2' u2⟩
  · refine (doubt_does h1 fun z hz => (e1' z hz).2.1).imp ?_
    rintro e w67 ⟨rfl, h1', u1⟩
    refine ⟨rfl, (rdoubt_does (h2.upd u1 fun z hz h => (e1' z h).2.2 hz)).imp ?_⟩
    rintro e w72 ⟨rfl, h2', u2⟩
    exact ⟨rfl, 0, g, _, rfl, rfl, by rw [turnF_length]; exact hlen, u2.cell nb2 (u1.cell nb1 c1), two_step e1' e2' ys h1' u1 h2' u2⟩
  · refine (abort_does h1 fun z hz => (e1' z hz).2.1).imp ?_
    rintro e w67 ⟨rfl, h1', u1⟩
    refine ⟨rfl, (rabort_does (h2.upd u1 fun z hz h => (e1' z h).2.2 hz)).imp ?_⟩
    rintro e w72 ⟨rfl, h2', u2⟩
    exact ⟨rfl, 0, g, _, rfl, rfl, by rw [turnF_length]; exact hlen, u2.cell nb2 (u1.cell nb1 c1), two_step e1' e2' ys h1' u1 h2' u2⟩
  · refine (clone_does h1).imp ?_
    rintro e w55 ⟨g', q', d', rfl, h3, x55⟩
    have z55 := x55.size
    refine ⟨_, rfl, (alloc_does (h1.ext x55)).imp ?_⟩
    rintro e w57 ⟨rfl, h1', u1⟩
    have z57 := u1.size
    refine ⟨_, _, rfl, (commit_does h1' fun z hz => by have := (e1' z hz).2.1; omega).imp ?_⟩
    rintro e w59 ⟨rfl, h1', u2⟩
    have u12 := u1.trans u2
    have z12 := u12.size
    have zy := ys.size
    exact ⟨rfl, 0, g', _, rfl, rfl, hlen, u12.cell nb1 (x55.cell c1), _, q', d', O2, q2, d2, h3.upd u12 (fun z hz h => by have := (e1' z h).2.1; omega), (h2.ext x55).upd u12 (fun z hz h => (e1' z h).2.2 hz),
      fun z hz => ⟨by omega, by omega, fun h => by have := (e2' z h).2; omega⟩, fun z hz => ⟨(e2' z hz).1, by have := (e2' z hz).2; omega⟩, Upd.then (Ext.thn ys x55) u12 fun i hi h => by have := (e1' i h).1; omega⟩
  rintro _ _ nc wc ⟨g', st', rfl, rfl, hlen', c1', htw⟩ wd hdr
  have xd := hdr.ext
  have c1' := xd.cell c1'
  have htw := htw.ext xd
  clear h1 h2 e1' e2' nb1 nb2
  have htw0 := htw
  obtain ⟨O, q, d, O2, q2, d2, h1, h2, e1, e2, x0⟩ := htw0
  refine ⟨fun w => w.cell? ⟨b10, 1, none⟩ = some (.int .i64 ds[k].2), c1', fls rfl ((free_does h1).imp ?_)⟩
  rintro e w1 ⟨rfl, rfl⟩
  refine ⟨_, rfl, c1', (rcount_does h2 0).imp ?_⟩
  rintro e w1 ⟨rfl, rfl⟩
  refine ⟨_, rfl, c1', fls (by simp) ⟨_, fun _ h => h, (own_does' h1 _).imp ?_⟩⟩
  rintro e w1 ⟨rfl, rfl⟩
  refine ⟨_, rfl, c1', _, fun _ h => h, (ris_does h2 _ 2).imp ?_⟩
  rintro e w1 ⟨rfl, rfl⟩
  refine ⟨_, rfl, c1', fls (by simp) ⟨_, fun _ h => h, (used_does h1 _).imp ?_⟩⟩
  rintro e w1 ⟨rfl, rfl⟩
  have tail : Does Try.prog 14 #[.pointer (some ⟨g', 0, none⟩)] w1 fun e166 w166 =>
      ∃ (p166 : Option Addr) (l166 c166 : Nat), e166 = .returned (.slice p166 l166 c166) ∧ Does Try.prog 31 #[.pointer (some ⟨g2, 0, none⟩)] w166 fun e168 w168 =>
      ∃ (p168 : Option Addr) (l168 c168 : Nat), e168 = .returned (.slice p168 l168 c168) ∧ Does Try.prog 16 #[.slice p166 l166 c166, .slice p168 l168 c168] w168 fun e169 w169 =>
      ∃ b169 : Bool, e169 = .returned (.bool b169) ∧ Br (!b169) (Holds w (.returned (.bool false)) w169)
      (InK .i64 ((k : Int) + 1) ∧ ∃ ml12, ml12 < ds.length - k ∧ ∃ (k' : Nat) (g : Nat) (st : List Int), some (⟨g', 0, none⟩ : Addr) = some ⟨g, 0, none⟩ ∧ (k : Int) + 1 = k' ∧ ml12 = ds.length - k' ∧ k' ≤ ds.length ∧ (st.length : Int) = pages ∧ Two w18 w169 g st g2) := by
    refine (bits_does h1 fun z hz => (e1 z hz).2.1).imp ?_
    rintro e w166 ⟨p166, c166, out, rfl, ho, hb, hi, x166⟩
    have z166 := x166.size
    refine ⟨_, _, _, rfl, (rbits_does (h2.ext x166) fun z hz => by have := (e2 z hz).2; omega).imp ?_⟩
    rintro e w168 ⟨p168, c168, out', rfl, ho', hb', hi', x168⟩
    have he : out = out' := hb.unique hb' (by omega)
    have hl4 := h1.2.2.2.1
    refine ⟨_, _, _, rfl, (same_does (hi.ext x168).any hi'.any rfl rfl _ _ (by omega)).imp ?_⟩
    rintro e w169 ⟨rfl, x169⟩
    exact ⟨_, rfl, fls (by rw [decide_eq_true he]; rfl) ⟨inI64 (by omega) (by omega), _, by omega, k + 1, g', st', rfl, by omega, rfl, hlt, hlen', htw.ext (Ext.thn (Ext.thn x166 x168) x169)⟩⟩
  refine ⟨_, rfl, c1', _, fun _ h => h, fun k1 => ⟨_, fun _ h => h, fun k2 => ⟨_, fun _ h => h, (ris_does h2 _ 0).imp ?_⟩, fun k2 => fls ?_ tail⟩, fun k1 => fls ?_ tail⟩
  · rintro e w1 ⟨rfl, rfl⟩
    have k1 := of_decide_eq_true k1
    have k2 := of_decide_eq_true k2
    exact ⟨_, rfl, fls (by rw [decide_eq_true (by omega)]; simp) tail⟩
  · have k2 := of_decide_eq_false k2
    rw [decide_eq_false (by omega)]; rfl
  · have k1 := of_decide_eq_false k1
    rw [decide_eq_false (by omega)]; rfl
end Go.Proofs.Ytcfcbhkkolilmaa
