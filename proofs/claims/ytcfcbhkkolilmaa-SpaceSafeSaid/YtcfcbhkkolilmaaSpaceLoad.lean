/-
  Which pages are free: what Load does.
-/
import Derived.Test.YtcfcbhkkolilmaaSpaceCalls4
namespace Go.Proofs.Ytcfcbhkkolilmaa
open Go.RowKit Go.Vc
/-- The states while the first bits are taken over. -/
def loadN (bs : List Int) (n i : Nat) : List Int := (List.range n).map (fun j => if j < 2 ∨ (j < i ∧ bitL bs j = true) then 1 else 0)
theorem loadN_length (bs : List Int) (n i : Nat) : (loadN bs n i).length = n := by simp [loadN]
theorem loadN_get (bs : List Int) {n i j : Nat} (h : j < n) : (loadN bs n i)[j]? = some (if j < 2 ∨ (j < i ∧ bitL bs j = true) then 1 else 0) := by
  unfold loadN
  rw [List.getElem?_map, List.getElem?_range h]
  rfl
theorem newS_load (bs : List Int) {n : Nat} (hn : 8 ≤ n) : newS n = loadN bs n 0 := by
  apply List.ext_getElem?
  intro j
  by_cases hj : j < n
  · rw [loadN_get bs hj]
    unfold newS
    rw [List.getElem?_set, List.getElem?_set, List.getElem?_replicate]
    simp only [List.length_set, List.length_replicate]
    by_cases h1 : 1 = j
    · subst h1; simp; omega
    · by_cases h0 : 0 = j
      · subst h0; simp; omega
      · rw [if_neg h1, if_neg h0, if_pos hj, if_neg (by omega)]
  · rw [List.getElem?_eq_none (by rw [newS_length]; omega), List.getElem?_eq_none (by rw [loadN_length]; omega)]
theorem loadN_set (bs : List Int) {n i : Nat} (hi : i < n) (hb : bitL bs i = true) : (loadN bs n i).set i 1 = loadN bs n (i + 1) := by
  apply List.ext_getElem?
  intro j
  by_cases hj : j < n
  · rw [loadN_get bs hj, List.getElem?_set, loadN_length]
    by_cases he : i = j
    · subst he; rw [if_pos rfl, if_pos hi, if_pos (.inr ⟨by omega, hb⟩)]
    · rw [if_neg he, loadN_get bs hj]
      congr 1
      have : (j < 2 ∨ j < i ∧ bitL bs j = true) ↔ (j < 2 ∨ j < i + 1 ∧ bitL bs j = true) := by
        constructor
        · rintro (h | ⟨h, h'⟩); exact .inl h; exact .inr ⟨by omega, h'⟩
        · rintro (h | ⟨h, h'⟩); exact .inl h; exact .inr ⟨by omega, h'⟩
      simp only [this]
  · rw [List.getElem?_eq_none (by rw [List.length_set, loadN_length]; omega), List.getElem?_eq_none (by rw [loadN_length]; omega)]
theorem loadN_skip (bs : List Int) {n i : Nat} (h : bitL bs i = false ∨ n ≤ i) : loadN bs n i = loadN bs n (i + 1) := by
  apply List.ext_getElem?
  intro j
  by_cases hj : j < n
  · rw [loadN_get bs hj, loadN_get bs hj]
    congr 1
    have : (j < 2 ∨ j < i ∧ bitL bs j = true) ↔ (j < 2 ∨ j < i + 1 ∧ bitL bs j = true) := by
      constructor
      · rintro (h | ⟨h, h'⟩); exact .inl h; exact .inr ⟨by omega, h'⟩
      · rintro (h' | ⟨h', h''⟩)
        · exact .inl h'
        · refine .inr ⟨?_, h''⟩
          by_cases he : j = i
          · subst he
            rcases h with h | h
            · rw [h] at h''; cases h''
            · omega
          · omega
    simp only [this]
  · rw [List.getElem?_eq_none (by rw [loadN_length]; omega), List.getElem?_eq_none (by rw [loadN_length]; omega)]
/-- May bits be a space's? -/
def GoodB (n : Nat) (bs : List Int) : Prop := bs.length = (n + 7) / 8 ∧ bitL bs 0 = true ∧ bitL bs 1 = true ∧ ∀ i, i < 8 * bs.length → n ≤ i → bitL bs i = false
/-- The bits of what is loaded are they. -/
theorem load_bits {n : Nat} {bs out : List Int} (hn : 8 ≤ n) (hg : GoodB n bs) (hbs : ∀ x ∈ bs, 0 ≤ x ∧ x ≤ 255) (hl : out.length = (n + 7) / 8) (hb : BitsR (loadN bs n (8 * bs.length)) n out) : out = bs := by
  obtain ⟨g1, g2, g3, g4⟩ := hg
  refine hb.unique ⟨hbs, fun i hi => ?_⟩ (by omega)
  show bitL bs i = _
  by_cases hin : i < n
  · rw [decide_eq_true hin, Bool.true_and, List.getD_eq_getElem?_getD, loadN_get bs hin, Option.getD_some]
    by_cases hc : i < 2 ∨ (i < 8 * bs.length ∧ bitL bs i = true)
    · rw [if_pos hc]
      rcases hc with hc | hc
      · have : i = 0 ∨ i = 1 := by omega
        rcases this with rfl | rfl
        · rw [g2]; rfl
        · rw [g3]; rfl
      · rw [hc.2]; rfl
    · rw [if_neg hc]
      cases hbi : bitL bs i with
      | true => exact absurd (.inr ⟨hi, hbi⟩) hc
      | false => rfl
  · rw [g4 i hi (by omega), decide_eq_false hin]; rfl
theorem load_does {w : World} {ok : Nat → Prop} {p : Option Addr} {bs : List Int} (hx : Ints .u8 w ok p bs) {l : Nat} (hl : l = bs.length) (c : Nat) (pages : Int) (hs : bs.length ≤ 1000000) :
    Does Try.prog 17 #[.int .i64 pages, .slice p l c] w fun e w' => Ext w w' ∧ ((pages < 8 ∨ pages > 4096) ∧ e = .returned (.tuple #[.pointer none, .int .i64 1]) ∨ (8 ≤ pages ∧ pages ≤ 4096) ∧ ¬ GoodB pages.toNat bs ∧ e = .returned (.tuple #[.pointer none, .int .i64 4]) ∨
      (8 ≤ pages ∧ pages ≤ 4096) ∧ GoodB pages.toNat bs ∧ ∃ g q d, e = .returned (.tuple #[.pointer (some ⟨g, 0, none⟩), .int .i64 0]) ∧ Sp .u8 w' (fun z => w.heap.size ≤ z ∧ z < w'.heap.size) g q d (loadN bs pages.toNat (8 * bs.length))) := by
  subst hl
  apply f17_does
  refine (new_does pages).imp ?_
  rintro e w11 ⟨x11, hn⟩
  rcases hn with ⟨hz, rfl⟩ | ⟨⟨h0, h1⟩, g, q, d, rfl, hsp⟩
  · exact ⟨_, _, rfl, tru rfl ⟨x11, .inl ⟨hz, rfl⟩⟩⟩
  obtain ⟨n, rfl⟩ : ∃ n : Nat, pages = n := ⟨pages.toNat, by omega⟩
  rw [Int.toNat_natCast] at hsp ⊢
  have hdiv : ((n : Int) + 7).tdiv 8 = (((n + 7) / 8 : Nat) : Int) := tdiv8 (n + 7)
  have bad : ∀ {w'}, Ext w w' → ¬ GoodB n bs → Ext w w' ∧ (((n : Int) < 8 ∨ (n : Int) > 4096) ∧ Ending.returned (.tuple #[.pointer none, .int .i64 4]) = .returned (.tuple #[.pointer none, .int .i64 1]) ∨ (8 ≤ (n : Int) ∧ (n : Int) ≤ 4096) ∧ ¬ GoodB n bs ∧ Ending.returned (.tuple #[.pointer none, .int .i64 4]) = .returned (.tuple #[.pointer none, .int .i64 4]) ∨
      (8 ≤ (n : Int) ∧ (n : Int) ≤ 4096) ∧ GoodB n bs ∧ ∃ g q d, Ending.returned (.tuple #[.pointer none, .int .i64 4]) = .returned (.tuple #[.pointer (some ⟨g, 0, none⟩), .int .i64 0]) ∧ Sp .u8 w' (fun z => w.heap.size ≤ z ∧ z < w'.heap.size) g q d (loadN bs n (8 * bs.length))) :=
    fun hx hg => ⟨hx, .inr (.inl ⟨⟨h0, h1⟩, hg, rfl⟩)⟩
  refine ⟨_, _, rfl, fls rfl ⟨inI64 (by omega) (by omega), by decide, ?_⟩⟩
  rw [hdiv]
  refine ⟨inI64 (by omega) (by omega), fun j => ?_, fun j => ?_⟩
  · have j : ¬ ((bs.length : Int) = (((n + 7) / 8 : Nat) : Int)) := by simpa using j
    exact bad x11 fun hg => j (by rw [hg.1])
  have j : (bs.length : Int) = (((n + 7) / 8 : Nat) : Int) := by simpa using j
  have hlen : bs.length = (n + 7) / 8 := by omega
  refine (bit_does (hx.ext x11) rfl c 0 (by omega) hs).imp ?_
  rintro e w25 ⟨rfl, rfl⟩
  refine ⟨_, rfl, fun k => bad x11 fun hg => (by rw [hg.2.1] at k; cases k), fun k => ?_⟩
  have k0 : bitL bs 0 = true := by simpa using k
  refine (bit_does (hx.ext x11) rfl c 1 (by omega) hs).imp ?_
  rintro e w30 ⟨rfl, rfl⟩
  refine ⟨_, rfl, fun k => bad x11 fun hg => (by rw [hg.2.2.1] at k; cases k), fun k => ?_⟩
  have k1 : bitL bs 1 = true := by simpa using k
  rw [newS_load bs (by omega)] at hsp
  have hO : ∀ z, (w.heap.size ≤ z ∧ z < w30.heap.size) → z < w30.heap.size := fun z hz => hz.2
  refine ⟨inI64 (by omega) (by omega), fun i m wl => ∃ a : Nat, i = a ∧ m = 8 * bs.length - a ∧ a ≤ 8 * bs.length ∧ (∀ z, z < a → n ≤ z → bitL bs z = false) ∧ Sp .u8 wl (fun z => w.heap.size ≤ z ∧ z < w30.heap.size) g q d (loadN bs n a) ∧ Upd (fun z => w.heap.size ≤ z ∧ z < w30.heap.size) w30 wl,
    ⟨_, 0, rfl, rfl, Nat.zero_le _, by omega, hsp, Upd.refl _ _⟩, ?_⟩
  rintro _ m wl ⟨a, rfl, rfl, ha, hno, hsl, hu⟩
  have ew : Ext w wl := Upd.then x11 hu fun i hi h => by omega
  refine ⟨fun jj => ?_, fun jj => ?_⟩
  · have jj := of_decide_eq_true jj
    have hlt : a < 8 * bs.length := by omega
    refine (bit_does (hx.ext ew) rfl c a hlt hs).imp ?_
    rintro e w48 ⟨rfl, rfl⟩
    refine ⟨_, rfl, fun k => ?_, fun k => ?_⟩
    · have k : bitL bs a = false := by simpa using k
      refine ⟨inI64 (by omega) (by omega), _, ?_, a + 1, by omega, rfl, hlt, fun z hz hnz => ?_, ?_, hu⟩
      · omega
      · by_cases he : z = a
        · subst he; exact k
        · exact hno z (by omega) hnz
      · rw [← loadN_skip bs (.inl k)]; exact hsl
    have k : bitL bs a = true := by simpa using k
    refine ⟨fun j2 => ?_, fun j2 => ?_⟩
    · have j2 := of_decide_eq_true j2
      exact bad ew fun hg => by rw [hg.2.2.2 a hlt (by omega)] at k; cases k
    have j2 := of_decide_eq_false j2
    have hcc := hsl.2.2.2.2.1
    rw [loadN_length] at hcc
    obtain ⟨b, o, rfl, ho, hne, hcan, hcell⟩ := hsl.at (i := a) (by rw [loadN_length]; omega)
    refine ⟨g, 0, rfl, _, _, _, hcc, ⟨by omega, by omega⟩, b, o, rfl, hcan, fun ws s => ?_⟩
    obtain ⟨q1, q2⟩ := hsl.set (by rw [loadN_length]; omega) (by decide) (by decide) s
    rw [Int.toNat_natCast, loadN_set bs (by omega) k] at q1
    refine ⟨inI64 (by omega) (by omega), _, ?_, a + 1, by omega, rfl, hlt, fun z hz hnz => ?_, q1, hu.trans q2⟩
    · omega
    · exact hno z (by omega) hnz
  · have jj := of_decide_eq_false jj
    obtain rfl : a = 8 * bs.length := by omega
    have su := hu.size
    refine ⟨ew, .inr (.inr ⟨⟨h0, h1⟩, ⟨hlen, k0, k1, fun i hi hn => hno i hi hn⟩, g, q, d, rfl, ?_⟩)⟩
    obtain ⟨s1, s2, s3, s4, s5, s6⟩ := hsl
    exact ⟨⟨s1.1, by omega⟩, s2, s3, s4, s5, s6.ok fun z hz ⟨a1, a2⟩ => ⟨⟨a1.1, by omega⟩, a2⟩⟩
theorem rload_does {w : World} {ok : Nat → Prop} {p : Option Addr} {bs : List Int} (hx : Ints .u8 w ok p bs) {l : Nat} (hl : l = bs.length) (c : Nat) (pages : Int) (hs : bs.length ≤ 1000000) :
    Does Try.prog 18 #[.int .i64 pages, .slice p l c] w fun e w' => Ext w w' ∧ ((pages < 8 ∨ pages > 4096) ∧ e = .returned (.tuple #[.pointer none, .int .i64 1]) ∨ (8 ≤ pages ∧ pages ≤ 4096) ∧ ¬ GoodB pages.toNat bs ∧ e = .returned (.tuple #[.pointer none, .int .i64 4]) ∨
      (8 ≤ pages ∧ pages ≤ 4096) ∧ GoodB pages.toNat bs ∧ ∃ q, e = .returned (.tuple #[.pointer q, .int .i64 0])) := by
  subst hl
  apply f18_does
  refine (rnew_does pages).imp ?_
  rintro e w11 ⟨x11, hn⟩
  rcases hn with ⟨hz, rfl⟩ | ⟨⟨h0, h1⟩, g, q, d, rfl, hsp⟩
  · exact ⟨_, _, rfl, tru rfl ⟨x11, .inl ⟨hz, rfl⟩⟩⟩
  obtain ⟨n, rfl⟩ : ∃ n : Nat, pages = n := ⟨pages.toNat, by omega⟩
  rw [Int.toNat_natCast] at hsp ⊢
  have hdiv : ((n : Int) + 7).tdiv 8 = (((n + 7) / 8 : Nat) : Int) := tdiv8 (n + 7)
  have bad : ∀ {w'}, Ext w w' → ¬ GoodB n bs → Ext w w' ∧ (((n : Int) < 8 ∨ (n : Int) > 4096) ∧ Ending.returned (.tuple #[.pointer none, .int .i64 4]) = .returned (.tuple #[.pointer none, .int .i64 1]) ∨ (8 ≤ (n : Int) ∧ (n : Int) ≤ 4096) ∧ ¬ GoodB n bs ∧ Ending.returned (.tuple #[.pointer none, .int .i64 4]) = .returned (.tuple #[.pointer none, .int .i64 4]) ∨
      (8 ≤ (n : Int) ∧ (n : Int) ≤ 4096) ∧ GoodB n bs ∧ ∃ q, Ending.returned (.tuple #[.pointer none, .int .i64 4]) = .returned (.tuple #[.pointer q, .int .i64 0])) :=
    fun hx hg => ⟨hx, .inr (.inl ⟨⟨h0, h1⟩, hg, rfl⟩)⟩
  refine ⟨_, _, rfl, fls rfl ⟨inI64 (by omega) (by omega), by decide, ?_⟩⟩
  rw [hdiv]
  refine ⟨inI64 (by omega) (by omega), fun j => ?_, fun j => ?_⟩
  · have j : ¬ ((bs.length : Int) = (((n + 7) / 8 : Nat) : Int)) := by simpa using j
    exact bad x11 fun hg => j (by rw [hg.1])
  have j : (bs.length : Int) = (((n + 7) / 8 : Nat) : Int) := by simpa using j
  have hlen : bs.length = (n + 7) / 8 := by omega
  rw [newS_load bs (by omega)] at hsp
  refine ⟨fun i m wl => ∃ a : Nat, i = a ∧ m = 8 * bs.length - a ∧ a ≤ 8 * bs.length ∧ (∀ z, z < a → n ≤ z → bitL bs z = false) ∧ (∀ z, z < a → z < 2 → bitL bs z = true) ∧ Sp .i64 wl (fun z => w.heap.size ≤ z ∧ z < w11.heap.size) g q d (loadN bs n a) ∧ Upd (fun z => w.heap.size ≤ z ∧ z < w11.heap.size) w11 wl,
    ⟨_, 0, rfl, rfl, Nat.zero_le _, by omega, by omega, hsp, Upd.refl _ _⟩, ?_⟩
  rintro _ m wl ⟨a, rfl, rfl, ha, hno, hyes, hsl, hu⟩
  have ew : Ext w wl := Upd.then x11 hu fun i hi h => by omega
  refine ⟨inI64 (by omega) (by omega), fun jj => ?_, fun jj => ?_⟩
  · have jj := of_decide_eq_true jj
    have hlt : a < 8 * bs.length := by omega
    obtain ⟨b, o, hp, hc⟩ := (hx.ext ew).at (a / 8) (by omega)
    have hbit : (bits .and .u8 (bs[a / 8].fdiv (2 ^ (min (a % 8) 8))) 1 == 1) = bitL bs a := by unfold bitL bitAt; rw [getD_of (by omega)]
    rw [tdiv8, tmod8, wrap8, Int.toNat_natCast, Int.toNat_natCast]
    refine ⟨by decide, inI64 (by omega) (by omega), ⟨by omega, by omega⟩, b, o, hp, _, hc, by decide, by omega, ?_⟩
    rw [hbit]
    have store : bitL bs a = true → a < n → ∃ b58 o58, (some ⟨g, 0, none⟩ : Option Addr) = some ⟨b58, o58, none⟩ ∧ ∃ (p60 : Option Addr) (l60 c60 : Nat), wl.cell? ⟨b58, o58, none⟩ = some (.slice p60 l60 c60) ∧ ((0 : Int) ≤ (a : Int) ∧ (a : Int) < (l60 : Int)) ∧ ∃ b62 o62, p60 = some ⟨b62, o62, none⟩ ∧ CanStore wl b62 (o62 + (a : Int).toNat) ∧
        ∀ ws, Stored wl b62 (o62 + (a : Int).toNat) (.int .i64 1) ws → InK .i64 ((a : Int) + 1) ∧ ∃ ml7, ml7 < 8 * bs.length - a ∧ ∃ a' : Nat, (a : Int) + 1 = a' ∧ ml7 = 8 * bs.length - a' ∧ a' ≤ 8 * bs.length ∧ (∀ z, z < a' → n ≤ z → bitL bs z = false) ∧ (∀ z, z < a' → z < 2 → bitL bs z = true) ∧
          Sp .i64 ws (fun z => w.heap.size ≤ z ∧ z < w11.heap.size) g q d (loadN bs n a') ∧ Upd (fun z => w.heap.size ≤ z ∧ z < w11.heap.size) w11 ws := fun k han => by
      have hcc := hsl.2.2.2.2.1
      rw [loadN_length] at hcc
      obtain ⟨b, o, rfl, ho, hne, hcan, hcell⟩ := hsl.at (i := a) (by rw [loadN_length]; omega)
      refine ⟨g, 0, rfl, _, _, _, hcc, ⟨by omega, by omega⟩, b, o, rfl, hcan, fun ws s => ?_⟩
      obtain ⟨q1, q2⟩ := hsl.set (by rw [loadN_length]; omega) (by decide) (by decide) s
      rw [Int.toNat_natCast, loadN_set bs (by omega) k] at q1
      refine ⟨inI64 (by omega) (by omega), _, ?_, a + 1, by omega, rfl, hlt, fun z hz hnz => hno z (by omega) hnz, fun z hz hz2 => ?_, q1, hu.trans q2⟩
      · omega
      · by_cases he : z = a
        · subst he; exact k
        · exact hyes z (by omega) hz2
    have skip : bitL bs a = false → 2 ≤ a → InK .i64 ((a : Int) + 1) ∧ ∃ ml7, ml7 < 8 * bs.length - a ∧ ∃ a' : Nat, (a : Int) + 1 = a' ∧ ml7 = 8 * bs.length - a' ∧ a' ≤ 8 * bs.length ∧ (∀ z, z < a' → n ≤ z → bitL bs z = false) ∧ (∀ z, z < a' → z < 2 → bitL bs z = true) ∧
          Sp .i64 wl (fun z => w.heap.size ≤ z ∧ z < w11.heap.size) g q d (loadN bs n a') ∧ Upd (fun z => w.heap.size ≤ z ∧ z < w11.heap.size) w11 wl := fun k h2 => by
      refine ⟨inI64 (by omega) (by omega), _, ?_, a + 1, by omega, rfl, hlt, fun z hz hnz => ?_, fun z hz hz2 => hyes z (by omega) hz2, ?_, hu⟩
      · omega
      · by_cases he : z = a
        · subst he; exact k
        · exact hno z (by omega) hnz
      · rw [← loadN_skip bs (.inl k)]; exact hsl
    refine ⟨fun j2 => ?_, fun j2 => ?_⟩
    · have j2 := of_decide_eq_true j2
      refine ⟨fun k => bad ew fun hg => ?_, fun k => ?_⟩
      · have : a = 0 ∨ a = 1 := by omega
        rcases this with rfl | rfl
        · rw [hg.2.1] at k; cases k
        · rw [hg.2.2.1] at k; cases k
      have k : bitL bs a = true := by simpa using k
      refine ⟨fun j3 => ?_, fun j3 => ⟨fun _ => store k (by omega), fun k' => (by rw [k] at k'; cases k')⟩⟩
      have j3 := of_decide_eq_true j3
      omega
    · have j2 := of_decide_eq_false j2
      refine ⟨fun j3 => ⟨fun k => bad ew fun hg => ?_, fun k => ⟨fun k' => (by rw [k] at k'; cases k'), fun k' => skip k (by omega)⟩⟩, fun j3 => ⟨fun k => store k (by have := of_decide_eq_false j3; omega), fun k => skip k (by omega)⟩⟩
      have j3 := of_decide_eq_true j3
      rw [hg.2.2.2 a hlt (by omega)] at k; cases k
  · have jj := of_decide_eq_false jj
    obtain rfl : a = 8 * bs.length := by omega
    exact ⟨ew, .inr (.inr ⟨⟨h0, h1⟩, ⟨hlen, hyes 0 (by omega) (by omega), hyes 1 (by omega) (by omega), fun i hi hn => hno i hi hn⟩, _, rfl⟩)⟩
end Go.Proofs.Ytcfcbhkkolilmaa
