/-
  Which pages are free: the statements' functions answer true, second part.
-/
import Derived.Test.YtcfcbhkkolilmaaSpaceLaws
import Derived.Test.YtcfcbhkkolilmaaOpen
namespace Go.Proofs.Ytcfcbhkkolilmaa
open Go.RowKit Go.Vc
/-- A deed. -/
def DdV (_w : World) (_ok : Nat → Prop) (vs : List Value) (d : Int × Int) : Prop := vs = [.int .i64 d.1, .int .i64 d.2] ∧ InK .i64 d.1 ∧ InK .i64 d.2
theorem DdV.stable : StableV DdV := fun _ _ _ _ _ _ _ _ h => h
abbrev Dds (w : World) (ok : Nat → Prop) (p : Option Addr) (ds : List (Int × Int)) : Prop := RS 2 (ElemC DdV) w ok p ds
theorem Dds.ext {w w' : World} {ok : Nat → Prop} {p : Option Addr} {ds : List (Int × Int)} (h : Dds w ok p ds) (hu : Ext w w') : Dds w' ok p ds := RS.ext (ElemC.stable DdV.stable) h hu
theorem Dds.at {w : World} {ok : Nat → Prop} {p : Option Addr} {ds : List (Int × Int)} (h : Dds w ok p ds) (i : Nat) (hi : i < ds.length) :
    ∃ b o, p = some ⟨b, o, none⟩ ∧ b < w.heap.size ∧ w.cell? ⟨b, o + i * 2, none⟩ = some (.int .i64 ds[i].1) ∧ w.cell? ⟨b, o + i * 2 + 1, none⟩ = some (.int .i64 ds[i].2) := by
  obtain ⟨b, o, hp, _, hb, vs, ⟨rfl, _, _⟩, hc⟩ := h i hi
  exact ⟨b, o, hp, hb, hc 0 _ rfl, hc 1 _ rfl⟩
theorem deed_open {H : Type} {enc : TypeId × Value → H} {w : World} {base : Nat} {sp : Nat → Bool} {held : Bool} {n : Nat} {cs : List Value} {y : DataW H × List MemPlace} (h : DataW.trod enc Try.prog w base sp held n 36 cs = some y) : ∃ x : Int × Int, DdV w (fun _ => True) cs x := by
  have hlen := struct_len Try.underlying36 h
  obtain ⟨n0, y0, h0⟩ := field_open Try.underlying36 h 0 rfl (T := 3) rfl (o := 0) rfl (s := 1) (by kernel_rfl)
  obtain ⟨n1, y1, h1⟩ := field_open Try.underlying36 h 1 rfl (T := 3) rfl (o := 1) rfl (s := 1) (by kernel_rfl)
  obtain ⟨a, ha, ka⟩ := int_open Try.underlying3 h0
  obtain ⟨b, hb, kb⟩ := int_open Try.underlying3 h1
  refine ⟨(a, b), ?_, ka, kb⟩
  have hs : Try.prog.cellsOf 36 = 2 := by kernel_rfl
  rw [hs] at hlen
  match cs, hlen with
  | [c0, c1], _ =>
    simp at ha hb
    rw [ha, hb]
theorem deeds_open {H : Type} {enc : TypeId × Value → H} {w : World} {base : Nat} {sp : Nat → Bool} {held : Bool} {fuel : Nat} {p : Option Addr} {l c : Nat} {x : DataW H × List MemPlace} (h : DataW.trod enc Try.prog w base sp held fuel 34 [.slice p l c] = some x) :
    l ≤ c ∧ c ≤ maxLen ∧ ∃ xs : List (Int × Int), l = xs.length ∧ Dds w (fun _ => True) p xs :=
  rs_open Try.underlying34 (by kernel_rfl) (by decide) (fun _ _ _ h => deed_open h) h
/-- What a page may be, if it was so at the commit. -/
def RelV (a b : Int) : Prop := (a = 1 ∧ (b = 1 ∨ b = 3)) ∨ (a = 0 ∧ (b = 0 ∨ b = 2))
def RelS (s0 s : List Int) : Prop := s.length = s0.length ∧ ∀ i, i < s0.length → RelV (s0.getD i 0) (s.getD i 0)
theorem getD_set (s : List Int) (i j : Nat) (v : Int) (hj : j < s.length) : (s.set i v).getD j 0 = if i = j then v else s.getD j 0 := by
  rw [List.getD_eq_getElem?_getD, List.getElem?_set]
  by_cases h : i = j
  · subst h; rw [if_pos rfl, if_pos hj, if_pos rfl]; rfl
  · rw [if_neg h, if_neg h, ← List.getD_eq_getElem?_getD]
theorem RelS.set {s0 s : List Int} (h : RelS s0 s) {i : Nat} {v : Int} (hv : i < s0.length → RelV (s0.getD i 0) v) : RelS s0 (s.set i v) := by
  refine ⟨by rw [List.length_set]; exact h.1, fun j hj => ?_⟩
  rw [getD_set _ _ _ _ (by rw [h.1]; exact hj)]
  split
  · rename_i e; subst e; exact hv hj
  · exact h.2 j hj
theorem RelS.alloc {s0 s : List Int} (h : RelS s0 s) : RelS s0 (allocF s).1 := by
  unfold allocF
  cases hf : freeI s with
  | none => exact h
  | some i =>
    refine h.set fun hi => ?_
    have h1 := h.2 i hi
    have h2 := freeI_spec hf
    rw [List.getD_eq_getElem?_getD (l := s), h2] at h1
    unfold RelV at h1 ⊢
    simp at h1 ⊢
    exact h1
theorem RelS.give {s0 s : List Int} (h : RelS s0 s) (page : Int) : RelS s0 (giveF s page).1 := by
  unfold giveF
  split
  · exact h
  rename_i hp
  have hlt : page.toNat < s0.length := by have := h.1; omega
  have h1 := h.2 _ hlt
  split
  · rename_i e
    refine h.set fun _ => ?_
    rw [e] at h1
    unfold RelV at h1 ⊢
    simp at h1 ⊢
    exact h1
  split
  · rename_i e
    refine h.set fun _ => ?_
    rw [e] at h1
    unfold RelV at h1 ⊢
    simp at h1 ⊢
    exact h1
  · exact h
theorem RelS.abort {s0 s : List Int} (h : RelS s0 s) : turnF 0 1 s = s0 := by
  apply List.ext_getElem (by rw [turnF_length]; exact h.1)
  intro i h1 h2
  have h3 := h.2 i h2
  have hs : i < s.length := by rw [h.1]; exact h2
  rw [getD_of h2, getD_of hs] at h3
  simp only [turnF, List.getElem_map]
  unfold turnV
  rcases h3 with ⟨a, b | b⟩ | ⟨a, b | b⟩ <;> rw [a, b] <;> decide
theorem commit_rel {s : List Int} (h : OkS s) : RelS (turnF 1 0 s) (turnF 1 0 s) := by
  refine ⟨rfl, fun i hi => ?_⟩
  rw [getD_of hi]
  have hm := List.getElem_mem hi
  obtain ⟨x, hx, he⟩ := List.mem_map.1 hm
  rw [← he]
  have := h x hx
  unfold turnV RelV
  split
  · exact .inl ⟨rfl, .inl rfl⟩
  split
  · exact .inr ⟨rfl, .inl rfl⟩
  · omega
theorem safe_law {w : World} {ok ok' : Nat → Prop} {p q : Option Addr} {us vs : List (Int × Int)} (ha : Dds w ok p us) (hb : Dds w ok' q vs) {l m : Nat} (hl : l = us.length) (hm : m = vs.length) (c d : Nat) (h1 : us.length ≤ 9223372036854775807) (h2 : vs.length ≤ 9223372036854775807) :
    Does Try.prog 5 #[.slice p l c, .slice q m d] w (Holds w) := by
  subst hl hm
  apply f5_does
  refine awake_does.imp ?_
  rintro e w13 ⟨rfl, x13⟩
  refine ⟨_, rfl, fls rfl ⟨fun _ => ⟨rfl, x13⟩, fun j => ⟨fun _ => ⟨rfl, x13⟩, fun j2 => ?_⟩⟩⟩
  have j := of_decide_eq_false j
  have j2 := of_decide_eq_false j2
  refine (new_some 20 (by decide) (by decide)).imp ?_
  rintro e w24 ⟨x24, g, p24, c24, rfl, hs⟩
  have y24 := Ext.thn x13 x24
  have s13 := x13.size
  have hT : ∀ {v}, Upd (fun z => w13.heap.size ≤ z ∧ z < w24.heap.size) w24 v → Ext w v := fun hu => Upd.then y24 hu fun i hi h => by omega
  refine ⟨_, _, rfl, fls rfl (fls rfl ?_)⟩
  refine ⟨fun i n wl => ∃ (k : Nat) (st : List Int), i = k ∧ n = us.length - k ∧ k ≤ us.length ∧ Sp .u8 wl (fun z => w13.heap.size ≤ z ∧ z < w24.heap.size) g p24 c24 st ∧ Upd (fun z => w13.heap.size ≤ z ∧ z < w24.heap.size) w24 wl, ⟨_, 0, _, rfl, rfl, Nat.zero_le _, hs, Upd.refl _ _⟩, ?_⟩
  rintro _ n wl ⟨k, st, rfl, rfl, hk, hs, hu⟩
  have ew := hT hu
  refine ⟨fun jj => ?_, fun jj => ?_⟩
  · have jj := of_decide_eq_true jj
    have hlt : k < us.length := by omega
    obtain ⟨b, o, hp, _, a1, a2⟩ := (ha.ext ew).at k hlt
    refine ⟨⟨by omega, by omega⟩, b, o, hp, _, a1, fun _ => ?_, fun _ => ?_⟩
    · refine (alloc_does hs).imp ?_
      rintro e w46 ⟨rfl, hs', hu'⟩
      exact ⟨_, _, rfl, inI64 (by omega) (by omega), _, by omega, k + 1, _, by omega, rfl, hlt, hs', hu.trans hu'⟩
    · refine ⟨⟨by omega, by omega⟩, b, o, hp, _, a2, (give_does hs _).imp ?_⟩
      rintro e w46 ⟨rfl, hs', hu'⟩
      exact ⟨_, rfl, inI64 (by omega) (by omega), _, by omega, k + 1, _, by omega, rfl, hlt, hs', hu.trans hu'⟩
  have z := hu.size
  refine (commit_does hs (fun z hz => by omega)).imp ?_
  rintro e w55 ⟨rfl, hs5, u5⟩
  have hok := hs.2.1
  have hrel := commit_rel hok
  generalize turnF 1 0 st = s0 at hs5 hrel
  have hu5 := hu.trans u5
  have z5 := hu5.size
  refine ⟨rfl, (bits_does hs5 (fun z hz => by omega)).imp ?_⟩
  rintro e w57 ⟨p57, c57, out, rfl, ho, hb57, hi57, x57⟩
  have u57 : Upd (fun z => w13.heap.size ≤ z ∧ z < w24.heap.size) w24 w57 := Ext.then hu5 x57
  refine ⟨_, _, _, rfl, (free_does (hs5.ext x57)).imp ?_⟩
  rintro e w59 ⟨rfl, rfl⟩
  have hl0 := hs5.2.2.1
  have hl1 := hs5.2.2.2.1
  refine ⟨_, rfl, fun i n wl => ∃ (k : Nat) (st : List Int), i = k ∧ n = vs.length - k ∧ k ≤ vs.length ∧ Sp .u8 wl (fun z => w13.heap.size ≤ z ∧ z < w24.heap.size) g p24 c24 st ∧ RelS s0 st ∧ Upd (fun z => w13.heap.size ≤ z ∧ z < w24.heap.size) w59 wl, ⟨_, 0, _, rfl, rfl, Nat.zero_le _, hs5.ext x57, hrel, Upd.refl _ _⟩, ?_⟩
  rintro _ n wl2 ⟨k2, st2, rfl, rfl, hk2, hs2, hr2, hu2⟩
  have e2 := hT (u57.trans hu2)
  refine ⟨fun jj => ?_, fun jj => ?_⟩
  · have jj := of_decide_eq_true jj
    have hlt : k2 < vs.length := by omega
    obtain ⟨b, o, hp, _, a1, a2⟩ := (hb.ext e2).at k2 hlt
    refine ⟨⟨by omega, by omega⟩, b, o, hp, _, a1, fun _ => ?_, fun _ => ?_⟩
    · refine (alloc_does hs2).imp ?_
      rintro e w74 ⟨rfl, hs', hu'⟩
      have next : InK .i64 ((k2 : Int) + 1) ∧ ∃ ml18, ml18 < vs.length - k2 ∧ ∃ (k : Nat) (st : List Int), (k2 : Int) + 1 = k ∧ ml18 = vs.length - k ∧ k ≤ vs.length ∧ Sp .u8 w74 (fun z => w13.heap.size ≤ z ∧ z < w24.heap.size) g p24 c24 st ∧ RelS s0 st ∧ Upd (fun z => w13.heap.size ≤ z ∧ z < w24.heap.size) w59 w74 :=
        ⟨inI64 (by omega) (by omega), _, by omega, k2 + 1, _, by omega, rfl, hlt, hs', hr2.alloc, hu2.trans hu'⟩
      refine ⟨_, _, rfl, fun he => ?_, fun _ => next⟩
      have he : (allocF st2).2.2 = 0 := by simpa using he
      obtain ⟨i, hi⟩ : ∃ i, freeI st2 = some i := by
        unfold allocF at he
        cases hf : freeI st2 with
        | none => rw [hf] at he; simp at he
        | some i => exact ⟨i, rfl⟩
      have hal : (allocF st2).2.1 = (i : Int) := by unfold allocF; rw [hi]
      have hsp := freeI_spec hi
      have hil : i < st2.length := (List.getElem?_eq_some_iff.1 hsp).1
      have hi0 : i < s0.length := by rw [← hr2.1]; exact hil
      have hrv := hr2.2 i hi0
      rw [List.getD_eq_getElem?_getD (l := st2), hsp] at hrv
      have h0 : s0.getD i 0 = 0 := by
        unfold RelV at hrv
        simp at hrv
        exact hrv
      rw [hal, tdiv8, tmod8, wrap8, Int.toNat_natCast, Int.toNat_natCast]
      have hio : i / 8 < out.length := by omega
      have hi57' := Ints.upd hi57 (hu2.trans hu') (fun z hz h => by omega)
      obtain ⟨bb, oo, hpp, hcc⟩ := hi57'.at (i / 8) hio
      have hbit : (bits .and .u8 (out[i / 8].fdiv (2 ^ (min (i % 8) 8))) 1 == 1) = false := by
        have := hb57.2 i (by omega)
        rw [h0, getD_of hio] at this
        unfold bitAt at this
        rw [this]
        simp
      exact ⟨by decide, inI64 (by omega) (by omega), ⟨by omega, by omega⟩, bb, oo, hpp, _, hcc, by decide, by omega, fls hbit next⟩
    · refine ⟨⟨by omega, by omega⟩, b, o, hp, _, a2, (give_does hs2 _).imp ?_⟩
      rintro e w46 ⟨rfl, hs', hu'⟩
      exact ⟨_, rfl, inI64 (by omega) (by omega), _, by omega, k2 + 1, _, by omega, rfl, hlt, hs', hr2.give _, hu2.trans hu'⟩
  have z2 := hu2.size
  have z57 := u57.size
  refine (abort_does hs2 (fun z hz => by omega)).imp ?_
  rintro e w100 ⟨rfl, hs6, u6⟩
  rw [hr2.abort] at hs6
  refine ⟨rfl, (free_does hs6).imp ?_⟩
  rintro e w102 ⟨rfl, rfl⟩
  have z6 := u6.size
  refine ⟨_, rfl, tru (by simp) ((bits_does hs6 (fun z hz => by omega)).imp ?_)⟩
  rintro e w107 ⟨p107, c107, out', rfl, ho', hb107, hi107, x107⟩
  have he : out' = out := hb107.unique hb57 (by omega)
  have h59 : Upd (fun z => w13.heap.size ≤ z ∧ z < w24.heap.size) w59 w107 := Ext.then (hu2.trans u6) x107
  refine ⟨_, _, _, rfl, (same_does hi107 (Ints.upd hi57 h59 (fun z hz h => by omega)) rfl rfl _ _ (by omega)).imp ?_⟩
  rintro e w109 ⟨rfl, x109⟩
  exact ⟨_, rfl, by rw [decide_eq_true he], Ext.thn (hT (u57.trans h59)) x109⟩
/-! ### All pages are counted -/
/-- The states when so many pages were told. -/
def stA (n i : Nat) : List Int := (List.range n).map (fun j => if j < 2 then 1 else if j < i + 2 then 2 else 0)
theorem stA_length (n i : Nat) : (stA n i).length = n := by simp [stA]
theorem stA_get {n i j : Nat} (h : j < n) : (stA n i)[j]? = some (if j < 2 then 1 else if j < i + 2 then 2 else 0) := by
  unfold stA
  rw [List.getElem?_map, List.getElem?_range h]
  rfl
theorem newS_stA {n : Nat} (hn : 8 ≤ n) : newS n = stA n 0 := by
  rw [newS_load [] hn]
  apply List.ext_getElem?
  intro j
  by_cases hj : j < n
  · rw [loadN_get [] hj, stA_get hj]
    by_cases h2 : j < 2
    · rw [if_pos (.inl h2), if_pos h2]
    · rw [if_neg (by omega), if_neg h2, if_neg (by omega)]
  · rw [List.getElem?_eq_none (by rw [loadN_length]; omega), List.getElem?_eq_none (by rw [stA_length]; omega)]
theorem alloc_stA {n i : Nat} (hi : i + 2 < n) : allocF (stA n i) = (stA n (i + 1), ((i + 2 : Nat) : Int), 0) := by
  unfold allocF
  rw [freeI_some (i := i + 2) (by rw [stA_get hi, if_neg (by omega), if_neg (by omega)]) (fun j hj => by
    rw [stA_get (by omega)]
    split <;> simp
    all_goals omega)]
  simp only
  congr 1
  apply List.ext_getElem?
  intro j
  by_cases hj : j < n
  · rw [List.getElem?_set, stA_length, stA_get hj, stA_get hj]
    by_cases he : i + 2 = j
    · subst he; rw [if_pos rfl, if_pos hi, if_neg (by omega), if_pos (by omega)]
    · rw [if_neg he]
      by_cases h2 : j < 2
      · rw [if_pos h2, if_pos h2]
      · rw [if_neg h2, if_neg h2]
        by_cases h3 : j < i + 2
        · rw [if_pos h3, if_pos (by omega)]
        · rw [if_neg h3, if_neg (by omega)]
  · rw [List.getElem?_eq_none (by rw [List.length_set, stA_length]; omega), List.getElem?_eq_none (by rw [stA_length]; omega)]
theorem alloc_full {n : Nat} (hn : 2 ≤ n) : allocF (stA n (n - 2)) = (stA n (n - 2), 0, 6) := by
  unfold allocF
  rw [freeI_none fun j hj => by
    rw [stA_length] at hj
    rw [stA_get hj]
    split <;> simp
    all_goals omega]
theorem count_stA (n i : Nat) (hi : i + 2 ≤ n) : countF 0 (stA n i) = n - 2 - i := by
  have key : ∀ m, m ≤ n → countF 0 ((stA n i).take m) = m - (i + 2) := by
    intro m
    induction m with
    | zero => intro _; simp [countF]
    | succ m ih =>
      intro hm
      have hlt : m < (stA n i).length := by rw [stA_length]; omega
      rw [countF_take 0 hlt, ih (by omega)]
      have := stA_get (n := n) (i := i) (j := m) (by omega)
      rw [List.getElem?_eq_getElem hlt] at this
      injection this with this
      rw [this]
      by_cases h2 : m < 2
      · rw [if_pos h2, if_neg (by decide)]; omega
      · rw [if_neg h2]
        by_cases h3 : m < i + 2
        · rw [if_pos h3, if_neg (by decide)]; omega
        · rw [if_neg h3, if_pos rfl]; omega
  have := key n (Nat.le_refl _)
  rw [List.take_of_length_le (by rw [stA_length]; exact Nat.le_refl _)] at this
  omega
end Go.Proofs.Ytcfcbhkkolilmaa
