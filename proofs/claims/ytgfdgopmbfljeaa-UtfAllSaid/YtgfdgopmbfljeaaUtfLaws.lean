/-
  Letters: the statements' functions answer true.
-/
import Derived.Test.YtgfdgopmbfljeaaUtfCalls2
namespace Go.Proofs.Ytgfdgopmbfljeaa
open Go.RowKit Go.Vc
theorem slI : SlT Try.prog 29 3 1 8 := ⟨Try.underlying29, _, _, rfl, rfl, rfl, rfl, rfl, by decide⟩
theorem awake_does {w : World} : Does Try.prog 9 #[] w fun e w' => e = .returned (.bool true) ∧ Ext w w' := by
  apply f9_does
  intro b4 w4 h4
  refine (next_does (h4.ints [195, 164, 65] rfl (by decide)) rfl 3 (by decide) (by decide) 0).imp ?_
  rintro e w5 ⟨rfl, x5⟩
  have h1 : nextF [195, 164, 65] 0 = (228, 2) := by decide +kernel
  rw [h1]
  refine ⟨_, _, rfl, tru rfl (tru rfl fun b15 w15 h15 => (last_does (h15.ints [195, 164] rfl (by decide)) rfl 2 (by decide) (by decide) 2).imp ?_)⟩
  rintro e w16 ⟨rfl, x16⟩
  have h2 : lastF [195, 164] 2 = 2 := by decide +kernel
  rw [h2]
  exact ⟨_, rfl, rfl, Ext.thn (Ext.thn (Ext.thn h4.ext x5) h15.ext) x16⟩
theorem known_law {w : World} : Does Try.prog 3 #[] w (Holds w) := by
  apply f3_does
  refine awake_does.imp ?_
  rintro e w5 ⟨rfl, x5⟩
  refine ⟨_, rfl, fls rfl fun b8 w8 h8 => (next_does (h8.ints [195, 65] rfl (by decide)) rfl 2 (by decide) (by decide) 0).imp ?_⟩
  rintro e w9 ⟨rfl, x9⟩
  have h1 : nextF [195, 65] 0 = (-1, 1) := by decide +kernel
  rw [h1]
  refine ⟨_, _, rfl, fun b13 w13 h13 => (next_does (h13.ints [237, 160, 128] rfl (by decide)) rfl 3 (by decide) (by decide) 0).imp ?_⟩
  rintro e w14 ⟨rfl, x14⟩
  have h2 : nextF [237, 160, 128] 0 = (-1, 1) := by decide +kernel
  rw [h2]
  have y14 := Ext.thn (Ext.thn (Ext.thn (Ext.thn x5 h8.ext) x9) h13.ext) x14
  refine ⟨_, _, rfl, tru rfl (tru rfl (tru rfl (tru rfl fun b32 w32 h32 => (last_does (h32.ints [164] rfl (by decide)) rfl 1 (by decide) (by decide) 1).imp ?_)))⟩
  rintro e w33 ⟨rfl, x33⟩
  have h3 : lastF [164] 1 = 1 := by decide +kernel
  rw [h3]
  refine ⟨_, rfl, tru rfl fun b37 w37 h37 => (begins_does (h37.ints [195, 164] rfl (by decide)) rfl 2 (by decide) (by decide) 1 (by decide)).imp ?_⟩
  rintro e w38 ⟨rfl, x38⟩
  have h4 : begF [195, 164] 1 = false := by decide +kernel
  rw [h4]
  refine ⟨_, rfl, tru rfl fun b42 w42 h42 => (begins_does (h42.ints [195, 65] rfl (by decide)) rfl 2 (by decide) (by decide) 1 (by decide)).imp ?_⟩
  rintro e w43 ⟨rfl, x43⟩
  have h5 : begF [195, 65] 1 = true := by decide +kernel
  rw [h5]
  refine ⟨_, rfl, tru rfl fun b46 w46 h46 => (count_does (h46.ints [195, 164, 164] rfl (by decide)) rfl 3 (by decide) (by decide)).imp ?_⟩
  rintro e w47 ⟨rfl, x47⟩
  have h6 : ((posL [195, 164, 164] ([195, 164, 164] : List Int).length).length : Int) = 2 := by decide +kernel
  rw [h6]
  exact ⟨_, rfl, rfl, Ext.thn (Ext.thn (Ext.thn (Ext.thn (Ext.thn (Ext.thn (Ext.thn (Ext.thn y14 h32.ext) x33) h37.ext) x38) h42.ext) x43) h46.ext) x47⟩
section
variable {w : World} {ok : Nat → Prop} {p : Option Addr} {xs : List Int}
theorem cuts_law (hx : Ints .u8 w ok p xs) {l : Nat} (hl : l = xs.length) (c : Nat) (hc : l ≤ c) (a : Int) (ha : InK .i64 a) : Does Try.prog 4 #[.slice p l c, .int .i64 a] w (Holds w) := by
  subst hl
  apply f4_does
  refine awake_does.imp ?_
  rintro e w9 ⟨rfl, x9⟩
  refine ⟨_, rfl, fls rfl ⟨fun _ => ⟨rfl, x9⟩, fun j => ?_⟩⟩
  have j := of_decide_eq_false j
  have h63 : xs.length ≤ 1000000000 := by omega
  refine (next_does (hx.ext x9) rfl c hc h63 a).imp ?_
  rintro e w17 ⟨rfl, x17⟩
  have y17 := Ext.thn x9 x17
  refine ⟨_, _, rfl, (rnext_does (hx.ext y17) rfl c h63 a).imp ?_⟩
  rintro e w23 ⟨rfl, x23⟩
  have y23 := Ext.thn y17 x23
  refine ⟨_, _, rfl, tru (by simp) (tru (by simp) ((last_does (hx.ext y23) rfl c hc h63 a).imp ?_))⟩
  rintro e w37 ⟨rfl, x37⟩
  have y37 := Ext.thn y23 x37
  refine ⟨_, rfl, (rlast_does (hx.ext y37) rfl c h63 a).imp ?_⟩
  rintro e w40 ⟨rfl, x40⟩
  have y40 := Ext.thn y37 x40
  refine ⟨_, rfl, tru (by simp) ((begins_does (hx.ext y40) rfl c hc h63 a ha).imp ?_)⟩
  rintro e w46 ⟨rfl, x46⟩
  have y46 := Ext.thn y40 x46
  refine ⟨_, rfl, (rbegins_does (hx.ext y46) rfl c h63 a ha).imp ?_⟩
  rintro e w49 ⟨rfl, x49⟩
  have y49 := Ext.thn y46 x49
  refine ⟨_, rfl, tru (by simp) ((count_does (hx.ext y49) rfl c hc h63).imp ?_)⟩
  rintro e w54 ⟨rfl, x54⟩
  have y54 := Ext.thn y49 x54
  refine ⟨_, rfl, (rcount_does (hx.ext y54) rfl c h63).imp ?_⟩
  rintro e w56 ⟨rfl, x56⟩
  exact ⟨_, rfl, by simp, Ext.thn y54 x56⟩
theorem lastF_prev {q i : Nat} (hi : i ≤ xs.length) (hq : ¬ ins xs q) (h : q + nx xs q = i) : lastF xs i = (nx xs q : Nat) := by
  have hp := nx_pos xs q
  have h4 : nx xs q ≤ 4 := by have := sevN_le (xs.drop q); unfold nx; split <;> omega
  have hb : ¬ ((i : Int) < 1 ∨ (i : Int) > xs.length) := by omega
  rcases Nat.lt_or_ge (nx xs q) 2 with h2 | h2
  · rw [lastF_one hb (fun j j2 j4 ji hs => ?_)]
    · omega
    · rw [Int.toNat_natCast] at hs
      have := (last_law hi hq h j j2 (by omega)).1 hs
      omega
  · refine lastF_find hb h2 h4 (by omega) ?_ (fun j j2 jk hs => ?_)
    · rw [Int.toNat_natCast]
      exact (last_law hi hq h _ h2 (by omega)).2 rfl
    · rw [Int.toNat_natCast] at hs
      have := (last_law hi hq h j j2 (by omega)).1 hs
      omega
theorem posL_succ (b : List Int) (i : Nat) : posL b (i + 1) = posL b i ++ if ins b i then [] else [i] := by
  unfold posL
  rw [List.range_succ, List.filter_append]
  by_cases h : ins b i <;> simp [h]
theorem walks_law (hx : Ints .u8 w ok p xs) {l : Nat} (hl : l = xs.length) (c : Nat) (hc : l ≤ c) : Does Try.prog 5 #[.slice p l c] w (Holds w) := by
  subst hl
  apply f5_does
  refine awake_does.imp ?_
  rintro e w13 ⟨rfl, x13⟩
  refine ⟨_, rfl, fls rfl ⟨fun _ => ⟨rfl, x13⟩, fun j => ?_⟩⟩
  have j := of_decide_eq_false j
  have h63 : xs.length ≤ 1000000000 := by omega
  refine ⟨fun p3 l3 c3 x n wl => ∃ i : Nat, x = i ∧ n = xs.length - i ∧ i ≤ xs.length ∧ ¬ ins xs i ∧ l3 = (posL xs i).length ∧ Own wl w13.heap.size 3 1 p3 l3 c3 (((posL xs i).map fun n : Nat => (n : Int)).map (Value.int .i64)) ∧ Ext w13 wl,
    ⟨_, 0, rfl, rfl, Nat.zero_le _, ins_zero _, rfl, own_nil _ _ _ _, Upd.refl _ _⟩, ?_⟩
  rintro p3 _ c3 _ nn wl ⟨i, rfl, rfl, hi, hin, rfl, ho, xl⟩
  have hpl := posL_len_le xs i
  refine ⟨fun jj => ?_, fun jj => ?_⟩
  · have jj := of_decide_eq_true jj
    have hlt : i < xs.length := by omega
    intro b24 w24 hb
    have x24 := hb.ext
    obtain ⟨p', c', w25, hr, ho', hu, _⟩ := append_own slI 29 (ho.ext x24) (p2 := some ⟨b24, 0, none⟩) (l2 := 1) (c2 := 1) (news := [.int .i64 i]) rfl hb.src (by simp [Value.oneCell']) (by simp only [maxLen]; omega) (by omega) (by have := xl.size; have := x24.size; omega)
    have x25 := Own.ext_of (ho.ext x24) hu (Ext.thn xl x24) (Nat.le_refl _)
    refine ⟨p', _, c', w25, hr, (next_does (hx.ext (Ext.thn x13 x25)) rfl c hc h63 i).imp ?_⟩
    rintro e w29 ⟨rfl, x29⟩
    have hn := nx_le hlt
    have hn1 := nx_pos xs i
    rw [nextF_n hlt]
    refine ⟨_, _, rfl, fls (by rw [decide_eq_false_iff_not]; omega) ⟨inI64 (by omega) (by omega), xs.length - (i + nx xs i), by omega, i + nx xs i, by omega, rfl, by omega, ins_next hin, ?_, ?_, Ext.thn x25 x29⟩⟩
    · rw [posL_next hin]; simp
    · rw [posL_next hin, List.map_append, List.map_append]
      exact ho'.ext x29
  have jj := of_decide_eq_false jj
  obtain rfl : i = xs.length := by omega
  have hO := ho.ints (fun y hy => by
    obtain ⟨n, hn, rfl⟩ := List.mem_map.1 hy
    have := (List.mem_filter.1 hn).1
    have := List.mem_range.1 this
    exact inI64 (by omega) (by omega))
  refine (count_does (hx.ext (Ext.thn x13 xl)) rfl c hc h63).imp ?_
  rintro e w38 ⟨rfl, x38⟩
  have y38 := Ext.thn xl x38
  have hO := hO.ext x38
  have hat : ∀ (q : Nat), q < xs.length → ¬ ins xs q → ∃ (h : (posL xs q).length < ((posL xs xs.length).map fun n : Nat => (n : Int)).length), ((posL xs xs.length).map fun n : Nat => (n : Int))[(posL xs q).length] = (q : Int) := fun q hq hn => by
    have h1 := (posL_at hq).2 hn
    have h2 := (List.getElem?_eq_some_iff.1 h1)
    obtain ⟨h3, h4⟩ := h2
    exact ⟨by rw [List.length_map]; exact h3, by rw [List.getElem_map, h4]⟩
  refine ⟨_, rfl, fls (by simp) ⟨fun x y n ww => ∃ i : Nat, y = i ∧ i = n ∧ i ≤ xs.length ∧ ¬ ins xs i ∧ x = ((posL xs i).length : Nat) ∧ Ext w38 ww, ⟨_, xs.length, rfl, rfl, Nat.le_refl _, hin, rfl, Upd.refl _ _⟩, ?_⟩⟩
  rintro _ _ nn ww ⟨i, rfl, rfl, hi, hin', rfl, xw⟩
  have yw := Ext.thn (Ext.thn x13 y38) xw
  refine ⟨fun jj => ?_, fun jj => ?_⟩
  · have jj := of_decide_eq_true jj
    obtain ⟨q, hq, hqi, hqn⟩ := ins_prev (by omega) hi hin'
    have hp := nx_pos xs q
    refine (last_does (hx.ext yw) rfl c hc h63 i).imp ?_
    rintro e w50 ⟨rfl, x50⟩
    rw [lastF_prev hi hqi hqn]
    have hlen : (posL xs i).length = (posL xs q).length + 1 := by rw [← hqn, posL_next hqi]; simp
    obtain ⟨h3, h4⟩ := hat q (by omega) hqi
    obtain ⟨bb, oo, hpp, hcc⟩ := ((hO.ext xw).ext x50).at _ h3
    rw [h4] at hcc
    have hql := posL_len_le xs q
    refine ⟨_, rfl, fls (by rw [decide_eq_false_iff_not]; omega) (fls (by rw [beq_eq_false_iff_ne]; omega) ⟨inI64 (by omega) (by omega), inI64 (by omega) (by omega), ⟨by omega, by rw [List.length_map] at h3; omega⟩, bb, oo, hpp, _, by rw [show (((posL xs i).length : Int) - 1).toNat = (posL xs q).length by omega]; exact hcc, fls (by rw [bne_eq_false_iff_eq]; omega) ⟨q, by omega, q, by omega, rfl, by omega, hqi, by omega, Ext.thn xw x50⟩⟩)⟩
  have jj := of_decide_eq_false jj
  obtain rfl : i = 0 := by omega
  have hx7 : ((posL xs 0).length : Int) = 0 := rfl
  refine ⟨fun x y n w2 => ∃ a : Nat, y = a ∧ n = xs.length - a ∧ a ≤ xs.length ∧ x = ((posL xs a).length : Nat) ∧ Ext ww w2, ⟨_, 0, rfl, rfl, Nat.zero_le _, rfl, Upd.refl _ _⟩, ?_⟩
  rintro _ _ n2 w2 ⟨a, rfl, rfl, ha, rfl, x2⟩
  have y2 := Ext.thn yw x2
  have hal := posL_len_le xs a
  refine ⟨fun ja => ?_, fun ja => ⟨by rw [hx7]; rfl, y2⟩⟩
  have ja := of_decide_eq_true ja
  have hlt : a < xs.length := by omega
  have hbg : begF xs (a : Int) = !decide (ins xs a) := by unfold begF; rw [decide_eq_true (by omega), Int.toNat_natCast]; rfl
  have fin : ∀ {w3 : World} {k : Nat}, Ext w2 w3 → k = (posL xs (a + 1)).length → InK .i64 ((a : Int) + 1) ∧ ∃ ml27, ml27 < xs.length - a ∧ ∃ a' : Nat, (a : Int) + 1 = a' ∧ ml27 = xs.length - a' ∧ a' ≤ xs.length ∧ (k : Int) = ((posL xs a').length : Nat) ∧ Ext ww w3 := fun h3 hk =>
    ⟨inI64 (by omega) (by omega), _, by omega, a + 1, by omega, rfl, hlt, by rw [hk], Ext.thn x2 h3⟩
  refine ⟨fun jb => ?_, fun jb => ?_⟩
  · have jb := of_decide_eq_true jb
    have hi : (posL xs a).length < ((posL xs xs.length).map fun n : Nat => (n : Int)).length := by rw [List.length_map]; omega
    obtain ⟨bb, oo, hpp, hcc⟩ := ((hO.ext xw).ext x2).at _ hi
    refine ⟨⟨by omega, by omega⟩, bb, oo, hpp, _, hcc, (begins_does (hx.ext y2) rfl c hc h63 a (inI64 (by omega) (by omega))).imp ?_⟩
    rintro e w88 ⟨rfl, x88⟩
    have heq : (((posL xs xs.length).map fun n : Nat => (n : Int))[(posL xs a).length] == (a : Int)) = !decide (ins xs a) := by
      have h1 := posL_at (b := xs) hlt
      rw [List.getElem?_eq_getElem (by rw [List.length_map] at hi; exact hi)] at h1
      rw [List.getElem_map]
      by_cases h : ins xs a
      · rw [decide_eq_true h]
        have : (posL xs xs.length)[(posL xs a).length]'(by rw [List.length_map] at hi; exact hi) ≠ a := fun e => h1.1 (by rw [e]) h
        rw [Bool.not_true, beq_eq_false_iff_ne]
        omega
      · rw [decide_eq_false h]
        have := h1.2 h
        injection this with this
        rw [this]
        simp
    have hps := posL_succ xs a
    refine ⟨_, rfl, fls (by rw [hbg, heq]; simp) ⟨fun je => ?_, fun je => ?_⟩⟩
    · rw [heq] at je
      have je : ¬ ins xs a := by simpa using je
      rw [if_neg je] at hps
      have hf := fin (k := (posL xs a).length + 1) x88 (by rw [hps]; simp)
      exact ⟨inI64 (by omega) (by omega), hf⟩
    · rw [heq] at je
      have je : ins xs a := by simpa using je
      rw [if_pos je, List.append_nil] at hps
      exact fin x88 (by rw [hps])
  · have jb := of_decide_eq_false jb
    have hia : ins xs a := by
      by_cases h : ins xs a
      · exact h
      · obtain ⟨h3, _⟩ := hat a hlt h
        rw [List.length_map] at h3
        omega
    refine (begins_does (hx.ext y2) rfl c hc h63 a (inI64 (by omega) (by omega))).imp ?_
    rintro e w88 ⟨rfl, x88⟩
    have hps := posL_succ xs a
    rw [if_pos hia, List.append_nil] at hps
    exact ⟨_, rfl, fls (by rw [hbg, decide_eq_true hia]; rfl) (fin x88 (by rw [hps]))⟩
end
end Go.Proofs.Ytgfdgopmbfljeaa
