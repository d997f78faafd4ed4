/-
  Devices: the statements' functions answer true: what was synced lasts.
-/
import Derived.Test.YtiblbjagfiigdaaDevSec
namespace Go.Proofs.Ytiblbjagfiigdaa
open Go.RowKit Go.Vc
variable {w : World}
/-- Deeds that write, one after another. -/
theorem deeds_loop {w0 w1 w : World} {ok : Nat → Prop} {p0 : Option Addr} {ds : List Deed} (hx : Deeds w0 ok p0 ds) (hlen : ds.length ≤ 1000) {b : Nat} {K : Nat → Prop} {d : Dev} {pk : Option Addr} {ks : List Int} (x01 : Ext w0 w1) (x1 : Ext w1 w) (M : DevX w w1.heap.size K b d) (hk : Ints .u8 w K pk ks)
    (P : Nat → Dev → Prop) (h0 : P 0 d) (hstep : ∀ i (hi : i < ds.length) d, P i d → d.ops < 1000000 ∧ P (i + 1) (d.write ds[i].page (pageL ds[i].fill ds[i].n)).1) {C : World → Prop}
    (hC : ∀ wl K d, DevX wl w1.heap.size K b d → P ds.length d → Ints .u8 wl K pk ks → Ext w1 wl → C wl) :
  (∃ I9 : Int → Nat → World → Prop, (∃ nl9, I9 0 nl9 w) ∧ ∀ x9 : Int, ∀ (nl9 : Nat) (wl9 : World), I9 x9 nl9 wl9 →
  Br (decide (x9 < ((ds.length : Int))))
  (∀ wd11, Drew wl9 wd11 →
  ∃ S11 : World → Prop, S11 wd11 ∧ ((0 : Int) ≤ x9 ∧ x9 < (ds.length : Int)) ∧ ∃ b52 o52, p0 = some ⟨b52, o52, none⟩ ∧ ∃ n54 : Int, (∀ w, S11 w → w.cell? ⟨b52, o52 + (x9).toNat * 5 + 2, none⟩ = some (.int .i64 n54)) ∧ ((0 : Int) ≤ x9 ∧ x9 < (ds.length : Int)) ∧ ∃ b57 o57, p0 = some ⟨b57, o57, none⟩ ∧ ∃ n59 : Int, wd11.cell? ⟨b57, o57 + (x9).toNat * 5 + 3, none⟩ = some (.int .u8 n59) ∧ ((0 : Int) ≤ x9 ∧ x9 < (ds.length : Int)) ∧ ∃ b62 o62, p0 = some ⟨b62, o62, none⟩ ∧ ∃ n64 : Int, wd11.cell? ⟨b62, o62 + (x9).toNat * 5 + 1, none⟩ = some (.int .i64 n64) ∧ Does Try.prog 12 #[.int .u8 n59, .int .i64 n64] wd11 fun e65 w65 =>
  ∃ (p65 : Option Addr) (l65 c65 : Nat), e65 = .returned (.slice p65 l65 c65) ∧ S11 w65 ∧ Does Try.prog 13 #[.pointer (some ⟨b, 0, none⟩), .int .i64 n54, .slice p65 l65 c65] w65 fun e66 w66 =>
  ∃ n66 : Int, e66 = .returned (.int .i64 n66) ∧ InK .i64 (x9 + 1) ∧ ∃ ml9, ml9 < nl9 ∧ I9 (x9 + 1) ml9 w66)
  (C wl9)) := by
  refine ⟨fun x n wl => ∃ (i : Nat) (K : Nat → Prop) (d : Dev), x = i ∧ i ≤ ds.length ∧ n = ds.length - i ∧ DevX wl w1.heap.size K b d ∧ P i d ∧ Ints .u8 wl K pk ks ∧ Ext w1 wl, ⟨_, 0, K, d, rfl, Nat.zero_le _, rfl, M, h0, hk, x1⟩, ?_⟩
  rintro x n wl ⟨i, K, d, rfl, hi, rfl, M, hP, hk, hu⟩
  refine brr (fun hc wd xd => ?_) fun hc => ?_
  · have hc : i < ds.length := by have := of_decide_eq_true hc; omega
    have xd := xd.ext
    obtain ⟨g, o, q, c, hp, a0, a1, a2, a3, a4, _⟩ := (hx.ext ((x01.thn hu).thn xd)).at i hc
    have e : ((i : Int)).toNat = i := Int.toNat_natCast i
    rw [e]
    refine ⟨fun w => w.cell? ⟨g, o + i * 5 + 2, none⟩ = some (.int .i64 ds[i].page), a2, ⟨by omega, by omega⟩, g, o, hp, _, fun _ h => h, ⟨by omega, by omega⟩, g, o, hp, _, a3, ⟨by omega, by omega⟩, g, o, hp, _, a1, (page_does _ _).imp ?_⟩
    rintro e65 w65 ⟨p65, rfl, I65, x65⟩
    have hpg := pageL_pg ds[i].fill ds[i].n
    obtain ⟨hops, hP'⟩ := hstep i hc d hP
    generalize pageL ds[i].fill ds[i].n = pg at *
    obtain ⟨K65, M65, k65, n65⟩ := (M.ext xd).keep x65 fun _ => False.elim
    have I65 := Ints.ok I65.mid (ok' := K65) fun g _ h => n65 g h.1 h.2
    have J65 := Ints.ok ((hk.ext xd).ext x65) (ok' := K65) fun g _ h => k65 g h
    have y65 := (hu.thn xd).thn x65
    refine ⟨_, _, _, rfl, x65.cell a2, (writeX M65 y65.size hops I65 hpg.1.symm 256).imp ?_⟩
    rintro e66 w66 ⟨rfl, M66, u66⟩
    exact ⟨_, rfl, inI64 (by omega) (by omega), ds.length - (i + 1), by omega, i + 1, K65, _, by omega, hc, rfl, M66, hP', J65.held u66, Upd.chg y65 (Nat.le_refl _) u66⟩
  · have hc : i = ds.length := by have := of_decide_eq_false hc; omega
    subst hc
    exact hC wl K d M hP hk hu
theorem lasts_law {ok ok1 ok2 : Nat → Prop} {pa pb pc : Option Addr} {ds bs : List Deed} {choice : List Int} (ha : Deeds w ok pa ds) {la : Nat} (hla : la = ds.length) (ca : Nat) (hb : Deeds w ok1 pb bs) {lb : Nat} (hlb : lb = bs.length) (cb : Nat)
    (hch : Ints .u8 w ok2 pc choice) {lc : Nat} (hlc : lc = choice.length) (cc : Nat) : Does Try.prog 4 #[.slice pa la ca, .slice pb lb cb, .slice pc lc cc] w (Holds w) := by
  subst hla hlb hlc
  refine f4_does _ _ _ _ _ _ _ _ _ (awake_does.imp ?_)
  rintro e w18 ⟨rfl, x18⟩
  refine ⟨_, rfl, fls rfl ((room_does (ha.ext x18) rfl ca 60 (by decide)).imp ?_)⟩
  rintro e _ ⟨rfl, ra, rfl, hra⟩
  refine ⟨_, rfl, brr (fun _ => ⟨rfl, x18⟩) fun h => ?_⟩
  obtain ⟨hra1, _⟩ := hra (by simpa using h)
  refine (room_does (hb.ext x18) rfl cb 60 (by decide)).imp ?_
  rintro e _ ⟨rfl, rb, rfl, hrb⟩
  refine ⟨_, rfl, brr (fun _ => ⟨rfl, x18⟩) fun h => ?_⟩
  obtain ⟨hrb1, _⟩ := hrb (by simpa using h)
  refine brr (fun _ => ⟨rfl, x18⟩) fun hcl => newX (by decide) (by decide) fun b w34 M34 x34 => ⟨_, _, rfl, fls rfl (fls rfl ?_)⟩
  have e8 : (8 : Int).toNat = 8 := rfl
  rw [e8] at M34
  have hcalm := calm_new
  generalize Dev.new 8 = d0 at *
  refine deeds_loop ha (by omega) x18 x34 M34 (pk := none) (ks := []) (by exact RS.nil) (fun i d => CalmD d i) hcalm (fun i hi d hc => ⟨by have := hc.ops; omega, (hc.write ds[i].page (pageL_pg _ _).1).1⟩) fun wl K1 d1 M1 C1 _ y1 => ?_
  have hops1 := C1.ops
  refine (syncX M1 y1.size (by omega)).imp ?_
  rintro e w68 ⟨rfl, M68, u68⟩
  obtain ⟨hsy, C2, hl2, hn2, hw2⟩ := C1.sync
  rw [hsy]
  have y68 := Upd.chg y1 (Nat.le_refl _) u68
  refine ⟨_, rfl, fls rfl ((imageX M68).imp ?_)⟩
  rintro e w71 ⟨p71, c71, rfl, I71, hc71, x71⟩
  obtain ⟨K71, M71, _, n71⟩ := M68.keep x71 fun _ => False.elim
  have I71 := Ints.ok I71 (ok' := K71) fun g _ h => n71 g h.1 h.2
  have hgood := M68.good
  have himg : d1.sync.1.image = d1.now.flatten := by unfold Dev.image; rw [hn2]
  rw [himg] at I71 hc71 ⊢
  have hLp : ∀ p ∈ d1.now, Pg p := M1.good.now
  have hLl := C1.len
  have hops2 := C2.ops
  generalize d1.sync.1 = d2 at *
  generalize d1.now = L at *
  refine ⟨_, _, _, rfl, deeds_loop hb (by omega) x18 (y68.thn x71) M71 I71 (fun k d => CalmD d (ds.length + 1 + k) ∧ d.lasts = L ∧ ∀ x ∈ d.writes, ∃ (j : Nat) (hj : j < bs.length), bs[j].page = x.1 ∧ x.2 = pageL bs[j].fill bs[j].n)
    ⟨C2, hl2, fun x hx => by rw [hw2] at hx; cases hx⟩ (fun i hi d ⟨hc, hl, hw⟩ => ⟨by have := hc.ops; omega, ?_⟩) fun wl2 K3 d3 M3 ⟨C3, hl3, hw3⟩ I3 y3 => ?_⟩
  · obtain ⟨h1, h2, h3⟩ := hc.write bs[i].page (pageL_pg bs[i].fill bs[i].n).1
    refine ⟨h1, h2.trans hl, fun x hx => ?_⟩
    rcases h3 with h3 | ⟨h0, h3⟩
    · rw [h3] at hx; exact hw x hx
    · rw [h3] at hx
      rcases List.mem_append.1 hx with hx | hx
      · exact hw x hx
      · simp only [List.mem_singleton] at hx
        subst hx
        exact ⟨i, hi, by simp only; omega, rfl⟩
  have hops3 := C3.ops
  refine (crashX M3 (by omega) (hch.ext (x18.thn y3)) rfl cc).imp ?_
  rintro e w98 ⟨b98, rfl, M98, x98⟩
  refine ⟨_, rfl, (imageX M98).imp ?_⟩
  rintro e w99 ⟨p99, c99, rfl, I99, hc99, x99⟩
  have hg3 := M3.good
  have hT : (d3.crash choice).image = (tears choice 0 d3.writes L).flatten := by rw [← hl3]; rfl
  rw [hT] at I99 hc99 ⊢
  have hwr : ∀ x ∈ d3.writes, x.1 < L.length ∧ Pg x.2 := fun x hx => by have := hg3.writes x hx; rw [C3.len] at this; rw [hLl]; exact this
  have hTp : ∀ p ∈ tears choice 0 d3.writes L, Pg p := tears_pg _ _ _ _ hLp hwr
  have hTl : (tears choice 0 d3.writes L).length = 8 := by rw [tears_len, hLl]
  have hsec : ∀ k t : Nat, k < 8 → t < 4 → sec ((tears choice 0 d3.writes L).getD k []) t = sec (L.getD k []) t ∨ ∃ (j : Nat) (hj : j < bs.length), bs[j].page = k ∧ sec ((tears choice 0 d3.writes L).getD k []) t = sec (pageL bs[j].fill bs[j].n) t := fun k t hk ht => by
    rcases tears_sec choice (pg := k) ht d3.writes 0 L hLp hwr (by rw [hLl]; exact hk) with h | ⟨x, hx, h1, h2⟩
    · exact .inl h
    · obtain ⟨j, hj, h3, h4⟩ := hw3 x hx
      exact .inr ⟨j, hj, by rw [h3, h1], by rw [h2, h4]⟩
  generalize tears choice 0 d3.writes L = T at *
  have hTf := pgs_len hTp
  have hLf := pgs_len hLp
  have y99 := (y3.thn x98).thn x99
  have I71' := (I3.ext x98).ext x99
  refine ⟨_, _, _, rfl, fun x n wl => ∃ s : Nat, x = s ∧ s ≤ 32 ∧ n = 32 - s ∧ Ext w99 wl, ⟨_, 0, rfl, by omega, rfl, Upd.refl _ _⟩, ?_⟩
  rintro x n wl ⟨s, rfl, hs, rfl, hu⟩
  refine brr (fun hc => ?_) fun hc => ⟨rfl, (x18.thn y99).thn hu⟩
  have hc : s < 32 := by have := of_decide_eq_true hc; omega
  have e1 : ((s : Int) * 64).toNat = s * 64 := by omega
  have e2 : ((s : Int) * 64 + 64).toNat = s * 64 + 64 := by omega
  have e3 : s * 64 + 64 - s * 64 = 64 := by omega
  have ek : 4 * (s / 4) + s % 4 = s := by omega
  have hX := flat_sec hTp (k := s / 4) (t := s % 4) (by omega) (by omega)
  have hY := flat_sec hLp (k := s / 4) (t := s % 4) (by omega) (by omega)
  rw [ek] at hX hY
  have SX := (I99.ext hu).sub (s * 64) (s * 64 + 64) c99 (by omega)
  have SY := (I71'.ext hu).sub (s * 64) (s * 64 + 64) c71 (by omega)
  rw [hX] at SX
  rw [hY] at SY
  have hk8 : s / 4 < 8 := by omega
  have ht4 : s % 4 < 4 := by omega
  have lX : (sec (T.getD (s / 4) []) (s % 4)).length = 64 := sec_len (by rw [getD_at _ (by omega)]; exact (hTp _ (List.getElem_mem _)).1) ht4
  have lY : (sec (L.getD (s / 4) []) (s % 4)).length = 64 := sec_len (by rw [getD_at _ (by omega)]; exact (hLp _ (List.getElem_mem _)).1) ht4
  have hS := hsec (s / 4) (s % 4) hk8 ht4
  generalize sec (T.getD (s / 4) []) (s % 4) = X at *
  generalize sec (L.getD (s / 4) []) (s % 4) = Y at *
  have i1 : InK .i64 ((s : Int) * 64) := inI64 (by omega) (by omega)
  have i2 : InK .i64 ((s : Int) * 64 + 64) := inI64 (by omega) (by omega)
  rw [e1, e2, e3]
  refine ⟨i1, i1, i2, ⟨by omega, by omega⟩, ⟨by omega, by omega⟩, i1, i1, i2, ⟨by omega, by omega⟩, ⟨by omega, by omega⟩, (same_does SX SY lX.symm lY.symm _ _ (by omega)).imp ?_⟩
  rintro e w119 ⟨rfl, x119⟩
  refine ⟨_, rfl, fun bo x n wl => ∃ j : Nat, x = j ∧ j ≤ bs.length ∧ n = bs.length - j ∧ (bo = true ∨ ∃ (i : Nat) (hi : i < bs.length), j ≤ i ∧ bs[i].page = (s / 4 : Nat) ∧ X = sec (pageL bs[i].fill bs[i].n) (s % 4)) ∧ Ext w119 wl, ⟨_, 0, rfl, Nat.zero_le _, rfl, ?_, Upd.refl _ _⟩, ?_⟩
  · rcases hS with h | ⟨j, hj, h1, h2⟩
    · exact .inl (decide_eq_true h)
    · exact .inr ⟨j, hj, Nat.zero_le _, h1, h2⟩
  rintro bo x n wl2' ⟨j, rfl, hj, rfl, hor, hu2⟩
  have z := (hu.thn x119).thn hu2
  have xz := (x18.thn y99).thn z
  refine brr (fun hc2 wd xd => ?_) fun hc2 => ?_
  · have hc2 : j < bs.length := by have := of_decide_eq_true hc2; omega
    have xd := xd.ext
    obtain ⟨g, o, q, c, hp, a0, a1, a2, a3, a4, _⟩ := (hb.ext (xz.thn xd)).at j hc2
    have ej : ((j : Int)).toNat = j := Int.toNat_natCast j
    rw [ej]
    refine ⟨⟨by omega, by omega⟩, g, o, hp, _, a3, ⟨by omega, by omega⟩, g, o, hp, _, a1, (page_does _ _).imp ?_⟩
    rintro e w136 ⟨p136, rfl, I136, x136⟩
    have hpg := pageL_pg bs[j].fill bs[j].n
    have td : (s : Int).tdiv 4 = ((s / 4 : Nat) : Int) := by rw [Int.tdiv_eq_ediv_of_nonneg (by omega)]; omega
    have tm : (s : Int).tmod 4 = ((s % 4 : Nat) : Int) := by rw [Int.tmod_eq_emod_of_nonneg (by omega)]; omega
    rw [td, tm]
    have step : ∀ (bo' : Bool) w', Ext w136 w' → (bo' = true ∨ ∃ (i : Nat) (hi : i < bs.length), j + 1 ≤ i ∧ bs[i].page = (s / 4 : Nat) ∧ X = sec (pageL bs[i].fill bs[i].n) (s % 4)) → 
        InK .i64 ((j : Int) + 1) ∧ ∃ ml, ml < bs.length - j ∧ ∃ k : Nat, (j : Int) + 1 = k ∧ k ≤ bs.length ∧ ml = bs.length - k ∧ (bo' = true ∨ ∃ (i : Nat) (hi : i < bs.length), k ≤ i ∧ bs[i].page = (s / 4 : Nat) ∧ X = sec (pageL bs[i].fill bs[i].n) (s % 4)) ∧ Ext w119 w' := fun bo' w' x' h =>
      ⟨inI64 (by omega) (by omega), bs.length - (j + 1), by omega, j + 1, by omega, hc2, rfl, h, ((hu2.thn xd).thn x136).thn x'⟩
    refine ⟨_, _, _, rfl, ⟨by omega, by omega⟩, g, o, hp, _, x136.cell a2, by decide, inI64 (by omega) (by omega), brr (fun hpe => ?_) fun hpe => ?_⟩
    · refine brr (fun hbo => step true _ (Upd.refl _ _) (.inl rfl)) fun hbo => ?_
      have f1 : ((s % 4 : Nat) : Int) * 64 = (((s % 4) * 64 : Nat) : Int) := by omega
      have f2 : (((s % 4) * 64 : Nat) : Int) + 64 = (((s % 4) * 64 + 64 : Nat) : Int) := by omega
      have SP := I136.sub ((s % 4) * 64) ((s % 4) * 64 + 64) 256 (by omega)
      have hsp : ((pageL bs[j].fill bs[j].n).take ((s % 4) * 64 + 64)).drop ((s % 4) * 64) = sec (pageL bs[j].fill bs[j].n) (s % 4) := by
        unfold sec; rw [List.drop_take, show (s % 4) * 64 + 64 - (s % 4) * 64 = 64 by omega]
      rw [hsp] at SP
      have lP := sec_len hpg.1 ht4
      rw [f1, f2, Int.toNat_natCast, Int.toNat_natCast, show (s % 4) * 64 + 64 - (s % 4) * 64 = 64 by omega]
      refine ⟨by decide, inI64 (by omega) (by omega), by decide, inI64 (by omega) (by omega), inI64 (by omega) (by omega), ⟨by omega, by omega⟩, ⟨by omega, by omega⟩, (same_does (Ints.ext SX (((x119.thn hu2).thn xd).thn x136)) SP lX.symm lP.symm _ _ (by omega)).imp ?_⟩
      rintro e w157 ⟨rfl, x157⟩
      refine ⟨_, rfl, step _ _ x157 ?_⟩
      rcases hor with h | ⟨i, hi, h1, h2, h3⟩
      · rw [h] at hbo; cases hbo
      · by_cases hij : i = j
        · subst hij; exact .inl (decide_eq_true h3)
        · exact .inr ⟨i, hi, by omega, h2, h3⟩
    · refine step _ _ (Upd.refl _ _) ?_
      rcases hor with h | ⟨i, hi, h1, h2, h3⟩
      · exact .inl h
      · by_cases hij : i = j
        · subst hij; rw [h2] at hpe; simp at hpe
        · exact .inr ⟨i, hi, by omega, h2, h3⟩
  · have hc2 : j = bs.length := by have := of_decide_eq_false hc2; omega
    have hbo : bo = true := by
      rcases hor with h | ⟨i, hi, h1, _⟩
      · exact h
      · omega
    subst hbo
    exact fls rfl ⟨inI64 (by omega) (by omega), 32 - (s + 1), by omega, s + 1, by omega, by omega, rfl, z⟩
end Go.Proofs.Ytiblbjagfiigdaa
