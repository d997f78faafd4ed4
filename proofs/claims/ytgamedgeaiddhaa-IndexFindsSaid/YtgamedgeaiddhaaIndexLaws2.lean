/-
  Where lines begin: the statements' functions answer true, second part.
-/
import Derived.Test.YtgamedgeaiddhaaIndexLaws
namespace Go.Proofs.Ytgamedgeaiddhaa
open Go.RowKit Go.Vc
theorem take_sub {xs : List Int} {a n : Nat} (_h : a + n ≤ xs.length) : xs.take a ++ (xs.take (a + n)).drop a = xs.take (a + n) := by
  have := List.take_append_drop a (xs.take (a + n))
  rwa [List.take_take, Nat.min_eq_left (by omega)] at this
theorem parts_law {w : World} {ok ok' : Nat → Prop} {p q : Option Addr} {xs ps : List Int} (hx : Ints .u8 w ok p xs) (hp : Ints .u8 w ok' q ps) {l m : Nat} (hl : l = xs.length) (hm : m = ps.length) (c d : Nat) (hc : l ≤ c) (k : Int) :
    Does Try.prog 3 #[.slice p l c, .slice q m d, .int .i64 k] w (Holds w) := by
  subst hl hm
  apply f3_does
  refine awake_does.imp ?_
  rintro e w0 ⟨rfl, x0⟩
  refine ⟨_, rfl, fls rfl ⟨fun _ => ⟨rfl, x0⟩, fun h1 => ⟨fun _ => ⟨rfl, x0⟩, fun h2 => ?_⟩⟩⟩
  have h1 := of_decide_eq_false h1
  have h2 := of_decide_eq_false h2
  refine new_does.imp ?_
  rintro e w30 ⟨gx, rfl, hgx, hgx2, hix, x30⟩
  refine ⟨_, rfl, new_does.imp ?_⟩
  rintro e w31 ⟨gy, rfl, hgy, hgy2, hiy, x31⟩
  have hsz := x0.size
  have y31 := Ext.thn (Ext.thn x0 x30) x31
  have hix := (hix (fun k => k = gx) rfl).ext x31
  have hiy := hiy (fun k => gy ≤ k) (Nat.le_refl _)
  refine ⟨_, rfl, fls rfl (fls rfl ((step_does hiy (fun k hk => by show gy ≤ k; omega) (hx.ext y31) rfl c (by simp; omega)).imp ?_))⟩
  rintro e w40 ⟨rfl, hiy, u40⟩
  rw [List.nil_append] at hiy
  have y40 : Ext w w40 := Upd.then y31 u40 fun i hi h => by have : gy ≤ i := h; omega
  have hs40 := u40.size
  have hix := hix.upd u40 (fun k hk h => by have h : gy ≤ k := h; have hk : k = gx := hk; omega)
  have hiy : Idx w40 (fun k => gy ≤ k ∧ k < w40.heap.size) gy xs := hiy.mono fun k hk h => ⟨h, hk⟩
  have hix : Idx w40 (fun k => k = gx ∨ w40.heap.size ≤ k) gx [] := hix.mono fun k hk h => .inl h
  refine ⟨rfl, fun x i n wl => ∃ a j : Nat, x = a ∧ i = j ∧ n = ps.length - j ∧ j ≤ ps.length ∧ a ≤ xs.length ∧ Idx wl (fun k => k = gx ∨ w40.heap.size ≤ k) gx (xs.take a) ∧ Upd (fun k => k = gx ∨ w40.heap.size ≤ k) w40 wl,
    ⟨_, 0, 0, rfl, rfl, rfl, Nat.zero_le _, Nat.zero_le _, by simpa using hix, Upd.refl _ _⟩, ?_⟩
  rintro _ _ n wl ⟨a, j, rfl, rfl, rfl, hj, ha, hi, hu⟩
  have ew : Ext w wl := Upd.then y40 hu fun i hi h => by rcases h with h | h <;> omega
  have hs := hu.size
  refine ⟨fun jj => ?_, fun jj => ?_⟩
  · have jj := of_decide_eq_true jj
    have hlt : j < ps.length := by omega
    obtain ⟨b, o, hpp, hcc⟩ := (hp.ext ew).at j hlt
    have hk := hp.inK _ (List.getElem_mem hlt)
    have hk : 0 ≤ ps[j] ∧ ps[j] ≤ 255 := hk
    have ht1 := Int.tmod_nonneg 9 hk.1
    have ht2 := Int.tmod_lt_of_pos ps[j] (show (0 : Int) < 9 by decide)
    obtain ⟨t, ht⟩ : ∃ t : Nat, (if (xs.length : Int) - (a : Int) < ps[j].tmod 9 then (xs.length : Int) - (a : Int) else ps[j].tmod 9) = t := by
      refine ⟨(if (xs.length : Int) - (a : Int) < ps[j].tmod 9 then (xs.length : Int) - (a : Int) else ps[j].tmod 9).toNat, ?_⟩
      split <;> omega
    have ht3 : a + t ≤ xs.length := by
      split at ht <;> omega
    refine ⟨⟨by omega, by omega⟩, b, o, hpp, _, hcc, inI64 (by omega) (by omega), by decide, inI64 (by omega) (by omega), ?_⟩
    rw [ht, show ((a : Int) + (t : Int)).toNat = a + t by omega, Int.toNat_natCast]
    refine ⟨inI64 (by omega) (by omega), ⟨by omega, by omega⟩, ⟨by omega, by omega⟩, (step_does hi (fun k hk => by right; omega) ((hx.ext ew).sub a (a + t) c (by omega)) (by simp; omega) _ (by simp; omega)).imp ?_⟩
    rintro e w65 ⟨rfl, hi65, u65⟩
    rw [take_sub ht3] at hi65
    exact ⟨rfl, inI64 (by omega) (by omega), inI64 (by omega) (by omega), _, (by omega), a + t, j + 1, by omega, by omega, rfl, hlt, ht3, hi65, hu.trans u65⟩
  · have jj := of_decide_eq_false jj
    refine ⟨⟨by omega, by omega⟩, ?_⟩
    rw [Int.toNat_natCast]
    refine (step_does hi (fun k hk => by right; omega) ((hx.ext ew).sub a xs.length c hc) (by simp) _ (by simp; omega)).imp ?_
    rintro e w73 ⟨rfl, hi73, u73⟩
    have hall : xs.take a ++ (xs.take xs.length).drop a = xs := by rw [List.take_length, List.take_append_drop]
    rw [hall] at hi73
    have hu73 := hu.trans u73
    have e73 : Ext w w73 := Upd.then y40 hu73 fun i hi h => by rcases h with h | h <;> omega
    have hiy := hiy.upd hu73 fun k ⟨h1, h2⟩ h => by rcases h with h | h <;> omega
    refine ⟨rfl, (begin_does hi73 k).imp ?_⟩
    rintro e w1 ⟨rfl, rfl⟩
    refine ⟨_, _, rfl, (begin_does hiy k).imp ?_⟩
    rintro e w1 ⟨rfl, rfl⟩
    refine ⟨_, _, rfl, (line_does hi73 k).imp ?_⟩
    rintro e w1 ⟨rfl, rfl⟩
    refine ⟨_, _, rfl, (line_does hiy k).imp ?_⟩
    rintro e w1 ⟨rfl, rfl⟩
    refine ⟨_, _, rfl, (seen_does hi73).imp ?_⟩
    rintro e w1 ⟨rfl, rfl⟩
    refine ⟨_, rfl, tru (by simp) ((seen_does hiy).imp ?_)⟩
    rintro e w1 ⟨rfl, rfl⟩
    refine ⟨_, rfl, tru (by simp) ((known_does hi73).imp ?_)⟩
    rintro e w1 ⟨rfl, rfl⟩
    refine ⟨_, rfl, (known_does hiy).imp ?_⟩
    rintro e w1 ⟨rfl, rfl⟩
    exact ⟨_, rfl, tru (by simp) (tru (by simp) (tru (by simp) (tru (by simp) ⟨by simp, e73⟩)))⟩
/-- Where the loop over deeds stands. -/
def PlaysI (w : World) (g : Nat) (ds : List Dd) (p : Option Addr) (l c : Nat) (s i : Int) (n : Nat) (wl : World) : Prop :=
  ∃ (j seen : Nat) (bs : List Int) (O : Nat → Prop), i = j ∧ s = seen ∧ n = ds.length - j ∧ j ≤ ds.length ∧ l = bs.length ∧ l ≤ c ∧ seen ≤ bs.length ∧ bs.length ≤ 3000 + 200 * j ∧ (∀ k, O k → w.heap.size ≤ k ∧ k < wl.heap.size) ∧
    Ints .u8 wl (fun k => ¬ O k ∧ k < wl.heap.size) p bs ∧ Idx wl O g (bs.take seen) ∧ Ext w wl
theorem plays_law {w : World} {p q : Option Addr} {xs : List Int} {ds : List Dd} {ok ok' : Nat → Prop} (hx : Ints .u8 w ok p xs) (hd : Dds w ok' q ds) {l m : Nat} (hl : l = xs.length) (hm : m = ds.length) (c d : Nat) (hds : ds.length ≤ 9223372036854775807) (k : Int) :
    Does Try.prog 6 #[.slice p l c, .slice q m d, .int .i64 k] w (Holds w) := by
  subst hl hm
  apply f6_does
  refine awake_does.imp ?_
  rintro e w0 ⟨rfl, x0⟩
  refine ⟨_, rfl, fls rfl ((room_does (hd.ext x0) rfl d xs.length c hds).imp ?_)⟩
  rintro e w1 ⟨rfl, b, rfl, hb⟩
  refine ⟨_, rfl, fun _ => ⟨rfl, x0⟩, fun hb' => ?_⟩
  obtain ⟨hb1, hb2, hb3⟩ := hb (by simpa using hb')
  have hd := hd.old
  refine new_does.imp ?_
  rintro e w19 ⟨g, rfl, hg, hg2, hi19, x19⟩
  refine ⟨_, rfl, fls rfl ((copy_does ((hx.ext x0).ext x19) rfl c (by omega)).imp ?_)⟩
  rintro e w23 ⟨p23, c23, rfl, own23, x23⟩
  have hsz := x0.size
  have y19 := Ext.thn x0 x19
  have y23 := Ext.thn y19 x23
  have hi23 := (hi19 (fun k => k = g) rfl).ext x23
  refine ⟨_, _, _, rfl, PlaysI w g ds, ⟨_, 0, 0, xs, (fun k => k = g), rfl, rfl, rfl, Nat.zero_le _, rfl, own23.cap.1, Nat.zero_le _, by omega, fun k hk => by have hk : k = g := hk; have := x23.size; omega,
      (own23.ints hx.inK).ok fun k _ hk => ⟨fun h => by have h : k = g := h; have := hk.1; omega, hk.2⟩, by simpa using hi23, y23⟩, ?_⟩
  rintro p1 l1 c1 _ _ n wl ⟨j, seen, bs, O, rfl, rfl, rfl, hj, rfl, hc1, hsn, hbl, hO, hbs, hi, ew⟩
  have hws := ew.size
  refine ⟨fun jj => ?_, fun jj => ⟨rfl, ew⟩⟩
  have jj := of_decide_eq_true jj
  have hlt : j < ds.length := by omega
  obtain ⟨b, o, q1, d1, hp, _, a1, a2, a3, a4, a5, a6, a7, a8⟩ := (hd.ext ew).at j hlt
  have hb3 := hb3 _ (List.getElem_mem hlt)
  generalize ds[j] = dd at a1 a2 a3 a4 a5 a6 a7 a8 hb3
  refine ⟨⟨by omega, by omega⟩, b, o, hp, _, a1, _, a2, _, a3, _, _, _, a4, fun b10 w10 hn => ?_⟩
  refine ⟨hn.can 0 (by simp), fun ws s1 => ?_⟩
  have hn := hn.store s1
  refine ⟨hn.can 1 (by simp), fun ws1 s2 => ?_⟩
  have hn := hn.store s2
  refine ⟨hn.can 2 (by simp), fun ws2 s3 => ?_⟩
  have hn := hn.store s3
  refine ⟨hn.can 3 (by simp), fun ws3 s4 => ?_⟩
  have hn := hn.store s4
  have xs3 : Ext wl ws3 := hn.ext
  have hns := hn.size
  have hnb := hn.eq
  -- what is behind a deed
  have tail : ∀ {w1 : World} {p' : Option Addr} {l' c' : Nat} {bs' : List Int} {seen' : Nat} {O' : Nat → Prop} {s : Int} {T : Nat → Prop},
      Upd T ws3 w1 → (∀ k, T k → O k ∨ ws3.heap.size ≤ k) → l' = bs'.length → l' ≤ c' → s = seen' → seen' ≤ bs'.length → bs'.length ≤ 3200 + 200 * j → (∀ k, O' k → w.heap.size ≤ k ∧ k < w1.heap.size) →
      Ints .u8 w1 (fun k => ¬ O' k ∧ k < w1.heap.size) p' bs' → Idx w1 O' g (bs'.take seen') →
      ∃ n136 : Int, w1.cell? ⟨b10, 1, none⟩ = some (.int .i64 n136) ∧ Does Try.prog 19 #[.pointer (some ⟨g, 0, none⟩), .slice p' l' c', .int .i64 s, .int .i64 n136, .int .i64 k] w1 fun e138 w138 =>
        ∃ b138 : Bool, e138 = .returned (.bool b138) ∧ Br (!b138) (Holds w (.returned (.bool false)) w138)
          (∃ n146 : Int, w138.cell? ⟨b10, 2, none⟩ = some (.int .i64 n146) ∧ Does Try.prog 19 #[.pointer (some ⟨g, 0, none⟩), .slice p' l' c', .int .i64 s, .int .i64 s, .int .i64 n146] w138 fun e147 w147 =>
            ∃ b147 : Bool, e147 = .returned (.bool b147) ∧ Br (!b147) (Holds w (.returned (.bool false)) w147) (InK .i64 ((j : Int) + 1) ∧ ∃ ml, ml < ds.length - j ∧ PlaysI w g ds p' l' c' s ((j : Int) + 1) ml w147)) := by
    intro w1 p' l' c' bs' seen' O' s T hu hT hl' hc' hs' hsn' hbl' hO' hbs' hi'
    subst hl' hs'
    have hT10 : ¬ T b10 := fun h => by
      rcases hT _ h with h | h
      · have := hO _ h; omega
      · omega
    refine ⟨_, hu.cell hT10 (hn.cell 1 rfl), (looks_does hi' hsn' hbs' rfl hc' _ k rfl).imp ?_⟩
    rintro e w1 ⟨rfl, rfl⟩
    refine ⟨_, rfl, fls rfl ⟨_, hu.cell hT10 (hn.cell 2 rfl), (looks_does hi' hsn' hbs' rfl hc' _ _ rfl).imp ?_⟩⟩
    rintro e w1 ⟨rfl, rfl⟩
    refine ⟨_, rfl, fls rfl ⟨inI64 (by omega) (by omega), ds.length - (j + 1), by omega, ⟨j + 1, seen', bs', O', by omega, rfl, rfl, hlt, rfl, hc', hsn', by omega, hO', hbs', hi', ?_⟩⟩⟩
    refine Upd.then (Ext.thn ew xs3) hu fun i hi h => ?_
    have := xs3.size
    rcases hT _ h with h | h
    · have := hO _ h; omega
    · omega
  -- an operation on the index
  have after : ∀ {w1 : World}, Upd (fun k => O k ∨ ws3.heap.size ≤ k) ws3 w1 → ∀ {cc}, Idx w1 (fun k => O k ∨ ws3.heap.size ≤ k) g cc → Idx w1 (fun k => (O k ∨ ws3.heap.size ≤ k) ∧ k < w1.heap.size) g cc ∧ Ints .u8 w1 (fun k => ¬ ((O k ∨ ws3.heap.size ≤ k) ∧ k < w1.heap.size) ∧ k < w1.heap.size) p1 bs ∧
      ∀ k, ((O k ∨ ws3.heap.size ≤ k) ∧ k < w1.heap.size) → w.heap.size ≤ k ∧ k < w1.heap.size := by
    intro w1 hu cc hi'
    have := xs3.size
    have := hu.size
    refine ⟨hi'.mono fun k hk h => ⟨h, hk⟩, ?_, fun k ⟨h1, h2⟩ => ⟨by rcases h1 with h1 | h1; exact (hO k h1).1; omega, h2⟩⟩
    have := (hbs.ext xs3).upd hu (fun k ⟨h1, h2⟩ h => by rcases h with h | h; exact h1 h; omega)
    exact this.ok fun k hk ⟨h1, h2⟩ => ⟨fun ⟨h3, _⟩ => by rcases h3 with h3 | h3; exact h1 h3; omega, hk⟩
  have hi3 : Idx ws3 (fun k => O k ∨ ws3.heap.size ≤ k) g (bs.take seen) := (hi.ext xs3).mono fun k _ h => .inl h
  have hO3 : ∀ k, ws3.heap.size ≤ k → (O k ∨ ws3.heap.size ≤ k) := fun k h => .inr h
  have htl : (bs.take seen).length = seen := by rw [List.length_take]; omega
  refine ⟨_, hn.cell 0 rfl, fun t1 => ?_, fun t1 => ?_⟩
  · obtain ⟨t, ht⟩ : ∃ t : Nat, (if (bs.length : Int) - (seen : Int) < (if dd.n < 0 then 0 else dd.n) then (bs.length : Int) - (seen : Int) else if dd.n < 0 then 0 else dd.n) = t := by
      refine ⟨(if (bs.length : Int) - (seen : Int) < (if dd.n < 0 then 0 else dd.n) then (bs.length : Int) - (seen : Int) else if dd.n < 0 then 0 else dd.n).toNat, ?_⟩
      split <;> (try split) <;> omega
    have ht3 : seen + t ≤ bs.length := by
      split at ht <;> (try split at ht) <;> omega
    refine ⟨_, hn.cell 2 rfl, inI64 (by omega) (by omega), ?_⟩
    rw [ht, show ((seen : Int) + (t : Int)).toNat = seen + t by omega, Int.toNat_natCast]
    refine ⟨inI64 (by omega) (by omega), ⟨by omega, by omega⟩, ⟨by omega, by omega⟩, (step_does hi3 hO3 ((hbs.ext xs3).sub seen (seen + t) c1 (by omega)) (by simp; omega) _ (by simp; omega)).imp ?_⟩
    rintro e w109 ⟨rfl, hi', hu'⟩
    rw [take_sub ht3] at hi'
    obtain ⟨i1, i2, i3⟩ := after hu' hi'
    exact ⟨rfl, inI64 (by omega) (by omega), tail hu' (fun _ h => h) rfl hc1 (by omega) ht3 (by omega) i3 i2 i1⟩
  refine ⟨_, hn.cell 0 rfl, fun t2 => ?_, fun t2 => ?_⟩
  · refine ⟨_, hn.cell 1 rfl, (cut_does hi3 dd.at_).imp ?_⟩
    rintro e w120 ⟨rfl, hi', hu'⟩
    have hT10 : ¬ (O b10 ∨ ws3.heap.size ≤ b10) := fun h => by
      rcases h with h | h
      · have := hO _ h; omega
      · omega
    obtain ⟨i1, i2, i3⟩ := after hu' hi'
    refine ⟨rfl, _, hu'.cell hT10 (hn.cell 1 rfl), fun t3 => ?_, fun t3 => ?_⟩
    · have t3 := of_decide_eq_true t3
      refine ⟨_, hu'.cell hT10 (hn.cell 1 rfl), fun t4 => ?_, fun t4 => ?_⟩
      · have t4 := of_decide_eq_true t4
        rw [cutF, if_pos ⟨by omega, by omega⟩, List.take_take, Nat.min_eq_left (by omega)] at i1
        exact ⟨_, hu'.cell hT10 (hn.cell 1 rfl), tail (seen' := dd.at_.toNat) hu' (fun _ h => h) rfl hc1 (by omega) (by omega) (by omega) i3 i2 i1⟩
      · have t4 := of_decide_eq_false t4
        rw [cutF, if_neg (by omega)] at i1
        exact tail hu' (fun _ h => h) rfl hc1 rfl hsn (by omega) i3 i2 i1
    · have t3 := of_decide_eq_false t3
      rw [cutF, if_neg (by omega)] at i1
      exact tail hu' (fun _ h => h) rfl hc1 rfl hsn (by omega) i3 i2 i1
  · refine ⟨_, hn.cell 1 rfl, _, hn.cell 2 rfl, _, _, _, hn.cell 3 rfl, (edit_does hi3 hO3 (a6.ext xs3) rfl d1 (by omega) dd.at_ dd.n).imp ?_⟩
    rintro e w41 ⟨rfl, hi', hu'⟩
    have hT10 : ¬ (O b10 ∨ ws3.heap.size ≤ b10) := fun h => by
      rcases h with h | h
      · have := hO _ h; omega
      · omega
    obtain ⟨i1, i2, i3⟩ := after hu' hi'
    have c1' := hu'.cell hT10 (hn.cell 1 rfl)
    have c2' := hu'.cell hT10 (hn.cell 2 rfl)
    have c3' := hu'.cell hT10 (hn.cell 3 rfl)
    refine ⟨rfl, _, c1', fun t3 => ?_, fun t3 => ?_⟩
    · have t3 := of_decide_eq_true t3
      rw [editF, if_pos (.inl t3)] at i1
      exact tail hu' (fun _ h => h) rfl hc1 rfl hsn (by omega) i3 i2 i1
    have t3 := of_decide_eq_false t3
    refine ⟨_, c2', fun t4 => ?_, fun t4 => ?_⟩
    · have t4 := of_decide_eq_true t4
      rw [editF, if_pos (.inr (.inl t4))] at i1
      exact tail hu' (fun _ h => h) rfl hc1 rfl hsn (by omega) i3 i2 i1
    have t4 := of_decide_eq_false t4
    refine ⟨_, c1', fun t5 => ?_, fun t5 => ?_⟩
    · have t5 := of_decide_eq_true t5
      rw [editF, if_pos (.inr (.inr (by omega)))] at i1
      exact tail hu' (fun _ h => h) rfl hc1 rfl hsn (by omega) i3 i2 i1
    have t5 := of_decide_eq_false t5
    refine ⟨_, c2', _, c1', inI64 (by omega) (by omega), fun t6 => ?_, fun t6 => ?_⟩
    · have t6 := of_decide_eq_true t6
      rw [editF, if_neg (by omega), if_pos (by omega), List.take_take, Nat.min_eq_left (by omega)] at i1
      exact ⟨_, c1', tail (seen' := dd.at_.toNat) hu' (fun _ h => h) rfl hc1 (by omega) (by omega) (by omega) i3 i2 i1⟩
    have t6 := of_decide_eq_false t6
    rw [editF, if_neg (by omega), if_neg (by omega), List.take_take, Nat.min_eq_left (by omega)] at i1
    intro wd hd18
    have xd : Ext w41 wd := hd18.ext
    have hT : ∀ {v}, Ext w41 v → Upd (fun k => O k ∨ ws3.heap.size ≤ k) ws3 v := fun h => Ext.then hu' h
    refine ⟨fun v => Ext wd v, Upd.refl _ _, _, xd.cell c1', ⟨by omega, by omega⟩, (copy_does ((i2.ext xd).sub 0 dd.at_.toNat c1 (by omega)) (by simp; omega) _ (by simp; omega)).imp ?_⟩
    rintro e w69 ⟨p69, c69, rfl, own69, x69⟩
    have y69 := Ext.thn xd x69
    have z69 : Ext w w69 := Upd.then (Ext.thn ew xs3) (hT y69) fun i hi h => by
      have := xs3.size
      rcases h with h | h
      · have := hO _ h; omega
      · omega
    refine ⟨_, _, _, rfl, x69, _, _, _, fun v hv => Ext.cell hv (xd.cell c3'), ?_⟩
    have hbd : Ints .u8 w69 (fun k => k < w.heap.size) q1 dd.b := Ints.ext (((a6.ext xs3).upd hu' fun k hk h => by
      have := xs3.size
      rcases h with h | h
      · have := hO _ h; omega
      · omega)) y69
    obtain ⟨p72, c72, w72, hr72, o72, u72⟩ := append_b own69 hbd rfl d1 (by simp; omega) x69.size
    have x72 : Ext wd w72 := Own.ext_of own69 u72 x69 (Nat.le_refl _)
    have y72 := Ext.thn xd x72
    refine ⟨_, _, _, w72, hr72, _, y72.cell c1', _, y72.cell c2', inI64 (by omega) (by omega), ⟨by omega, by omega⟩, ?_⟩
    obtain ⟨p81, c81, w81, hr81, o81, u81⟩ := append_b o72 ((i2.ext y72).sub (dd.at_ + dd.n).toNat bs.length c1 hc1) (l2 := bs.length - (dd.at_ + dd.n).toNat) (by simp) (c1 - (dd.at_ + dd.n).toNat) (by simp; omega) x72.size
    have x81 : Ext wd w81 := Own.ext_of o72 u81 x72 (Nat.le_refl _)
    have y81 := Ext.thn xd x81
    have hnew : (bs.take dd.at_.toNat).drop 0 ++ dd.b ++ (bs.take bs.length).drop (dd.at_ + dd.n).toNat = bs.take dd.at_.toNat ++ dd.b ++ bs.drop (dd.at_ + dd.n).toNat := by simp
    rw [hnew] at o81
    have hlen : ((bs.take dd.at_.toNat).drop 0 ++ dd.b).length + ((bs.take bs.length).drop (dd.at_ + dd.n).toNat).length = (bs.take dd.at_.toNat ++ dd.b ++ bs.drop (dd.at_ + dd.n).toNat).length := by simp; omega
    rw [hlen] at hr81 o81
    have hnl : (bs.take dd.at_.toNat ++ dd.b ++ bs.drop (dd.at_ + dd.n).toNat).length = bs.length + dd.b.length - dd.n.toNat := by simp; omega
    have htk : (bs.take dd.at_.toNat ++ dd.b ++ bs.drop (dd.at_ + dd.n).toNat).take (seen + dd.b.length - dd.n.toNat) = bs.take dd.at_.toNat ++ dd.b ++ (bs.take seen).drop (dd.at_ + dd.n).toNat := by
      have hl1 : (bs.take dd.at_.toNat ++ dd.b).length = dd.at_.toNat + dd.b.length := by simp; omega
      rw [List.take_append, List.take_of_length_le (by omega), hl1, List.drop_take]
      congr 2; omega
    refine ⟨_, _, _, w81, hr81, _, _, _, y81.cell c3', inI64 (by omega) (by omega), _, y81.cell c2', inI64 (by omega) (by omega), ?_⟩
    have hk81 : ∀ x ∈ bs.take dd.at_.toNat ++ dd.b ++ bs.drop (dd.at_ + dd.n).toNat, InK .u8 x := fun x hx => by
      simp only [List.mem_append] at hx
      rcases hx with (h | h) | h
      · exact hbs.inK _ (List.mem_of_mem_take h)
      · exact a6.inK _ h
      · exact hbs.inK _ (List.mem_of_mem_drop h)
    refine tail (seen' := seen + dd.b.length - dd.n.toNat) (O' := fun k => (O k ∨ ws3.heap.size ≤ k) ∧ k < w41.heap.size) (hT y81) (fun _ h => h) rfl o81.cap.1 (by omega) (by omega) (by omega) (fun k hk => ⟨(i3 k hk).1, Nat.lt_of_lt_of_le hk.2 y81.size⟩) ?_ ?_
    · refine (o81.ints hk81).ok fun k _ ⟨h1, h2⟩ => ⟨fun ⟨_, h4⟩ => ?_, h2⟩
      have := xd.size; omega
    · rw [htk]
      exact i1.ext y81
end Go.Proofs.Ytgamedgeaiddhaa
