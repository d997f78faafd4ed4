/-
  Patterns in bytes: what each function of the code does, third part: first and last places, a finder.
-/
import Derived.Test.YtcpgapffhapclaaKmpCalls2
namespace Go.Proofs.Ytcpgapffhapclaa
open Go.RowKit Go.Vc
section
variable {w : World} {ok ok' : Nat → Prop} {p q : Option Addr} {xs ps : List Int}
theorem lastN_snoc (l : List Nat) (a : Nat) : lastN (l ++ [a]) = a := by simp [lastN]
theorem first_does (hx : Ints .u8 w ok p xs) (hp : Ints .u8 w ok' q ps) {l m : Nat} (hl : l = xs.length) (hm : m = ps.length) (c d : Nat) (hmd : m ≤ d) (h1 : xs.length ≤ 1000000000) (h2 : ps.length ≤ 1000000000) (from_ : Int) :
    Does Try.prog 12 #[.slice p l c, .slice q m d, .int .i64 from_] w fun e w' => e = .returned (.int .i64 (firstE ps xs from_)) ∧ Ext w w' := by
  apply f12_does
  intro b5 w5 n5 b7 w7 n7
  have e5 := n5.eq
  have e7 := n7.eq
  have t5 := n5.size
  have t7 := n7.size
  refine ⟨n7.can 0 (by simp), fun ws s => ?_⟩
  have n7 := n7.store s
  have xw : Ext w ws := Ext.thn n5.ext n7.ext
  have hsz : ws.heap.size = w7.heap.size := s.size
  have hx' : Ints .u8 ws (fun k => k < w.heap.size) p xs := (Ints.ok hx fun _ hk _ => hk).ext xw
  have hp' : Ints .u8 ws (fun k => k < w.heap.size) q ps := (Ints.ok hp fun _ hk _ => hk).ext xw
  have c5 : ws.cell? ⟨b5, 0, none⟩ = some (.int .i64 from_) := n7.ext.cell (n5.cell 0 rfl)
  refine (each_does (T := fun k => k = b7) hx' hp' (fun k hk e => by omega) (fun k hk e => by omega) (fun k e => by omega) hl hm c d hmd h1 h2 25 #[] #[.pointer (some ⟨b5, 0, none⟩), .pointer (some ⟨b7, 0, none⟩)]
    (fun ys v => v.cell? ⟨b7, 0, none⟩ = some (.int .i64 (-1)) ∧ CanStore v b7 0 ∧ ∀ a ∈ ys, ¬ from_ ≤ (a : Int)) (fun ys a v => v.cell? ⟨b7, 0, none⟩ = some (.int .i64 a) ∧ from_ ≤ (a : Int) ∧ ∀ a ∈ ys, ¬ from_ ≤ (a : Int))
    (fun ys v v' hu ⟨k1, k2, k3⟩ => ⟨hu.cell k1, hu.can k2, k3⟩) ⟨n7.cell 0 rfl, n7.can 0 (by simp), by simp⟩ ?_).imp ?_
  · rintro ys a v hu ⟨k1, k2, k3⟩
    have c5' : v.cell? ⟨b5, 0, none⟩ = some (.int .i64 from_) := hu.cell (show ¬ b5 = b7 by omega) c5
    show Does Try.prog 25 #[.int .i64 a, .pointer (some ⟨b5, 0, none⟩), .pointer (some ⟨b7, 0, none⟩)] v _
    apply f25_does
    refine ⟨b5, 0, rfl, _, c5', fun h => ?_, fun h => ?_⟩
    · have h := of_decide_eq_true h
      refine ⟨b7, 0, rfl, k2, fun ws' s' => ⟨b7, 0, rfl, _, s'.cell k2, _, rfl, s'.upd, fun h' => ?_, fun _ => ⟨s'.cell k2, by omega, k3⟩⟩⟩
      have h' := of_decide_eq_true h'
      omega
    · have h := of_decide_eq_false h
      refine ⟨b7, 0, rfl, _, k1, _, rfl, Upd.refl _ _, fun _ => ⟨k1, k2, fun z hz => ?_⟩, fun h' => ?_⟩
      · rcases List.mem_append.1 hz with hz | hz
        · exact k3 z hz
        · simp at hz; subst hz; omega
      · exact absurd (of_decide_eq_false h') (by decide)
  · rintro e w11 ⟨rfl, hu, hend⟩
    have x11 : Ext w w11 := Upd.then xw hu fun i hi h => by have h : i = b7 := h; omega
    rcases hend with ⟨k1, _, k3⟩ | ⟨ys, a, r, ho, k1, k2, k3⟩
    · exact ⟨rfl, _, k1, by rw [firstE_of_none k3], x11⟩
    · exact ⟨rfl, _, k1, by rw [firstE_of ho k3 k2], x11⟩
theorem last_does (hx : Ints .u8 w ok p xs) (hp : Ints .u8 w ok' q ps) {l m : Nat} (hl : l = xs.length) (hm : m = ps.length) (c d : Nat) (hmd : m ≤ d) (h1 : xs.length ≤ 1000000000) (h2 : ps.length ≤ 1000000000) (before : Int) :
    Does Try.prog 14 #[.slice p l c, .slice q m d, .int .i64 before] w fun e w' => e = .returned (.int .i64 (lastE ps xs before)) ∧ Ext w w' := by
  apply f14_does
  intro b5 w5 n5 b7 w7 n7
  have e5 := n5.eq
  have e7 := n7.eq
  have t5 := n5.size
  have t7 := n7.size
  refine ⟨n7.can 0 (by simp), fun ws s => ?_⟩
  have n7 := n7.store s
  have xw : Ext w ws := Ext.thn n5.ext n7.ext
  have hsz : ws.heap.size = w7.heap.size := s.size
  have hx' : Ints .u8 ws (fun k => k < w.heap.size) p xs := (Ints.ok hx fun _ hk _ => hk).ext xw
  have hp' : Ints .u8 ws (fun k => k < w.heap.size) q ps := (Ints.ok hp fun _ hk _ => hk).ext xw
  have c5 : ws.cell? ⟨b5, 0, none⟩ = some (.int .i64 before) := n7.ext.cell (n5.cell 0 rfl)
  refine (each_does (T := fun k => k = b7) hx' hp' (fun k hk e => by omega) (fun k hk e => by omega) (fun k e => by omega) hl hm c d hmd h1 h2 27 #[] #[.pointer (some ⟨b5, 0, none⟩), .pointer (some ⟨b7, 0, none⟩)]
    (fun ys v => v.cell? ⟨b7, 0, none⟩ = some (.int .i64 (lastN ys)) ∧ CanStore v b7 0 ∧ ∀ a ∈ ys, (a : Int) < before) (fun ys a v => v.cell? ⟨b7, 0, none⟩ = some (.int .i64 (lastN ys)) ∧ before ≤ (a : Int) ∧ ∀ a ∈ ys, (a : Int) < before)
    (fun ys v v' hu ⟨k1, k2, k3⟩ => ⟨hu.cell k1, hu.can k2, k3⟩) ⟨n7.cell 0 rfl, n7.can 0 (by simp), by simp⟩ ?_).imp ?_
  · rintro ys a v hu ⟨k1, k2, k3⟩
    have c5' : v.cell? ⟨b5, 0, none⟩ = some (.int .i64 before) := hu.cell (show ¬ b5 = b7 by omega) c5
    show Does Try.prog 27 #[.int .i64 a, .pointer (some ⟨b5, 0, none⟩), .pointer (some ⟨b7, 0, none⟩)] v _
    apply f27_does
    refine ⟨b5, 0, rfl, _, c5', fun h => ?_, fun h => ?_⟩
    · have h := of_decide_eq_true h
      refine ⟨b7, 0, rfl, k2, fun ws' s' => ⟨b5, 0, rfl, before, ?_, _, rfl, s'.upd, fun _ => ⟨by rw [lastN_snoc]; exact s'.cell k2, s'.can k2, fun z hz => ?_⟩, fun h' => ?_⟩⟩
      · rw [s'.other (.inl (by omega))]; exact c5'
      · rcases List.mem_append.1 hz with hz | hz
        · exact k3 z hz
        · simp at hz; subst hz; exact h
      · exact absurd h (of_decide_eq_false h')
    · have h := of_decide_eq_false h
      refine ⟨b5, 0, rfl, _, c5', _, rfl, Upd.refl _ _, fun h' => ?_, fun _ => ⟨k1, by omega, k3⟩⟩
      exact absurd (of_decide_eq_true h') h
  · rintro e w11 ⟨rfl, hu, hend⟩
    have x11 : Ext w w11 := Upd.then xw hu fun i hi h => by have h : i = b7 := h; omega
    rcases hend with ⟨k1, _, k3⟩ | ⟨ys, a, r, ho, k1, k2, k3⟩
    · exact ⟨rfl, _, k1, by rw [lastE_of (ys := occs ps xs) (r := []) (by simp) k3 (by simp)], x11⟩
    · refine ⟨rfl, _, k1, ?_, x11⟩
      rw [lastE_of ho k3 fun z hz => ?_]
      rcases List.mem_cons.1 hz with rfl | hz
      · exact k2
      · have hs := occs_sorted ps xs xs.length
        rw [show occN ps xs xs.length = occs ps xs from rfl, ho] at hs
        have := (List.pairwise_cons.1 (List.pairwise_append.1 hs).2.1).1 z hz
        omega
end
/-- A finder of a pattern, that has seen bytes. -/
def Fnd (w : World) (O : Nat → Prop) (g : Nat) (ps s : List Int) : Prop :=
  O g ∧ 0 < ps.length ∧ ps.length ≤ 4096 ∧ CanStore w g 2 ∧ CanStore w g 3 ∧ ∃ (p q : Option Addr) (l c m d : Nat) (fl : List Int) (k : Nat), w.cell? ⟨g, 0, none⟩ = some (.slice p l c) ∧ w.cell? ⟨g, 1, none⟩ = some (.slice q m d) ∧ w.cell? ⟨g, 2, none⟩ = some (.int .i64 k) ∧
    w.cell? ⟨g, 3, none⟩ = some (.int .i64 s.length) ∧ l = ps.length ∧ Ints .u8 w (fun k => O k ∧ k ≠ g) p ps ∧ m = fl.length ∧ Ints .i64 w (fun k => O k ∧ k ≠ g) q fl ∧ FailOK ps fl ∧ fl.length = ps.length ∧ Best ps s s.length k
theorem Fnd.upd {w w' : World} {O T : Nat → Prop} {g : Nat} {ps s : List Int} (h : Fnd w O g ps s) (hu : Upd T w w') (ht : ∀ k, O k → ¬ T k) : Fnd w' O g ps s := by
  obtain ⟨h1, h2, h3, h4, h5, p, q, l, c, m, d, fl, k, c0, c1, c2, c3, hl, ip, hm, iq, r⟩ := h
  have hg := ht g h1
  exact ⟨h1, h2, h3, hu.can hg h4, hu.can hg h5, p, q, l, c, m, d, fl, k, hu.cell hg c0, hu.cell hg c1, hu.cell hg c2, hu.cell hg c3, hl, ip.upd hu fun k hk => ht k hk.1, hm, iq.upd hu fun k hk => ht k hk.1, r⟩
theorem Fnd.ext {w w' : World} {O : Nat → Prop} {g : Nat} {ps s : List Int} (h : Fnd w O g ps s) (hu : Ext w w') : Fnd w' O g ps s := h.upd hu fun _ _ => id
theorem fails_inK {ps fl : List Int} (h : FailOK ps fl) (hl : fl.length ≤ 1000000000) : ∀ x ∈ fl, InK .i64 x := fun x hx => by
  obtain ⟨i, hi, rfl⟩ := List.getElem_of_mem hx
  obtain ⟨z, hz, hzb⟩ := h i hi
  rw [List.getElem?_eq_getElem hi] at hz
  injection hz with hz
  have := hzb.1
  rw [hz]; exact inI64 (by omega) (by omega)
theorem new_does {w : World} {ok : Nat → Prop} {p : Option Addr} {ps : List Int} (hp : Ints .u8 w ok p ps) {l : Nat} (hl : l = ps.length) (c : Nat) (hs : ps.length ≤ 1000000000) :
    Does Try.prog 16 #[.slice p l c] w fun e w' => Ext w w' ∧ ((ps.length = 0 ∨ ps.length > 4096) ∧ e = .returned (.tuple #[.pointer none, .int .i64 1]) ∨
      (0 < ps.length ∧ ps.length ≤ 4096) ∧ ∃ g, e = .returned (.tuple #[.pointer (some ⟨g, 0, none⟩), .int .i64 0]) ∧ Fnd w' (fun k => w.heap.size ≤ k ∧ k < w'.heap.size) g ps []) := by
  subst hl
  apply f16_does
  refine ⟨fun h => ?_, fun h => ?_⟩
  · have h : ps.length = 0 := by simpa using h
    exact ⟨Upd.refl _ _, .inl ⟨.inl h, rfl⟩⟩
  have h : ps.length ≠ 0 := by simpa using h
  refine ⟨fun h3 => ?_, fun h3 => ?_⟩
  · have h3 := of_decide_eq_true h3
    exact ⟨Upd.refl _ _, .inl ⟨.inr (by omega), rfl⟩⟩
  have h3 := of_decide_eq_false h3
  obtain ⟨p13, c13, w13, hr, ho, hu⟩ := append_b (xs := []) (own_nil w w.heap.size 5 1) hp rfl c (by simp; omega) (Nat.le_refl _)
  have x13 : Ext w w13 := Own.ext_of (own_nil w w.heap.size 5 1) hu (Upd.refl _ _) (Nat.le_refl _)
  simp only [List.length_nil, Nat.zero_add, List.nil_append] at hr ho
  refine ⟨_, _, _, w13, hr, (fail_does (ho.ints hp.inK) rfl c13 ho.cap.1 hs).imp ?_⟩
  rintro e w16 ⟨p16, l16, c16, fl, rfl, r16, hfok, hfl, x16⟩
  obtain ⟨hl16, i16⟩ := r16.ints (fails_inK hfok (by omega))
  refine ⟨_, _, _, rfl, fun b18 w18 hn => ?_⟩
  have e18 := hn.eq
  have t18 := hn.size
  have t16 := (Ext.thn x13 x16).size
  have t13 := x13.size
  refine ⟨Ext.thn (Ext.thn x13 x16) hn.ext, .inr ⟨⟨by omega, by omega⟩, b18, rfl, ⟨by omega, by omega⟩, by omega, by omega, hn.can 2 (by simp), hn.can 3 (by simp), _, _, _, _, _, _, fl, 0, hn.cell 0 rfl, hn.cell 1 rfl, hn.cell 2 rfl, hn.cell 3 rfl, rfl, ?_, hl16, ?_, hfok, hfl, Nat.le_refl _, suf_zero _ _, fun j hj _ => hj⟩⟩
  · refine Ints.ok (Ints.ext (ho.ints hp.inK) (Ext.thn x16 hn.ext)) fun k hk h => ?_
    have := x16.size
    exact ⟨⟨h.1, hk⟩, by omega⟩
  · refine Ints.ok (Ints.ext (Ints.ok i16 fun k hk h => (⟨h, hk⟩ : w13.heap.size ≤ k ∧ k < w16.heap.size)) hn.ext) fun k hk h => ⟨⟨by omega, hk⟩, by omega⟩
theorem at_does {w : World} {O : Nat → Prop} {g : Nat} {ps s : List Int} (h : Fnd w O g ps s) : Does Try.prog 19 #[.pointer (some ⟨g, 0, none⟩)] w fun e w' => e = .returned (.int .i64 s.length) ∧ w' = w := by
  obtain ⟨h1, h2, h3, h4, h5, p, q, l, c, m, d, fl, k, c0, c1, c2, c3, _⟩ := h
  apply f19_does
  exact fls rfl ⟨g, 0, rfl, _, c3, rfl, rfl⟩
theorem reset_does {w : World} {O : Nat → Prop} {g : Nat} {ps s : List Int} (h : Fnd w O g ps s) : Does Try.prog 20 #[.pointer (some ⟨g, 0, none⟩)] w fun e w' => e = .returned (.tuple #[]) ∧ Fnd w' O g ps [] ∧ Upd (fun k => k = g) w w' := by
  obtain ⟨h1, h2, h3, h4, h5, p, q, l, c, m, d, fl, k, c0, c1, c2, c3, hl, ip, hm, iq, hfok, hfl, hb⟩ := h
  apply f20_does
  refine tru rfl ⟨g, 0, rfl, h4, fun ws s1 => ⟨g, 0, rfl, s1.can h5, fun ws2 s2 => ⟨rfl, ⟨h1, h2, h3, s2.can (s1.can h4), s2.can (s1.can h5), p, q, l, c, m, d, fl, 0, ?_, ?_, ?_, ?_, hl, ?_, hm, ?_, hfok, hfl, Nat.le_refl _, suf_zero _ _, fun j hj _ => hj⟩, s1.upd.trans s2.upd⟩⟩⟩
  · rw [s2.other (.inr (by decide)), s1.other (.inr (by decide))]; exact c0
  · rw [s2.other (.inr (by decide)), s1.other (.inr (by decide))]; exact c1
  · rw [s2.other (.inr (by decide)), s1.cell h4]; rfl
  · rw [s2.cell (s1.can h5)]; rfl
  · exact (ip.upd s1.upd fun k hk => hk.2).upd s2.upd fun k hk => hk.2
  · exact (iq.upd s1.upd fun k hk => hk.2).upd s2.upd fun k hk => hk.2
theorem feed_does {w : World} {O ok : Nat → Prop} {g : Nat} {ps s : List Int} (h : Fnd w O g ps s) (hO : ∀ k, O k → k < w.heap.size) {p : Option Addr} {xs : List Int} (hx : Ints .u8 w ok p xs) (hok : ∀ k, ok k → ¬ k = g) {l : Nat} (hl : l = xs.length) (c : Nat) (hs : s.length + xs.length ≤ 1000000000) :
    Does Try.prog 17 #[.pointer (some ⟨g, 0, none⟩), .slice p l c] w fun e w' => ∃ p' l' c', e = .returned (.slice p' l' c') ∧ Row w' (fun k => w.heap.size ≤ k) 1 p' l' c' ((endsE ps (s ++ xs) s.length (s ++ xs).length).map (Value.int .i64)) ∧ Fnd w' O g ps (s ++ xs) ∧ Upd (fun k => k = g) w w' := by
  subst hl
  have hF := h
  obtain ⟨h1, h2, h3, h4, h5, pp, q, l, c', m, d, fl, k, c0, c1, c2, c3, hl, ip, hm, iq, hfok, hfl, hb⟩ := h
  subst hl hm
  have hne : ps ≠ [] := List.length_pos_iff.1 h2
  have hgw := h4.lt
  apply f17_does
  refine fls rfl ⟨g, 0, rfl, _, _, _, c0, fls (by simp; omega) ?_⟩
  have lenE : ∀ n, (endsE ps (s ++ xs) s.length n).length ≤ n := fun n => by
    unfold endsE occN
    rw [List.length_map]
    refine Nat.le_trans (List.length_filter_le _ _) (Nat.le_trans (List.length_filter_le _ _) ?_)
    simp
  refine ⟨fun p' l' c' i n wl => ∃ j : Nat, i = j ∧ n = xs.length - j ∧ j ≤ xs.length ∧ Row wl (fun k => w.heap.size ≤ k) 1 p' l' c' ((endsE ps (s ++ xs) s.length (s.length + j + 1 - ps.length)).map (Value.int .i64)) ∧ Fnd wl O g ps (s ++ xs.take j) ∧ Upd (fun k => k = g) w wl,
    ⟨_, 0, rfl, rfl, Nat.zero_le _, ?_, by simpa using hF, Upd.refl _ _⟩, ?_⟩
  · rw [endsE_nil fun a ha => by omega]
    exact Row.nil _ _ _
  rintro p5 l5 c5 _ n wl ⟨j, rfl, rfl, hj, hr, hf, hu⟩
  have hl5 := hr.1
  simp only [List.length_map, Nat.mul_one] at hl5
  have := lenE (s.length + j + 1 - ps.length)
  refine ⟨fun jj => ?_, fun jj => ?_⟩
  · have jj := of_decide_eq_true jj
    have hlt : j < xs.length := by omega
    have htl : (s ++ xs.take j).length = s.length + j := by simp; omega
    obtain ⟨g1, g2, g3, g4, g5, p6, q6, l6, c6, m6, d6, fl6, k6, d0, d1, d2, d3, hl6, ip6, hm6, iq6, hfok6, hfl6, hb6⟩ := hf
    subst hl6 hm6
    rw [htl] at d3 hb6
    obtain ⟨b, o, hpp, hcc⟩ := (hx.upd hu hok).at j hlt
    refine ⟨⟨by omega, by omega⟩, b, o, hpp, _, hcc, g, 0, rfl, _, d3, inI64 (by omega) (by omega), g, 0, rfl, g5, fun ws s1 => fun wd hd => ?_⟩
    have y1 : Upd (fun k => k = g) wl wd := Ext.then s1.upd hd.ext
    have e0 : wd.cell? ⟨g, 0, none⟩ = some (.slice p6 ps.length c6) := hd.ext.cell (by rw [s1.other (.inr (by decide))]; exact d0)
    have e1 : wd.cell? ⟨g, 1, none⟩ = some (.slice q6 fl6.length d6) := hd.ext.cell (by rw [s1.other (.inr (by decide))]; exact d1)
    have e2 : wd.cell? ⟨g, 2, none⟩ = some (.int .i64 k6) := hd.ext.cell (by rw [s1.other (.inr (by decide))]; exact d2)
    have e3 : wd.cell? ⟨g, 3, none⟩ = some (.int .i64 ((s.length + j : Nat) + 1)) := hd.ext.cell (s1.cell g5)
    have ip7 := ip6.upd y1 fun k hk => hk.2
    have iq7 := iq6.upd y1 fun k hk => hk.2
    refine ⟨g, 0, rfl, _, _, _, e0, g, 0, rfl, _, _, _, e1, g, 0, rfl, _, e2, (on_does ip7 iq7 hfok6 rfl rfl c6 d6 hb6 (by have := hb6.2.1.1; omega) (by omega) _).imp ?_⟩
    rintro e w45 ⟨r, rfl, hbr, rfl⟩
    have htk : s ++ xs.take (j + 1) = (s ++ xs.take j) ++ [xs[j]] := by rw [List.take_succ_eq_append_getElem hlt, List.append_assoc]
    rw [← htk] at hbr
    have hcan2 : CanStore w45 g 2 := hd.ext.can (s1.can g4)
    have hcan3 : CanStore w45 g 3 := hd.ext.can (s1.can g5)
    refine ⟨_, rfl, g, 0, rfl, hcan2, fun ws2 s2 => fun wd9 hd9 => ?_⟩
    have z0 : wd9.cell? ⟨g, 0, none⟩ = some (.slice p6 ps.length c6) := hd9.ext.cell (by rw [s2.other (.inr (by decide))]; exact e0)
    have z2 : wd9.cell? ⟨g, 2, none⟩ = some (.int .i64 r) := hd9.ext.cell (s2.cell hcan2)
    have z3 : wd9.cell? ⟨g, 3, none⟩ = some (.int .i64 ((s.length + j : Nat) + 1)) := hd9.ext.cell (by rw [s2.other (.inr (by decide))]; exact e3)
    have y2 : Upd (fun k => k = g) w45 wd9 := Ext.then s2.upd hd9.ext
    have y9 : Upd (fun k => k = g) wl wd9 := y1.trans y2
    have hu9 := hu.trans y9
    have htl1 : (s ++ xs.take (j + 1)).length = s.length + j + 1 := by simp; omega
    have hf9 : Fnd wd9 O g ps (s ++ xs.take (j + 1)) := by
      refine ⟨g1, g2, g3, hd9.ext.can (s2.can hcan2), hd9.ext.can (s2.can hcan3), p6, q6, _, c6, _, d6, fl6, r, z0, hd9.ext.cell (by rw [s2.other (.inr (by decide))]; exact e1), z2, ?_, rfl, ip7.upd y2 fun k hk => hk.2, rfl, iq7.upd y2 fun k hk => hk.2, hfok6, hfl6, ?_⟩
      · rw [z3, htl1]; congr 2
      · rw [htl1]; exact hbr
    have hr9 := hr.upd y9 fun a ha e => by have := (hr.lt ha).1; omega
    have htake : (s ++ xs).take (s.length + j + 1) = s ++ xs.take (j + 1) := by
      rw [show s.length + j + 1 = s.length + (j + 1) by omega, List.take_length_add_append]
    have hiff : r = ps.length ↔ ps.length ≤ s.length + j + 1 ∧ Occ ps (s ++ xs) (s.length + j + 1 - ps.length) := by
      rw [← suf_occ hne (by simp; omega : s.length + j + 1 ≤ (s ++ xs).length), htake]
      constructor
      · intro h; rw [← h]; exact h ▸ hbr.2.1
      · intro h
        have h5 := hbr.2.2 ps.length (by have := h.2.1; rw [htl1] at this; omega) h
        have h6 := hbr.2.1.1
        omega
    refine ⟨g, 0, rfl, _, z2, g, 0, rfl, _, _, _, z0, fun hh => ?_, fun hh => ?_⟩
    · have hh : (r : Int) = ps.length := by simpa using hh
      obtain ⟨k1, k2⟩ := hiff.1 (by omega)
      refine ⟨g, 0, rfl, _, z3, fun b63 w63 hn => ?_⟩
      obtain ⟨p', c'', w64, hrun, hr', hu', _⟩ := Row.append slI 25 (hr9.ext hn.ext) (Src.kit (P := Try.prog) hn.src Try.underlying25 (n := 1) 1 rfl (by decide) (by simp [Value.oneCell'])) (by simp only [maxLen]; omega) (by omega)
      have hgr : ¬ (0 < 1 ∧ l5 + 1 ≤ c5 ∧ ∃ a, p5 = some a ∧ a.block = g) := fun ⟨_, _, a, ha, e⟩ => by have := (hr.lt ha).1; omega
      refine ⟨_, _, _, w64, hrun, inI64 (by omega) (by omega), _, ?_, j + 1, by omega, rfl, hlt, ?_, ?_, ?_⟩
      · omega
      · rw [show s.length + (j + 1) + 1 - ps.length = (s.length + j + 1 - ps.length) + 1 by omega, endsE_succ, if_pos ⟨k2, by omega⟩, List.map_append,
          show (((s.length + j + 1 - ps.length : Nat) : Int) + ps.length) = ((s.length + j : Nat) : Int) + 1 by omega]
        refine hr'.ok fun z _ hz => ?_
        rcases hz with hz | rfl
        · exact hz
        · have := hu9.size; have := hn.size; omega
      · refine (hf9.ext hn.ext).upd hu' fun z hz ⟨_, _, a, ha, e⟩ => ?_
        have := hO z hz
        have := (hr.lt ha).1
        omega
      · refine Upd.then (Ext.then hu9 hn.ext) hu' fun i hi ⟨_, _, a, ha, e⟩ => ?_
        have := (hr.lt ha).1
        omega
    · have hh : ¬ (r : Int) = ps.length := by simpa using hh
      refine ⟨inI64 (by omega) (by omega), _, ?_, j + 1, by omega, rfl, hlt, ?_, hf9, hu9⟩
      · omega
      · by_cases k1 : ps.length ≤ s.length + j + 1
        · rw [show s.length + (j + 1) + 1 - ps.length = (s.length + j + 1 - ps.length) + 1 by omega, endsE_succ, if_neg (fun x => hh (by have := hiff.2 ⟨k1, x.1⟩; omega)), List.append_nil]
          exact hr9
        · rw [show s.length + (j + 1) + 1 - ps.length = s.length + j + 1 - ps.length by omega]
          exact hr9
  · have jj := of_decide_eq_false jj
    obtain rfl : j = xs.length := by omega
    rw [List.take_length] at hf
    refine ⟨p5, l5, c5, rfl, ?_, hf, hu⟩
    have : endsE ps (s ++ xs) s.length (s ++ xs).length = endsE ps (s ++ xs) s.length (s.length + xs.length + 1 - ps.length) := by
      refine endsE_le (by simp; omega) fun a h3 h4 h5 => by have := h5.le; simp at this; omega
    rw [this]
    exact hr
end Go.Proofs.Ytcpgapffhapclaa
