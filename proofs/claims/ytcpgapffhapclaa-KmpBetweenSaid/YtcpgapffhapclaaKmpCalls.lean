/-
  Patterns in bytes: what each function of the code does.
-/
import Derived.Test.YtcpgapffhapclaaBytes
import Derived.Test.YtcpgapffhapclaaRowW
import Derived.Test.YtcpgapffhapclaaKmpPure
namespace Go.Proofs.Ytcpgapffhapclaa
open Go.RowKit Go.Vc
theorem slI : SlT Try.prog 25 3 1 8 := ⟨Try.underlying25, _, _, rfl, rfl, rfl, rfl, rfl, by decide⟩
/-- ints: are two lists? -/
theorem ints_does {w : World} {ok ok' : Nat → Prop} {p q : Option Addr} {xs ys : List Int} (hx : Ints .i64 w ok p xs) (hy : Ints .i64 w ok' q ys) {l m : Nat} (hl : l = xs.length) (hm : m = ys.length) (c d : Nat)
    (hs : xs.length ≤ 9223372036854775807) :
    Does Try.prog 9 #[.slice p l c, .slice q m d] w fun e w' => e = .returned (.bool (decide (xs = ys))) ∧ Ext w w' := by
  subst hl hm
  apply f9_does
  by_cases hlen : xs.length = ys.length
  case neg =>
    refine tru (by simp; omega) ⟨?_, Upd.refl _ _⟩
    rw [decide_eq_false (fun h => hlen (by rw [h]))]
  refine fls (by simp [hlen]) ?_
  refine ⟨fun i n wl => ∃ k : Nat, i = k ∧ n = xs.length - k ∧ k ≤ xs.length ∧ xs.take k = ys.take k ∧ Ext w wl, ⟨_, 0, rfl, rfl, Nat.zero_le _, rfl, Upd.refl _ _⟩, ?_⟩
  rintro _ n wl ⟨k, rfl, rfl, hk, heq, hw⟩
  refine ⟨fun h => ?_, fun h => ?_⟩
  · have h := of_decide_eq_true h
    have hlt : k < xs.length := by omega
    intro wd hd
    have hwd := Ext.then hw hd.ext
    obtain ⟨b, o, hp, hc⟩ := (hx.ext hwd).at k hlt
    obtain ⟨b', o', hp', hc'⟩ := (hy.ext hwd).at k (by omega)
    refine ⟨⟨by omega, by omega⟩, b, o, hp, _, hc, ⟨by omega, by omega⟩, b', o', hp', _, hc', fun h => ?_, fun h => ?_⟩
    · refine ⟨?_, hwd⟩
      have hne : xs[k] ≠ ys[k] := by simpa using h
      rw [decide_eq_false (fun h => hne (by simp [h]))]
    · have he : xs[k] = ys[k] := by simpa using h
      refine ⟨inI64 (by omega) (by omega), xs.length - (k + 1), by omega, k + 1, by omega, rfl, hlt, ?_, hwd⟩
      rw [List.take_succ_eq_append_getElem hlt, List.take_succ_eq_append_getElem (by omega), heq, he]
  · have h := of_decide_eq_false h
    have : k = xs.length := by omega
    subst this
    refine ⟨?_, hw⟩
    rw [decide_eq_true]
    rw [List.take_length] at heq
    rw [heq, hlen, List.take_length]
theorem on_does {w : World} {ok ok' : Nat → Prop} {p q : Option Addr} {xs fl s : List Int} {L k : Nat} (hx : Ints .u8 w ok p xs) (hf : Ints .i64 w ok' q fl) (hfl : FailOK xs fl) {l m : Nat} (hl : l = xs.length) (hm : m = fl.length) (c d : Nat)
    (hk : Best xs s L k) (hkl : k ≤ fl.length) (hs : xs.length ≤ 1000000000) (ch : Int) :
    Does Try.prog 22 #[.slice p l c, .slice q m d, .int .i64 k, .int .u8 ch] w fun e w' => ∃ r : Nat, e = .returned (.int .i64 r) ∧ Best xs (s ++ [ch]) (L + 1) r ∧ w' = w := by
  subst hl hm
  apply f22_does
  refine ⟨fun x n wl => ∃ y : Nat, x = y ∧ y = n ∧ OnI xs s ch L y ∧ y ≤ fl.length ∧ wl = w, ⟨_, k, rfl, rfl, .start hk, hkl, rfl⟩, ?_⟩
  rintro _ _ wl ⟨y, rfl, rfl, hi, hy, rfl⟩
  have hsuf := hi.suf.1
  have next : xs[y]? ≠ some ch → Br ((y : Int) == 0) (∃ r : Nat, Ending.returned (.int .i64 0) = Ending.returned (.int .i64 r) ∧ Best xs (s ++ [ch]) (L + 1) r ∧ wl = wl)
      (InK .i64 ((y : Int) - 1) ∧ ((0 : Int) ≤ ((y : Int) - 1) ∧ ((y : Int) - 1) < (fl.length : Int)) ∧ ∃ b30 o30, q = some ⟨b30, o30, none⟩ ∧ ∃ n31 : Int, wl.cell? ⟨b30, o30 + ((y : Int) - 1).toNat, none⟩ = some (.int .i64 n31) ∧
        ∃ ml1, ml1 < y ∧ ∃ z : Nat, n31 = z ∧ z = ml1 ∧ OnI xs s ch L z ∧ z ≤ fl.length ∧ wl = wl) := fun hne => by
    refine ⟨fun h => ?_, fun h => ?_⟩
    · have h : y = 0 := by simpa using h
      subst h
      exact ⟨0, rfl, hi.none hne, rfl⟩
    · have h : y ≠ 0 := by simpa using h
      obtain ⟨z, hz, hb⟩ := hfl (y - 1) (by omega)
      obtain ⟨b, o, hp, hc⟩ := hf.at (y - 1) (by omega)
      rw [List.getElem?_eq_getElem (by omega)] at hz
      injection hz with hz
      rw [hz] at hc
      have := hb.1
      exact ⟨inI64 (by omega) (by omega), ⟨by omega, by omega⟩, b, o, hp, z, by rw [show ((y : Int) - 1).toNat = y - 1 by omega]; exact hc, z, by omega, z, rfl, rfl, hi.next hne h hb, by omega, rfl⟩
  refine ⟨fun h => ?_, fun h => ?_⟩
  · have h := of_decide_eq_true h
    obtain ⟨b, o, hp, hc⟩ := hx.at y (by omega)
    refine ⟨⟨by omega, by omega⟩, b, o, hp, _, hc, fun h1 => ?_, fun h1 => ?_⟩
    · have h1 : xs[y] = ch := by simpa using h1
      exact ⟨inI64 (by omega) (by omega), y + 1, by simp, hi.hit (by rw [List.getElem?_eq_getElem (by omega), h1]), rfl⟩
    · have h1 : xs[y] ≠ ch := by simpa using h1
      exact next (by rw [List.getElem?_eq_getElem (by omega)]; exact fun h => h1 (Option.some.inj h))
  · have h := of_decide_eq_false h
    exact next (by rw [List.getElem?_eq_none (by omega)]; simp)
/-- The closure that makes the numbers. -/
theorem grow_does {w : World} {ok O : Nat → Prop} {gl gp : Nat} {p q : Option Addr} {xs fl : List Int} {l m c d : Nat} (hcl : CanStore w gl 0) (hcc : w.cell? ⟨gl, 0, none⟩ = some (.slice q m d)) (hcp : w.cell? ⟨gp, 0, none⟩ = some (.slice p l c)) (hx : Ints .u8 w ok p xs)
    (hr : Row w O 1 q m d (fl.map (Value.int .i64))) (hO : ¬ O gl) (hfl : FailOK xs fl) (h0 : 0 < fl.length) {ch : Int} (hch : xs[fl.length]? = some ch) (hl : l = xs.length) (hs : xs.length ≤ 1000000000) :
    Does Try.prog 21 #[.int .u8 ch, .pointer (some ⟨gl, 0, none⟩), .pointer (some ⟨gp, 0, none⟩)] w fun e w' => e = .returned (.tuple #[]) ∧ ∃ (q' : Option Addr) (m' d' r : Nat), w'.cell? ⟨gl, 0, none⟩ = some (.slice q' m' d') ∧ CanStore w' gl 0 ∧
      Row w' (fun k => O k ∨ (w.heap.size ≤ k ∧ k < w'.heap.size)) 1 q' m' d' ((fl ++ [(r : Int)]).map (Value.int .i64)) ∧ FailOK xs (fl ++ [(r : Int)]) ∧ Upd (fun k => O k ∨ k = gl) w w' := by
  subst hl
  have hm := hr.1
  simp only [List.length_map, Nat.mul_one] at hm
  have hkl := (List.getElem?_eq_some_iff.1 hch).1
  obtain ⟨k, hk, hb⟩ := hfl (fl.length - 1) (by omega)
  have hInK : ∀ x ∈ fl, InK .i64 x := fun x hx => by
    obtain ⟨i, hi, rfl⟩ := List.getElem_of_mem hx
    obtain ⟨z, hz, hzb⟩ := hfl i hi
    rw [List.getElem?_eq_getElem hi] at hz
    injection hz with hz
    have := hzb.1
    rw [hz]; exact inI64 (by omega) (by omega)
  obtain ⟨hml, hf⟩ := hr.ints hInK
  subst hml
  apply f21_does
  intro wd hd
  have x0 : Ext w wd := hd.ext
  have c1 := x0.cell hcc
  obtain ⟨b, o, hp, hc⟩ := (hf.ext x0).at (fl.length - 1) (by omega)
  rw [List.getElem?_eq_getElem (by omega)] at hk
  injection hk with hk
  rw [hk] at hc
  refine ⟨fun v => Ext wd v, Upd.refl _ _, gl, 0, rfl, _, _, _, fun v hv => Ext.cell hv c1, gp, 0, rfl, _, _, _, x0.cell hcp, gl, 0, rfl, _, _, _, c1, gl, 0, rfl, _, _, _, c1, gl, 0, rfl, _, _, _, c1, inI64 (by omega) (by omega), ⟨by omega, by omega⟩, b, o, hp, _,
    by rw [show ((fl.length : Int) - 1).toNat = fl.length - 1 by omega]; exact hc, ?_⟩
  rw [show fl.length - 1 + 1 = fl.length by omega] at hb
  refine (on_does (hx.ext x0) (hf.ext x0) hfl rfl rfl c d hb (by have := hb.1; omega) hs ch).imp ?_
  rintro e w14 ⟨r, rfl, hbr, rfl⟩
  refine ⟨_, rfl, Upd.refl _ _, fun b15 w15 hn => ⟨hn.ext, ?_⟩⟩
  have x15 : Ext w w15 := Ext.thn x0 hn.ext
  obtain ⟨p', c', w16, hrun, hr', hu, _⟩ := Row.append slI 25 (hr.ext x15) (Src.kit (P := Try.prog) hn.src Try.underlying25 (n := 1) 1 rfl (by decide) (by simp [Value.oneCell'])) (by simp only [maxLen]; omega) (by omega)
  have hT : ∀ a, q = some a → O a.block := fun a ha => (hr.lt ha).1
  have u16 : Upd (fun k => O k ∨ k = gl) w w16 := Upd.then (x15.mono fun _ _ x => x.elim) hu fun i _ ⟨_, _, a, ha, e⟩ => .inl (e ▸ hT a ha)
  have hng : ¬ (0 < 1 ∧ fl.length + 1 ≤ d ∧ ∃ a, q = some a ∧ a.block = gl) := fun ⟨_, _, a, ha, e⟩ => hO (e ▸ hT a ha)
  have can := hu.can hng (x15.can hcl)
  have hs16 := hu.size
  have hs15 := x15.size
  have hlt15 := (x15.can hcl).lt
  refine ⟨_, _, _, w16, hrun, gl, 0, rfl, can, fun ws s1 => ⟨rfl, p', fl.length + 1, c', r, s1.cell can, s1.can can, ?_, ?_, Upd.then u16 s1.upd fun i _ e => .inr e⟩⟩
  · have hr2 : Row w16 (fun k => O k ∨ (w.heap.size ≤ k ∧ k < w16.heap.size)) 1 p' (fl.length + 1) c' ((fl ++ [(r : Int)]).map (Value.int .i64)) := by
      rw [List.map_append]
      refine hr'.ok fun k hk h => ?_
      rcases h with h | rfl
      · exact .inl h
      · exact .inr ⟨by omega, hk⟩
    have hgw := hcl.lt
    have hr3 := hr2.upd s1.upd (fun a ha e => by
      rcases (hr2.lt ha).1 with h | h
      · exact hO (e ▸ h)
      · omega)
    exact hr3.ok fun k _ h => by rw [s1.size]; exact h
  · refine hfl.snoc ?_
    have htk : xs.take (fl.length + 1) = xs.take fl.length ++ [ch] := by
      obtain ⟨h1, h2⟩ := List.getElem?_eq_some_iff.1 hch
      rw [List.take_succ_eq_append_getElem h1, h2]
    rw [htk]
    rwa [show fl.length - 1 + 1 = fl.length by omega] at hbr
theorem best_one (xs : List Int) : Best xs (xs.take 1) 0 0 := ⟨Nat.le_refl _, suf_zero _ _, fun j hj _ => hj⟩
theorem fail_does {w : World} {ok : Nat → Prop} {p : Option Addr} {xs : List Int} (hx : Ints .u8 w ok p xs) {l : Nat} (hl : l = xs.length) (c : Nat) (hlc : l ≤ c) (hs : xs.length ≤ 1000000000) :
    Does Try.prog 10 #[.slice p l c] w fun e w' => ∃ p' l' c' fl, e = .returned (.slice p' l' c') ∧ Row w' (fun k => w.heap.size ≤ k) 1 p' l' c' (fl.map (Value.int .i64)) ∧ FailOK xs fl ∧ fl.length = xs.length ∧ Ext w w' := by
  subst hl
  apply f10_does
  intro b1 w1 n1
  refine ⟨_, _, _, n1.cell 0 rfl, fun h => ?_, fun h => ?_⟩
  · have h : xs.length = 0 := by simpa using h
    exact ⟨none, 0, 0, [], rfl, Row.nil _ _ _, (fun i hi => by simp at hi), by simp [h], n1.ext⟩
  have h : xs.length ≠ 0 := by simpa using h
  intro b10 w10 n10 b3 w3 n3
  have e1 := n1.eq
  have e2 := n10.eq
  have e3 := n3.eq
  have t1 := n1.size
  have t2 := n10.size
  have t3 := n3.size
  refine ⟨n3.can 0 (by simp), fun ws s1 => ?_⟩
  have n3 := n3.store s1
  have xs3 : Ext w10 ws := n3.ext
  have y0 : Ext w ws := Ext.thn (Ext.thn n1.ext n10.ext) xs3
  have y1 : Ext w1 ws := Ext.thn n10.ext xs3
  have hsz : ws.heap.size = w3.heap.size := s1.size
  have cp : ∀ {v}, Upd (fun k => w.heap.size ≤ k ∧ k ≠ b1) ws v → v.cell? ⟨b1, 0, none⟩ = some (.slice p xs.length c) := fun hu => hu.cell (fun h => h.2 rfl) (y1.cell (n1.cell 0 rfl))
  refine ⟨_, _, _, cp (Upd.refl _ _), ⟨by omega, by omega⟩, ?_⟩
  rw [show ((1 : Int).toNat) = 1 from rfl]
  have hr0 : Row ws (fun k => w.heap.size ≤ k ∧ k ≠ b1 ∧ k ≠ b3) 1 (some ⟨b10, 0, none⟩) 1 1 ([(0 : Int)].map (Value.int .i64)) := ((n10.row (l := 1) (sz := 1) rfl (by decide)).ext xs3).ok fun k _ e => by
    have e : k = b10 := e
    exact ⟨by omega, by omega, by omega⟩
  refine ⟨fun i n wl => ∃ (k : Nat) (fl : List Int) (q : Option Addr) (m d : Nat), i = k ∧ n = xs.length - 1 - k ∧ k + 1 ≤ xs.length ∧ fl.length = k + 1 ∧ FailOK xs fl ∧ wl.cell? ⟨b3, 0, none⟩ = some (.slice q m d) ∧ CanStore wl b3 0 ∧
      Row wl (fun k => w.heap.size ≤ k ∧ k ≠ b1 ∧ k ≠ b3) 1 q m d (fl.map (Value.int .i64)) ∧ Upd (fun k => w.heap.size ≤ k ∧ k ≠ b1) ws wl,
    ⟨_, 0, [0], _, _, _, rfl, rfl, by omega, rfl, (fun i hi => by
      simp only [List.length_cons, List.length_nil] at hi
      obtain rfl : i = 0 := by omega
      exact ⟨0, rfl, best_one xs⟩), n3.cell 0 rfl, n3.can 0 (by simp), hr0, Upd.refl _ _⟩, ?_⟩
  rintro _ n wl ⟨k, fl, q, m, d, rfl, rfl, hk, hfl, hfok, hcc, hcan, hr, hu⟩
  have ew : Ext w wl := Upd.then y0 hu fun i hi h => by omega
  refine ⟨fun j => ?_, fun j => ?_⟩
  · have j := of_decide_eq_true j
    have hlt : k + 1 < xs.length := by omega
    obtain ⟨b, o, hp, hc⟩ := Ints.at ((hx.ext ew).sub 1 xs.length c hlc) k (by simp; omega)
    refine ⟨⟨by omega, by omega⟩, b, o, hp, _, hc, (grow_does (ch := ((xs.take xs.length).drop 1)[k]'(by simp; omega)) hcan hcc (cp hu) (hx.ext ew) hr (fun h => h.2.2 rfl) hfok (by omega) ?_ rfl hs).imp ?_⟩
    · rw [hfl, List.getElem?_eq_getElem hlt]
      congr 1
      simp [Nat.add_comm]
    · rintro e w21 ⟨rfl, q', m', d', r, hcc', hcan', hr', hfok', hu'⟩
      have hws := hu.size
      have hgl := y0.size
      have hb1 : b1 < wl.heap.size := by omega
      have hb3 : b3 < wl.heap.size := by omega
      refine ⟨rfl, inI64 (by omega) (by omega), _, ?_, k + 1, fl ++ [(r : Int)], q', m', d', by omega, rfl, by omega, by simp [hfl], hfok', hcc', hcan', hr'.ok fun z _ h => ?_, Upd.then hu hu' fun i _ h => ?_⟩
      · omega
      · rcases h with h | h
        · exact h
        · omega
      · rcases h with h | h
        · exact ⟨h.1, h.2.1⟩
        · omega
  · have j := of_decide_eq_false j
    exact ⟨_, _, _, hcc, q, m, d, fl, rfl, hr.ok fun k _ h => h.1, hfok, by omega, ew⟩
/-- escritoireref16.Fail. -/
theorem rfail_does {w : World} {ok : Nat → Prop} {p : Option Addr} {xs : List Int} (hx : Ints .u8 w ok p xs) {l : Nat} (hl : l = xs.length) (c : Nat) (hlc : l ≤ c) (hs : xs.length ≤ 1000000000) :
    Does Try.prog 11 #[.slice p l c] w fun e w' => ∃ p' l' c' fl, e = .returned (.slice p' l' c') ∧ Row w' (fun k => w.heap.size ≤ k) 1 p' l' c' (fl.map (Value.int .i64)) ∧ FailOK xs fl ∧ fl.length = xs.length ∧ Ext w w' := by
  subst hl
  apply f11_does
  refine ⟨fun q m d i n wl => ∃ (k : Nat) (fl : List Int), i = k ∧ n = xs.length - k ∧ k ≤ xs.length ∧ fl.length = k ∧ FailOK xs fl ∧ Row wl (fun k => w.heap.size ≤ k) 1 q m d (fl.map (Value.int .i64)) ∧ Ext w wl,
    ⟨_, 0, [], rfl, rfl, Nat.zero_le _, rfl, (fun i hi => by simp at hi), Row.nil _ _ _, Upd.refl _ _⟩, ?_⟩
  rintro q m d _ n wl ⟨k, fl, rfl, rfl, hk, hfl, hfok, hr, hw⟩
  have hm := hr.1
  simp only [List.length_map, Nat.mul_one] at hm
  refine ⟨fun j => ?_, fun j => ?_⟩
  · have j := of_decide_eq_true j
    have hlt : k < xs.length := by omega
    have htl : (xs.take (k + 1)).length = k + 1 := by rw [List.length_take]; omega
    refine ⟨fun a i n wl' => ∃ (z best : Nat), i = z + 1 ∧ a = best ∧ n = k - z ∧ z ≤ k ∧ Best xs (xs.take (k + 1)) z best ∧ Ext wl wl', ⟨_, 0, 0, rfl, rfl, rfl, Nat.zero_le _, ⟨Nat.le_refl _, suf_zero _ _, fun j hj _ => hj⟩, Upd.refl _ _⟩, ?_⟩
    rintro _ _ n wl' ⟨z, best, rfl, rfl, rfl, hz, hbest, hw'⟩
    refine ⟨fun j1 => ?_, fun j1 => ?_⟩
    · have j1 := of_decide_eq_true j1
      intro wd hd
      have hwd := Ext.thn (Ext.thn hw hw') hd.ext
      have e1 : ((k : Int) + 1 - ((z : Int) + 1)).toNat = k - z := by omega
      have e2 : ((k : Int) + 1).toNat = k + 1 := by omega
      have e3 : ((z : Int) + 1).toNat = z + 1 := by omega
      rw [e1, e2, e3]
      refine ⟨⟨by omega, by omega⟩, inI64 (by omega) (by omega), inI64 (by omega) (by omega), inI64 (by omega) (by omega), ⟨by omega, by omega⟩, ⟨by omega, by omega⟩,
        (same_does ((hx.ext hwd).sub 0 (z + 1) c (by omega)) ((hx.ext hwd).sub (k - z) (k + 1) c (by omega)) (by simp; omega) (by simp; omega) _ _ (by simp; omega)).imp ?_⟩
      rintro e w29 ⟨rfl, hw29⟩
      have hiff : Suf xs (xs.take (k + 1)) (z + 1) ↔ (xs.take (z + 1)).drop 0 = (xs.take (k + 1)).drop (k - z) := by
        unfold Suf
        rw [htl, show k + 1 - (z + 1) = k - z by omega, List.drop_zero]
        constructor
        · exact fun h => h.2.2
        · exact fun h => ⟨by omega, by omega, h⟩
      refine ⟨_, rfl, fun h => ?_, fun h => ?_⟩
      · have h := of_decide_eq_true h
        refine ⟨inI64 (by omega) (by omega), _, ?_, z + 1, z + 1, by omega, by omega, rfl, by omega, ⟨Nat.le_refl _, hiff.2 h, fun j hj _ => hj⟩, Ext.thn (Ext.thn hw' hd.ext) hw29⟩
        omega
      · have h := of_decide_eq_false h
        refine ⟨inI64 (by omega) (by omega), _, ?_, z + 1, best, by omega, rfl, rfl, by omega, ⟨by have := hbest.1; omega, hbest.2.1, fun j hj hs => ?_⟩, Ext.thn (Ext.thn hw' hd.ext) hw29⟩
        · omega
        · by_cases he : j = z + 1
          · subst he; exact absurd (hiff.1 hs) h
          · exact hbest.2.2 j (by omega) hs
    · have j1 := of_decide_eq_false j1
      obtain rfl : z = k := by omega
      intro b33 w33 hn
      have hb := hbest.1
      obtain ⟨p', c', w34, hrun, hr', hu, _⟩ := Row.append slI 25 ((hr.ext hw').ext hn.ext) (Src.kit (P := Try.prog) hn.src Try.underlying25 (n := 1) 1 rfl (by decide) (by simp [Value.oneCell'])) (by simp only [maxLen]; omega) (by omega)
      have hw3 := Ext.thn (Ext.thn hw hw') hn.ext
      refine ⟨_, _, _, w34, hrun, inI64 (by omega) (by omega), _, ?_, z + 1, fl ++ [(best : Int)], by omega, rfl, hlt, by simp [hfl], hfok.snoc (by rw [hfl]; exact hbest), ?_, Upd.then hw3 hu fun i hi ⟨_, _, a, ha, e⟩ => ?_⟩
      · omega
      · rw [List.map_append]
        refine hr'.ok fun g _ hg => ?_
        rcases hg with hg | rfl
        · exact hg
        · exact hw3.size
      · have := (hr.lt ha).1; omega
  · have j := of_decide_eq_false j
    exact ⟨q, m, d, fl, rfl, hr, hfok, by omega, hw⟩
end Go.Proofs.Ytcpgapffhapclaa
