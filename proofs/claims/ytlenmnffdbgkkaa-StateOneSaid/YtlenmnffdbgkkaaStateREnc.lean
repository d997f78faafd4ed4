/-
  States: what each function of the reference does: Encode.
-/
import Derived.Test.YtlenmnffdbgkkaaStateEnc
namespace Go.Proofs.Ytlenmnffdbgkkaa
open Go.RowKit Go.Vc
/-- Bytes of one's own, their block. -/
structure Out (w : World) (rb : Option Nat) (out : List Int) (p : Option Addr) (l c : Nat) : Prop where
  len : l = out.length
  own : Own w 0 5 1 p l c (out.map (Value.int .u8))
  blk : blkOf p = rb
  inK : ∀ x ∈ out, InK .u8 x
/-- Since a world: only that block has changed, or a new one. -/
def OutR (w : World) (rb : Option Nat) (out : List Int) (p : Option Addr) (l c : Nat) (w' : World) : Prop :=
  ∃ rb', Out w' rb' out p l c ∧ Upd (fun z => rb = some z) w w' ∧ ∀ z, rb' = some z → rb = some z ∨ w.heap.size ≤ z
section
variable {w w0 : World} {rb : Option Nat} {out : List Int} {p : Option Addr} {l c : Nat}
theorem Out.refl (h : Out w rb out p l c) : OutR w rb out p l c w := ⟨rb, h, Upd.refl _ _, fun _ hz => .inl hz⟩
theorem OutR.ext {w' : World} (h : OutR w0 rb out p l c w) (x : Ext w w') : OutR w0 rb out p l c w' := by
  obtain ⟨rb', h1, h2, h3⟩ := h
  exact ⟨rb', ⟨h1.len, h1.own.ext x, h1.blk, h1.inK⟩, Upd.then h2 x fun _ _ e => e.elim, h3⟩
theorem out_app {K : Option Addr → Nat → Nat → World → Prop} (h : OutR w0 rb out p l c w) {ys : List Int} {ok : Nat → Prop} {p2 : Option Addr} (hy : Ints .u8 w ok p2 ys) {l2 : Nat} (hl : l2 = ys.length) (c2 : Nat) (hs : out.length + ys.length ≤ 1000000000)
    (k : ∀ p' l' c' w', OutR w0 rb (out ++ ys) p' l' c' w' → K p' l' c' w') :
    ∃ (p' : Option Addr) (l' c' : Nat) (w' : World), (Builtin.append_ #[25, 25] 25 #[.slice p l c, .slice p2 l2 c2]).run Try.prog w = .ok (.slice p' l' c') w' ∧ K p' l' c' w' := by
  obtain ⟨rb', h1, h2, h3⟩ := h
  subst hl
  have hlen := h1.len
  subst hlen
  obtain ⟨p', c', w', hr, ho', hu, hat⟩ := append_own slB 25 h1.own (l2 := ys.length) (c2 := c2) (news := ys.map (Value.int .u8)) (by simp) hy.src (ints_one _ _) (by simp only [maxLen]; omega) (by omega) (Nat.zero_le _)
  have hp : ∀ a : Addr, p = some a → rb' = some a.block := fun a e => by rw [← h1.blk, e]; rfl
  refine ⟨p', _, c', w', hr, k _ _ _ _ ⟨blkOf p', ⟨by rw [List.length_append], by rw [List.map_append]; exact ho', rfl, fun x hx => ?_⟩, Upd.then h2 hu fun z hz ⟨a, e1, e2⟩ => ?_, fun z hz => ?_⟩⟩
  · rcases List.mem_append.1 hx with hx | hx
    · exact h1.inK x hx
    · exact hy.inK x hx
  · rcases h3 z (by rw [hp a e1, e2]) with h | h
    · exact h
    · omega
  · cases hq : p' with
    | none => rw [hq] at hz; cases hz
    | some a =>
      rw [hq] at hz
      have hz : a.block = z := Option.some.inj hz
      rcases hat a hq with ⟨a2, e1, e2⟩ | h
      · exact h3 z (by rw [hp a2 e1, e2, hz])
      · have := h2.size; exact .inr (by omega)
theorem out_put {K : Option Addr → Nat → Nat → World → Prop} (h : OutR w0 rb out p l c w) (n : Int) (hs : out.length + 4 ≤ 1000000000) (k : ∀ p' l' c' w', OutR w0 rb (out ++ putN n) p' l' c' w' → K p' l' c' w') :
    Does Try.prog 36 #[.int .i64 n] w fun e w1 => ∃ (q : Option Addr) (lq cq : Nat), e = .returned (.slice q lq cq) ∧ ∃ (p' : Option Addr) (l' c' : Nat) (w' : World), (Builtin.append_ #[25, 25] 25 #[.slice p l c, .slice q lq cq]).run Try.prog w1 = .ok (.slice p' l' c') w' ∧ K p' l' c' w' := by
  refine (rput_does n).imp ?_
  rintro e w1 ⟨q, rfl, hq, x⟩
  exact ⟨q, 4, 4, rfl, out_app (h.ext x) hq (l2 := 4) rfl 4 hs k⟩
theorem rput_own (n : Int) : Does Try.prog 36 #[.int .i64 n] w fun e w' => ∃ p, e = .returned (.slice p 4 4) ∧ Out w' (some w.heap.size) (putN n) p 4 4 ∧ Ext w w' := by
  apply f36_does
  refine ⟨by decide, by decide, by decide, fun b w1 hb => ⟨_, rfl, ⟨rfl, ?_, by rw [← hb.eq]; rfl, putN_u8 n⟩, hb.ext⟩⟩
  have := Own.new hb (show 4 ≤ maxLen by decide)
  rw [show ([Value.int .u8 (IntKind.wrap .u8 (n.fdiv (2 ^ 24))), .int .u8 (IntKind.wrap .u8 (n.fdiv (2 ^ 16))), .int .u8 (IntKind.wrap .u8 (n.fdiv (2 ^ 8))), .int .u8 (IntKind.wrap .u8 n)] : List Value) = (putN n).map (Value.int .u8) from by rw [fdiv_two, fdiv_two, fdiv_two, wrap_u8, wrap_u8, wrap_u8, wrap_u8]; rfl] at this
  exact this.lower (Nat.zero_le _)
theorem maymarks_does {ok : Nat → Prop} {pm : Option Addr} {ms : List (Int × Int)} (hm : Mks w ok pm ms) {lm : Nat} (hl : lm = ms.length) (cm : Nat) (hs : ms.length ≤ 1000000000) :
    Does Try.prog 38 #[.slice pm lm cm] w fun e w' => e = .returned (.bool (decide (marksOk 96 ms))) ∧ Ext w w' := by
  subst hl
  apply f38_does
  refine ⟨fun x3 nl wl => ∃ (k : Nat) (last : Int), x3 = k ∧ nl = ms.length - k ∧ k ≤ ms.length ∧ 96 ≤ last ∧ (k = 0 → last = 96) ∧ (∀ j, j + 1 = k → ∀ h : j < ms.length, last = ms[j].1) ∧ (marksOk last (ms.drop k) ↔ marksOk 96 ms) ∧ Ext w wl, ⟨_, 0, 96, rfl, rfl, Nat.zero_le _, Int.le_refl _, fun _ => rfl, fun j h => (by omega), Iff.rfl, Upd.refl _ _⟩, ?_⟩
  rintro _ _ wl ⟨k, last, rfl, rfl, hk, hl96, hk0, hkj, he, X⟩
  refine brr (fun q wd hd => ?_) fun q => ?_
  · have q := of_decide_eq_true q
    have hkl : k < ms.length := by omega
    have Xd := X.thn hd.ext
    have hmd := hm.ext Xd
    obtain ⟨b, o, hp, hb, h1, h2, h3, h4⟩ := hmd.at k hkl
    rw [List.drop_eq_getElem_cons hkl] at he
    have no : ∀ {w'}, Ext w w' → ¬ marksOk last (ms[k] :: ms.drop (k + 1)) → Ending.returned (.bool false) = .returned (.bool (decide (marksOk 96 ms))) ∧ Ext w w' := fun x' h => ⟨by rw [decide_eq_false fun k => h (he.2 k)], x'⟩
    have next : ¬ (ms[k].1 < 97) → ¬ ms[k].1 > 122 → placeOk ms[k].2 → last < ms[k].1 → InK .i64 ((k : Int) + 1) ∧ ∃ ml, ml < ms.length - k ∧ ∃ (k' : Nat) (last : Int), ((k : Int) + 1) = k' ∧ ml = ms.length - k' ∧ k' ≤ ms.length ∧ 96 ≤ last ∧ (k' = 0 → last = 96) ∧ (∀ j, j + 1 = k' → ∀ h : j < ms.length, last = ms[j].1) ∧ (marksOk last (ms.drop k') ↔ marksOk 96 ms) ∧ Ext w wd := fun c1 c2 c3 c4 => by
      refine ⟨inI64 (by omega) (by omega), _, ?_, k + 1, ms[k].1, by omega, rfl, hkl, by omega, fun h => (by omega), fun j hj h => ?_, ?_, Xd⟩
      · omega
      · obtain rfl : j = k := by omega
        rfl
      · rw [← he]
        exact ⟨fun h => ⟨c4, by omega, c3, h⟩, fun h => h.2.2.2⟩
    refine ⟨fun wz => Ext wd wz, Upd.refl _ _, ⟨by omega, by omega⟩, b, o, hp, _, h1, brr (fun q1 => no Xd fun h => ?_) fun q1 => ⟨⟨by omega, by omega⟩, b, o, hp, _, h1, brr (fun q2 => no Xd fun h => ?_) fun q2 => ⟨⟨by omega, by omega⟩, b, o, hp, _, h2, (good_does _).imp ?_⟩⟩⟩
    · have q1 := of_decide_eq_true q1
      have := h.1
      omega
    · have q2 := of_decide_eq_true q2
      have := h.2.1
      omega
    · rintro e w30 ⟨rfl, rfl⟩
      have q1 := of_decide_eq_false q1
      have q2 := of_decide_eq_false q2
      refine ⟨_, rfl, Upd.refl _ _, brr (fun q3 => no Xd fun h => not_dec q3 h.2.2.1) fun q3 => brr (fun q4 => ?_) fun q4 => ?_⟩
      · have q4 := of_decide_eq_true q4
        have hk1 : k - 1 < ms.length := by omega
        obtain ⟨b', o', hp', _, g1, g2, _⟩ := hmd.at (k - 1) hk1
        rw [hp] at hp'
        injection hp' with hp'
        injection hp' with hp1 hp2
        subst hp1 hp2
        have ek : ((k : Int) - 1).toNat = k - 1 := by omega
        have hlast := hkj (k - 1) (by omega) hk1
        refine ⟨⟨by omega, by omega⟩, b, o, hp, _, fun wz hz => hz.cell h1, inI64 (by omega) (by omega), ⟨by omega, by omega⟩, b, o, hp, _, fun wz hz => by rw [ek]; exact hz.cell g1, brr (fun q5 => no Xd fun h => ?_) fun q5 => ?_⟩
        · have q5 := of_decide_eq_true q5
          have := h.1
          omega
        · have q5 := of_decide_eq_false q5
          exact next (by omega) (by omega) (yes_dec q3) (by omega)
      · have q4 := of_decide_eq_false q4
        have := hk0 (by omega)
        exact next (by omega) (by omega) (yes_dec q3) (by omega)
  · have q := of_decide_eq_false q
    obtain rfl : k = ms.length := by omega
    rw [List.drop_length] at he
    exact ⟨by rw [decide_eq_true (he.1 trivial)], X⟩
theorem Out.lt (h : Out w rb out p l c) {z : Nat} (hz : rb = some z) : z < w.heap.size := by
  rw [← h.blk] at hz
  cases hp : p with
  | none => rw [hp] at hz; cases hz
  | some a => rw [hp] at hz; have hz : a.block = z := Option.some.inj hz; have := (h.own.base hp).2; omega
theorem Out.ext {w' : World} (h : Out w rb out p l c) (x : Ext w w') : Out w' rb out p l c := ⟨h.len, h.own.ext x, h.blk, h.inK⟩
theorem OutR.next {w1 w2 : World} {rb1 : Option Nat} {out' : List Int} {p' : Option Addr} {l' c' : Nat} (h2 : Upd (fun z => rb = some z) w w1) (h3 : ∀ z, rb1 = some z → rb = some z ∨ w.heap.size ≤ z) (k : OutR w1 rb1 out' p' l' c' w2) : OutR w rb out' p' l' c' w2 := by
  obtain ⟨rb2, k1, k2, k3⟩ := k
  refine ⟨rb2, k1, Upd.then h2 k2 fun z hz e => ?_, fun z hz => ?_⟩
  · rcases h3 z e with h | h
    · exact h
    · omega
  · rcases k3 z hz with h | h
    · exact h3 z h
    · exact .inr (Nat.le_trans h2.size h)
theorem OutR.upd {w1 : World} (h : OutR w rb out p l c w1) : Upd (fun z => rb = some z) w w1 := by obtain ⟨_, _, h2, _⟩ := h; exact h2
theorem rencode_does {A : Nat → Prop} {b cur : Nat} {ns : List Nd} (h : Hs w A b ns cur) (hl : loadOk ns cur) (hm : Mods ns) {ms : List (Int × Int)} {ok : Nat → Prop} {pm : Option Addr} (hk : Mks w ok pm ms) {lm : Nat} (hlm : lm = ms.length) (cm : Nat)
    (hT : (encS ns cur ms).length ≤ 100000000) : Does Try.prog 18 #[.pointer (some ⟨b, 0, none⟩), .slice pm lm cm] w (EncR w ns cur ms) := by
  subst hlm
  have hl' := hl
  obtain ⟨hn1, hn6, hc0, hc1, hokl⟩ := hl'
  have hEl : (encS ns cur ms).length = 9 + ((ns.drop 1).flatMap encN).length + (ms.flatMap encM).length := by
    unfold encS; simp only [List.length_append, putN_len, List.length_cons]; omega
  have hMl : ∀ l : List (Int × Int), (l.flatMap encM).length = 5 * l.length := by
    intro l
    induction l with
    | nil => rfl
    | cons m r ih => rw [List.flatMap_cons, List.length_append, ih, List.length_cons, show (encM m).length = 5 from rfl]; omega
  have hms : ms.length ≤ 100000000 := by have := hMl ms; omega
  apply f18_does
  refine fls rfl fun wd3 hd3 => ?_
  have H3 := h.ext hd3.ext
  obtain ⟨q, d, hq1, hq2, hq3⟩ := H3.row
  refine ⟨fun wz => Ext wd3 wz, Upd.refl _ _, b, 0, rfl, _, _, _, hq2, (rput_own _).imp ?_⟩
  rintro e w19 ⟨p19, rfl, o19, x19⟩
  refine ⟨_, _, _, rfl, x19, b, 0, rfl, _, fun wz hz => hz.cell H3.at1, out_put o19.refl _ (by simp [putN_len]) fun p25 l25 c25 w25 h25 => ?_⟩
  obtain ⟨rb25, o25, u25, hr25⟩ := h25
  have z3 := hd3.ext.size
  have X25 : Ext w w25 := Upd.then (hd3.ext.thn x19) u25 fun z hz e => by injection e with e; omega
  have hlong : ∀ j, (((ns.drop 1).take j).flatMap encN).length ≤ ((ns.drop 1).flatMap encN).length := fun j => flat_take_le encN _ j
  refine ⟨fun p6 l6 c6 x7 nl wl => ∃ (k : Nat) (rk : Option Nat), x7 = (k : Int) + 1 ∧ nl = ns.length - k ∧ k ≤ (ns.drop 1).length ∧ Out wl rk (putN ns.length ++ putN cur ++ ((ns.drop 1).take k).flatMap encN) p6 l6 c6 ∧ (∀ z, rk = some z → w.heap.size ≤ z) ∧ Ext w wl ∧ (∀ n ∈ (ns.drop 1).take k, nodeOk n),
    ⟨_, 0, rb25, rfl, rfl, Nat.zero_le _, by simpa using o25, fun z hz => ?_, X25, by simp⟩, ?_⟩
  · rcases hr25 z hz with h | h
    · injection h with h; omega
    · have := x19.size; omega
  have hDl : (ns.drop 1).length = ns.length - 1 := List.length_drop
  rintro p6 l6 c6 _ _ wl ⟨k, rk, rfl, rfl, hkD, hO, hrk, Xl, hall⟩
  have zl := Xl.size
  have Hl := h.ext Xl
  obtain ⟨q, d, hq1, hq2, hq3⟩ := Hl.row
  refine ⟨b, 0, rfl, _, _, _, hq2, brr (fun q1 => ⟨b, 0, rfl, _, _, _, hq2, ⟨by omega, of_decide_eq_true q1⟩, ?_⟩) fun q1 => ?_⟩
  · have q1 := of_decide_eq_true q1
    have hkl : k < (ns.drop 1).length := by omega
    have hkn : k + 1 < ns.length := by omega
    have hD : ns[k + 1] = (ns.drop 1)[k] := by rw [List.getElem_drop]; congr 1; omega
    obtain ⟨b1, o1, p1, c1, hp, hb1, a1, a2, a3, i1, i2, i3, hE⟩ := hq3.at (k + 1) hkn
    have hmo := hm _ (List.getElem_mem hkn)
    obtain ⟨nd, hnd⟩ : ∃ nd, nd = (ns.drop 1)[k] := ⟨_, rfl⟩
    rw [hD, ← hnd] at a1 a2 a3 hE hmo i3
    have hmem : nd ∈ ns := by rw [hnd]; exact List.mem_of_mem_drop (List.getElem_mem hkl)
    have ek : ((k : Int) + 1).toNat = k + 1 := by omega
    rw [ek]
    have htot := flat_take_le encN (ns.drop 1) (k + 1)
    rw [take_flat encN hkl, List.length_append, ← hnd, encN_len] at htot
    have bad : ¬ nodeOk nd → encCode ns cur ms = 1 := fun hno => by unfold encCode; rw [if_pos fun j => hno (j.1 _ hmem)]
    refine ⟨b1, o1, hp, _, a1, _, _, _, a2, _, a3, fun b8 w8 hb8 => hb8.blk.st3 rfl fun w9 B8 u8 => ?_⟩
    have e8 := hb8.eq
    have z8 := hb8.size
    have z9 := u8.size
    have X9 : Ext wl w9 := hb8.ext.loc (by omega) u8
    have O9 := hO.ext X9
    have rk8 : ¬ (rk = some b8) := fun e => by have := hO.lt e; omega
    have len0 : (putN ns.length ++ putN cur ++ ((ns.drop 1).take k).flatMap encN).length = 8 + (((ns.drop 1).take k).flatMap encN).length := by simp only [List.length_append, putN_len]
    refine ⟨_, B8.cell 2 rfl, (good_does _).imp ?_⟩
    rintro e w44 ⟨rfl, rfl⟩
    refine ⟨_, rfl, brr (fun q2 => encr_bad (bad fun j => not_dec q2 j.2) (by decide) (Xl.thn X9)) fun q2 => ⟨_, B8.cell 0 rfl, out_put O9.refl _ (by rw [len0]; omega) fun p50 l50 c50 w50 h50 => ?_⟩⟩
    have hcur := yes_dec q2
    refine ⟨_, (B8.upd h50.upd rk8).cell 2 rfl, out_put h50 _ (by simp only [List.length_append, putN_len] at len0 ⊢; omega) fun p55 l55 c55 w55 h55 => ⟨_, _, _, (B8.upd h55.upd rk8).cell 1 rfl, out_put h55 _ (by simp only [List.length_append, putN_len] at len0 ⊢; omega) fun p61 l61 c61 w61 h61 => ?_⟩⟩
    -- the edits
    refine ⟨fun p6 l6 c6 x9 nl wq => ∃ j : Nat, x9 = j ∧ nl = nd.es.length - j ∧ j ≤ nd.es.length ∧ OutR w44 rk (putN ns.length ++ putN cur ++ ((ns.drop 1).take k).flatMap encN ++ putN nd.par ++ putN nd.cur ++ putN nd.es.length ++ (nd.es.take j).flatMap encE) p6 l6 c6 wq ∧ (∀ e ∈ nd.es.take j, placeOk e.at_), ⟨_, 0, rfl, rfl, Nat.zero_le _, by simpa using h61, by simp⟩, ?_⟩
    rintro pj lj cj _ _ wq ⟨j, rfl, rfl, hj, hOj, hallj⟩
    have B8q := B8.upd hOj.upd rk8
    refine ⟨_, _, _, B8q.cell 1 rfl, brr (fun q3 => ⟨_, _, _, B8q.cell 1 rfl, ⟨by omega, of_decide_eq_true q3⟩, ?_⟩) fun q3 => ?_⟩
    · have q3 := of_decide_eq_true q3
      have hjl : j < nd.es.length := by omega
      have hEq : Edits wq (fun z => A z ∧ z ≠ b) p1 nd.es := (hE.ext X9).upd hOj.upd fun z hz e => by have := h.lt z hz.1; have := hrk z e; omega
      obtain ⟨b2, o2, p2, c2, p3, c3, hp2, hbo2, d1, d2, d3, hin, g1, d4, g2, d5⟩ := hEq.at j hjl
      have hme := hmo.2 _ (List.getElem_mem hjl)
      have htj := flat_take_le encE nd.es (j + 1)
      rw [take_flat encE hjl, List.length_append, encE_len] at htj
      refine ⟨b2, o2, hp2, _, d1, _, _, _, d2, _, _, _, d3, fun b10 w10 hb10 => hb10.blk.st3 rfl fun w11 B10 u10 => ?_⟩
      have e10 := hb10.eq
      have z10 := hb10.size
      have zq := hOj.upd.size
      have X11 : Ext wq w11 := hb10.ext.loc (by omega) u10
      obtain ⟨rj, Oj, uj, hrj⟩ := hOj
      have rj10 : ¬ (rj = some b10) := fun e => by have := Oj.lt e; omega
      have len1 : (putN ns.length ++ putN cur ++ ((ns.drop 1).take k).flatMap encN ++ putN nd.par ++ putN nd.cur ++ putN nd.es.length ++ (nd.es.take j).flatMap encE).length = 20 + (((ns.drop 1).take k).flatMap encN).length + ((nd.es.take j).flatMap encE).length := by simp only [List.length_append, putN_len]; omega
      have okj : ∀ z, (A z ∧ z ≠ b) → ¬ (rj = some z) := fun z hz e => by
        have := h.lt z hz.1
        rcases hrj z e with h' | h'
        · have := hrk z h'; omega
        · omega
      refine ⟨_, B10.cell 0 rfl, (good_does _).imp ?_⟩
      rintro e w76 ⟨rfl, rfl⟩
      have X76 : Ext w w76 := Ext.thn (Upd.then (Xl.thn X9) uj fun z hz e => by have := hrk z e; omega) X11
      refine ⟨_, rfl, brr (fun q4 => encr_bad (bad fun jj => not_dec q4 (jj.1 _ (List.getElem_mem hjl))) (by decide) X76) fun q4 => ⟨_, B10.cell 0 rfl, out_put (Oj.ext X11).refl _ (by rw [len1]; omega) fun p82 l82 c82 w82 h82 => ?_⟩⟩
      refine ⟨_, _, _, (B10.upd h82.upd rj10).cell 1 rfl, out_put h82 _ (by rw [List.length_append, len1, putN_len]; omega) fun p88 l88 c88 w88 h88 => ?_⟩
      refine ⟨_, _, _, (B10.upd h88.upd rj10).cell 1 rfl, out_app h88 ((d4.ext X11).upd h88.upd okj) rfl _ (by simp only [List.length_append, putN_len] at len1 ⊢; omega) fun p92 l92 c92 w92 h92 => ?_⟩
      refine ⟨_, _, _, (B10.upd h92.upd rj10).cell 2 rfl, out_put h92 _ (by simp only [List.length_append, putN_len] at len1 ⊢; omega) fun p98 l98 c98 w98 h98 => ?_⟩
      refine ⟨_, _, _, (B10.upd h98.upd rj10).cell 2 rfl, out_app h98 ((d5.ext X11).upd h98.upd okj) rfl _ (by simp only [List.length_append, putN_len] at len1 ⊢; omega) fun p102 l102 c102 w102 h102 => ?_⟩
      have hmol := hmo.1
      refine ⟨inI64 (by omega) (by omega), _, ?_, j + 1, by omega, rfl, hjl, ?_, fun e he => ?_⟩
      · omega
      · rw [take_flat encE hjl, show encE nd.es[j] = putN nd.es[j].at_ ++ (putN nd.es[j].old.length ++ nd.es[j].old) ++ (putN nd.es[j].new.length ++ nd.es[j].new) from rfl]
        have := OutR.next (Upd.then uj X11 fun _ _ e => e.elim) (fun z hz => hrj z hz) h102
        simpa only [List.append_assoc] using this
      · rw [List.take_succ_eq_append_getElem hjl] at he
        rcases List.mem_append.1 he with he | he
        · exact hallj e he
        · rw [List.mem_singleton.1 he]; exact yes_dec q4
    · have q3 := of_decide_eq_false q3
      obtain rfl : j = nd.es.length := by omega
      rw [List.take_length] at hOj hallj
      obtain ⟨rj, Oj, uj, hrj⟩ := hOj
      refine ⟨inI64 (by omega) (by omega), _, ?_, k + 1, rj, by omega, rfl, hkl, ?_, fun z hz => ?_, Upd.then (Xl.thn X9) uj fun z hz e => by have := hrk z e; omega, fun n hn => ?_⟩
      · omega
      · rw [take_flat encN hkl, ← hnd, show encN nd = putN nd.par ++ putN nd.cur ++ putN nd.es.length ++ nd.es.flatMap encE from rfl]
        simpa only [List.append_assoc] using Oj
      · rcases hrj z hz with h' | h'
        · exact hrk z h'
        · omega
      · rw [List.take_succ_eq_append_getElem hkl] at hn
        rcases List.mem_append.1 hn with hn | hn
        · exact hall n hn
        · rw [List.mem_singleton.1 hn, ← hnd]
          exact ⟨hallj, hcur⟩
  · have q1 := of_decide_eq_false q1
    obtain rfl : k = (ns.drop 1).length := by omega
    rw [List.take_length] at hO hall
    have hallN : ∀ n ∈ ns, nodeOk n := by
      have h0 := hokl 0 (by omega)
      unfold mayN at h0
      rw [if_pos (show ((0 : Nat) : Int) = 0 from rfl)] at h0
      intro n hn
      have hns : ns = ns[0] :: ns.drop 1 := by
        rw [← List.drop_eq_getElem_cons (by omega : 0 < ns.length)]; rfl
      rw [hns] at hn
      rcases List.mem_cons.1 hn with rfl | hn
      · refine ⟨fun e he => ?_, ?_⟩
        · rw [h0.2.1] at he; cases he
        · rw [h0.2.2]; decide
      · exact hall n hn
    refine (maymarks_does (hk.ext Xl) rfl cm (by omega)).imp ?_
    rintro e w104 ⟨rfl, x104⟩
    have X104 := Xl.thn x104
    refine ⟨_, rfl, brr (fun q2 => encr_bad (by unfold encCode; rw [if_pos fun j => not_dec q2 j.2]) (by decide) X104) fun q2 b110 w110 hb110 => ?_⟩
    have hmk := yes_dec q2
    have hw : writeOk ns ms := ⟨hallN, hmk⟩
    have hmlen := marksOk_len ms 96 hmk (by decide)
    have hwrap : IntKind.wrap .u8 ((ms.length : Int)) = (ms.length : Int) := wrap_in ⟨by show (0 : Int) ≤ _; omega, by show _ ≤ (255 : Int); omega⟩
    rw [hwrap] at hb110
    have hI110 := hb110.ints (k := .u8) [(ms.length : Int)] rfl (by intro x hx; rw [List.mem_singleton.1 hx]; exact ⟨by show (0 : Int) ≤ _; omega, by show _ ≤ (255 : Int); omega⟩)
    have z104 := x104.size
    have z110 := hb110.ext.size
    have len2 : (putN ns.length ++ putN cur ++ (ns.drop 1).flatMap encN).length = 8 + ((ns.drop 1).flatMap encN).length := by simp only [List.length_append, putN_len]
    refine out_app ((hO.ext x104).ext hb110.ext).refl hI110 rfl 1 (by rw [len2]; simp only [List.length_singleton]; omega) fun p111 l111 c111 w111 h111 => ?_
    obtain ⟨r111, O111, u111, hr111⟩ := h111
    have X111 : Ext w w111 := Upd.then (X104.thn hb110.ext) u111 fun z hz e => by have := hrk z e; omega
    refine ⟨fun p6 l6 c6 x11 nl wq => ∃ (j : Nat) (rj : Option Nat), x11 = j ∧ nl = ms.length - j ∧ j ≤ ms.length ∧ Out wq rj (putN ns.length ++ putN cur ++ (ns.drop 1).flatMap encN ++ [(ms.length : Int)] ++ (ms.take j).flatMap encM) p6 l6 c6 ∧ (∀ z, rj = some z → w.heap.size ≤ z) ∧ Ext w wq,
      ⟨_, 0, r111, rfl, rfl, Nat.zero_le _, by simpa using O111, fun z hz => ?_, X111⟩, ?_⟩
    · rcases hr111 z hz with h' | h'
      · exact hrk z h'
      · omega
    rintro pj lj cj _ _ wq ⟨j, rj, rfl, rfl, hj, hOj, hrj, Xq⟩
    have zq := Xq.size
    have len3 : (putN ns.length ++ putN cur ++ (ns.drop 1).flatMap encN ++ [(ms.length : Int)] ++ (ms.take j).flatMap encM).length = 9 + ((ns.drop 1).flatMap encN).length + ((ms.take j).flatMap encM).length := by simp only [List.length_append, putN_len, List.length_singleton]; omega
    refine brr (fun q3 => ?_) fun q3 => ?_
    · have q3 := of_decide_eq_true q3
      have hjl : j < ms.length := by omega
      have htj := flat_take_le encM ms (j + 1)
      rw [take_flat encM hjl, List.length_append, show (encM ms[j]).length = 5 from rfl] at htj
      have hkq := hk.ext Xq
      obtain ⟨b121, o121, hp, hb121, h1, h2, h3, h4⟩ := hkq.at j hjl
      refine ⟨⟨by omega, by omega⟩, b121, o121, hp, _, h1, fun b124 w124 hb124 => ?_⟩
      have hI124 := hb124.ints (k := .u8) [ms[j].1] rfl (by intro x hx; rw [List.mem_singleton.1 hx]; exact h3)
      have z124 := hb124.ext.size
      refine out_app (hOj.ext hb124.ext).refl hI124 rfl 1 (by rw [len3]; simp only [List.length_singleton]; omega) fun p125 l125 c125 w125 h125 => ?_
      have X125 : Ext w w125 := Upd.then (Xq.thn hb124.ext) h125.upd fun z hz e => by have := hrj z e; omega
      obtain ⟨b129, o129, hp', _, _, h2', _⟩ := (hk.ext X125).at j hjl
      refine ⟨⟨by omega, by omega⟩, b129, o129, hp', _, h2', out_put h125 _ (by rw [List.length_append, len3]; simp only [List.length_singleton]; omega) fun p133 l133 c133 w133 h133 => ?_⟩
      obtain ⟨rn, On, un, hrn⟩ := h133
      refine ⟨inI64 (by omega) (by omega), _, ?_, j + 1, rn, by omega, rfl, hjl, ?_, fun z hz => ?_, Upd.then (Xq.thn hb124.ext) un fun z hz e => by have := hrj z e; omega⟩
      · omega
      · rw [take_flat encM hjl, show encM ms[j] = [ms[j].1] ++ putN ms[j].2 from rfl]
        simpa only [List.append_assoc] using On
      · rcases hrn z hz with h' | h'
        · exact hrj z h'
        · omega
    · have q3 := of_decide_eq_false q3
      obtain rfl : j = ms.length := by omega
      rw [List.take_length] at hOj
      have hout : putN ns.length ++ putN cur ++ (ns.drop 1).flatMap encN ++ [(ms.length : Int)] ++ ms.flatMap encM = encS ns cur ms := by
        unfold encS
        rw [List.append_assoc _ [(ms.length : Int)]]; rfl
      rw [hout] at hOj
      have hlen := hOj.len
      subst hlen
      refine brr (fun q5 => ?_) fun q5 => ?_
      · have q5 := of_decide_eq_true q5
        exact encr_bad (by unfold encCode; rw [if_neg fun k => k hw, if_pos (by omega)]) (by decide) Xq
      · have q5 := of_decide_eq_false q5
        have hcode : encCode ns cur ms = 0 := by unfold encCode; rw [if_neg fun k => k hw, if_neg (by omega)]
        have hout' : encOut ns cur ms = encS ns cur ms := by unfold encOut; rw [if_pos hcode]
        refine ⟨⟨pj, cj, by rw [hcode, hout'], by rw [hout']; exact hOj.own.cap.1, ?_⟩, Xq⟩
        rw [hout']
        have hI := hOj.own.any hOj.inK
        intro i hi
        obtain ⟨b', o', e1, _, e3⟩ := hI i hi
        exact ⟨b', o', e1, hrj b' (by rw [← hOj.blk, e1]; rfl), e3⟩
end
end Go.Proofs.Ytlenmnffdbgkkaa
