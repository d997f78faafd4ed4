/-
  Devices: the reference's Crash, second part.
-/
import Derived.Test.YtiblbjagfiigdaaDevRef5
namespace Go.Proofs.Ytiblbjagfiigdaa
open Go.RowKit Go.Vc
variable {w : World} {S : Nat → Prop} {b : Nat} {d : Dev} {R : Ending → World → Prop}
theorem wrapU64 {z : Int} (h1 : 0 ≤ z) (h2 : z < 1000000) : IntKind.u64.wrap z = z := wrap_in ⟨by show (0 : Int) ≤ z; exact h1, by show z ≤ 18446744073709551615; omega⟩
/-- One write's bytes. -/
theorem rtear_loop {base n0 bx n b10 : Nat} {ps : Option Addr} {cs : Nat} {pn : Option Addr} {cn : Nat} {pw : Option Addr} {cw : Nat} {po : Option Addr} {co : Nat} {vn vs vw : List Value} {T : List (List Int)} {q : Nat → Nat} (c : Int) {p : Nat} {B : List Int} {qB : Option Addr} {cB : Nat} {wx : World} {K : World → Prop}
    (hX : XAt wx base n0 bx n ps cs pn cn pw cw po co vn vs vw T q) (hp : p < T.length) (hB : Pg B) (hn : n ≤ 4096) (hI : Ints .u8 wx (fun g => g < base) qB B) (h10 : base ≤ b10) (h10q : ∀ i, i < T.length → q i ≠ b10) (c0 : wx.cell? ⟨b10, 0, none⟩ = some (.int .i64 p)) (c1 : wx.cell? ⟨b10, 1, none⟩ = some (.slice qB 256 cB))
    (hK : ∀ w', XAt w' base n0 bx n ps cs pn cn pw cw po co vn vs vw (T.set p (tear c B (T.getD p []))) q → Upd (fun z => base ≤ z) wx w' → K w') :
  (∃ I14 : Int → Nat → World → Prop, (∃ nl14, I14 0 nl14 wx) ∧ ∀ x11 : Int, ∀ (nl14 : Nat) (wl14 : World), I14 x11 nl14 wl14 →
  Br (decide (x11 < 256))
  ((64 : Int) ≠ 0 ∧ InK .i64 (x11.tdiv 64) ∧ (0 : Int) ≤ (IntKind.wrap .u64 (x11.tdiv 64)) ∧ Br ((bits .and .u8 (c.fdiv (2 ^ (min (IntKind.wrap .u64 (x11.tdiv 64)).toNat 8))) 1) == 1)
  (∀ wd17, Drew wl14 wd17 →
  ∃ b81 o81, (some ⟨bx, 0, none⟩ : Option Addr) = some ⟨b81, o81, none⟩ ∧ ∃ (p83 : Option Addr) (l83 c83 : Nat), wd17.cell? ⟨b81, o81 + 1, none⟩ = some (.slice p83 l83 c83) ∧ ∃ n85 : Int, wd17.cell? ⟨b10, 0, none⟩ = some (.int .i64 n85) ∧ ((0 : Int) ≤ n85 ∧ n85 < (l83 : Int)) ∧ ∃ b86 o86, p83 = some ⟨b86, o86, none⟩ ∧ ∃ (p87 : Option Addr) (l87 c87 : Nat), wd17.cell? ⟨b86, o86 + (n85).toNat, none⟩ = some (.slice p87 l87 c87) ∧ ∃ (p90 : Option Addr) (l90 c90 : Nat), wd17.cell? ⟨b10, 1, none⟩ = some (.slice p90 l90 c90) ∧ ((0 : Int) ≤ x11 ∧ x11 < (l90 : Int)) ∧ ∃ b92 o92, p90 = some ⟨b92, o92, none⟩ ∧ ∃ n93 : Int, wd17.cell? ⟨b92, o92 + (x11).toNat, none⟩ = some (.int .u8 n93) ∧ ((0 : Int) ≤ x11 ∧ x11 < (l87 : Int)) ∧ ∃ b94 o94, p87 = some ⟨b94, o94, none⟩ ∧ CanStore wd17 b94 (o94 + (x11).toNat) ∧ ∀ ws_3, Stored wd17 b94 (o94 + (x11).toNat) (.int .u8 n93) ws_3 →
  InK .i64 (x11 + 1) ∧ ∃ ml14, ml14 < nl14 ∧ I14 (x11 + 1) ml14 ws_3)
  (InK .i64 (x11 + 1) ∧ ∃ ml14, ml14 < nl14 ∧ I14 (x11 + 1) ml14 wl14))
  (K wl14)) := by
  obtain ⟨ha, hq0, _⟩ := hX.pages p hp
  have hpn : p < n := Nat.lt_of_lt_of_le hp hX.tn
  refine ⟨fun y m wl => ∃ j : Nat, y = j ∧ j ≤ 256 ∧ m = 256 - j ∧ XAt wl base n0 bx n ps cs pn cn pw cw po co vn vs vw (T.set p (tearB c j B T[p])) q ∧ Upd (fun z => z = q p) wx wl, ⟨_, 0, rfl, by omega, rfl, ?_, Upd.refl _ _⟩, ?_⟩
  · rw [tearB_zero ha.1, List.set_getElem_self]; exact hX
  rintro y m wl ⟨j, rfl, hj, rfl, X, hu⟩
  have td : (j : Int).tdiv 64 = ((j / 64 : Nat) : Int) := by rw [Int.tdiv_eq_ediv_of_nonneg (by omega)]; omega
  have tw : IntKind.u64.wrap ((j / 64 : Nat) : Int) = ((j / 64 : Nat) : Int) := wrapU64 (by omega) (by omega)
  have hbase : base ≤ q p := by have := hX.hbx; omega
  rw [td, tw, Int.toNat_natCast]
  refine brr (fun hc => ⟨by decide, inI64 (by omega) (by omega), by omega, brr (fun hb wd xd => ?_) fun hb => ?_⟩) fun hc => ?_
  · have hc : j < 256 := by have := of_decide_eq_true hc; omega
    have hb : bit c (j / 64) = true := hb
    have xd := xd.ext
    have Xd := X.ext xd
    have k0 := xd.cell (hu.cell (show ¬ b10 = q p from fun e => h10q p hp e.symm) c0)
    have k1 := xd.cell (hu.cell (show ¬ b10 = q p from fun e => h10q p hp e.symm) c1)
    have Id := Ints.ext (hI.upd hu fun g hg e => by omega) xd
    obtain ⟨gB, oB, hqB, cB'⟩ := Id.at j (by rw [hB.1]; exact hc)
    have hbyte := hI.inK _ (List.getElem_mem (show j < B.length by rw [hB.1]; exact hc))
    obtain ⟨o, cc, hv, hcan, hset⟩ := Xd.byte (p := p) (by rw [List.length_set]; exact hp) hc hbyte
    obtain ⟨gn, on, hpn', _, _, hcell⟩ := Xd.now.can (j := p) (by rw [Xd.vnl]; exact hpn)
    refine ⟨bx, 0, rfl, _, _, _, Xd.blk.cell 1 rfl, _, k0, ⟨by omega, by omega⟩, gn, on, hpn', _, 256, cc, by rw [Int.toNat_natCast]; exact hcell _ hv, _, 256, _, k1, ⟨by omega, by omega⟩, gB, oB, hqB, _, cB', ⟨by omega, by omega⟩, q p, o, rfl, hcan, fun ws s => ⟨inI64 (by omega) (by omega), 256 - (j + 1), by omega, j + 1, by omega, hc, rfl, ?_, ?_⟩⟩
    · have := (hset ws s).1
      rw [List.getElem_set_self, List.set_set, tearB_yes hc hB.1 hb] at this
      exact this
    · exact Upd.trans (Ext.then hu xd) s.upd
  · have hc : j < 256 := by have := of_decide_eq_true hc; omega
    have hb : bit c (j / 64) = false := hb
    refine ⟨inI64 (by omega) (by omega), 256 - (j + 1), by omega, j + 1, by omega, hc, rfl, ?_, hu⟩
    rw [tearB_no hb]; exact X
  · have hc : j = 256 := by have := of_decide_eq_false hc; omega
    subst hc
    refine hK wl ?_ (hu.mono fun z _ e => e ▸ hbase)
    rw [getD_at _ hp, ← tearB_all]; exact X
/-- Crash of the reference. -/
theorem rcrash_does (h : RefM w S b d) (hg : d.Good) (hs : d.ops < 1000000) {ok : Nat → Prop} {p1 : Option Addr} {choice : List Int} {l1 : Nat} (hx : Ints .u8 w ok p1 choice) (hl : l1 = choice.length) (c1 : Nat) :
    Does Try.prog 33 #[.pointer (some ⟨b, 0, none⟩), .slice p1 l1 c1] w fun e w' => ∃ b', e = .returned (.pointer (some ⟨b', 0, none⟩)) ∧ RefM w' (fun g => w.heap.size ≤ g) b' (d.crash choice) ∧ Ext w w' := by
  subst hl
  have hmin := hg.min
  have hmax := hg.max
  have hll := hg.len
  have hops := hg.ops
  obtain ⟨ps, cs, pn, cn, pw, cw, po, co, vn, vs, vw, A⟩ := h.lt
  have lo : ∀ {g}, (S g ∧ g < w.heap.size) → g < w.heap.size := fun h => h.2
  refine f33_does _ _ _ _ ⟨b, 0, rfl, _, _, _, A.blk.cell 1 rfl, rnew_does (fun hb => absurd ⟨by omega, by omega⟩ hb) fun _ _ bx w19 M19 x19 => ⟨_, _, rfl, ?_⟩⟩
  rw [Int.toNat_natCast] at M19
  obtain ⟨psx, csx, pnx, cnx, pwx, cwx, pox, cox, vnx, vsx, vwx, AX⟩ := M19
  have X0 := AX.x (base := w.heap.size) (q := fun _ => 0) fun g _ hg => hg
  have s19 := x19.size
  generalize hn : d.now.length = n at *
  refine ⟨fun x m wl => ∃ (k : Nat) (vn' : List Value) (q : Nat → Nat), x = k ∧ k ≤ n ∧ m = n - k ∧ XAt wl w.heap.size w19.heap.size bx n psx csx pnx cnx pwx cwx pox cox vn' vsx vwx (d.lasts.take k) q ∧ Ext w wl, ⟨_, 0, vnx, _, rfl, Nat.zero_le _, rfl, by rw [List.take_zero]; exact X0, x19⟩, ?_⟩
  rintro x m wl ⟨k, vn', q, rfl, hk, rfl, X, hu⟩
  have Al := A.upd hu fun _ _ _ => id
  refine ⟨b, 0, rfl, _, _, _, by have := Al.blk.cell 1 rfl; rw [hn] at this; exact this, brr (fun hc wd xd => ?_) fun hc => ?_⟩
  · have hc : k < n := by have := of_decide_eq_true hc; omega
    have hcl : k < d.lasts.length := by omega
    have xd := xd.ext
    have Ad := Al.upd xd fun _ _ _ => id
    have Xd := X.ext xd
    obtain ⟨qs, cc, hv, hp, I⟩ := Ad.vs.2 k hcl
    obtain ⟨g, o, hps, _, _, hcell⟩ := Ad.sure.can (j := k) (by rw [Ad.vs.1]; exact hcl)
    have cell0 := Ad.blk.cell 0 rfl
    rw [hn] at cell0
    refine ⟨fun w => w.cell? ⟨bx, 1, none⟩ = some (.slice pnx n cnx), Xd.blk.cell 1 rfl, bx, 0, rfl, _, _, _, fun _ h => h, b, 0, rfl, _, _, _, cell0, ⟨by omega, by omega⟩, g, o, hps, qs, 256, cc, by rw [Int.toNat_natCast]; exact hcell _ hv, cp_does I hp cc fun q' c' w' I' O' x' => ?_⟩
    have X' := Xd.ext x'
    have sd := xd.size
    have su := hu.size
    have hRo := O'.row
    obtain ⟨gq, oq, hq, hgq, _⟩ := hRo.can (j := 0) (by rw [List.length_map, hp.1]; decide)
    subst hq
    have hgq : wd.heap.size ≤ gq := hgq
    have hRo' : Row w' (fun z => z = gq) 1 (some ⟨gq, oq, none⟩) 256 c' (d.lasts[k].map (Value.int .u8)) := by
      obtain ⟨k1, k2, k3, ⟨e, _⟩ | ⟨g', o', e, h6⟩⟩ := hRo
      · cases e
      · injection e with e; injection e with e1 e2; subst e1; subst e2
        exact ⟨k1, k2, k3, .inr ⟨_, _, rfl, rfl, h6.2⟩⟩
    have tl : (d.lasts.take k).length = k := by rw [List.length_take]; omega
    have hn0 := X.hn0
    obtain ⟨gn, on, hpn, hcan, hset⟩ := X'.push (by rw [tl]; exact hc) hp (g := gq) (by omega) hRo' fun i hi e => by
      obtain ⟨_, _, o3, c3, _, h4⟩ := X.pages i hi
      have := (h4.lt rfl).2
      simp only at this; omega
    rw [tl] at hcan hset
    refine ⟨_, 256, c', rfl, X'.blk.cell 1 rfl, ⟨by omega, by omega⟩, gn, on, hpn, by rw [Int.toNat_natCast]; exact hcan, fun ws s => ?_⟩
    rw [Int.toNat_natCast] at s
    obtain ⟨Xs, us⟩ := hset ws s
    rw [← List.take_succ_eq_append_getElem hcl] at Xs
    exact ⟨inI64 (by omega) (by omega), n - (k + 1), by omega, k + 1, _, _, by omega, hc, rfl, Xs, Upd.then (hu.thn (xd.thn x')) us fun z hz e => by omega⟩
  have hc : k = n := by have := of_decide_eq_false hc; omega
  subst hc
  have et : d.lasts.take k = d.lasts := List.take_of_length_le (by omega)
  rw [et] at X
  have hTp : ∀ j, ∀ p ∈ tears choice 0 (d.writes.take j) d.lasts, Pg p := fun j => tears_pg _ _ _ _ hg.lasts fun x hx => by rw [hll, ← hn] at *; exact hg.writes x (List.mem_of_mem_take hx)
  have hTl : ∀ j, (tears choice 0 (d.writes.take j) d.lasts).length = k := fun j => by rw [tears_len, hll]
  refine ⟨fun x m wl7 => ∃ i : Nat, x = i ∧ i ≤ d.writes.length ∧ m = d.writes.length - i ∧ XAt wl7 w.heap.size w19.heap.size bx k psx csx pnx cnx pwx cwx pox cox vn' vsx vwx (tears choice 0 (d.writes.take i) d.lasts) q ∧ Ext w wl7, ⟨_, 0, rfl, Nat.zero_le _, rfl, X, hu⟩, ?_⟩
  rintro x m wl7 ⟨i, rfl, hi, rfl, X7, hu7⟩
  have A7 := A.upd hu7 fun _ _ _ => id
  refine ⟨b, 0, rfl, _, _, _, A7.blk.cell 2 rfl, brr (fun hc => ?_) fun hc => ?_⟩
  · have hc : i < d.writes.length := by have := of_decide_eq_true hc; omega
    obtain ⟨qB, cB, hv1, hv2, hpB, IB⟩ := A7.vw.2 i hc
    obtain ⟨g, o, hpw, _, _, hcell⟩ := A7.since.can (j := i * 2) (by rw [A7.vw.1]; omega)
    obtain ⟨g', o', hpw', _, _, hcell'⟩ := A7.since.can (j := i * 2 + 1) (by rw [A7.vw.1]; omega)
    rw [hpw] at hpw'
    injection hpw' with e; injection e with e1 e2; subst e1; subst e2
    have hx1 := (hg.writes _ (List.getElem_mem hc)).1
    have hx1' : (d.writes[i]).1 < k := by have := hx1; omega
    refine brr (fun hd => ?_) fun hd => ?_
    · have hd : i < choice.length := by have := of_decide_eq_true hd; omega
      obtain ⟨gc, oc, hp1, hcc⟩ := (hx.ext hu7).at i hd
      refine ⟨⟨by omega, by omega⟩, gc, oc, hp1, choice[i], by rw [Int.toNat_natCast]; exact hcc, ?_⟩
      have hD : choice.getD i 15 = choice[i] := getD_at _ hd
      refine ⟨b, 0, rfl, _, _, _, A7.blk.cell 2 rfl, ⟨by omega, by omega⟩, g, o, hpw, ((d.writes[i]).1 : Int), by rw [Int.toNat_natCast]; exact hcell _ hv1, qB, 256, cB, by rw [Int.toNat_natCast, Nat.add_assoc]; exact hcell' _ hv2, fun b10 w10 N10 => ?_⟩
      have hb10 : b10 = wl7.heap.size := N10.eq
      refine N10.blk.st (j := 0) (by simp) fun w1 B1 u1 => B1.st (j := 1) (by simp) fun w2 B2 u2 => ?_
      have x2 : Ext wl7 w2 := Upd.then N10.ext (Upd.trans u1 u2) fun z hz e => by omega
      refine rtear_loop choice[i] (X7.ext x2) (by rw [hTl]; exact hx1') hpB (by omega) (Ints.ext (Ints.ok IB fun z _ hz => hz.1.2) x2) (by have := hu7.size; omega) (fun j hj e => by
        obtain ⟨_, _, o3, c3, _, h4⟩ := X7.pages j hj
        have := (h4.lt rfl).2
        simp only at this; omega) (B2.cell 0 rfl) (B2.cell 1 rfl) fun w' X' u' => ⟨inI64 (by omega) (by omega), d.writes.length - (i + 1), by omega, i + 1, by omega, hc, rfl, ?_, Upd.then (hu7.thn x2) u' fun z hz e => by omega⟩
      have e := tears_step choice (d.writes.take i) 0 d.lasts d.writes[i]
      rw [← List.take_succ_eq_append_getElem hc, Nat.zero_add, List.length_take, Nat.min_eq_left (Nat.le_of_lt hc)] at e
      rw [e, hD]
      exact X'
    · have hd : choice.length ≤ i := by have := of_decide_eq_false hd; omega
      have hD : choice.getD i 15 = 15 := by rw [List.getD_eq_getElem?_getD, List.getElem?_eq_none hd]; rfl
      refine ⟨b, 0, rfl, _, _, _, A7.blk.cell 2 rfl, ⟨by omega, by omega⟩, g, o, hpw, ((d.writes[i]).1 : Int), by rw [Int.toNat_natCast]; exact hcell _ hv1, qB, 256, cB, by rw [Int.toNat_natCast, Nat.add_assoc]; exact hcell' _ hv2, fun b10 w10 N10 => ?_⟩
      have hb10 : b10 = wl7.heap.size := N10.eq
      refine N10.blk.st (j := 0) (by simp) fun w1 B1 u1 => B1.st (j := 1) (by simp) fun w2 B2 u2 => ?_
      have x2 : Ext wl7 w2 := Upd.then N10.ext (Upd.trans u1 u2) fun z hz e => by omega
      refine rtear_loop 15 (X7.ext x2) (by rw [hTl]; exact hx1') hpB (by omega) (Ints.ext (Ints.ok IB fun z _ hz => hz.1.2) x2) (by have := hu7.size; omega) (fun j hj e => by
        obtain ⟨_, _, o3, c3, _, h4⟩ := X7.pages j hj
        have := (h4.lt rfl).2
        simp only at this; omega) (B2.cell 0 rfl) (B2.cell 1 rfl) fun w' X' u' => ⟨inI64 (by omega) (by omega), d.writes.length - (i + 1), by omega, i + 1, by omega, hc, rfl, ?_, Upd.then (hu7.thn x2) u' fun z hz e => by omega⟩
      have e := tears_step choice (d.writes.take i) 0 d.lasts d.writes[i]
      rw [← List.take_succ_eq_append_getElem hc, Nat.zero_add, List.length_take, Nat.min_eq_left (Nat.le_of_lt hc)] at e
      rw [e, hD]
      exact X'
  · have hc : i = d.writes.length := by have := of_decide_eq_false hc; omega
    subst hc
    rw [List.take_length] at X7
    have hTp' := hTp d.writes.length
    have hTl' := hTl d.writes.length
    rw [List.take_length] at hTp' hTl'
    have hcr : d.crash choice = fresh (tears choice 0 d.writes d.lasts) := rfl
    rw [hcr]
    generalize tears choice 0 d.writes d.lasts = T at *
    have AX := X7.ref hTl'
    have s7 := hu7.size
    have hzl : (List.replicate k zeroP).length = T.length := by rw [List.length_replicate, hTl']
    have M0 : RefM wl7 (fun z => w.heap.size ≤ z) bx { fresh T with lasts := T.take 0 ++ (List.replicate k zeroP).drop 0 } := ⟨psx, csx, pnx, cnx, pwx, cwx, pox, cox, vn', vsx, vwx, by simpa using AX⟩
    refine ⟨fun x m wl => ∃ j : Nat, x = j ∧ j ≤ k ∧ m = k - j ∧ RefM wl (fun z => w.heap.size ≤ z) bx { fresh T with lasts := T.take j ++ (List.replicate k zeroP).drop j } ∧ Ext w wl, ⟨_, 0, rfl, Nat.zero_le _, rfl, M0, hu7⟩, ?_⟩
    rintro x m wl ⟨j, rfl, hj, rfl, M, hu9⟩
    obtain ⟨ps3, cs3, pn3, cn3, pw3, cw3, po3, co3, vn3, vs3, vw3, A3⟩ := M.lt
    have hnl : ({ fresh T with lasts := T.take j ++ (List.replicate k zeroP).drop j } : Dev).now.length = k := hTl'
    have cell0 := A3.blk.cell 0 rfl
    have cell1 := A3.blk.cell 1 rfl
    rw [hnl] at cell0 cell1
    refine ⟨bx, 0, rfl, _, _, _, cell1, brr (fun hc wd xd => ?_) fun hc => ?_⟩
    · have hc : j < k := by have := of_decide_eq_true hc; omega
      have xd := xd.ext
      have Ad := A3.upd xd fun _ _ _ => id
      have hcT : j < T.length := by omega
      obtain ⟨q4, c4, hv, hp, I⟩ := Ad.vn.2 j (by rw [hnl]; exact hc)
      obtain ⟨g4, o4, hpn4, _, _, hcell⟩ := Ad.now.can (j := j) (by rw [Ad.vn.1, hnl]; exact hc)
      refine ⟨fun w => w.cell? ⟨bx, 0, none⟩ = some (.slice ps3 k cs3), xd.cell cell0, bx, 0, rfl, _, _, _, fun _ h => h, bx, 0, rfl, _, _, _, xd.cell cell1, ⟨by omega, by omega⟩, g4, o4, hpn4, q4, 256, c4, by rw [Int.toNat_natCast]; exact hcell _ hv, cp_does I hp c4 fun q' c' w' I' _ x' => ?_⟩
      have A' := Ad.upd x' fun _ _ _ => id
      have sd := xd.size
      have s9 := hu9.size
      obtain ⟨g5, o5, hps5, hcan, hset⟩ := A'.setSure (F := fun z => wd.heap.size ≤ z ∧ z < w'.heap.size) (fun z hz hs => by have := hs.2; omega) hp I' (k := j) (by rw [hnl]; exact hc)
      refine ⟨q', 256, c', rfl, x'.cell (xd.cell cell0), ⟨by omega, by omega⟩, g5, o5, hps5, by rw [Int.toNat_natCast]; exact hcan, fun ws s => ?_⟩
      rw [Int.toNat_natCast] at s
      obtain ⟨As, us, hSg⟩ := hset ws s
      refine ⟨inI64 (by omega) (by omega), k - (j + 1), by omega, j + 1, by omega, hc, rfl, ⟨ps3, cs3, pn3, cn3, pw3, cw3, po3, co3, vn3, vs3.set j (.slice q' 256 c'), vw3, ?_⟩, Upd.then (hu9.thn (xd.thn x')) us fun z hz e => by have := hSg.1; omega⟩
      have e := upto_step (a := T) (c := List.replicate k zeroP) hcT hzl
      have As2 := As.mono (S' := fun z => w.heap.size ≤ z) fun z _ hz => by
        rcases hz with hz | hz
        · exact hz.1
        · omega
      have e3 : ({ ({ fresh T with lasts := T.take j ++ (List.replicate k zeroP).drop j } : Dev) with lasts := ({ fresh T with lasts := T.take j ++ (List.replicate k zeroP).drop j } : Dev).lasts.set j (({ fresh T with lasts := T.take j ++ (List.replicate k zeroP).drop j } : Dev).now[j]'(by rw [hnl]; exact hc)) } : Dev) = { fresh T with lasts := T.take (j + 1) ++ (List.replicate k zeroP).drop (j + 1) } := by
        show ({ fresh T with lasts := (T.take j ++ (List.replicate k zeroP).drop j).set j T[j] } : Dev) = _
        rw [e]
      rw [← e3]
      exact As2
    · have hc : j = k := by have := of_decide_eq_false hc; omega
      subst hc
      have e : T.take j ++ (List.replicate j zeroP).drop j = T := by rw [List.take_of_length_le (by omega), List.drop_of_length_le (by rw [List.length_replicate]; exact Nat.le_refl _), List.append_nil]
      rw [e] at M
      exact ⟨_, rfl, M, hu9⟩
end Go.Proofs.Ytiblbjagfiigdaa
