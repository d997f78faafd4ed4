/-
  Devices: what Crash and Load do.
-/
import Derived.Test.YtiblbjagfiigdaaDevCalls3
namespace Go.Proofs.Ytiblbjagfiigdaa
open Go.RowKit Go.Vc
variable {w : World} {S : Nat → Prop} {b : Nat} {d : Dev} {R : Ending → World → Prop}
theorem wr_len {ws : List (Nat × List Int)} (h : ∀ x ∈ ws, Pg x.2) : ∀ v ∈ ws.map wr1, v.length = 257 := fun v hv => by
  obtain ⟨x, hx, rfl⟩ := List.mem_map.1 hv
  simp [wr1, (h x hx).1]
theorem bit_lit {c : Int} {k : Nat} (hk : k < 4) : (bits .and .u8 (c.fdiv (2 ^ (min ((k : Int)).toNat 8))) 1 == 1) = bit c k := by rw [Int.toNat_natCast]; rfl
/-- One write's sectors. -/
theorem tear_loop {base b7 g o cap : Nat} {T : List (List Int)} (c : Int) {x : Nat × List Int} {wx : World} {K : World → Prop} (hT : ∀ p ∈ T, Pg p) (hT8 : T.length ≤ 4096) (hx : x.1 < T.length) (hp : Pg x.2) (hne : b7 ≠ g) (hgb : base ≤ g) (hbb : base ≤ b7)
    (hB : Blk wx b7 (wr1 x)) (hR : Row wx (fun z => z = g) 256 (some ⟨g, o, none⟩) T.length cap (pgs T))
    (hK : ∀ w', Row w' (fun z => z = g) 256 (some ⟨g, o, none⟩) T.length cap (pgs (T.set x.1 (tear c x.2 (T.getD x.1 [])))) → Upd (fun z => base ≤ z) wx w' → K w') :
  (∃ I11 : Int → Nat → World → Prop, (∃ nl11, I11 0 nl11 wx) ∧ ∀ x36 : Int, ∀ (nl11 : Nat) (wl11 : World), I11 x36 nl11 wl11 →
  Br (decide (x36 < 4))
  ((0 : Int) ≤ x36 ∧ Br ((bits .and .u8 (c.fdiv (2 ^ (min (x36).toNat 8))) 1) == 1)
  (∀ wd14, Drew wl11 wd14 →
  ∃ n46 : Int, wd14.cell? ⟨b7, 0, none⟩ = some (.int .i64 n46) ∧ ((0 : Int) ≤ n46 ∧ n46 < (T.length : Int)) ∧ ∃ b47 o47, (some ⟨g, o, none⟩ : Option Addr) = some ⟨b47, o47, none⟩ ∧ InK .i64 (x36 * 64) ∧ InK .i64 (x36 + 1) ∧ InK .i64 ((x36 + 1) * 64) ∧ ((0 : Int) ≤ ((x36 + 1) * 64) ∧ ((x36 + 1) * 64) ≤ (256 : Int)) ∧ ((0 : Int) ≤ (x36 * 64) ∧ (x36 * 64) ≤ ((x36 + 1) * 64)) ∧ InK .i64 (x36 * 64) ∧ ((0 : Int) ≤ (x36 * 64) ∧ (x36 * 64) ≤ (256 : Int)) ∧ ∃ (n58 : Int) (w58 : World), (Builtin.copy_ #[22, 22] 3 #[.slice (subp (some ⟨b47, o47 + (n46).toNat * 256, none⟩) ((x36 * 64).toNat) 256 1) ((((x36 + 1) * 64).toNat) - ((x36 * 64).toNat)) (256 - ((x36 * 64).toNat)), .slice (subp (some ⟨b7, 1, none⟩) ((x36 * 64).toNat) 256 1) (256 - ((x36 * 64).toNat)) (256 - ((x36 * 64).toNat))]).run Try.prog wd14 = .ok (.int .i64 n58) w58 ∧
  InK .i64 (x36 + 1) ∧ ∃ ml11, ml11 < nl11 ∧ I11 (x36 + 1) ml11 w58)
  (InK .i64 (x36 + 1) ∧ ∃ ml11, ml11 < nl11 ∧ I11 (x36 + 1) ml11 wl11))
  (K wl11)) := by
  have ha := hT _ (List.getElem_mem hx)
  refine ⟨fun y n wl => ∃ i : Nat, y = i ∧ i ≤ 4 ∧ n = 4 - i ∧ Blk wl b7 (wr1 x) ∧ Row wl (fun z => z = g) 256 (some ⟨g, o, none⟩) T.length cap (pgs (T.set x.1 (tearTo c i x.2 T[x.1]))) ∧ Upd (fun z => base ≤ z) wx wl, ⟨_, 0, rfl, by omega, rfl, hB, ?_, Upd.refl _ _⟩, ?_⟩
  · rw [tearTo_zero ha.1, List.set_getElem_self]; exact hR
  rintro y n wl ⟨i, rfl, hi, rfl, hB, hR, hu⟩
  refine brr (fun hc => ⟨by omega, brr (fun hb wd xd => ?_) fun hb => ?_⟩) fun hc => ?_
  · have hc : i < 4 := by have := of_decide_eq_true hc; omega
    rw [bit_lit hc] at hb
    have B := hB.ext xd.ext
    have R' := hR.ext xd.ext
    have hTs : ∀ p ∈ T.set x.1 (tearTo c i x.2 T[x.1]), Pg p := fun p hp' => by
      rcases List.mem_or_eq_of_mem_set hp' with h | h
      · exact hT p h
      · subst h; exact tearTo_pg ha hp
    have e1 : ((i : Int) * 64).toNat = i * 64 := by omega
    have e2 : (((i : Int) + 1) * 64).toNat = i * 64 + 64 := by omega
    have hlenT : (pgs (T.set x.1 (tearTo c i x.2 T[x.1]))).length = T.length * 256 := by unfold pgs; rw [List.length_map, pgs_len hTs, List.length_set]
    have hs : ∀ p q : Nat, subp (some ⟨p, q, none⟩) (i * 64) 256 1 = some ⟨p, q + i * 64, none⟩ := fun p q => by
      unfold subp; rw [if_neg (by omega)]; simp [add_plain']
    have hsl : (x.2.drop (i * 64)).length = 256 - i * 64 := by rw [List.length_drop, hp.1]
    have hmn : Nat.min (x.2.drop (i * 64)).length 64 = 64 := by rw [hsl]; simp only [Nat.min_def]; split <;> omega
    have hsrc : Ints .u8 wd (fun z => z = b7) (some ⟨b7, 1 + i * 64, none⟩) (x.2.drop (i * 64)) := fun j hj => by
      rw [hsl] at hj
      refine ⟨b7, _, rfl, rfl, ?_, hp.2 _ (List.mem_of_mem_drop (List.getElem_mem _))⟩
      rw [Nat.mul_one, List.getElem_drop]
      refine B.cell _ ?_
      rw [show 1 + i * 64 + j = (i * 64 + j) + 1 by omega]
      simp only [wr1, List.getElem?_cons_succ, List.getElem?_map]
      rw [List.getElem?_eq_getElem (by rw [hp.1]; omega)]; rfl
    have hcan : ∀ j, j < Nat.min (x.2.drop (i * 64)).length 64 → CanStore wd g (o + x.1 * 256 + i * 64 + j) := fun j hj => by
      rw [hmn] at hj
      obtain ⟨g', o', e, _, hc, _⟩ := R'.can (j := x.1 * 256 + i * 64 + j) (by omega)
      injection e with e; injection e with e1 e2; subst e1; subst e2
      rw [show o + x.1 * 256 + i * 64 + j = o + (x.1 * 256 + i * 64 + j) by omega]; exact hc
    have hcp := copy_run (P := Try.prog) (dT := 22) (sT := 22) (ty := 3) (elem := 5) Try.underlying22 rfl hsrc (g := g) (o := o + x.1 * 256 + i * 64) (dl := 64) (m := 256 - i * 64) (256 - i * 64) (256 - i * 64) hsl.symm hcan (by rw [hmn]; decide)
    rw [hmn] at hcp
    have hwr : wd.cell? ⟨b7, 0, none⟩ = some (.int .i64 x.1) := B.cell 0 rfl
    refine ⟨_, hwr, ⟨by omega, by omega⟩, g, o, rfl, inI64 (by omega) (by omega), inI64 (by omega) (by omega), inI64 (by omega) (by omega), ⟨by omega, by omega⟩, ⟨by omega, by omega⟩, inI64 (by omega) (by omega), ⟨by omega, by omega⟩, (64 : Int), wd.setCells g (o + x.1 * 256 + i * 64) (((x.2.drop (i * 64)).take 64).map (Value.int .u8)), ?_, inI64 (by omega) (by omega), 4 - (i + 1), by omega, i + 1, by omega, by omega, rfl, ?_, ?_, ?_⟩
    · rw [e1, e2, Int.toNat_natCast, hs, hs, show i * 64 + 64 - i * 64 = 64 by omega]; exact hcp
    · refine B.upd (setCells_upd _ _ _ _) hne
    · have hl64 : (((x.2.drop (i * 64)).take 64).map (Value.int .u8)).length = 64 := by rw [List.length_map, List.length_take, hsl]; omega
      have := setCells_row R' (j := x.1 * 256 + i * 64) (vs := ((x.2.drop (i * 64)).take 64).map (Value.int .u8)) (by rw [hl64, hlenT]; have := hx; omega)
      have e : over (pgs (T.set x.1 (tearTo c i x.2 T[x.1]))) (x.1 * 256 + i * 64) (((x.2.drop (i * 64)).take 64).map (Value.int .u8)) = pgs (T.set x.1 (tearTo c (i + 1) x.2 T[x.1])) := by
        unfold pgs
        rw [← over_map, flat_part hTs (i := x.1) (by rw [List.length_set]; exact hx) (by rw [List.length_map] at hl64; rw [hl64]; omega), List.getElem_set_self, List.set_set, tearTo_yes hc hp.1 hb]
      rw [e, ← Nat.add_assoc] at this
      exact this
    · exact Upd.trans (Upd.trans hu (xd.ext.mono fun _ _ e => e.elim)) ((setCells_upd _ _ _ _).mono fun z _ e => by omega)
  · have hc : i < 4 := by have := of_decide_eq_true hc; omega
    rw [bit_lit hc] at hb
    refine ⟨inI64 (by omega) (by omega), 4 - (i + 1), by omega, i + 1, by omega, by omega, rfl, hB, ?_, hu⟩
    rw [tearTo_no hb]; exact hR
  · have hc : i = 4 := by have := of_decide_eq_false hc; omega
    subst hc
    refine hK wl ?_ hu
    rw [getD_at _ hx, ← tearTo_four]; exact hR
/-- Crash. -/
theorem crash_does (h : DevM w S b d) (hs : d.ops < 1000000) {ok : Nat → Prop} {p1 : Option Addr} {choice : List Int} {l1 : Nat} (hx : Ints .u8 w ok p1 choice) (hl : l1 = choice.length) (c1 : Nat) :
    Does Try.prog 20 #[.pointer (some ⟨b, 0, none⟩), .slice p1 l1 c1] w fun e w' => ∃ b', e = .returned (.pointer (some ⟨b', 0, none⟩)) ∧ DevM w' (fun g => w.heap.size ≤ g) b' (d.crash choice) ∧ Ext w w' := by
  subst hl
  refine f20_does _ _ _ _ (made_does h ⟨true, rfl, fls rfl ?_⟩)
  obtain ⟨hg, pl, cl, pn, cn, pw, cw, po, co, f, A⟩ := id h
  have hmax := hg.max
  have hmin := hg.min
  have hops := hg.ops
  have hll := hg.len
  obtain ⟨p17, c17, w17, hr17, R17, x17⟩ := copy_row slBlk 62 (blk_src A.la cl) (by simp only [maxLen]; omega) (by omega)
  have hpl : (pgs d.lasts).length = d.now.length * 256 := by unfold pgs; rw [List.length_map, pgs_len hg.lasts, hll]
  obtain ⟨g, o, rfl, hgw, _⟩ := R17.can (j := 0) (by rw [hpl]; omega)
  have hgl := (R17.lt rfl).2
  simp only at hgl
  refine ⟨b, 0, rfl, _, _, _, A.blk.cell 0 rfl, some ⟨g, o, none⟩, _, c17, w17, hr17, b, 0, rfl, pw, d.writes.length, cw, (A.blk.ext x17).cell 2 rfl,
    fun x n wl => ∃ k : Nat, x = k ∧ k ≤ d.writes.length ∧ n = d.writes.length - k ∧ Row wl (fun z => z = g) 256 (some ⟨g, o, none⟩) d.now.length c17 (pgs (tears choice 0 (d.writes.take k) d.lasts)) ∧ Ext w wl,
    ⟨_, 0, rfl, Nat.zero_le _, rfl, R17.ok fun z _ e => by omega, x17⟩, ?_⟩
  rintro x n wl ⟨k, rfl, hk, rfl, hR, hu⟩
  have hTp : ∀ j, ∀ p ∈ tears choice 0 (d.writes.take j) d.lasts, Pg p := fun j => tears_pg _ _ _ _ hg.lasts fun x hx => by rw [hll]; exact hg.writes x (List.mem_of_mem_take hx)
  have hTl : ∀ j, (tears choice 0 (d.writes.take j) d.lasts).length = d.now.length := fun j => by rw [tears_len, hll]
  refine brr (fun hc => ?_) fun hc => ?_
  · have hc : k < d.writes.length := by have := of_decide_eq_true hc; omega
    have W := A.wr.upd hu fun _ _ => id
    have hwl : (wrs d.writes).length = d.writes.length * 257 := A.wr.1
    obtain ⟨gw, ow, hpw, _⟩ := A.wr.can (j := k * 257) (by omega)
    have hx1 := hg.writes _ (List.getElem_mem hc)
    have hlen1 : (wr1 d.writes[k]).length = 257 := by simp [wr1, hx1.2.1]
    refine ⟨⟨by omega, by omega⟩, gw, ow, hpw, wr1 d.writes[k], hlen1, fun j u hj => ?_, fun b7 w7 N7 => ?_⟩
    · have hj' := (List.getElem?_eq_some_iff.1 hj).1
      have hat := flatten_at (sz := 257) (vss := d.writes.map wr1) (i := k) (wr_len fun x hx => (hg.writes x hx).2) (by rw [List.getElem?_map, List.getElem?_eq_getElem hc]; rfl) j u hj
      obtain ⟨g2, o2, e2, _, _, hcell⟩ := W.can (j := k * 257 + j) (by rw [hwl]; omega)
      rw [hpw] at e2
      injection e2 with e2; injection e2 with e3 e4; subst e3; subst e4
      have := hcell u hat
      rw [Int.toNat_natCast, Nat.add_assoc]; exact this
    rw [show decide ((wr1 d.writes[k]).length = 257) = true from decide_eq_true hlen1]
    show storeL b7 0 (wr1 d.writes[k]) w7 _
    have hb7 : b7 = wl.heap.size := N7.eq
    have husz := hu.size
    have h17 := x17.size
    have hgl2 := (hR.lt rfl).2
    simp only at hgl2
    refine N7.blk.setL (j := 0) _ (by rw [len257, hlen1]; decide) (fun v hv => ?_) fun wx Bx ux => ?_
    · simp only [wr1, List.mem_cons] at hv
      rcases hv with rfl | hv
      · rfl
      · exact ints_one _ _ v hv
    rw [over_all (by rw [len257, hlen1])] at Bx
    have xw : Ext wl wx := Upd.then N7.ext ux fun z hz e => by omega
    have R' := (hR.ext xw)
    have step : ∀ (c : Int), c = choice.getD k 15 → 
        ∀ w' : World, Row w' (fun z => z = g) 256 (some ⟨g, o, none⟩) (tears choice 0 (d.writes.take k) d.lasts).length c17 (pgs ((tears choice 0 (d.writes.take k) d.lasts).set (d.writes[k]).1 (tear c (d.writes[k]).2 ((tears choice 0 (d.writes.take k) d.lasts).getD (d.writes[k]).1 [])))) → Upd (fun z => w.heap.size ≤ z) wx w' →
          Row w' (fun z => z = g) 256 (some ⟨g, o, none⟩) d.now.length c17 (pgs (tears choice 0 (d.writes.take (k + 1)) d.lasts)) ∧ Ext w w' := by
      intro c hcc w' hR' hu'
      refine ⟨?_, Upd.then (hu.thn xw) hu' fun z hz e => by omega⟩
      rw [List.take_succ_eq_append_getElem hc, tears_step, Nat.zero_add, List.length_take, Nat.min_eq_left (by omega), ← hcc, ← hTl k]; exact hR'
    have loop := fun (c : Int) (K : World → Prop) => tear_loop (base := w.heap.size) (b7 := b7) (g := g) (o := o) (cap := c17) (T := tears choice 0 (d.writes.take k) d.lasts) c (x := d.writes[k]) (wx := wx) (K := K) (hTp k) (by rw [hTl]; exact hmax) (by rw [hTl]; exact hx1.1) hx1.2 (by omega) (by omega) (by omega) Bx (by rw [hTl]; exact R')
    simp only [hTl] at loop step
    refine brr (fun hd => ?_) fun hd => ?_
    · have hd : k < choice.length := by have := of_decide_eq_true hd; omega
      obtain ⟨gc, oc, hp1, hcc⟩ := (hx.ext (hu.thn xw)).at k hd
      refine ⟨⟨by omega, by omega⟩, gc, oc, hp1, choice[k], by rw [Int.toNat_natCast]; exact hcc, ?_⟩
      exact loop choice[k] _ fun w' hR hu => ⟨inI64 (by omega) (by omega), d.writes.length - (k + 1), by omega, k + 1, by omega, hc, rfl, step choice[k] (by rw [getD_at _ hd]) w' hR hu⟩
    · have hd : choice.length ≤ k := by have := of_decide_eq_false hd; omega
      exact loop 15 _ fun w' hR hu => ⟨inI64 (by omega) (by omega), d.writes.length - (k + 1), by omega, k + 1, by omega, hc, rfl, step 15 (by rw [List.getD_eq_getElem?_getD, List.getElem?_eq_none hd]; rfl) w' hR hu⟩
  · have hc : k = d.writes.length := by have := of_decide_eq_false hc; omega
    subst hc
    have husz := hu.size
    have h17 := x17.size
    refine Does.imp (madeof_does (base := w.heap.size) (l := tears choice 0 (d.writes.take d.writes.length) d.lasts) husz (hR.ok fun z _ e => by omega) (hTp _) (by rw [hTl]; omega) (by rw [hTl]; omega)) ?_
    rintro e w' ⟨b', rfl, hm, hx'⟩
    refine ⟨_, rfl, b', rfl, ?_, hu.thn hx'⟩
    rw [List.take_length] at hm
    exact hm
end Go.Proofs.Ytiblbjagfiigdaa
