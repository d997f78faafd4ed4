/-
  Devices: what Image, made, New, Clone do.
-/
import Derived.Test.YtiblbjagfiigdaaDevCalls2
namespace Go.Proofs.Ytiblbjagfiigdaa
open Go.RowKit Go.Vc
variable {w : World} {S : Nat → Prop} {b : Nat} {d : Dev} {R : Ending → World → Prop}
theorem flat_take {ps : List (List Int)} {k : Nat} (hk : k < ps.length) : (ps.take (k + 1)).flatten = (ps.take k).flatten ++ ps[k] := by
  rw [List.take_succ_eq_append_getElem hk, List.flatten_append]; simp
theorem pg_take {ps : List (List Int)} (h : ∀ p ∈ ps, Pg p) (k : Nat) : ∀ p ∈ ps.take k, Pg p := fun p hp => h p (List.mem_of_mem_take hp)
/-- Image. -/
theorem image_does (h : DevM w S b d) :
    Does Try.prog 19 #[.pointer (some ⟨b, 0, none⟩)] w fun e w' => ∃ p c, e = .returned (.slice p d.image.length c) ∧ Own w' w.heap.size 5 1 p d.image.length c (d.image.map (Value.int .u8)) ∧ Ext w w' := by
  refine f19_does _ (made_does h ⟨true, rfl, fls rfl ?_⟩)
  obtain ⟨hg, pl, cl, pn, cn, pw, cw, po, co, f, A⟩ := id h
  have hmax := hg.max
  refine ⟨b, 0, rfl, _, _, _, A.blk.cell 1 rfl, fun p3 l3 c3 x n wl => ∃ k : Nat, x = k ∧ k ≤ d.now.length ∧ n = d.now.length - k ∧ l3 = (d.now.take k).flatten.length ∧ Own wl w.heap.size 5 1 p3 l3 c3 ((d.now.take k).flatten.map (Value.int .u8)) ∧ Ext w wl,
    ⟨_, 0, rfl, Nat.zero_le _, rfl, rfl, own_nil _ _ _ _, Upd.refl _ _⟩, ?_⟩
  rintro p3 l3 c3 x n wl ⟨k, rfl, hk, rfl, rfl, ho, hx⟩
  have A' := A.upd hx fun _ _ _ => id
  have hlen := pgs_len (pg_take hg.now k)
  rw [List.length_take, Nat.min_eq_left hk] at hlen
  refine brr (fun hc => ?_) fun hc => ?_
  · have hc : k < d.now.length := by have := of_decide_eq_true hc; omega
    have hpg := hg.now _ (List.getElem_mem hc)
    have hpl : (pgs d.now).length = d.now.length * 256 := by unfold pgs; rw [List.length_map, pgs_len hg.now]
    obtain ⟨gn, on, hpn, hgn, _⟩ := A'.now.can (j := k * 256) (by omega)
    subst hpn
    have P := row_page A'.now hg.now hc
    obtain ⟨p', c', w', hr, ho', hu⟩ := append_b ho P (l2 := 256) hpg.1.symm 256 (by rw [hlen, hpg.1]; omega) hx.size
    have e : (d.now.take k).flatten.length + (d.now[k]).length = (d.now.take (k + 1)).flatten.length := by rw [flat_take hc, List.length_append]
    rw [e] at hr ho'
    rw [← flat_take hc] at ho'
    refine ⟨b, 0, rfl, _, _, _, A'.blk.cell 1 rfl, ⟨by omega, by omega⟩, gn, on, rfl, p', _, c', w', ?_, inI64 (by omega) (by omega), d.now.length - (k + 1), by omega, k + 1, by omega, hc, rfl, rfl, ho', ho.ext_of hu hx (Nat.le_refl _)⟩
    rw [Int.toNat_natCast, subp0]; exact hr
  · have hc : k = d.now.length := by have := of_decide_eq_false hc; omega
    subst hc
    rw [List.take_length] at ho ⊢
    exact ⟨p3, c3, rfl, ho, hx⟩
/-- A device of given pages. -/
theorem madeof_does {base : Nat} (hbase : base ≤ w.heap.size) {p : Option Addr} {n c : Nat} {l : List (List Int)} (hr : Row w (fun g => base ≤ g) 256 p n c (pgs l)) (hl : ∀ q ∈ l, Pg q) (h8 : 8 ≤ l.length) (hm : l.length ≤ 4096) :
    Does Try.prog 35 #[.slice p n c] w fun e w' => ∃ b', e = .returned (.pointer (some ⟨b', 0, none⟩)) ∧ DevM w' (fun g => base ≤ g) b' (fresh l) ∧ Ext w w' := by
  have hn : n = l.length := by
    have := hr.1
    unfold pgs at this; rw [List.length_map, pgs_len hl] at this; omega
  subst hn
  obtain ⟨p5, c5, w5, hr5, R5, x5⟩ := copy_row slBlk 62 (blk_src hr c) (by simp only [maxLen]; omega) (by omega)
  refine f35_does _ _ _ ⟨p5, _, c5, w5, hr5, fun b7 w7 N7 => ⟨b7, rfl, ⟨fresh_good h8 hm hl, p, c, p5, c5, none, 0, none, 0, -1, ?_⟩, x5.thn N7.ext⟩⟩
  have hb7 : b7 = w5.heap.size := N7.eq
  have hs5 := x5.size
  have hlp : (pgs l).length = l.length * 256 := by unfold pgs; rw [List.length_map, pgs_len hl]
  have H5 := (hr.ext x5).ext N7.ext
  obtain ⟨g5, o5, rfl, h5, _⟩ := R5.can (j := 0) (by rw [hlp]; omega)
  obtain ⟨g, o, rfl, hg, _⟩ := hr.can (j := 0) (by rw [hlp]; omega)
  have hgl := (hr.lt rfl).2
  have hgl5 := (R5.lt rfl).2
  simp only at hgl hgl5 h5
  refine ⟨rfl, inI64 (by decide) (by decide), by omega, Nat.le_refl _, N7.blk, ?_, Row.nil _ _ _, ?_, RS.nil⟩
  · have R7 := R5.ext N7.ext
    obtain ⟨k1, k2, k3, ⟨e, _⟩ | ⟨g', o', e, h6⟩⟩ := R7
    · cases e
    · injection e with e; injection e with e1 e2; subst e1; subst e2
      exact ⟨k1, k2, k3, .inr ⟨_, _, rfl, ⟨by omega, by omega⟩, h6.2⟩⟩
  · obtain ⟨k1, k2, k3, ⟨e, _⟩ | ⟨g', o', e, h6⟩⟩ := H5
    · cases e
    · injection e with e; injection e with e1 e2; subst e1; subst e2
      refine ⟨k1, k2, k3, .inr ⟨_, _, rfl, ⟨hg, by omega, fun a ha e => ?_, fun a ha => by cases ha⟩, h6.2⟩⟩
      injection ha with ha; subst ha; simp only at e; omega
theorem zerosL_pgs (n : Nat) : zerosL (.agg (List.replicate 256 (.int .u8 0) : List Value).toArray) n = pgs (List.replicate n (List.replicate 256 0)) := by
  unfold zerosL pgs
  rw [List.map_flatten, List.map_replicate, List.map_replicate]
  rfl
theorem pg_zero : Pg (List.replicate 256 0) := ⟨List.length_replicate, fun x hx => by rw [(List.mem_replicate.1 hx).2]; exact ⟨by decide, by decide⟩⟩
/-- New. -/
theorem new_does {base : Nat} (hbase : base ≤ w.heap.size) {n : Int} (hbad : ¬ (8 ≤ n ∧ n ≤ 4096) → R (.returned (.tuple #[.pointer none, .int .i64 1])) w)
    (hgood : 8 ≤ n → n ≤ 4096 → ∀ b' w', DevM w' (fun g => base ≤ g) b' (Dev.new n.toNat) → Ext w w' → R (.returned (.tuple #[.pointer (some ⟨b', 0, none⟩), .int .i64 0])) w') : Does Try.prog 10 #[.int .i64 n] w R := by
  refine f10_does _ (brr (fun h => hbad fun ⟨h1, h2⟩ => by have := of_decide_eq_true h; omega) fun h1 => brr (fun h => hbad fun ⟨h1, h2⟩ => by have := of_decide_eq_true h; omega) fun h2 => ?_)
  have h1 : 8 ≤ n := by have := of_decide_eq_false h1; omega
  have h2 : n ≤ 4096 := by have := of_decide_eq_false h2; omega
  refine ⟨⟨by omega, Int.le_refl _, by omega, by omega⟩, fun b11 w11 N11 => ?_⟩
  rw [zerosL_pgs] at N11
  have hpg : ∀ q ∈ List.replicate n.toNat (List.replicate 256 (0 : Int)), Pg q := fun q hq => by rw [(List.mem_replicate.1 hq).2]; exact pg_zero
  have hlen : (pgs (List.replicate n.toNat (List.replicate 256 (0 : Int)))).length = n.toNat * 256 := by unfold pgs; rw [List.length_map, pgs_len hpg, List.length_replicate]
  have R11 := (N11.row (l := n.toNat) (sz := 256) hlen (by simp only [maxLen]; omega)).ok (ok' := fun g => base ≤ g) fun g _ e => by have := N11.eq; omega
  refine Does.imp (madeof_does (by have := N11.size; omega) R11 hpg (by rw [List.length_replicate]; omega) (by rw [List.length_replicate]; omega)) ?_
  rintro e w' ⟨b', rfl, hm, hx⟩
  exact ⟨_, rfl, hgood h1 h2 b' w' hm (N11.ext.thn hx)⟩
theorem wr_src {ok : Nat → Prop} {p : Option Addr} {n c : Nat} {ws : List (Nat × List Int)} (h : Row w ok 257 p n c (wrs ws)) (c' : Nat) : Go.Src Try.prog 257 63 (.slice p n c') n (wrs ws) w := Src.kit h.src Try.underlying63 c' h.1 (by decide) (wrs_one ws)
/-- Clone. -/
theorem clone_does (h : DevM w S b d) (hs : d.ops < 1000000) (hout : d.out.length ≤ 1000000) :
    Does Try.prog 34 #[.pointer (some ⟨b, 0, none⟩)] w fun e w' => ∃ b', e = .returned (.pointer (some ⟨b', 0, none⟩)) ∧ DevM w' (fun g => w.heap.size ≤ g) b' d ∧ Ext w w' := by
  refine f34_does _ (made_does h ⟨true, rfl, fls rfl ?_⟩)
  obtain ⟨hg, pl, cl, pn, cn, pw, cw, po, co, f, A⟩ := id h
  have hmax := hg.max
  have hops := hg.ops
  refine ⟨b, 0, rfl, _, _, _, A.blk.cell 0 rfl, _, _, _, A.blk.cell 1 rfl, _, _, _, A.blk.cell 2 rfl, _, _, _, A.blk.cell 3 rfl, _, A.blk.cell 4 rfl, _, A.blk.cell 5 rfl, _, A.blk.cell 6 rfl, fun b3 w3 N3 => ?_⟩
  have hb3 : b3 = w.heap.size := N3.eq
  refine N3.blk.st (j := 0) (by simp) fun w4 B4 u4 => B4.st (j := 1) (by simp) fun w5 B5 u5 => B5.st (j := 2) (by simp) fun w6 B6 u6 => B6.st (j := 3) (by simp) fun w7 B7 u7 => B7.st (j := 4) (by simp) fun w8 B8 u8 => B8.st (j := 5) (by simp) fun w9 B9 u9 => B9.st (j := 6) (by simp) fun w10 B10 u10 => ?_
  have U10 : Upd (fun z => z = b3) w3 w10 := Upd.trans (Upd.trans (Upd.trans (Upd.trans (Upd.trans (Upd.trans u4 u5) u6) u7) u8) u9) u10
  have x10 : Ext w w10 := Upd.then N3.ext U10 fun g hg e => by omega
  have A10 := A.upd x10 fun _ _ _ => id
  obtain ⟨p14, c14, w14, hr14, R14, x14⟩ := copy_row slBlk 62 (blk_src A10.la cl) (by simp only [maxLen]; omega) (by omega)
  have A14 := A10.upd x14 fun _ _ _ => id
  refine ⟨b, 0, rfl, _, _, _, A10.blk.cell 0 rfl, p14, _, c14, w14, hr14, ?_⟩
  refine (B10.ext x14).st (j := 0) (by simp) fun w15 B15 u15 => ?_
  have x15 : Ext w w15 := Upd.then (x10.thn x14) u15 fun g hg e => by omega
  have A15 := A.upd x15 fun _ _ _ => id
  have R15 := R14.upd u15 fun a ha e => by have := (R14.lt ha).1; have := B10.lt; omega
  obtain ⟨p20, c20, w20, hr20, R20, x20⟩ := copy_row slBlk 62 (blk_src A15.now cn) (by simp only [maxLen]; omega) (by omega)
  refine ⟨b, 0, rfl, _, _, _, A15.blk.cell 1 rfl, p20, _, c20, w20, hr20, ?_⟩
  refine (B15.ext x20).st (j := 1) (by simp) fun w21 B21 u21 => ?_
  have x21 : Ext w w21 := Upd.then (x15.thn x20) u21 fun g hg e => by omega
  have A21 := A.upd x21 fun _ _ _ => id
  have hs15 := B15.lt
  have R21 := R20.upd u21 fun a ha e => by have := (R20.lt ha).1; omega
  have R15' := (R15.ext x20).upd u21 fun a ha e => by have := (R14.lt ha).1; have := B10.lt; omega
  obtain ⟨p26, c26, w26, hr26, R26, x26⟩ := copy_row slWr 63 (wr_src A21.wr cw) (by simp only [maxLen]; omega) (by omega)
  refine ⟨b, 0, rfl, _, _, _, A21.blk.cell 2 rfl, p26, _, c26, w26, hr26, ?_⟩
  refine (B21.ext x26).st (j := 2) (by simp) fun w27 B27 u27 => ?_
  have x27 : Ext w w27 := Upd.then (x21.thn x26) u27 fun g hg e => by omega
  have A27 := A.upd x27 fun _ _ _ => id
  have hs21 := B21.lt
  have R27 := R26.upd u27 fun a ha e => by have := (R26.lt ha).1; omega
  have R21' := (R21.ext x26).upd u27 fun a ha e => by have := (R20.lt ha).1; omega
  have R15'' := (R15'.ext x26).upd u27 fun a ha e => by have := (R14.lt ha).1; have := B10.lt; omega
  obtain ⟨p32, c32, w32, hr32, R32, x32⟩ := copy_row slB 22 (ints_row A27.ou (P := Try.prog) Try.underlying22 co) (by simp only [maxLen]; omega) (by omega)
  refine ⟨b, 0, rfl, _, _, _, A27.blk.cell 3 rfl, p32, _, c32, w32, hr32, ?_⟩
  refine (B27.ext x32).st (j := 3) (by simp) fun w33 B33 u33 => ?_
  have x33 : Ext w w33 := Upd.then (x27.thn x32) u33 fun g hg e => by omega
  have hs27 := B27.lt
  have R33 := R32.upd u33 fun a ha e => by have := (R32.lt ha).1; omega
  have R27' := (R27.ext x32).upd u33 fun a ha e => by have := (R26.lt ha).1; omega
  have R21'' := (R21'.ext x32).upd u33 fun a ha e => by have := (R20.lt ha).1; omega
  have R15''' := (R15''.ext x32).upd u33 fun a ha e => by have := (R14.lt ha).1; have := B10.lt; omega
  obtain ⟨_, O⟩ := R33.ints (A.ou.inK)
  have hz := B10.lt
  have z1 := x14.size
  have z2 := u15.size
  have z3 := x20.size
  have z4 := u21.size
  have z5 := x26.size
  have z6 := u27.size
  have hll := pgs_len hg.lasts
  have hnl := pgs_len hg.now
  have hle := hg.len
  have hmin := hg.min
  have z0 : w10.heap.size < w14.heap.size := by
    obtain ⟨g, o, e, h1, _⟩ := R14.can (j := 0) (by unfold pgs; rw [List.length_map, hll]; omega)
    have := (R14.lt e).2
    simp only at h1 this; omega
  have z7 : w15.heap.size < w20.heap.size := by
    obtain ⟨g, o, e, h1, _⟩ := R20.can (j := 0) (by unfold pgs; rw [List.length_map, hnl]; omega)
    have := (R20.lt e).2
    simp only at h1 this; omega
  have o20 : ∀ a, p20 = some a → a.block = w15.heap.size := fun a ha => (R20.lt ha).1
  have o26 : ∀ a, p26 = some a → a.block = w21.heap.size ∧ a.block < w26.heap.size := fun a ha => R26.lt ha
  refine ⟨b3, rfl, ⟨hg, p14, c14, p20, c20, p26, c26, p32, c32, f, A.fuse, A.fin, by omega, R32.2.1, B33, ?_, ?_, ?_, ?_⟩, x33⟩
  · exact R21''.ok fun g _ e => ⟨by omega, by omega⟩
  · exact R27'.ok fun g _ e => ⟨by omega, by omega, fun a ha e' => by have := o20 a ha; omega⟩
  · exact R15'''.ok fun g _ e => ⟨by omega, by omega, fun a ha e' => by have := o20 a ha; omega, fun a ha e' => by have := o26 a ha; omega⟩
  · exact Ints.ok O fun g _ e => ⟨by omega, by omega, fun a ha e' => by have := o20 a ha; omega, fun a ha e' => by have := o26 a ha; omega⟩
end Go.Proofs.Ytiblbjagfiigdaa
