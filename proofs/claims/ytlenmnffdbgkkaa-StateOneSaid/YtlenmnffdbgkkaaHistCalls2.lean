/-
  Histories: what each function of the code does: reading, loading.
-/
import Derived.Test.YtlenmnffdbgkkaaHistCalls
namespace Go.Proofs.Ytlenmnffdbgkkaa
open Go.RowKit Go.Vc
section
variable {w : World} {A : Nat → Prop} {b : Nat} {ns : List Nd} {cur : Nat}
theorem made_does (h : Hs w A b ns cur) (hn : 0 < ns.length) : Does Try.prog 31 #[.pointer (some ⟨b, 0, none⟩)] w fun e w' => e = .returned (.bool true) ∧ w' = w := by
  apply f31_does
  obtain ⟨p, c, _, h1, _⟩ := h.row
  refine tru rfl ⟨b, 0, rfl, _, _, _, h1, ?_, rfl⟩
  rw [decide_eq_true (by omega)]
theorem there_does (h : Hs w A b ns cur) (hn : 0 < ns.length) (i : Int) : Does Try.prog 54 #[.pointer (some ⟨b, 0, none⟩), .int .i64 i] w fun e w' => e = .returned (.bool (decide (0 ≤ i ∧ i < ns.length))) ∧ w' = w := by
  apply f54_does
  refine (made_does h hn).imp ?_
  rintro e w1 ⟨rfl, rfl⟩
  obtain ⟨p, c, _, h1, _⟩ := h.row
  refine ⟨_, rfl, tru rfl (brr (fun j => ⟨b, 0, rfl, _, _, _, h1, ?_, rfl⟩) fun j => ⟨?_, rfl⟩)⟩
  · have j := of_decide_eq_true j
    congr 3
    exact propext ⟨fun h => ⟨j, h⟩, fun h => h.2⟩
  · have j := of_decide_eq_false j
    rw [decide_eq_false (by omega)]
theorem count_does (h : Hs w A b ns cur) (hn : 0 < ns.length) : Does Try.prog 14 #[.pointer (some ⟨b, 0, none⟩)] w fun e w' => e = .returned (.int .i64 (ns.length : Int)) ∧ w' = w := by
  apply f14_does
  refine (made_does h hn).imp ?_
  rintro e w1 ⟨rfl, rfl⟩
  obtain ⟨p, c, _, h1, _⟩ := h.row
  exact ⟨_, rfl, fls rfl ⟨b, 0, rfl, _, _, _, h1, rfl, rfl⟩⟩
theorem current_does (h : Hs w A b ns cur) (hn : 0 < ns.length) : Does Try.prog 21 #[.pointer (some ⟨b, 0, none⟩)] w fun e w' => e = .returned (.int .i64 (cur : Int)) ∧ w' = w := by
  apply f21_does
  refine (made_does h hn).imp ?_
  rintro e w1 ⟨rfl, rfl⟩
  exact ⟨_, rfl, fls rfl ⟨b, 0, rfl, _, h.at1, rfl, rfl⟩⟩
/-- A node that is told: in new memory. -/
def TellsN (w : World) (n : Nd) (ok : Bool) (e : Ending) (w' : World) : Prop :=
  ∃ p c base, e = .returned (.tuple #[.agg #[.int .i64 n.par, .slice p n.es.length c, .int .i64 n.cur], .bool ok]) ∧ OwnL EditV w' base 58 3 p n.es.length c n.es ∧ w.heap.size ≤ base ∧ Ext w w' ∧ InK .i64 n.par ∧ InK .i64 n.cur
theorem node_does (h : Hs w A b ns cur) (hn : 0 < ns.length) (hm : Mods ns) (i : Int) : Does Try.prog 40 #[.pointer (some ⟨b, 0, none⟩), .int .i64 i] w
    (TellsN w (if 0 ≤ i ∧ i < ns.length then ns.getD i.toNat ⟨0, [], 0⟩ else ⟨0, [], 0⟩) (decide (0 ≤ i ∧ i < ns.length))) := by
  apply f40_does
  intro b4 w4 hb4
  refine (there_does (h.ext hb4.ext) hn i).imp ?_
  rintro e w5 ⟨rfl, rfl⟩
  refine ⟨_, rfl, brr (fun j => fill3 hb4 fun w7 hb7 => ?_) fun j => ?_⟩
  · have j : ¬ (0 ≤ i ∧ i < ns.length) := not_dec j
    rw [if_neg j, decide_eq_false j]
    exact ⟨_, hb7.cell 0 rfl, _, _, _, hb7.cell 1 rfl, _, hb7.cell 2 rfl, none, 0, w7.heap.size, rfl, OwnL.nil _ _ _ _, hb7.ext.size, hb7.ext, by decide, by decide⟩
  · have j : 0 ≤ i ∧ i < ns.length := yes_dec j
    rw [if_pos j, decide_eq_true j]
    obtain ⟨p, c, _, h1, h2⟩ := (h.ext hb4.ext).row
    have hi : i.toNat < ns.length := by omega
    obtain ⟨bb, o, p1, c1, hp, _, a1, a2, a3, i1, i2, i3, a4⟩ := h2.at i.toNat hi
    have hg : ns.getD i.toNat ⟨0, [], 0⟩ = ns[i.toNat] := by rw [List.getD_eq_getElem?_getD, List.getElem?_eq_getElem hi]; rfl
    rw [hg]
    refine ⟨b, 0, rfl, _, _, _, h1, j, bb, o, hp, _, a1, _, _, _, a2, _, a3, fun b6 w6 hb6 => fill3 hb6 fun w8 hb8 => ⟨_, _, _, hb8.cell 1 rfl, (owns_does (a4.ext hb8.ext) rfl _ (hm _ (List.getElem_mem hi))).imp ?_⟩⟩
    rintro e w21 ⟨p21, c21, rfl, o21, x21⟩
    have hne : b4 ≠ b6 := by have := hb6.eq; have := hb4.lt; omega
    have hlt6 : b6 < w8.heap.size := hb8.lt
    refine ⟨_, _, _, rfl, x21.can (hb8.can 1 (by simp)), fun ws hs => ?_⟩
    have u1 := hs.upd
    have hs0 : ws.cell? ⟨b6, 0, none⟩ = _ := (hs.other (.inr (by decide))).trans (x21.cell (hb8.cell 0 rfl))
    have hs1 : ws.cell? ⟨b6, 1, none⟩ = _ := hs.cell (x21.can (hb8.can 1 (by simp)))
    have hs2 : ws.cell? ⟨b6, 2, none⟩ = _ := (hs.other (.inr (by decide))).trans (x21.cell (hb8.cell 2 rfl))
    have c4 : ∀ jj, jj < 3 → CanStore ws b4 jj := fun jj hj => u1.can hne (x21.can (hb8.ext.can (hb4.can jj hj)))
    refine ⟨_, hs0, _, _, _, hs1, _, hs2, c4 0 (by omega), fun v1 s1 => ⟨s1.can (c4 1 (by omega)), fun v2 s2 => ⟨s2.can (s1.can (c4 2 (by omega))), fun v3 s3 => ?_⟩⟩⟩
    have d0 : v3.cell? ⟨b4, 0, none⟩ = _ := (s3.other (.inr (by decide))).trans ((s2.other (.inr (by decide))).trans (s1.cell (c4 0 (by omega))))
    have d1 : v3.cell? ⟨b4, 1, none⟩ = _ := (s3.other (.inr (by decide))).trans (s2.cell (s1.can (c4 1 (by omega))))
    have d2 : v3.cell? ⟨b4, 2, none⟩ = _ := s3.cell (s2.can (s1.can (c4 2 (by omega))))
    have e8 : Ext w w8 := Ext.thn hb4.ext hb8.ext
    have u3 : Upd (fun k => k = b6 ∨ k = b4) w21 v3 := Upd.then (Upd.then (Upd.then (u1.mono fun k _ e => .inl e) s1.upd fun k _ e => .inr e) s2.upd fun k _ e => .inr e) s3.upd fun k _ e => .inr e
    have hb4e := hb4.eq
    have hb6e := hb6.eq
    have e3 : Ext w v3 := Upd.then (Ext.thn e8 x21) u3 fun k hk e => by
      have := hb4.size
      rcases e with rfl | rfl <;> omega
    obtain ⟨vss, oo, oa⟩ := o21
    have o3 : OwnL EditV v3 w8.heap.size 58 3 p21 ns[i.toNat].es.length c21 ns[i.toNat].es := by
      have hlt4 : b4 < w8.heap.size := Nat.lt_of_lt_of_le hb4.lt hb8.ext.size
      refine ⟨vss, Own.upd oo u3 fun a ha e => ?_, oa.imp fun vs x ⟨q1, q2⟩ => ⟨q1, ?_⟩⟩
      · have := (oo.base ha).1
        rcases e with e | e <;> omega
      · refine EditV.widens _ _ _ _ _ (fun k _ hk => ⟨hk.1, Nat.lt_of_lt_of_le hk.2.1 u3.size, hk.2.2⟩) (EditV.stable _ _ _ _ _ _ u3 (fun k hk e => ?_) q2)
        have := hk.1
        rcases e with e | e <;> omega
    exact ⟨_, d0, _, _, _, d1, _, d2, p21, c21, w8.heap.size, rfl, o3, e8.size, e3, i1, i2⟩
theorem nodes_does (h : Hs w A b ns cur) (hn : 0 < ns.length) (hn6 : ns.length ≤ 65536) (hm : Mods ns) : Does Try.prog 20 #[.pointer (some ⟨b, 0, none⟩)] w fun e w' => ∃ p' c', e = .returned (.slice p' ns.length c') ∧ OwnL NodeV w' w.heap.size 63 3 p' ns.length c' ns ∧ Ext w w' := by
  apply f20_does
  refine (count_does h hn).imp ?_
  rintro e w8 ⟨rfl, rfl⟩
  refine ⟨_, rfl, fun p l c i n wl => ∃ k : Nat, i = (k : Int) ∧ n = ns.length - k ∧ k = l ∧ k ≤ ns.length ∧ OwnL NodeV wl w8.heap.size 63 3 p l c (ns.take k) ∧ Ext w8 wl,
    ⟨_, 0, rfl, rfl, rfl, Nat.zero_le _, OwnL.nil _ _ _ _, Upd.refl _ _⟩, ?_⟩
  rintro p3 _ c3 _ _ wl ⟨k, rfl, rfl, rfl, hk, ho, hw⟩
  refine brr (fun j => ?_) fun j => ?_
  · have j := of_decide_eq_true j
    have hlt : k < ns.length := by omega
    refine (node_does (h.ext hw) hn hm k).imp ?_
    rintro e w15 ⟨p15, c15, base, rfl, o15, hbase, x15, i1, i2⟩
    have hc : (0 : Int) ≤ (k : Int) ∧ (k : Int) < ns.length := ⟨by omega, by omega⟩
    have hg : (if (0 : Int) ≤ (k : Int) ∧ (k : Int) < ns.length then ns.getD (k : Int).toNat ⟨0, [], 0⟩ else ⟨0, [], 0⟩) = ns[k] := by rw [if_pos hc, Int.toNat_natCast, List.getD_eq_getElem?_getD, List.getElem?_eq_getElem hlt]; rfl
    rw [hg] at o15 i1 i2 ⊢
    refine ⟨_, _, _, _, _, _, rfl, fun b5 w5 hb5 => fill3 hb5 fun w6 hb6 => ⟨_, hb6.cell 0 rfl, _, _, _, hb6.cell 1 rfl, _, hb6.cell 2 rfl, fun b20 w20 hb20 => ?_⟩⟩
    have hl20 : Ext wl w20 := Ext.thn x15 (Ext.thn hb6.ext hb20.ext)
    obtain ⟨p', c', w', hr, ho', hu, _⟩ := append_n ho hw.size hl20 hb20 (o15.ext EditV.stable EditV.widens (Ext.thn hb6.ext hb20.ext)) hbase i1 i2 (by omega)
    rw [← List.take_succ_eq_append_getElem hlt] at ho'
    exact ⟨p', _, c', w', hr, inI64 (by omega) (by omega), _, by omega, k + 1, by omega, rfl, rfl, by omega, ho', OwnL.ext_of (ho.ext NodeV.stable NodeV.widens hl20) hu (Ext.thn hw hl20) (Nat.le_refl _)⟩
  · have j := of_decide_eq_false j
    obtain rfl : k = ns.length := by omega
    rw [List.take_length] at ho
    exact ⟨p3, c3, rfl, ho, hw⟩
theorem made_new {w w2 w4 : World} {b2 b4 : Nat} {T : TypeId} (h2 : NewBlk w b2 [.int .i64 (-1), .slice none 0 0, .int .i64 0] 63 w2) (h4 : NewBlk w2 b4 [.slice (some ⟨b2, 0, none⟩) 1 1, .int .i64 0] T w4) :
    Ms 63 w4 (fun k => w.heap.size ≤ k ∧ k < w4.heap.size) b4 [rootN] 0 := by
  have e2 := h2.eq
  have e4 := h4.eq
  have s2 := h2.size
  have s4 := h4.size
  refine ⟨⟨some ⟨b2, 0, none⟩, 1, [[.int .i64 (-1), .slice none 0 0, .int .i64 0]], h4.cell 0 rfl, ⟨rfl, .inr ⟨b2, 1, _, rfl, Nat.zero_le _, (h4.ext.block b2 (by omega) id).trans h2.heap, by decide, by decide, rfl, rfl⟩⟩,
    .cons ⟨rfl, none, 0, rfl, by decide, by decide, Nat.le_refl _, RS.nil⟩ .nil, fun a ha => ?_⟩, h4.cell 1 rfl, h4.can 0 (by simp), h4.can 1 (by simp), ⟨by omega, h4.lt⟩, fun k hk => hk.2⟩
  injection ha with ha
  subst ha
  exact ⟨⟨by show w.heap.size ≤ b2; omega, by show b2 < _; omega⟩, by show b2 ≠ b4; omega⟩
/-- history.New. -/
theorem new_does : Does Try.prog 9 #[] w fun e w' => ∃ b, e = .returned (.pointer (some ⟨b, 0, none⟩)) ∧ Ms 63 w' (fun k => w.heap.size ≤ k ∧ k < w'.heap.size) b [rootN] 0 ∧ Ext w w' := by
  apply f9_does
  intro b2 w2 h2 b4 w4 h4
  exact ⟨b4, rfl, made_new h2 h4, Ext.thn h2.ext h4.ext⟩
theorem rnew_does : Does Try.prog 41 #[] w fun e w' => ∃ b, e = .returned (.pointer (some ⟨b, 0, none⟩)) ∧ Ms 63 w' (fun k => w.heap.size ≤ k ∧ k < w'.heap.size) b [rootN] 0 ∧ Ext w w' := by
  apply f41_does
  intro b2 w2 h2 b4 w4 h4
  exact ⟨b4, rfl, made_new h2 h4, Ext.thn h2.ext h4.ext⟩
/-- A row of nodes that the call has made, and the current one's number, in a new block. -/
theorem made_of {w w1 w2 : World} {p : Option Addr} {c : Nat} (h : OwnL NodeV w1 w.heap.size 63 3 p ns.length c ns) {T : TypeId} (hb : NewBlk w1 b [.slice p ns.length c, .int .i64 cur] T w2) (hw : Ext w w1) :
    Ms 63 w2 (fun k => w.heap.size ≤ k ∧ k < w2.heap.size) b ns cur := by
  obtain ⟨vss, ho, ha⟩ := h
  have e := hb.eq
  have s := hb.size
  have sw := hw.size
  refine ⟨⟨p, c, vss, hb.cell 0 rfl, (ho.ext hb.ext).lower (Nat.zero_le _), ha.imp fun vs x ⟨q1, q2⟩ => ⟨q1, NodeV.widens _ _ _ _ _ (fun k _ hk => ⟨⟨hk.1, by have := hk.2.1; omega⟩, by have := hk.2.1; omega, hk.2.2⟩) (NodeV.stable _ _ _ _ _ _ hb.ext (fun _ _ => id) q2)⟩, fun a ha => ?_⟩, hb.cell 1 rfl, hb.can 0 (by simp), hb.can 1 (by simp), ⟨by omega, hb.lt⟩, fun k hk => hk.2⟩
  have := ho.base ha
  exact ⟨⟨this.1, by omega⟩, by omega⟩
theorem rload_does {ok : Nat → Prop} {p : Option Addr} (hx : Nodes w ok p ns) {l : Nat} (hl : l = ns.length) (c : Nat) (a : Int) (ha : InK .i64 a) (hs : ns.length ≤ 1000000000) (hm : Mods ns) :
    Does Try.prog 17 #[.slice p l c, .int .i64 a] w fun e w' => Ext w w' ∧ (¬ loadOk ns a ∧ e = .returned (.tuple #[.pointer none, .int .i64 4]) ∨
      loadOk ns a ∧ ∃ b, e = .returned (.tuple #[.pointer (some ⟨b, 0, none⟩), .int .i64 0]) ∧ Ms 63 w' (fun k => w.heap.size ≤ k ∧ k < w'.heap.size) b ns a.toNat) := by
  subst hl
  apply f17_does
  have no : ∀ {w' : World}, Ext w w' → ¬ loadOk ns a → (Ext w w' ∧ (¬ loadOk ns a ∧ Ending.returned (.tuple #[.pointer none, .int .i64 4]) = .returned (.tuple #[.pointer none, .int .i64 4]) ∨
      loadOk ns a ∧ ∃ b, Ending.returned (.tuple #[.pointer none, .int .i64 4]) = .returned (.tuple #[.pointer (some ⟨b, 0, none⟩), .int .i64 0]) ∧ Ms 63 w' (fun k => w.heap.size ≤ k ∧ k < w'.heap.size) b ns a.toNat)) := fun h1 h2 => ⟨h1, .inl ⟨h2, rfl⟩⟩
  refine brr (fun j => no (Upd.refl _ _) fun h => ?_) fun j1 => brr (fun j => no (Upd.refl _ _) fun h => ?_) fun j2 => brr (fun j => no (Upd.refl _ _) fun h => ?_) fun j3 => brr (fun j => no (Upd.refl _ _) fun h => ?_) fun j4 => ?_
  · have := h.1; have := of_decide_eq_true j; omega
  · have := h.2.1; have := of_decide_eq_true j; omega
  · have := h.2.2.1; have := of_decide_eq_true j; omega
  · have := h.2.2.2.1; have := of_decide_eq_true j; omega
  have j1 := of_decide_eq_false j1
  have j2 := of_decide_eq_false j2
  have j3 := of_decide_eq_false j3
  have j4 := of_decide_eq_false j4
  refine ⟨fun i n wl => ∃ k : Nat, i = k ∧ n = ns.length - k ∧ k ≤ ns.length ∧ (∀ (i : Nat) (h : i < ns.length), i < k → mayN i ns[i]) ∧ Ext w wl, ⟨_, 0, rfl, rfl, Nat.zero_le _, fun i _ h => by omega, Upd.refl _ _⟩, ?_⟩
  rintro _ n wl ⟨k, rfl, rfl, hk, hall, hw⟩
  refine brr (fun j => ?_) fun j => ?_
  · have j := of_decide_eq_true j
    have hlt : k < ns.length := by omega
    obtain ⟨bb, o, p1, c1, hp, _, a1, a2, a3, i1, i2, i3, a4⟩ := (hx.ext hw).at k hlt
    refine ⟨⟨by omega, by omega⟩, bb, o, hp, _, a1, _, _, _, a2, _, a3, fun b7 w7 hb7 => fill3 hb7 fun w8 hb8 => ?_⟩
    have hw8 := Ext.thn hw hb8.ext
    have yes : mayN k ns[k] → InK .i64 ((k : Int) + 1) ∧ ∃ ml, ml < ns.length - k ∧ ∃ k' : Nat, (k : Int) + 1 = k' ∧ ml = ns.length - k' ∧ k' ≤ ns.length ∧ (∀ (i : Nat) (h : i < ns.length), i < k' → mayN i ns[i]) ∧ Ext w w8 := fun h =>
      ⟨inI64 (by omega) (by omega), _, by omega, k + 1, by omega, rfl, hlt, fun i hi hi' => by
        rcases Nat.lt_or_ge i k with h' | h'
        · exact hall i hi h'
        · obtain rfl : i = k := by omega
          exact h, hw8⟩
    have nope : ¬ mayN k ns[k] → ¬ loadOk ns a := fun h h' => h (h'.2.2.2.2 k hlt)
    unfold mayN at yes nope
    have hes : ns[k].es = [] ↔ ns[k].es.length = 0 := List.length_eq_zero_iff.symm
    simp only [ne_eq, hes] at yes nope
    refine brr (fun q0 => ⟨_, hb8.cell 0 rfl, brr (fun q1 => no hw8 (nope ?_)) fun q1 => ⟨_, _, _, hb8.cell 1 rfl, brr (fun q2 => no hw8 (nope ?_)) fun q2 => ⟨_, hb8.cell 2 rfl, brr (fun q3 => no hw8 (nope ?_)) fun q3 => brr (fun q4 => ?_) fun q4 => yes ?_⟩⟩⟩) fun q0 => brr (fun q1 => ⟨_, hb8.cell 0 rfl, brr (fun q2 => no hw8 (nope ?_)) fun q2 => ⟨_, hb8.cell 0 rfl, brr (fun q3 => no hw8 (nope ?_)) fun q3 => ⟨_, _, _, hb8.cell 1 rfl, brr (fun q4 => no hw8 (nope ?_)) fun q4 => ⟨_, hb8.cell 2 rfl, brr (fun q5 => no hw8 (nope ?_)) fun q5 => yes ?_⟩⟩⟩⟩) fun q1 => yes ?_
    case refine_4 =>
      simp only [beq_iff_eq, decide_eq_true_iff] at q0 q4
      omega
    all_goals
      simp only [beq_iff_eq, beq_eq_false_iff_ne, ne_eq, bne_iff_ne, bne_eq_false_iff_eq, decide_eq_true_iff, decide_eq_false_iff_not] at *
      split
    all_goals first | omega | (intro hh; omega) | skip
  · have j := of_decide_eq_false j
    obtain rfl : k = ns.length := by omega
    have hok : loadOk ns a := ⟨by omega, by omega, by omega, by omega, fun i hi => hall i hi hi⟩
    refine (copyn_does (hx.ext hw) rfl c (by omega) hm).imp ?_
    rintro e w81 ⟨p81, c81, rfl, o81, x81⟩
    refine ⟨_, _, _, rfl, fun b84 w84 hb => ?_⟩
    have ea : a = (a.toNat : Int) := by omega
    rw [ea] at hb
    have hM := made_of o81 hb x81
    refine ⟨Ext.thn (Ext.thn hw x81) hb.ext, .inr ⟨hok, b84, rfl, ?_⟩⟩
    obtain ⟨⟨q, d, vss, r1, r2, r3, r4⟩, m1, m2, m3, m4, m5⟩ := hM
    have hsz := hw.size
    exact ⟨⟨q, d, vss, r1, r2, r3.imp fun vs x ⟨q1, q2⟩ => ⟨q1, NodeV.widens _ _ _ _ _ (fun k _ hk => ⟨⟨by have := hk.1.1; omega, hk.1.2⟩, hk.2⟩) q2⟩, fun a ha => ⟨⟨by have := (r4 a ha).1.1; omega, (r4 a ha).1.2⟩, (r4 a ha).2⟩⟩, m1, m2, m3, ⟨by have := m4.1; omega, m4.2⟩, fun k hk => hk.2⟩
theorem load_does {ok : Nat → Prop} {p : Option Addr} (hx : Nodes w ok p ns) {l : Nat} (hl : l = ns.length) (c : Nat) (a : Int) (hs : ns.length ≤ 1000000000) (hm : Mods ns) :
    Does Try.prog 16 #[.slice p l c, .int .i64 a] w fun e w' => Ext w w' ∧ (¬ loadOk ns a ∧ e = .returned (.tuple #[.pointer none, .int .i64 4]) ∨
      loadOk ns a ∧ ∃ b, e = .returned (.tuple #[.pointer (some ⟨b, 0, none⟩), .int .i64 0]) ∧ Hs w' (fun k => w.heap.size ≤ k ∧ k < w'.heap.size) b ns a.toNat) := by
  subst hl
  apply f16_does
  have no : ∀ {w' : World}, Ext w w' → ¬ loadOk ns a → (Ext w w' ∧ (¬ loadOk ns a ∧ Ending.returned (.tuple #[.pointer none, .int .i64 4]) = .returned (.tuple #[.pointer none, .int .i64 4]) ∨
      loadOk ns a ∧ ∃ b, Ending.returned (.tuple #[.pointer none, .int .i64 4]) = .returned (.tuple #[.pointer (some ⟨b, 0, none⟩), .int .i64 0]) ∧ Hs w' (fun k => w.heap.size ≤ k ∧ k < w'.heap.size) b ns a.toNat)) := fun h1 h2 => ⟨h1, .inl ⟨h2, rfl⟩⟩
  refine brr (fun j => no (Upd.refl _ _) fun h => ?_) fun j1 => brr (fun j => no (Upd.refl _ _) fun h => ?_) fun j2 => brr (fun j => no (Upd.refl _ _) fun h => ?_) fun j3 => brr (fun j => no (Upd.refl _ _) fun h => ?_) fun j4 => ?_
  · have := h.1; have := of_decide_eq_true j; omega
  · have := h.2.1; have := of_decide_eq_true j; omega
  · have := h.2.2.1; have := of_decide_eq_true j; omega
  · have := h.2.2.2.1; have := of_decide_eq_true j; omega
  have j1 := of_decide_eq_false j1
  have j2 := of_decide_eq_false j2
  have j3 := of_decide_eq_false j3
  have j4 := of_decide_eq_false j4
  intro b29 w29 hb29
  have e29 := hb29.eq
  have s29 := hb29.size
  refine ⟨fun i n wl => ∃ (k : Nat) (p3 : Option Addr) (c3 : Nat), i = k ∧ n = ns.length - k ∧ k ≤ ns.length ∧ (∀ (i : Nat) (h : i < ns.length), i < k → mayN i ns[i]) ∧ OwnL NodeV wl w29.heap.size 63 3 p3 k c3 (ns.take k) ∧
      wl.cell? ⟨b29, 0, none⟩ = some (.slice p3 k c3) ∧ wl.cell? ⟨b29, 1, none⟩ = some (.int .i64 a) ∧ CanStore wl b29 0 ∧ CanStore wl b29 1 ∧ Ext w wl ∧ w29.heap.size ≤ wl.heap.size,
    ⟨_, 0, none, 0, rfl, rfl, Nat.zero_le _, fun i _ h => by omega, OwnL.nil _ _ _ _, hb29.cell 0 rfl, hb29.cell 1 rfl, hb29.can 0 (by simp), hb29.can 1 (by simp), hb29.ext, Nat.le_refl _⟩, ?_⟩
  rintro _ n wl ⟨k, p3, c3, rfl, rfl, hk, hall, ho, hc0, hc1, hk0, hk1, hw, hsz⟩
  refine brr (fun j => ?_) fun j => ?_
  · have j := of_decide_eq_true j
    have hlt : k < ns.length := by omega
    obtain ⟨bb, o, p1, c1, hp, _, a1, a2, a3, i1, i2, i3, a4⟩ := (hx.ext hw).at k hlt
    refine ⟨⟨by omega, by omega⟩, bb, o, hp, _, a1, _, _, _, a2, _, a3, fun b8 w8 hb8 => fill3 hb8 fun w9 hb9 => ⟨_, hb9.cell 0 rfl, _, _, _, hb9.cell 1 rfl, _, hb9.cell 2 rfl, (mayn_does k ns[k] p1 c1).imp ?_⟩⟩
    rintro e w39 ⟨rfl, x39⟩
    have hl39 : Ext wl w39 := Ext.thn hb9.ext x39
    refine ⟨_, rfl, brr (fun q => no (Ext.thn hw hl39) fun h => not_dec q (h.2.2.2.2 k hlt)) fun q wd hd => ?_⟩
    have q : mayN k ns[k] := yes_dec q
    have hld : Ext wl wd := Ext.thn hl39 hd.ext
    have xd : Ext w9 wd := Ext.thn x39 hd.ext
    refine ⟨fun v => Ext wd v, Upd.refl _ _, _, _, _, fun v hv => (Ext.thn hld hv).cell hc0, _, fun v hv => (Ext.thn xd hv).cell (hb9.cell 0 rfl), _, _, _, xd.cell (hb9.cell 1 rfl), (owns_does (a4.ext hld) rfl _ (hm _ (List.getElem_mem hlt))).imp ?_⟩
    rintro e w50 ⟨p50, c50, rfl, o50, x50⟩
    refine ⟨_, _, _, rfl, x50, _, fun v hv => (Ext.thn xd hv).cell (hb9.cell 2 rfl), fun b54 w54 hb54 => ⟨Ext.thn x50 hb54.ext, ?_⟩⟩
    have hl54 : Ext wl w54 := Ext.thn hld (Ext.thn x50 hb54.ext)
    obtain ⟨p', c', w', hr, ho', hu, hat⟩ := append_n ho hsz hl54 hb54 (o50.ext EditV.stable EditV.widens hb54.ext) hld.size i1 i2 (by omega)
    rw [← List.take_succ_eq_append_getElem hlt] at ho'
    have hnb : ¬ ∃ a, p3 = some a ∧ a.block = b29 := fun ⟨a, ha, e⟩ => by have := (ho.base ha).1; omega
    have h0' := hu.can hnb (hl54.can hk0)
    refine ⟨p', _, c', w', hr, h0', fun ws hs => ?_⟩
    have us := hs.upd
    have ws1 : ws.cell? ⟨b29, 1, none⟩ = _ := (hs.other (.inr (by decide))).trans (hu.cell hnb (hl54.cell hc1))
    have x' : Ext w ws := Upd.then (Upd.then (Ext.thn hw hl54) hu fun g hg ⟨a, ha, e⟩ => by have := (ho.base ha).1; omega) us fun g hg e => by omega
    have ho3 : OwnL NodeV ws w29.heap.size 63 3 p' (k + 1) c' (ns.take (k + 1)) := by
      obtain ⟨vss, oo, oa⟩ := ho'
      refine ⟨vss, Own.upd oo us fun a ha e => ?_, oa.imp fun vs x ⟨q1, q2⟩ => ⟨q1, NodeV.widens _ _ _ _ _ (fun g _ hg => ⟨hg.1, Nat.lt_of_lt_of_le hg.2.1 us.size, hg.2.2⟩) (NodeV.stable _ _ _ _ _ _ us (fun g hg e => ?_) q2)⟩⟩
      · have := (oo.base ha).1; omega
      · have := hg.1; omega
    refine ⟨inI64 (by omega) (by omega), _, by omega, k + 1, p', c', by omega, rfl, hlt, fun i hi hi' => ?_, ho3, hs.cell h0', ws1, hs.can h0', hs.can (hu.can hnb (hl54.can hk1)), x', by have := hl54.size; have := hu.size; have := us.size; omega⟩
    rcases Nat.lt_or_ge i k with h' | h'
    · exact hall i hi h'
    · obtain rfl : i = k := by omega
      exact q
  · have j := of_decide_eq_false j
    obtain rfl : k = ns.length := by omega
    have hok : loadOk ns a := ⟨by omega, by omega, by omega, by omega, fun i hi => hall i hi hi⟩
    rw [List.take_length] at ho
    have ea : a = (a.toNat : Int) := by omega
    refine ⟨hw, .inr ⟨hok, b29, rfl, ⟨p3, c3, OwnL.cap ho, hc0, (OwnL.nodes ho).ok fun g _ hg => ⟨⟨by omega, hg.2⟩, by omega⟩⟩, by rw [← ea]; exact hc1, hk0, hk1, ⟨by omega, by omega⟩, fun k hk => hk.2⟩⟩
end
end Go.Proofs.Ytlenmnffdbgkkaa
