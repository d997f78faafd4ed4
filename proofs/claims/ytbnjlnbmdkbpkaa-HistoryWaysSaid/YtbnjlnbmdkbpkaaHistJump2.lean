/-
  Histories: jumps, second part.
-/
import Derived.Test.YtbnjlnbmdkbpkaaHistJump
namespace Go.Vc
open Go.RowKit
def thereB (ns : List Nd) (n : Int) : Prop := 0 ≤ n ∧ n < ns.length
instance (ns : List Nd) (n : Int) : Decidable (thereB ns n) := by unfold thereB; infer_instance
def jumpE (ns : List Nd) (cur : Nat) (n : Int) : List E := if thereB ns n then stepsE ns (wayF (paF ns) cur n.toNat) else []
def jumpC (ns : List Nd) (cur : Nat) (n : Int) : Int := if thereB ns n then lastC ns (wayF (paF ns) cur n.toNat) else 0
def jumpN (ns : List Nd) (cur : Nat) (n : Int) : Nat := if thereB ns n then n.toNat else cur
theorem OwnL.upd {α : Type} {RV : World → (Nat → Prop) → List Value → α → Prop} (hs : StableV RV) (hw : WidensV RV) {w w' : World} {T : Nat → Prop} {base : Nat} {N : TypeId} {sz : Nat} {p : Option Addr} {l c : Nat} {xs : List α}
    (h : OwnL RV w base N sz p l c xs) (hu : Upd T w w') (ht : ∀ k, base ≤ k → k < w.heap.size → ¬ T k) : OwnL RV w' base N sz p l c xs := by
  obtain ⟨vss, ho, ha⟩ := h
  refine ⟨vss, ho.upd hu fun a e => ht _ (ho.base e).1 (ho.base e).2, ha.imp fun vs x ⟨h1, h2⟩ => ⟨h1, ?_⟩⟩
  exact hw _ _ _ _ _ (fun k hk ⟨a1, a2, a3⟩ => ⟨a1, hk, a3⟩) (hs _ _ _ _ _ _ hu (fun k hk => ht k hk.1 hk.2.1) h2)
theorem OwnR.ownl {α : Type} {RV : World → (Nat → Prop) → List Value → α → Prop} (hw : WidensV RV) {w : World} {R : Nat → Prop} {base : Nat} {T : TypeId} {sz : Nat} {p : Option Addr} {l c : Nat} {xs : List α} (h : OwnR RV w R T sz p l c xs)
    (hr : ∀ k, R k → base ≤ k) : OwnL RV w base T sz p l c xs := by
  obtain ⟨vss, ho, ha, hp⟩ := h
  refine ⟨vss, ⟨ho.1, ?_⟩, ha.imp fun vs x ⟨q1, q2⟩ => ⟨q1, hw _ _ _ _ _ (fun k hk h => ⟨hr k h.1, hk, h.2⟩) q2⟩⟩
  rcases ho.2 with h2 | ⟨g, cap, cur, e, hb, r⟩
  · exact .inl h2
  · refine .inr ⟨g, cap, cur, e, ?_, r⟩
    injection e with e1 e2 e3
    exact hr _ (hp _ e1)
end Go.Vc
namespace Go.Proofs.Ytbnjlnbmdkbpkaa
open Go.RowKit Go.Vc
section
variable {w : World} {A : Nat → Prop} {b : Nat} {ns : List Nd} {cur : Nat} {St : World → Nat → Prop}
theorem es_pos {ns : List Nd} (ok : okL ns) {k : Nat} (h : k < ns.length) (h0 : k ≠ 0) : 0 < ns[k].es.length := by
  have := (below ok h h0).2.2.1
  cases hh : ns[k].es with
  | nil => exact absurd hh this
  | cons => simp
theorem above_does (H : Hs w A b ns cur) (ok : okL ns) (a n : Nat) (hn : n < ns.length) : Does Try.prog 50 #[.pointer (some ⟨b, 0, none⟩), .int .i64 (a : Int), .int .i64 (n : Int)] w fun e w' => e = .returned (.bool (aboveF (paF ns) a n)) ∧ w' = w := by
  apply f50_does
  refine ⟨fun x nl wl => ∃ k : Nat, x = k ∧ k = nl ∧ k < ns.length ∧ aboveF (paF ns) a k = aboveF (paF ns) a n ∧ wl = w, ⟨_, n, rfl, rfl, hn, rfl, rfl⟩, ?_⟩
  rintro _ _ wl ⟨k, rfl, rfl, hk, he, rfl⟩
  refine brr (fun q => ?_) fun q => ?_
  · have q := of_decide_eq_true q
    have q : a < k := by omega
    obtain ⟨p, c, _, h1, h2⟩ := H.row
    obtain ⟨bb, o, p1, c1, hp, _, a1, _⟩ := h2.at k hk
    have hpa := paF_lt ok k (by omega)
    have hpar : ns[k].par = (paF ns k : Nat) := by
      unfold paF
      rw [getD_at hk]
      have := below ok hk (by omega)
      omega
    refine ⟨b, 0, rfl, _, _, _, h1, ⟨by omega, by omega⟩, bb, o, hp, _, a1, _, hpa, paF ns k, hpar, rfl, by omega, ?_, rfl⟩
    rw [← he, above_lt q hpa]
  · have q := of_decide_eq_false q
    refine ⟨?_, rfl⟩
    rw [← he, above_ge (by omega)]
    congr 2
    rw [Bool.eq_iff_iff, beq_iff_eq, beq_iff_eq]
    omega
theorem jump_does (K : Keeps St A b ns) (h : St w cur) (hn : 0 < ns.length) (hm : Mods ns) (ok : okL ns) (hc : cur < ns.length) (hn6 : ns.length ≤ 65536) (hE : ∀ n ∈ ns, n.es.length ≤ 10000) (n : Int) :
    Does Try.prog 21 #[.pointer (some ⟨b, 0, none⟩), .int .i64 n] w fun e w' => TellsE w (jumpE ns cur n) (jumpC ns cur n) (decide (thereB ns n)) (fun k => k = b) e w' ∧ St w' (jumpN ns cur n) := by
  apply f21_does
  intro b2 w2 hb2
  have h2 := K.ext _ _ _ h hb2.ext
  refine ⟨_, hb2.cell 0 rfl, (there_does (K.hs _ _ h2) hn n).imp ?_⟩
  rintro e w14 ⟨rfl, rfl⟩
  refine ⟨_, rfl, brr (fun q => ?_) fun q b7 w7 hb7 b8 w8 hb8 => ?_⟩
  · have q : ¬ thereB ns n := not_dec q
    unfold jumpE jumpC jumpN
    rw [if_neg q, if_neg q, if_neg q, decide_eq_false q]
    exact ⟨⟨none, 0, w14.heap.size, rfl, OwnL.nil _ _ _ _, hb2.ext.size, Upd.mono hb2.ext fun k _ e => e.elim⟩, h2⟩
  have q : thereB ns n := yes_dec q
  unfold jumpE jumpC jumpN
  rw [if_pos q, if_pos q, if_pos q, decide_eq_true q]
  obtain ⟨q0, q1⟩ := q
  refine ⟨hb8.can 0 (by simp), fun ws hs wd5 hd5 => ?_⟩
  have hb8 := hb8.store hs
  have hb8 : NewBlk w7 b8 [.int .i64 0] 3 ws := hb8
  have H0 := K.hs _ _ h
  have x5 : Ext w wd5 := Ext.thn hb2.ext (Ext.thn hb7.ext (Ext.thn hb8.ext hd5.ext))
  have xb2 : wd5.cell? ⟨b2, 0, none⟩ = _ := (Ext.thn hb7.ext (Ext.thn hb8.ext hd5.ext)).cell (hb2.cell 0 rfl)
  have h5 := K.ext _ _ _ h x5
  refine ⟨_, xb2, _, xb2, b, 0, rfl, _, (K.hs _ _ h5).at1, f45_does _ _ _ fun bh w3 hbh bf w4 hbf bt w5 hbt => ⟨_, _, _, rfl, fun Dr lr rec wr hO hYield => ?_⟩⟩
  have e2 := hb2.eq
  have e7 := hb7.eq
  have e8 := hb8.eq
  have eh := hbh.eq
  have ef := hbf.eq
  have et := hbt.eq
  have eD := hO.blk
  have eL := hO.rcd
  have s2 := hb2.size
  have s7 := hb7.size
  have s8 := hb8.size
  have sd := hd5.ext.size
  have sh := hbh.size
  have sf := hbf.size
  have st := hbt.size
  have sO := hO.size
  have xO := hO.ext
  have x345 : Ext wd5 wr := Ext.thn hbh.ext (Ext.thn hbf.ext (Ext.thn hbt.ext xO))
  have xr : Ext w wr := Ext.thn x5 x345
  have hlen : (wayF (paF ns) cur n.toNat).length ≤ 131072 := by
    have := way_len (paF_lt ok) _ cur n.toNat (Nat.le_refl _)
    omega
  have hAlt := H0.lt
  refine doesG_func3 ((way1_does (A := A) (b := b) (ns := ns) (cur := cur) (bf := bf) (bt := bt) (bh := bh) (lr := lr) (f0 := cur) (t0 := n.toNat)
    (fun d wl R => LoopAt wl lr rec .ready ∧ OpenD wl Dr ∧ wl.cell? ⟨b2, 0, none⟩ = some (.pointer (some ⟨b, 0, none⟩)) ∧ (∃ p c, wl.cell? ⟨b7, 0, none⟩ = some (.slice p (stepsE ns d).length c) ∧ OwnR EditV wl (fun k => R k ∧ k ≠ b7 ∧ k ≠ b8 ∧ k ≠ lr) 43 3 p (stepsE ns d).length c (stepsE ns d)) ∧
      wl.cell? ⟨b8, 0, none⟩ = some (.int .i64 (lastC ns d)) ∧ CanStore wl b7 0 ∧ CanStore wl b8 0 ∧ Ext w wl ∧ R b7 ∧ R b8 ∧ R lr ∧ (∀ k, k < wr.heap.size → R k → k = b7 ∨ k = b8 ∨ k = lr) ∧ (∀ k, R k → k < wl.heap.size) ∧ (∀ k, R k → w.heap.size ≤ k) ∧ wr.heap.size ≤ wl.heap.size)
    (xO.cell (hbt.ext.cell (hbf.cell 0 rfl))) (by rw [show (n.toNat : Int) = n by omega]; exact xO.cell (hbt.cell 0 rfl)) (xO.cell (hbt.ext.cell (hbf.ext.cell (hbh.cell 0 rfl)))) (xO.can (hbt.ext.can (hbf.can 0 (by simp)))) (xO.can (hbt.can 0 (by simp))) ⟨by omega, by omega, by omega⟩ ok hn6 hc (by omega)
    (fun d wl R hJ => hJ.2.2.2.2.2.2.2.2.2.2.2.2.1) ?_ (fun d wl R hJ => K.hs _ _ (K.ext _ _ _ h hJ.2.2.2.2.2.2.2.1)) (fun k hk => by have := hAlt k hk; omega) ?_
    (R0 := fun k => k = b7 ∨ k = b8 ∨ k = lr) ⟨hO.loop, hO.opn, x345.cell xb2, ⟨none, 0, x345.cell (hd5.ext.cell (hb8.ext.cell (hb7.cell 0 rfl))), OwnR.nil _ _ _ _⟩, x345.cell (hd5.ext.cell (hb8.cell 0 rfl)), x345.can (hd5.ext.can (hb8.ext.can (hb7.can 0 (by simp)))), x345.can (hd5.ext.can (hb8.can 0 (by simp))), xr, .inl rfl, .inr (.inl rfl), .inr (.inr rfl), fun k _ h => h, fun k hk => by omega, fun k hk => by omega, Nat.le_refl _⟩ ⟨by omega, by omega, by omega⟩).imp ?_)
  · -- what the iterator does touches nothing of the body's
    rintro d wl wl' R Q ⟨j1, j2, j3, ⟨p, c, j4, j5⟩, j6, j7, j8, j9, j10, j11, j12, j13, j14, j15, j16⟩ hu hQ
    have nQ : ∀ {k}, R k → ¬ Q k := fun hr hq => (hQ _ hq).2 hr
    have nK : ∀ {k}, k < wr.heap.size → k ≠ bf → k ≠ bt → ¬ Q k := fun h1 h2 h3 hq => by have := (hQ _ hq).1; omega
    exact ⟨j1.upd hu (nQ j12), j2.upd hu (nK (by omega) (by omega) (by omega)), hu.cell (nK (by omega) (by omega) (by omega)) j3, ⟨p, c, hu.cell (nQ j10) j4, j5.upd EditV.stable hu fun k hk => nQ hk.1⟩, hu.cell (nQ j11) j6, hu.can (nQ j10) j7, hu.can (nQ j11) j8, Upd.then j9 hu fun k hk hq => by have := (hQ _ hq).1; omega, j10, j11, j12, j13, fun k hk => Nat.lt_of_lt_of_le (j14 k hk) hu.size, j15, Nat.le_trans j16 hu.size⟩
  · -- the body
    rintro d s rest wl R ⟨j1, j2, j3, ⟨p, c, j4, j5⟩, j6, j7, j8, j9, j10, j11, j12, j13, j14, j15, j16⟩ hway
    have hmem := way_mem (paF_lt ok) cur n.toNat s (by rw [← hway]; simp)
    have hs1 : s.1 < ns.length := by omega
    have hs0 : s.1 ≠ 0 := hmem.1
    have hd1 : d.length < 131072 := by
      have := congrArg List.length hway
      simp only [List.length_append, List.length_cons] at this
      omega
    have hsl := stepsE_len hE d
    refine hYield _ _ wl _ j1 ⟨j1, fun wb hT hB => ?_⟩
    have uT := hT.upd
    have Hl := K.hs _ _ (K.ext _ _ _ h j9)
    have Hb := Hl.upd uT fun k hk e => by have := hAlt k hk; have e : k = lr := e; omega
    obtain ⟨q2, c2, _, g1, g2⟩ := Hb.row
    obtain ⟨bb, o, p1, c1, hp, _, a1, a2, a3, i1, i2, i3, a4⟩ := g2.at s.1 hs1
    have hbl := hAlt b H0.mem
    have ob : OwnR EditV wb (fun k => R k ∧ k ≠ b7 ∧ k ≠ b8 ∧ k ≠ lr) 43 3 p (stepsE ns d).length c (stepsE ns d) := j5.upd EditV.stable uT fun k hk e => hk.2.2.2 e
    have c7 := uT.cell (show ¬ b7 = lr by omega) j4
    have c8 := uT.cell (show ¬ b8 = lr by omega) j6
    have k7 := uT.can (show ¬ b7 = lr by omega) j7
    have k8 := uT.can (show ¬ b8 = lr by omega) j8
    have c2' := uT.cell (show ¬ b2 = lr by omega) j3
    have hpR : ∀ a, p = some a → R a.block ∧ a.block ≠ b7 ∧ a.block ≠ b8 ∧ a.block ≠ lr := fun a ha => by
      obtain ⟨_, _, _, hpp⟩ := ob
      exact hpp a ha
    have hpw : ∀ a, p = some a → a.block < wb.heap.size := fun a ha => by have := j14 _ (hpR a ha).1; have := uT.size; omega
    have hgd := getD_at hs1
    have hel := hE _ (List.getElem_mem hs1)
    have hpos := es_pos ok hs1 hs0
    refine ⟨_, c2', b, 0, rfl, _, _, _, g1, ⟨by omega, by omega⟩, bb, o, hp, _, a1, _, _, _, a2, _, a3, fun b11 w11 hb11 => fill3 hb11 fun w12 hb12 => ?_⟩
    -- what both branches end with
    have fin : ∀ {w30 w37 v1 v2 : World} {base2 : Nat} {p' : Option Addr} {c' : Nat} {x : Int} {es : List E}, Ext wb w30 → wb.heap.size ≤ base2 → OwnR EditV w37 (fun k => (R k ∧ k ≠ b7 ∧ k ≠ b8 ∧ k ≠ lr) ∨ base2 ≤ k ∧ k < w37.heap.size) 43 3 p' ((stepsE ns d).length + es.length) c' (stepsE ns d ++ es) → Upd (fun k => ∃ a, p = some a ∧ a.block = k) w30 w37 →
        es = stepE ns s → x = stepC ns s → Stored w37 b7 0 (.slice p' ((stepsE ns d).length + es.length) c') v1 → Stored v1 b8 0 (.int .i64 x) v2 →
        LoopAt v2 lr rec .busy ∧ ∀ wz, Turned v2 lr wz → LoopAt wz lr rec .ready → Ending.returned (.bool true) = .returned (.bool true) ∧ ∃ R' : Nat → Prop, (LoopAt wz lr rec .ready ∧ OpenD wz Dr ∧ wz.cell? ⟨b2, 0, none⟩ = some (.pointer (some ⟨b, 0, none⟩)) ∧ (∃ p c, wz.cell? ⟨b7, 0, none⟩ = some (.slice p (stepsE ns (d ++ [s])).length c) ∧ OwnR EditV wz (fun k => R' k ∧ k ≠ b7 ∧ k ≠ b8 ∧ k ≠ lr) 43 3 p (stepsE ns (d ++ [s])).length c (stepsE ns (d ++ [s]))) ∧
          wz.cell? ⟨b8, 0, none⟩ = some (.int .i64 (lastC ns (d ++ [s]))) ∧ CanStore wz b7 0 ∧ CanStore wz b8 0 ∧ Ext w wz ∧ R' b7 ∧ R' b8 ∧ R' lr ∧ (∀ k, k < wr.heap.size → R' k → k = b7 ∨ k = b8 ∨ k = lr) ∧ (∀ k, R' k → k < wz.heap.size) ∧ (∀ k, R' k → w.heap.size ≤ k) ∧ wr.heap.size ≤ wz.heap.size) ∧ Upd R wl wz ∧ ∀ k, R' k → R k ∨ wl.heap.size ≤ k := by
      intro w30 w37 v1 v2 base2 p' c' x es x30 hbase oj uj he hx t1 t2
      have nu : ∀ {k}, (k = b7 ∨ k = b8 ∨ k = lr ∨ k < wb.heap.size ∧ ¬ R k) → ¬ ∃ a, p = some a ∧ a.block = k := fun hk ⟨a, ha, e⟩ => by
        have := hpR a ha
        rw [e] at this
        rcases hk with e | e | e | e
        · exact this.2.1 e
        · exact this.2.2.1 e
        · exact this.2.2.2 e
        · exact e.2 this.1
      have nRk : ∀ {k}, k < wr.heap.size → k ≠ b7 → k ≠ b8 → k ≠ lr → ¬ R k := fun h1 h2 h3 h4 hr => by have := j13 _ h1 hr; omega
      have k7' := uj.can (nu (.inl rfl)) (x30.can k7)
      have k8' := uj.can (nu (.inr (.inl rfl))) (x30.can k8)
      have u1 := t1.upd
      have u2 := t2.upd
      have zT := uT.size
      have z30 := x30.size
      have zj := uj.size
      have z1 := t1.size
      have z2 := t2.size
      refine ⟨((((hB.ext x30).upd uj (nu (.inr (.inr (.inl rfl))))).upd u1 (by omega)).upd u2 (by omega)), fun wz hTz hRz => ⟨rfl, fun k => R k ∨ wl.heap.size ≤ k ∧ k < wz.heap.size, ⟨hRz, ?_, ?_, ⟨p', c', ?_, ?_⟩, ?_, ?_, ?_, ?_, .inl j10, .inl j11, .inl j12, ?_, ?_, ?_, ?_⟩, ?_, fun k hk => hk.imp id fun h => h.1⟩⟩
      all_goals have uz := hTz.upd
      all_goals have zz := uz.size
      · exact ((((((j2.upd uT (by omega)).ext x30).upd uj (nu (.inr (.inr (.inr ⟨by omega, nRk (by omega) (by omega) (by omega) (by omega)⟩))))).upd u1 (by omega)).upd u2 (by omega)).upd uz (by omega))
      · exact uz.cell (by omega) (u2.cell (by omega) (u1.cell (by omega) (uj.cell (nu (.inr (.inr (.inr ⟨by omega, nRk (by omega) (by omega) (by omega) (by omega)⟩)))) (x30.cell c2'))))
      · rw [stepsE_snoc, List.length_append, ← he]
        exact uz.cell (by omega) (u2.cell (by omega) (t1.cell k7'))
      · rw [stepsE_snoc, List.length_append, ← he]
        have o2 : OwnR EditV w37 (fun k => (R k ∨ wl.heap.size ≤ k ∧ k < wz.heap.size) ∧ k ≠ b7 ∧ k ≠ b8 ∧ k ≠ lr) 43 3 p' ((stepsE ns d).length + es.length) c' (stepsE ns d ++ es) := oj.wider EditV.widens fun k hk hh => by
          rcases hh with hh | hh
          · exact ⟨.inl hh.1, hh.2⟩
          · exact ⟨.inr ⟨by omega, by omega⟩, by omega, by omega, by omega⟩
        exact ((o2.upd EditV.stable u1 fun k hk e => hk.2.1 e).upd EditV.stable u2 fun k hk e => hk.2.2.1 e).upd EditV.stable uz fun k hk e => hk.2.2.2 e
      · rw [lastC_snoc, ← hx]
        exact uz.cell (by omega) (t2.cell (t1.can k8'))
      · exact uz.can (by omega) (t2.can (t1.can k7'))
      · exact uz.can (by omega) (t2.can (t1.can k8'))
      · refine Upd.then (Upd.then (Upd.then (Upd.then (Ext.then (Upd.then j9 uT fun k hk e => ?_) x30) uj fun k hk ⟨a, ha, e⟩ => ?_) u1 fun k hk e => ?_) u2 fun k hk e => ?_) uz fun k hk e => ?_
        · have e : k = lr := e; omega
        · have := j15 _ (hpR a ha).1; omega
        · have e : k = b7 := e; omega
        · have e : k = b8 := e; omega
        · have e : k = lr := e; omega
      · intro k hk hh
        rcases hh with hh | hh
        · exact j13 k hk hh
        · omega
      · intro k hh
        rcases hh with hh | hh
        · have := j14 k hh; omega
        · exact hh.2
      · intro k hh
        rcases hh with hh | hh
        · exact j15 k hh
        · have := j9.size; omega
      · omega
      · refine Upd.then (Upd.then (Upd.then (Upd.then (Ext.then (Upd.mono uT fun k hk e => ?_) x30) uj fun k hk ⟨a, ha, e⟩ => ?_) u1 fun k hk e => ?_) u2 fun k hk e => ?_) uz fun k hk e => ?_
        · rw [show k = lr from e]; exact j12
        · exact e ▸ (hpR a ha).1
        · rw [show k = b7 from e]; exact j10
        · rw [show k = b8 from e]; exact j11
        · rw [show k = lr from e]; exact j12
    refine brr (fun qb wd hd => ?_) fun qb wd hd => ?_
    all_goals
      have xd : Ext wb wd := Ext.thn hb12.ext hd.ext
      have cd1 := hd.ext.cell (hb12.cell 1 rfl)
      have cd2 := hd.ext.cell (hb12.cell 2 rfl)
    · refine ⟨fun v => Ext wd v, Upd.refl _ _, _, _, _, fun v hv => (Ext.thn xd hv).cell c7, _, _, _, cd1, (owns_does (a4.ext xd) rfl _ (hm _ (List.getElem_mem hs1))).imp ?_⟩
      rintro e w36 ⟨p36, c36, rfl, o36, x36⟩
      obtain ⟨p', c', w37, hr, oj, uj⟩ := OwnR.join EditV.stable EditV.widens (fun _ _ _ _ h => EditV.one h) slE 45 (ob.upd EditV.stable (Ext.thn xd x36) fun k _ => id) o36 (fun a ha => by have := hpw a ha; have := xd.size; omega) x36.size (by simp only [maxLen]; omega) (by omega)
      have nu7 : ¬ ∃ a, p = some a ∧ a.block = b7 := fun ⟨a, ha, e⟩ => (hpR a ha).2.1 e
      have nu8 : ¬ ∃ a, p = some a ∧ a.block = b8 := fun ⟨a, ha, e⟩ => (hpR a ha).2.2.1 e
      have k7' := uj.can nu7 ((Ext.thn xd x36).can k7)
      have k8' := uj.can nu8 ((Ext.thn xd x36).can k8)
      have nb11 : ¬ ∃ a, p = some a ∧ a.block = b11 := fun ⟨a, ha, e⟩ => by have := hpw a ha; have := hb12.eq; omega
      refine ⟨_, _, _, rfl, x36, p', _, c', w37, hr, k7', fun v1 t1 => ?_⟩
      have nb117 : b11 ≠ b7 := by have := hb12.eq; have := uT.size; omega
      obtain ⟨b3, o3, u1', d1', u2', d2', hq3, hok3, e3, _⟩ := a4.at 0 hpos
      have hb3A : A b3 ∧ b3 ≠ b := hok3
      have n3p : ¬ ∃ a, p = some a ∧ a.block = b3 := fun ⟨a, ha, e⟩ => by have := j15 _ (hpR a ha).1; have := hAlt b3 hb3A.1; omega
      have n37 : b3 ≠ b7 := by have := hAlt b3 hb3A.1; omega
      refine ⟨_, _, _, t1.upd.cell nb117 (uj.cell nb11 (x36.cell cd1)), ⟨by omega, by omega⟩, b3, o3, hq3, _, t1.upd.cell n37 (uj.cell n3p ((Ext.thn xd x36).cell e3)), t1.can k8', fun v2 t2 => ?_⟩
      exact fin (Ext.thn xd x36) xd.size oj uj (by unfold stepE; rw [if_pos qb, hgd]) (by unfold stepC; rw [if_pos qb, hgd, headAt_at hpos]) t1 t2
    · refine ⟨fun v => Ext wd v, Upd.refl _ _, _, _, _, fun v hv => (Ext.thn xd hv).cell c7, _, _, _, cd1, (turn_does (a4.ext xd) rfl _ (hm _ (List.getElem_mem hs1)).1 (hm _ (List.getElem_mem hs1)).2).imp ?_⟩
      rintro e w36 ⟨p36, c36, rfl, o36, x36⟩
      have htl := turnE_len ns[s.1].es
      rw [← htl] at o36 ⊢
      obtain ⟨p', c', w37, hr, oj, uj⟩ := OwnR.join EditV.stable EditV.widens (fun _ _ _ _ h => EditV.one h) slE 45 (ob.upd EditV.stable (Ext.thn xd x36) fun k _ => id) o36 (fun a ha => by have := hpw a ha; have := xd.size; omega) x36.size (by simp only [maxLen]; omega) (by omega)
      have nu7 : ¬ ∃ a, p = some a ∧ a.block = b7 := fun ⟨a, ha, e⟩ => (hpR a ha).2.1 e
      have nu8 : ¬ ∃ a, p = some a ∧ a.block = b8 := fun ⟨a, ha, e⟩ => (hpR a ha).2.2.1 e
      have k7' := uj.can nu7 ((Ext.thn xd x36).can k7)
      have k8' := uj.can nu8 ((Ext.thn xd x36).can k8)
      have nb11 : ¬ ∃ a, p = some a ∧ a.block = b11 := fun ⟨a, ha, e⟩ => by have := hpw a ha; have := hb12.eq; omega
      refine ⟨_, _, _, rfl, x36, p', _, c', w37, hr, k7', fun v1 t1 => ?_⟩
      have nb117 : b11 ≠ b7 := by have := hb12.eq; have := uT.size; omega
      refine ⟨_, t1.upd.cell nb117 (uj.cell nb11 (x36.cell cd2)), t1.can k8', fun v2 t2 => ?_⟩
      exact fin (Ext.thn xd x36) xd.size oj uj (by unfold stepE; rw [if_neg (by rw [qb]; decide), hgd]) (by unfold stepC; rw [if_neg (by rw [qb]; decide), hgd]) t1 t2
  · -- at the end
    rintro e we ⟨rfl, R, j1, j2, j3, ⟨p, c, j4, j5⟩, j6, j7, j8, j9, j10, j11, j12, j13, j14, j15, j16⟩
    refine ⟨_, rfl, j1, fun wz hT => ?_⟩
    have uT := hT.upd
    have hbl := hAlt b H0.mem
    have nlr : ∀ k, A k → ¬ k = lr := fun k hk e => by have := hAlt k hk; omega
    have hz := K.upd _ _ _ _ (K.ext _ _ _ h j9) uT nlr
    refine ⟨_, uT.cell (show ¬ b2 = lr by omega) j3, b, 0, rfl, (K.hs _ _ hz).can1, fun ws2 hs2 wd15 hd15 => ?_⟩
    have us := hs2.upd
    have hs2' := hs2
    rw [show n = (n.toNat : Int) by omega] at hs2'
    have hg := K.ext _ _ _ (K.goto _ _ _ _ hz hs2') hd15.ext
    refine ⟨_, _, _, hd15.ext.cell (us.cell (show ¬ b7 = b by omega) (uT.cell (show ¬ b7 = lr by omega) j4)), _, hd15.ext.cell (us.cell (show ¬ b8 = b by omega) (uT.cell (show ¬ b8 = lr by omega) j6)), leaves_marks (Ds := [Dr]) (by simp) (fun D hD => ?_) fun w' hu' => ?_⟩
    · rw [List.mem_singleton.1 hD]
      exact ((j2.upd uT (by omega)).upd us (by omega)).ext hd15.ext
    · have hDn : ∀ k, A k → ¬ k ∈ [Dr] := fun k hk e => by have := hAlt k hk; have := List.mem_singleton.1 e; omega
      have nDR : ¬ R Dr := fun hr => by have := j13 Dr (by omega) hr; omega
      have nbR : ¬ R b := fun hr => by have := j15 b hr; omega
      have o' : OwnR EditV w' (fun k => R k ∧ k ≠ b7 ∧ k ≠ b8 ∧ k ≠ lr) 43 3 p (stepsE ns (wayF (paF ns) cur n.toNat)).length c (stepsE ns (wayF (paF ns) cur n.toNat)) :=
        (((j5.upd EditV.stable uT fun k hk e => hk.2.2.2 e).upd EditV.stable us fun k hk e => nbR (by rw [show k = b from e] at hk; exact hk.1)).upd EditV.stable hd15.ext fun k _ => id).upd EditV.stable hu' fun k hk e => nDR (by rw [List.mem_singleton.1 e] at hk; exact hk.1)
      refine ⟨⟨p, c, w.heap.size, rfl, OwnR.ownl EditV.widens o' fun k hk => j15 k hk.1, Nat.le_refl _, ?_⟩, K.upd _ _ _ _ hg hu' hDn⟩
      refine Upd.then (Ext.then (Upd.then (Upd.then (Upd.mono j9 fun k _ e => e.elim) uT fun k hk e => ?_) us fun k _ e => e) hd15.ext) hu' fun k hk e => ?_
      · have e : k = lr := e; omega
      · have := List.mem_singleton.1 e; omega
theorem rjump_does (K : Keeps St A b ns) (h : St w cur) (hn : 0 < ns.length) (hm : Mods ns) (ok : okL ns) (hc : cur < ns.length) (hn6 : ns.length ≤ 65536) (hE : ∀ n ∈ ns, n.es.length ≤ 10000) (n : Int) :
    Does Try.prog 31 #[.pointer (some ⟨b, 0, none⟩), .int .i64 n] w fun e w' => TellsE w (jumpE ns cur n) (jumpC ns cur n) (decide (thereB ns n)) (fun k => k = b) e w' ∧ St w' (jumpN ns cur n) := by
  apply f31_does
  have H0 := K.hs _ _ h
  obtain ⟨p0, c0, _, g0, _⟩ := H0.row
  have none_ : ¬ thereB ns n → TellsE w (jumpE ns cur n) (jumpC ns cur n) (decide (thereB ns n)) (fun k => k = b) (.returned (.tuple #[.slice none 0 0, .int .i64 0, .bool false])) w ∧ St w (jumpN ns cur n) := fun q => by
    unfold jumpE jumpC jumpN
    rw [if_neg q, if_neg q, if_neg q, decide_eq_false q]
    exact ⟨tells_none _ _, h⟩
  refine brr (fun q => none_ fun k => by have := k.1; have := of_decide_eq_true q; omega) fun q0 => ⟨b, 0, rfl, _, _, _, g0, brr (fun q => none_ fun k => by have := k.2; have := of_decide_eq_true q; omega) fun q1 => ?_⟩
  have q0 := of_decide_eq_false q0
  have q1 := of_decide_eq_false q1
  have q : thereB ns n := ⟨by omega, by omega⟩
  unfold jumpE jumpC jumpN
  rw [if_pos q, if_pos q, if_pos q, decide_eq_true q]
  have hpa := paF_lt ok
  obtain ⟨t, rfl⟩ := Int.eq_ofNat_of_zero_le (show 0 ≤ n by omega)
  rw [Int.toNat_natCast]
  have htl : t < ns.length := by omega
  have hlen : (wayF (paF ns) cur t).length ≤ 131072 := by
    have := way_len hpa _ cur t (Nat.le_refl _)
    omega
  have hbl := H0.lt b H0.mem
  have Sz : ∀ {f : Nat} {wv : World}, St wv f → wv.cell? ⟨b, 1, none⟩ = some (.int .i64 (f : Int)) := fun hv => (K.hs _ _ hv).at1
  -- a step's edits behind those told so far
  have step : ∀ {d : List (Nat × Bool)} {s : Nat × Bool} {rest : List (Nat × Bool)} {wv w1 : World} {p q : Option Addr} {c c1 base : Nat} {es : List E}, d ++ s :: rest = wayF (paF ns) cur t → s.1 < ns.length → es = stepE ns s → OwnL EditV wv w.heap.size 43 3 p (stepsE ns d).length c (stepsE ns d) → Upd (fun k => k = b) w wv → Upd (fun k => k = b) wv w1 →
      OwnL EditV w1 base 43 3 q es.length c1 es → wv.heap.size ≤ base → ∃ p' c' w2, (Builtin.append_ #[45, 45] 45 #[.slice p (stepsE ns d).length c, .slice q es.length c1]).run Try.prog w1 = .ok (.slice p' ((stepsE ns d).length + es.length) c') w2 ∧ (stepsE ns d).length + es.length = (stepsE ns (d ++ [s])).length ∧
        OwnL EditV w2 w.heap.size 43 3 p' ((stepsE ns d).length + es.length) c' (stepsE ns (d ++ [s])) ∧ Upd (fun k => k = b) w w2 ∧ ∀ f, St w1 f → St w2 f := by
    intro d s rest wv w1 p q c c1 base es hway hs1 he ho hu hu1 hq hbase
    have hd1 : d.length < 131072 := by
      have := congrArg List.length hway
      simp only [List.length_append, List.length_cons] at this
      omega
    have hsl := stepsE_len hE d
    have hel : es.length ≤ 10000 := by
      have := stepsE_len hE [s]
      have e1 : stepsE ns [s] = stepE ns s := by unfold stepsE; simp
      rw [e1, ← he] at this
      simpa using this
    have ho1 := ho.upd EditV.stable EditV.widens hu1 fun k hk _ e => by have e : k = b := e; omega
    have hz := hu.size
    have hz1 := hu1.size
    obtain ⟨p', c', w2, hr, ho2, hu2⟩ := OwnL.join EditV.stable EditV.widens (fun _ _ _ _ h => EditV.one h) slE 45 ho1 hq (by omega) (fun a ha => by have := (ho.base ha).2; omega) (by simp only [maxLen]; omega) (by omega) (by omega)
    rw [he, ← stepsE_snoc] at ho2
    have u12 : Upd (fun k => k = b) w w2 := Upd.then (Upd.then hu hu1 fun k _ e => e) hu2 fun k hk ⟨a, ha, e⟩ => by have := (ho.base ha).1; omega
    refine ⟨p', c', w2, hr, by rw [stepsE_snoc, List.length_append, he], by rw [he]; exact ho2, u12, fun f hf => K.upd _ _ _ _ hf hu2 fun k hk ⟨a, ha, e⟩ => by have := (ho.base ha).1; have := H0.lt k hk; omega⟩
  refine ⟨fun p l c x nl wl => ∃ (f : Nat) (d : List (Nat × Bool)), f = nl ∧ x = lastC ns d ∧ l = (stepsE ns d).length ∧ OwnL EditV wl w.heap.size 43 3 p l c (stepsE ns d) ∧ d ++ wayF (paF ns) f t = wayF (paF ns) cur t ∧ St wl f ∧ f < ns.length ∧ Upd (fun k => k = b) w wl,
    ⟨_, cur, [], rfl, rfl, rfl, OwnL.nil _ _ _ _, rfl, h, hc, Upd.refl _ _⟩, ?_⟩
  rintro p7 _ c7 _ _ wl ⟨f, d, rfl, rfl, rfl, ho, hway, hSt, hf, hu⟩
  refine ⟨b, 0, rfl, _, Sz hSt, ?_⟩
  refine (above_does (K.hs _ _ hSt) ok f t htl).imp ?_
  rintro e w32 ⟨rfl, rfl⟩
  refine ⟨_, rfl, brr (fun qa => ?_) fun qa => ?_⟩
  · have qa : aboveF (paF ns) f t = false := by simpa using qa
    obtain ⟨f0, hw⟩ := way_not hpa t f qa
    rw [hw] at hway
    refine (rundo_does K hSt hn hm ok hf hn6).imp ?_
    rintro e w36 ⟨⟨p36, c36, base36, rfl, o36, hb36, u36⟩, h36⟩
    have eE : undoE ns f = stepE ns (f, false) := by unfold undoE stepE; rw [if_neg f0, if_neg Bool.false_ne_true]
    have eC : undoC ns f = lastC ns (d ++ [(f, false)]) := by rw [lastC_snoc]; unfold undoC stepC; rw [if_neg f0, if_neg Bool.false_ne_true]
    have eN : undoN ns f = paF ns f := by unfold undoN paF; rw [if_neg f0]
    obtain ⟨p', c', w42, hr, hl, ho', hu', hSt'⟩ := step hway hf eE ho hu u36 o36 hb36
    rw [eN] at h36
    have := hpa f f0
    exact ⟨_, _, _, _, _, rfl, p', _, c', w42, hr, _, this, paF ns f, d ++ [(f, false)], rfl, eC, hl, ho', by rw [List.append_assoc]; exact hway, hSt' _ h36, by omega, hu'⟩
  have qa : aboveF (paF ns) f t = true := by simpa using qa
  refine ⟨fun p l c x nl wv => ∃ (f : Nat) (d : List (Nat × Bool)), nl = t - f ∧ x = lastC ns d ∧ l = (stepsE ns d).length ∧ OwnL EditV wv w.heap.size 43 3 p l c (stepsE ns d) ∧ d ++ wayF (paF ns) f t = wayF (paF ns) cur t ∧ St wv f ∧ f < ns.length ∧ Upd (fun k => k = b) w wv ∧ aboveF (paF ns) f t = true,
    ⟨_, f, d, rfl, rfl, rfl, ho, hway, hSt, hf, hu, qa⟩, ?_⟩
  rintro p7 _ c7 _ _ wl ⟨f, d, rfl, rfl, rfl, ho, hway, hSt, hf, hu, qa⟩
  refine ⟨b, 0, rfl, _, Sz hSt, brr (fun qn => ?_) fun qn => ?_⟩
  · have qn : f ≠ t := by
      have : (f : Int) ≠ (t : Int) := by simpa using qn
      omega
    obtain ⟨z1, z2, z3, z4, z5⟩ := way_above hpa t f qa qn
    refine ⟨fun x nl wv => ∃ k : Nat, x = k ∧ k = nl ∧ k ≤ t ∧ f < k ∧ aboveF (paF ns) f k = true ∧ childF (paF ns) f k = childF (paF ns) f t ∧ Ext wl wv, ⟨_, t, rfl, rfl, Nat.le_refl _, by omega, qa, rfl, Upd.refl _ _⟩, ?_⟩
    rintro _ _ wv ⟨k, rfl, rfl, hk, hfk, hak, hck, xv⟩ wd hd
    have xd := Ext.thn xv hd.ext
    have hSd := K.ext _ _ _ hSt xd
    have Hd := K.hs _ _ hSd
    obtain ⟨q2, c2, _, g1, g2⟩ := Hd.row
    have hkl : k < ns.length := by omega
    obtain ⟨bb, o, p1, c1, hp, _, a1, _⟩ := g2.at k hkl
    have hpk := hpa k (by omega)
    have hpar : ns[k].par = (paF ns k : Nat) := by
      unfold paF
      rw [getD_at hkl]
      have := below ok hkl (by omega)
      omega
    refine ⟨b, 0, rfl, _, _, _, g1, ⟨by omega, by omega⟩, bb, o, hp, _, a1, b, 0, rfl, _, Hd.at1, brr (fun qp => ?_) fun qp => ?_⟩
    · have qp : paF ns k ≠ f := by
        have : ns[k].par ≠ (f : Int) := by simpa using qp
        omega
      rw [above_lt hfk hpk] at hak
      rw [child_up qp hpk] at hck
      refine ⟨b, 0, rfl, _, _, _, g1, ⟨by omega, by omega⟩, bb, o, hp, _, a1, _, hpk, paF ns k, hpar, rfl, by omega, ?_, hak, hck, xd⟩
      rcases Nat.lt_trichotomy f (paF ns k) with h1 | h1 | h1
      · exact h1
      · exact absurd h1.symm qp
      · rw [above_ge (by omega)] at hak
        have : paF ns k = f := by simpa using hak
        omega
    · have qp : paF ns k = f := by
        have : ns[k].par = (f : Int) := by simpa using qp
        omega
      rw [child_here qp] at hck
      rw [← hck] at z1 z2 z3 z4 z5
      rw [z4] at hway
      refine (down_does K hSd hm ok hkl (by omega) hn6).imp ?_
      rintro e w75 ⟨p75, c75, base75, rfl, o75, hb75, u75, h75⟩
      have u75' : Upd (fun k => k = b) wl w75 := Upd.then (Upd.mono xd fun k _ e => e.elim) u75 fun k _ e => e
      have eE : ns[k].es = stepE ns (k, true) := by unfold stepE; rw [if_pos rfl, getD_at hkl]
      have eC : headAt ns[k].es = lastC ns (d ++ [(k, true)]) := by rw [lastC_snoc]; unfold stepC; rw [if_pos rfl, getD_at hkl]
      obtain ⟨p', c', w80, hr, hl, ho', hu', hSt'⟩ := step hway hkl eE ho hu u75' o75 (by have := xd.size; omega)
      exact ⟨_, _, _, _, rfl, p', _, c', w80, hr, _, by omega, k, d ++ [(k, true)], rfl, eC, hl, ho', by rw [List.append_assoc]; exact hway, hSt' _ h75, hkl, hu', z5⟩
  · have qn : f = t := by
      have : (f : Int) = (t : Int) := by simpa using qn
      omega
    subst qn
    rw [way_same, List.append_nil] at hway
    rw [← hway]
    exact ⟨⟨p7, c7, w.heap.size, rfl, ho, Nat.le_refl _, hu⟩, hSt⟩
end
end Go.Proofs.Ytbnjlnbmdkbpkaa
