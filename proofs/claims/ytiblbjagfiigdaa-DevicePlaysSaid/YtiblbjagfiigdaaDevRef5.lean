/-
  Devices: the reference's Crash.
-/
import Derived.Test.YtiblbjagfiigdaaDevRef4
namespace Go.Vc
open Go.RowKit
/-- A page of which j bytes have been looked at. -/
def tearB (c : Int) (j : Nat) (b a : List Int) : List Int := (List.range 256).map fun i => if i < j ∧ bit c (i / 64) = true then b.getD i 0 else a.getD i 0
theorem tearB_zero {c : Int} {b a : List Int} (ha : a.length = 256) : tearB c 0 b a = a := by
  refine List.ext_getElem (by simp [tearB, ha]) fun i h1 h2 => ?_
  simp [tearB, h2]
theorem tearB_all {c : Int} {b a : List Int} : tearB c 256 b a = tear c b a := by
  unfold tearB tear
  refine List.map_congr_left fun j hj => ?_
  have := List.mem_range.1 hj
  simp [this]
theorem tearB_len (c : Int) (j : Nat) (b a : List Int) : (tearB c j b a).length = 256 := by simp [tearB]
theorem tearB_no {c : Int} {j : Nat} {b a : List Int} (h : bit c (j / 64) = false) : tearB c (j + 1) b a = tearB c j b a := by
  unfold tearB
  refine List.map_congr_left fun i _ => ?_
  by_cases hi : i = j
  · subst hi; rw [h]; simp
  · have : (i < j + 1 ∧ bit c (i / 64) = true) ↔ (i < j ∧ bit c (i / 64) = true) := ⟨fun ⟨h1, h2⟩ => ⟨by omega, h2⟩, fun ⟨h1, h2⟩ => ⟨by omega, h2⟩⟩
    simp only [this]
theorem tearB_yes {c : Int} {j : Nat} {b a : List Int} (hj : j < 256) (hb : b.length = 256) (h : bit c (j / 64) = true) : (tearB c j b a).set j (b[j]'(by omega)) = tearB c (j + 1) b a := by
  refine List.ext_getElem (by simp [tearB]) fun i h1 h2 => ?_
  rw [List.getElem_set]
  simp only [tearB, List.getElem_map, List.getElem_range]
  by_cases hi : j = i
  · subst hi
    rw [if_pos rfl, if_pos ⟨by omega, h⟩, getD_at _ (by omega)]
  · rw [if_neg hi]
    have : (i < j + 1 ∧ bit c (i / 64) = true) ↔ (i < j ∧ bit c (i / 64) = true) := ⟨fun ⟨h1, h2⟩ => ⟨by omega, h2⟩, fun ⟨h1, h2⟩ => ⟨by omega, h2⟩⟩
    simp only [this]
theorem tearB_pg {c : Int} {j : Nat} {a b : List Int} (ha : Pg a) (hb : Pg b) : Pg (tearB c j b a) := by
  refine ⟨tearB_len _ _ _ _, fun x hx => ?_⟩
  obtain ⟨i, hi, rfl⟩ := List.mem_map.1 hx
  have hi := List.mem_range.1 hi
  split
  · rw [getD_at _ (by rw [hb.1]; exact hi)]; exact hb.2 _ (List.getElem_mem _)
  · rw [getD_at _ (by rw [ha.1]; exact hi)]; exact ha.2 _ (List.getElem_mem _)
/-- A device that is made behind a crash: its pages can be written, each lies by itself. -/
structure XAt (w : World) (base n0 bx n : Nat) (ps : Option Addr) (cs : Nat) (pn : Option Addr) (cn : Nat) (pw : Option Addr) (cw : Nat) (po : Option Addr) (co : Nat) (vn vs vw : List Value) (T : List (List Int)) (q : Nat → Nat) : Prop where
  hbx : base ≤ bx ∧ bx < n0
  hn0 : n0 ≤ w.heap.size
  tn : T.length ≤ n
  vnl : vn.length = n
  blk : Blk w bx [.slice ps n cs, .slice pn n cn, .slice pw 0 cw, .slice po 0 co, .int .i64 (-1), .int .i64 0, .bool false]
  now : Row w (fun g => (base ≤ g ∧ g < n0) ∧ g ≠ bx) 1 pn n cn vn
  sure : Row w (fun g => (base ≤ g ∧ g < n0) ∧ g ≠ bx ∧ Off pn g) 1 ps n cs vs
  since : Row w (fun g => (base ≤ g ∧ g < n0) ∧ g ≠ bx ∧ Off pn g ∧ Off ps g) 2 pw 0 cw vw
  out : Row w (fun g => (base ≤ g ∧ g < n0) ∧ g ≠ bx ∧ Off pn g ∧ Off ps g ∧ Off pw g) 1 po 0 co []
  vs : Pgl w (fun g => (base ≤ g ∧ g < n0) ∧ g ≠ bx ∧ Off pn g ∧ Off ps g ∧ Off pw g ∧ Off po g) vs (List.replicate n zeroP)
  pages : ∀ (i : Nat) (hi : i < T.length), Pg T[i] ∧ n0 ≤ q i ∧ ∃ o c, vn[i]? = some (.slice (some ⟨q i, o, none⟩) 256 c) ∧ Row w (fun g => g = q i) 1 (some ⟨q i, o, none⟩) 256 c (T[i].map (Value.int .u8))
  inj : ∀ i j, i < T.length → j < T.length → q i = q j → i = j
section
variable {w w' : World} {base n0 bx n : Nat} {ps : Option Addr} {cs : Nat} {pn : Option Addr} {cn : Nat} {pw : Option Addr} {cw : Nat} {po : Option Addr} {co : Nat} {vn vs vw : List Value} {T : List (List Int)} {q : Nat → Nat}
theorem XAt.ext (h : XAt w base n0 bx n ps cs pn cn pw cw po co vn vs vw T q) (hu : Ext w w') : XAt w' base n0 bx n ps cs pn cn pw cw po co vn vs vw T q :=
  { h with
    hn0 := Nat.le_trans h.hn0 hu.size
    blk := h.blk.ext hu
    now := h.now.ext hu
    sure := h.sure.ext hu
    since := h.since.ext hu
    out := h.out.ext hu
    vs := h.vs.upd hu fun _ _ _ => id
    pages := fun i hi => by
      obtain ⟨h1, h2, o, c, h3, h4⟩ := h.pages i hi
      exact ⟨h1, h2, o, c, h3, h4.ext hu⟩ }
theorem RefAt.x {S : Nat → Prop} (h : RefAt w S bx (Dev.new n) ps cs pn cn pw cw po co vn vs vw) (hS : ∀ g, g < w.heap.size → S g → base ≤ g) : XAt w base w.heap.size bx n ps cs pn cn pw cw po co vn vs vw [] q := by
  have hl : (Dev.new n).now.length = n := by show (List.replicate n _).length = n; rw [List.length_replicate]
  have A := h.mono (S' := fun g => base ≤ g ∧ g < w.heap.size) fun g hg hs => ⟨hS g hg hs, hg⟩
  have B := A.blk
  have N := A.now
  have U := A.sure
  rw [hl] at B N U
  have C := A.since
  have O := A.out
  exact ⟨A.sb, Nat.le_refl _, Nat.zero_le _, by have := N.1; omega, B, N, U, C, O, A.vs, fun i hi => by simp at hi, fun i j hi => by simp at hi⟩
/-- One more page. -/
theorem XAt.push (h : XAt w base n0 bx n ps cs pn cn pw cw po co vn vs vw T q) (hk : T.length < n) {g o c : Nat} {x : List Int} (hp : Pg x) (hg : n0 ≤ g) (hR : Row w (fun z => z = g) 1 (some ⟨g, o, none⟩) 256 c (x.map (Value.int .u8))) (hne : ∀ i, i < T.length → q i ≠ g) :
    ∃ gn on, pn = some ⟨gn, on, none⟩ ∧ CanStore w gn (on + T.length) ∧ ∀ w', Stored w gn (on + T.length) (.slice (some ⟨g, o, none⟩) 256 c) w' →
      XAt w' base n0 bx n ps cs pn cn pw cw po co (vn.set T.length (.slice (some ⟨g, o, none⟩) 256 c)) vs vw (T ++ [x]) (fun i => if i = T.length then g else q i) ∧ Upd (fun z => base ≤ z) w w' := by
  obtain ⟨gn, on, e, hgn, hc, _⟩ := h.now.can (j := T.length) (by rw [h.vnl]; exact hk)
  subst e
  refine ⟨gn, on, rfl, hc, fun w' s => ⟨?_, s.upd.mono fun z _ e => e ▸ hgn.1.1⟩⟩
  have hu := s.upd
  have nb : ∀ z, Off (some ⟨gn, on, none⟩) z → ¬ z = gn := fun z hz e => hz _ rfl e.symm
  have hqn : ∀ z, n0 ≤ z → z ≠ gn := fun z hz e => by have := hgn.1.2; omega
  exact {
    hbx := h.hbx
    hn0 := Nat.le_trans h.hn0 hu.size
    tn := by rw [List.length_append]; exact hk
    vnl := by rw [List.length_set]; exact h.vnl
    blk := h.blk.upd hu fun e => hgn.2 e.symm
    now := h.now.set (j := T.length) (by rw [h.vnl]; exact hk) s
    sure := h.sure.upd hu fun a ha => nb _ (h.sure.lt ha).1.2.2
    since := h.since.upd hu fun a ha => nb _ (h.since.lt ha).1.2.2.1
    out := h.out.upd hu fun a ha => nb _ (h.out.lt ha).1.2.2.1
    vs := h.vs.upd hu fun z _ hz => nb z hz.2.2.1
    pages := fun i hi => by
      rw [List.length_append, List.length_singleton] at hi
      by_cases e : i = T.length
      · subst e
        rw [List.getElem_append_right (Nat.le_refl _)]
        simp only [Nat.sub_self, List.getElem_cons_zero, if_true]
        exact ⟨hp, hg, o, c, by rw [List.getElem?_set_self (by rw [h.vnl]; exact hk)], hR.upd hu fun a ha => by injection ha with ha; subst ha; exact hqn g hg⟩
      · have hi' : i < T.length := by omega
        obtain ⟨h1, h2, o', c', h3, h4⟩ := h.pages i hi'
        rw [List.getElem_append_left hi']
        simp only [if_neg e]
        exact ⟨h1, h2, o', c', by rw [List.getElem?_set_ne (Ne.symm e)]; exact h3, h4.upd hu fun a ha => by injection ha with ha; subst ha; exact hqn _ h2⟩
    inj := fun i j hi hj e => by
      rw [List.length_append, List.length_singleton] at hi hj
      by_cases e1 : i = T.length
      · by_cases e2 : j = T.length
        · omega
        · simp only [if_pos e1, if_neg e2] at e
          exact absurd e.symm (hne j (by omega))
      · by_cases e2 : j = T.length
        · simp only [if_pos e2, if_neg e1] at e
          exact absurd e (hne i (by omega))
        · simp only [if_neg e1, if_neg e2] at e
          exact h.inj i j (by omega) (by omega) e }
/-- One byte. -/
theorem XAt.byte (h : XAt w base n0 bx n ps cs pn cn pw cw po co vn vs vw T q) {p : Nat} (hp : p < T.length) {j : Nat} (hj : j < 256) {z : Int} (hz : InK .u8 z) :
    ∃ o c, vn[p]? = some (.slice (some ⟨q p, o, none⟩) 256 c) ∧ CanStore w (q p) (o + j) ∧ ∀ w', Stored w (q p) (o + j) (.int .u8 z) w' →
      XAt w' base n0 bx n ps cs pn cn pw cw po co vn vs vw (T.set p (T[p].set j z)) q ∧ Upd (fun y => base ≤ y) w w' := by
  obtain ⟨h1, h2, o, c, h3, h4⟩ := h.pages p hp
  obtain ⟨g', o', e, _, hc, _⟩ := h4.can (j := j) (by rw [List.length_map, h1.1]; exact hj)
  injection e with e; injection e with e1 e2; subst e1; subst e2
  have hbase : base ≤ q p := by have := h.hbx; omega
  refine ⟨o, c, h3, hc, fun w' s => ⟨?_, s.upd.mono fun y _ e => e ▸ hbase⟩⟩
  have hu := s.upd
  have nin : ∀ y, (base ≤ y ∧ y < n0) → ¬ y = q p := fun y hy e => by omega
  exact {
    hbx := h.hbx
    hn0 := Nat.le_trans h.hn0 hu.size
    tn := by rw [List.length_set]; exact h.tn
    vnl := h.vnl
    blk := h.blk.upd hu (nin _ h.hbx)
    now := h.now.upd hu fun a ha => nin _ (h.now.lt ha).1.1
    sure := h.sure.upd hu fun a ha => nin _ (h.sure.lt ha).1.1
    since := h.since.upd hu fun a ha => nin _ (h.since.lt ha).1.1
    out := h.out.upd hu fun a ha => nin _ (h.out.lt ha).1.1
    vs := h.vs.upd hu fun y _ hy => nin y hy.1
    pages := fun i hi => by
      rw [List.length_set] at hi
      by_cases e : p = i
      · subst e
        rw [List.getElem_set_self]
        refine ⟨⟨by rw [List.length_set]; exact h1.1, fun y hy => ?_⟩, h2, o, c, h3, ?_⟩
        · rcases List.mem_or_eq_of_mem_set hy with hy | hy
          · exact h1.2 y hy
          · subst hy; exact hz
        · rw [List.map_set]
          exact h4.set (j := j) (by rw [List.length_map, h1.1]; exact hj) s
      · obtain ⟨k1, k2, o', c', k3, k4⟩ := h.pages i hi
        rw [List.getElem_set_ne e]
        exact ⟨k1, k2, o', c', k3, k4.upd hu fun a ha e' => by injection ha with ha; subst ha; exact e (h.inj p i hp hi e'.symm)⟩
    inj := fun i j' hi hj' e => by rw [List.length_set] at hi hj'; exact h.inj i j' hi hj' e }
/-- All pages are there: a device. -/
theorem XAt.ref (h : XAt w base n0 bx n ps cs pn cn pw cw po co vn vs vw T q) (hT : T.length = n) : RefAt w (fun g => base ≤ g) bx { fresh T with lasts := List.replicate n zeroP } ps cs pn cn pw cw po co vn vs vw := by
  have hf : ∀ {p : Option Addr} {ok : Nat → Prop} {sz l c : Nat} {cs : List Value}, Row w (fun g => (base ≤ g ∧ g < n0) ∧ ok g) sz p l c cs → ∀ y, n0 ≤ y → Off p y := fun h' y hy a ha e => by
    have := (h'.lt ha).1.1; omega
  have l1 : (fresh T).now.length = n := hT
  refine ⟨by show (List.replicate n zeroP).length = T.length; rw [List.length_replicate, hT], h.hbx.1, ?_, ?_, ?_, h.since.ok fun g _ hg => ⟨hg.1.1, hg.2⟩, h.out.ok fun g _ hg => ⟨hg.1.1, hg.2⟩, ⟨?_, ?_⟩, h.vs.ok fun g _ hg => ⟨hg.1.1, hg.2⟩, ⟨?_, fun i hi => by simp [fresh] at hi⟩, fun x hx => by simp [fresh] at hx⟩
  · show Blk w bx [.slice ps (fresh T).now.length cs, .slice pn (fresh T).now.length cn, .slice pw 0 cw, .slice po 0 co, .int .i64 (-1), .int .i64 0, .bool false]
    rw [l1]; exact h.blk
  · show Row w _ 1 pn (fresh T).now.length cn vn
    rw [l1]; exact h.now.ok fun g _ hg => ⟨hg.1.1, hg.2⟩
  · show Row w _ 1 ps (fresh T).now.length cs vs
    rw [l1]; exact h.sure.ok fun g _ hg => ⟨hg.1.1, hg.2⟩
  · rw [h.vnl]; exact hT.symm
  · intro i hi
    obtain ⟨k1, k2, o, c, k3, k4⟩ := h.pages i hi
    refine ⟨_, c, k3, k1, Ints.ok (k4.ints k1.2).2 fun y _ e => ?_⟩
    have e : y = q i := e
    have hy : n0 ≤ y := by omega
    have := h.hbx
    exact ⟨by omega, by omega, hf h.now y hy, hf h.sure y hy, hf h.since y hy, hf h.out y hy⟩
  · exact h.since.1
end
end Go.Vc
