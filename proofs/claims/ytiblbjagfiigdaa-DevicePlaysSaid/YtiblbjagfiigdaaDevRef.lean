/-
  Devices: the reference's device in memory; its ops.
-/
import Derived.Test.YtiblbjagfiigdaaDevLoad
namespace Go.Vc
open Go.RowKit
/-- Pages, each in its own memory. -/
def Pgl (w : World) (ok : Nat → Prop) (vs : List Value) (ps : List (List Int)) : Prop := vs.length = ps.length ∧ ∀ (i : Nat) (hi : i < ps.length), ∃ q c, vs[i]? = some (.slice q 256 c) ∧ Pg ps[i] ∧ Ints .u8 w ok q ps[i]
def Wrl (w : World) (ok : Nat → Prop) (vs : List Value) (ws : List (Nat × List Int)) : Prop :=
  vs.length = ws.length * 2 ∧ ∀ (i : Nat) (hi : i < ws.length), ∃ q c, vs[i * 2]? = some (.int .i64 ws[i].1) ∧ vs[i * 2 + 1]? = some (.slice q 256 c) ∧ Pg ws[i].2 ∧ Ints .u8 w ok q ws[i].2
theorem Pgl.upd {w w' : World} {ok T : Nat → Prop} {vs : List Value} {ps : List (List Int)} (h : Pgl w ok vs ps) (hu : Upd T w w') (ht : ∀ g, g < w.heap.size → ok g → ¬ T g) : Pgl w' ok vs ps :=
  ⟨h.1, fun i hi => by obtain ⟨q, c, h1, h2, h3⟩ := h.2 i hi; exact ⟨q, c, h1, h2, h3.upd' hu ht⟩⟩
theorem Pgl.ok {w : World} {ok ok' : Nat → Prop} {vs : List Value} {ps : List (List Int)} (h : Pgl w ok vs ps) (hok : ∀ g, g < w.heap.size → ok g → ok' g) : Pgl w ok' vs ps :=
  ⟨h.1, fun i hi => by obtain ⟨q, c, h1, h2, h3⟩ := h.2 i hi; exact ⟨q, c, h1, h2, Ints.ok h3 hok⟩⟩
theorem Pgl.set {w : World} {ok : Nat → Prop} {vs : List Value} {ps : List (List Int)} (h : Pgl w ok vs ps) (k : Nat) {q : Option Addr} {c : Nat} {x : List Int} (hp : Pg x) (hx : Ints .u8 w ok q x) : Pgl w ok (vs.set k (.slice q 256 c)) (ps.set k x) := by
  refine ⟨by simp [h.1], fun i hi => ?_⟩
  rw [List.length_set] at hi
  by_cases e : k = i
  · subst e
    rw [List.getElem?_set_self (by rw [h.1]; exact hi), List.getElem_set_self]
    exact ⟨q, c, rfl, hp, hx⟩
  · rw [List.getElem?_set_ne e, List.getElem_set_ne e]
    exact h.2 i hi
theorem Pgl.pg {w : World} {ok : Nat → Prop} {vs : List Value} {ps : List (List Int)} (h : Pgl w ok vs ps) : ∀ p ∈ ps, Pg p := fun p hp => by
  obtain ⟨i, hi, rfl⟩ := List.getElem_of_mem hp
  obtain ⟨_, _, _, h2, _⟩ := h.2 i hi
  exact h2
theorem Wrl.upd {w w' : World} {ok T : Nat → Prop} {vs : List Value} {ws : List (Nat × List Int)} (h : Wrl w ok vs ws) (hu : Upd T w w') (ht : ∀ g, g < w.heap.size → ok g → ¬ T g) : Wrl w' ok vs ws :=
  ⟨h.1, fun i hi => by obtain ⟨q, c, h1, h2, h3, h4⟩ := h.2 i hi; exact ⟨q, c, h1, h2, h3, h4.upd' hu ht⟩⟩
theorem Wrl.ok {w : World} {ok ok' : Nat → Prop} {vs : List Value} {ws : List (Nat × List Int)} (h : Wrl w ok vs ws) (hok : ∀ g, g < w.heap.size → ok g → ok' g) : Wrl w ok' vs ws :=
  ⟨h.1, fun i hi => by obtain ⟨q, c, h1, h2, h3, h4⟩ := h.2 i hi; exact ⟨q, c, h1, h2, h3, Ints.ok h4 hok⟩⟩
theorem Wrl.snoc {w : World} {ok : Nat → Prop} {vs : List Value} {ws : List (Nat × List Int)} (h : Wrl w ok vs ws) {n : Nat} {q : Option Addr} {c : Nat} {x : List Int} (hp : Pg x) (hx : Ints .u8 w ok q x) : Wrl w ok (vs ++ [.int .i64 n, .slice q 256 c]) (ws ++ [(n, x)]) := by
  have hl := h.1
  refine ⟨by simp [hl]; omega, fun i hi => ?_⟩
  rw [List.length_append, List.length_singleton] at hi
  by_cases e : i < ws.length
  · obtain ⟨q', c', h1, h2, h3, h4⟩ := h.2 i e
    rw [List.getElem?_append_left (by omega), List.getElem?_append_left (by omega), List.getElem_append_left e]
    exact ⟨q', c', h1, h2, h3, h4⟩
  · obtain rfl : i = ws.length := by omega
    rw [List.getElem?_append_right (by omega), List.getElem?_append_right (by omega), List.getElem_append_right (Nat.le_refl _)]
    simp only [hl, Nat.sub_self, show ws.length * 2 + 1 - ws.length * 2 = 1 by omega, List.getElem_cons_zero]
    exact ⟨q, c, rfl, rfl, hp, hx⟩
structure RefAt (w : World) (S : Nat → Prop) (b : Nat) (d : Dev) (ps : Option Addr) (cs : Nat) (pn : Option Addr) (cn : Nat) (pw : Option Addr) (cw : Nat) (po : Option Addr) (co : Nat) (vn vs vw : List Value) : Prop where
  len : d.lasts.length = d.now.length
  sb : S b
  blk : Blk w b [.slice ps d.now.length cs, .slice pn d.now.length cn, .slice pw d.writes.length cw, .slice po d.out.length co, .int .i64 d.fuse, .int .i64 d.ops, .bool d.dead]
  now : Row w (fun g => S g ∧ g ≠ b) 1 pn d.now.length cn vn
  sure : Row w (fun g => S g ∧ g ≠ b ∧ Off pn g) 1 ps d.now.length cs vs
  since : Row w (fun g => S g ∧ g ≠ b ∧ Off pn g ∧ Off ps g) 2 pw d.writes.length cw vw
  out : Row w (fun g => S g ∧ g ≠ b ∧ Off pn g ∧ Off ps g ∧ Off pw g) 1 po d.out.length co (d.out.map (Value.int .u8))
  vn : Pgl w (fun g => S g ∧ g ≠ b ∧ Off pn g ∧ Off ps g ∧ Off pw g ∧ Off po g) vn d.now
  vs : Pgl w (fun g => S g ∧ g ≠ b ∧ Off pn g ∧ Off ps g ∧ Off pw g ∧ Off po g) vs d.lasts
  vw : Wrl w (fun g => S g ∧ g ≠ b ∧ Off pn g ∧ Off ps g ∧ Off pw g ∧ Off po g) vw d.writes
  ob : ∀ x ∈ d.out, InK .u8 x
/-- The reference's device. -/
def RefM (w : World) (S : Nat → Prop) (b : Nat) (d : Dev) : Prop := ∃ ps cs pn cn pw cw po co vn vs vw, RefAt w S b d ps cs pn cn pw cw po co vn vs vw
section
variable {w : World} {S : Nat → Prop} {b : Nat} {d : Dev} {ps : Option Addr} {cs : Nat} {pn : Option Addr} {cn : Nat} {pw : Option Addr} {cw : Nat} {po : Option Addr} {co : Nat} {vn vs vw : List Value}
theorem RefAt.upd (h : RefAt w S b d ps cs pn cn pw cw po co vn vs vw) {T : Nat → Prop} {w' : World} (hu : Upd T w w') (ht : ∀ g, g < w.heap.size → S g → ¬ T g) : RefAt w' S b d ps cs pn cn pw cw po co vn vs vw :=
  { len := h.len, sb := h.sb, ob := h.ob, blk := h.blk.upd hu (ht b h.blk.lt h.sb),
    now := h.now.upd hu fun a ha => (have := h.now.lt ha; ht _ this.2 this.1.1),
    sure := h.sure.upd hu fun a ha => (have := h.sure.lt ha; ht _ this.2 this.1.1),
    since := h.since.upd hu fun a ha => (have := h.since.lt ha; ht _ this.2 this.1.1),
    out := h.out.upd hu fun a ha => (have := h.out.lt ha; ht _ this.2 this.1.1),
    vn := h.vn.upd hu fun g hg ho => ht g hg ho.1, vs := h.vs.upd hu fun g hg ho => ht g hg ho.1, vw := h.vw.upd hu fun g hg ho => ht g hg ho.1 }
theorem RefAt.mono (h : RefAt w S b d ps cs pn cn pw cw po co vn vs vw) {S' : Nat → Prop} (hs : ∀ g, g < w.heap.size → S g → S' g) : RefAt w S' b d ps cs pn cn pw cw po co vn vs vw :=
  { len := h.len, sb := hs b h.blk.lt h.sb, ob := h.ob, blk := h.blk,
    now := h.now.ok fun g hg ho => ⟨hs g hg ho.1, ho.2⟩, sure := h.sure.ok fun g hg ho => ⟨hs g hg ho.1, ho.2⟩, since := h.since.ok fun g hg ho => ⟨hs g hg ho.1, ho.2⟩, out := h.out.ok fun g hg ho => ⟨hs g hg ho.1, ho.2⟩,
    vn := h.vn.ok fun g hg ho => ⟨hs g hg ho.1, ho.2⟩, vs := h.vs.ok fun g hg ho => ⟨hs g hg ho.1, ho.2⟩, vw := h.vw.ok fun g hg ho => ⟨hs g hg ho.1, ho.2⟩ }
theorem RefM.upd (h : RefM w S b d) {T : Nat → Prop} {w' : World} (hu : Upd T w w') (ht : ∀ g, g < w.heap.size → S g → ¬ T g) : RefM w' S b d := by
  obtain ⟨ps, cs, pn, cn, pw, cw, po, co, vn, vs, vw, h⟩ := h
  exact ⟨ps, cs, pn, cn, pw, cw, po, co, vn, vs, vw, h.upd hu ht⟩
theorem RefM.mono (h : RefM w S b d) {S' : Nat → Prop} (hs : ∀ g, g < w.heap.size → S g → S' g) : RefM w S' b d := by
  obtain ⟨ps, cs, pn, cn, pw, cw, po, co, vn, vs, vw, h⟩ := h
  exact ⟨ps, cs, pn, cn, pw, cw, po, co, vn, vs, vw, h.mono hs⟩
theorem RefM.ext (h : RefM w S b d) {w' : World} (hu : Ext w w') : RefM w' S b d := h.upd hu fun _ _ _ => id
theorem RefM.lt (h : RefM w S b d) : RefM w (fun g => S g ∧ g < w.heap.size) b d := h.mono fun _ hg hs => ⟨hs, hg⟩
theorem RefM.sb (h : RefM w S b d) : S b ∧ b < w.heap.size := by
  obtain ⟨ps, cs, pn, cn, pw, cw, po, co, vn, vs, vw, h⟩ := h
  exact ⟨h.sb, h.blk.lt⟩
/-- Another header. -/
theorem RefAt.hdr (h : RefAt w S b d ps cs pn cn pw cw po co vn vs vw) {w' : World} {d' : Dev} {po' : Option Addr} {co' : Nat} (hu : Upd (fun z => z = b) w w')
    (hb : Blk w' b [.slice ps d.now.length cs, .slice pn d.now.length cn, .slice pw d.writes.length cw, .slice po' d'.out.length co', .int .i64 d'.fuse, .int .i64 d'.ops, .bool d'.dead])
    (h1 : d'.now = d.now) (h2 : d'.lasts = d.lasts) (h3 : d'.writes = d.writes) (hob : ∀ x ∈ d'.out, InK .u8 x) (hpo : ∀ a, po' = some a → ∃ a', po = some a' ∧ a'.block = a.block)
    (ho : Row w (fun g => S g ∧ g ≠ b ∧ Off pn g ∧ Off ps g ∧ Off pw g) 1 po' d'.out.length co' (d'.out.map (Value.int .u8))) : RefAt w' S b d' ps cs pn cn pw cw po' co' vn vs vw := by
  cases d; cases d'
  dsimp only at h1 h2 h3 hb hob ho
  subst h1; subst h2; subst h3
  have hoff : ∀ g, Off po g → Off po' g := fun g hg a ha e => by
    obtain ⟨a', ha', e'⟩ := hpo a ha
    exact hg a' ha' (e'.trans e)
  exact ⟨h.len, h.sb, hb, h.now.upd hu fun a ha => (h.now.lt ha).1.2, h.sure.upd hu fun a ha => (h.sure.lt ha).1.2.1, h.since.upd hu fun a ha => (h.since.lt ha).1.2.1, ho.upd hu fun a ha => (ho.lt ha).1.2.1,
    (h.vn.upd hu fun g _ hg => hg.2.1).ok fun g _ hg => ⟨hg.1, hg.2.1, hg.2.2.1, hg.2.2.2.1, hg.2.2.2.2.1, hoff g hg.2.2.2.2.2⟩, (h.vs.upd hu fun g _ hg => hg.2.1).ok fun g _ hg => ⟨hg.1, hg.2.1, hg.2.2.1, hg.2.2.2.1, hg.2.2.2.2.1, hoff g hg.2.2.2.2.2⟩,
    (h.vw.upd hu fun g _ hg => hg.2.1).ok fun g _ hg => ⟨hg.1, hg.2.1, hg.2.2.1, hg.2.2.2.1, hg.2.2.2.2.1, hoff g hg.2.2.2.2.2⟩, hob⟩
/-- A page of those now. -/
theorem RefAt.setNow (h : RefAt w S b d ps cs pn cn pw cw po co vn vs vw) {F : Nat → Prop} (hF : ∀ g, F g → ¬ S g) {q : Option Addr} {c : Nat} {x : List Int} (hp : Pg x) (hx : Ints .u8 w F q x) {k : Nat} (hk : k < d.now.length) :
    ∃ g o, pn = some ⟨g, o, none⟩ ∧ CanStore w g (o + k) ∧ ∀ w', Stored w g (o + k) (.slice q 256 c) w' → RefAt w' (fun g => S g ∨ F g) b { d with now := d.now.set k x } ps cs pn cn pw cw po co (vn.set k (.slice q 256 c)) vs vw ∧ Upd (fun z => z = g) w w' ∧ S g := by
  have hl := h.now.1
  obtain ⟨g, o, e, hg, hc, _⟩ := h.now.can (j := k) (by omega)
  subst e
  refine ⟨g, o, rfl, hc, fun w' s => ⟨?_, s.upd, hg.1⟩⟩
  have hu := s.upd
  have hof : ∀ z, F z → z ≠ b ∧ Off (some ⟨g, o, none⟩) z ∧ Off ps z ∧ Off pw z ∧ Off po z := fun z hz => by
    refine ⟨fun e => hF z hz (e ▸ h.sb), fun a ha e => ?_, fun a ha e => hF z hz (e ▸ (h.sure.lt ha).1.1), fun a ha e => hF z hz (e ▸ (h.since.lt ha).1.1), fun a ha e => hF z hz (e ▸ (h.out.lt ha).1.1)⟩
    injection ha with ha; subst ha
    exact hF z hz (e ▸ hg.1)
  have nb : ∀ z, Off (some ⟨g, o, none⟩) z → ¬ z = g := fun z hz e => hz _ rfl e.symm
  exact ⟨by simp [h.len], .inl h.sb, by
      have := h.blk.upd hu (show ¬ b = g from fun e => hg.2 e.symm)
      simpa using this,
    by
      have := (h.now.set (j := k) (by omega) s).ok (ok' := fun z => (S z ∨ F z) ∧ z ≠ b) fun z _ hz => ⟨.inl hz.1, hz.2⟩
      simpa using this,
    by
      have := (h.sure.upd hu fun a ha => nb _ (h.sure.lt ha).1.2.2).ok (ok' := fun z => (S z ∨ F z) ∧ z ≠ b ∧ Off (some ⟨g, o, none⟩) z) fun z _ hz => ⟨.inl hz.1, hz.2⟩
      simpa using this,
    (h.since.upd hu fun a ha => nb _ (h.since.lt ha).1.2.2.1).ok fun z _ hz => ⟨.inl hz.1, hz.2⟩, (h.out.upd hu fun a ha => nb _ (h.out.lt ha).1.2.2.1).ok fun z _ hz => ⟨.inl hz.1, hz.2⟩,
    ((h.vn.upd hu fun z _ hz => nb z hz.2.2.1).ok fun z _ hz => ⟨.inl hz.1, hz.2⟩).set k hp (Ints.ok (hx.upd' hu fun z _ hz => nb z (hof z hz).2.1) fun z _ hz => ⟨.inr hz, hof z hz⟩),
    (h.vs.upd hu fun z _ hz => nb z hz.2.2.1).ok fun z _ hz => ⟨.inl hz.1, hz.2⟩, (h.vw.upd hu fun z _ hz => nb z hz.2.2.1).ok fun z _ hz => ⟨.inl hz.1, hz.2⟩, h.ob⟩
/-- A page of those that last. -/
theorem RefAt.setSure (h : RefAt w S b d ps cs pn cn pw cw po co vn vs vw) {F : Nat → Prop} (hF : ∀ g, F g → ¬ S g) {q : Option Addr} {c : Nat} {x : List Int} (hp : Pg x) (hx : Ints .u8 w F q x) {k : Nat} (hk : k < d.now.length) :
    ∃ g o, ps = some ⟨g, o, none⟩ ∧ CanStore w g (o + k) ∧ ∀ w', Stored w g (o + k) (.slice q 256 c) w' → RefAt w' (fun g => S g ∨ F g) b { d with lasts := d.lasts.set k x } ps cs pn cn pw cw po co vn (vs.set k (.slice q 256 c)) vw ∧ Upd (fun z => z = g) w w' ∧ S g := by
  have hl := h.sure.1
  obtain ⟨g, o, e, hg, hc, _⟩ := h.sure.can (j := k) (by omega)
  subst e
  refine ⟨g, o, rfl, hc, fun w' s => ⟨?_, s.upd, hg.1⟩⟩
  have hu := s.upd
  have hof : ∀ z, F z → z ≠ b ∧ Off pn z ∧ Off (some ⟨g, o, none⟩) z ∧ Off pw z ∧ Off po z := fun z hz => by
    refine ⟨fun e => hF z hz (e ▸ h.sb), fun a ha e => hF z hz (e ▸ (h.now.lt ha).1.1), fun a ha e => ?_, fun a ha e => hF z hz (e ▸ (h.since.lt ha).1.1), fun a ha e => hF z hz (e ▸ (h.out.lt ha).1.1)⟩
    injection ha with ha; subst ha
    exact hF z hz (e ▸ hg.1)
  have nb : ∀ z, Off (some ⟨g, o, none⟩) z → ¬ z = g := fun z hz e => hz _ rfl e.symm
  exact ⟨by simp [h.len], .inl h.sb, h.blk.upd hu (show ¬ b = g from fun e => hg.2.1 e.symm),
    (h.now.upd hu fun a ha => fun e => hg.2.2 a ha e).ok fun z _ hz => ⟨.inl hz.1, hz.2⟩,
    (h.sure.set (j := k) (by omega) s).ok fun z _ hz => ⟨.inl hz.1, hz.2⟩,
    (h.since.upd hu fun a ha => nb _ (h.since.lt ha).1.2.2.2).ok fun z _ hz => ⟨.inl hz.1, hz.2⟩, (h.out.upd hu fun a ha => nb _ (h.out.lt ha).1.2.2.2.1).ok fun z _ hz => ⟨.inl hz.1, hz.2⟩,
    (h.vn.upd hu fun z _ hz => nb z hz.2.2.2.1).ok fun z _ hz => ⟨.inl hz.1, hz.2⟩,
    ((h.vs.upd hu fun z _ hz => nb z hz.2.2.2.1).ok fun z _ hz => ⟨.inl hz.1, hz.2⟩).set k hp (Ints.ok (hx.upd' hu fun z _ hz => nb z (hof z hz).2.2.1) fun z _ hz => ⟨.inr hz, hof z hz⟩),
    (h.vw.upd hu fun z _ hz => nb z hz.2.2.2.1).ok fun z _ hz => ⟨.inl hz.1, hz.2⟩, h.ob⟩
end
end Go.Vc
namespace Go.Proofs.Ytiblbjagfiigdaa
open Go.RowKit Go.Vc
variable {w : World} {S : Nat → Prop} {b : Nat} {d : Dev} {R : Ending → World → Prop}
theorem rpage_does (h : RefM w S b d) {n : Int} (hR : R (.returned (.bool (d.is n))) w) : Does Try.prog 48 #[.pointer (some ⟨b, 0, none⟩), .int .i64 n] w R := by
  obtain ⟨ps, cs, pn, cn, pw, cw, po, co, vn, vs, vw, A⟩ := h
  refine f48_does _ _ (brr (fun e => ⟨b, 0, rfl, _, _, _, A.blk.cell 1 rfl, ?_⟩) fun e => ?_)
  · have e' : d.is n = decide (n < (d.now.length : Int)) := by unfold Dev.is; simp only [ge_iff_le] at e; rw [e, Bool.true_and]
    rw [← e']; exact hR
  · have e' : d.is n = false := by unfold Dev.is; simp only [ge_iff_le] at e; rw [e, Bool.false_and]
    rw [← e']; exact hR
/-- Arm. -/
theorem rarm_does (h : RefM w S b d) (n : Int) : Does Try.prog 32 #[.pointer (some ⟨b, 0, none⟩), .int .i64 n] w fun e w' => e = .returned (.tuple #[]) ∧ RefM w' S b (d.arm n) ∧ Upd (fun g => g = b) w w' := by
  obtain ⟨ps, cs, pn, cn, pw, cw, po, co, vn, vs, vw, A⟩ := id h
  refine f32_does _ _ ⟨b, 0, rfl, _, A.blk.cell 6 rfl, brr (fun hd => ?_) fun hd => ?_⟩
  · have hd : d.dead = false := by simpa using hd
    have e : d.arm n = { d with fuse := max n (-1) } := by unfold Dev.arm; rw [hd]; rfl
    have em : (if n < -1 then -1 else n) = max n (-1) := by split <;> omega
    refine ⟨b, 0, rfl, A.blk.can 4 (by simp), fun ws s => ⟨rfl, ?_, s.upd⟩⟩
    rw [em] at s
    rw [e]
    have B : Blk ws b [.slice ps d.now.length cs, .slice pn d.now.length cn, .slice pw d.writes.length cw, .slice po d.out.length co, .int .i64 (max n (-1)), .int .i64 d.ops, .bool d.dead] := A.blk.store s
    exact ⟨ps, cs, pn, cn, pw, cw, po, co, vn, vs, vw, A.hdr (d' := { d with fuse := max n (-1) }) s.upd B rfl rfl rfl A.ob (fun a ha => ⟨a, ha, rfl⟩) A.out⟩
  · have hd : d.dead = true := by simpa using hd
    have e : d.arm n = d := by unfold Dev.arm; rw [hd]; rfl
    rw [e]
    exact ⟨rfl, h, Upd.refl _ _⟩
end Go.Proofs.Ytiblbjagfiigdaa
