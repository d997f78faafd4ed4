/-
  Devices: a device beside the reference's.
-/
import Derived.Test.YtiblbjagfiigdaaDevRef6
namespace Go.Vc
open Go.RowKit
def RefX (w : World) (lo : Nat) (K : Nat → Prop) (b : Nat) (d : Dev) : Prop := (∃ S, RefM w S b d ∧ ∀ g, S g → lo ≤ g ∧ ¬ K g) ∧ ∀ g, K g → g < w.heap.size
/-- Both. -/
def Mix (w : World) (lo : Nat) (K : Nat → Prop) (b1 : Nat) (d1 : Dev) (b2 : Nat) (d2 : Dev) : Prop :=
  ∃ S1 S2, DevM w S1 b1 d1 ∧ RefM w S2 b2 d2 ∧ (∀ g, S1 g → lo ≤ g ∧ ¬ K g ∧ ¬ S2 g) ∧ (∀ g, S2 g → lo ≤ g ∧ ¬ K g) ∧ ∀ g, K g → g < w.heap.size
variable {w w' : World} {lo b b1 b2 : Nat} {K : Nat → Prop} {d d1 d2 : Dev}
theorem Mix.fst (h : Mix w lo K b1 d1 b2 d2) : ∃ K', DevX w lo K' b1 d1 ∧ (∀ g, K g → K' g) ∧ ∀ w' b1' d1', DevX w' lo K' b1' d1' → Upd (Chg w lo K') w w' → Mix w' lo K b1' d1' b2 d2 := by
  obtain ⟨S1, S2, m1, m2, h1, h2, hk⟩ := h
  refine ⟨fun g => K g ∨ (S2 g ∧ g < w.heap.size), ⟨⟨S1, m1, fun g hg => ⟨(h1 g hg).1, ?_⟩⟩, fun g hg => ?_⟩, fun g hg => .inl hg, fun w' b1' d1' hx hu => ?_⟩
  · rintro (h | h)
    · exact (h1 g hg).2.1 h
    · exact (h1 g hg).2.2 h.1
  · rcases hg with h | h
    · exact hk g h
    · exact h.2
  · obtain ⟨⟨S1', m1', h1'⟩, _⟩ := hx
    have hsz := hu.size
    refine ⟨S1', _, m1', m2.lt.upd hu fun g hg hs e => e.2.1 (.inr hs), fun g hg => ⟨(h1' g hg).1, fun h => (h1' g hg).2 (.inl h), fun h => (h1' g hg).2 (.inr h)⟩, fun g hg => h2 g hg.1, fun g hg => ?_⟩
    have := hk g hg; omega
theorem Mix.snd (h : Mix w lo K b1 d1 b2 d2) : ∃ K', RefX w lo K' b2 d2 ∧ (∀ g, K g → K' g) ∧ ∀ w' b2' d2', RefX w' lo K' b2' d2' → Upd (Chg w lo K') w w' → Mix w' lo K b1 d1 b2' d2' := by
  obtain ⟨S1, S2, m1, m2, h1, h2, hk⟩ := h
  refine ⟨fun g => K g ∨ (S1 g ∧ g < w.heap.size), ⟨⟨S2, m2, fun g hg => ⟨(h2 g hg).1, ?_⟩⟩, fun g hg => ?_⟩, fun g hg => .inl hg, fun w' b2' d2' hx hu => ?_⟩
  · rintro (h | h)
    · exact (h2 g hg).2 h
    · exact (h1 g h.1).2.2 hg
  · rcases hg with h | h
    · exact hk g h
    · exact h.2
  · obtain ⟨⟨S2', m2', h2'⟩, _⟩ := hx
    have hsz := hu.size
    refine ⟨_, S2', m1.lt.upd hu fun g hg hs e => e.2.1 (.inr hs), m2', fun g hg => ⟨(h1 g hg.1).1, (h1 g hg.1).2.1, fun h => (h2' g h).2 (.inr hg)⟩, fun g hg => ⟨(h2' g hg).1, fun h => (h2' g hg).2 (.inl h)⟩, fun g hg => ?_⟩
    have := hk g hg; omega
theorem Mix.keep (h : Mix w lo K b1 d1 b2 d2) {T : Nat → Prop} (hu : Upd T w w') (ht : ∀ g, T g → K g ∨ g < lo) : ∃ K', Mix w' lo K' b1 d1 b2 d2 ∧ (∀ g, K g → K' g) ∧ ∀ g, w.heap.size ≤ g → g < w'.heap.size → K' g := by
  obtain ⟨S1, S2, m1, m2, h1, h2, hk⟩ := h
  have hsz := hu.size
  refine ⟨fun g => K g ∨ (w.heap.size ≤ g ∧ g < w'.heap.size), ⟨_, _, m1.lt.upd hu fun g _ hg e => ?_, m2.lt.upd hu fun g _ hg e => ?_, fun g hg => ⟨(h1 g hg.1).1, ?_, fun h => (h1 g hg.1).2.2 h.1⟩, fun g hg => ⟨(h2 g hg.1).1, ?_⟩, ?_⟩, fun g hg => .inl hg, fun g h1 h2 => .inr ⟨h1, h2⟩⟩
  · rcases ht g e with h | h
    · exact (h1 g hg.1).2.1 h
    · have := (h1 g hg.1).1; omega
  · rcases ht g e with h | h
    · exact (h2 g hg.1).2 h
    · have := (h2 g hg.1).1; omega
  · rintro (h | h)
    · exact (h1 g hg.1).2.1 h
    · have := hg.2; omega
  · rintro (h | h)
    · exact (h2 g hg.1).2 h
    · have := hg.2; omega
  · rintro g (h | h)
    · have := hk g h; omega
    · exact h.2
theorem Mix.ext (h : Mix w lo K b1 d1 b2 d2) (hu : Ext w w') : Mix w' lo K b1 d1 b2 d2 := by
  obtain ⟨S1, S2, m1, m2, h1, h2, hk⟩ := h
  have hsz := hu.size
  exact ⟨S1, S2, m1.ext hu, m2.ext hu, h1, h2, fun g hg => by have := hk g hg; omega⟩
theorem Mix.good (h : Mix w lo K b1 d1 b2 d2) : d1.Good := by
  obtain ⟨S1, S2, m1, m2, h1, h2, hk⟩ := h
  exact m1.1
/-- A device made behind this world. -/
theorem DevX.lift {w0 : World} (h : DevX w w0.heap.size (fun _ => False) b d) (hk : ∀ g, K g → g < w0.heap.size) (hl : lo ≤ w0.heap.size) (hs : w0.heap.size ≤ w.heap.size) : DevX w lo K b d := by
  obtain ⟨⟨S, m, hS⟩, _⟩ := h
  exact ⟨⟨S, m, fun g hg => by have := (hS g hg).1; exact ⟨by omega, fun h => by have := hk g h; omega⟩⟩, fun g hg => by have := hk g hg; omega⟩
/-- What each op does to what is counted. -/
structure Near (d d' : Dev) : Prop where
  ops : d'.ops ≤ d.ops + 1
  out : d'.out.length ≤ d.out.length
  len : d'.now.length = d.now.length
theorem near_op (d : Dev) : Near d d.op.1 := by
  unfold Dev.op
  split
  · exact ⟨Int.le_refl _, Nat.le_refl _, rfl⟩
  · split
    · rename_i h; exact ⟨Int.le_refl _, Nat.le_refl _, rfl⟩
    · rename_i o r h; exact ⟨Int.le_refl _, by rw [h]; simp, rfl⟩
theorem near_refl (d : Dev) : Near d d := ⟨by omega, Nat.le_refl _, rfl⟩
theorem Near.lay {d d' : Dev} (h : Near d d') (n : Nat) (b : List Int) : Near d (d'.lay n b) := ⟨h.ops, h.out, by simp [Dev.lay, h.len]⟩
theorem Near.last {d d' : Dev} (h : Near d d') : Near d d'.last := ⟨h.ops, h.out, h.len⟩
theorem near_write (d : Dev) (n : Int) (b : List Int) : Near d (d.write n b).1 := by
  have h := near_op d
  unfold Dev.write
  split
  · split
    · exact near_refl d
    · split
      · rename_i d' e; rw [e] at h; exact h.lay _ _
      · rename_i d' o e
        rw [e] at h
        simp only
        split
        · exact h
        · exact h.lay _ _
  · exact near_refl d
theorem near_read (d : Dev) (n : Int) : Near d (d.read n).1 := by
  have h := near_op d
  unfold Dev.read
  split
  · split
    · exact near_refl d
    · split
      · rename_i d' e; rw [e] at h; exact h
      · rename_i d' o e
        rw [e] at h
        split <;> exact h
  · exact near_refl d
theorem near_sync (d : Dev) : Near d d.sync.1 := by
  have h := near_op d
  unfold Dev.sync
  split
  · exact near_refl d
  · split
    · rename_i d' e; rw [e] at h; exact h
    · rename_i d' o e
      rw [e] at h
      simp only
      split
      · exact h
      · exact h.last
theorem near_arm (d : Dev) (n : Int) : Near d (d.arm n) := by
  unfold Dev.arm
  split
  · exact near_refl d
  · exact ⟨by simp only; omega, Nat.le_refl _, rfl⟩
end Go.Vc
namespace Go.Proofs.Ytiblbjagfiigdaa
open Go.RowKit Go.Vc
variable {w : World} {lo b : Nat} {K : Nat → Prop} {d : Dev} {R : Ending → World → Prop}
theorem rwriteX (h : RefX w lo K b d) (hl : lo ≤ w.heap.size) (hg : d.Good) (hs : d.ops < 1000000) {n : Int} {p : Option Addr} {xs : List Int} {l : Nat} (hx : Ints .u8 w K p xs) (hl : l = xs.length) (c : Nat) :
    Does Try.prog 29 #[.pointer (some ⟨b, 0, none⟩), .int .i64 n, .slice p l c] w fun e w' => e = .returned (.int .i64 (d.write n xs).2) ∧ RefX w' lo K b (d.write n xs).1 ∧ Upd (Chg w lo K) w w' := by
  obtain ⟨⟨S, m, hS⟩, hk⟩ := h
  refine (rwrite_does m.lt hg hs hx hl c fun g hg hs => (hS g hs.1).2 hg).imp ?_
  rintro e w' ⟨rfl, m', u⟩
  have := u.size
  refine ⟨rfl, ⟨⟨_, m', fun g hg => ?_⟩, fun g hg => by have := hk g hg; omega⟩, u.mono fun g _ hg => ⟨(hS g hg.1).1, (hS g hg.1).2, hg.2⟩⟩
  rcases hg with hg | hg
  · exact hS g hg.1
  · exact ⟨by omega, fun h => by have := hk g h; omega⟩
theorem rsyncX (h : RefX w lo K b d) (hl : lo ≤ w.heap.size) (hg : d.Good) (hs : d.ops < 1000000) :
    Does Try.prog 31 #[.pointer (some ⟨b, 0, none⟩)] w fun e w' => e = .returned (.int .i64 d.sync.2) ∧ RefX w' lo K b d.sync.1 ∧ Upd (Chg w lo K) w w' := by
  obtain ⟨⟨S, m, hS⟩, hk⟩ := h
  refine (rsync_does m.lt hg hs).imp ?_
  rintro e w' ⟨rfl, m', u⟩
  have := u.size
  refine ⟨rfl, ⟨⟨_, m', fun g hg => ?_⟩, fun g hg => by have := hk g hg; omega⟩, u.mono fun g _ hg => ⟨(hS g hg.1).1, (hS g hg.1).2, hg.2⟩⟩
  rcases hg with hg | hg
  · exact hS g hg.1
  · exact ⟨by omega, fun h => by have := hk g h; omega⟩
theorem RefX.hb (h : RefX w lo K b d) : Chg w lo K b := by
  obtain ⟨⟨S, m, hS⟩, hk⟩ := h
  have hb := m.sb
  exact ⟨(hS b hb.1).1, (hS b hb.1).2, hb.2⟩
theorem rreadX (h : RefX w lo K b d) (hg : d.Good) (hs : d.ops < 1000000) {n : Int} :
    Does Try.prog 30 #[.pointer (some ⟨b, 0, none⟩), .int .i64 n] w fun e w' => ∃ p c, e = .returned (.tuple #[.slice p (d.read n).2.1.length c, .int .i64 (d.read n).2.2]) ∧ Ints .u8 w' (fun g => w.heap.size ≤ g ∧ g < w'.heap.size) p (d.read n).2.1 ∧ RefX w' lo K b (d.read n).1 ∧ Upd (fun g => g = b) w w' := by
  obtain ⟨⟨S, m, hS⟩, hk⟩ := h
  refine (rread_does m hg hs).imp ?_
  rintro e w' ⟨p, c, rfl, i, m', u⟩
  have := u.size
  exact ⟨p, c, rfl, i, ⟨⟨_, m', hS⟩, fun g hg => by have := hk g hg; omega⟩, u⟩
theorem rarmX (h : RefX w lo K b d) (n : Int) : Does Try.prog 32 #[.pointer (some ⟨b, 0, none⟩), .int .i64 n] w fun e w' => e = .returned (.tuple #[]) ∧ RefX w' lo K b (d.arm n) ∧ Upd (Chg w lo K) w w' := by
  obtain ⟨⟨S, m, hS⟩, hk⟩ := h
  have hb := m.sb
  refine (rarm_does m n).imp ?_
  rintro e w' ⟨rfl, m', u⟩
  have := u.size
  exact ⟨rfl, ⟨⟨S, m', hS⟩, fun g hg => by have := hk g hg; omega⟩, u.mono fun g _ hg => hg ▸ ⟨(hS b hb.1).1, (hS b hb.1).2, hb.2⟩⟩
theorem rimageX (h : RefX w lo K b d) (hm : d.now.length ≤ 4096) :
    Does Try.prog 26 #[.pointer (some ⟨b, 0, none⟩)] w fun e w' => ∃ p c, e = .returned (.slice p d.image.length c) ∧ Ints .u8 w' (fun g => w.heap.size ≤ g ∧ g < w'.heap.size) p d.image ∧ Ext w w' := by
  obtain ⟨⟨S, m, hS⟩, hk⟩ := h
  exact rimage_does m hm
theorem rcrashX (h : RefX w lo K b d) (hl : lo ≤ w.heap.size) (hg : d.Good) (hs : d.ops < 1000000) {ok : Nat → Prop} {p : Option Addr} {choice : List Int} {l : Nat} (hx : Ints .u8 w ok p choice) (hl : l = choice.length) (c : Nat) :
    Does Try.prog 33 #[.pointer (some ⟨b, 0, none⟩), .slice p l c] w fun e w' => ∃ b', e = .returned (.pointer (some ⟨b', 0, none⟩)) ∧ RefX w' lo K b' (d.crash choice) ∧ Ext w w' := by
  obtain ⟨⟨S, m, hS⟩, hk⟩ := h
  refine (rcrash_does m hg hs hx hl c).imp ?_
  rintro e w' ⟨b', rfl, m', x⟩
  have := x.size
  exact ⟨b', rfl, ⟨⟨_, m', fun g hg => ⟨by omega, fun h => by have := hk g h; omega⟩⟩, fun g hg => by have := hk g hg; omega⟩, x⟩
/-- The outcomes of the reference, as the statement tells them. -/
theorem rtell (h : RefX w lo K b d) (hl : lo ≤ w.heap.size) {ok : Nat → Prop} {p1 : Option Addr} {xs : List Int} {c1 : Nat} (hx : Ints .u8 w ok p1 xs) (hs : d.out.length + xs.length ≤ 1000000) :
    ∃ (po : Option Addr) (lo' co : Nat), w.cell? ⟨b, 3, none⟩ = some (.slice po lo' co) ∧ ∃ (p : Option Addr) (l c : Nat) (w1 : World), (Builtin.append_ #[22, 22] 22 #[.slice po lo' co, .slice p1 xs.length c1]).run Try.prog w = .ok (.slice p l c) w1 ∧
      CanStore w1 b 3 ∧ ∀ ws, Stored w1 b 3 (.slice p l c) ws → RefX ws lo K b (d.tell xs) ∧ Upd (Chg w lo K) w ws := by
  obtain ⟨⟨S, m, hS⟩, hk⟩ := h
  obtain ⟨ps, cs, pn, cn, pw, cw, po, co, vn, vs, vw, A⟩ := m.lt
  obtain ⟨p', c', w1, hr, R1, u1, hcase⟩ := A.out.append slB 22 (ints_row hx (P := Try.prog) Try.underlying22 c1) (by simp only [maxLen]; omega) (by omega)
  have T1 : ∀ g, (0 < xs.length ∧ d.out.length + xs.length ≤ co ∧ ∃ a, po = some a ∧ a.block = g) → (S g ∧ g < w.heap.size) ∧ g ≠ b ∧ Off pn g ∧ Off ps g ∧ Off pw g := fun g ⟨_, _, a, ha, e⟩ => e ▸ (A.out.lt ha).1
  have B1 := A.blk.upd u1 fun h => (T1 b h).2.1 rfl
  refine ⟨po, _, co, A.blk.cell 3 rfl, p', _, c', w1, hr, B1.can 3 (by simp), fun ws s => ⟨⟨⟨fun g => (S g ∧ g < w.heap.size) ∨ g = w.heap.size, ⟨ps, cs, pn, cn, pw, cw, p', c', vn, vs, vw, ?_⟩, fun g hg => ?_⟩, fun g hg => ?_⟩, ?_⟩⟩
  · have us := s.upd
    have hbl := A.blk.lt
    have B : Blk ws b [.slice ps d.now.length cs, .slice pn d.now.length cn, .slice pw d.writes.length cw, .slice p' (d.out.length + xs.length) c', .int .i64 d.fuse, .int .i64 d.ops, .bool d.dead] := B1.store s
    have offp : ∀ g, g < w.heap.size → Off po g → Off p' g := fun g hg ho a ha e => by
      rcases hcase with ⟨_, rfl, _⟩ | ⟨_, rfl⟩
      · exact ho a ha e
      · injection ha with ha; subst ha; simp only at e; omega
    have no1 : ∀ g, Off po g → ¬ (0 < xs.length ∧ d.out.length + xs.length ≤ co ∧ ∃ a, po = some a ∧ a.block = g) := fun g ho ⟨_, _, a, ha, e⟩ => ho a ha e
    have mv : ∀ {v : Prop}, v → v := fun h => h
    refine ⟨A.len, .inl A.sb, ?_, ?_, ?_, ?_, ?_, ?_, ?_, ?_, fun x hx' => (List.mem_append.1 hx').elim (A.ob x) (hx.inK x)⟩
    · simpa [Dev.tell] using B
    · exact (((A.now.upd u1 fun a ha h => (T1 _ h).2.2.1 a ha rfl).upd us fun a ha e => (A.now.lt ha).1.2 e)).ok fun g _ hg => ⟨.inl hg.1, hg.2⟩
    · exact (((A.sure.upd u1 fun a ha h => (T1 _ h).2.2.2.1 a ha rfl).upd us fun a ha e => (A.sure.lt ha).1.2.1 e)).ok fun g _ hg => ⟨.inl hg.1, hg.2⟩
    · exact (((A.since.upd u1 fun a ha h => (T1 _ h).2.2.2.2 a ha rfl).upd us fun a ha e => (A.since.lt ha).1.2.1 e)).ok fun g _ hg => ⟨.inl hg.1, hg.2⟩
    · have R2 := (R1.upd us fun a ha e => (by
        rcases (R1.lt ha).1 with h | h
        · exact h.2.1 e
        · omega)).ok (ok' := fun g => ((S g ∧ g < w.heap.size) ∨ g = w.heap.size) ∧ g ≠ b ∧ Off pn g ∧ Off ps g ∧ Off pw g) fun g _ hg => by
          rcases hg with h | h
          · exact ⟨.inl h.1, h.2⟩
          · exact ⟨.inr h, by omega, fun a ha e => by have := (A.now.lt ha).2; omega, fun a ha e => by have := (A.sure.lt ha).2; omega, fun a ha e => by have := (A.since.lt ha).2; omega⟩
      rw [← List.map_append] at R2
      simpa [Dev.tell] using R2
    · exact ((((A.vn.ok (ok' := fun g => (((S g ∧ g < w.heap.size) ∨ g = w.heap.size) ∧ g ≠ b ∧ Off pn g ∧ Off ps g ∧ Off pw g ∧ Off p' g) ∧ Off po g) fun g hlt hg => ⟨⟨.inl hg.1, hg.2.1, hg.2.2.1, hg.2.2.2.1, hg.2.2.2.2.1, offp g hlt hg.2.2.2.2.2⟩, hg.2.2.2.2.2⟩).upd u1 fun g _ hg => no1 g hg.2).upd us fun g _ hg => hg.1.2.1)).ok fun g _ hg => hg.1
    · exact ((((A.vs.ok (ok' := fun g => (((S g ∧ g < w.heap.size) ∨ g = w.heap.size) ∧ g ≠ b ∧ Off pn g ∧ Off ps g ∧ Off pw g ∧ Off p' g) ∧ Off po g) fun g hlt hg => ⟨⟨.inl hg.1, hg.2.1, hg.2.2.1, hg.2.2.2.1, hg.2.2.2.2.1, offp g hlt hg.2.2.2.2.2⟩, hg.2.2.2.2.2⟩).upd u1 fun g _ hg => no1 g hg.2).upd us fun g _ hg => hg.1.2.1)).ok fun g _ hg => hg.1
    · exact ((((A.vw.ok (ok' := fun g => (((S g ∧ g < w.heap.size) ∨ g = w.heap.size) ∧ g ≠ b ∧ Off pn g ∧ Off ps g ∧ Off pw g ∧ Off p' g) ∧ Off po g) fun g hlt hg => ⟨⟨.inl hg.1, hg.2.1, hg.2.2.1, hg.2.2.2.1, hg.2.2.2.2.1, offp g hlt hg.2.2.2.2.2⟩, hg.2.2.2.2.2⟩).upd u1 fun g _ hg => no1 g hg.2).upd us fun g _ hg => hg.1.2.1)).ok fun g _ hg => hg.1
  · rcases hg with h | h
    · exact hS g h.1
    · exact ⟨by omega, fun hK => by have := hk g hK; omega⟩
  · have := hk g hg
    have := u1.size
    have := s.upd.size
    omega
  · have hb := A.sb
    exact Upd.trans (u1.mono fun g _ h => ⟨(hS g (T1 g h).1.1).1, (hS g (T1 g h).1.1).2, (T1 g h).1.2⟩) (s.upd.mono fun g _ e => e ▸ ⟨(hS b hb.1).1, (hS b hb.1).2, hb.2⟩)
end Go.Proofs.Ytiblbjagfiigdaa
