/-
  Devices: contracts for the statements; a device between two marks of the memory.
-/
import Derived.Test.YtiblbjagfiigdaaDevTools
namespace Go.Vc
open Go.RowKit
/-- A device whose blocks lie from lo on, none of them in K. -/
def DevX (w : World) (lo : Nat) (K : Nat → Prop) (b : Nat) (d : Dev) : Prop := (∃ S, DevM w S b d ∧ ∀ g, S g → lo ≤ g ∧ ¬ K g) ∧ ∀ g, K g → g < w.heap.size
/-- What an op of it may change. -/
def Chg (w : World) (lo : Nat) (K : Nat → Prop) (g : Nat) : Prop := lo ≤ g ∧ ¬ K g ∧ g < w.heap.size
variable {w w' : World} {lo b : Nat} {K : Nat → Prop} {d : Dev}
theorem Ints.mid {k : IntKind} {w' : World} {n : Nat} {p : Option Addr} {xs : List Int} (h : Ints k w' (fun g => n ≤ g) p xs) : Ints k w' (fun g => n ≤ g ∧ g < w'.heap.size) p xs := Ints.ok h fun _ hg h => ⟨h, hg⟩
/-- What is new is kept. -/
theorem DevX.keep (h : DevX w lo K b d) {T : Nat → Prop} (hu : Upd T w w') (ht : ∀ g, T g → K g ∨ g < lo) : ∃ K', DevX w' lo K' b d ∧ (∀ g, K g → K' g) ∧ ∀ g, w.heap.size ≤ g → g < w'.heap.size → K' g := by
  obtain ⟨⟨S, m, hs⟩, hk⟩ := h
  have hsz := hu.size
  refine ⟨fun g => K g ∨ (w.heap.size ≤ g ∧ g < w'.heap.size), ⟨⟨_, m.lt.upd hu fun g _ hg e => ?_, fun g hg => ⟨(hs g hg.1).1, ?_⟩⟩, ?_⟩, fun g hg => .inl hg, fun g h1 h2 => .inr ⟨h1, h2⟩⟩
  · rcases ht g e with h | h
    · exact (hs g hg.1).2 h
    · have := (hs g hg.1).1; omega
  · rintro (h | h)
    · exact (hs g hg.1).2 h
    · have := hg.2; omega
  · rintro g (h | h)
    · have := hk g h; omega
    · exact h.2
theorem DevX.ext (h : DevX w lo K b d) (hu : Ext w w') : DevX w' lo K b d := by
  obtain ⟨⟨S, m, hs⟩, hk⟩ := h
  have hsz := hu.size
  exact ⟨⟨S, m.ext hu, hs⟩, fun g hg => by have := hk g hg; omega⟩
theorem DevX.good (h : DevX w lo K b d) : d.Good := by
  obtain ⟨⟨S, m, hs⟩, hk⟩ := h
  exact m.1
/-- What was kept stays kept, whatever the device does. -/
theorem Ints.held {k : IntKind} {p : Option Addr} {xs : List Int} (h : Ints k w K p xs) (hu : Upd (Chg w lo K) w w') : Ints k w' K p xs := Ints.upd h hu fun _ hg e => e.2.1 hg
theorem Upd.chg {w0 : World} (h : Ext w0 w) (hl : w0.heap.size ≤ lo) (hu : Upd (Chg w lo K) w w') : Ext w0 w' := Upd.then h hu fun g hg e => by have := e.1; omega
end Go.Vc
namespace Go.Proofs.Ytiblbjagfiigdaa
open Go.RowKit Go.Vc
variable {w : World} {lo b : Nat} {K : Nat → Prop} {d : Dev} {R : Ending → World → Prop}
theorem writeX (h : DevX w lo K b d) (hl : lo ≤ w.heap.size) (hs : d.ops < 1000000) {n : Int} {p : Option Addr} {xs : List Int} {l : Nat} (hx : Ints .u8 w K p xs) (hl : l = xs.length) (c : Nat) :
    Does Try.prog 13 #[.pointer (some ⟨b, 0, none⟩), .int .i64 n, .slice p l c] w fun e w' => e = .returned (.int .i64 (d.write n xs).2) ∧ DevX w' lo K b (d.write n xs).1 ∧ Upd (Chg w lo K) w w' := by
  obtain ⟨⟨S, m, hS⟩, hk⟩ := h
  refine (write_does m.lt hs hx hl c fun g hg hs => (hS g hs.1).2 hg).imp ?_
  rintro e w' ⟨rfl, m', u⟩
  have := u.size
  refine ⟨rfl, ⟨⟨_, m', fun g hg => ?_⟩, fun g hg => by have := hk g hg; omega⟩, u.mono fun g _ hg => ⟨(hS g hg.1).1, (hS g hg.1).2, hg.2⟩⟩
  rcases hg with hg | hg
  · exact hS g hg.1
  · exact ⟨by omega, fun h => by have := hk g h; omega⟩
theorem syncX (h : DevX w lo K b d) (hl : lo ≤ w.heap.size) (hs : d.ops < 1000000) :
    Does Try.prog 18 #[.pointer (some ⟨b, 0, none⟩)] w fun e w' => e = .returned (.int .i64 d.sync.2) ∧ DevX w' lo K b d.sync.1 ∧ Upd (Chg w lo K) w w' := by
  obtain ⟨⟨S, m, hS⟩, hk⟩ := h
  refine (sync_does m.lt hs).imp ?_
  rintro e w' ⟨rfl, m', u⟩
  have := u.size
  refine ⟨rfl, ⟨⟨_, m', fun g hg => ?_⟩, fun g hg => by have := hk g hg; omega⟩, u.mono fun g _ hg => ⟨(hS g hg.1).1, (hS g hg.1).2, hg.2⟩⟩
  rcases hg with hg | hg
  · exact hS g hg.1
  · exact ⟨by omega, fun h => by have := hk g h; omega⟩
theorem readX (h : DevX w lo K b d) (hs : d.ops < 1000000) {n : Int} :
    Does Try.prog 14 #[.pointer (some ⟨b, 0, none⟩), .int .i64 n] w fun e w' => ∃ p c, e = .returned (.tuple #[.slice p (d.read n).2.1.length c, .int .i64 (d.read n).2.2]) ∧ Ints .u8 w' (fun g => w.heap.size ≤ g ∧ g < w'.heap.size) p (d.read n).2.1 ∧ (d.read n).2.1.length ≤ c ∧ DevX w' lo K b (d.read n).1 ∧ Upd (Chg w lo K) w w' := by
  obtain ⟨⟨S, m, hS⟩, hk⟩ := h
  refine (read_does m.lt hs).imp ?_
  rintro e w' ⟨p, c, rfl, i, hc, m', u⟩
  have := u.size
  exact ⟨p, c, rfl, i.mid, hc, ⟨⟨_, m', fun g hg => hS g hg.1.1⟩, fun g hg => by have := hk g hg; omega⟩, u.mono fun g _ hg => ⟨(hS g hg.1).1, (hS g hg.1).2, hg.2⟩⟩
theorem tellX (h : DevX w lo K b d) (hl : lo ≤ w.heap.size) {ok : Nat → Prop} {p : Option Addr} {xs : List Int} {l : Nat} (hx : Ints .u8 w ok p xs) (hl : l = xs.length) (c : Nat) (hs : d.out.length + xs.length ≤ 1000000) :
    Does Try.prog 11 #[.pointer (some ⟨b, 0, none⟩), .slice p l c] w fun e w' => e = .returned (.tuple #[]) ∧ DevX w' lo K b (d.tell xs) ∧ Upd (Chg w lo K) w w' := by
  obtain ⟨⟨S, m, hS⟩, hk⟩ := h
  have hb := m.sb
  refine (tell_does m.lt hx hl c hs).imp ?_
  rintro e w' ⟨rfl, m', u⟩
  have := u.size
  refine ⟨rfl, ⟨⟨_, m', fun g hg => ?_⟩, fun g hg => by have := hk g hg; omega⟩, u.mono fun g _ hg => hg ▸ ⟨(hS b hb.1).1, (hS b hb.1).2, hb.2⟩⟩
  rcases hg with hg | hg
  · exact hS g hg.1
  · exact ⟨by omega, fun h => by have := hk g h; omega⟩
theorem fuseX (h : DevX w lo K b d) {n : Int} (hn : InK .i64 n) :
    Does Try.prog 22 #[.pointer (some ⟨b, 0, none⟩), .int .i64 n] w fun e w' => e = .returned (.tuple #[]) ∧ DevX w' lo K b (d.arm n) ∧ Upd (Chg w lo K) w w' := by
  obtain ⟨⟨S, m, hS⟩, hk⟩ := h
  have hb := m.sb
  refine (fuse_does m hn).imp ?_
  rintro e w' ⟨rfl, m', u⟩
  have := u.size
  exact ⟨rfl, ⟨⟨S, m', hS⟩, fun g hg => by have := hk g hg; omega⟩, u.mono fun g _ hg => hg ▸ ⟨(hS b hb.1).1, (hS b hb.1).2, hb.2⟩⟩
theorem imageX (h : DevX w lo K b d) :
    Does Try.prog 19 #[.pointer (some ⟨b, 0, none⟩)] w fun e w' => ∃ p c, e = .returned (.slice p d.image.length c) ∧ Ints .u8 w' (fun g => w.heap.size ≤ g ∧ g < w'.heap.size) p d.image ∧ d.image.length ≤ c ∧ Ext w w' := by
  obtain ⟨⟨S, m, hS⟩, hk⟩ := h
  refine (image_does m).imp ?_
  rintro e w' ⟨p, c, rfl, o, x⟩
  exact ⟨p, c, rfl, o.ints (pg_bytes m.1.now), o.cap.1, x⟩
theorem crashX (h : DevX w lo K b d) (hs : d.ops < 1000000) {ok : Nat → Prop} {p : Option Addr} {choice : List Int} {l : Nat} (hx : Ints .u8 w ok p choice) (hl : l = choice.length) (c : Nat) :
    Does Try.prog 20 #[.pointer (some ⟨b, 0, none⟩), .slice p l c] w fun e w' => ∃ b', e = .returned (.pointer (some ⟨b', 0, none⟩)) ∧ DevX w' w.heap.size (fun _ => False) b' (d.crash choice) ∧ Ext w w' := by
  obtain ⟨⟨S, m, hS⟩, hk⟩ := h
  refine (crash_does m hs hx hl c).imp ?_
  rintro e w' ⟨b', rfl, m', x⟩
  exact ⟨b', rfl, ⟨⟨_, m', fun g hg => ⟨hg, id⟩⟩, fun _ h => h.elim⟩, x⟩
theorem pagesX (h : DevX w lo K b d) (hR : R (.returned (.int .i64 d.now.length)) w) : Does Try.prog 27 #[.pointer (some ⟨b, 0, none⟩)] w R := by
  obtain ⟨⟨S, m, hS⟩, hk⟩ := h
  exact pages_does m hR
theorem opsX (h : DevX w lo K b d) (hR : R (.returned (.int .i64 d.ops)) w) : Does Try.prog 16 #[.pointer (some ⟨b, 0, none⟩)] w R := by
  obtain ⟨⟨S, m, hS⟩, hk⟩ := h
  exact ops_does m hR
theorem deadX (h : DevX w lo K b d) (hR : R (.returned (.bool d.dead)) w) : Does Try.prog 23 #[.pointer (some ⟨b, 0, none⟩)] w R := by
  obtain ⟨⟨S, m, hS⟩, hk⟩ := h
  exact dead_does m hR
theorem newX {n : Int} (h8 : 8 ≤ n) (hm : n ≤ 4096) (hR : ∀ b' w', DevX w' w.heap.size (fun _ => False) b' (Dev.new n.toNat) → Ext w w' → R (.returned (.tuple #[.pointer (some ⟨b', 0, none⟩), .int .i64 0])) w') : Does Try.prog 10 #[.int .i64 n] w R :=
  new_does (base := w.heap.size) (Nat.le_refl _) (fun h => absurd ⟨h8, hm⟩ h) fun _ _ b' w' m x => hR b' w' ⟨⟨_, m, fun g hg => ⟨hg, id⟩⟩, fun _ h => h.elim⟩ x
theorem new_bad {n : Int} (h : ¬ (8 ≤ n ∧ n ≤ 4096)) (hR : R (.returned (.tuple #[.pointer none, .int .i64 1])) w) : Does Try.prog 10 #[.int .i64 n] w R :=
  new_does (base := w.heap.size) (Nat.le_refl _) (fun _ => hR) fun h1 h2 => absurd ⟨h1, h2⟩ h
end Go.Proofs.Ytiblbjagfiigdaa
