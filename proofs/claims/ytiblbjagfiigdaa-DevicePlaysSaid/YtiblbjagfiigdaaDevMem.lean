/-
  Devices: a device in memory; an op.
-/
import Derived.Test.YtiblbjagfiigdaaDevCatch
import Derived.Test.YtiblbjagfiigdaaRange
namespace Go.Vc
open Go.RowKit
def Off (p : Option Addr) (g : Nat) : Prop := ∀ a, p = some a → a.block ≠ g
def wr1 (x : Nat × List Int) : List Value := .int .i64 x.1 :: x.2.map (Value.int .u8)
def wrs (ws : List (Nat × List Int)) : List Value := (ws.map wr1).flatten
structure DevAt (w : World) (S : Nat → Prop) (b : Nat) (d : Dev) (pl : Option Addr) (cl : Nat) (pn : Option Addr) (cn : Nat) (pw : Option Addr) (cw : Nat) (po : Option Addr) (co : Nat) (f : Int) : Prop where
  fuse : max f (-1) = d.fuse
  fin : InK .i64 f
  sb : S b
  oc : d.out.length ≤ co
  blk : Blk w b [.slice pl d.now.length cl, .slice pn d.now.length cn, .slice pw d.writes.length cw, .slice po d.out.length co, .int .i64 f, .bool d.dead, .int .i64 d.ops]
  now : Row w (fun g => S g ∧ g ≠ b) 256 pn d.now.length cn (pgs d.now)
  wr : Row w (fun g => S g ∧ g ≠ b ∧ Off pn g) 257 pw d.writes.length cw (wrs d.writes)
  la : Row w (fun g => S g ∧ g ≠ b ∧ Off pn g ∧ Off pw g) 256 pl d.now.length cl (pgs d.lasts)
  ou : Ints .u8 w (fun g => S g ∧ g ≠ b ∧ Off pn g ∧ Off pw g) po d.out
/-- A device of which all blocks but what is only read lie in S. -/
def DevM (w : World) (S : Nat → Prop) (b : Nat) (d : Dev) : Prop := d.Good ∧ ∃ pl cl pn cn pw cw po co f, DevAt w S b d pl cl pn cn pw cw po co f
variable {w : World} {S : Nat → Prop} {b : Nat} {d : Dev} {pl : Option Addr} {cl : Nat} {pn : Option Addr} {cn : Nat} {pw : Option Addr} {cw : Nat} {po : Option Addr} {co : Nat} {f : Int}
theorem Ints.upd' {k : IntKind} {w w' : World} {ok T : Nat → Prop} {p : Option Addr} {xs : List Int} (h : Ints k w ok p xs) (hu : Upd T w w') (ht : ∀ g, g < w.heap.size → ok g → ¬ T g) : Ints k w' ok p xs :=
  Ints.ok (Ints.upd (Ints.ok h (ok' := fun g => ok g ∧ g < w.heap.size) fun g hg ho => ⟨ho, hg⟩) hu fun g hg => ht g hg.2 hg.1) fun _ _ hg => hg.1
theorem DevAt.upd (h : DevAt w S b d pl cl pn cn pw cw po co f) {T : Nat → Prop} {w' : World} (hu : Upd T w w') (ht : ∀ g, g < w.heap.size → S g → ¬ T g) : DevAt w' S b d pl cl pn cn pw cw po co f :=
  { fuse := h.fuse, fin := h.fin, sb := h.sb, oc := h.oc, blk := h.blk.upd hu (ht b h.blk.lt h.sb),
    now := h.now.upd hu fun a ha => (have := h.now.lt ha; ht _ this.2 this.1.1),
    wr := h.wr.upd hu fun a ha => (have := h.wr.lt ha; ht _ this.2 this.1.1),
    la := h.la.upd hu fun a ha => (have := h.la.lt ha; ht _ this.2 this.1.1),
    ou := h.ou.upd' hu fun g hg ho => ht g hg ho.1 }
theorem DevAt.mono (h : DevAt w S b d pl cl pn cn pw cw po co f) {S' : Nat → Prop} (hs : ∀ g, g < w.heap.size → S g → S' g) : DevAt w S' b d pl cl pn cn pw cw po co f :=
  { fuse := h.fuse, fin := h.fin, sb := hs b h.blk.lt h.sb, oc := h.oc, blk := h.blk,
    now := h.now.ok fun g hg ho => ⟨hs g hg ho.1, ho.2⟩,
    wr := h.wr.ok fun g hg ho => ⟨hs g hg ho.1, ho.2⟩,
    la := h.la.ok fun g hg ho => ⟨hs g hg ho.1, ho.2⟩,
    ou := h.ou.ok fun g hg ho => ⟨hs g hg ho.1, ho.2⟩ }
theorem DevM.upd (h : DevM w S b d) {T : Nat → Prop} {w' : World} (hu : Upd T w w') (ht : ∀ g, g < w.heap.size → S g → ¬ T g) : DevM w' S b d := by
  obtain ⟨hg, pl, cl, pn, cn, pw, cw, po, co, f, h⟩ := h
  exact ⟨hg, pl, cl, pn, cn, pw, cw, po, co, f, h.upd hu ht⟩
theorem DevM.mono (h : DevM w S b d) {S' : Nat → Prop} (hs : ∀ g, g < w.heap.size → S g → S' g) : DevM w S' b d := by
  obtain ⟨hg, pl, cl, pn, cn, pw, cw, po, co, f, h⟩ := h
  exact ⟨hg, pl, cl, pn, cn, pw, cw, po, co, f, h.mono hs⟩
theorem DevM.ext (h : DevM w S b d) {w' : World} (hu : Ext w w') : DevM w' S b d := h.upd hu fun _ _ _ => id
theorem DevM.lt (h : DevM w S b d) : DevM w (fun g => S g ∧ g < w.heap.size) b d := h.mono fun _ hg hs => ⟨hs, hg⟩
theorem DevM.sb (h : DevM w S b d) : S b ∧ b < w.heap.size := by
  obtain ⟨hg, pl, cl, pn, cn, pw, cw, po, co, f, h⟩ := h
  exact ⟨h.sb, h.blk.lt⟩
/-- Another header, with the same pages. -/
theorem DevAt.hdr (h : DevAt w S b d pl cl pn cn pw cw po co f) {w' : World} {d' : Dev} {po' : Option Addr} {co' : Nat} {f' : Int} (hu : Upd (fun z => z = b) w w')
    (hb : Blk w' b [.slice pl d.now.length cl, .slice pn d.now.length cn, .slice pw d.writes.length cw, .slice po' d'.out.length co', .int .i64 f', .bool d'.dead, .int .i64 d'.ops])
    (h1 : d'.now = d.now) (h2 : d'.lasts = d.lasts) (h3 : d'.writes = d.writes) (hf : max f' (-1) = d'.fuse) (hi : InK .i64 f') (hoc : d'.out.length ≤ co')
    (ho : Ints .u8 w (fun g => S g ∧ g ≠ b ∧ Off pn g ∧ Off pw g) po' d'.out) : DevAt w' S b d' pl cl pn cn pw cw po' co' f' := by
  cases d; cases d'
  dsimp only at h1 h2 h3 hb hf ho hoc
  subst h1; subst h2; subst h3
  exact ⟨hf, hi, h.sb, hoc, hb, h.now.upd hu fun a ha => (h.now.lt ha).1.2, h.wr.upd hu fun a ha => (h.wr.lt ha).1.2.1, h.la.upd hu fun a ha => (h.la.lt ha).1.2.1, ho.upd hu fun g hg => hg.2.1⟩
end Go.Vc
namespace Go.Proofs.Ytiblbjagfiigdaa
open Go.RowKit Go.Vc
variable {w : World} {S : Nat → Prop} {b : Nat} {d : Dev} {R : Ending → World → Prop}
theorem made_does (h : DevM w S b d) (hR : R (.returned (.bool true)) w) : Does Try.prog 36 #[.pointer (some ⟨b, 0, none⟩)] w R := by
  obtain ⟨hg, pl, cl, pn, cn, pw, cw, po, co, f, h⟩ := h
  have hm := hg.min
  refine f36_does _ (brr (fun _ => ⟨b, 0, rfl, _, _, _, h.blk.cell 1 rfl, ?_⟩) fun e => by simp at e)
  rw [show decide ((d.now.length : Int) > 0) = true from decide_eq_true (by omega)]
  exact hR
theorem pages_does (h : DevM w S b d) (hR : R (.returned (.int .i64 d.now.length)) w) : Does Try.prog 27 #[.pointer (some ⟨b, 0, none⟩)] w R := by
  refine f27_does _ (made_does h ⟨true, rfl, fls rfl ?_⟩)
  obtain ⟨hg, pl, cl, pn, cn, pw, cw, po, co, f, h⟩ := h
  exact ⟨b, 0, rfl, _, _, _, h.blk.cell 1 rfl, hR⟩
theorem there_does (h : DevM w S b d) {n : Int} (hR : R (.returned (.bool (d.is n))) w) : Does Try.prog 37 #[.pointer (some ⟨b, 0, none⟩), .int .i64 n] w R := by
  refine f37_does _ _ (brr (fun e => pages_does h ⟨_, rfl, ?_⟩) fun e => ?_)
  · have e' : d.is n = decide (n < (d.now.length : Int)) := by unfold Dev.is; simp only [ge_iff_le] at e; rw [e, Bool.true_and]
    rw [← e']; exact hR
  · have e' : d.is n = false := by unfold Dev.is; simp only [ge_iff_le] at e; rw [e, Bool.false_and]
    rw [← e']; exact hR
theorem ops_does (h : DevM w S b d) (hR : R (.returned (.int .i64 d.ops)) w) : Does Try.prog 16 #[.pointer (some ⟨b, 0, none⟩)] w R := by
  obtain ⟨hg, pl, cl, pn, cn, pw, cw, po, co, f, h⟩ := h
  exact f16_does _ (fls rfl ⟨b, 0, rfl, _, h.blk.cell 6 rfl, hR⟩)
theorem dead_does (h : DevM w S b d) (hR : R (.returned (.bool d.dead)) w) : Does Try.prog 23 #[.pointer (some ⟨b, 0, none⟩)] w R := by
  obtain ⟨hg, pl, cl, pn, cn, pw, cw, po, co, f, h⟩ := h
  exact f23_does _ (tru rfl ⟨b, 0, rfl, _, h.blk.cell 5 rfl, hR⟩)
theorem Does_V {g : Go.Fn} {fs args cs : Array Value} {w : World} {R R' : Ending → World → Prop} (h : DoesV Try.prog g fs args cs w R) (hr : ∀ e w', R e w' → R' e w') : DoesV Try.prog g fs args cs w R' := by
  cases g <;> first
    | exact Does.imp h hr
    | exact YieldsV.imp h hr
    | exact h
/-- An op. -/
theorem op_does (h : DevM w S b d) (hs : d.ops < 1000000) {g1 g2 : Go.Fn} {fs1 cs1 fs2 cs2 : Array Value} (T : Nat → Prop) (hT : ∀ g, T g → g < w.heap.size)
    (hdead : d.dead = true → ∀ w', Ext w w' → R (.returned (.int .i64 7)) w')
    (hdie : d.dead = false → ∀ d', d.op = (d', none) → ∀ w', DevM w' S b d' → Upd (fun g => g = b) w w' → DoesV Try.prog g2 fs2 #[] cs2 w' fun e w'' => e = .returned (.tuple #[]) ∧ Upd T w' w'' ∧ R (.returned (.int .i64 7)) w'')
    (hdoes : d.dead = false → ∀ d' o, d.op = (d', some o) → ∀ w', DevM w' S b d' → Upd (fun g => g = b) w w' → DoesV Try.prog g1 fs1 #[.int .u8 o] cs1 w' fun e w'' => ∃ n, e = .returned (.int .i64 n) ∧ Upd T w' w'' ∧
      ∀ w3, Upd (fun g => w.heap.size ≤ g ∧ g < w'.heap.size) w'' w3 → R (.returned (.int .i64 n)) w3) :
    Does Try.prog 40 #[.pointer (some ⟨b, 0, none⟩), .func g1 fs1 cs1, .func g2 fs2 cs2] w R := by
  refine f40_does _ _ _ _ _ _ _ ?_
  intro b3 w3 N3 b5 w5 N5 b6 w6 N6
  have x6 : Ext w w6 := (N3.ext.thn N5.ext).thn N6.ext
  have H := h.lt.ext x6
  have hb3 : b3 = w.heap.size := N3.eq
  have hb5 : b5 = w.heap.size + 1 := N5.eq.trans N3.size
  have hb6 : b6 = w.heap.size + 2 := by rw [N6.eq, N5.size, N3.size]
  have hs6 : w6.heap.size = w.heap.size + 3 := by rw [N6.size, N5.size, N3.size]
  have hbl := h.sb.2
  have c3 : w6.cell? ⟨b3, 0, none⟩ = some (.pointer (some ⟨b, 0, none⟩)) := (N5.ext.thn N6.ext).cell (N3.cell 0 rfl)
  have c5 : w6.cell? ⟨b5, 0, none⟩ = some (.func g2 fs2 cs2) := N6.ext.cell (N5.cell 0 rfl)
  have k6 : CanStore w6 b6 0 := N6.can 0 (by decide)
  clear N3 N5 N6
  obtain ⟨hg, pl, cl, pn, cn, pw, cw, po, co, f, A⟩ := H
  have hops := hg.ops
  have hfuse := A.fuse
  have hgop := hg.op
  refine ⟨_, c3, made_does ⟨hg, pl, cl, pn, cn, pw, cw, po, co, f, A⟩ ⟨true, rfl, fls rfl ⟨_, c3, b, 0, rfl, _, A.blk.cell 5 rfl, brr (fun hd => ?_) fun hd => ?_⟩⟩⟩
  · refine ⟨k6, fun ws s => ⟨7, s.cell k6, hdead hd ws (Upd.then x6 s.upd fun g hg e => by omega)⟩⟩
  refine ⟨_, c3, b, 0, rfl, _, A.blk.cell 6 rfl, inI64 (by omega) (by omega), b, 0, rfl, A.blk.can 6 (by simp), fun w7 s7 => ?_⟩
  have B7 : Blk w7 b [.slice pl d.now.length cl, .slice pn d.now.length cn, .slice pw d.writes.length cw, .slice po d.out.length co, .int .i64 f, .bool d.dead, .int .i64 (d.ops + 1)] := A.blk.store s7
  have u7 := s7.upd
  have c3' := u7.cell (show ¬ b3 = b by omega) c3
  have c5' := u7.cell (show ¬ b5 = b by omega) c5
  have k6' := u7.can (show ¬ b6 = b by omega) k6
  have up : ∀ {w8 : World}, Upd (fun z => z = b) w6 w8 → Upd (fun z => z = b) w w8 := fun hu => Upd.trans (x6.mono fun _ _ e => e.elim) hu
  refine ⟨_, c3', b, 0, rfl, _, B7.cell 4 rfl, brr (fun he => leave_panic fun wa xa => ?_) fun he => ?_⟩
  · have hf0 : d.fuse = 0 := by simp at he; omega
    have hop : d.op = ({ d with ops := d.ops + 1, dead := true }, none) := by unfold Dev.op; rw [if_pos hf0]
    rw [hop] at hgop
    refine ⟨_, xa.cell c3', b, 0, rfl, (B7.ext xa).can 5 (by simp), fun w8 s8 => ?_⟩
    have B8 : Blk w8 b [.slice pl d.now.length cl, .slice pn d.now.length cn, .slice pw d.writes.length cw, .slice po d.out.length co, .int .i64 f, .bool true, .int .i64 (d.ops + 1)] := (B7.ext xa).store s8
    have u8 := s8.upd
    have k8 := u8.can (show ¬ b6 = b by omega) (xa.can k6')
    have U8 : Upd (fun z => z = b) w6 w8 := Upd.trans (Ext.then u7 xa) u8
    refine ⟨k8, fun w9 s9 => ⟨_, _, _, s9.upd.cell (show ¬ b5 = b6 by omega) (u8.cell (show ¬ b5 = b by omega) (xa.cell c5')), ?_⟩⟩
    have A8 : DevAt w8 _ b { d with ops := d.ops + 1, dead := true } pl cl pn cn pw cw po co f := A.hdr (d' := { d with ops := d.ops + 1, dead := true }) U8 B8 rfl rfl rfl A.fuse A.fin A.oc A.ou
    have A9 := A8.upd s9.upd fun g _ hs e => by have := hs.2; omega
    have M9 : DevM w9 S b { d with ops := d.ops + 1, dead := true } := ⟨hgop, pl, cl, pn, cn, pw, cw, po, co, f, A9.mono fun g _ hs => hs.1⟩
    have U9 : Upd (fun z => z = b) w w9 := Upd.then (up U8) s9.upd fun g hg e => by omega
    have c6 := s9.cell k8
    refine Does_V (hdie hd _ hop w9 M9 U9) ?_
    rintro e w10 ⟨rfl, u10, hr⟩
    refine ⟨rfl, rfl, rfl, 7, u10.cell (fun ht => ?_) c6, hr⟩
    have := hT _ ht
    omega
  have hf0 : d.fuse ≠ 0 := by simp at he; omega
  have rest : ∀ {w8 : World} {f' : Int}, Upd (fun z => z = b) w6 w8 → Blk w8 b [.slice pl d.now.length cl, .slice pn d.now.length cn, .slice pw d.writes.length cw, .slice po d.out.length co, .int .i64 f', .bool d.dead, .int .i64 (d.ops + 1)] →
      max f' (-1) = (if 0 < d.fuse then d.fuse - 1 else d.fuse) → InK .i64 f' → w8.cell? ⟨b3, 0, none⟩ = some (.pointer (some ⟨b, 0, none⟩)) → w8.cell? ⟨b5, 0, none⟩ = some (.func g2 fs2 cs2) → CanStore w8 b6 0 → 
      ∃ p44 : Option Addr, w8.cell? ⟨b3, 0, none⟩ = some (.pointer p44) ∧ ∃ b45 o45, p44 = some ⟨b45, o45, none⟩ ∧ ∃ (p47 : Option Addr) (l47 c47 : Nat), w8.cell? ⟨b45, o45 + 3, none⟩ = some (.slice p47 l47 c47) ∧ Br (decide (((l47 : Int)) > 0))
        (∃ p50 : Option Addr, w8.cell? ⟨b3, 0, none⟩ = some (.pointer p50) ∧ ∃ b51 o51, p50 = some ⟨b51, o51, none⟩ ∧ ∃ (p53 : Option Addr) (l53 c53 : Nat), w8.cell? ⟨b51, o51 + 3, none⟩ = some (.slice p53 l53 c53) ∧ ((0 : Int) ≤ 0 ∧ 0 < (l53 : Int)) ∧ ∃ b54 o54, p53 = some ⟨b54, o54, none⟩ ∧ ∃ n55 : Int, w8.cell? ⟨b54, o54 + (0 : Int).toNat, none⟩ = some (.int .u8 n55) ∧ (3 : Int) ≠ 0 ∧ ∀ wd14, Drew w8 wd14 →
          ∃ p57 : Option Addr, wd14.cell? ⟨b3, 0, none⟩ = some (.pointer p57) ∧ ∃ p58 : Option Addr, wd14.cell? ⟨b3, 0, none⟩ = some (.pointer p58) ∧ ∃ b59 o59, p58 = some ⟨b59, o59, none⟩ ∧ ∃ (p61 : Option Addr) (l61 c61 : Nat), wd14.cell? ⟨b59, o59 + 3, none⟩ = some (.slice p61 l61 c61) ∧ ((0 : Int) ≤ 1 ∧ 1 ≤ (l61 : Int)) ∧ ∃ b63 o63, p57 = some ⟨b63, o63, none⟩ ∧ CanStore wd14 b63 (o63 + 3) ∧ ∀ ws_4, Stored wd14 b63 (o63 + 3) (.slice (subp p61 ((1 : Int).toNat) c61 1) (l61 - ((1 : Int).toNat)) (c61 - ((1 : Int).toNat))) ws_4 →
          DoesV Try.prog g1 fs1 #[.int .u8 (n55.tmod 3)] cs1 ws_4 fun e67 w67 =>
          ∃ n67 : Int, e67 = .returned (.int .i64 n67) ∧ CanStore w67 b6 0 ∧ ∀ ws_5, Stored w67 b6 0 (.int .i64 n67) ws_5 →
          LeavesV (fun wk_1 => ∃ n6_3 : Int, wk_1.cell? ⟨b6, 0, none⟩ = some (.int .i64 n6_3) ∧ R (.returned (.int .i64 n6_3)) wk_1) (fun chk_1 wp_1 => R (.panicked chk_1) wp_1) Try.prog ({ target := .fn (.func 50) #[.pointer (some ⟨b3, 0, none⟩), .pointer (some ⟨b6, 0, none⟩), .pointer (some ⟨b5, 0, none⟩)], args := #[] } :: []) (.returning) ws_5)
        (DoesV Try.prog g1 fs1 #[.int .u8 0] cs1 w8 fun e67_1 w67_1 =>
          ∃ n67_1 : Int, e67_1 = .returned (.int .i64 n67_1) ∧ CanStore w67_1 b6 0 ∧ ∀ ws_6, Stored w67_1 b6 0 (.int .i64 n67_1) ws_6 →
          LeavesV (fun wk_2 => ∃ n6_4 : Int, wk_2.cell? ⟨b6, 0, none⟩ = some (.int .i64 n6_4) ∧ R (.returned (.int .i64 n6_4)) wk_2) (fun chk_2 wp_2 => R (.panicked chk_2) wp_2) Try.prog ({ target := .fn (.func 50) #[.pointer (some ⟨b3, 0, none⟩), .pointer (some ⟨b6, 0, none⟩), .pointer (some ⟨b5, 0, none⟩)], args := #[] } :: []) (.returning) ws_6) := by
    intro w8 f' U8 B8 hf' hi' c3 c5 k6
    have fin : ∀ {o : Int} {d' : Dev} {w9 : World}, d.op = (d', some o) → DevM w9 S b d' → Upd (fun z => z = b) w6 w9 → CanStore w9 b6 0 → DoesV Try.prog g1 fs1 #[.int .u8 o] cs1 w9 fun e67_1 w67_1 =>
          ∃ n67_1 : Int, e67_1 = .returned (.int .i64 n67_1) ∧ CanStore w67_1 b6 0 ∧ ∀ ws_6, Stored w67_1 b6 0 (.int .i64 n67_1) ws_6 →
          LeavesV (fun wk_2 => ∃ n6_4 : Int, wk_2.cell? ⟨b6, 0, none⟩ = some (.int .i64 n6_4) ∧ R (.returned (.int .i64 n6_4)) wk_2) (fun chk_2 wp_2 => R (.panicked chk_2) wp_2) Try.prog ({ target := .fn (.func 50) #[.pointer (some ⟨b3, 0, none⟩), .pointer (some ⟨b6, 0, none⟩), .pointer (some ⟨b5, 0, none⟩)], args := #[] } :: []) (.returning) ws_6 := by
      intro o d' w9 hop M9 U9 k9
      refine Does_V (hdoes hd _ _ hop w9 M9 (up U9)) ?_
      rintro e w10 ⟨n, rfl, u10, hr⟩
      have k10 := u10.can (fun ht => by have := hT _ ht; omega) k9
      refine ⟨n, rfl, k10, fun w11 s11 => leave_ok ⟨n, s11.cell k10, hr w11 (s11.upd.mono fun g _ e => ?_)⟩⟩
      have := U9.size
      omega
    refine ⟨_, c3, b, 0, rfl, _, _, _, B8.cell 3 rfl, brr (fun hl => ?_) fun hl => ?_⟩
    · have hl : 0 < d.out.length := by simp at hl; omega
      obtain ⟨o, r, ho⟩ : ∃ o r, d.out = o :: r := by
        cases h : d.out with
        | nil => rw [h] at hl; simp at hl
        | cons o r => exact ⟨o, r, rfl⟩
      have hop : d.op = ({ d with ops := d.ops + 1, fuse := if 0 < d.fuse then d.fuse - 1 else d.fuse, out := r }, some (o % 3)) := by unfold Dev.op; rw [if_neg hf0]; split <;> simp_all
      rw [hop] at hgop
      have O8 := A.ou.upd' U8 fun g _ hg e => hg.2.1 e
      obtain ⟨g, q, e, hc⟩ := O8.at 0 hl
      have hk := O8.inK _ (List.getElem_mem hl)
      have hlen : d.out.length = r.length + 1 := by rw [ho]; rfl
      have h0 : d.out[0] = o := by simp [ho]
      rw [h0] at hc hk
      refine ⟨_, c3, b, 0, rfl, _, _, _, B8.cell 3 rfl, ⟨Int.le_refl _, by omega⟩, g, q, e, _, hc, by decide, fun w9 x9 => ?_⟩
      have x9 := x9.ext
      refine ⟨_, x9.cell c3, _, x9.cell c3, b, 0, rfl, _, _, _, (B8.ext x9).cell 3 rfl, ⟨by decide, by omega⟩, b, 0, rfl, (B8.ext x9).can 3 (by simp), fun w10 s10 => ?_⟩
      have B10 : Blk w10 b [.slice pl d.now.length cl, .slice pn d.now.length cn, .slice pw d.writes.length cw, .slice (subp po 1 co 1) (d.out.length - 1) (co - 1), .int .i64 f', .bool d.dead, .int .i64 (d.ops + 1)] := (B8.ext x9).store s10
      have e1 : d.out.length - 1 = r.length := by omega
      rw [e1] at B10
      have U10 : Upd (fun z => z = b) w6 w10 := Upd.trans (Ext.then U8 x9) s10.upd
      have hoc := A.oc
      have hr : ((d.out.take d.out.length).drop 1) = r := by rw [List.take_length, ho]; rfl
      have O := A.ou.sub 1 d.out.length co hoc
      rw [hr] at O
      have ht : o.tmod 3 = o % 3 := Int.tmod_eq_emod_of_nonneg hk.1
      rw [ht]
      exact fin hop ⟨hgop, pl, cl, pn, cn, pw, cw, _, _, f', (A.hdr (d' := { d with ops := d.ops + 1, fuse := if 0 < d.fuse then d.fuse - 1 else d.fuse, out := r }) U10 B10 rfl rfl rfl hf' hi' (by simp only; omega) O).mono fun g _ hs => hs.1⟩ U10 (s10.upd.can (show ¬ b6 = b by omega) (x9.can k6))
    · have ho : d.out = [] := List.eq_nil_of_length_eq_zero (by have := of_decide_eq_false hl; omega)
      have hop : d.op = ({ d with ops := d.ops + 1, fuse := if 0 < d.fuse then d.fuse - 1 else d.fuse }, some 0) := by unfold Dev.op; rw [if_neg hf0]; split <;> simp_all
      rw [hop] at hgop
      exact fin hop ⟨hgop, pl, cl, pn, cn, pw, cw, po, co, f', (A.hdr (d' := { d with ops := d.ops + 1, fuse := if 0 < d.fuse then d.fuse - 1 else d.fuse }) U8 B8 rfl rfl rfl hf' hi' A.oc A.ou).mono fun g _ hs => hs.1⟩ U8 k6
  refine ⟨_, c3', b, 0, rfl, _, B7.cell 4 rfl, brr (fun hp => ?_) fun hp => ?_⟩
  · have hp : 0 < f := by simpa using hp
    refine ⟨_, c3', b, 0, rfl, _, B7.cell 4 rfl, inI64 (by omega) (by have := A.fin.2; simp [IntKind.max, IntKind.signed, IntKind.bits] at this; omega), b, 0, rfl, B7.can 4 (by simp), fun w8 s8 => ?_⟩
    have B8 : Blk w8 b [.slice pl d.now.length cl, .slice pn d.now.length cn, .slice pw d.writes.length cw, .slice po d.out.length co, .int .i64 (f - 1), .bool d.dead, .int .i64 (d.ops + 1)] := B7.store s8
    have u8 := s8.upd
    exact rest (Upd.trans u7 u8) B8 (by omega) (inI64 (by omega) (by have := A.fin.2; simp [IntKind.max, IntKind.signed, IntKind.bits] at this; omega)) (u8.cell (show ¬ b3 = b by omega) c3') (u8.cell (show ¬ b5 = b by omega) c5') (u8.can (show ¬ b6 = b by omega) k6')
  · have hp : ¬ 0 < f := by simpa using hp
    exact rest u7 B7 (by omega) A.fin c3' c5' k6'
end Go.Proofs.Ytiblbjagfiigdaa
