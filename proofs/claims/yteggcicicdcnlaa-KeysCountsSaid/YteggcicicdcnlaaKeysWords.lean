/-
  Keys: a parser in memory.
-/
import Derived.Test.YteggcicicdcnlaaKeysSame
import Derived.Test.YteggcicicdcnlaaLocal
import Derived.Test.YteggcicicdcnlaaBytes
import Derived.Test.YteggcicicdcnlaaStrL
namespace Go.Proofs.Yteggcicicdcnlaa
open Go.RowKit Go.Vc
def fidT : Tag → FuncId
  | .begin => 19
  | .register => 27
  | .counted => 28
  | .second => 42
  | .again => 39
  | .name => 38
  | .letter => 37
def hereI (b : Bool) : Int := if b = true then 1 else 0
def fnV (g : Nat) (t : Tag) : Value := .func (.func (fidT t)) #[.pointer (some ⟨g, 0, none⟩)] #[]
def cellsP (g : Nat) (s : PS) (pk : Option Addr) (lk ck : Nat) (sk sm : ByteArray) (pa : Option Addr) (la ca : Nat) : List Value :=
  [.bool true, .bool s.visual, fnV g s.tag, .slice pk lk ck, .int .u8 s.reg, .int .i64 0, .string sk, .string sm, .slice pa la ca, .int .i64 s.n0, .int .i64 s.n1, .int .i64 (hereI s.here), .int .i64 s.letters]
def blkOf (p : Option Addr) : Option Nat := p.map (·.block)
/-- A parser, its keys, the blocks of its keys and of its letter. -/
structure PsM (w : World) (g : Nat) (s : PS) (B : List Int) (kb ab : Option Nat) (pk : Option Addr) (lk ck : Nat) (sk sm : ByteArray) (pa : Option Addr) (la ca : Nat) : Prop where
  blk : Blk w g (cellsP g s pk lk ck sk sm pa la ca)
  keys : Own w 0 5 1 pk lk ck (B.map (Value.int .u8))
  arg : Own w 0 5 1 pa la ca (s.arg.map (Value.int .u8))
  hkb : blkOf pk = kb
  hab : blkOf pa = ab
  hsk : L sk = s.key
  hsm : L sm = s.mot
  nk : kb ≠ some g
  na : ab ≠ some g
  nka : ∀ x, kb = some x → ab ≠ some x
  ink : ∀ x ∈ B, InK .u8 x
  ina : ∀ x ∈ s.arg, InK .u8 x
def Ps (w : World) (g : Nat) (s : PS) (B : List Int) (kb ab : Option Nat) : Prop := ∃ pk lk ck sk sm pa la ca, PsM w g s B kb ab pk lk ck sk sm pa la ca
/-- The parser's blocks. -/
def PT (g : Nat) (kb ab : Option Nat) (z : Nat) : Prop := z = g ∨ kb = some z ∨ ab = some z
theorem blk_ne {p : Option Addr} {b : Option Nat} {g : Nat} (h : blkOf p = b) (hn : b ≠ some g) {a : Addr} (ha : p = some a) : a.block ≠ g := fun e => hn (by rw [← h, ha, ← e]; rfl)
section
variable {w w' : World} {g : Nat} {s s' : PS} {B : List Int} {kb ab : Option Nat} {pk : Option Addr} {lk ck : Nat} {sk sm : ByteArray} {pa : Option Addr} {la ca : Nat}
theorem PsM.upd {T : Nat → Prop} (h : PsM w g s B kb ab pk lk ck sk sm pa la ca) (u : Upd T w w') (hT : ∀ z, T z → ¬ PT g kb ab z) : PsM w' g s B kb ab pk lk ck sk sm pa la ca :=
  ⟨h.blk.upd u fun e => hT _ e (.inl rfl), h.keys.upd u fun a ha e => hT _ e (.inr (.inl (by rw [← h.hkb, ha]; rfl))), h.arg.upd u fun a ha e => hT _ e (.inr (.inr (by rw [← h.hab, ha]; rfl))), h.hkb, h.hab, h.hsk, h.hsm, h.nk, h.na, h.nka, h.ink, h.ina⟩
theorem Ps.upd {T : Nat → Prop} (h : Ps w g s B kb ab) (u : Upd T w w') (hT : ∀ z, T z → ¬ PT g kb ab z) : Ps w' g s B kb ab := by
  obtain ⟨pk, lk, ck, sk, sm, pa, la, ca, h⟩ := h
  exact ⟨_, _, _, _, _, _, _, _, h.upd u hT⟩
theorem Ps.ext (h : Ps w g s B kb ab) (x : Ext w w') : Ps w' g s B kb ab := h.upd x fun _ e => e.elim
theorem Ps.lt (h : Ps w g s B kb ab) {z : Nat} (hz : PT g kb ab z) : z < w.heap.size := by
  obtain ⟨pk, lk, ck, sk, sm, pa, la, ca, h⟩ := h
  rcases hz with rfl | hz | hz
  · exact h.blk.lt
  · rw [← h.hkb] at hz
    cases hp : pk with
    | none => rw [hp] at hz; cases hz
    | some a => rw [hp] at hz; have hz : a.block = z := Option.some.inj hz; have := (h.keys.base hp).2; omega
  · rw [← h.hab] at hz
    cases hp : pa with
    | none => rw [hp] at hz; cases hz
    | some a => rw [hp] at hz; have hz : a.block = z := Option.some.inj hz; have := (h.arg.base hp).2; omega
/-- A store into a parser. -/
theorem PsM.st {j : Nat} {x : Value} {sk' sm' : ByteArray} (h : PsM w g s B kb ab pk lk ck sk sm pa la ca) (hj : j < 13) (hc : (cellsP g s pk lk ck sk sm pa la ca).set j x = cellsP g s' pk lk ck sk' sm' pa la ca) (ha : s'.arg = s.arg) (hk : L sk' = s'.key) (hm : L sm' = s'.mot)
    {G : World → Prop} (k : ∀ w', PsM w' g s' B kb ab pk lk ck sk' sm' pa la ca → Upd (fun z => z = g) w w' → G w') : CanStore w g j ∧ ∀ ws, Stored w g j x ws → G ws :=
  h.blk.st (by simpa [cellsP] using hj) fun w' Bk u => k w' ⟨hc ▸ Bk, h.keys.upd u fun a e e' => blk_ne h.hkb h.nk e e', by rw [ha]; exact h.arg.upd u fun a e e' => blk_ne h.hab h.na e e', h.hkb, h.hab, hk, hm, h.nk, h.na, h.nka, h.ink, by rw [ha]; exact h.ina⟩ u
theorem pt_g {z : Nat} (e : z = g) : PT g kb ab z := .inl e
/-- What a step answers. -/
def StepR (w : World) (g : Nat) (B : List Int) (kb ab : Option Nat) (p : PS × Int) (e : Ending) (w' : World) : Prop :=
  e = .returned (.int .i64 p.2) ∧ ∃ ab', Ps w' g p.1 B kb ab' ∧ Upd (PT g kb ab) w w' ∧ (ab' = ab ∨ ∃ x, ab' = some x ∧ w.heap.size ≤ x)
/-- A step behind other ones. -/
theorem StepR.after {T : Nat → Prop} {w0 : World} {p : PS × Int} {e : Ending} (h : StepR w g B kb ab p e w') (u : Upd T w0 w) (hT : ∀ z, z < w0.heap.size → T z → PT g kb ab z) : StepR w0 g B kb ab p e w' := by
  obtain ⟨h1, ab', h2, h3, h4⟩ := h
  exact ⟨h1, ab', h2, Upd.then (u.mono hT) h3 fun _ _ e => e, h4.imp id fun ⟨x, hx, hl⟩ => ⟨x, hx, Nat.le_trans u.size hl⟩⟩
end
end Go.Proofs.Yteggcicicdcnlaa
