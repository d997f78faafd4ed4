/-
  Devices: the statements' functions answer true: chapter 5's examples, outcomes.
-/
import Derived.Test.YtiblbjagfiigdaaDevX
namespace Go.Proofs.Ytiblbjagfiigdaa
open Go.RowKit Go.Vc
variable {w : World}
/-- What chapter 5's examples ask, in the model. -/
def KnownP (d : Dev) (o : List Int) : Prop :=
  d.ops = 0 ∧ d.out = [] ∧ (d.write 2 o).1.ops = 1 ∧ (d.write 2 o).1.out.length = 0 ∧ ((d.write 2 o).1.crash [1]).ops = 0 ∧
  (((d.write 2 o).1.crash [1]).read 2).2.1.length = 256 ∧ (((d.write 2 o).1.crash [1]).read 2).2.1[63]? = some 1 ∧ (((d.write 2 o).1.crash [1]).read 2).2.1[64]? = some 0 ∧
  ((d.write 2 o).1.tell [1]).ops = 1 ∧ ((d.write 2 o).1.tell [1]).sync.2 = 7
def KnownQ (d : Dev) (o : List Int) : Prop :=
  d.ops ≤ 2 ∧ ((d.arm 0).write 3 o).2 = 7 ∧ (d.arm 0).ops ≤ 2 ∧ ((d.arm 0).write 3 o).1.ops ≤ 3 ∧ (((d.arm 0).write 3 o).1.read 3).2.2 = 7 ∧ (((d.arm 0).write 3 o).1.read 3).1.dead = true ∧ (((d.arm 0).write 3 o).1.read 3).1.ops ≤ 4 ∧
  ((((d.arm 0).write 3 o).1.read 3).1.crash []).ops = 0 ∧ (((((d.arm 0).write 3 o).1.read 3).1.crash []).read 3).2.1 = o
instance (d : Dev) (o : List Int) : Decidable (KnownP d o) := by unfold KnownP; infer_instance
instance (d : Dev) (o : List Int) : Decidable (KnownQ d o) := by unfold KnownQ; infer_instance
theorem known_pure : KnownP (Dev.new 8) onesL ∧ KnownQ (((Dev.new 8).write 2 onesL).1.tell [1]).sync.1 onesL := by decide +kernel
theorem known_law : Does Try.prog 5 #[] w (Holds w) := by
  refine f5_does (awake_does.imp ?_)
  rintro e w13 ⟨rfl, x13⟩
  refine ⟨_, rfl, fls rfl (newX (by decide) (by decide) fun b w16 M16 x16 => ⟨_, _, rfl, new_bad (by decide) ⟨_, _, rfl, fls rfl (ones_does.imp ?_)⟩⟩)⟩
  rintro e w26 ⟨p26, rfl, I26, x26⟩
  have e8 : (8 : Int).toNat = 8 := rfl
  rw [e8] at M16
  have F := known_pure
  have hp := onesL_pg
  have ones := @ones_does
  generalize Dev.new 8 = d0 at *
  generalize onesL = o at *
  obtain ⟨⟨F0, F1, F2, F3, F4, F5, F6, F7, F8, F9⟩, G⟩ := F
  obtain ⟨K26, M26, _, n26⟩ := M16.keep x26 fun _ => False.elim
  have I26 := Ints.ok I26.mid (ok' := K26) fun g _ h => n26 g h.1 h.2
  have y26 := x16.thn x26
  refine ⟨_, _, _, rfl, (writeX M26 y26.size (by rw [F0]; decide) I26 hp.1.symm 256).imp ?_⟩
  rintro e w27 ⟨rfl, M27, u27⟩
  have x27 : Ext w13 w27 := Upd.chg y26 (Nat.le_refl _) u27
  refine ⟨_, rfl, fun b30 w30 N30 => ?_⟩
  obtain ⟨K30, M30, _, _⟩ := M27.keep N30.ext fun _ => False.elim
  have x30 := x27.thn N30.ext
  refine (crashX M30 (by rw [F2]; decide) (one_int N30 ⟨by decide, by decide⟩) rfl 1).imp ?_
  rintro e w31 ⟨b31, rfl, M31, x31⟩
  refine ⟨_, rfl, (readX M31 (by rw [F4]; decide)).imp ?_⟩
  rintro e w32 ⟨p32, c32, rfl, I32, hc32, _, u32⟩
  obtain ⟨K31, M31', _, n31⟩ := M30.keep x31 fun _ => False.elim
  obtain ⟨K32, M32, k32, n32⟩ := M31'.keep u32 fun g e => .inl (n31 g e.1 e.2.2)
  have I32 := Ints.ok I32 (ok' := K32) fun g _ h => n32 g h.1 h.2
  have x32 : Ext w13 w32 := Upd.chg (x30.thn x31) x30.size u32
  refine ⟨_, _, _, _, rfl, fun b36 w36 N36 => ?_⟩
  obtain ⟨K36, M36, k36, n36⟩ := M32.keep N36.ext fun _ => False.elim
  have x36 := x32.thn N36.ext
  have I36 := Ints.ok (I32.ext N36.ext) (ok' := K36) fun g _ h => k36 g h
  refine (tellX M36 x36.size (one_int N36 ⟨by decide, by decide⟩) rfl 1 (by rw [F3]; decide)).imp ?_
  rintro e w37 ⟨rfl, M37, u37⟩
  have x37 := Upd.chg x36 (Nat.le_refl _) u37
  have I37 := I36.held u37
  refine ⟨rfl, (syncX M37 x37.size (by rw [F8]; decide)).imp ?_⟩
  rintro e w39 ⟨rfl, M39, u39⟩
  rw [F9]
  have x39 := Upd.chg x37 (Nat.le_refl _) u39
  have I39 := I37.held u39
  generalize (((d0.write 2 o).1.tell [1]).sync).1 = d3 at *
  obtain ⟨G0, G1, G2, G3, G4, G5, G6, G7, G8⟩ := G
  refine ⟨_, rfl, (fuseX M39 (inI64 (by decide) (by decide))).imp ?_⟩
  rintro e w41 ⟨rfl, M41, u41⟩
  have x41 := Upd.chg x39 (Nat.le_refl _) u41
  have I41 := I39.held u41
  refine ⟨rfl, (ones (w := w41)).imp ?_⟩
  rintro e w43 ⟨p43, rfl, I43, z43⟩
  obtain ⟨K43, M43, k43, n43⟩ := M41.keep z43 fun _ => False.elim
  have x43 := x41.thn z43
  have I43 := Ints.ok I43.mid (ok' := K43) fun g _ h => n43 g h.1 h.2
  have J43 := Ints.ok (I41.ext z43) (ok' := K43) fun g _ h => k43 g h
  refine ⟨_, _, _, rfl, (writeX M43 x43.size (by omega) I43 hp.1.symm 256).imp ?_⟩
  rintro e w44 ⟨rfl, M44, u44⟩
  rw [G1]
  have x44 := Upd.chg x43 (Nat.le_refl _) u44
  have I44 := J43.held u44
  refine ⟨_, rfl, (readX M44 (by omega)).imp ?_⟩
  rintro e w47 ⟨p47, c47, rfl, _, _, M47, u47⟩
  rw [G4]
  have x47 := Upd.chg x44 (Nat.le_refl _) u47
  have I47 := I44.held u47
  refine ⟨_, _, _, _, rfl, (crashX M47 (by omega) (ok := fun _ => True) (p := none) (choice := []) (by exact RS.nil) rfl 0).imp ?_⟩
  rintro e w52 ⟨b52, rfl, M52, x52⟩
  obtain ⟨K52, M52', k52, n52⟩ := M47.keep x52 fun _ => False.elim
  refine ⟨_, rfl, (readX M52 (by rw [G7]; decide)).imp ?_⟩
  rintro e w53 ⟨p53, c53, rfl, I53, _, _, u53⟩
  rw [G8] at I53
  obtain ⟨K53, M53, k53, n53⟩ := M52'.keep u53 fun g e => .inl (n52 g e.1 e.2.2)
  have x53 : Ext w13 w53 := Upd.chg (x47.thn x52) x47.size u53
  have I53' := (I47.ext x52).upd u53 fun g hg e => by have := M47.2 g hg; have := e.1; omega
  obtain ⟨g63, o63, h63, c63⟩ := I53'.at 63 (by rw [F5]; decide)
  obtain ⟨g64, o64, h64, c64⟩ := I53'.at 64 (by rw [F5]; decide)
  rw [List.getElem?_eq_getElem (by rw [F5]; decide)] at F6 F7
  injection F6 with F6
  injection F7 with F7
  rw [F6] at c63
  rw [F7] at c64
  refine ⟨_, _, _, _, rfl, tru (by rw [F5]; rfl) ⟨⟨by decide, by rw [F5]; decide⟩, g63, o63, h63, 1, c63, tru rfl ⟨⟨by decide, by rw [F5]; decide⟩, g64, o64, h64, 0, c64, tru rfl (tru rfl (tru rfl (tru rfl (deadX M53 ⟨_, rfl, tru G5 ((ones (w := w53)).imp ?_)⟩))))⟩⟩⟩
  rintro e w89 ⟨p89, rfl, I89, x89⟩
  rw [G8]
  refine ⟨_, _, _, rfl, (same_does (I53.ext x89) I89 rfl hp.1.symm _ _ (by rw [hp.1]; decide)).imp ?_⟩
  rintro e w90 ⟨rfl, x90⟩
  exact ⟨_, rfl, tru (decide_eq_true rfl) ⟨rfl, ((x13.thn x53).thn x89).thn x90⟩⟩
end Go.Proofs.Ytiblbjagfiigdaa
