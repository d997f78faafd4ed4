/-
  What a given argument holds: deeds.
-/
import Derived.Test.YtbnjlnbmdkbpkaaEditOpen
import Derived.Test.YtbnjlnbmdkbpkaaHistLaws2
namespace Go.Proofs.Ytbnjlnbmdkbpkaa
open Go.RowKit Go.Vc Go.ChangeShapes Go.WideShapes
theorem deed_open {H : Type} {enc : TypeId × Value → H} {w : World} {base : Nat} {sp : Nat → Bool} {held : Bool} {n : Nat} {cs : List Value} {y : DataW H × List MemPlace} (h : DataW.trod enc Try.prog w base sp held n 54 cs = some y) : ∃ x : Dd, DeedV w (fun _ => True) cs x := by
  have hlen := struct_len Try.underlying54 h
  obtain ⟨n0, y0, h0⟩ := field_open Try.underlying54 h 0 rfl (T := 3) rfl (o := 0) rfl (s := 1) (by kernel_rfl)
  obtain ⟨n1, y1, h1⟩ := field_open Try.underlying54 h 1 rfl (T := 3) rfl (o := 1) rfl (s := 1) (by kernel_rfl)
  obtain ⟨n2, y2, h2⟩ := field_open Try.underlying54 h 2 rfl (T := 3) rfl (o := 2) rfl (s := 1) (by kernel_rfl)
  obtain ⟨n3, y3, h3⟩ := field_open Try.underlying54 h 3 rfl (T := 45) rfl (o := 3) rfl (s := 1) (by kernel_rfl)
  obtain ⟨a0, ha0, hk0⟩ := int_open Try.underlying3 h0
  obtain ⟨a1, ha1, hk1⟩ := int_open Try.underlying3 h1
  obtain ⟨a2, ha2, hk2⟩ := int_open Try.underlying3 h2
  obtain ⟨p, l, c, hp⟩ := slice_form Try.underlying45 h3
  rw [hp] at h3
  obtain ⟨g1, g2, xs, rfl, ix⟩ := edits_open h3
  refine ⟨⟨a0, a1, a2, xs⟩, ⟨p, c, ?_, hk0, hk1, hk2, g1, ix⟩, Nat.le_trans g1 g2⟩
  have hs : Try.prog.cellsOf 54 = 4 := by kernel_rfl
  rw [hs] at hlen
  match cs, hlen with
  | [c0, c1, c2, c3], _ =>
    simp at ha0 ha1 ha2 hp
    rw [ha0, ha1, ha2, hp]
theorem deeds_open {H : Type} {enc : TypeId × Value → H} {w : World} {base : Nat} {sp : Nat → Bool} {held : Bool} {fuel : Nat} {p : Option Addr} {l c : Nat} {x : DataW H × List MemPlace} (h : DataW.trod enc Try.prog w base sp held fuel 51 [.slice p l c] = some x) :
    l ≤ c ∧ c ≤ maxLen ∧ ∃ xs : List Dd, l = xs.length ∧ RS 4 (ElemC DeedV) w (fun _ => True) p xs :=
  rs_open Try.underlying51 (by kernel_rfl) (by decide) (fun _ _ _ h => deed_open h) h
end Go.Proofs.Ytbnjlnbmdkbpkaa
