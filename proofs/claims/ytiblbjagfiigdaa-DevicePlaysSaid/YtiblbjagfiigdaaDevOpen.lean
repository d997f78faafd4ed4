/-
  What a given argument holds: deeds.
-/
import Derived.Test.YtiblbjagfiigdaaOpen
import Derived.Test.YtiblbjagfiigdaaDevTools
namespace Go.Proofs.Ytiblbjagfiigdaa
open Go.RowKit Go.Vc Go.ChangeShapes Go.WideShapes
section
variable {H : Type} {enc : TypeId × Value → H} {w : World} {base : Nat} {sp : Nat → Bool} {held : Bool}
theorem deed_open {n : Nat} {cs : List Value} {y : DataW H × List MemPlace} (h : DataW.trod enc Try.prog w base sp held n 39 cs = some y) : ∃ x : Deed, DeedV w (fun _ => True) cs x := by
  have hlen := struct_len Try.underlying39 h
  obtain ⟨n0, y0, h0⟩ := field_open Try.underlying39 h 0 rfl (T := 3) rfl (o := 0) rfl (s := 1) (by kernel_rfl)
  obtain ⟨n1, y1, h1⟩ := field_open Try.underlying39 h 1 rfl (T := 3) rfl (o := 1) rfl (s := 1) (by kernel_rfl)
  obtain ⟨n2, y2, h2⟩ := field_open Try.underlying39 h 2 rfl (T := 3) rfl (o := 2) rfl (s := 1) (by kernel_rfl)
  obtain ⟨n3, y3, h3⟩ := field_open Try.underlying39 h 3 rfl (T := 5) rfl (o := 3) rfl (s := 1) (by kernel_rfl)
  obtain ⟨n4, y4, h4⟩ := field_open Try.underlying39 h 4 rfl (T := 22) rfl (o := 4) rfl (s := 1) (by kernel_rfl)
  obtain ⟨a, ha, ka⟩ := int_open Try.underlying3 h0
  obtain ⟨b, hb, kb⟩ := int_open Try.underlying3 h1
  obtain ⟨c, hc, kc⟩ := int_open Try.underlying3 h2
  obtain ⟨d, hd, kd⟩ := int_open Try.underlying5 h3
  obtain ⟨p, l, q, hp⟩ := slice_form Try.underlying22 h4
  rw [hp] at h4
  obtain ⟨g1, g2, xs, rfl, ix⟩ := ints_open Try.underlying22 Try.underlying5 (by kernel_rfl) h4
  refine ⟨⟨a, b, c, d, xs⟩, p, q, ?_, ka, kb, kc, kd, g1, ix⟩
  have hs : Try.prog.cellsOf 39 = 5 := by kernel_rfl
  rw [hs] at hlen
  match cs, hlen with
  | [c0, c1, c2, c3, c4], _ =>
    simp at ha hb hc hd hp
    rw [ha, hb, hc, hd, hp]
theorem deeds_open {fuel : Nat} {p : Option Addr} {l c : Nat} {x : DataW H × List MemPlace} (h : DataW.trod enc Try.prog w base sp held fuel 36 [.slice p l c] = some x) :
    l ≤ c ∧ c ≤ maxLen ∧ ∃ xs : List Deed, l = xs.length ∧ Deeds w (fun _ => True) p xs :=
  rs_open Try.underlying36 (by kernel_rfl) (by decide) (fun _ _ _ h => deed_open h) h
end
end Go.Proofs.Ytiblbjagfiigdaa
