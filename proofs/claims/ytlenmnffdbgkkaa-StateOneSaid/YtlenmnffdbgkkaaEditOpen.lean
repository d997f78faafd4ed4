/-
  What a given argument holds: edits.
-/
import Derived.Test.YtlenmnffdbgkkaaOpen
import Derived.Test.YtlenmnffdbgkkaaEditCalls2
namespace Go.Proofs.Ytlenmnffdbgkkaa
open Go.RowKit Go.Vc Go.ChangeShapes Go.WideShapes
theorem edit_open {H : Type} {enc : TypeId × Value → H} {w : World} {base : Nat} {sp : Nat → Bool} {held : Bool} {n : Nat} {cs : List Value} {y : DataW H × List MemPlace} (h : DataW.trod enc Try.prog w base sp held n 58 cs = some y) : ∃ x : E, EditV w (fun _ => True) cs x := by
  have hlen := struct_len Try.underlying58 h
  obtain ⟨n0, y0, h0⟩ := field_open Try.underlying58 h 0 rfl (T := 3) rfl (o := 0) rfl (s := 1) (by kernel_rfl)
  obtain ⟨n1, y1, h1⟩ := field_open Try.underlying58 h 1 rfl (T := 25) rfl (o := 1) rfl (s := 1) (by kernel_rfl)
  obtain ⟨n2, y2, h2⟩ := field_open Try.underlying58 h 2 rfl (T := 25) rfl (o := 2) rfl (s := 1) (by kernel_rfl)
  obtain ⟨a, ha, hk⟩ := int_open Try.underlying3 h0
  obtain ⟨p, l, c, hp⟩ := slice_form Try.underlying25 h1
  obtain ⟨q, m, d, hq⟩ := slice_form Try.underlying25 h2
  rw [hp] at h1
  rw [hq] at h2
  obtain ⟨g1, _, xs, rfl, ix⟩ := ints_open Try.underlying25 Try.underlying5 (by kernel_rfl) h1
  obtain ⟨g2, _, ys, rfl, iy⟩ := ints_open Try.underlying25 Try.underlying5 (by kernel_rfl) h2
  refine ⟨⟨a, xs, ys⟩, p, c, q, d, ?_, hk, g1, ix, g2, iy⟩
  have hs : Try.prog.cellsOf 58 = 3 := by kernel_rfl
  rw [hs] at hlen
  match cs, hlen with
  | [c0, c1, c2], _ =>
    simp at ha hp hq
    rw [ha, hp, hq]
theorem edits_open {H : Type} {enc : TypeId × Value → H} {w : World} {base : Nat} {sp : Nat → Bool} {held : Bool} {fuel : Nat} {p : Option Addr} {l c : Nat} {x : DataW H × List MemPlace} (h : DataW.trod enc Try.prog w base sp held fuel 59 [.slice p l c] = some x) :
    l ≤ c ∧ c ≤ maxLen ∧ ∃ xs : List E, l = xs.length ∧ Edits w (fun _ => True) p xs :=
  rs_open Try.underlying59 (by kernel_rfl) (by decide) (fun _ _ _ h => edit_open h) h
end Go.Proofs.Ytlenmnffdbgkkaa
