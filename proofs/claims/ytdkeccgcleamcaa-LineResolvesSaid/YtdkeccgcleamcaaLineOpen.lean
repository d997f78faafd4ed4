/-
  What given arguments hold: commands, marks.
-/
import Derived.Test.YtdkeccgcleamcaaOpen
import Derived.Test.YtdkeccgcleamcaaLineResolve2
namespace Go.Proofs.Ytdkeccgcleamcaa
open Go.RowKit Go.Vc Go.ChangeShapes Go.WideShapes
section
variable {H : Type} {enc : TypeId × Value → H} {w : World} {base : Nat} {sp : Nat → Bool} {held : Bool}
theorem addr_open {n : Nat} {cs : List Value} {y : DataW H × List MemPlace} (h : DataW.trod enc Try.prog w base sp held n 64 cs = some y) : ∃ x : A, AddrV w (fun _ => True) cs x := by
  have hlen := struct_len Try.underlying64 h
  obtain ⟨n0, y0, h0⟩ := field_open Try.underlying64 h 0 rfl (T := 5) rfl (o := 0) rfl (s := 1) (by kernel_rfl)
  obtain ⟨n1, y1, h1⟩ := field_open Try.underlying64 h 1 rfl (T := 3) rfl (o := 1) rfl (s := 1) (by kernel_rfl)
  obtain ⟨n2, y2, h2⟩ := field_open Try.underlying64 h 2 rfl (T := 3) rfl (o := 2) rfl (s := 1) (by kernel_rfl)
  obtain ⟨n3, y3, h3⟩ := field_open Try.underlying64 h 3 rfl (T := 5) rfl (o := 3) rfl (s := 1) (by kernel_rfl)
  obtain ⟨a, ha, k0⟩ := int_open Try.underlying5 h0
  obtain ⟨b, hb, k1⟩ := int_open Try.underlying3 h1
  obtain ⟨c, hc, k2⟩ := int_open Try.underlying3 h2
  obtain ⟨d, hd, k3⟩ := int_open Try.underlying5 h3
  refine ⟨⟨a, b, c, d⟩, ?_, k0, k1, k2, k3⟩
  have hs : Try.prog.cellsOf 64 = 4 := by kernel_rfl
  rw [hs] at hlen
  match cs, hlen with
  | [c0, c1, c2, c3], _ =>
    simp at ha hb hc hd
    rw [ha, hb, hc, hd]
theorem addrs_open {fuel : Nat} {p : Option Addr} {l c : Nat} {x : DataW H × List MemPlace} (h : DataW.trod enc Try.prog w base sp held fuel 29 [.slice p l c] = some x) :
    l ≤ c ∧ c ≤ maxLen ∧ ∃ xs : List A, l = xs.length ∧ Addrs w (fun _ => True) p xs :=
  rs_open Try.underlying29 (by kernel_rfl) (by decide) (fun _ _ _ h => addr_open h) h
theorem mark_open {n : Nat} {cs : List Value} {y : DataW H × List MemPlace} (h : DataW.trod enc Try.prog w base sp held n 43 cs = some y) : ∃ x : Int × Int, MkV w (fun _ => True) cs x := by
  have hlen := struct_len Try.underlying43 h
  obtain ⟨n0, y0, h0⟩ := field_open Try.underlying43 h 0 rfl (T := 5) rfl (o := 0) rfl (s := 1) (by kernel_rfl)
  obtain ⟨n1, y1, h1⟩ := field_open Try.underlying43 h 1 rfl (T := 3) rfl (o := 1) rfl (s := 1) (by kernel_rfl)
  obtain ⟨a, ha, k0⟩ := int_open Try.underlying5 h0
  obtain ⟨b, hb, k1⟩ := int_open Try.underlying3 h1
  refine ⟨(a, b), ?_, k0, k1⟩
  have hs : Try.prog.cellsOf 43 = 2 := by kernel_rfl
  rw [hs] at hlen
  match cs, hlen with
  | [c0, c1], _ =>
    simp at ha hb
    rw [ha, hb]
theorem marks_open {fuel : Nat} {p : Option Addr} {l c : Nat} {x : DataW H × List MemPlace} (h : DataW.trod enc Try.prog w base sp held fuel 40 [.slice p l c] = some x) :
    l ≤ c ∧ c ≤ maxLen ∧ ∃ xs : List (Int × Int), l = xs.length ∧ Mks w (fun _ => True) p xs :=
  rs_open Try.underlying40 (by kernel_rfl) (by decide) (fun _ _ _ h => mark_open h) h
/-- A given command. -/
theorem cmd_open {n : Nat} {cs : List Value} {y : DataW H × List MemPlace} (h : DataW.trod enc Try.prog w base sp held n 31 cs = some y) : ∃ p c s1 b s2, ∃ al : List A, cs = [.slice p al.length c, .string s1, .bool b, .string s2] ∧ Addrs w (fun _ => True) p al ∧ al.length ≤ c ∧ c ≤ maxLen := by
  have hlen := struct_len Try.underlying31 h
  obtain ⟨n0, y0, h0⟩ := field_open Try.underlying31 h 0 rfl (T := 29) rfl (o := 0) rfl (s := 1) (by kernel_rfl)
  obtain ⟨n1, y1, h1⟩ := field_open Try.underlying31 h 1 rfl (T := 9) rfl (o := 1) rfl (s := 1) (by kernel_rfl)
  obtain ⟨n2, y2, h2⟩ := field_open Try.underlying31 h 2 rfl (T := 4) rfl (o := 2) rfl (s := 1) (by kernel_rfl)
  obtain ⟨n3, y3, h3⟩ := field_open Try.underlying31 h 3 rfl (T := 9) rfl (o := 3) rfl (s := 1) (by kernel_rfl)
  obtain ⟨p, l, c, hp⟩ := slice_form Try.underlying29 h0
  rw [hp] at h0
  obtain ⟨g1, g2, al, rfl, hA⟩ := addrs_open h0
  obtain ⟨s1, hs1, _⟩ := string_open Try.underlying9 h1
  obtain ⟨b, hb⟩ := bool_open Try.underlying4 h2
  obtain ⟨s2, hs2, _⟩ := string_open Try.underlying9 h3
  refine ⟨p, c, s1, b, s2, al, ?_, hA, g1, g2⟩
  have hs : Try.prog.cellsOf 31 = 4 := by kernel_rfl
  rw [hs] at hlen
  match cs, hlen with
  | [c0, c1, c2, c3], _ =>
    simp at hp hs1 hb hs2
    rw [hp, hs1, hb, hs2]
end
end Go.Proofs.Ytdkeccgcleamcaa
