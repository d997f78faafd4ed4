/-
  What a given argument holds: nodes, marks.
-/
import Derived.Test.YtlenmnffdbgkkaaEditOpen
import Derived.Test.YtlenmnffdbgkkaaStateLaws3
namespace Go.Vc
open Go.RowKit
def NodeB (w : World) (ok : Nat → Prop) (vs : List Value) (n : Nd) : Prop := NodeV w ok vs n ∧ n.es.length ≤ maxLen
theorem RS.imp {α : Type} {RV RU : World → (Nat → Prop) → List Value → α → Prop} {sz : Nat} {w : World} {ok : Nat → Prop} {p : Option Addr} {xs : List α} (h : RS sz (ElemC RV) w ok p xs) (hi : ∀ vs x, RV w ok vs x → RU w ok vs x) : RS sz (ElemC RU) w ok p xs := fun i hi' => by
  obtain ⟨b, o, hp, hb, hl, vs, hv, hc⟩ := h i hi'
  exact ⟨b, o, hp, hb, hl, vs, hi _ _ hv, hc⟩
theorem RS.each {α : Type} {RV : World → (Nat → Prop) → List Value → α → Prop} {sz : Nat} {w : World} {ok : Nat → Prop} {p : Option Addr} {xs : List α} (h : RS sz (ElemC RV) w ok p xs) {Q : α → Prop} (hi : ∀ vs x, RV w ok vs x → Q x) : ∀ x ∈ xs, Q x := fun x hx => by
  obtain ⟨i, hi', rfl⟩ := List.getElem_of_mem hx
  obtain ⟨b, o, hp, hb, hl, vs, hv, hc⟩ := h i hi'
  exact hi _ _ hv
theorem nodes_of {w : World} {ok : Nat → Prop} {p : Option Addr} {ns : List Nd} (h : RS 3 (ElemC NodeB) w ok p ns) : Nodes w ok p ns := h.imp fun _ _ h => h.1
theorem nodes_big {w : World} {ok : Nat → Prop} {p : Option Addr} {ns : List Nd} (h : RS 3 (ElemC NodeB) w ok p ns) : ∀ n ∈ ns, n.es.length ≤ 9223372036854775807 := h.each fun _ n h => by have := h.2; simp only [maxLen] at this; omega
end Go.Vc
namespace Go.Proofs.Ytlenmnffdbgkkaa
open Go.RowKit Go.Vc Go.ChangeShapes Go.WideShapes
section
variable {H : Type} {enc : TypeId × Value → H} {w : World} {base : Nat} {sp : Nat → Bool} {held : Bool}
theorem node_open {n : Nat} {cs : List Value} {y : DataW H × List MemPlace} (h : DataW.trod enc Try.prog w base sp held n 63 cs = some y) : ∃ x : Nd, NodeB w (fun _ => True) cs x := by
  have hlen := struct_len Try.underlying63 h
  obtain ⟨n0, y0, h0⟩ := field_open Try.underlying63 h 0 rfl (T := 3) rfl (o := 0) rfl (s := 1) (by kernel_rfl)
  obtain ⟨n1, y1, h1⟩ := field_open Try.underlying63 h 1 rfl (T := 59) rfl (o := 1) rfl (s := 1) (by kernel_rfl)
  obtain ⟨n2, y2, h2⟩ := field_open Try.underlying63 h 2 rfl (T := 3) rfl (o := 2) rfl (s := 1) (by kernel_rfl)
  obtain ⟨a, ha, hk⟩ := int_open Try.underlying3 h0
  obtain ⟨p, l, c, hp⟩ := slice_form Try.underlying59 h1
  obtain ⟨d, hd, hkd⟩ := int_open Try.underlying3 h2
  rw [hp] at h1
  obtain ⟨g1, g2, xs, rfl, ix⟩ := edits_open h1
  refine ⟨⟨a, xs, d⟩, ⟨p, c, ?_, hk, hkd, g1, ix⟩, Nat.le_trans g1 g2⟩
  have hs : Try.prog.cellsOf 63 = 3 := by kernel_rfl
  rw [hs] at hlen
  match cs, hlen with
  | [c0, c1, c2], _ =>
    simp at ha hp hd
    rw [ha, hp, hd]
theorem nodes_open {fuel : Nat} {p : Option Addr} {l c : Nat} {x : DataW H × List MemPlace} (h : DataW.trod enc Try.prog w base sp held fuel 35 [.slice p l c] = some x) :
    l ≤ c ∧ c ≤ maxLen ∧ ∃ xs : List Nd, l = xs.length ∧ RS 3 (ElemC NodeB) w (fun _ => True) p xs :=
  rs_open Try.underlying35 (by kernel_rfl) (by decide) (fun _ _ _ h => node_open h) h
theorem mark_open {n : Nat} {cs : List Value} {y : DataW H × List MemPlace} (h : DataW.trod enc Try.prog w base sp held n 61 cs = some y) : ∃ x : Int × Int, MkV w (fun _ => True) cs x := by
  have hlen := struct_len Try.underlying61 h
  obtain ⟨n0, y0, h0⟩ := field_open Try.underlying61 h 0 rfl (T := 5) rfl (o := 0) rfl (s := 1) (by kernel_rfl)
  obtain ⟨n1, y1, h1⟩ := field_open Try.underlying61 h 1 rfl (T := 3) rfl (o := 1) rfl (s := 1) (by kernel_rfl)
  obtain ⟨a, ha, k0⟩ := int_open Try.underlying5 h0
  obtain ⟨b, hb, k1⟩ := int_open Try.underlying3 h1
  refine ⟨(a, b), ?_, k0, k1⟩
  have hs : Try.prog.cellsOf 61 = 2 := by kernel_rfl
  rw [hs] at hlen
  match cs, hlen with
  | [c0, c1], _ =>
    simp at ha hb
    rw [ha, hb]
theorem marks_open {fuel : Nat} {p : Option Addr} {l c : Nat} {x : DataW H × List MemPlace} (h : DataW.trod enc Try.prog w base sp held fuel 29 [.slice p l c] = some x) :
    l ≤ c ∧ c ≤ maxLen ∧ ∃ xs : List (Int × Int), l = xs.length ∧ Mks w (fun _ => True) p xs :=
  rs_open Try.underlying29 (by kernel_rfl) (by decide) (fun _ _ _ h => mark_open h) h
end
end Go.Proofs.Ytlenmnffdbgkkaa
