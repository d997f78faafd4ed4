/-
  What a given argument holds: nodes, deeds.
-/
import Derived.Test.YtbnjlnbmdkbpkaaEditOpen
import Derived.Test.YtbnjlnbmdkbpkaaHistLaws
namespace Go.Vc
open Go.RowKit
def NodeB (w : World) (ok : Nat → Prop) (vs : List Value) (n : Nd) : Prop := NodeV w ok vs n ∧ n.es.length ≤ maxLen
theorem RS.imp {α : Type} {RV RU : World → (Nat → Prop) → List Value → α → Prop} {sz : Nat} {w : World} {ok : Nat → Prop} {p : Option Addr} {xs : List α} (h : RS sz (ElemC RV) w ok p xs) (hi : ∀ vs x, RV w ok vs x → RU w ok vs x) : RS sz (ElemC RU) w ok p xs := fun i hi' => by
  obtain ⟨b, o, hp, hb, hl, vs, hv, hc⟩ := h i hi'
  exact ⟨b, o, hp, hb, hl, vs, hi _ _ hv, hc⟩
theorem RS.each {α : Type} {RV : World → (Nat → Prop) → List Value → α → Prop} {sz : Nat} {w : World} {ok : Nat → Prop} {p : Option Addr} {xs : List α} (h : RS sz (ElemC RV) w ok p xs) {Q : α → Prop} (hi : ∀ vs x, RV w ok vs x → Q x) : ∀ x ∈ xs, Q x := fun x hx => by
  obtain ⟨i, hi', rfl⟩ := List.getElem_of_mem hx
  obtain ⟨b, o, hp, hb, hl, vs, hv, hc⟩ := h i hi'
  exact hi _ _ hv
end Go.Vc
namespace Go.Proofs.Ytbnjlnbmdkbpkaa
open Go.RowKit Go.Vc Go.ChangeShapes Go.WideShapes
theorem node_open {H : Type} {enc : TypeId × Value → H} {w : World} {base : Nat} {sp : Nat → Bool} {held : Bool} {n : Nat} {cs : List Value} {y : DataW H × List MemPlace} (h : DataW.trod enc Try.prog w base sp held n 58 cs = some y) : ∃ x : Nd, NodeB w (fun _ => True) cs x := by
  have hlen := struct_len Try.underlying58 h
  obtain ⟨n0, y0, h0⟩ := field_open Try.underlying58 h 0 rfl (T := 3) rfl (o := 0) rfl (s := 1) (by kernel_rfl)
  obtain ⟨n1, y1, h1⟩ := field_open Try.underlying58 h 1 rfl (T := 45) rfl (o := 1) rfl (s := 1) (by kernel_rfl)
  obtain ⟨n2, y2, h2⟩ := field_open Try.underlying58 h 2 rfl (T := 3) rfl (o := 2) rfl (s := 1) (by kernel_rfl)
  obtain ⟨a, ha, hk⟩ := int_open Try.underlying3 h0
  obtain ⟨p, l, c, hp⟩ := slice_form Try.underlying45 h1
  obtain ⟨d, hd, hkd⟩ := int_open Try.underlying3 h2
  rw [hp] at h1
  obtain ⟨g1, g2, xs, rfl, ix⟩ := edits_open h1
  refine ⟨⟨a, xs, d⟩, ⟨p, c, ?_, hk, hkd, g1, ix⟩, Nat.le_trans g1 g2⟩
  have hs : Try.prog.cellsOf 58 = 3 := by kernel_rfl
  rw [hs] at hlen
  match cs, hlen with
  | [c0, c1, c2], _ =>
    simp at ha hp hd
    rw [ha, hp, hd]
theorem nodes_open {H : Type} {enc : TypeId × Value → H} {w : World} {base : Nat} {sp : Nat → Bool} {held : Bool} {fuel : Nat} {p : Option Addr} {l c : Nat} {x : DataW H × List MemPlace} (h : DataW.trod enc Try.prog w base sp held fuel 22 [.slice p l c] = some x) :
    l ≤ c ∧ c ≤ maxLen ∧ ∃ xs : List Nd, l = xs.length ∧ RS 3 (ElemC NodeB) w (fun _ => True) p xs :=
  rs_open Try.underlying22 (by kernel_rfl) (by decide) (fun _ _ _ h => node_open h) h
theorem loads_row {w : World} {p : Option Addr} {ns : List Nd} (hx : RS 3 (ElemC NodeB) w (fun _ => True) p ns) {l : Nat} (hl : l = ns.length) (c : Nat) (a : Int) (ha : InK .i64 a) : Does Try.prog 3 #[.slice p l c, .int .i64 a] w (Holds w) :=
  loads_law (hx.imp fun _ _ h => h.1) hl c (hx.each fun _ n h => by have := h.2; simp only [maxLen] at this; omega) a ha
end Go.Proofs.Ytbnjlnbmdkbpkaa
