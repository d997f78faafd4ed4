/-
  Bytes: what common functions of the code do.
-/
import Derived.Test.YteggcicicdcnlaaV
import Derived.Test.YteggcicicdcnlaaWords2
namespace Go.Proofs.Yteggcicicdcnlaa
open Go.RowKit Go.Vc
theorem slB : SlT Try.prog 27 5 1 1 := ⟨Try.underlying27, _, _, rfl, rfl, rfl, rfl, rfl, by decide⟩
/-- An append to an own row of bytes. -/
theorem append_b {w : World} {base : Nat} {p : Option Addr} {l c : Nat} {xs ys : List Int} (ho : Own w base 5 1 p l c (xs.map (Value.int .u8))) {ok : Nat → Prop} {p2 : Option Addr} (hy : Ints .u8 w ok p2 ys) {l2 : Nat} (hl : l2 = ys.length) (c2 : Nat)
    (hs : xs.length + ys.length ≤ 140737488351232) (hb : base ≤ w.heap.size) :
    ∃ p' c' w', (Builtin.append_ #[27, 27] 27 #[.slice p l c, .slice p2 l2 c2]).run Try.prog w = .ok (.slice p' (xs.length + ys.length) c') w' ∧ Own w' base 5 1 p' (xs.length + ys.length) c' ((xs ++ ys).map (Value.int .u8)) ∧
      Upd (fun k => ∃ a, p = some a ∧ a.block = k) w w' := by
  have hl' := ho.len
  rw [List.length_map] at hl'
  subst hl hl'
  obtain ⟨p', c', w', hr, ho', hu, _⟩ := append_own slB 27 ho (l2 := ys.length) (c2 := c2) (news := ys.map (Value.int .u8)) (by simp) hy.src (ints_one _ _) (by simp only [maxLen]; omega) (by omega) hb
  exact ⟨p', c', w', hr, by rw [List.map_append]; exact ho', hu⟩
end Go.Proofs.Yteggcicicdcnlaa
