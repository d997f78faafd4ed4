/-
  Edits of bytes: the plain law.
-/
namespace Go.Vc
/-- An edit. -/
structure E where
  at_ : Int
  old : List Int
  new : List Int
theorem E.ext {x y : E} : x = y ↔ x.at_ = y.at_ ∧ x.old = y.old ∧ x.new = y.new := by
  cases x; cases y; simp
instance : DecidableEq E := fun _ _ => decidable_of_iff _ E.ext.symm
def applyE (b : List Int) (e : E) : Option (List Int) :=
  if 0 ≤ e.at_ ∧ e.at_ ≤ b.length ∧ (b.drop e.at_.toNat).take e.old.length = e.old then some (b.take e.at_.toNat ++ e.new ++ b.drop (e.at_.toNat + e.old.length)) else none
def allE (b : List Int) : List E → Option (List Int)
  | [] => some b
  | e :: r => match applyE b e with
    | some c => allE c r
    | none => none
def turn1 (e : E) : E := ⟨e.at_, e.new, e.old⟩
def turnE (l : List E) : List E := (l.map turn1).reverse
end Go.Vc
