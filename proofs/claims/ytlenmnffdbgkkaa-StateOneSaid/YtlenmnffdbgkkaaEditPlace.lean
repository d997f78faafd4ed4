/-
  Edits: what Place does.
-/
import Derived.Test.YtlenmnffdbgkkaaBytes
import Derived.Test.YtlenmnffdbgkkaaEditWords
namespace Go.Proofs.Ytlenmnffdbgkkaa
open Go.RowKit Go.Vc
/-- Where a place is behind an edit. -/
def placeE (at_ : Int) (e : E) : Int := if at_ < e.at_ then at_ else if at_ - e.at_ ≥ e.old.length then at_ + e.new.length - e.old.length else e.at_
end Go.Proofs.Ytlenmnffdbgkkaa
