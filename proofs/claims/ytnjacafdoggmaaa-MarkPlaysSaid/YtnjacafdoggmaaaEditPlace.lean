/-
  Edits: what Place does.
-/
import Derived.Test.YtnjacafdoggmaaaBytes
import Derived.Test.YtnjacafdoggmaaaEditWords
namespace Go.Proofs.Ytnjacafdoggmaaa
open Go.RowKit Go.Vc
/-- Where a place is behind an edit. -/
def placeE (at_ : Int) (e : E) : Int := if at_ < e.at_ then at_ else if at_ - e.at_ ≥ e.old.length then at_ + e.new.length - e.old.length else e.at_
theorem place_does {w : World} {at_ : Int} {e : E} (p q : Option Addr) (c d : Nat) (h0 : -100000000000000 ≤ at_) (h1 : at_ ≤ 100000000000000) (h2 : -100000000000000 ≤ e.at_) (h3 : e.at_ ≤ 100000000000000) (h4 : e.old.length ≤ 1000000000) (h5 : e.new.length ≤ 1000000000) :
    Does Try.prog 23 #[.int .i64 at_, .agg #[.int .i64 e.at_, .slice p e.old.length c, .slice q e.new.length d]] w fun r w' => r = .returned (.int .i64 (placeE at_ e)) ∧ Ext w w' := by
  apply f23_does
  intro b w3 hn
  refine ⟨_, hn.cell 0 rfl, fun h => ?_, fun h => ?_⟩
  · refine ⟨?_, hn.ext⟩
    rw [placeE, if_pos (of_decide_eq_true h)]
  · refine ⟨_, hn.cell 0 rfl, inI64 (by omega) (by omega), _, _, _, hn.cell 1 rfl, fun k => ?_, fun k => ?_⟩
    · refine ⟨_, _, _, hn.cell 2 rfl, inI64 (by omega) (by omega), _, _, _, hn.cell 1 rfl, inI64 (by omega) (by omega), ?_, hn.ext⟩
      rw [placeE, if_neg (of_decide_eq_false h), if_pos (of_decide_eq_true k)]
    · refine ⟨_, hn.cell 0 rfl, ?_, hn.ext⟩
      rw [placeE, if_neg (of_decide_eq_false h), if_neg (of_decide_eq_false k)]
theorem rplace_does {w : World} {at_ : Int} {e : E} (p q : Option Addr) (c d : Nat) (h0 : -100000000000000 ≤ at_) (h1 : at_ ≤ 100000000000000) (h2 : -100000000000000 ≤ e.at_) (h3 : e.at_ ≤ 100000000000000) (h4 : e.old.length ≤ 1000000000) (h5 : e.new.length ≤ 1000000000) :
    Does Try.prog 26 #[.int .i64 at_, .agg #[.int .i64 e.at_, .slice p e.old.length c, .slice q e.new.length d]] w fun r w' => r = .returned (.int .i64 (placeE at_ e)) ∧ Ext w w' := by
  apply f26_does
  intro b w3 hn
  refine ⟨_, hn.cell 0 rfl, fun h => ?_, fun h => ?_⟩
  · refine ⟨?_, hn.ext⟩
    rw [placeE, if_pos (of_decide_eq_true h)]
  · refine ⟨_, hn.cell 0 rfl, inI64 (by omega) (by omega), _, _, _, hn.cell 1 rfl, fun k => ?_, fun k => ?_⟩
    · refine ⟨_, _, _, hn.cell 1 rfl, inI64 (by omega) (by omega), _, _, _, hn.cell 2 rfl, inI64 (by omega) (by omega), ?_, hn.ext⟩
      rw [placeE, if_neg (of_decide_eq_false h), if_pos (of_decide_eq_true k)]
      congr 2; omega
    · refine ⟨_, hn.cell 0 rfl, ?_, hn.ext⟩
      rw [placeE, if_neg (of_decide_eq_false h), if_neg (of_decide_eq_false k)]
end Go.Proofs.Ytnjacafdoggmaaa
