/-
  Edits in memory.
-/
import Derived.Test.YtlenmnffdbgkkaaWords
import Derived.Test.YtlenmnffdbgkkaaEditPure
namespace Go.Vc
open Go.RowKit
/-- An edit's three cells. -/
def EditV (w : World) (ok : Nat → Prop) (vs : List Value) (e : E) : Prop :=
  ∃ p c q d, vs = [.int .i64 e.at_, .slice p e.old.length c, .slice q e.new.length d] ∧ InK .i64 e.at_ ∧ e.old.length ≤ c ∧ Ints .u8 w ok p e.old ∧ e.new.length ≤ d ∧ Ints .u8 w ok q e.new
theorem EditV.stable : StableV EditV := fun _ _ _ _ _ _ hu ht ⟨p, c, q, d, h1, h2, h3, h4, h5, h6⟩ => ⟨p, c, q, d, h1, h2, h3, h4.upd hu ht, h5, h6.upd hu ht⟩
theorem EditV.widens : WidensV EditV := fun _ _ _ _ _ hok ⟨p, c, q, d, h1, h2, h3, h4, h5, h6⟩ => ⟨p, c, q, d, h1, h2, h3, h4.ok hok, h5, h6.ok hok⟩
abbrev EditC := ElemC EditV
abbrev Edits (w : World) (ok : Nat → Prop) (p : Option Addr) (es : List E) : Prop := RS 3 EditC w ok p es
theorem Edits.ext {w w' : World} {ok : Nat → Prop} {p : Option Addr} {es : List E} (h : Edits w ok p es) (hu : Ext w w') : Edits w' ok p es := RS.ext (ElemC.stable EditV.stable) h hu
theorem Edits.upd {w w' : World} {ok T : Nat → Prop} {p : Option Addr} {es : List E} (h : Edits w ok p es) (hu : Upd T w w') (ht : ∀ k, ok k → ¬ T k) : Edits w' ok p es := RS.upd (ElemC.stable EditV.stable) h hu ht
theorem Edits.ok {w : World} {ok ok' : Nat → Prop} {p : Option Addr} {es : List E} (h : Edits w ok p es) (hok : ∀ k, k < w.heap.size → ok k → ok' k) : Edits w ok' p es :=
  RS.ok (ElemC.widens EditV.widens) h (fun _ _ _ h => h.1) hok
/-- The cells of an edit. -/
theorem Edits.at {w : World} {ok : Nat → Prop} {p : Option Addr} {es : List E} (h : Edits w ok p es) (i : Nat) (hi : i < es.length) :
    ∃ b o p1 c1 p2 c2, p = some ⟨b, o, none⟩ ∧ ok b ∧ w.cell? ⟨b, o + i * 3, none⟩ = some (.int .i64 es[i].at_) ∧ w.cell? ⟨b, o + i * 3 + 1, none⟩ = some (.slice p1 es[i].old.length c1) ∧
      w.cell? ⟨b, o + i * 3 + 2, none⟩ = some (.slice p2 es[i].new.length c2) ∧ InK .i64 es[i].at_ ∧ es[i].old.length ≤ c1 ∧ Ints .u8 w ok p1 es[i].old ∧ es[i].new.length ≤ c2 ∧ Ints .u8 w ok p2 es[i].new := by
  obtain ⟨b, o, hp, hb, _, vs, ⟨p1, c1, p2, c2, rfl, h2, h3, h4, h5, h6⟩, hc⟩ := h i hi
  exact ⟨b, o, p1, c1, p2, c2, hp, hb, hc 0 _ rfl, hc 1 _ rfl, hc 2 _ rfl, h2, h3, h4, h5, h6⟩
end Go.Vc
