/-
  Words for marks: a name and a place.
-/
import Derived.Test.YtlenmnffdbgkkaaLocal
namespace Go.Vc
open Go.RowKit
/-- A mark's two cells. -/
def MkV (_w : World) (_ok : Nat → Prop) (vs : List Value) (m : Int × Int) : Prop := vs = [.int .u8 m.1, .int .i64 m.2] ∧ InK .u8 m.1 ∧ InK .i64 m.2
theorem MkV.stable : StableV MkV := fun _ _ _ _ _ _ _ _ h => h
theorem MkV.widens : WidensV MkV := fun _ _ _ _ _ _ h => h
abbrev Mks (w : World) (ok : Nat → Prop) (p : Option Addr) (ms : List (Int × Int)) : Prop := RS 2 (ElemC MkV) w ok p ms
theorem Mks.ext {w w' : World} {ok : Nat → Prop} {p : Option Addr} {ms : List (Int × Int)} (h : Mks w ok p ms) (hu : Ext w w') : Mks w' ok p ms := RS.ext (ElemC.stable MkV.stable) h hu
theorem Mks.upd {w w' : World} {ok T : Nat → Prop} {p : Option Addr} {ms : List (Int × Int)} (h : Mks w ok p ms) (hu : Upd T w w') (ht : ∀ k, ok k → ¬ T k) : Mks w' ok p ms := RS.upd (ElemC.stable MkV.stable) h hu ht
theorem Mks.at {w : World} {ok : Nat → Prop} {p : Option Addr} {ms : List (Int × Int)} (h : Mks w ok p ms) (i : Nat) (hi : i < ms.length) :
    ∃ b o, p = some ⟨b, o, none⟩ ∧ b < w.heap.size ∧ w.cell? ⟨b, o + i * 2, none⟩ = some (.int .u8 ms[i].1) ∧ w.cell? ⟨b, o + i * 2 + 1, none⟩ = some (.int .i64 ms[i].2) ∧ InK .u8 ms[i].1 ∧ InK .i64 ms[i].2 := by
  obtain ⟨b, o, hp, _, hb, vs, ⟨rfl, h1, h2⟩, hc⟩ := h i hi
  exact ⟨b, o, hp, hb, hc 0 _ rfl, hc 1 _ rfl, h1, h2⟩
theorem Blk.st2 {w : World} {b : Nat} {vs : List Value} {x0 x1 : Value} (h : Blk w b vs) (hl : vs.length = 2) {G : World → Prop} (k : ∀ w', Blk w' b [x0, x1] → Upd (fun z => z = b) w w' → G w') :
    CanStore w b 0 ∧ ∀ ws, Stored w b 0 x0 ws → CanStore ws b 1 ∧ ∀ ws1, Stored ws b 1 x1 ws1 → G ws1 := by
  obtain ⟨a, b', rfl⟩ : ∃ a b', vs = [a, b'] := by
    match vs, hl with
    | [a, b'], _ => exact ⟨a, b', rfl⟩
  exact h.st (by simp) fun w1 h1 u1 => h1.st (by simp) fun w2 h2 u2 => k w2 h2 (Upd.trans u1 u2)
end Go.Vc
