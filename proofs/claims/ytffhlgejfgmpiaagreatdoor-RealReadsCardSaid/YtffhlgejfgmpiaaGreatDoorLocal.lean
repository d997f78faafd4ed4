/-
  Words for memory, fourth part: blocks of locals that are stored into.
-/
import Derived.Test.YtffhlgejfgmpiaaGreatDoorWords2
namespace Go.Vc
open Go.RowKit
/-- A block whose cells hold these values and may be stored into. -/
structure Blk (w : World) (b : Nat) (vs : List Value) : Prop where
  lt : b < w.heap.size
  at' : ∀ j v, vs[j]? = some v → w.cell? ⟨b, j, none⟩ = some v ∧ CanStore w b j
theorem Blk.cell {w : World} {b : Nat} {vs : List Value} (h : Blk w b vs) (j : Nat) {v : Value} (hj : vs[j]? = some v) : w.cell? ⟨b, j, none⟩ = some v := (h.at' j v hj).1
theorem Blk.can {w : World} {b : Nat} {vs : List Value} (h : Blk w b vs) (j : Nat) (hj : j < vs.length) : CanStore w b j := (h.at' j _ (List.getElem?_eq_getElem hj)).2
theorem NewBlk.blk {w w' : World} {b : Nat} {cs : List Value} {T : TypeId} (h : NewBlk w b cs T w') : Blk w' b cs :=
  ⟨h.lt, fun j v hj => ⟨h.cell j hj, h.can j (List.getElem?_eq_some_iff.1 hj).1⟩⟩
theorem Blk.upd {w w' : World} {T : Nat → Prop} {b : Nat} {vs : List Value} (h : Blk w b vs) (hu : Upd T w w') (ht : ¬ T b) : Blk w' b vs :=
  ⟨Nat.lt_of_lt_of_le h.lt hu.size, fun j v hj => ⟨hu.cell ht (h.at' j v hj).1, hu.can ht (h.at' j v hj).2⟩⟩
theorem Blk.ext {w w' : World} {b : Nat} {vs : List Value} (h : Blk w b vs) (hu : Ext w w') : Blk w' b vs := h.upd hu id
theorem Blk.store {w w' : World} {b j : Nat} {vs : List Value} {x : Value} (h : Blk w b vs) (hs : Stored w b j x w') : Blk w' b (vs.set j x) := by
  refine ⟨by rw [hs.size]; exact h.lt, fun i v hi => ?_⟩
  by_cases hij : i = j
  · subst hij
    have hl : i < vs.length := by have := (List.getElem?_eq_some_iff.1 hi).1; simpa using this
    rw [List.getElem?_set_self hl] at hi
    injection hi with hi
    subst hi
    exact ⟨hs.cell (h.can i hl), hs.can (h.can i hl)⟩
  · rw [List.getElem?_set_ne (Ne.symm hij)] at hi
    obtain ⟨h1, h2⟩ := h.at' i v hi
    exact ⟨(hs.other (.inr hij)).trans h1, hs.can h2⟩
/-- One store. -/
theorem Blk.st {w : World} {b j : Nat} {vs : List Value} {x : Value} (h : Blk w b vs) (hj : j < vs.length) {G : World → Prop} (k : ∀ w', Blk w' b (vs.set j x) → Upd (fun z => z = b) w w' → G w') : CanStore w b j ∧ ∀ ws, Stored w b j x ws → G ws :=
  ⟨h.can j hj, fun ws hs => k ws (h.store hs) hs.upd⟩
theorem Blk.st4 {w : World} {b : Nat} {vs : List Value} {x0 x1 x2 x3 : Value} (h : Blk w b vs) (hl : vs.length = 4) {G : World → Prop} (k : ∀ w', Blk w' b [x0, x1, x2, x3] → Upd (fun z => z = b) w w' → G w') :
    CanStore w b 0 ∧ ∀ ws, Stored w b 0 x0 ws → CanStore ws b 1 ∧ ∀ ws1, Stored ws b 1 x1 ws1 → CanStore ws1 b 2 ∧ ∀ ws2, Stored ws1 b 2 x2 ws2 → CanStore ws2 b 3 ∧ ∀ ws3, Stored ws2 b 3 x3 ws3 → G ws3 := by
  obtain ⟨a, b', c, d, rfl⟩ : ∃ a b' c d, vs = [a, b', c, d] := by
    match vs, hl with
    | [a, b', c, d], _ => exact ⟨a, b', c, d, rfl⟩
  exact h.st (by simp) fun w1 h1 u1 => h1.st (by simp) fun w2 h2 u2 => h2.st (by simp) fun w3 h3 u3 => h3.st (by simp) fun w4 h4 u4 => k w4 h4 (Upd.trans (Upd.trans (Upd.trans u1 u2) u3) u4)
/-- What a local's store leaves of the old. -/
theorem Ext.loc {w0 w w' : World} {b : Nat} (h : Ext w0 w) (hb : w0.heap.size ≤ b) (hu : Upd (fun z => z = b) w w') : Ext w0 w' := Upd.then h hu fun g hg e => by omega
theorem br_and {p q : Bool} {H A B C : Prop} (hH : p = true → H) (ha : p = true → q = true → A) (hb : p = true → q = false → B) (hc : p = false → C) : Br p (H ∧ Br q A B) C :=
  ⟨fun h => ⟨hH h, ha h, hb h⟩, hc⟩
theorem Ints.base {k : IntKind} {w : World} {ok : Nat → Prop} {p : Option Addr} {xs : List Int} (h : Ints k w ok p xs) (h0 : 0 < xs.length) : ∃ a, p = some a ∧ ok a.block := by
  obtain ⟨b, o, e, hb, _⟩ := h 0 h0
  exact ⟨_, e, hb⟩
end Go.Vc
