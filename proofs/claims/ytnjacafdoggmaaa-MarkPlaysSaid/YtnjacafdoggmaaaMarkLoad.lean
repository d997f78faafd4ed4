/-
  Marks: lists of them.
-/
import Derived.Test.YtnjacafdoggmaaaMarkCalls
namespace Go.Proofs.Ytnjacafdoggmaaa
open Go.RowKit Go.Vc
/-- A mark's two cells. -/
def MkV (_w : World) (_ok : Nat → Prop) (vs : List Value) (m : Int × Int) : Prop := vs = [.int .u8 m.1, .int .i64 m.2] ∧ InK .u8 m.1 ∧ InK .i64 m.2
theorem MkV.stable : StableV MkV := fun _ _ _ _ _ _ _ _ h => h
theorem MkV.widens : WidensV MkV := fun _ _ _ _ _ _ h => h
abbrev Mks (w : World) (ok : Nat → Prop) (p : Option Addr) (ms : List (Int × Int)) : Prop := RS 2 (ElemC MkV) w ok p ms
theorem Mks.ext {w w' : World} {ok : Nat → Prop} {p : Option Addr} {ms : List (Int × Int)} (h : Mks w ok p ms) (hu : Ext w w') : Mks w' ok p ms := RS.ext (ElemC.stable MkV.stable) h hu
theorem Mks.upd {w w' : World} {ok T : Nat → Prop} {p : Option Addr} {ms : List (Int × Int)} (h : Mks w ok p ms) (hu : Upd T w w') (ht : ∀ k, ok k → ¬ T k) : Mks w' ok p ms := RS.upd (ElemC.stable MkV.stable) h hu ht
theorem Mks.at {w : World} {ok : Nat → Prop} {p : Option Addr} {ms : List (Int × Int)} (h : Mks w ok p ms) (i : Nat) (hi : i < ms.length) :
    ∃ b o, p = some ⟨b, o, none⟩ ∧ b < w.heap.size ∧ w.cell? ⟨b, o + i * 2, none⟩ = some (.int .u8 ms[i].1) ∧ w.cell? ⟨b, o + i * 2 + 1, none⟩ = some (.int .i64 ms[i].2) ∧ InK .u8 ms[i].1 ∧ InK .i64 ms[i].2 := by
  obtain ⟨b, o, hp, _, hb, vs, ⟨rfl, h1, h2⟩, hc⟩ := h i hi
  exact ⟨b, o, hp, hb, hc 0 _ rfl, hc 1 _ rfl, h1, h2⟩
/-- Rising marks, as they may be. -/
def MayL (ms : List (Int × Int)) : Prop := ∀ i (h : i < ms.length), mayM ms[i].1 ms[i].2 = true ∧ (0 < i → ms[i - 1].1 < ms[i].1)
theorem MayL.snoc {ms : List (Int × Int)} {k : Nat} (hk : k < ms.length) (h : MayL (ms.take k)) (h1 : mayM ms[k].1 ms[k].2 = true) (h2 : 0 < k → ms[k - 1].1 < ms[k].1) : MayL (ms.take (k + 1)) := by
  intro i hi
  have hl : i < k + 1 := by simp at hi; omega
  simp only [List.getElem_take]
  rcases Nat.lt_or_ge i k with hlt | hge
  · have := h i (by simp; omega)
    simpa only [List.getElem_take] using this
  · obtain rfl : i = k := by omega
    exact ⟨h1, h2⟩
def setX (xs : List Int) (m : Int × Int) : List Int := xs.set (m.1 - 97).toNat (m.2 + 1)
def loadX (ms : List (Int × Int)) : List Int := ms.foldl setX zeros26
theorem load_does {w : World} {ok : Nat → Prop} {p : Option Addr} {ms : List (Int × Int)} (hm : Mks w ok p ms) {l : Nat} (hl : l = ms.length) (c : Nat) (h63 : ms.length ≤ 9223372036854775807) :
    Does Try.prog 14 #[.slice p l c] w fun e w' => Ext w w' ∧ (MayL ms ∧ (∃ g, e = .returned (.tuple #[.pointer (some ⟨g, 0, none⟩), .bool true]) ∧ Mk w' g (loadX ms) ∧ w.heap.size ≤ g) ∨ ¬ MayL ms ∧ e = .returned (.tuple #[.pointer none, .bool false])) := by
  subst hl
  apply f14_does
  refine new_does.imp ?_
  rintro e w7 ⟨g, rfl, hM, hg, x7⟩
  refine ⟨_, rfl, fun x n wl => ∃ k : Nat, x = k ∧ n = ms.length - k ∧ k ≤ ms.length ∧ MayL (ms.take k) ∧ Mk wl g ((ms.take k).foldl setX zeros26) ∧ Ext w wl, ⟨_, 0, rfl, rfl, Nat.zero_le _, fun i hi => by simp at hi, hM, x7⟩, ?_⟩
  rintro _ n wl ⟨k, rfl, rfl, hk, hmay, hM, xl⟩
  refine ⟨fun jj => ?_, fun jj => ?_⟩
  · have jj := of_decide_eq_true jj
    have hlt : k < ms.length := by omega
    obtain ⟨b, o, hp, _, a1, a2, k1, k2⟩ := (hm.ext xl).at k hlt
    refine ⟨⟨by omega, by omega⟩, b, o, hp, _, a1, _, a2, fun b6 w6 hb => ⟨hb.can 0 (by simp), fun ws1 s1 => ⟨(hb.store s1).can 1 (by simp), fun ws2 s2 wd hd => ?_⟩⟩⟩
    have hb2 := (hb.store s1).store s2
    have xd := hd.ext
    have xx := Ext.thn hb2.ext xd
    have c0 := xd.cell (hb2.cell 0 (v := .int .u8 ms[k].1) rfl)
    have c1 := xd.cell (hb2.cell 1 (v := .int .i64 ms[k].2) rfl)
    have y := Ext.thn xl xx
    have fin : (0 < k → ms[k - 1].1 < ms[k].1) → Does Try.prog 10 #[.pointer (some ⟨g, 0, none⟩), .int .u8 ms[k].1, .int .i64 ms[k].2] wd fun e34 w34 => ∃ b34 : Bool, e34 = .returned (.bool b34) ∧ Br (!b34)
        (Ext w w34 ∧ (MayL ms ∧ (∃ g, (Ending.returned (.tuple #[.pointer none, .bool false])) = .returned (.tuple #[.pointer (some ⟨g, 0, none⟩), .bool true]) ∧ Mk w34 g (loadX ms) ∧ w.heap.size ≤ g) ∨ ¬ MayL ms ∧ (Ending.returned (.tuple #[.pointer none, .bool false])) = .returned (.tuple #[.pointer none, .bool false])))
        (InK .i64 ((k : Int) + 1) ∧ ∃ ml3, ml3 < ms.length - k ∧ ∃ k' : Nat, (k : Int) + 1 = k' ∧ ml3 = ms.length - k' ∧ k' ≤ ms.length ∧ MayL (ms.take k') ∧ Mk w34 g ((ms.take k').foldl setX zeros26) ∧ Ext w w34) := by
      intro hrise
      refine (set_does (hM.ext xx) _ _).imp ?_
      rintro e w34 ⟨rfl, hM', u34⟩
      have y34 : Ext w w34 := Upd.then y u34 fun i hi e => by have e : i = g := e; omega
      refine ⟨_, rfl, fun c => ?_, fun c => ?_⟩
      · have c : mayM ms[k].1 ms[k].2 = false := by simpa using c
        exact ⟨y34, .inr ⟨fun h => (by have := (h k hlt).1; rw [c] at this; cases this), rfl⟩⟩
      · have c : mayM ms[k].1 ms[k].2 = true := by simpa using c
        rw [if_pos c] at hM'
        refine ⟨inI64 (by omega) (by omega), _, by omega, k + 1, by omega, rfl, hlt, hmay.snoc hlt c hrise, ?_, y34⟩
        rw [List.take_succ_eq_append_getElem hlt, List.foldl_append]
        exact hM'
    refine ⟨fun c => ?_, fun c => ⟨_, c0, _, c1, fin fun h0 => ?_⟩⟩
    · have c := of_decide_eq_true c
      have hk1 : ((k : Int) - 1).toNat = k - 1 := by omega
      obtain ⟨b', o', hp', _, d1, d2, _, _⟩ := (hm.ext y).at (k - 1) (by omega)
      rw [hk1]
      refine ⟨inI64 (by omega) (by omega), ⟨by omega, by omega⟩, b', o', hp', _, d1, _, c0, fun c2 => ?_, fun c2 => ⟨_, c0, _, c1, fin fun _ => ?_⟩⟩
      · have c2 := of_decide_eq_true c2
        exact ⟨y, .inr ⟨fun h => (by have := (h k hlt).2 (by omega); omega), rfl⟩⟩
      · have c2 := of_decide_eq_false c2
        omega
    · have c := of_decide_eq_false c
      omega
  · have jj := of_decide_eq_false jj
    obtain rfl : k = ms.length := by omega
    rw [List.take_length] at hmay hM
    exact ⟨xl, .inl ⟨hmay, g, rfl, hM, hg⟩⟩
end Go.Proofs.Ytnjacafdoggmaaa
