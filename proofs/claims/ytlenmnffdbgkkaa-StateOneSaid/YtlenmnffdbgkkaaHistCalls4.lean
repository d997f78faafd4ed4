/-
  Histories: what each function of the code does: adding; the first statements.
-/
import Derived.Test.YtlenmnffdbgkkaaHistCalls2
import Derived.Test.YtlenmnffdbgkkaaEditRoom
namespace Go.Proofs.Ytlenmnffdbgkkaa
open Go.RowKit Go.Vc
section
variable {w : World} {A : Nat → Prop} {b : Nat} {ns : List Nd} {cur : Nat}
theorem flatten_snoc (vss : List (List Value)) (vs : List Value) : vss.flatten ++ vs = (vss ++ [vs]).flatten := by simp
def addOk (ns : List Nd) (es : List E) (cu : Int) : Prop := es ≠ [] ∧ 0 ≤ cu ∧ ns.length < 65536
def addErr (es : List E) (cu : Int) : Int := if es = [] ∨ cu < 0 then 1 else 6
def newN (cur : Nat) (es : List E) (cu : Int) : Nd := ⟨cur, es, cu⟩
theorem add_tail {w1 ws ws1 : World} {p : Option Addr} {c : Nat} (hrow : Nodes w1 (fun k => A k ∧ k ≠ b) p ns) (hc : ns.length ≤ c) (k0 : CanStore w1 b 0) (k1 : CanStore w1 b 1) (s0 : Stored w1 b 0 (.slice p ns.length c) ws) (s1 : Stored ws b 1 (.int .i64 (cur : Int)) ws1)
    (hA : A b) (hlt : ∀ k, A k → k < w1.heap.size) : Hs ws1 A b ns cur :=
  ⟨⟨p, c, hc, (s1.other (.inr (by decide))).trans (s0.cell k0), (hrow.upd s0.upd fun k hk => hk.2).upd s1.upd fun k hk => hk.2⟩, s1.cell (s0.can k1), s1.can (s0.can k0), s1.can (s0.can k1), hA, fun k hk => Nat.lt_of_lt_of_le (hlt k hk) (by rw [s1.size, s0.size]; exact Nat.le_refl _)⟩
theorem clip_does {bb o l c : Nat} (hl : 0 < l) (hc : l ≤ c) : Does Try.prog 44 #[.slice (some ⟨bb, o, none⟩) l c] w fun e w' => e = .returned (.slice (some ⟨bb, o, none⟩) l l) ∧ w' = w := by
  apply f44_does
  refine ⟨⟨by omega, by omega⟩, ⟨by omega, by omega⟩, ?_, rfl⟩
  unfold subp
  rw [if_neg (by omega)]
  have : ((l : Int)).toNat - 0 = l := by omega
  rw [this]
  simp [add_plain']
theorem add_does (h : Hs w A b ns cur) (hn : 0 < ns.length) (hcur : cur < ns.length) (hn6 : ns.length ≤ 65536) {ok : Nat → Prop} {p : Option Addr} {es : List E} (hx : Edits w ok p es) {l : Nat} (hl : l = es.length) (c : Nat) (hm : Mod es) (cu : Int) (hcu : InK .i64 cu) :
    Does Try.prog 24 #[.pointer (some ⟨b, 0, none⟩), .slice p l c, .int .i64 cu] w fun e w' =>
      (¬ addOk ns es cu ∧ e = .returned (.tuple #[.int .i64 0, .int .i64 (addErr es cu)]) ∧ w' = w) ∨
      (addOk ns es cu ∧ e = .returned (.tuple #[.int .i64 (ns.length : Int), .int .i64 0]) ∧ Upd (fun k => k = b) w w' ∧ Hs w' (fun k => A k ∨ w.heap.size ≤ k ∧ k < w'.heap.size) b (ns ++ [newN cur es cu]) ns.length) := by
  subst hl
  apply f24_does
  refine (made_does h hn).imp ?_
  rintro e w10 ⟨rfl, rfl⟩
  obtain ⟨q, d, hd1, hd2, hd3⟩ := h.row
  refine ⟨_, rfl, fls rfl (brr (fun j => .inl ?_) fun j0 => brr (fun j => .inl ?_) fun j1 => ⟨b, 0, rfl, _, _, _, hd2, brr (fun j => .inl ?_) fun j2 wd hd => ?_⟩)⟩
  · have : es = [] := by
      have : (es.length : Int) = 0 := by simpa using j
      exact List.length_eq_zero_iff.1 (by omega)
    exact ⟨fun k => k.1 this, by unfold addErr; rw [if_pos (.inl this)], rfl⟩
  · have j := of_decide_eq_true j
    exact ⟨fun k => by have := k.2.1; omega, by unfold addErr; rw [if_pos (.inr j)], rfl⟩
  all_goals
    have j0 : es ≠ [] := by
      rintro rfl
      simp at j0
    have j1 := of_decide_eq_false j1
  · have j := of_decide_eq_true j
    exact ⟨fun k => by have := k.2.2; omega, by unfold addErr; rw [if_neg (fun k => k.elim j0 j1)], rfl⟩
  have j2 := of_decide_eq_false j2
  have Hd := h.ext hd.ext
  have hd3' := hd3.ext hd.ext
  obtain ⟨bb, o, _, _, hp, hAbb, _⟩ := hd3'.at 0 hn
  subst hp
  refine ⟨fun v => Ext wd v, Upd.refl _ _, b, 0, rfl, _, _, _, hd.ext.cell hd2, (clip_does hn hd1).imp ?_⟩
  rintro e w32 ⟨rfl, rfl⟩
  refine ⟨_, _, _, rfl, Upd.refl _ _, b, 0, rfl, _, fun v hv => hv.cell Hd.at1, (owns_does (hx.ext hd.ext) rfl c hm).imp ?_⟩
  rintro e w38 ⟨p38, c38, rfl, o38, x38⟩
  refine ⟨_, _, _, rfl, x38, fun b41 w41 hb41 => ?_⟩
  have x41 : Ext w10 w41 := Ext.thn hd.ext (Ext.thn x38 hb41.ext)
  have hd4 := hd3.ext x41
  obtain ⟨vss, v1, v2, v3⟩ := RS.cells (fun _ _ _ _ h => NodeV.len h) hd4
  obtain ⟨c42, w42, hr, ho, x42⟩ := append_grow slN 35 (l := ns.length) (c := ns.length) (l2 := 1) (c2 := 1) (news := [.int .i64 (cur : Int), .slice p38 es.length c38, .int .i64 cu]) v1 v2 rfl hb41.src (by omega) ⟨hn, by omega⟩ (by simp only [maxLen]; omega) (by omega)
  have o38' := o38.ext EditV.stable EditV.widens (Ext.thn hb41.ext x42)
  have x42' : Ext w10 w42 := Ext.thn x41 x42
  have hall : All2 (fun vs x => vs.length = 3 ∧ NodeV w42 (fun k => (A k ∨ w10.heap.size ≤ k ∧ k < w42.heap.size) ∧ k ≠ b) vs x) (vss ++ [[.int .i64 (cur : Int), .slice p38 es.length c38, .int .i64 cu]]) (ns ++ [newN cur es cu]) := by
    refine All2.append (v3.imp fun vs x ⟨q1, q2⟩ => ⟨q1, NodeV.widens _ _ _ _ _ (fun k _ hk => ⟨.inl hk.1, hk.2⟩) (NodeV.stable _ _ _ _ _ _ x42 (fun _ _ => id) q2)⟩) (.cons ⟨rfl, p38, c38, rfl, inI64 (by show (_ : Int) ≤ (cur : Int); omega) (by show (cur : Int) ≤ _; omega), hcu, OwnL.cap o38', (OwnL.edits o38').ok fun g _ hg => ⟨.inr ⟨?_, hg.2⟩, ?_⟩⟩ .nil)
    · have := hd.ext.size; have := hg.1; omega
    · have := h.lt b h.mem; have := hd.ext.size; have := hg.1; omega
  rw [flatten_snoc] at ho
  have hlen : (ns ++ [newN cur es cu]).length = ns.length + 1 := by simp
  have hcap := ho.cap.1
  obtain ⟨_, hN⟩ := Own.rs ho (by decide) hall fun g g1 g2 => ⟨.inr ⟨by have := x41.size; omega, g2⟩, by have := h.lt b h.mem; have := x41.size; omega⟩
  refine ⟨_, _, _, w42, hr, b, 0, rfl, x42'.can h.can0, fun ws s0 => ⟨b, 0, rfl, _, _, _, s0.cell (x42'.can h.can0), inI64 (by omega) (by omega), b, 0, rfl, s0.can (x42'.can h.can1), fun ws1 s1 => ⟨b, 0, rfl, _, s1.cell (s0.can (x42'.can h.can1)), .inr ⟨⟨j0, by omega, by omega⟩, ?_, ?_, ?_⟩⟩⟩⟩
  · rw [show (((ns.length + 1 : Nat) : Int) - 1) = (ns.length : Int) by omega]
  · exact Upd.then (Upd.then (Upd.mono x42' fun k _ e => e.elim) s0.upd fun k _ e => e) s1.upd fun k _ e => e
  · rw [show (((ns.length + 1 : Nat) : Int) - 1) = (ns.length : Int) by omega] at s1
    rw [← hlen] at s0
    have hs12 : ws1.heap.size = w42.heap.size := by rw [s1.size, s0.size]
    rw [hs12]
    exact add_tail hN (by omega) (x42'.can h.can0) (x42'.can h.can1) s0 s1 (.inl h.mem) fun k hk => by
      rcases hk with hk | hk
      · have := h.lt k hk; have := x42'.size; omega
      · exact hk.2
end
end Go.Proofs.Ytlenmnffdbgkkaa
