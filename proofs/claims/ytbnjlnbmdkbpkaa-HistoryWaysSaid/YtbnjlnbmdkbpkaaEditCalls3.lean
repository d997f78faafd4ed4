/-
  Edits: what each function of the code does, third part: bytes behind edits.
-/
import Derived.Test.YtbnjlnbmdkbpkaaEditCalls2
namespace Go.Proofs.Ytbnjlnbmdkbpkaa
open Go.RowKit Go.Vc
theorem doesV_fn {P : Program} {g : FuncId} {a : Value} {w : World} {R : Ending → World → Prop} (h : Does P g #[a] w R) : DoesV P (.func g) #[] #[a] #[] w R := h
theorem CellsAt.upd {w w' : World} {U : Nat → Prop} {g o : Nat} {vs : List Value} (h : CellsAt w g o vs) (hu : Upd U w w') (hg : ¬ U g) : CellsAt w' g o vs := fun j v hj => hu.cell hg (h j v hj)
theorem NewBlk.cells {w w' : World} {b : Nat} {cs : List Value} {T : TypeId} (h : NewBlk w b cs T w') : CellsAt w' b 0 cs := fun j v hj => by rw [Nat.zero_add]; exact h.cell j hj
/-- The buffer: the bytes, and the edit. -/
abbrev bufVs (p : Option Addr) (l c : Nat) (e : E) (po : Option Addr) (co : Nat) (pn : Option Addr) (cn : Nat) : List Value := [.slice p l c, .int .i64 e.at_, .slice po e.old.length co, .slice pn e.new.length cn]
theorem applyE_some {xs : List Int} {e : E} {ys : List Int} (h : applyE xs e = some ys) : 0 ≤ e.at_ ∧ e.at_ ≤ xs.length ∧ e.at_.toNat + e.old.length ≤ xs.length ∧ (xs.drop e.at_.toNat).take e.old.length = e.old ∧ ys = xs.take e.at_.toNat ++ e.new ++ xs.drop (e.at_.toNat + e.old.length) := by
  unfold applyE at h
  split at h
  · rename_i hc
    obtain ⟨h1, h2, h3⟩ := hc
    have hl := congrArg List.length h3
    simp only [List.length_take, List.length_drop] at hl
    injection h with h
    exact ⟨h1, h2, by omega, h3, h.symm⟩
  · cases h
theorem applyE_len {xs : List Int} {e : E} {ys : List Int} (h : applyE xs e = some ys) : ys.length + e.old.length = xs.length + e.new.length := by
  obtain ⟨h1, h2, h3, _, rfl⟩ := applyE_some h
  simp; omega
theorem holds_does {w : World} {g : Nat} {p po pn : Option Addr} {c co cn : Nat} {xs : List Int} {e : E} (hc : CellsAt w g 0 (bufVs p xs.length c e po co pn cn)) {ok ok' : Nat → Prop} (hx : Ints .u8 w ok p xs) (ho : Ints .u8 w ok' po e.old) (hl : xs.length ≤ c) :
    Does Try.prog 56 #[.pointer (some ⟨g, 0, none⟩)] w fun r w' => r = .returned (.bool (applyE xs e).isSome) ∧ Ext w w' := by
  apply f56_does
  intro wd hd
  have hc := CellsAt.upd hc hd.ext id
  refine ⟨g, 0, rfl, _, hc 1 _ rfl, fun h => ?_, fun h => ?_⟩
  · have h := of_decide_eq_true h
    refine ⟨g, 0, rfl, _, hc 1 _ rfl, g, 0, rfl, _, _, _, hc 0 _ rfl, fun k => ?_, fun k => ?_⟩
    · have k := of_decide_eq_true k
      refine ⟨g, 0, rfl, _, _, _, hc 0 _ rfl, g, 0, rfl, _, hc 1 _ rfl, ⟨h, k⟩, g, 0, rfl, _, _, _, hc 2 _ rfl,
        (prefix_does ((hx.ext hd.ext).sub e.at_.toNat xs.length c hl) (ho.ext hd.ext) (by simp) rfl _ _ (by omega)).imp ?_⟩
      rintro r w' ⟨rfl, rfl⟩
      refine ⟨_, rfl, ?_, hd.ext⟩
      simp only [List.take_length]
      unfold applyE
      by_cases hq : (xs.drop e.at_.toNat).take e.old.length = e.old
      · rw [if_pos ⟨h, k, hq⟩, decide_eq_true hq]; rfl
      · rw [if_neg (fun x => hq x.2.2), decide_eq_false hq]; rfl
    · have k := of_decide_eq_false k
      refine ⟨?_, hd.ext⟩
      rw [applyE, if_neg (fun x => k x.2.1)]; rfl
  · have h := of_decide_eq_false h
    refine ⟨?_, hd.ext⟩
    rw [applyE, if_neg (fun x => h x.1)]; rfl
theorem change_does {w : World} {g : Nat} {p po pn : Option Addr} {c co cn : Nat} {xs : List Int} {e : E} (hc : CellsAt w g 0 (bufVs p xs.length c e po co pn cn)) (hcs : CanStore w g 0) {ok ok' : Nat → Prop} (hx : Ints .u8 w ok p xs) (hn : Ints .u8 w ok' pn e.new)
    (hl : xs.length ≤ c) {ys : List Int} (ha : applyE xs e = some ys) (hs : xs.length + e.new.length ≤ 100000000000) :
    Does Try.prog 57 #[.pointer (some ⟨g, 0, none⟩)] w fun r w' => r = .returned (.bool true) ∧ ∃ p' c', w'.cell? ⟨g, 0, none⟩ = some (.slice p' ys.length c') ∧ Own w' w.heap.size 5 1 p' ys.length c' (ys.map (Value.int .u8)) ∧ Upd (fun k => k = g) w w' := by
  apply f57_does
  obtain ⟨h1, h2, h3, _, hys⟩ := applyE_some ha
  have hlen := applyE_len ha
  intro wd hd
  have hc1 := CellsAt.upd hc hd.ext id
  have e1 : Ext w wd := hd.ext
  refine ⟨g, 0, rfl, _, _, _, hc1 0 _ rfl, g, 0, rfl, _, hc1 1 _ rfl, ⟨h1, by omega⟩, ?_⟩
  have hs1 := (hx.ext e1).sub 0 e.at_.toNat c (by omega)
  obtain ⟨p14, c14, w14, hr14, o14, u14⟩ := append_b (xs := []) (own_nil wd w.heap.size 5 1) hs1 (l2 := e.at_.toNat - 0) (by simp; omega) (c - 0) (by simp; omega) e1.size
  have e14 : Ext w w14 := Own.ext_of (own_nil wd w.heap.size 5 1) u14 e1 (Nat.le_refl _)
  refine ⟨_, _, _, w14, hr14, g, 0, rfl, _, _, _, CellsAt.upd hc e14 id 3 _ rfl, ?_⟩
  obtain ⟨p21, c21, w21, hr21, o21, u21⟩ := append_b o14 (hn.ext e14) rfl cn (by simp; omega) e14.size
  have e21 : Ext w w21 := Own.ext_of o14 u21 e14 (Nat.le_refl _)
  refine ⟨_, _, _, w21, hr21, fun wd3 hd3 => ?_⟩
  have e3 : Ext w wd3 := Ext.then e21 hd3.ext
  have hc3 := CellsAt.upd hc e3 id
  refine ⟨g, 0, rfl, _, _, _, hc3 0 _ rfl, g, 0, rfl, _, hc3 1 _ rfl, g, 0, rfl, _, _, _, hc3 2 _ rfl, inI64 (by omega) (by omega), ⟨by omega, by omega⟩, ?_⟩
  have et : (e.at_ + (e.old.length : Int)).toNat = e.at_.toNat + e.old.length := by omega
  rw [et]
  have hs3 := (hx.ext e3).sub (e.at_.toNat + e.old.length) xs.length c hl
  obtain ⟨p41, c41, w41, hr41, o41, u41⟩ := append_b (Own.ext o21 hd3.ext) hs3 (l2 := xs.length - (e.at_.toNat + e.old.length)) (by simp) (c - (e.at_.toNat + e.old.length)) (by simp; omega) e3.size
  have e41 : Ext w w41 := Own.ext_of (Own.ext o21 hd3.ext) u41 e3 (Nat.le_refl _)
  have hylen : ((([] : List Int) ++ (xs.take e.at_.toNat).drop 0 ++ e.new).length + ((xs.take xs.length).drop (e.at_.toNat + e.old.length)).length) = ys.length := by simp; omega
  rw [hylen] at hr41 o41
  refine ⟨_, _, _, w41, hr41, g, 0, rfl, Ext.can e41 hcs, fun ws hs => ⟨rfl, p41, c41, hs.cell (Ext.can e41 hcs), ?_, Upd.then (e41.mono fun _ _ x => x.elim) hs.upd fun _ _ x => x⟩⟩
  have o41' := Own.upd o41 hs.upd (fun a ea => by have := (o41.base ea).1; have := hcs.lt; omega)
  simpa [hys] using o41'
/-- What Apply answers. -/
def ApplyR (w : World) (xs : List Int) (e : E) (r : Ending) (w' : World) : Prop :=
  Ext w w' ∧ match applyE xs e with
    | some ys => ∃ p c, r = .returned (.tuple #[.slice p ys.length c, .int .i64 0]) ∧ Own w' w.heap.size 5 1 p ys.length c (ys.map (Value.int .u8))
    | none => r = .returned (.tuple #[.slice none 0 0, .int .i64 1])
theorem apply_does {w : World} {p po pn : Option Addr} {c co cn : Nat} {xs : List Int} {e : E} {ok ok' : Nat → Prop} (hx : Ints .u8 w ok p xs) (ho : Ints .u8 w ok' po e.old) (hn : Ints .u8 w ok' pn e.new)
    (hl : xs.length ≤ c) (hs : xs.length + e.new.length ≤ 100000000000) {l : Nat} (hll : l = xs.length) :
    Does Try.prog 52 #[.slice p l c, .agg #[.int .i64 e.at_, .slice po e.old.length co, .slice pn e.new.length cn]] w (ApplyR w xs e) := by
  subst hll
  apply f52_does
  intro b3 w3 n3
  refine ⟨_, n3.cell 0 rfl, _, _, _, n3.cell 1 rfl, _, _, _, n3.cell 2 rfl, fun b12 w12 n12 b13 w13 n13 => ?_⟩
  have e12 : Ext w w12 := Ext.then n3.ext n12.ext
  have e13 : Ext w w13 := Ext.then e12 n13.ext
  have hb12 : w.heap.size ≤ b12 := by rw [n12.eq]; exact n3.ext.size
  have hb13 : b13 ≠ b12 := by rw [n13.eq]; have := n12.lt; omega
  refine ⟨fun x n wl => (x = 0 ∧ n = 2 ∧ Ext w13 wl) ∨ (x = 1 ∧ n = 1 ∧ Ext w13 wl ∧ (applyE xs e).isSome = true) ∨
    (x = 2 ∧ n = 0 ∧ Upd (fun k => k = b12) w13 wl ∧ ∃ ys p' c', applyE xs e = some ys ∧ wl.cell? ⟨b12, 0, none⟩ = some (.slice p' ys.length c') ∧ Own wl w13.heap.size 5 1 p' ys.length c' (ys.map (Value.int .u8))),
    ⟨2, .inl ⟨rfl, rfl, Upd.refl _ _⟩⟩, ?_⟩
  have keep : ∀ {wl}, Ext w13 wl → CellsAt wl b12 0 (bufVs p xs.length c e po co pn cn) := fun hw => CellsAt.upd (CellsAt.upd (NewBlk.cells n12) n13.ext id) hw id
  rintro x n wl (⟨rfl, rfl, hw⟩ | ⟨rfl, rfl, hw, hsome⟩ | ⟨rfl, rfl, hw, ys, p', c', hys, hcl, ho'⟩)
  · refine ⟨fun _ => ?_, fun h => absurd h (by decide)⟩
    refine ⟨by decide, b13, 0, rfl, _, _, _, hw.cell (n13.cell 0 rfl), doesV_fn ((holds_does (keep hw) (hx.ext (Ext.then e13 hw)) (ho.ext (Ext.then e13 hw)) hl).imp ?_)⟩
    rintro r w21 ⟨rfl, hu⟩
    refine ⟨_, rfl, fun h => ?_, fun h => ?_⟩
    · refine ⟨Ext.then (Ext.then e13 hw) hu, ?_⟩
      cases ha : applyE xs e with
      | none => rfl
      | some ys => rw [ha] at h; cases h
    · exact ⟨inI64 (by decide) (by decide), 1, by decide, .inr (.inl ⟨rfl, rfl, Ext.then hw hu, by simpa using h⟩)⟩
  · refine ⟨fun _ => ?_, fun h => absurd h (by decide)⟩
    obtain ⟨ys, hys⟩ := Option.isSome_iff_exists.1 hsome
    have hcs : CanStore wl b12 0 := hw.can (n13.ext.can (n12.can 0 (by simp)))
    refine ⟨by decide, b13, 0, rfl, _, _, _, hw.cell (n13.cell 1 rfl), doesV_fn ((change_does (keep hw) hcs (hx.ext (Ext.then e13 hw)) (hn.ext (Ext.then e13 hw)) hl hys hs).imp ?_)⟩
    rintro r w21 ⟨rfl, p', c', hcl, ho', hu⟩
    refine ⟨_, rfl, fun h => absurd h (by decide), fun _ => ?_⟩
    refine ⟨inI64 (by decide) (by decide), 0, by decide, .inr (.inr ⟨rfl, rfl, Upd.then (hw.mono fun _ _ x => x.elim) hu (fun _ _ x => x), ys, p', c', hys, hcl, Own.lower ho' hw.size⟩)⟩
  · refine ⟨fun h => absurd h (by decide), fun _ => ?_⟩
    have hw' : Ext w wl := Upd.then e13 hw (fun i hi h => by omega)
    refine ⟨p', _, c', hcl, hw', ?_⟩
    rw [hys]
    exact ⟨p', c', rfl, Own.lower ho' e13.size⟩
theorem applyE_inK {xs : List Int} {e : E} {ys : List Int} (h : applyE xs e = some ys) (hx : ∀ x ∈ xs, InK .u8 x) (hn : ∀ x ∈ e.new, InK .u8 x) : ∀ x ∈ ys, InK .u8 x := by
  obtain ⟨_, _, _, _, rfl⟩ := applyE_some h
  intro x hx'
  simp only [List.mem_append] at hx'
  rcases hx' with (h | h) | h
  · exact hx _ (List.mem_of_mem_take h)
  · exact hn _ h
  · exact hx _ (List.mem_of_mem_drop h)
/-- Edits are few and small. -/
def FewE (es : List E) : Prop := es.length ≤ 10000 ∧ ∀ e ∈ es, e.old.length ≤ 1000000 ∧ e.new.length ≤ 1000000
/-- What All answers. -/
def AllR (w : World) (xs : List Int) (es : List E) (r : Ending) (w' : World) : Prop :=
  Ext w w' ∧ match allE xs es with
    | some ys => ∃ p c, r = .returned (.tuple #[.slice p ys.length c, .int .i64 0]) ∧ Own w' w.heap.size 5 1 p ys.length c (ys.map (Value.int .u8)) ∧ (∀ x ∈ ys, InK .u8 x) ∧ ys.length ≤ xs.length + es.length * 1000000
    | none => r = .returned (.tuple #[.slice none 0 0, .int .i64 1])
/-- Where a loop over edits stands. -/
structure Mid (w : World) (xs : List Int) (es : List E) (p : Option Addr) (l c : Nat) (i : Int) (n : Nat) (wl : World) (k : Nat) (cur : List Int) : Prop where
  hi : i = k
  hn : n = es.length - k
  hk : k ≤ es.length
  hl : l = cur.length
  own : Own wl w.heap.size 5 1 p l c (cur.map (Value.int .u8))
  all : allE xs es = allE cur (es.drop k)
  few : cur.length ≤ xs.length + k * 1000000
  inK : ∀ x ∈ cur, InK .u8 x
  ext : Ext w wl
theorem Mid.next {w : World} {xs : List Int} {es : List E} {p : Option Addr} {l c : Nat} {n : Nat} {wl : World} {k : Nat} {cur : List Int} (h : Mid w xs es p l c k n wl k cur) (hk : k < es.length)
    (hf : FewE es) (hn : ∀ x ∈ es[k].new, InK .u8 x) {ys : List Int} (ha : applyE cur es[k] = some ys) {p' : Option Addr} {c' : Nat} {w' : World} (ho : Own w' wl.heap.size 5 1 p' ys.length c' (ys.map (Value.int .u8))) (hu : Ext wl w') :
    Mid w xs es p' ys.length c' ((k : Int) + 1) (es.length - (k + 1)) w' (k + 1) ys where
  hi := by omega
  hn := rfl
  hk := hk
  hl := rfl
  own := Own.lower ho h.ext.size
  all := by rw [h.all, List.drop_eq_getElem_cons hk, allE, ha]
  few := by
    have := applyE_len ha
    have := (hf.2 _ (List.getElem_mem hk)).2
    have := h.few
    omega
  inK := applyE_inK ha h.inK hn
  ext := Ext.then h.ext hu
theorem Mid.bad {w : World} {xs : List Int} {es : List E} {p : Option Addr} {l c : Nat} {i : Int} {n : Nat} {wl : World} {k : Nat} {cur : List Int} (h : Mid w xs es p l c i n wl k cur) (hk : k < es.length) (ha : applyE cur es[k] = none)
    {w' : World} (hu : Ext wl w') : AllR w xs es (.returned (.tuple #[.slice none 0 0, .int .i64 1])) w' := by
  refine ⟨Ext.then h.ext hu, ?_⟩
  rw [h.all, List.drop_eq_getElem_cons hk, allE, ha]
theorem Mid.done {w : World} {xs : List Int} {es : List E} {p : Option Addr} {l c : Nat} {i : Int} {n : Nat} {wl : World} {k : Nat} {cur : List Int} (h : Mid w xs es p l c i n wl k cur) (hk : k = es.length) :
    AllR w xs es (.returned (.tuple #[.slice p l c, .int .i64 0])) wl := by
  refine ⟨h.ext, ?_⟩
  subst hk
  have hl := h.hl
  subst hl
  rw [h.all, List.drop_length, allE]
  exact ⟨p, c, rfl, h.own, h.inK, h.few⟩
theorem all_does {w : World} {p q : Option Addr} {xs : List Int} {es : List E} {ok ok' : Nat → Prop} (hx : Ints .u8 w ok p xs) (he : Edits w ok' q es) (hs : xs.length ≤ 1000000000) (hf : FewE es) {l m : Nat} (hl : l = xs.length) (hm : m = es.length) (c d : Nat) :
    Does Try.prog 36 #[.slice p l c, .slice q m d] w (AllR w xs es) := by
  subst hl hm
  apply f36_does
  have hf1 := hf.1
  obtain ⟨p1, c1, w1, hr, ho, hu⟩ := append_b (xs := []) (own_nil w w.heap.size 5 1) hx rfl c (by simp; omega) (Nat.le_refl _)
  have e1 : Ext w w1 := Own.ext_of (own_nil w w.heap.size 5 1) hu (Upd.refl _ _) (Nat.le_refl _)
  refine ⟨_, _, _, w1, hr, fun p l c i n wl => ∃ k cur, Mid w xs es p l c i n wl k cur, ⟨_, 0, xs, ⟨rfl, rfl, Nat.zero_le _, by simp, by simpa using ho, rfl, by simp, hx.inK, e1⟩⟩, ?_⟩
  rintro p2 l2 c2 i n wl ⟨k, cur, hmid⟩
  obtain rfl := hmid.hi
  obtain rfl := hmid.hl
  have hkl := hmid.hk
  have hfew := hmid.few
  refine ⟨fun h => ?_, fun h => ?_⟩
  · have h := of_decide_eq_true h
    have hlt : k < es.length := by omega
    obtain ⟨b, o, q1, d1, q2, d2, hp, _, a1, a2, a3, _, h1, a4, h2, a5⟩ := (he.ext hmid.ext).at k hlt
    have hbk := hf.2 _ (List.getElem_mem hlt)
    refine ⟨⟨by omega, by omega⟩, b, o, hp, _, a1, _, _, _, a2, _, _, _, a3, fun b7 w7 hn => ?_⟩
    refine ⟨hn.can 0 (by simp), fun ws1 s1 => ?_⟩
    have hn := hn.store s1
    refine ⟨hn.can 1 (by simp), fun ws2 s2 => ?_⟩
    have hn := hn.store s2
    refine ⟨hn.can 2 (by simp), fun ws3 s3 => ?_⟩
    have hn := hn.store s3
    refine ⟨_, hn.cell 0 rfl, _, _, _, hn.cell 1 rfl, _, _, _, hn.cell 2 rfl, (apply_does (e := es[k]) ((hmid.own.ints hmid.inK).ext hn.ext) (a4.ext hn.ext) (a5.ext hn.ext) hmid.own.cap.1 (by omega) rfl).imp ?_⟩
    rintro r w21 ⟨hu21, hr21⟩
    have hu21 := Ext.then hn.ext hu21
    cases ha : applyE cur es[k] with
    | none =>
      rw [ha] at hr21
      exact ⟨_, _, _, _, hr21, tru (by decide) (hmid.bad hlt ha hu21)⟩
    | some ys =>
      rw [ha] at hr21
      obtain ⟨p', c', rfl, ho'⟩ := hr21
      refine ⟨_, _, _, _, rfl, fls (by decide) ⟨inI64 (by omega) (by omega), _, ?_, k + 1, ys, hmid.next hlt hf a5.inK ha (Own.lower ho' hn.ext.size) hu21⟩⟩
      have := hmid.hn; omega
  · have h := of_decide_eq_false h
    exact hmid.done (by omega)
end Go.Proofs.Ytbnjlnbmdkbpkaa
