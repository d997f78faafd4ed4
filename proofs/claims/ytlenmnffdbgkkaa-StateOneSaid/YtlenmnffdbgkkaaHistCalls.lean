/-
  Histories: what each function of the code does: copies.
-/
import Derived.Test.YtlenmnffdbgkkaaHistPure
import Derived.Test.YtlenmnffdbgkkaaEditCalls2
namespace Go.Proofs.Ytlenmnffdbgkkaa
open Go.RowKit Go.Vc
theorem slN : SlT Try.prog 35 63 3 40 := ⟨Try.underlying35, _, _, rfl, rfl, rfl, rfl, rfl, by decide⟩
theorem OwnL.cap {α : Type} {RV : World → (Nat → Prop) → List Value → α → Prop} {w : World} {base : Nat} {T : TypeId} {sz : Nat} {p : Option Addr} {l c : Nat} {xs : List α} (h : OwnL RV w base T sz p l c xs) : l ≤ c := by obtain ⟨_, ho, _⟩ := h; exact ho.cap.1
theorem OwnL.edits {w : World} {base : Nat} {p : Option Addr} {l c : Nat} {xs : List E} (h : OwnL EditV w base 58 3 p l c xs) : Edits w (fun g => base ≤ g ∧ g < w.heap.size) p xs := (h.rs EditV.widens (by decide)).2
theorem OwnL.nodes {w : World} {base : Nat} {p : Option Addr} {l c : Nat} {xs : List Nd} (h : OwnL NodeV w base 63 3 p l c xs) : Nodes w (fun g => base ≤ g ∧ g < w.heap.size) p xs := (h.rs NodeV.widens (by decide)).2
/-- slices.Clone of bytes. -/
theorem cloneb_does {w : World} {ok : Nat → Prop} {p : Option Addr} {xs : List Int} (hx : Ints .u8 w ok p xs) {l : Nat} (hl : l = xs.length) (c : Nat) (hs : xs.length ≤ 1000000000) :
    Does Try.prog 52 #[.slice p l c] w fun e w' => ∃ p' c', e = .returned (.slice p' l c') ∧ Own w' w.heap.size 5 1 p' l c' (xs.map (Value.int .u8)) ∧ Ext w w' := by
  subst hl
  apply f52_does
  refine brr (fun j => ?_) fun j b5 w5 hb => ?_
  · have hn : xs = [] := by
      cases xs with
      | nil => rfl
      | cons x r =>
        obtain ⟨b, o, hp, _⟩ := hx.at 0 (by simp)
        rw [hp] at j; cases j
    subst hn
    exact ⟨none, 0, rfl, own_nil _ _ _ _, Upd.refl _ _⟩
  · have ho : Own w5 w.heap.size 5 1 (some ⟨b5, 0, none⟩) 0 0 (([] : List Int).map (Value.int .u8)) :=
      ⟨by simp, .inr ⟨b5, 0, #[], rfl, by rw [hb.eq]; exact Nat.le_refl _, hb.heap, Nat.le_refl _, by simp [maxLen], by simp, by simp⟩⟩
    obtain ⟨p', c', w', hr, ho', hu⟩ := append_b (xs := []) ho (hx.ext hb.ext) rfl c (by simp; omega) hb.ext.size
    have h0 : ([] : List Int).length + xs.length = xs.length := by simp
    rw [h0] at hr ho'
    exact ⟨p', _, c', w', hr, p', c', rfl, ho', Own.ext_of ho hu hb.ext (Nat.le_refl _)⟩
/-- history.own: edits in memory of their own. -/
theorem owns_does {w : World} {ok : Nat → Prop} {p : Option Addr} {xs : List E} (hx : Edits w ok p xs) {l : Nat} (hl : l = xs.length) (c : Nat) (hm : Mod xs) :
    Does Try.prog 34 #[.slice p l c] w fun e w' => ∃ p' c', e = .returned (.slice p' l c') ∧ OwnL EditV w' w.heap.size 58 3 p' l c' xs ∧ Ext w w' := by
  subst hl
  obtain ⟨hm1, hm2⟩ := hm
  apply f34_does
  refine ⟨fun p l c i n wl => ∃ k : Nat, i = (k : Int) ∧ n = xs.length - k ∧ k = l ∧ k ≤ xs.length ∧ OwnL EditV wl w.heap.size 58 3 p l c (xs.take k) ∧ Ext w wl,
    ⟨_, 0, rfl, rfl, rfl, Nat.zero_le _, OwnL.nil _ _ _ _, Upd.refl _ _⟩, ?_⟩
  rintro p3 _ c3 _ _ wl ⟨k, rfl, rfl, rfl, hk, ho, hw⟩
  refine brr (fun h => ?_) fun h => ?_
  · have h := of_decide_eq_true h
    have hlt : k < xs.length := by omega
    obtain ⟨b, o, p1, c1, p2, c2, hp, _, a1, a2, a3, hin, h1, a4, h2, a5⟩ := (hx.ext hw).at k hlt
    have hbk := hm2 _ (List.getElem_mem hlt)
    refine ⟨⟨by omega, by omega⟩, b, o, hp, _, a1, _, _, _, a2, _, _, _, a3, fun b5 w5 hb5 => fill3 hb5 fun w6 hb6 wd hd => ?_⟩
    have q6 : Ext wl wd := Ext.thn hb6.ext hd.ext
    have hc0 := Ext.cell hd.ext (hb6.cell 0 rfl)
    have hc1 := Ext.cell hd.ext (hb6.cell 1 rfl)
    have hc2 := Ext.cell hd.ext (hb6.cell 2 rfl)
    refine ⟨fun v => Ext wd v, Upd.refl _ _, _, fun v hv => Ext.cell hv hc0, _, _, _, hc1, (cloneb_does (a4.ext q6) rfl _ (by omega)).imp ?_⟩
    rintro e w23 ⟨p23, c23, rfl, o23, hw23⟩
    refine ⟨_, _, _, rfl, hw23, _, _, _, fun v hv => Ext.cell hv hc2, (cloneb_does (a5.ext (Ext.thn q6 hw23)) rfl _ (by omega)).imp ?_⟩
    rintro e w29 ⟨p29, c29, rfl, o29, hw29⟩
    refine ⟨_, _, _, rfl, Ext.thn hw23 hw29, fun b31 w31 hn => ?_⟩
    have hl31 : Ext wl w31 := Ext.thn (Ext.thn (Ext.thn q6 hw23) hw29) hn.ext
    have o23' := (o23.ext (Ext.thn hw29 hn.ext))
    have o29' := (o29.ext hn.ext)
    have hsz : wl.heap.size ≤ wd.heap.size := q6.size
    have hin23 : ∀ g, wd.heap.size ≤ g ∧ g < w31.heap.size → Inner w31 w.heap.size p3 g := fun g hg => ⟨by have := hw.size; omega, hg.2, fun a ea => by have := (ho.base ea).2; omega⟩
    obtain ⟨p', c', w32, hr, ho', hu, _⟩ := OwnL.append EditV.stable EditV.widens slE 59 (ho.ext EditV.stable EditV.widens hl31) (b := b31) (vs := [.int .i64 xs[k].at_, .slice p23 xs[k].old.length c23, .slice p29 xs[k].new.length c29]) rfl
      (fun j u hj => hn.cell j hj) (by simp [Value.oneCell']) (x := xs[k])
      ⟨p23, c23, p29, c29, rfl, hin, o23.cap.1, (o23'.ints a4.inK).ok (fun g _ hg => hin23 g hg), o29.cap.1, (o29'.ints a5.inK).ok (fun g _ hg => hin23 g ⟨by have := hw23.size; omega, hg.2⟩)⟩ (by simp only [maxLen]; omega) (by omega) (by have := Ext.thn hw hl31; exact this.size)
    rw [← List.take_succ_eq_append_getElem hlt] at ho'
    exact ⟨p', _, c', w32, hr, inI64 (by omega) (by omega), _, by omega, k + 1, by omega, rfl, rfl, by omega, ho', OwnL.ext_of (ho.ext EditV.stable EditV.widens hl31) hu (Ext.thn hw hl31) (Nat.le_refl _)⟩
  · have h := of_decide_eq_false h
    obtain rfl : k = xs.length := by omega
    rw [List.take_length] at ho
    exact ⟨p3, c3, rfl, ho, hw⟩
/-- escritoireref18.CopyEdits. -/
theorem copye_does {w : World} {ok : Nat → Prop} {p : Option Addr} {xs : List E} (hx : Edits w ok p xs) {l : Nat} (hl : l = xs.length) (c : Nat) (hm : Mod xs) :
    Does Try.prog 53 #[.slice p l c] w fun e w' => ∃ p' c', e = .returned (.slice p' l c') ∧ OwnL EditV w' w.heap.size 58 3 p' l c' xs ∧ Ext w w' := by
  subst hl
  obtain ⟨hm1, hm2⟩ := hm
  apply f53_does
  refine ⟨fun p l c i n wl => ∃ k : Nat, i = (k : Int) ∧ n = xs.length - k ∧ k = l ∧ k ≤ xs.length ∧ OwnL EditV wl w.heap.size 58 3 p l c (xs.take k) ∧ Ext w wl,
    ⟨_, 0, rfl, rfl, rfl, Nat.zero_le _, OwnL.nil _ _ _ _, Upd.refl _ _⟩, ?_⟩
  rintro p3 _ c3 _ _ wl ⟨k, rfl, rfl, rfl, hk, ho, hw⟩
  refine brr (fun h wd hd => ?_) fun h => ?_
  · have h := of_decide_eq_true h
    have hlt : k < xs.length := by omega
    have q6 := hd.ext
    obtain ⟨b, o, p1, c1, p2, c2, hp, _, a1, a2, a3, hin, h1, a4, h2, a5⟩ := (hx.ext (Ext.thn hw q6)).at k hlt
    have hbk := hm2 _ (List.getElem_mem hlt)
    refine ⟨fun v => Ext wd v, Upd.refl _ _, ⟨by omega, by omega⟩, b, o, hp, _, fun v hv => Ext.cell hv a1, ⟨by omega, by omega⟩, b, o, hp, _, _, _, a2, (copy_does a4 rfl _ (by omega)).imp ?_⟩
    rintro e w23 ⟨p23, c23, rfl, o23, hw23⟩
    refine ⟨_, _, _, rfl, hw23, ⟨by omega, by omega⟩, b, o, hp, _, _, _, fun v hv => Ext.cell hv a3, (copy_does (a5.ext hw23) rfl _ (by omega)).imp ?_⟩
    rintro e w29 ⟨p29, c29, rfl, o29, hw29⟩
    refine ⟨_, _, _, rfl, Ext.thn hw23 hw29, fun b31 w31 hn => ?_⟩
    have hl31 : Ext wl w31 := Ext.thn (Ext.thn (Ext.thn q6 hw23) hw29) hn.ext
    have o23' := (o23.ext (Ext.thn hw29 hn.ext))
    have o29' := (o29.ext hn.ext)
    have hsz : wl.heap.size ≤ wd.heap.size := q6.size
    have hin23 : ∀ g, wd.heap.size ≤ g ∧ g < w31.heap.size → Inner w31 w.heap.size p3 g := fun g hg => ⟨by have := hw.size; omega, hg.2, fun a ea => by have := (ho.base ea).2; omega⟩
    obtain ⟨p', c', w32, hr, ho', hu, _⟩ := OwnL.append EditV.stable EditV.widens slE 59 (ho.ext EditV.stable EditV.widens hl31) (b := b31) (vs := [.int .i64 xs[k].at_, .slice p23 xs[k].old.length c23, .slice p29 xs[k].new.length c29]) rfl
      (fun j u hj => hn.cell j hj) (by simp [Value.oneCell']) (x := xs[k])
      ⟨p23, c23, p29, c29, rfl, hin, o23.cap.1, (o23'.ints a4.inK).ok (fun g _ hg => hin23 g hg), o29.cap.1, (o29'.ints a5.inK).ok (fun g _ hg => hin23 g ⟨by have := hw23.size; omega, hg.2⟩)⟩ (by simp only [maxLen]; omega) (by omega) (by have := Ext.thn hw hl31; exact this.size)
    rw [← List.take_succ_eq_append_getElem hlt] at ho'
    exact ⟨p', _, c', w32, hr, inI64 (by omega) (by omega), _, by omega, k + 1, by omega, rfl, rfl, by omega, ho', OwnL.ext_of (ho.ext EditV.stable EditV.widens hl31) hu (Ext.thn hw hl31) (Nat.le_refl _)⟩
  · have h := of_decide_eq_false h
    obtain rfl : k = xs.length := by omega
    rw [List.take_length] at ho
    exact ⟨p3, c3, rfl, ho, hw⟩
/-- A node that was just laid, appended to an own row. -/
theorem append_n {w0 wl w31 : World} {p3 : Option Addr} {l c3 : Nat} {ns : List Nd} (ho : OwnL NodeV wl w0.heap.size 63 3 p3 l c3 ns) (hw : w0.heap.size ≤ wl.heap.size) (hl31 : Ext wl w31) {b31 : Nat} {n : Nd} {q : Option Addr} {d : Nat} {wn : World} {base : Nat}
    (hb : NewBlk wn b31 [.int .i64 n.par, .slice q n.es.length d, .int .i64 n.cur] 63 w31) (hq : OwnL EditV w31 base 58 3 q n.es.length d n.es) (hbase : wl.heap.size ≤ base) (h1 : InK .i64 n.par) (h2 : InK .i64 n.cur) (hlen : l ≤ 1000000000) :
    ∃ p' c' w', (Builtin.append_ #[35, 35] 35 #[.slice p3 l c3, .slice (some ⟨b31, 0, none⟩) 1 1]).run Try.prog w31 = .ok (.slice p' (l + 1) c') w' ∧ OwnL NodeV w' w0.heap.size 63 3 p' (l + 1) c' (ns ++ [n]) ∧
      Upd (fun k => ∃ a, p3 = some a ∧ a.block = k) w31 w' ∧ ∀ a', p' = some a' → (∃ a, p3 = some a ∧ a.block = a'.block) ∨ a'.block = w31.heap.size := by
  refine OwnL.append NodeV.stable NodeV.widens slN 35 (ho.ext NodeV.stable NodeV.widens hl31) rfl (fun j u hj => hb.cell j hj) (by simp [Value.oneCell']) (x := n)
    ⟨q, d, rfl, h1, h2, OwnL.cap hq, (OwnL.edits hq).ok fun g _ hg => ⟨by omega, hg.2, fun a ea => by have := (ho.base ea).2; omega⟩⟩ (by simp only [maxLen]; omega) (by omega) (by have := hl31.size; omega)
/-- escritoireref18.CopyNodes. -/
theorem copyn_does {w : World} {ok : Nat → Prop} {p : Option Addr} {xs : List Nd} (hx : Nodes w ok p xs) {l : Nat} (hl : l = xs.length) (c : Nat) (hs : xs.length ≤ 65536) (hm : Mods xs) :
    Does Try.prog 35 #[.slice p l c] w fun e w' => ∃ p' c', e = .returned (.slice p' l c') ∧ OwnL NodeV w' w.heap.size 63 3 p' l c' xs ∧ Ext w w' := by
  subst hl
  apply f35_does
  refine ⟨fun p l c i n wl => ∃ k : Nat, i = (k : Int) ∧ n = xs.length - k ∧ k = l ∧ k ≤ xs.length ∧ OwnL NodeV wl w.heap.size 63 3 p l c (xs.take k) ∧ Ext w wl,
    ⟨_, 0, rfl, rfl, rfl, Nat.zero_le _, OwnL.nil _ _ _ _, Upd.refl _ _⟩, ?_⟩
  rintro p3 _ c3 _ _ wl ⟨k, rfl, rfl, rfl, hk, ho, hw⟩
  refine brr (fun h wd hd => ?_) fun h => ?_
  · have h := of_decide_eq_true h
    have hlt : k < xs.length := by omega
    have q6 := hd.ext
    obtain ⟨b, o, p1, c1, hp, _, a1, a2, a3, i1, i2, i3, a4⟩ := (hx.ext (Ext.thn hw q6)).at k hlt
    refine ⟨fun v => Ext wd v, Upd.refl _ _, ⟨by omega, by omega⟩, b, o, hp, _, fun v hv => Ext.cell hv a1, ⟨by omega, by omega⟩, b, o, hp, _, fun v hv => Ext.cell hv a3, ⟨by omega, by omega⟩, b, o, hp, _, _, _, a2, (copye_does a4 rfl _ (hm _ (List.getElem_mem hlt))).imp ?_⟩
    rintro e w27 ⟨p27, c27, rfl, o27, x27⟩
    refine ⟨_, _, _, rfl, x27, fun b29 w29 hn => ?_⟩
    have hl29 : Ext wl w29 := Ext.thn (Ext.thn q6 x27) hn.ext
    obtain ⟨p', c', w', hr, ho', hu, _⟩ := append_n ho hw.size hl29 hn (o27.ext EditV.stable EditV.widens hn.ext) q6.size i1 i2 (by omega)
    rw [← List.take_succ_eq_append_getElem hlt] at ho'
    exact ⟨p', _, c', w', hr, inI64 (by omega) (by omega), _, by omega, k + 1, by omega, rfl, rfl, by omega, ho', OwnL.ext_of (ho.ext NodeV.stable NodeV.widens hl29) hu (Ext.thn hw hl29) (Nat.le_refl _)⟩
  · have h := of_decide_eq_false h
    obtain rfl : k = xs.length := by omega
    rw [List.take_length] at ho
    exact ⟨p3, c3, rfl, ho, hw⟩
/-- escritoireref18.SameNodes. -/
theorem samen_does {w : World} {ok ok' : Nat → Prop} {p q : Option Addr} {xs ys : List Nd} (hx : Nodes w ok p xs) (hy : Nodes w ok' q ys) {l m : Nat} (hl : l = xs.length) (hm : m = ys.length) (c d : Nat) (hs : xs.length ≤ 1000000000) (hb : Mods xs) :
    Does Try.prog 19 #[.slice p l c, .slice q m d] w fun e w' => e = .returned (.bool (decide (xs = ys))) ∧ Ext w w' := by
  subst hl hm
  apply f19_does
  by_cases hlen : xs.length = ys.length
  case neg =>
    refine tru (by simp; omega) ⟨?_, Upd.refl _ _⟩
    rw [decide_eq_false (fun h => hlen (by rw [h]))]
  refine fls (by simp [hlen]) ?_
  refine ⟨fun i n wl => ∃ k : Nat, i = k ∧ n = xs.length - k ∧ k ≤ xs.length ∧ xs.take k = ys.take k ∧ Ext w wl, ⟨_, 0, rfl, rfl, Nat.zero_le _, rfl, Upd.refl _ _⟩, ?_⟩
  rintro _ n wl ⟨k, rfl, rfl, hk, heq, hw⟩
  refine brr (fun h wd hd => ?_) fun h => ?_
  · have h := of_decide_eq_true h
    have hlt : k < xs.length := by omega
    have hlt' : k < ys.length := by omega
    have hwd := Ext.thn hw hd.ext
    obtain ⟨b, o, p1, c1, hp, _, a1, a2, a3, _, _, _, a4⟩ := (hx.ext hwd).at k hlt
    obtain ⟨b', o', q1, d1, hp', _, b1, b2, b3, _, _, _, b4⟩ := (hy.ext hwd).at k hlt'
    have hbk := hb _ (List.getElem_mem hlt)
    have no : ∀ {w' : World}, Ext w w' → xs[k] ≠ ys[k] → (Ending.returned (.bool false) = .returned (.bool (decide (xs = ys))) ∧ Ext w w') := fun hw' hne => ⟨by rw [decide_eq_false (fun h => hne (by simp [h]))], hw'⟩
    refine ⟨⟨by omega, by omega⟩, b, o, hp, _, a1, ⟨by omega, by omega⟩, b', o', hp', _, b1, brr (fun j => no hwd fun e => ?_) fun j1 => ?_⟩
    · rw [e] at j; simp at j
    refine ⟨⟨by omega, by omega⟩, b, o, hp, _, a3, ⟨by omega, by omega⟩, b', o', hp', _, b3, brr (fun j => no hwd fun e => ?_) fun j2 => ?_⟩
    · rw [e] at j; simp at j
    refine ⟨⟨by omega, by omega⟩, b, o, hp, _, _, _, a2, ⟨by omega, by omega⟩, b', o', hp', _, _, _, b2, (rsame_does a4 b4 rfl rfl _ _ (by have := hbk.1; omega) (fun e he => by have := hbk.2 e he; omega)).imp ?_⟩
    rintro e w52 ⟨rfl, x52⟩
    refine ⟨_, rfl, brr (fun j => no (Ext.thn hwd x52) fun e => ?_) fun j3 => ?_⟩
    · rw [e] at j; simp at j
    have e1 : xs[k].par = ys[k].par := by simpa using j1
    have e2 : xs[k].cur = ys[k].cur := by simpa using j2
    have e3 : xs[k].es = ys[k].es := by simpa using j3
    exact ⟨inI64 (by omega) (by omega), _, by omega, k + 1, by omega, rfl, hlt, take_snoc hlt hlt' heq (Nd.ext' e1 e3 e2), Ext.thn hwd x52⟩
  · have h := of_decide_eq_false h
    obtain rfl : k = xs.length := by omega
    refine ⟨?_, hw⟩
    rw [List.take_length, hlen, List.take_length] at heq
    rw [decide_eq_true heq]
/-- history.may. -/
theorem mayn_does {w : World} (i : Nat) (n : Nd) (p : Option Addr) (c : Nat) : Does Try.prog 33 #[.int .i64 (i : Int), .agg #[.int .i64 n.par, .slice p n.es.length c, .int .i64 n.cur]] w fun e w' => e = .returned (.bool (decide (mayN i n))) ∧ Ext w w' := by
  apply f33_does
  intro b3 w3 hb
  have fin : ∀ {x : Bool}, (x = true ↔ mayN i n) → (Ending.returned (.bool x) = .returned (.bool (decide (mayN i n))) ∧ Ext w w3) := fun h => ⟨by
    congr 2
    rw [Bool.eq_iff_iff, h, decide_eq_true_iff], hb.ext⟩
  unfold mayN at fin ⊢
  have hes : n.es = [] ↔ n.es.length = 0 := List.length_eq_zero_iff.symm
  refine brr (fun j => ⟨_, hb.cell 0 rfl, brr (fun j1 => ⟨_, _, _, hb.cell 1 rfl, brr (fun j2 => ⟨_, hb.cell 2 rfl, fin ?_⟩) fun j2 => fin ?_⟩) fun j1 => fin ?_⟩) fun j => ⟨_, hb.cell 0 rfl, brr (fun j1 => ⟨_, hb.cell 0 rfl, brr (fun j2 => ⟨_, _, _, hb.cell 1 rfl, brr (fun j3 => ⟨_, hb.cell 2 rfl, fin ?_⟩) fun j3 => fin ?_⟩) fun j2 => fin ?_⟩) fun j1 => fin ?_⟩
  all_goals
    simp only [beq_iff_eq, beq_eq_false_iff_ne, ne_eq, decide_eq_true_iff, decide_eq_false_iff_not] at *
    simp only [hes]
    split
  all_goals first | (simp only [reduceCtorEq, false_iff]; omega) | omega
end Go.Proofs.Ytlenmnffdbgkkaa
