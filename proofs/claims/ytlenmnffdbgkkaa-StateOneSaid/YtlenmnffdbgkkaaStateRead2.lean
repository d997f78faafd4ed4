/-
  States: what each function of the code does: reading nodes and marks.
-/
import Derived.Test.YtlenmnffdbgkkaaStateRead
namespace Go.Vc
open Go.RowKit
theorem many_succ {α : Type} (p : Ps α) (k : Nat) (t : List Int) : manyP p (k + 1) t = match p t with | none => none | some (x, r) => (match manyP p k r with | none => none | some (l, r') => some (x :: l, r')) := by
  show andThen p _ t = _
  unfold andThen
  cases p t with
  | none => rfl
  | some x =>
    obtain ⟨x, r⟩ := x
    simp only
    cases manyP p k r <;> rfl
/-- What is still to be read, behind what is. -/
def restP {α : Type} (acc : List α) (q : Option (List α × List Int)) : Option (List α × List Int) := match q with | none => none | some (l, r) => some (acc ++ l, r)
theorem rest_step {α : Type} {p : Ps α} {k : Nat} {t : List Int} {acc : List α} : restP acc (manyP p (k + 1) t) = match p t with | none => none | some (x, r) => restP (acc ++ [x]) (manyP p k r) := by
  rw [many_succ]
  cases p t with
  | none => rfl
  | some x =>
    obtain ⟨x, r⟩ := x
    simp only
    cases manyP p k r with
    | none => rfl
    | some y => simp [restP]
theorem rest_done {α : Type} {p : Ps α} {t : List Int} {acc : List α} : restP acc (manyP p 0 t) = some (acc, t) := by
  show some (acc ++ [], t) = _
  rw [List.append_nil]
end Go.Vc
namespace Go.Proofs.Ytlenmnffdbgkkaa
open Go.RowKit Go.Vc
theorem slM : SlT Try.prog 29 61 2 16 := ⟨Try.underlying29, _, _, rfl, rfl, rfl, rfl, rfl, by decide⟩
/-- What reading tells, whatever it touched from a block on. -/
def RdG {α : Type} (w : World) (r base : Nat) (q : Option (α × List Int)) (K : α → List Int → Ending → World → Prop) (e : Ending) (w' : World) : Prop :=
  (q = none ∧ e = .panicked shortC ∧ Upd (fun z => z = r ∨ base ≤ z) w w') ∨ ∃ a t, q = some (a, t) ∧ K a t e w'
section
variable {w : World} {r : Nat} {ok : Nat → Prop} {t : List Int}
theorem RdB.lt {rest : List Value} (h : RdB w r ok t rest) : r < w.heap.size := by obtain ⟨p, c, a1, _⟩ := h; exact a1.lt
theorem RdB.cell {rest : List Value} (h : RdB w r ok t rest) (j : Nat) {v : Value} (hj : rest[j]? = some v) : w.cell? ⟨r, j + 1, none⟩ = some v := by
  obtain ⟨p, c, a1, _⟩ := h
  exact a1.cell (j + 1) (by simpa using hj)
theorem RdB.st {rest : List Value} (h : RdB w r ok t rest) {j : Nat} (hj : j < rest.length) {x : Value} {G : World → Prop} (k : ∀ w', RdB w' r ok t (rest.set j x) → Upd (fun z => z = r) w w' → G w') : CanStore w r (j + 1) ∧ ∀ ws, Stored w r (j + 1) x ws → G ws := by
  obtain ⟨p, c, a1, a2, a3, a4⟩ := h
  exact a1.st (by simpa using hj) fun w' B u => k w' ⟨p, c, by simpa using B, a2, a3.upd u fun z hz e => (a4 z hz).1 e, fun z hz => ⟨(a4 z hz).1, Nat.lt_of_lt_of_le (a4 z hz).2 u.size⟩⟩ u
theorem len_edit {t t' : List Int} {x : E} (hb : FB t) (h : editP t = some (x, t')) : t'.length ≤ t.length := by
  obtain ⟨rfl, h1⟩ := back_edit hb h
  simp only [List.length_append]; omega
theorem len_node {t t' : List Int} {x : Nd} (hb : FB t) (h : nodeP t = some (x, t')) : t'.length ≤ t.length := by
  obtain ⟨rfl, h1⟩ := back_node hb h
  simp only [List.length_append]; omega
theorem rnode_does {base : Nat} {ns : List Nd} {pn : Option Addr} {cn : Nat} {mk nw : Value} (h : RdB w r ok t [.slice pn ns.length cn, mk, nw]) (ho : OwnL NodeV w base 63 3 pn ns.length cn ns) (hr : r < base) (hbase : base ≤ w.heap.size)
    (hokb : ∀ z, ok z → z < base) (hl : t.length ≤ 1000000) (hns : ns.length ≤ 4294967296) : Does Try.prog 57 #[.pointer (some ⟨r, 0, none⟩)] w
    (RdG w r base (nodeP t) fun nd t' e w' => e = .returned (.tuple #[]) ∧ (∃ pn' cn', RdB w' r ok t' [.slice pn' (ns ++ [nd]).length cn', mk, nw] ∧ OwnL NodeV w' base 63 3 pn' (ns ++ [nd]).length cn' (ns ++ [nd])) ∧ Upd (fun z => z = r ∨ base ≤ z) w w') := by
  have hf := h.bytes
  have ge : ∀ {a b : World}, Upd (fun z => z = r) a b → Upd (fun z => z = r ∨ base ≤ z) a b := fun u => u.mono fun k _ (e : k = r) => .inl e
  apply f57_does
  refine (rnum_does h hl).imp ?_
  rintro e w4 (⟨h1, rfl, u1⟩ | ⟨a, t1, h1, rfl, hb1, u1⟩)
  · exact .inr ⟨_, rfl, .inl ⟨by unfold nodeP andThen; rw [h1], rfl, ge u1⟩⟩
  have n1 := len_num hf h1
  have f1 := (back_num hf h1).2
  refine .inl ⟨_, rfl, fun b2 w2 hb2 => hb2.blk.st3 rfl fun w3 B3 u3 => ?_⟩
  have e2 := hb2.eq
  have z2 := hb2.size
  have s4 := u1.size
  have X3 : Ext w4 w3 := hb2.ext.loc (by omega) u3
  have hrb : r < b2 := by omega
  have s33 := u3.size
  have h3 := hb1.ext X3
  refine (rnum_does h3 (by omega)).imp ?_
  rintro e w7 (⟨h2, rfl, u2⟩ | ⟨c, t2, h2, rfl, hb2', u2⟩)
  · exact .inr ⟨_, rfl, .inl ⟨by unfold nodeP andThen; rw [h1]; simp only; rw [h2], rfl, ge (Upd.trans (Ext.then u1 X3) u2)⟩⟩
  have n2 := len_num h3.bytes h2
  have f2 := (back_num h3.bytes h2).2
  have s3 := X3.size
  refine .inl ⟨_, rfl, (B3.upd u2 (by omega)).st (by simp) fun w8 B8 u8 => ?_⟩
  have h8 := hb2'.upd u8 (by omega) fun z hz e => by have := hokb z hz; omega
  refine (rnum_does h8 (by omega)).imp ?_
  rintro e w10 (⟨h3', rfl, u10⟩ | ⟨m, t3, h3', rfl, hb3, u10⟩)
  · refine .inr ⟨_, rfl, .inl ⟨by unfold nodeP andThen; rw [h1]; simp only; rw [h2]; simp only; rw [h3'], rfl, ?_⟩⟩
    exact Upd.then (Upd.then (Upd.then (ge u1) X3 fun _ _ e => e.elim) (ge u2) fun _ _ e => e) (Upd.then (u8.mono (U := fun z => z = r ∨ base ≤ z) fun k _ (e : k = b2) => .inr (by omega)) (ge u10) fun _ _ e => e) fun _ _ e => e
  have n3 := len_num h8.bytes h3'
  have f3 := (back_num h8.bytes h3').2
  have U10 : Upd (fun z => z = r ∨ base ≤ z) w w10 := Upd.then (Upd.then (Upd.then (ge u1) X3 fun _ _ e => e.elim) (ge u2) fun _ _ e => e) (Upd.then (u8.mono (U := fun z => z = r ∨ base ≤ z) fun k _ (e : k = b2) => .inr (by omega)) (ge u10) fun _ _ e => e) fun _ _ e => e
  have s7 := u2.size
  have s8 := u8.size
  have s10 := u10.size
  have B10 : Blk w10 b2 [.int .i64 a, .slice none 0 0, .int .i64 c] := B8.upd u10 (by omega)
  have P10 : Upd (fun z => z = r) w w10 := Upd.then (Upd.then (Upd.then u1 X3 fun _ _ e => e.elim) u2 fun _ _ e => e) (Upd.then (T := fun z => z = r ∨ z = b2) (u8.mono fun _ _ e => .inr e) u10 fun _ _ e => .inl e) fun z hz e => by
    rcases e with e | e
    · exact e
    · omega
  have hnode : nodeP t = match manyP editP m.toNat t3 with | none => none | some (es, r') => some (⟨a, es, c⟩, r') := by
    unfold nodeP andThen
    rw [h1]; simp only; rw [h2]; simp only; rw [h3']; simp only
    cases manyP editP m.toNat t3 <;> rfl
  -- the edits
  refine .inl ⟨_, rfl, fun x11 nl wl => ∃ (k : Nat) (tk : List Int) (es : List E) (pe : Option Addr) (ce : Nat), x11 = k ∧ nl = m.toNat - k ∧ k ≤ m.toNat ∧ es.length = k ∧ tk.length ≤ 1000000 ∧ restP es (manyP editP (m.toNat - k) tk) = manyP editP m.toNat t3 ∧
    RdB wl r ok tk [.slice pn ns.length cn, mk, nw] ∧ Blk wl b2 [.int .i64 a, .slice pe es.length ce, .int .i64 c] ∧ OwnL EditV wl (b2 + 1) 58 3 pe es.length ce es ∧ Upd (fun z => z = r) w wl ∧ b2 + 1 ≤ wl.heap.size,
    ⟨_, 0, t3, [], none, 0, rfl, rfl, Nat.zero_le _, rfl, by omega, ?_, hb3, B10, OwnL.nil _ _ _ _, P10, by omega⟩, ?_⟩
  · rw [Nat.sub_zero]
    cases manyP editP m.toNat t3 with
    | none => rfl
    | some y => rfl
  rintro _ _ wl ⟨k, tk, es, pe, ce, rfl, rfl, hk, hel, htk, hrest, hR, hB, hE, hU, hsz⟩
  refine brr (fun q wd hd => ?_) fun q => ?_
  · have q := of_decide_eq_true q
    have hk1 : m.toNat - k = (m.toNat - (k + 1)) + 1 := by omega
    rw [hk1, rest_step] at hrest
    have hRd := hR.ext hd.ext
    have hBd := hB.ext hd.ext
    have zd := hd.ext.size
    refine ⟨fun wz => Upd (fun z => z = r) wd wz, Upd.refl _ _, pe, _, ce, fun wz hz => (hBd.upd hz (by omega)).cell 1 rfl, (redit_does hRd htk).imp ?_⟩
    rintro e w16 (⟨g1, rfl, u16⟩ | ⟨x, t', g1, v, rfl, hx, hRx, u16⟩)
    · refine .inr ⟨_, rfl, .inl ⟨?_, rfl, ge (Upd.trans (Ext.then hU hd.ext) u16)⟩⟩
      rw [hnode, ← hrest, g1]
    obtain ⟨p1, c1, p2, c2, rfl, hin, o1, o2, i1, i2⟩ := hx
    have hlt := len_edit hRd.bytes g1
    refine .inl ⟨_, _, _, _, _, _, _, rfl, u16, fun b17 w17 hb17 => ⟨Ext.then u16 hb17.ext, ?_⟩⟩
    have e17 := hb17.eq
    have s16 := u16.size
    have z17 := hb17.size
    have u17 : Upd (fun z => z = r) wd w17 := Ext.then u16 hb17.ext
    -- the row of edits is as it was
    obtain ⟨vss, ho1, ho2⟩ := hE
    have hE17 : OwnL EditV w17 (b2 + 1) 58 3 pe es.length ce es := by
      refine ⟨vss, (ho1.ext hd.ext).upd u17 fun a ha e => ?_, ho2.imp fun vs x ⟨y1, y2⟩ => ⟨y1, ?_⟩⟩
      · have := (ho1.base ha).1
        have e : a.block = r := e
        omega
      · have hx := EditV.stable _ _ _ _ _ _ hd.ext (fun _ _ => id) y2
        have hx := EditV.stable _ _ _ _ _ _ u17 (fun g hg (e : g = r) => by have := hg.1; omega) hx
        exact EditV.widens _ _ _ _ _ (fun g hg ⟨y3, y4, y5⟩ => ⟨y3, hg, y5⟩) hx
    have hpe : ∀ a : Addr, pe = some a → b2 + 1 ≤ a.block ∧ a.block < wl.heap.size := fun a ha => ho1.base ha
    have inn : ∀ g, wd.heap.size ≤ g ∧ g < w17.heap.size → Inner w17 (b2 + 1) pe g := fun g hg => ⟨by omega, hg.2, fun a ha e => by have := (hpe a ha).2; omega⟩
    obtain ⟨p', c', w18, hr18, ho18, hu18, hat18⟩ := OwnL.append EditV.stable EditV.widens slE 59 hE17 (b := b17) (vs := [.int .i64 x.at_, .slice p1 x.old.length c1, .slice p2 x.new.length c2]) rfl (fun j u hj => hb17.cell j hj) (by simp [Value.oneCell']) (x := x)
      ⟨p1, c1, p2, c2, rfl, hin, (o1.ext hb17.ext).cap.1, ((o1.ext hb17.ext).ints i1).ok (fun g _ hg => inn g hg), (o2.ext hb17.ext).cap.1, ((o2.ext hb17.ext).ints i2).ok (fun g _ hg => inn g hg)⟩ (by simp only [maxLen]; have := f3.2; omega) (by have := f3.2; omega) (by omega)
    have s18 := hu18.size
    have nb : ∀ {z}, z ≤ b2 → ¬ ∃ a, pe = some a ∧ a.block = z := fun hz ⟨a, e1, e2⟩ => by have := (hpe a e1).1; omega
    have hB18 := (hBd.upd u17 (by omega)).upd hu18 (nb (Nat.le_refl _))
    refine ⟨p', _, c', w18, hr18, hB18.st (by simp) fun w19 B19 u19 => ⟨inI64 (by omega) (by have := f3.2; omega), _, ?_, k + 1, t', es ++ [x], p', c', by omega, rfl, by omega, by simp [hel], by omega, ?_, ?_, ?_, ?_, ?_, by have := u19.size; omega⟩⟩
    · omega
    · rw [← hrest, g1]
    · refine ((hRx.ext hb17.ext).upd hu18 (nb (by omega)) fun z hz => ?_).upd u19 (by omega) fun z hz e => ?_
      · exact nb (by have := hokb z hz; omega)
      · have := hokb z hz
        have e : z = b2 := e
        omega
    · rw [List.length_append, List.length_singleton]; exact B19
    · obtain ⟨vs2, y1, y2⟩ := ho18
      rw [List.length_append, List.length_singleton]
      refine ⟨vs2, y1.upd u19 fun a ha e => ?_, y2.imp fun vs x ⟨y3, y4⟩ => ⟨y3, ?_⟩⟩
      · have := (y1.base ha).1
        have e : a.block = b2 := e
        omega
      · have hx := EditV.stable _ _ _ _ _ _ u19 (fun g hg (e : g = b2) => by have := hg.1; omega) y4
        exact EditV.widens _ _ _ _ _ (fun g hg ⟨y5, y6, y7⟩ => ⟨y5, hg, y7⟩) hx
    · refine Upd.then (Upd.then (Ext.then hU hd.ext) u17 fun _ _ e => e) (Upd.then (T := fun z => b2 ≤ z) (hu18.mono fun z _ ⟨a, e1, e2⟩ => by have := (hpe a e1).1; omega) u19 fun z _ (e : z = b2) => by omega) fun z hz e => ?_
      have e : b2 ≤ z := e
      omega
  · have q := of_decide_eq_false q
    obtain rfl : k = m.toNat := by omega
    rw [Nat.sub_self, rest_done] at hrest
    rw [← hrest] at hnode
    simp only at hnode
    intro wd hd
    have hRd := hR.ext hd.ext
    have hBd := hB.ext hd.ext
    have hEd := hE.ext EditV.stable EditV.widens hd.ext
    have zd := hd.ext.size
    -- the row of nodes is as it was
    have hpn : ∀ a : Addr, pn = some a → base ≤ a.block ∧ a.block < w.heap.size := fun a ha => ho.base ha
    refine ⟨fun wz => Ext wd wz, Upd.refl _ _, r, 0, rfl, pn, _, cn, fun wz hz => (hRd.ext hz).cell 0 rfl, _, fun wz hz => (hBd.ext hz).cell 0 rfl, _, _, _, fun wz hz => (hBd.ext hz).cell 1 rfl, _, fun wz hz => (hBd.ext hz).cell 2 rfl, fun b27 w27 hb27 => ⟨hb27.ext, ?_⟩⟩
    have e27 := hb27.eq
    have z27 := hb27.size
    have zl := hU.size
    have u27 : Upd (fun z => z = r) w w27 := Ext.then (Ext.then hU hd.ext) hb27.ext
    have hN27 : OwnL NodeV w27 base 63 3 pn ns.length cn ns := by
      obtain ⟨vss, ho1, ho2⟩ := ho
      refine ⟨vss, ho1.upd u27 fun a ha e => ?_, ho2.imp fun vs x ⟨y1, y2⟩ => ⟨y1, ?_⟩⟩
      · have := (ho1.base ha).1
        have e : a.block = r := e
        omega
      · have hx := NodeV.stable _ _ _ _ _ _ u27 (fun g hg (e : g = r) => by have := hg.1; omega) y2
        exact NodeV.widens _ _ _ _ _ (fun g hg ⟨y3, y4, y5⟩ => ⟨y3, hg, y5⟩) hx
    have hE27 := hEd.ext EditV.stable EditV.widens hb27.ext
    obtain ⟨p', c', w28, hr28, ho28, hu28, hat28⟩ := OwnL.append NodeV.stable NodeV.widens slN 35 hN27 (b := b27) (vs := [.int .i64 a, .slice pe es.length ce, .int .i64 c]) rfl (fun j u hj => hb27.cell j hj) (by simp [Value.oneCell']) (x := ⟨a, es, c⟩)
      ⟨pe, ce, rfl, inI64 (by show _ ≤ a; have := f1.1; omega) (by show a ≤ _; have := f1.2; omega), inI64 (by show _ ≤ c; have := f2.1; omega) (by show c ≤ _; have := f2.2; omega), OwnL.cap hE27, (OwnL.edits hE27).ok fun g _ hg => ⟨by omega, hg.2, fun a ha e => by have := (hpn a ha).2; omega⟩⟩ (by simp only [maxLen]; omega) (by omega) (by omega)
    have nb : ∀ {z}, z < base → ¬ ∃ a, pn = some a ∧ a.block = z := fun hz ⟨a, e1, e2⟩ => by have := (hpn a e1).1; omega
    have hR28 := (hRd.ext hb27.ext).upd hu28 (nb hr) fun z hz => nb (hokb z hz)
    refine ⟨p', _, c', w28, hr28, r, 0, rfl, hR28.st (by simp) fun w29 R29 u29 => .inr ⟨_, tk, hnode, rfl, ⟨p', c', ?_, ?_⟩, ?_⟩⟩
    · rw [List.length_append, List.length_singleton]; exact R29
    · obtain ⟨vs2, y1, y2⟩ := ho28
      rw [List.length_append, List.length_singleton]
      refine ⟨vs2, y1.upd u29 fun a ha e => ?_, y2.imp fun vs x ⟨y3, y4⟩ => ⟨y3, ?_⟩⟩
      · have := (y1.base ha).1
        have e : a.block = r := e
        omega
      · have hx := NodeV.stable _ _ _ _ _ _ u29 (fun g hg (e : g = r) => by have := hg.1; omega) y4
        exact NodeV.widens _ _ _ _ _ (fun g hg ⟨y5, y6, y7⟩ => ⟨y5, hg, y7⟩) hx
    · refine Upd.then (Upd.then (ge u27) (hu28.mono (U := fun z => z = r ∨ base ≤ z) fun z _ ⟨a, e1, e2⟩ => .inr (by have := (hpn a e1).1; omega)) fun _ _ e => e) (ge u29) fun _ _ e => e
end
end Go.Proofs.Ytlenmnffdbgkkaa
