/-
  States: what each function of the code does: reading all.
-/
import Derived.Test.YtlenmnffdbgkkaaStateRead2
namespace Go.Proofs.Ytlenmnffdbgkkaa
open Go.RowKit Go.Vc
section
variable {w : World} {r : Nat} {ok : Nat → Prop} {t : List Int}
/-- The nodes, the root ahead. -/
def rooted (many : Int) (ns : List Nd) : List Nd := if many > 0 then rootN :: ns else ns
theorem tree_does {mk : Value} {n0 : Int} (h : RdB w r ok t [.slice none 0 0, mk, .int .i64 n0]) (hokb : ∀ z, ok z → z < w.heap.size) (hl : t.length ≤ 1000000) : Does Try.prog 49 #[.pointer (some ⟨r, 0, none⟩)] w
    (RdG w r w.heap.size (treesP t) fun v t' e w' => e = .returned (.tuple #[]) ∧ (∃ pn' cn', RdB w' r ok t' [.slice pn' (rooted v.1 v.2.2).length cn', mk, .int .i64 v.2.1] ∧ OwnL NodeV w' w.heap.size 63 3 pn' (rooted v.1 v.2.2).length cn' (rooted v.1 v.2.2)) ∧ Upd (fun z => z = r) w w') := by
  have hf := h.bytes
  have hr := h.lt
  have ge : ∀ {a b : World}, Upd (fun z => z = r) a b → Upd (fun z => z = r ∨ w.heap.size ≤ z) a b := fun u => u.mono fun k _ (e : k = r) => .inl e
  have lt : ∀ {b : World}, Upd (fun z => z = r ∨ w.heap.size ≤ z) w b → Upd (fun z => z = r) w b := fun u => u.mono fun k hk e => by rcases e with e | e; exact e; omega
  apply f49_does
  refine (rnum_does h hl).imp ?_
  rintro e w5 (⟨h1, rfl, u1⟩ | ⟨many, t1, h1, rfl, hb1, u1⟩)
  · exact .inr ⟨_, rfl, .inl ⟨by unfold treesP andThen; rw [h1], rfl, ge u1⟩⟩
  have n1 := len_num hf h1
  have f1 := (back_num hf h1).2
  refine .inl ⟨_, rfl, (rnum_does hb1 (by omega)).imp ?_⟩
  rintro e w8 (⟨h2, rfl, u2⟩ | ⟨now, t2, h2, rfl, hb2, u2⟩)
  · exact .inr ⟨_, rfl, .inl ⟨by unfold treesP andThen; rw [h1]; simp only; rw [h2], rfl, ge (Upd.trans u1 u2)⟩⟩
  have n2 := len_num hb1.bytes h2
  have f2 := (back_num hb1.bytes h2).2
  have htree : treesP t = match manyP nodeP (many - 1).toNat t2 with | none => none | some (ns, r') => some ((many, now, ns), r') := by
    unfold treesP andThen
    rw [h1]; simp only; rw [h2]; simp only
    cases manyP nodeP (many - 1).toNat t2 <;> rfl
  have s5 := u1.size
  have s8 := u2.size
  refine .inl ⟨_, rfl, r, 0, rfl, hb2.st (j := 2) (by simp) fun w9 R9 u9 => ?_⟩
  have R9 : RdB w9 r ok t2 [.slice none 0 0, mk, .int .i64 now] := R9
  have U9 : Upd (fun z => z = r ∨ w.heap.size ≤ z) w w9 := ge (Upd.trans (Upd.trans u1 u2) u9)
  have s9 := u9.size
  refine ⟨fun _ wc => ∃ pn cn, RdB wc r ok t2 [.slice pn (rooted many []).length cn, mk, .int .i64 now] ∧ OwnL NodeV wc w.heap.size 63 3 pn (rooted many []).length cn (rooted many []) ∧ Upd (fun z => z = r ∨ w.heap.size ≤ z) w wc ∧ w.heap.size ≤ wc.heap.size, brr (fun q b15 w15 hb15 => ?_) fun q => ?_, ?_⟩
  · have q := of_decide_eq_true q
    have e15 := hb15.eq
    have z15 := hb15.size
    have hro : rooted many [] = [rootN] := by unfold rooted; rw [if_pos q]
    rw [hro]
    refine ⟨r, 0, rfl, (R9.ext hb15.ext).st (j := 0) (by simp) fun w16 R16 u16 => ⟨0, some ⟨b15, 0, none⟩, 1, R16, ?_, Upd.then (Upd.then U9 hb15.ext fun _ _ e => e.elim) (ge u16) fun _ _ e => e, by have := u16.size; omega⟩⟩
    have ho15 : Own w15 w.heap.size 63 3 (some ⟨b15, 0, none⟩) 1 1 [.int .i64 (-1), .slice none 0 0, .int .i64 0] :=
      ⟨rfl, .inr ⟨b15, 1, _, rfl, by omega, hb15.heap, by decide, by decide, rfl, rfl⟩⟩
    have ho16 := ho15.upd u16 fun a ha e => by injection ha with ha; subst ha; have e : b15 = r := e; omega
    exact ⟨[[.int .i64 (-1), .slice none 0 0, .int .i64 0]], by simpa using ho16, .cons ⟨rfl, none, 0, rfl, by decide, by decide, Nat.le_refl _, RS.nil⟩ .nil⟩
  · have q := of_decide_eq_false q
    have hro : rooted many [] = [] := by unfold rooted; rw [if_neg q]
    rw [hro]
    exact ⟨0, none, 0, R9, OwnL.nil _ _ _ _, U9, by omega⟩
  rintro _ wc ⟨pn, cn, Rc, ho, Uc, hsz⟩
  -- the nodes
  refine ⟨fun x3 nl wl => ∃ (k : Nat) (tk : List Int) (ns : List Nd) (pn : Option Addr) (cn : Nat), x3 = (k : Int) + 1 ∧ nl = (many - 1).toNat - k ∧ k ≤ (many - 1).toNat ∧ ns.length = k ∧ tk.length ≤ 1000000 ∧ restP ns (manyP nodeP ((many - 1).toNat - k) tk) = manyP nodeP (many - 1).toNat t2 ∧
    RdB wl r ok tk [.slice pn (rooted many ns).length cn, mk, .int .i64 now] ∧ OwnL NodeV wl w.heap.size 63 3 pn (rooted many ns).length cn (rooted many ns) ∧ Upd (fun z => z = r ∨ w.heap.size ≤ z) w wl ∧ w.heap.size ≤ wl.heap.size,
    ⟨_, 0, t2, [], pn, cn, rfl, rfl, Nat.zero_le _, rfl, by omega, ?_, Rc, ho, Uc, hsz⟩, ?_⟩
  · rw [Nat.sub_zero]
    cases manyP nodeP (many - 1).toNat t2 with
    | none => rfl
    | some y => rfl
  rintro _ _ wl ⟨k, tk, ns, pn, cn, rfl, rfl, hk, hnl, htk, hrest, hR, ho, hU, hsz⟩
  refine brr (fun q => ?_) fun q => ?_
  · have q := of_decide_eq_true q
    have hk1 : (many - 1).toNat - k = ((many - 1).toNat - (k + 1)) + 1 := by omega
    rw [hk1, rest_step] at hrest
    have hpos : many > 0 := by omega
    have hlen : (rooted many ns).length ≤ 4294967296 := by unfold rooted; rw [if_pos hpos, List.length_cons]; have := f1.2; omega
    refine (rnode_does hR ho hr hsz hokb htk hlen).imp ?_
    rintro e w24 (⟨g1, rfl, u24⟩ | ⟨nd, t', g1, rfl, ⟨pn', cn', R', o'⟩, u24⟩)
    · refine .inr ⟨_, rfl, .inl ⟨?_, rfl, Upd.then hU u24 fun _ _ e => e⟩⟩
      rw [htree, ← hrest, g1]
    · have hro : rooted many ns ++ [nd] = rooted many (ns ++ [nd]) := by unfold rooted; rw [if_pos hpos, if_pos hpos]; rfl
      rw [hro] at R' o'
      have hlt := len_node hR.bytes g1
      refine .inl ⟨rfl, inI64 (by omega) (by have := f1.2; omega), _, ?_, k + 1, t', ns ++ [nd], pn', cn', by omega, rfl, by omega, by simp [hnl], by omega, by rw [← hrest, g1], R', o', Upd.then hU u24 fun _ _ e => e, by have := u24.size; omega⟩
      omega
  · have q := of_decide_eq_false q
    obtain rfl : k = (many - 1).toNat := by omega
    rw [Nat.sub_self, rest_done] at hrest
    rw [← hrest] at htree
    exact .inr ⟨_, tk, htree, rfl, ⟨pn, cn, hR, ho⟩, lt hU⟩
theorem len_mark {t t' : List Int} {x : Int × Int} (hb : FB t) (h : markP t = some (x, t')) : t'.length ≤ t.length := by
  obtain ⟨rfl, h1⟩ := back_mark hb h
  simp only [List.length_append]; omega
theorem places_does {nd nw : Value} (h : RdB w r ok t [nd, .slice none 0 0, nw]) (hokb : ∀ z, ok z → z < w.heap.size) (hl : t.length ≤ 1000000) : Does Try.prog 50 #[.pointer (some ⟨r, 0, none⟩)] w
    (RdQ w r (marksP t) fun ms t' e w' => e = .returned (.tuple #[]) ∧ (∃ pm cm, RdB w' r ok t' [nd, .slice pm ms.length cm, nw] ∧ OwnL MkV w' w.heap.size 61 2 pm ms.length cm ms) ∧ Upd (fun z => z = r) w w') := by
  have hr := h.lt
  apply f50_does
  refine (take_does h (by decide) hl).imp ?_
  rintro e w4 (⟨h1, rfl, u1⟩ | ⟨x, t1, h1, p, rfl, hx, hb1, u1⟩)
  · exact .inr ⟨_, rfl, .inl ⟨by unfold marksP andThen; rw [h1], rfl, u1⟩⟩
  obtain ⟨c, rfl, rfl⟩ := back_one h1
  have hfb := h.bytes
  have hc := hfb c List.mem_cons_self
  have hmarks : marksP (c :: t1) = manyP markP c.toNat t1 := by unfold marksP andThen; rw [h1]; rfl
  obtain ⟨b5, o5, hp, hcell⟩ := hx.at 0 (by simp)
  have s4 := u1.size
  simp only [List.length_cons] at hl
  refine .inl ⟨p, _, _, rfl, ⟨by decide, by show (0 : Int) < ((1 : Nat) : Int); decide⟩, b5, o5, hp, c, hcell, ?_⟩
  refine ⟨fun x7 nl wl => ∃ (k : Nat) (tk : List Int) (ms : List (Int × Int)) (pm : Option Addr) (cm : Nat), x7 = k ∧ nl = c.toNat - k ∧ k ≤ c.toNat ∧ ms.length = k ∧ tk.length ≤ 1000000 ∧ restP ms (manyP markP (c.toNat - k) tk) = manyP markP c.toNat t1 ∧
    RdB wl r ok tk [nd, .slice pm ms.length cm, nw] ∧ OwnL MkV wl w.heap.size 61 2 pm ms.length cm ms ∧ Upd (fun z => z = r) w wl,
    ⟨_, 0, t1, [], none, 0, rfl, rfl, Nat.zero_le _, rfl, by omega, ?_, hb1, OwnL.nil _ _ _ _, u1⟩, ?_⟩
  · rw [Nat.sub_zero]
    cases manyP markP c.toNat t1 with
    | none => rfl
    | some y => rfl
  rintro _ _ wl ⟨k, tk, ms, pm, cm, rfl, rfl, hk, hml, htk, hrest, hR, ho, hU⟩
  refine brr (fun q => ?_) fun q => ?_
  · have q := of_decide_eq_true q
    have hk1 : c.toNat - k = (c.toNat - (k + 1)) + 1 := by omega
    rw [hk1, rest_step] at hrest
    have sl := hU.size
    refine (take_does hR (by decide) htk).imp ?_
    rintro e w10 (⟨g1, rfl, u10⟩ | ⟨y, t2, g1, p2, rfl, hy, hR2, u10⟩)
    · refine .inr ⟨_, rfl, .inl ⟨?_, rfl, Upd.trans hU u10⟩⟩
      have : markP tk = none := by unfold markP andThen; rw [g1]
      rw [hmarks, ← hrest, this]
    obtain ⟨nm, rfl, rfl⟩ := back_one g1
    obtain ⟨b11, o11, hp2, hcell2⟩ := hy.at 0 (by simp)
    have hnm := hy.inK nm (by simp)
    refine .inl ⟨p2, _, _, rfl, ⟨by decide, by show (0 : Int) < ((1 : Nat) : Int); decide⟩, b11, o11, hp2, nm, hcell2, fun wd hd => ?_⟩
    have hRd := hR2.ext hd.ext
    have sd := hd.ext.size
    have s10 := u10.size
    simp only [List.length_cons] at htk
    refine ⟨fun wz => ∃ t', RdB wz r ok t' [nd, .slice pm ms.length cm, nw], ⟨t2, hRd⟩, r, 0, rfl, pm, _, cm, fun wz ⟨t', hz⟩ => hz.cell 1 rfl, (rnum_does hRd (by omega)).imp ?_⟩
    rintro e w20 (⟨g2, rfl, u20⟩ | ⟨at_, t3, g2, rfl, hR3, u20⟩)
    · refine .inr ⟨_, rfl, .inl ⟨?_, rfl, Upd.trans hU (Upd.trans (Ext.then u10 hd.ext) u20)⟩⟩
      have : markP (nm :: t2) = none := by unfold markP andThen; rw [g1]; simp only; rw [g2]
      rw [hmarks, ← hrest, this]
    have hn := len_num hRd.bytes g2
    have fn := (back_num hRd.bytes g2).2
    have hmk : markP (nm :: t2) = some ((nm, at_), t3) := by unfold markP andThen; rw [g1]; simp only; rw [g2]; rfl
    refine .inl ⟨_, rfl, ⟨t3, hR3⟩, fun b22 w22 hb22 => ⟨⟨t3, hR3.ext hb22.ext⟩, ?_⟩⟩
    have U22 : Upd (fun z => z = r) wl w22 := Ext.then (Upd.trans (Ext.then u10 hd.ext) u20) hb22.ext
    have hpm : ∀ a : Addr, pm = some a → w.heap.size ≤ a.block ∧ a.block < wl.heap.size := fun a ha => ho.base ha
    have ho22 : OwnL MkV w22 w.heap.size 61 2 pm ms.length cm ms := by
      obtain ⟨vss, o1, o2⟩ := ho
      exact ⟨vss, o1.upd U22 fun a ha e => (by have := (o1.base ha).1; have e : a.block = r := e; omega), o2.imp fun vs x ⟨y1, y2⟩ => ⟨y1, y2⟩⟩
    have s22 := U22.size
    obtain ⟨p', c', w23, hr23, ho23, hu23, hat23⟩ := OwnL.append MkV.stable MkV.widens slM 29 ho22 (b := b22) (vs := [.int .u8 nm, .int .i64 at_]) rfl (fun j u hj => hb22.cell j hj) (by simp [Value.oneCell']) (x := (nm, at_))
      ⟨rfl, hnm, inI64 (by show _ ≤ at_; have := fn.1; omega) (by show at_ ≤ _; have := fn.2; omega)⟩ (by simp only [maxLen]; omega) (by omega) (by omega)
    have nb : ∀ {z}, z < w.heap.size → ¬ ∃ a, pm = some a ∧ a.block = z := fun hz ⟨a, e1, e2⟩ => by have := (hpm a e1).1; omega
    have hR23 := (hR3.ext hb22.ext).upd hu23 (nb hr) fun z hz => nb (hokb z hz)
    refine ⟨p', _, c', w23, hr23, r, 0, rfl, hR23.st (j := 1) (by simp) fun w24 R24 u24 => ⟨_, ?_, k + 1, t3, ms ++ [(nm, at_)], p', c', ?_, rfl, by omega, by simp [hml], by omega, by rw [← hrest, hmk], ?_, ?_, ?_⟩⟩
    · omega
    · rw [wrap_in ⟨by show (0 : Int) ≤ _; omega, by show _ ≤ (255 : Int); omega⟩]; omega
    · rw [List.length_append, List.length_singleton]; exact R24
    · obtain ⟨vs2, y1, y2⟩ := ho23
      rw [List.length_append, List.length_singleton]
      exact ⟨vs2, y1.upd u24 fun a ha e => (by have := (y1.base ha).1; have e : a.block = r := e; omega), y2.imp fun vs x ⟨y3, y4⟩ => ⟨y3, y4⟩⟩
    · refine Upd.then (Upd.then (Upd.trans hU U22) hu23 fun z hz ⟨a, e1, e2⟩ => ?_) u24 fun _ _ e => e
      have := (hpm a e1).1
      omega
  · have q := of_decide_eq_false q
    obtain rfl : k = c.toNat := by omega
    rw [Nat.sub_self, rest_done] at hrest
    exact .inr ⟨ms, tk, by rw [hmarks, ← hrest], rfl, ⟨pm, cm, hR, ho⟩, hU⟩
theorem end_does {rest : List Value} (h : RdB w r ok t rest) : Does Try.prog 51 #[.pointer (some ⟨r, 0, none⟩)] w fun e w' => w' = w ∧ ((t ≠ [] ∧ e = .panicked longC) ∨ (t = [] ∧ e = .returned (.tuple #[]))) := by
  obtain ⟨p, c, a1, a2, a3, a4⟩ := h
  apply f51_does
  refine ⟨r, 0, rfl, _, _, _, a1.cell 0 rfl, brr (fun q => ⟨rfl, .inl ⟨?_, rfl⟩⟩) fun q => ⟨rfl, .inr ⟨?_, rfl⟩⟩⟩
  · have q := of_decide_eq_true q
    rintro rfl
    simp at q
  · have q := of_decide_eq_false q
    exact List.length_eq_zero_iff.1 (by omega)
end
end Go.Proofs.Ytlenmnffdbgkkaa
