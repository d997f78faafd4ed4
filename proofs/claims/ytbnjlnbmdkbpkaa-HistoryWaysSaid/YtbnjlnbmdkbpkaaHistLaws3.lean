/-
  Histories: the statements' functions answer true: the examples; short ways.
-/
import Derived.Test.YtbnjlnbmdkbpkaaHistLaws2
namespace Go.Proofs.Ytbnjlnbmdkbpkaa
open Go.RowKit Go.Vc
section
variable {w : World} {ok : Nat → Prop} {p : Option Addr} {ds : List Dd}
/-- The examples' histories. -/
def kn1 : List Nd := [rootN] ++ [newN 0 [xE 1] 0]
def kn2 : List Nd := kn1 ++ [newN 1 [xE 2] 1]
def kn3 : List Nd := kn2 ++ [newN 1 [xE 3] 1]
theorem known_law : Does Try.prog 4 #[] w (Holds w) := by
  apply f4_does
  refine awake_does.imp ?_
  rintro e w13 ⟨rfl, x13⟩
  refine ⟨_, rfl, fls rfl ((new_hi (Upd.refl _ _)).imp ?_)⟩
  rintro e w15 ⟨b, rfl, H15⟩
  refine ⟨_, rfl, fls rfl ((x_does 1 (by decide) (by decide)).imp ?_)⟩
  rintro e w19 ⟨b7, rfl, hI, x19⟩
  refine ⟨_, _, _, _, _, _, _, rfl, fun b20 w20 hb20 => ?_⟩
  refine (add_hi (hi_ext H15 (Ext.thn x19 hb20.ext)) (by decide) (xrow hI (by decide) hb20) rfl 1 mod_x (by decide) 0 (by decide)).imp ?_
  rintro e w21 ⟨_, ⟨hno, _⟩ | ⟨_, rfl, H21⟩⟩
  · exact (hno ⟨by simp, by decide, by decide⟩).elim
  have H21 : HI w13 w21 b kn1 1 2 := H21
  refine ⟨_, _, rfl, (x_does 2 (by decide) (by decide)).imp ?_⟩
  rintro e w23 ⟨b7, rfl, hI, x23⟩
  refine ⟨_, _, _, _, _, _, _, rfl, fun b24 w24 hb24 => ?_⟩
  refine (add_hi (hi_ext H21 (Ext.thn x23 hb24.ext)) (by decide) (xrow hI (by decide) hb24) rfl 1 mod_x (by decide) 1 (by decide)).imp ?_
  rintro e w25 ⟨_, ⟨hno, _⟩ | ⟨_, rfl, H25⟩⟩
  · exact (hno ⟨by simp, by decide, by decide⟩).elim
  have H25 : HI w13 w25 b kn2 2 3 := H25
  refine ⟨_, _, rfl, (undo_hi H25 (by decide)).imp ?_⟩
  rintro e w27 ⟨⟨p27, c27, base27, rfl, o27, hb27, u27⟩, H27⟩
  have H27 : HI w13 w27 b kn2 1 3 := H27
  refine ⟨_, _, _, _, _, rfl, (x_does 3 (by decide) (by decide)).imp ?_⟩
  rintro e w30 ⟨b7, rfl, hI, x30⟩
  refine ⟨_, _, _, _, _, _, _, rfl, fun b31 w31 hb31 => ?_⟩
  refine (add_hi (hi_ext H27 (Ext.thn x30 hb31.ext)) (by decide) (xrow hI (by decide) hb31) rfl 1 mod_x (by decide) 1 (by decide)).imp ?_
  rintro e w32 ⟨_, ⟨hno, _⟩ | ⟨_, rfl, H32⟩⟩
  · exact (hno ⟨by simp, by decide, by decide⟩).elim
  have H32 : HI w13 w32 b kn3 3 4 := H32
  refine ⟨_, _, rfl, (kids_hi H32 (by decide) 1).imp ?_⟩
  have hk : kidsF kn3 1 = [2, 3] := by decide
  rw [hk]
  rintro e w36 ⟨p36, c36, rfl, o36, x36⟩
  have H36 := hi_ext H32 x36
  refine ⟨_, _, _, rfl, (undo_hi H36 (by decide)).imp ?_⟩
  rintro e w38 ⟨⟨p38, c38, base38, rfl, o38, hb38, u38⟩, H38⟩
  have H38 : HI w13 w38 b kn3 1 4 := H38
  refine ⟨_, _, _, _, _, rfl, (redo_hi H38 (by decide)).imp ?_⟩
  rintro e w40 ⟨⟨p40, c40, base40, rfl, o40, hb40, u40⟩, H40⟩
  have H40 : HI w13 w40 b kn3 3 4 := H40
  refine ⟨_, _, _, _, _, rfl, (jump_hi H40 (by decide) 2).imp ?_⟩
  have hw : wayF (paF kn3) 3 2 = [(3, false), (2, true)] := by
    rw [way_up (by decide) (by decide), show paF kn3 3 = 1 by decide, way_down (by decide) (by decide), show paF kn3 2 = 1 by decide, way_same]
    rfl
  have hJ : jumpE kn3 3 2 = [⟨3, [100], []⟩, ⟨2, [], [99]⟩] := by
    unfold jumpE
    rw [if_pos (by decide), show (2 : Int).toNat = 2 from rfl, hw]
    decide
  rw [hJ]
  rintro e w43 ⟨⟨p43, c43, base43, rfl, o43, hb43, u43⟩, H43⟩
  have H43 : HI w13 w43 b kn3 2 4 := H43
  refine ⟨_, _, _, _, _, rfl, (jump_hi H43 (by decide) 9).imp ?_⟩
  have hn9 : ¬ thereB kn3 9 := by decide
  have hN9 : jumpN kn3 2 9 = 2 := by unfold jumpN; rw [if_neg hn9]
  rintro e w49 ⟨⟨p49, c49, base49, rfl, o49, hb49, u49⟩, H49⟩
  rw [hN9] at H49
  refine ⟨_, _, _, _, _, rfl, (add_hi H49 (by decide) (p := none) (es := []) (ok := fun _ => True) RS.nil rfl 0 ⟨by decide, fun e he => by cases he⟩ (by decide) 0 (by decide)).imp ?_⟩
  rintro e w55 ⟨u55, ⟨_, rfl, H55⟩ | ⟨hno, _⟩⟩
  rotate_right
  · exact (hno.1 rfl).elim
  have hlt := hi_lt H55
  have hb15 := hi_lt H15
  have s36 := x36.size
  -- what was told stands still
  have hK : Ints .i64 w55 (fun g => w32.heap.size ≤ g ∧ g < w36.heap.size) p36 [2, 3] := by
    have h1 := (ints_of o36 (by decide)).2
    have nb : ∀ k, w32.heap.size ≤ k ∧ k < w36.heap.size → ¬ k = b := fun k hk e => by have := (hi_lt H32).2.1; omega
    exact ((((h1.upd u38 nb).upd u40 nb).upd u43 nb).upd u49 nb).upd u55 nb
  have hE : Edits w55 (fun g => base43 ≤ g ∧ g < w43.heap.size) p43 [⟨3, [100], []⟩, ⟨2, [], [99]⟩] := by
    have nb : ∀ k, base43 ≤ k ∧ k < w43.heap.size → ¬ k = b := fun k hk e => by have := (hi_lt H40).2.1; omega
    exact ((OwnL.edits o43).upd u49 nb).upd u55 nb
  obtain ⟨bk, ok_, hpk, hck0⟩ := hK.at 0 (by decide)
  obtain ⟨bk', ok_', hpk', hck1⟩ := hK.at 1 (by decide)
  obtain ⟨be, oe, q1, d1, q2, d2, hpe, _, e1, e2, e3, _⟩ := hE.at 0 (by decide)
  obtain ⟨be', oe', q1', d1', q2', d2', hpe', _, e1', e2', e3', _⟩ := hE.at 1 (by decide)
  exact ⟨_, _, rfl, tru rfl (tru rfl ⟨by decide, bk, ok_, hpk, _, hck0, tru rfl ⟨by decide, bk', ok_', hpk', _, hck1, tru rfl (tru rfl (tru rfl ⟨by decide, be, oe, hpe, _, _, _, e2, tru rfl ⟨by decide, be', oe', hpe', _, _, _, e3', tru rfl (tru (by rw [decide_eq_false hn9]; rfl) ⟨rfl, Ext.thn x13 hlt.2.2.1⟩)⟩⟩))⟩⟩)⟩
theorem tmod_bound {x : Int} {n : Nat} (h0 : 0 ≤ x) (hn : 0 < n) : 0 ≤ x.tmod (n : Int) ∧ x.tmod (n : Int) < n := by
  rw [Int.tmod_eq_emod_of_nonneg h0]
  exact ⟨Int.emod_nonneg _ (by omega), Int.emod_lt_of_pos _ (by omega)⟩
theorem short_law (hx : Deeds w ok p ds) {l : Nat} (hl : l = ds.length) (c : Nat) (hs : ds.length ≤ 9223372036854775807) (to : Int) : Does Try.prog 5 #[.slice p l c, .int .i64 to] w (Holds w) := by
  subst hl
  apply f5_does
  refine awake_does.imp ?_
  rintro e w22 ⟨rfl, x22⟩
  refine ⟨_, rfl, fls rfl ((roomd_does (hx.ext x22) rfl c 60 hs).imp ?_)⟩
  rintro e w25 ⟨rfl, bo, rfl, hbo⟩
  refine ⟨_, rfl, brr (fun _ => ⟨rfl, x22⟩) fun j => ?_⟩
  obtain ⟨h60, hsm⟩ := hbo (by simpa using j)
  refine (new_hi (Upd.refl _ _)).imp ?_
  rintro e w27 ⟨b, rfl, H27⟩
  refine ⟨_, rfl, fls rfl ⟨fun x nl wl => ∃ (k : Nat) (ns : List Nd) (cur : Nat), x = k ∧ nl = ds.length - k ∧ k ≤ ds.length ∧ HI w25 wl b ns cur (k + 1), ⟨_, 0, _, _, rfl, rfl, Nat.zero_le _, H27⟩, ?_⟩⟩
  rintro _ _ wl ⟨k, ns, cur, rfl, rfl, hk, H⟩
  have hlt := hi_lt H
  refine brr (fun jj => ?_) fun jj => ?_
  · have jj := of_decide_eq_true jj
    have hkl : k < ds.length := by omega
    obtain ⟨bb, o, p1, c1, hp, a0, a1, a2, a3, i0, i1, i2, i3, a4, i5⟩ := (hx.ext (Ext.thn x22 hlt.2.2.1)).at k hkl
    refine ⟨⟨by omega, by omega⟩, bb, o, hp, _, a0, brr (fun q => ⟨⟨by omega, by omega⟩, bb, o, hp, _, _, _, a3, ?_⟩) fun q => ⟨⟨by omega, by omega⟩, bb, o, hp, _, a1, ?_⟩⟩
    · have sm := hsm _ (List.getElem_mem hkl)
      refine (add_hi H (by omega) a4 rfl c1 sm.mod (by have := sm.1; omega) 0 (by decide)).imp ?_
      rintro e w48 ⟨_, ⟨_, rfl, H48⟩ | ⟨_, rfl, H48⟩⟩
      · exact ⟨_, _, rfl, inI64 (by omega) (by omega), _, by omega, k + 1, _, _, by omega, rfl, hkl, H48⟩
      · exact ⟨_, _, rfl, inI64 (by omega) (by omega), _, by omega, k + 1, _, _, by omega, rfl, hkl, H48⟩
    · refine (jump_hi H (by omega) _).imp ?_
      rintro e w56 ⟨⟨p56, c56, base56, rfl, _⟩, H56⟩
      exact ⟨_, _, _, _, _, rfl, inI64 (by omega) (by omega), _, by omega, k + 1, _, _, by omega, rfl, hkl, hi_bd H56 (by omega)⟩
  have jj := of_decide_eq_false jj
  obtain rfl : k = ds.length := by omega
  have hbd : ds.length + 1 ≤ 60000 := by omega
  have hn61 : ns.length ≤ ds.length + 1 := by obtain ⟨A, _, _, _, _, _, _, h7, _⟩ := H; exact h7
  obtain ⟨_, _, _, hn0, hcur⟩ := hlt
  have okn : okL ns := by obtain ⟨A, _, _, h3, _⟩ := H; exact h3
  have hmn : Mods ns := by obtain ⟨A, _, _, _, h4, _⟩ := H; exact h4
  have hEn : ∀ n ∈ ns, n.es.length ≤ 10000 := by obtain ⟨A, _, _, _, _, h5, _⟩ := H; exact h5
  refine (current_hi H).imp ?_
  rintro e _ ⟨rfl, rfl⟩
  have tc : thereB ns (cur : Int) := ⟨by omega, by omega⟩
  have jc : jumpE ns cur (cur : Int) = [] ∧ jumpC ns cur (cur : Int) = 0 ∧ jumpN ns cur (cur : Int) = cur := by
    unfold jumpE jumpC jumpN
    rw [if_pos tc, if_pos tc, if_pos tc, Int.toNat_natCast, way_same]
    exact ⟨rfl, rfl, rfl⟩
  refine ⟨_, rfl, (jump_hi H hbd cur).imp ?_⟩
  rw [jc.1, jc.2.1, jc.2.2, decide_eq_true tc]
  rintro e w62 ⟨⟨p62, c62, base62, rfl, o62, hb62, u62⟩, H62⟩
  refine ⟨_, _, _, _, _, rfl, fls rfl (fls rfl (fls rfl ((current_hi H62).imp ?_)))⟩
  rintro e w79 ⟨rfl, rfl⟩
  refine ⟨_, rfl, fls (by simp) ((count_hi H62).imp ?_)⟩
  rintro e w86 ⟨rfl, rfl⟩
  have hand := and_bound to 255 (by decide)
  have htm := tmod_bound (n := ns.length) hand.1 hn0
  refine ⟨_, rfl, by omega, (jump_hi H62 hbd _).imp ?_⟩
  have h255 : (((255 : Nat) : Nat) : Int) = 255 := rfl
  rw [h255] at htm
  obtain ⟨t, ht⟩ := Int.eq_ofNat_of_zero_le htm.1
  rw [ht]
  have tt : thereB ns (t : Int) := ⟨by omega, by omega⟩
  have htl : t < ns.length := by omega
  have jt : ∀ {a : Nat}, jumpE ns a (t : Int) = stepsE ns (wayF (paF ns) a t) ∧ jumpN ns a (t : Int) = t := fun {a} => by
    unfold jumpE jumpN
    rw [if_pos tt, if_pos tt, Int.toNat_natCast]
    exact ⟨rfl, rfl⟩
  rw [jt.1, jt.2, decide_eq_true tt]
  rintro e w91 ⟨⟨p91, c91, base91, rfl, o91, hb91, u91⟩, H91⟩
  refine ⟨_, _, _, _, _, rfl, (jump_hi H91 hbd cur).imp ?_⟩
  have jb : jumpE ns t (cur : Int) = turnE (stepsE ns (wayF (paF ns) cur t)) ∧ jumpN ns t (cur : Int) = cur := by
    unfold jumpE jumpN
    rw [if_pos tc, if_pos tc, Int.toNat_natCast, way_back (paF_lt okn) cur t, stepsE_flip]
    exact ⟨rfl, rfl⟩
  rw [jb.1, jb.2, decide_eq_true tc]
  rintro e w98 ⟨⟨p98, c98, base98, rfl, o98, hb98, u98⟩, H98⟩
  refine ⟨_, _, _, _, _, rfl, fls rfl (fls rfl ((current_hi H98).imp ?_))⟩
  rintro e w110 ⟨rfl, rfl⟩
  have hlen : (stepsE ns (wayF (paF ns) cur t)).length ≤ 1310720000 := by
    have h1 := stepsE_len hEn (wayF (paF ns) cur t)
    have h2 := way_len (paF_lt okn) _ cur t (Nat.le_refl _)
    omega
  have hlen2 : (stepsE ns (wayF (paF ns) cur t)).length ≤ 1000000000 := by
    have h1 := stepsE_len hEn (wayF (paF ns) cur t)
    have h2 := way_len (paF_lt okn) _ cur t (Nat.le_refl _)
    omega
  have hmem : ∀ e ∈ stepsE ns (wayF (paF ns) cur t), e.old.length ≤ 1000000000 ∧ e.new.length ≤ 1000000000 := fun e he => by
    obtain ⟨s, hs, he⟩ := List.mem_flatMap.1 he
    have hm := way_mem (paF_lt okn) cur t s hs
    have hs1 : s.1 < ns.length := by omega
    have hM := (hmn _ (List.getElem_mem hs1)).2
    unfold stepE at he
    rw [getD_at hs1] at he
    split at he
    · exact hM e he
    · unfold turnE at he
      rw [List.mem_reverse] at he
      obtain ⟨e', he', rfl⟩ := List.mem_map.1 he
      exact ⟨(hM e' he').2, (hM e' he').1⟩
  have hb91' := (hi_lt H62).2.1
  have hE91 : Edits w110 (fun g => base91 ≤ g ∧ g < w91.heap.size) p91 (stepsE ns (wayF (paF ns) cur t)) := (OwnL.edits o91).upd u98 fun k hk e => by have e : k = b := e; omega
  refine ⟨_, rfl, fls (by simp) ((turn_does hE91 rfl c91 hlen2 hmem).imp ?_)⟩
  rintro e w116 ⟨p116, c116, rfl, o116, x116⟩
  have hml : ∀ e ∈ turnE (stepsE ns (wayF (paF ns) cur t)), e.old.length ≤ 9223372036854775807 ∧ e.new.length ≤ 9223372036854775807 := fun e he => by
    unfold turnE at he
    rw [List.mem_reverse] at he
    obtain ⟨e', he', rfl⟩ := List.mem_map.1 he
    have := hmem e' he'
    exact ⟨by show e'.new.length ≤ _; omega, by show e'.old.length ≤ _; omega⟩
  have htl2 := turnE_len (stepsE ns (wayF (paF ns) cur t))
  refine ⟨_, _, _, rfl, (rsame_does (OwnL.edits o116) ((OwnL.edits o98).ext x116) htl2.symm rfl c116 c98 (by omega) hml).imp ?_⟩
  rintro e w118 ⟨rfl, x118⟩
  have H118 := hi_ext H98 (Ext.thn x116 x118)
  refine ⟨_, rfl, fls (by simp) ⟨fun x y nl wv => ∃ j : Nat, y = j ∧ nl = ns.length - j ∧ j ≤ ns.length ∧ x = (cntU ns j ns.length : Nat) ∧ HI w25 wv b ns cur (ds.length + 1), ⟨_, 0, rfl, rfl, Nat.zero_le _, by rw [cntU_zero]; rfl, H118⟩, ?_⟩⟩
  rintro _ _ _ wv ⟨j, rfl, rfl, hj, rfl, Hv⟩
  refine (count_hi Hv).imp ?_
  rintro e w123 ⟨rfl, rfl⟩
  have hcl : cntU ns j ns.length ≤ ns.length := by
    unfold cntU
    have := List.length_filter_le (fun k => decide (0 ≤ (ns.getD k rootN).par) && decide ((ns.getD k rootN).par < j)) (List.range ns.length)
    rwa [List.length_range] at this
  refine ⟨_, rfl, brr (fun jj => ?_) fun jj => ?_⟩
  · have jj := of_decide_eq_true jj
    have hjl : j < ns.length := by omega
    refine (kids_hi Hv hbd j).imp ?_
    rintro e w129 ⟨p129, c129, rfl, o129, x129⟩
    have hkl : (kidsF ns (j : Int)).length ≤ ns.length := kidsU_len ns _ _
    obtain ⟨_, hI⟩ := ints_of o129 fun k hk => by have := (kid_ok okn hk).1; omega
    refine ⟨_, _, _, rfl, inI64 (by omega) (by omega), fun x nl wu => ∃ i : Nat, x = i ∧ nl = (kidsF ns (j : Int)).length - i ∧ i ≤ (kidsF ns (j : Int)).length ∧ Ext w129 wu, ⟨_, 0, rfl, rfl, Nat.zero_le _, Upd.refl _ _⟩, ?_⟩
    rintro _ _ wu ⟨i, rfl, rfl, hi, xu⟩
    refine brr (fun ji => ?_) fun ji => ?_
    · have ji := of_decide_eq_true ji
      have hil : i < (kidsF ns (j : Int)).length := by omega
      obtain ⟨bk, o, hpk, hck⟩ := (hI.ext xu).at i (by rw [List.length_map]; exact hil)
      rw [List.getElem_map] at hck
      have hmk := List.getElem_mem hil
      obtain ⟨g1, g2, g3⟩ := mem_kids.1 hmk
      refine ⟨⟨by omega, by omega⟩, bk, o, hpk, _, hck, (node_hi (hi_ext Hv (Ext.thn x129 xu)) _).imp ?_⟩
      have hth : (0 : Int) ≤ ((kidsF ns (j : Int))[i] : Nat) ∧ (((kidsF ns (j : Int))[i] : Nat) : Int) < ns.length := ⟨by omega, by omega⟩
      rw [if_pos hth, decide_eq_true hth, Int.toNat_natCast]
      have hg : ns.getD (kidsF ns (j : Int))[i] ⟨0, [], 0⟩ = ns[(kidsF ns (j : Int))[i]] := by rw [List.getD_eq_getElem?_getD, List.getElem?_eq_getElem g1]; rfl
      rw [hg]
      rw [getD_at g1] at g3
      rintro e w146 ⟨p146, c146, base, rfl, o146, _, x146, _, _⟩
      refine ⟨_, _, _, _, _, _, rfl, fun b20 w20 hb20 => fill3 hb20 fun w21 hb21 wd hd => ?_⟩
      have xd : Ext wu wd := Ext.thn x146 (Ext.thn hb21.ext hd.ext)
      have next : InK .i64 ((i : Int) + 1) ∧ ∃ ml, ml < (kidsF ns (j : Int)).length - i ∧ ∃ i' : Nat, (i : Int) + 1 = i' ∧ ml = (kidsF ns (j : Int)).length - i' ∧ i' ≤ (kidsF ns (j : Int)).length ∧ Ext w129 wd := ⟨inI64 (by omega) (by omega), _, by omega, i + 1, by omega, rfl, hil, Ext.thn xu xd⟩
      refine fls rfl ⟨_, hd.ext.cell (hb21.cell 0 rfl), fls (by rw [g3]; simp) (brr (fun q0 => ?_) fun _ => next)⟩
      have q0 := of_decide_eq_true q0
      obtain ⟨bk2, o2, hpk2, hck2⟩ := (hI.ext (Ext.thn xu xd)).at (i - 1) (by rw [List.length_map]; omega)
      rw [List.getElem_map] at hck2
      have hr := kids_rise (ns := ns) (i := (j : Int)) (show i - 1 < i by omega) hil
      refine ⟨⟨by omega, by omega⟩, bk, o, hpk, _, xd.cell hck, inI64 (by omega) (by omega), ⟨by omega, by omega⟩, bk2, o2, hpk2, _, by rw [show ((i : Int) - 1).toNat = i - 1 by omega]; exact hck2, fls (by rw [decide_eq_false_iff_not]; omega) next⟩
    · have ji := of_decide_eq_false ji
      have := cntU_step ns j ns.length
      exact ⟨inI64 (by omega) (by omega), _, by omega, j + 1, by omega, rfl, hjl, by rw [this]; unfold kidsF; omega, hi_ext Hv (Ext.thn x129 xu)⟩
  · have jj := of_decide_eq_false jj
    obtain rfl : j = ns.length := by omega
    refine (count_hi Hv).imp ?_
    rintro e w175 ⟨rfl, rfl⟩
    have := cntU_all okn ns.length (Nat.le_refl _) hn0
    refine ⟨_, rfl, inI64 (by omega) (by omega), ?_, Ext.thn x22 (hi_lt Hv).2.2.1⟩
    congr 2
    rw [beq_iff_eq]
    omega
end
end Go.Proofs.Ytbnjlnbmdkbpkaa
