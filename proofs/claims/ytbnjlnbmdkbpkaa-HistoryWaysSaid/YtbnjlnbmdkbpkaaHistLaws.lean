/-
  Histories: the statements' functions answer true: loading.
-/
import Derived.Test.YtbnjlnbmdkbpkaaHistCalls4
namespace Go.Vc
theorem okL_root : okL [rootN] := fun i h => by
  have : i = 0 := by simpa using h
  subst this
  unfold mayN
  rw [if_pos (by rfl)]
  exact ⟨rfl, rfl, rfl⟩
end Go.Vc
namespace Go.Proofs.Ytbnjlnbmdkbpkaa
open Go.RowKit Go.Vc
theorem okL_add {ns : List Nd} (h : okL ns) {cur : Nat} (hc : cur < ns.length) {es : List E} {cu : Int} (ha : addOk ns es cu) : okL (ns ++ [newN cur es cu]) := fun i hi => by
  rcases Nat.lt_or_ge i ns.length with h' | h'
  · rw [List.getElem_append_left h']; exact h i h'
  · have : i = ns.length := by simp at hi; omega
    subst this
    rw [List.getElem_append_right (Nat.le_refl _)]
    simp only [Nat.sub_self, List.getElem_cons_zero]
    unfold mayN
    rw [if_neg (by omega)]
    exact ⟨by show (0 : Int) ≤ (cur : Int); omega, by show (cur : Int) < _; omega, ha.1, ha.2.1⟩
theorem mods_add {ns : List Nd} (h : Mods ns) {cur : Nat} {es : List E} {cu : Int} (hm : Mod es) : Mods (ns ++ [newN cur es cu]) := fun n hn => by
  rcases List.mem_append.1 hn with hn | hn
  · exact h n hn
  · rw [List.mem_singleton.1 hn]; exact hm
theorem mods_root : Mods [rootN] := fun n hn => by rw [List.mem_singleton.1 hn]; exact ⟨by decide, fun e he => by cases he⟩
/-- An edit of the examples. -/
def xE (n : Int) : E := ⟨n, [], [97 + n]⟩
theorem mod_x {n : Int} : Mod [xE n] := ⟨by simp, fun e he => by rw [List.mem_singleton.1 he]; exact ⟨Nat.zero_le _, by show 1 ≤ _; omega⟩⟩
section
variable {w : World}
theorem x_does (n : Int) (h0 : 0 ≤ n) (h1 : n ≤ 25) : Does Try.prog 17 #[.int .i64 n] w fun e w' => ∃ b7, e = .returned (.agg #[.int .i64 n, .slice none 0 0, .slice (some ⟨b7, 0, none⟩) 1 1]) ∧ Ints .u8 w' (fun g => w.heap.size ≤ g) (some ⟨b7, 0, none⟩) [97 + n] ∧ Ext w w' := by
  apply f17_does
  intro b2 w2 h2
  refine ⟨inI64 (by omega) (by omega), fun b7 w7 h7 => ?_⟩
  have hk : InK .u8 (97 + n) := ⟨by show (0 : Int) ≤ 97 + n; omega, by show 97 + n ≤ (255 : Int); omega⟩
  rw [wrap_in hk] at h7
  have hne : b2 ≠ b7 := by have := h7.eq; have := h2.lt; omega
  have e2 := h2.eq
  have e7 := h7.eq
  have s2 := h2.size
  have c : ∀ j, j < 3 → CanStore w7 b2 j := fun j hj => h7.ext.can (h2.can j hj)
  refine ⟨c 0 (by omega), fun v1 s1 => ⟨s1.can (c 1 (by omega)), fun v2 t2 => ⟨t2.can (s1.can (c 2 (by omega))), fun v3 s3 => ?_⟩⟩⟩
  have d0 : v3.cell? ⟨b2, 0, none⟩ = _ := (s3.other (.inr (by decide))).trans ((t2.other (.inr (by decide))).trans (s1.cell (c 0 (by omega))))
  have d1 : v3.cell? ⟨b2, 1, none⟩ = _ := (s3.other (.inr (by decide))).trans (t2.cell (s1.can (c 1 (by omega))))
  have d2 : v3.cell? ⟨b2, 2, none⟩ = _ := s3.cell (t2.can (s1.can (c 2 (by omega))))
  have u : Upd (fun k => k = b2) w7 v3 := Upd.then (Upd.then s1.upd t2.upd fun k _ e => e) s3.upd fun k _ e => e
  refine ⟨_, d0, _, _, _, d1, _, _, _, d2, b7, rfl, ?_, Upd.then (Ext.thn h2.ext h7.ext) u fun k hk e => by omega⟩
  have hI : Ints .u8 w7 (fun g => g = b7) (some ⟨b7, 0, none⟩) [97 + n] := h7.ints [97 + n] rfl (by simpa using hk)
  exact (hI.upd u fun k e e' => hne (e'.symm.trans e)).ok fun k _ e => by rw [e, e7]; omega
theorem xrow {w w' : World} {n : Int} {b7 b16 : Nat} {T : TypeId} {base : Nat} (hI : Ints .u8 w (fun g => base ≤ g) (some ⟨b7, 0, none⟩) [97 + n]) (hn : InK .i64 n) (hb : NewBlk w b16 [.int .i64 n, .slice none 0 0, .slice (some ⟨b7, 0, none⟩) 1 1] T w') : Edits w' (fun _ => True) (some ⟨b16, 0, none⟩) [xE n] :=
  hb.rs1 trivial ⟨none, 0, some ⟨b7, 0, none⟩, 1, rfl, hn, Nat.le_refl _, RS.nil, Nat.le_refl _, (hI.ext hb.ext).any⟩
theorem awake_does : Does Try.prog 8 #[] w fun e w' => e = .returned (.bool true) ∧ Ext w w' := by
  apply f8_does
  refine new_does.imp ?_
  rintro e w10 ⟨b, rfl, hM, x10⟩
  refine ⟨_, rfl, fls rfl ((x_does 1 (by decide) (by decide)).imp ?_)⟩
  rintro e w15 ⟨b7, rfl, hI, x15⟩
  refine ⟨_, _, _, _, _, _, _, rfl, fun b16 w16 hb16 => ?_⟩
  have H16 := (hM.hs.ext x15).ext hb16.ext
  refine (add_does H16 (by decide) (by decide) (by decide) (xrow hI (by decide) hb16) rfl 1 mod_x 0 (by decide)).imp ?_
  rintro e w17 (⟨hno, _⟩ | ⟨hok, rfl, u17, H17⟩)
  · exact (hno ⟨by simp, by decide, by decide⟩).elim
  have ok2 := okL_add (cur := 0) okL_root (by decide) hok
  have md2 := mods_add (cur := 0) (cu := 0) mods_root (mod_x (n := 1))
  refine ⟨_, _, rfl, (undo_does keeps_hs H17 (by decide) md2 ok2 (by decide) (by decide)).imp ?_⟩
  rintro e w22 ⟨⟨p22, c22, base22, rfl, o22, hb22, u22⟩, H22⟩
  refine ⟨_, _, _, _, _, rfl, (redo_does keeps_hs H22 (by decide) md2 ok2 (by decide)).imp ?_⟩
  rintro e w28 ⟨⟨p28, c28, base28, rfl, o28, hb28, u28⟩, H28⟩
  have hbl : b < w17.heap.size := H17.lt b H17.mem
  have hE : Edits w28 (fun g => base22 ≤ g ∧ g < w22.heap.size) p22 (undoE ([rootN] ++ [newN 0 [xE 1] 0]) 1) := (OwnL.edits o22).upd u28 fun k hk e => by have := hk.1; omega
  obtain ⟨bb, o, q1, d1, q2, d2, hq, _, _, e1, _⟩ := hE.at 0 (by decide)
  have hsz := x10.size
  have hA : w.heap.size ≤ b := hM.mem.1
  have ext : ∀ {v v' : World}, Ext w v → Upd (fun k => k = b) v v' → Ext w v' := fun h1 h2 => Upd.then h1 h2 fun k hk e => by omega
  refine ⟨_, _, _, _, _, rfl, tru rfl (tru rfl (tru rfl (tru rfl (tru rfl ⟨by decide, bb, o, hq, _, _, _, e1, tru rfl (tru rfl (tru rfl (tru rfl ((current_does H28 (by decide)).imp ?_))))⟩))))⟩
  rintro e w72 ⟨rfl, rfl⟩
  exact ⟨_, rfl, rfl, ext (ext (ext (Ext.thn x10 (Ext.thn x15 hb16.ext)) u17) u22) u28⟩
variable {ok : Nat → Prop} {p : Option Addr} {ns : List Nd}
theorem few_does (hx : Nodes w ok p ns) {l : Nat} (hl : l = ns.length) (c : Nat) (hbig : ∀ n ∈ ns, n.es.length ≤ 9223372036854775807) : Does Try.prog 9 #[.slice p l c] w fun e w' => w' = w ∧ ∃ b, e = .returned (.bool b) ∧ (b = true → ns.length ≤ 60 ∧ ∀ n ∈ ns, n.es.length ≤ 10 ∧ ∀ e ∈ n.es, e.old.length ≤ 300 ∧ e.new.length ≤ 300) := by
  subst hl
  apply f9_does
  refine brr (fun _ => ⟨rfl, false, rfl, by simp⟩) fun j => ?_
  have j := of_decide_eq_false j
  refine ⟨fun i n wl => ∃ k : Nat, i = k ∧ n = ns.length - k ∧ k ≤ ns.length ∧ (∀ n ∈ ns.take k, n.es.length ≤ 10 ∧ ∀ e ∈ n.es, e.old.length ≤ 300 ∧ e.new.length ≤ 300) ∧ wl = w, ⟨_, 0, rfl, rfl, Nat.zero_le _, by simp, rfl⟩, ?_⟩
  rintro _ n wl ⟨k, rfl, rfl, hk, hall, rfl⟩
  refine brr (fun jj => ?_) fun jj => ?_
  · have jj := of_decide_eq_true jj
    have hlt : k < ns.length := by omega
    obtain ⟨bb, o, p1, c1, hp, _, a1, a2, a3, i1, i2, i3, a4⟩ := hx.at k hlt
    refine ⟨⟨by omega, by omega⟩, bb, o, hp, _, _, _, a2, ?_⟩
    refine (room_does a4 rfl c1 10 (hbig _ (List.getElem_mem hlt))).imp ?_
    rintro e w18 ⟨rfl, bo, rfl, hbo⟩
    refine ⟨_, rfl, brr (fun _ => ⟨rfl, false, rfl, by simp⟩) fun h1 => ⟨inI64 (by omega) (by omega), _, by omega, k + 1, by omega, rfl, hlt, ?_, rfl⟩⟩
    have hbo := hbo (by simpa using h1)
    rw [List.take_succ_eq_append_getElem hlt]
    intro e hm
    simp only [List.mem_append, List.mem_singleton] at hm
    rcases hm with hm | rfl
    · exact hall e hm
    · exact ⟨by omega, hbo.2⟩
  · have jj := of_decide_eq_false jj
    obtain rfl : k = ns.length := by omega
    exact ⟨rfl, true, rfl, fun _ => ⟨by omega, by simpa using hall⟩⟩
theorem loads_law (hx : Nodes w ok p ns) {l : Nat} (hl : l = ns.length) (c : Nat) (hbig : ∀ n ∈ ns, n.es.length ≤ 9223372036854775807) (a : Int) (ha : InK .i64 a) : Does Try.prog 3 #[.slice p l c, .int .i64 a] w (Holds w) := by
  subst hl
  apply f3_does
  refine awake_does.imp ?_
  rintro e w11 ⟨rfl, x11⟩
  refine ⟨_, rfl, fls rfl ((few_does (hx.ext x11) rfl c hbig).imp ?_)⟩
  rintro e w14 ⟨rfl, bo, rfl, hbo⟩
  refine ⟨_, rfl, brr (fun _ => ⟨rfl, x11⟩) fun j => ?_⟩
  obtain ⟨h60, hsm⟩ := hbo (by simpa using j)
  have hm : Mods ns := fun n hn => ⟨by have := (hsm n hn).1; omega, fun e he => by have := (hsm n hn).2 e he; omega⟩
  refine (load_does (hx.ext x11) rfl c a (by omega) hm).imp ?_
  rintro e w19 ⟨x19, h19⟩
  have y19 := Ext.thn x11 x19
  have hr := rload_does (hx.ext y19) rfl c a ha (by omega) hm
  rcases h19 with ⟨hno, rfl⟩ | ⟨hok, b, rfl, H⟩
  · refine ⟨_, _, rfl, hr.imp ?_⟩
    rintro e w25 ⟨x25, ⟨_, rfl⟩ | ⟨hok, _⟩⟩
    · exact ⟨_, _, rfl, fls rfl (tru rfl ⟨rfl, Ext.thn y19 x25⟩)⟩
    · exact (hno hok).elim
  refine ⟨_, _, rfl, hr.imp ?_⟩
  rintro e w25 ⟨x25, ⟨hno, _⟩ | ⟨_, m, rfl, M⟩⟩
  · exact (hno hok).elim
  have hn : 0 < ns.length := hok.1
  have H25 := H.ext x25
  refine ⟨_, _, rfl, fls rfl (fls rfl ((nodes_does H25 hn hok.2.1 hm).imp ?_))⟩
  rintro e w37 ⟨p37, c37, rfl, o37, x37⟩
  refine ⟨_, _, _, rfl, (current_does (H25.ext x37) hn).imp ?_⟩
  rintro e w39 ⟨rfl, rfl⟩
  have ea : (a.toNat : Int) = a := by have := hok.2.2.1; omega
  refine ⟨_, rfl, (load_does (OwnL.nodes o37) rfl c37 (a.toNat : Int) (by omega) hm).imp ?_⟩
  rintro e w40 ⟨x40, ⟨hno, _⟩ | ⟨_, g, rfl, G⟩⟩
  · exact (hno (by rw [ea]; exact hok)).elim
  rw [Int.toNat_natCast] at G
  refine ⟨_, _, rfl, fun wd hd => ⟨fun v => Ext wd v, Upd.refl _ _, tru rfl ((nodes_does (H25.ext (Ext.thn x37 (Ext.thn x40 hd.ext))) hn hok.2.1 hm).imp ?_)⟩⟩
  rintro e w47 ⟨p47, c47, rfl, o47, x47⟩
  have Md := M.ext (Ext.thn x37 (Ext.thn x40 hd.ext))
  obtain ⟨q, d, m1, m2, m3⟩ := Md.hs.row
  refine ⟨_, _, _, rfl, x47, m, 0, rfl, _, _, _, fun v hv => hv.cell m2, (samen_does (OwnL.nodes o47) (m3.ext x47) rfl rfl _ _ (by omega) hm).imp ?_⟩
  rintro e w52 ⟨rfl, x52⟩
  have z52 := Ext.thn x37 (Ext.thn x40 (Ext.thn hd.ext (Ext.thn x47 x52)))
  refine ⟨_, rfl, Ext.thn x47 x52, tru (by simp) ((current_does (H25.ext z52) hn).imp ?_)⟩
  rintro e w56 ⟨rfl, rfl⟩
  refine ⟨_, rfl, Ext.thn x47 x52, m, 0, rfl, _, fun v hv => hv.cell Md.at1, tru (by simp) ((nodes_does (G.ext (Ext.thn hd.ext (Ext.thn x47 x52))) hn hok.2.1 hm).imp ?_)⟩
  rintro e w65 ⟨p65, c65, rfl, o65, x65⟩
  have y65 := Ext.thn (Ext.thn y19 (Ext.thn x25 z52)) x65
  refine ⟨_, _, _, rfl, (samen_does (OwnL.nodes o65) (hx.ext y65) rfl rfl _ _ (by omega) hm).imp ?_⟩
  rintro e w67 ⟨rfl, x67⟩
  refine ⟨_, rfl, tru (by simp) ((current_does (G.ext (Ext.thn hd.ext (Ext.thn x47 (Ext.thn x52 (Ext.thn x65 x67))))) hn).imp ?_)⟩
  rintro e w71 ⟨rfl, rfl⟩
  exact ⟨_, rfl, by simp [ea], Ext.thn y65 x67⟩
end
end Go.Proofs.Ytbnjlnbmdkbpkaa
