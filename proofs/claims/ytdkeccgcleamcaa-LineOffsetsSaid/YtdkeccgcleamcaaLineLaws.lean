/-
  Command lines: commands compared and turned; two laws.
-/
import Derived.Test.YtdkeccgcleamcaaLineRef2
namespace Go.Vc
open Go.RowKit
theorem A_eq {a b : A} (h1 : a.kind = b.kind) (h2 : a.n = b.n) (h3 : a.off = b.off) (h4 : a.mark = b.mark) : a = b := by cases a; cases b; simp_all
theorem beqA (a b : A) : ((a.kind == b.kind) && ((a.n == b.n) && ((a.off == b.off) && ((a.mark == b.mark) && true)))) = decide (a = b) := by
  rw [Bool.eq_iff_iff, decide_eq_true_iff]
  simp only [Bool.and_true, Bool.and_eq_true, beq_iff_eq]
  exact ⟨fun ⟨h1, h2, h3, h4⟩ => A_eq h1 h2 h3 h4, fun h => by rw [h]; exact ⟨rfl, rfl, rfl, rfl⟩⟩
theorem Addrs.cell4 {w : World} {ok : Nat → Prop} {p : Option Addr} {xs : List A} (h : Addrs w ok p xs) (i : Nat) (hi : i < xs.length) :
    ∃ b o, p = some ⟨b, o, none⟩ ∧ w.cell? ⟨b, o + (i : Int).toNat * 4, none⟩ = some (.int .u8 xs[i].kind) ∧ w.cell? ⟨b, o + (i : Int).toNat * 4 + 1, none⟩ = some (.int .i64 xs[i].n) ∧ w.cell? ⟨b, o + (i : Int).toNat * 4 + 2, none⟩ = some (.int .i64 xs[i].off) ∧
      w.cell? ⟨b, o + (i : Int).toNat * 4 + 3, none⟩ = some (.int .u8 xs[i].mark) := by
  obtain ⟨b, o, hp, _, h1, h2, h3, h4, _⟩ := h.at i hi
  exact ⟨b, o, hp, h1, h2, h3, h4⟩
theorem Addrs.inK {w : World} {ok : Nat → Prop} {p : Option Addr} {xs : List A} (h : Addrs w ok p xs) (i : Nat) (hi : i < xs.length) : InK .u8 xs[i].kind ∧ InK .i64 xs[i].n ∧ InK .i64 xs[i].off ∧ InK .u8 xs[i].mark := by
  obtain ⟨b, o, hp, _, _, _, _, _, k⟩ := h.at i hi
  exact k
theorem OwnL.addrs {w : World} {base : Nat} {T : TypeId} {p : Option Addr} {c : Nat} {xs : List A} (h : OwnL AddrV w base T 4 p xs.length c xs) : Addrs w (fun g => base ≤ g ∧ g < w.heap.size) p xs := (h.rs AddrV.widens (by decide)).2
end Go.Vc
namespace Go.Proofs.Ytdkeccgcleamcaa
open Go.RowKit Go.Vc
section
variable {w : World}
theorem samecmd_does {ok ok' : Nat → Prop} {p q : Option Addr} {al bl : List A} {s1 s2 t1 t2 : ByteArray} {bg cg : Bool} (hA : Addrs w ok p al) (hB : Addrs w ok' q bl) (hla : al.length ≤ 1000) (c d : Nat) :
    Does Try.prog 12 #[.agg #[.slice p al.length c, .string s1, .bool bg, .string s2], .agg #[.slice q bl.length d, .string t1, .bool cg, .string t2]] w fun e w' =>
      e = .returned (.bool (decide (al = bl ∧ L s1 = L t1 ∧ bg = cg ∧ L s2 = L t2))) ∧ Ext w w' := by
  apply f12_does
  intro b2 w2 hb2 b3 w3 hb3
  have B2 := hb2.blk.ext hb3.ext
  have B3 := hb3.blk
  have x3 : Ext w w3 := Ext.thn hb2.ext hb3.ext
  refine ⟨_, _, _, B2.cell 0 rfl, _, _, _, B3.cell 0 rfl, brr (fun q1 => ?_) fun q1 => ?_⟩
  · have q1 : al.length ≠ bl.length := by
      intro e
      rw [e] at q1; simp at q1
    rw [decide_eq_false (fun h => q1 (by rw [h.1]))]
    exact ⟨rfl, x3⟩
  have q1 : al.length = bl.length := by have : ((al.length : Int)) = bl.length := by simpa using q1
                                        omega
  refine ⟨_, B2.cell 1 rfl, _, B3.cell 1 rfl, ?_⟩
  rw [L_eq]
  refine brr (fun q2 => ?_) fun q2 => ?_
  · have q2 := not_dec q2
    rw [decide_eq_false (fun h => q2 h.2.1)]
    exact ⟨rfl, x3⟩
  have q2 := yes_dec q2
  refine ⟨_, B2.cell 2 rfl, _, B3.cell 2 rfl, brr (fun q3 => ?_) fun q3 => ?_⟩
  · have q3 : bg ≠ cg := by simpa using q3
    rw [decide_eq_false (fun h => q3 h.2.2.1)]
    exact ⟨rfl, x3⟩
  have q3 : bg = cg := by simpa using q3
  refine ⟨_, B2.cell 3 rfl, _, B3.cell 3 rfl, ?_⟩
  rw [L_eq]
  refine brr (fun q4 => ?_) fun q4 => ?_
  · have q4 := not_dec q4
    rw [decide_eq_false (fun h => q4 h.2.2.2)]
    exact ⟨rfl, x3⟩
  have q4 := yes_dec q4
  refine ⟨fun x nl wl => ∃ i : Nat, x = i ∧ nl = al.length - i ∧ i ≤ al.length ∧ al.take i = bl.take i ∧ Ext w3 wl, ⟨_, 0, rfl, rfl, Nat.zero_le _, rfl, Upd.refl _ _⟩, ?_⟩
  rintro _ _ wl ⟨i, rfl, rfl, hi, heq, hw⟩
  refine ⟨_, _, _, (B2.ext hw).cell 0 rfl, brr (fun q5 wd hd => ?_) fun q5 => ?_⟩
  · have q5 := of_decide_eq_true q5
    have hlt : i < al.length := by omega
    have hwd := Ext.thn hw hd.ext
    have xd := Ext.thn x3 hwd
    obtain ⟨g, o, hp, h1, h2, h3, h4⟩ := (hA.ext xd).cell4 i hlt
    obtain ⟨g', o', hp', k1, k2, k3, k4⟩ := (hB.ext xd).cell4 i (by omega)
    refine ⟨_, _, _, (B2.ext hwd).cell 0 rfl, ⟨by omega, by omega⟩, g, o, hp, _, h1, _, h2, _, h3, _, h4, _, _, _, (B3.ext hwd).cell 0 rfl, ⟨by omega, by omega⟩, g', o', hp', _, k1, _, k2, _, k3, _, k4, ?_⟩
    rw [beqA]
    refine brr (fun q6 => ?_) fun q6 => ?_
    · have q6 := not_dec q6
      rw [decide_eq_false (fun h => q6 (by simp only [h.1]))]
      exact ⟨rfl, xd⟩
    · have q6 := yes_dec q6
      refine ⟨inI64 (by omega) (by omega), _, ?_, i + 1, by omega, rfl, hlt, ?_, hwd⟩
      · omega
      · rw [List.take_succ_eq_append_getElem hlt, List.take_succ_eq_append_getElem (by omega), heq, q6]
  · have q5 := of_decide_eq_false q5
    obtain rfl : i = al.length := by omega
    rw [List.take_length, q1, List.take_length] at heq
    rw [decide_eq_true ⟨heq, q2, q3, q4⟩]
    exact ⟨rfl, Ext.thn x3 hw⟩
theorem slMR : SlT Try.prog 29 64 4 32 := ⟨Try.underlying29, _, _, rfl, rfl, rfl, rfl, rfl, by decide⟩
theorem model_does {ok : Nat → Prop} {p : Option Addr} {al : List A} {s1 s2 : ByteArray} {bg : Bool} (hA : Addrs w ok p al) (hla : al.length ≤ 1000) (c : Nat) :
    Does Try.prog 13 #[.agg #[.slice p al.length c, .string s1, .bool bg, .string s2]] w fun e w' =>
      ∃ p' c', e = .returned (.agg #[.slice p' al.length c', .string s1, .bool bg, .string s2]) ∧ OwnL AddrV w' w.heap.size 64 4 p' al.length c' al ∧ Ext w w' := by
  apply f13_does
  intro b1 w1 hb1 b2 w2 hb2
  have e1 := hb1.eq
  have e2 := hb2.eq
  have s1' := hb1.size
  have s2' := hb2.size
  refine ⟨_, (hb1.blk.ext hb2.ext).cell 1 rfl, _, (hb1.blk.ext hb2.ext).cell 2 rfl, _, (hb1.blk.ext hb2.ext).cell 3 rfl, fun b3 w3 hb3 => hb3.blk.st4 rfl fun w4 B3 u4 => ?_⟩
  have e3 := hb3.eq
  have s3' := hb3.size
  have x2 : Ext w w2 := Ext.thn hb1.ext hb2.ext
  have x4 : Ext w w4 := (Ext.thn x2 hb3.ext).loc (by omega) u4
  have B1 := ((hb1.blk.ext hb2.ext).ext hb3.ext).upd u4 (by omega)
  have B2 := (hb2.blk.ext hb3.ext).upd u4 (by omega)
  have z4 := u4.size
  refine ⟨fun x nl wl => ∃ i : Nat, ∃ p' c', x = i ∧ nl = al.length - i ∧ i ≤ al.length ∧ OwnL AddrV wl w3.heap.size 64 4 p' i c' (al.take i) ∧ Blk wl b3 [.slice p' i c', .string s1, .bool bg, .string s2] ∧ Blk wl b1 [.slice p al.length c, .string s1, .bool bg, .string s2] ∧
    Blk wl b2 [.slice none 0 0, .string { data := #[] }, .bool false, .string { data := #[] }] ∧ w3.heap.size ≤ wl.heap.size ∧ Ext w wl, ⟨_, 0, none, 0, rfl, rfl, Nat.zero_le _, OwnL.nil _ _ _ _, B3, B1, B2, z4, x4⟩, ?_⟩
  rintro _ _ wl ⟨i, p', c', rfl, rfl, hi, ho, B3, B1, B2, hbs, xl⟩
  refine ⟨_, _, _, B1.cell 0 rfl, brr (fun q5 => ?_) fun q5 => ?_⟩
  · have q5 := of_decide_eq_true q5
    have hlt : i < al.length := by omega
    obtain ⟨g, o, hp, h1, h2, h3, h4⟩ := (hA.ext xl).cell4 i hlt
    obtain ⟨k1, k2, k3, k4⟩ := hA.inK i hlt
    refine ⟨_, _, _, B1.cell 0 rfl, ⟨by omega, by omega⟩, g, o, hp, _, h1, _, h2, _, h3, _, h4, fun b5 w5 hb5 => hb5.blk.st4 rfl fun w6 B5 u6 => ?_⟩
    have e5 := hb5.eq
    have x6 : Ext wl w6 := hb5.ext.loc (by omega) u6
    refine ⟨_, _, _, (B3.ext x6).cell 0 rfl, _, B5.cell 0 rfl, _, B5.cell 1 rfl, _, B5.cell 2 rfl, _, B5.cell 3 rfl, fun b36 w36 hb36 => ?_⟩
    have x36 : Ext wl w36 := Ext.thn x6 hb36.ext
    have z36 := x36.size
    have ho := ho.ext AddrV.stable AddrV.widens x36
    obtain ⟨p'', c'', w37, hrun, ho', hu, _⟩ := OwnL.append AddrV.stable AddrV.widens slMR 29 ho (b := b36) (vs := cellsA al[i]) rfl (fun j u hj => hb36.cell j hj) (by simp [cellsA, Value.oneCell']) (x := al[i]) ⟨rfl, k1, k2, k3, k4⟩ (by simp only [maxLen]; omega) (by omega) (by omega)
    have hup : ∀ g, (∃ z, p' = some z ∧ z.block = g) → w3.heap.size ≤ g := fun g ⟨z, hz, e⟩ => by have := (ho.base hz).1; omega
    have z37 := hu.size
    refine ⟨p'', _, c'', w37, hrun, ((B3.ext x36).upd hu fun e => by have := hup _ e; omega).st (by simp) fun w38 B3' u38 => ⟨inI64 (by omega) (by omega), _, ?_, i + 1, p'', c'', by omega, rfl, hlt, ?_, B3', ?_, ?_, ?_, ?_⟩⟩
    · omega
    · rw [List.take_succ_eq_append_getElem hlt]
      exact ho'.upd AddrV.stable AddrV.widens u38 fun g hg _ e => by omega
    · exact ((B1.ext x36).upd hu fun e => by have := hup _ e; omega).upd u38 (by omega)
    · exact ((B2.ext x36).upd hu fun e => by have := hup _ e; omega).upd u38 (by omega)
    · have := u38.size; omega
    · exact Upd.then (Upd.then (Ext.thn xl x36) hu fun g hg e => by have := hup g e; omega) u38 fun g hg e => by omega
  · have q5 := of_decide_eq_false q5
    obtain rfl : i = al.length := by omega
    rw [List.take_length] at ho
    refine ⟨_, _, _, B3.cell 0 rfl, _, B3.cell 1 rfl, _, B3.cell 2 rfl, _, B3.cell 3 rfl, retC B2 rfl xl (by omega) fun w' x' u' => ⟨_, _, rfl, ?_, x'⟩⟩
    have ho' := ho.upd AddrV.stable AddrV.widens u' fun g hg _ e => by omega
    obtain ⟨vss, oo, oa⟩ := ho'
    exact ⟨vss, oo.lower (by omega), oa.imp fun _ _ h => h⟩
theorem slMP : SlT Try.prog 23 55 4 32 := ⟨Try.underlying23, _, _, rfl, rfl, rfl, rfl, rfl, by decide⟩
theorem typed_does {ok : Nat → Prop} {p : Option Addr} {al : List A} {s1 s2 : ByteArray} {bg : Bool} (hA : Addrs w ok p al) (hla : al.length ≤ 1000) (c : Nat) :
    Does Try.prog 18 #[.agg #[.slice p al.length c, .string s1, .bool bg, .string s2]] w fun e w' =>
      ∃ p' c', e = .returned (.agg #[.slice p' al.length c', .string s1, .bool bg, .string s2]) ∧ OwnL AddrV w' w.heap.size 55 4 p' al.length c' al ∧ Ext w w' := by
  apply f18_does
  intro b1 w1 hb1 b2 w2 hb2
  have e1 := hb1.eq
  have e2 := hb2.eq
  have s1' := hb1.size
  have s2' := hb2.size
  refine ⟨_, (hb1.blk.ext hb2.ext).cell 1 rfl, _, (hb1.blk.ext hb2.ext).cell 2 rfl, _, (hb1.blk.ext hb2.ext).cell 3 rfl, fun b3 w3 hb3 => hb3.blk.st4 rfl fun w4 B3 u4 => ?_⟩
  have e3 := hb3.eq
  have s3' := hb3.size
  have x2 : Ext w w2 := Ext.thn hb1.ext hb2.ext
  have x4 : Ext w w4 := (Ext.thn x2 hb3.ext).loc (by omega) u4
  have B1 := ((hb1.blk.ext hb2.ext).ext hb3.ext).upd u4 (by omega)
  have B2 := (hb2.blk.ext hb3.ext).upd u4 (by omega)
  have z4 := u4.size
  refine ⟨fun x nl wl => ∃ i : Nat, ∃ p' c', x = i ∧ nl = al.length - i ∧ i ≤ al.length ∧ OwnL AddrV wl w3.heap.size 55 4 p' i c' (al.take i) ∧ Blk wl b3 [.slice p' i c', .string s1, .bool bg, .string s2] ∧ Blk wl b1 [.slice p al.length c, .string s1, .bool bg, .string s2] ∧
    Blk wl b2 [.slice none 0 0, .string { data := #[] }, .bool false, .string { data := #[] }] ∧ w3.heap.size ≤ wl.heap.size ∧ Ext w wl, ⟨_, 0, none, 0, rfl, rfl, Nat.zero_le _, OwnL.nil _ _ _ _, B3, B1, B2, z4, x4⟩, ?_⟩
  rintro _ _ wl ⟨i, p', c', rfl, rfl, hi, ho, B3, B1, B2, hbs, xl⟩
  refine ⟨_, _, _, B1.cell 0 rfl, brr (fun q5 => ?_) fun q5 => ?_⟩
  · have q5 := of_decide_eq_true q5
    have hlt : i < al.length := by omega
    obtain ⟨g, o, hp, h1, h2, h3, h4⟩ := (hA.ext xl).cell4 i hlt
    obtain ⟨k1, k2, k3, k4⟩ := hA.inK i hlt
    refine ⟨_, _, _, B1.cell 0 rfl, ⟨by omega, by omega⟩, g, o, hp, _, h1, _, h2, _, h3, _, h4, fun b5 w5 hb5 => hb5.blk.st4 rfl fun w6 B5 u6 => ?_⟩
    have e5 := hb5.eq
    have x6 : Ext wl w6 := hb5.ext.loc (by omega) u6
    refine ⟨_, _, _, (B3.ext x6).cell 0 rfl, _, B5.cell 0 rfl, _, B5.cell 1 rfl, _, B5.cell 2 rfl, _, B5.cell 3 rfl, fun b36 w36 hb36 => ?_⟩
    have x36 : Ext wl w36 := Ext.thn x6 hb36.ext
    have z36 := x36.size
    have ho := ho.ext AddrV.stable AddrV.widens x36
    obtain ⟨p'', c'', w37, hrun, ho', hu, _⟩ := OwnL.append AddrV.stable AddrV.widens slMP 23 ho (b := b36) (vs := cellsA al[i]) rfl (fun j u hj => hb36.cell j hj) (by simp [cellsA, Value.oneCell']) (x := al[i]) ⟨rfl, k1, k2, k3, k4⟩ (by simp only [maxLen]; omega) (by omega) (by omega)
    have hup : ∀ g, (∃ z, p' = some z ∧ z.block = g) → w3.heap.size ≤ g := fun g ⟨z, hz, e⟩ => by have := (ho.base hz).1; omega
    have z37 := hu.size
    refine ⟨p'', _, c'', w37, hrun, ((B3.ext x36).upd hu fun e => by have := hup _ e; omega).st (by simp) fun w38 B3' u38 => ⟨inI64 (by omega) (by omega), _, ?_, i + 1, p'', c'', by omega, rfl, hlt, ?_, B3', ?_, ?_, ?_, ?_⟩⟩
    · omega
    · rw [List.take_succ_eq_append_getElem hlt]
      exact ho'.upd AddrV.stable AddrV.widens u38 fun g hg _ e => by omega
    · exact ((B1.ext x36).upd hu fun e => by have := hup _ e; omega).upd u38 (by omega)
    · exact ((B2.ext x36).upd hu fun e => by have := hup _ e; omega).upd u38 (by omega)
    · have := u38.size; omega
    · exact Upd.then (Upd.then (Ext.thn xl x36) hu fun g hg e => by have := hup g e; omega) u38 fun g hg e => by omega
  · have q5 := of_decide_eq_false q5
    obtain rfl : i = al.length := by omega
    rw [List.take_length] at ho
    refine ⟨_, _, _, B3.cell 0 rfl, _, B3.cell 1 rfl, _, B3.cell 2 rfl, _, B3.cell 3 rfl, retC B2 rfl xl (by omega) fun w' x' u' => ⟨_, _, rfl, ?_, x'⟩⟩
    have ho' := ho.upd AddrV.stable AddrV.widens u' fun g hg _ e => by omega
    obtain ⟨vss, oo, oa⟩ := ho'
    exact ⟨vss, oo.lower (by omega), oa.imp fun _ _ h => h⟩
theorem alen (xs : List Int) : (parseC xs).al.length ≤ 2 := by
  unfold parseC
  split
  · decide
  · unfold allF
    cases hr : reachF (unb' xs) with
    | none => simp [cm0]
    | some p =>
      obtain ⟨al, r⟩ := p
      have : al.length ≤ 2 := by
        unfold reachF at hr
        split at hr
        · injection hr with hr; injection hr with h1 _; subst h1; simp
        · split at hr
          · cases hr
          · injection hr with hr; injection hr with h1 _; subst h1; simp
          · split at hr
            · split at hr
              · injection hr with hr; injection hr with h1 _; subst h1; simp
              · cases hr
            · injection hr with hr; injection hr with h1 _; subst h1; simp
      simp only
      split
      · split
        · exact this
        · decide
      · exact this
theorem parses_law (s : ByteArray) : Does Try.prog 3 #[.string s] w (Holds w) := by
  have hsz := L_len s
  apply f3_does
  refine awake_does.imp ?_
  rintro e w9 ⟨rfl, x9⟩
  refine ⟨_, rfl, fls rfl (brr (fun q => ?_) fun q => ?_)⟩
  · have q := of_decide_eq_true q
    refine (parse_does s rfl).imp ?_
    have hN : parseN (L s) = 3 := by unfold parseN; rw [if_pos (by omega)]
    rw [hN]
    rintro e w16 ⟨p, c, s1, s2, rfl, n1, n2, ho, x16⟩
    refine ⟨_, _, _, _, _, _, _, rfl, fun b3 w3 hb3 => hb3.blk.st4 rfl fun w4 B3 u4 => ⟨rfl, ?_⟩⟩
    have e3 := hb3.eq
    have z16 := x16.size
    have z9 := x9.size
    exact (Ext.thn (Ext.thn x9 x16) hb3.ext).loc (by omega) u4
  · have q := of_decide_eq_false q
    refine (parse_does s rfl).imp ?_
    rintro e w23 ⟨p, c, s1, s2, rfl, n1, n2, ho, x23⟩
    have z9 := x9.size
    have z23 := x23.size
    have la := alen (L s)
    refine ⟨_, _, _, _, _, _, _, rfl, fun b5 w5 hb5 => hb5.blk.st4 rfl fun w6 B5 u6 => ?_⟩
    have e5 := hb5.eq
    have x6 : Ext w23 w6 := hb5.ext.loc (by omega) u6
    have z6 := x6.size
    refine (rparse_does rfl).imp ?_
    rintro e w28 ⟨p', c', t1, t2, rfl, m1, m2, ho', x28⟩
    have z28 := x28.size
    refine ⟨_, _, _, _, _, _, _, rfl, fun b7 w7 hb7 => hb7.blk.st4 rfl fun w8 B7 u8 wd hd => ?_⟩
    have e7 := hb7.eq
    have x8 : Ext w28 w8 := hb7.ext.loc (by omega) u8
    have xd : Ext w28 wd := Ext.thn x8 hd.ext
    have B5 := ((B5.ext x28).ext xd)
    have B7 := B7.ext hd.ext
    refine ⟨fun v => Ext wd v, Upd.refl _ _, tru (by simp) ⟨_, _, _, B5.cell 0 rfl, _, B5.cell 1 rfl, _, B5.cell 2 rfl, _, B5.cell 3 rfl, (model_does (((ho.addrs.ext x6).ext x28).ext xd) (by omega) c).imp ?_⟩⟩
    rintro e w36 ⟨p36, c36, rfl, ho36, x36⟩
    refine ⟨_, _, _, _, _, _, rfl, x36, _, _, _, fun v hv => (B7.ext hv).cell 0 rfl, _, fun v hv => (B7.ext hv).cell 1 rfl, _, fun v hv => (B7.ext hv).cell 2 rfl, _, fun v hv => (B7.ext hv).cell 3 rfl,
      (samecmd_does ho36.addrs ((ho'.addrs.ext xd).ext x36) (by omega) c36 c').imp ?_⟩
    rintro e w38 ⟨rfl, x38⟩
    refine ⟨_, rfl, ?_, Ext.thn (Ext.thn (Ext.thn (Ext.thn (Ext.thn (Ext.thn x9 x23) x6) x28) xd) x36) x38⟩
    rw [decide_eq_true ⟨rfl, n1.trans m1.symm, rfl, n2.trans m2.symm⟩]
theorem parse_blank {xs : List Int} : ∀ k : Nat, k + xs.length ≤ 4096 → parseC (List.replicate k 32 ++ xs) = parseC xs ∧ parseN (List.replicate k 32 ++ xs) = parseN xs
  | 0, _ => by simp
  | k + 1, h => by
    obtain ⟨h1, h2⟩ := parse_blank (xs := xs) k (by omega)
    rw [← h1, ← h2]
    have hu : allF (List.replicate (k + 1) 32 ++ xs) = allF (List.replicate k 32 ++ xs) := by
      unfold allF
      rw [List.replicate_succ, List.cons_append, unb_blank]
    have hl : ∀ j, j ≤ k + 1 → ¬ (List.replicate j (32 : Int) ++ xs).length > 4096 := fun j hj => by rw [List.length_append, List.length_replicate]; omega
    unfold parseC parseN
    rw [if_neg (hl _ (Nat.le_refl _)), if_neg (hl _ (Nat.le_refl _)), if_neg (hl k (by omega)), if_neg (hl k (by omega)), hu]
    exact ⟨rfl, rfl⟩
theorem blanks_law (s : ByteArray) (n : Int) (hn : InK .u8 n) : Does Try.prog 4 #[.string s, .int .u8 n] w (Holds w) := by
  have hsz := L_len s
  have hn0 : 0 ≤ n := hn.1
  have hn1 : n ≤ 255 := hn.2
  apply f4_does
  refine awake_does.imp ?_
  rintro e w9 ⟨rfl, x9⟩
  refine ⟨_, rfl, fls rfl (brr (fun q => ⟨rfl, x9⟩) fun q => ?_)⟩
  have q := of_decide_eq_false q
  have hmod : 0 ≤ n.tmod 5 ∧ n.tmod 5 < 5 := ⟨Int.tmod_nonneg _ hn0, by have := Int.tmod_lt_of_pos n (b := 5) (by decide); exact this⟩
  refine ⟨fun t x nl wl => ∃ i : Nat, x = i ∧ nl = 5 - i ∧ i < 5 ∧ L t = List.replicate i 32 ++ L s ∧ wl = w9, ⟨_, 0, rfl, rfl, by decide, rfl, rfl⟩, ?_⟩
  rintro t _ _ wl ⟨i, rfl, rfl, hi, hlt, rfl⟩
  have htl : t.size = i + s.size := by rw [← L_len, hlt, List.length_append, List.length_replicate, L_len]
  refine ⟨inI64 (by omega) (by omega), by decide, brr (fun q1 => ?_) fun q1 => ?_⟩
  · have q1 := of_decide_eq_true q1
    refine ⟨?_, inI64 (by omega) (by omega), _, ?_, i + 1, by omega, rfl, by omega, ?_, rfl⟩
    · show ((1 + t.size : Nat) : Int) ≤ _
      omega
    · omega
    · rw [L_append, hlt, List.replicate_succ]; rfl
  · obtain ⟨hC, hN⟩ := parse_blank (xs := L s) i (by omega)
    refine (parse_does s rfl).imp ?_
    rintro e w23 ⟨p, c, s1, s2, rfl, n1, n2, ho, x23⟩
    have z9 := x9.size
    have z23 := x23.size
    have la := alen (L s)
    refine ⟨_, _, _, _, _, _, _, rfl, fun b5 w5 hb5 => hb5.blk.st4 rfl fun w6 B5 u6 => ?_⟩
    have e5 := hb5.eq
    have x6 : Ext w23 w6 := hb5.ext.loc (by omega) u6
    have z6 := x6.size
    refine (parse_does t rfl).imp ?_
    rw [hlt, hC, hN]
    rintro e w28 ⟨p', c', t1, t2, rfl, m1, m2, ho', x28⟩
    have z28 := x28.size
    refine ⟨_, _, _, _, _, _, _, rfl, fun b7 w7 hb7 => hb7.blk.st4 rfl fun w8 B7 u8 wd hd => ?_⟩
    have e7 := hb7.eq
    have x8 : Ext w28 w8 := hb7.ext.loc (by omega) u8
    have xd : Ext w28 wd := Ext.thn x8 hd.ext
    have B5 := ((B5.ext x28).ext xd)
    have B7 := B7.ext hd.ext
    refine ⟨fun v => Ext wd v, Upd.refl _ _, tru (by simp) ⟨_, _, _, B5.cell 0 rfl, _, B5.cell 1 rfl, _, B5.cell 2 rfl, _, B5.cell 3 rfl, (model_does (((ho.addrs.ext x6).ext x28).ext xd) (by omega) c).imp ?_⟩⟩
    rintro e w36 ⟨p36, c36, rfl, ho36, x36⟩
    refine ⟨_, _, _, _, _, _, rfl, x36, _, _, _, fun v hv => (B7.ext hv).cell 0 rfl, _, fun v hv => (B7.ext hv).cell 1 rfl, _, fun v hv => (B7.ext hv).cell 2 rfl, _, fun v hv => (B7.ext hv).cell 3 rfl,
      (model_does ((ho'.addrs.ext xd).ext x36) (by omega) c').imp ?_⟩
    rintro e w43 ⟨p43, c43, rfl, ho43, x43⟩
    refine ⟨_, _, _, _, _, _, rfl, (samecmd_does (ho36.addrs.ext x43) ho43.addrs (by omega) c36 c43).imp ?_⟩
    rintro e w38 ⟨rfl, x38⟩
    refine ⟨_, rfl, ?_, Ext.thn (Ext.thn (Ext.thn (Ext.thn (Ext.thn (Ext.thn (Ext.thn x9 x23) x6) x28) xd) x36) x43) x38⟩
    rw [decide_eq_true ⟨rfl, n1.trans m1.symm, rfl, n2.trans m2.symm⟩]
end
end Go.Proofs.Ytdkeccgcleamcaa
