/-
  Histories in bytes: the statements' functions answer true, third part.
-/
import Derived.Test.YtlenmnffdbgkkaaStateLaws2
set_option maxRecDepth 10000
open Go
namespace Go.Vc
/-- Where to cut. -/
theorem cut_at (a L : Int) (hL : 9 ≤ L) (h63 : L ≤ 1000000000) : -(L - 1) < a.tmod (L - 1) ∧ a.tmod (L - 1) < L - 1 ∧ 0 ≤ (((a.tmod (L - 1)) + L) - 1).tmod (L - 1) ∧ (((a.tmod (L - 1)) + L) - 1).tmod (L - 1) < L - 1 := by
  have h1 := Int.lt_tmod_of_pos a (b := L - 1) (by omega)
  have h2 := Int.tmod_lt_of_pos a (b := L - 1) (by omega)
  exact ⟨h1, h2, Int.tmod_nonneg _ (by omega), Int.tmod_lt_of_pos _ (by omega)⟩
end Go.Vc
namespace Go.Proofs.Ytlenmnffdbgkkaa
open Go.RowKit Go.Vc
section
variable {w : World} {ok ok' : Nat → Prop} {p pm : Option Addr} {ns : List Nd} {ms : List (Int × Int)}
theorem cuts_law (hx : Nodes w ok p ns) {l : Nat} (hl : l = ns.length) (c : Nat) (hbig : ∀ n ∈ ns, n.es.length ≤ 9223372036854775807)
    (hk : Mks w ok' pm ms) {lm : Nat} (hlm : lm = ms.length) (cm : Nat) (a : Int) : Does Try.prog 6 #[.slice p l c, .slice pm lm cm, .int .i64 a] w (Holds w) := by
  subst hl hlm
  apply f6_does
  have fin : ∀ {v : World}, Ext w v → Does Try.prog 8 #[] v fun e26 w26 => ∃ b26 : Bool, e26 = .returned (.bool b26) ∧ Holds w (.returned (.bool b26)) w26 := fun hv => by
    refine awake_does.imp ?_
    rintro e w26 ⟨rfl, x26⟩
    exact ⟨_, rfl, rfl, Ext.thn hv x26⟩
  refine awake_does.imp ?_
  rintro e w16 ⟨rfl, x16⟩
  refine ⟨_, rfl, fls rfl ((small_does (hx.ext x16) rfl c hbig).imp ?_)⟩
  rintro e w19 ⟨rfl, bo, rfl, hbo⟩
  refine ⟨_, rfl, brr (fun _ => fin x16) fun j => brr (fun _ => fin x16) fun jm => ?_⟩
  have hf := hbo (by simpa using j)
  have hm := hf.mods
  have jm := of_decide_eq_false jm
  have h60 := hf.1
  refine (load_does (hx.ext x16) rfl c 0 (by omega) hm).imp ?_
  rintro e w29 ⟨x29, h29⟩
  have y29 := Ext.thn x16 x29
  rcases h29 with ⟨hno, rfl⟩ | ⟨hok, b, rfl, H⟩
  · exact ⟨_, _, rfl, tru rfl (fin y29)⟩
  have hT : (encS ns 0 ms).length ≤ 900000 := by have := hf.len 0 ms; omega
  refine ⟨_, _, rfl, fls rfl ((encode_does H hok hm (hk.ext y29) rfl cm (by omega) (fun _ => by show (encS ns 0 ms).length ≤ _; omega)).imp ?_)⟩
  rintro e w38 ⟨⟨p38, c38, rfl, k38, i38⟩, x38⟩
  have y38 := Ext.thn y29 x38
  have e0 : ((Int.toNat 0 : Nat) : Int) = 0 := rfl
  rw [e0] at k38 i38 ⊢
  refine ⟨_, _, _, _, rfl, brr (fun _ => fin y38) fun j0 => ?_⟩
  have hcode : encCode ns 0 ms = 0 := by simpa using j0
  rw [out_of hcode] at k38 i38 ⊢
  have h9 := encS_ne ns 0 ms
  obtain ⟨t1, t2, t3, t4⟩ := cut_at a (encS ns 0 ms).length (by omega) (by omega)
  generalize hL : (encS ns 0 ms).length = L at *
  generalize hq : (((a.tmod ((L : Int) - 1)) + (L : Int)) - 1).tmod ((L : Int) - 1) = q at *
  generalize a.tmod ((L : Int) - 1) = q1 at *
  have hsub : Ints .u8 w38 (fun z => w29.heap.size ≤ z) (subp p38 0 c38 1) ((encS ns 0 ms).take (1 + q).toNat) := i38.sub 0 (1 + q).toNat c38 (by omega)
  refine ⟨inI64 (by omega) (by omega), by omega, inI64 (by omega) (by omega), inI64 (by omega) (by omega), inI64 (by omega) (by omega), by omega, inI64 (by omega) (by omega), ⟨by omega, by omega⟩, ?_⟩
  refine (decode_does hsub (by rw [List.length_take, hL]; omega) (c38 - 0) (by omega) (by rw [List.length_take, hL]; omega)).imp ?_
  intro e w62 hd
  obtain ⟨rfl, x62⟩ := dec_fails hd (dec_cut hok hm hcode (by omega) (by omega)) (by decide)
  have i62 := i38.ext x62
  refine ⟨_, _, _, _, _, rfl, (copy_does i62 hL.symm c38 (by omega)).imp ?_⟩
  rintro e w68 ⟨p68, c68, rfl, o68, x68⟩
  refine ⟨_, _, _, rfl, fun b71 w71 hb71 => ?_⟩
  have hw : InK .u8 (IntKind.wrap .u8 (1 + q)) := by rw [wrap_u8]; exact ⟨by show (0 : Int) ≤ _; omega, by show _ ≤ (255 : Int); omega⟩
  obtain ⟨p72, c72, w72, r72, o72, u72⟩ := append_b (o68.ext hb71.ext) (hb71.ints [IntKind.wrap .u8 (1 + q)] rfl (by intro x hx; rw [List.mem_singleton.1 hx]; exact hw)) rfl 1 (by simp only [List.length_singleton]; omega) (Nat.le_trans x68.size hb71.ext.size)
  have x72 : Ext w62 w72 := Own.ext_of (o68.ext hb71.ext) u72 (Ext.thn x68 hb71.ext) (Nat.le_refl _)
  have i72 : Ints .u8 w72 (fun _ => True) p72 (encS ns 0 ms ++ [IntKind.wrap .u8 (1 + q)]) := o72.any (by
    intro x hx
    rcases List.mem_append.1 hx with hx | hx
    · exact i38.inK x hx
    · rw [List.mem_singleton.1 hx]; exact hw)
  refine ⟨p72, _, c72, w72, r72, (decode_does i72 (by simp) c72 o72.cap.1 (by simp; omega)).imp ?_⟩
  intro e w73 hd
  obtain ⟨rfl, x73⟩ := dec_fails hd (dec_more hok hm hcode _) (by decide)
  refine ⟨_, _, _, _, _, rfl, awake_does.imp ?_⟩
  rintro e w77 ⟨rfl, x77⟩
  exact ⟨_, rfl, tru rfl (tru rfl ⟨rfl, Ext.thn y38 (Ext.thn x62 (Ext.thn x72 (Ext.thn x73 x77)))⟩)⟩
/-- One encoding, its memory and its law. -/
theorem enc1_does {A : Nat → Prop} {b cur : Nat} (hf : FewN ns) (H : Hs w A b ns cur) (hok1 : loadOk ns cur) (hk : Mks w ok' pm ms) (hms : ms.length ≤ 30) {l : Nat} (hl : l = ms.length) (c : Nat) {R : Ending → World → Prop}
    (k : ∀ p c w', Ints .u8 w' (fun z => w.heap.size ≤ z) p (encOut ns cur ms) → Ext w w' → (encOut ns cur ms).length ≤ 1000000 → R (.returned (.tuple #[.slice p (encOut ns cur ms).length c, .int .i64 (encCode ns cur ms)])) w') :
    Does Try.prog 10 #[.pointer (some ⟨b, 0, none⟩), .slice pm l c] w R := by
  have hT := hf.len cur ms
  refine (encode_does H hok1 hf.mods hk hl c (by omega) (fun _ => by omega)).imp ?_
  rintro e w1 ⟨⟨p, c', rfl, -, i⟩, x⟩
  exact k p c' w1 i x (by unfold encOut; by_cases h : encCode ns cur ms = 0 <;> simp [h]; omega)
theorem load1_does (hf : FewN ns) (hx : Nodes w ok p ns) {l : Nat} (hl : l = ns.length) (c : Nat) (a : Int) :
    Does Try.prog 16 #[.slice p l c, .int .i64 a] w fun e w' => Ext w w' ∧ ∃ q n, e = .returned (.tuple #[.pointer q, .int .i64 n]) ∧ (n = 0 → loadOk ns a ∧ ∃ b A, q = some ⟨b, 0, none⟩ ∧ Hs w' A b ns a.toNat) := by
  have h60 := hf.1
  refine (load_does hx hl c a (by omega) hf.mods).imp ?_
  rintro e w' ⟨x, ⟨_, rfl⟩ | ⟨hok, b, rfl, H⟩⟩
  · exact ⟨x, _, _, rfl, by intro h; cases h⟩
  · exact ⟨x, _, _, rfl, fun _ => ⟨hok, b, _, rfl, H⟩⟩
theorem one_law {ok2 : Nat → Prop} {p2 : Option Addr} {ns2 : List Nd} (hx : Nodes w ok p ns) {l : Nat} (hl : l = ns.length) (c : Nat) (hbig : ∀ n ∈ ns, n.es.length ≤ 9223372036854775807)
    (hx2 : Nodes w ok2 p2 ns2) {l2 : Nat} (hl2 : l2 = ns2.length) (c2 : Nat) (hbig2 : ∀ n ∈ ns2, n.es.length ≤ 9223372036854775807)
    (hk : Mks w ok' pm ms) {lm : Nat} (hlm : lm = ms.length) (cm : Nat) : Does Try.prog 7 #[.slice p l c, .slice p2 l2 c2, .slice pm lm cm] w (Holds w) := by
  subst hl hl2 hlm
  apply f7_does
  refine awake_does.imp ?_
  rintro e w18 ⟨rfl, x18⟩
  refine ⟨_, rfl, fls rfl ((small_does (hx.ext x18) rfl c hbig).imp ?_)⟩
  rintro e w21 ⟨rfl, bo, rfl, hbo⟩
  refine ⟨_, rfl, brr (fun _ => ⟨rfl, x18⟩) fun j => ?_⟩
  refine (small_does (hx2.ext x18) rfl c2 hbig2).imp ?_
  rintro e w25 ⟨rfl, bo2, rfl, hbo2⟩
  refine ⟨_, rfl, brr (fun _ => ⟨rfl, x18⟩) fun j2 => brr (fun _ => ⟨rfl, x18⟩) fun jm => brr (fun _ => ⟨rfl, x18⟩) fun jz => brr (fun _ => ⟨rfl, x18⟩) fun jz2 => ?_⟩
  have hf := hbo (by simpa using j)
  have hf2 := hbo2 (by simpa using j2)
  have jm := of_decide_eq_false jm
  have hn : 0 < ns.length := by have : ¬ ((ns.length : Int) = 0) := by simpa using jz
                                omega
  have hn2 : 0 < ns2.length := by have : ¬ ((ns2.length : Int) = 0) := by simpa using jz2
                                  omega
  have h60 := hf.1
  have h602 := hf2.1
  refine (load1_does hf (hx.ext x18) rfl c 0).imp ?_
  rintro e w45 ⟨x45, q45, n45, rfl, h45⟩
  have y45 := Ext.thn x18 x45
  refine ⟨_, _, rfl, (load1_does hf2 (hx2.ext y45) rfl c2 0).imp ?_⟩
  rintro e w50 ⟨x50, q50, n50, rfl, h50⟩
  have y50 := Ext.thn y45 x50
  refine ⟨_, _, rfl, inI64 (by omega) (by omega), (load1_does hf (hx.ext y50) rfl c ((ns.length : Int) - 1)).imp ?_⟩
  rintro e w58 ⟨x58, q58, n58, rfl, h58⟩
  have y58 := Ext.thn y50 x58
  refine ⟨_, _, rfl, brr (fun _ => ⟨rfl, y58⟩) fun j45 => brr (fun _ => ⟨rfl, y58⟩) fun j50 => brr (fun _ => ⟨rfl, y58⟩) fun j58 => ?_⟩
  obtain ⟨ok45, b45, A45, rfl, H45⟩ := h45 (by simpa using j45)
  obtain ⟨ok50, b50, A50, rfl, H50⟩ := h50 (by simpa using j50)
  obtain ⟨ok58, b58, A58, rfl, H58⟩ := h58 (by simpa using j58)
  have ea : (((ns.length : Int) - 1).toNat : Int) = (ns.length : Int) - 1 := by omega
  have e0 : ((Int.toNat 0 : Nat) : Int) = 0 := rfl
  refine enc1_does hf (H45.ext (Ext.thn x50 x58)) (by rw [e0]; exact ok45) (hk.ext y58) (by omega) rfl cm fun p74 c74 w74 i74 x74 s74 => ?_
  rw [e0] at i74 s74 ⊢
  refine ⟨_, _, _, _, rfl, ?_⟩
  refine enc1_does hf2 (H50.ext (Ext.thn x58 x74)) (by rw [e0]; exact ok50) (hk.ext (Ext.thn y58 x74)) (by omega) rfl cm fun p80 c80 w80 i80 x80 s80 => ?_
  rw [e0] at i80 s80 ⊢
  refine ⟨_, _, _, _, rfl, ?_⟩
  have y80 := Ext.thn (Ext.thn y58 x74) x80
  refine enc1_does hf (H58.ext (Ext.thn x74 x80)) (by rw [ea]; exact ok58) (hk.ext y80) (by omega) rfl cm fun p86 c86 w86 i86 x86 s86 => ?_
  rw [ea] at i86 s86 ⊢
  refine ⟨_, _, _, _, rfl, ?_⟩
  refine enc1_does (ms := []) (ok' := fun _ => True) hf (H45.ext (Ext.thn (Ext.thn x50 x58) (Ext.thn x74 (Ext.thn x80 x86)))) (by rw [e0]; exact ok45) RS.nil (by decide) rfl 0 fun p91 c91 w91 i91 x91 s91 => ?_
  rw [e0] at i91 s91 ⊢
  have y91 := Ext.thn (Ext.thn y80 x86) x91
  refine ⟨_, _, _, _, rfl, brr (fun _ => ⟨rfl, y91⟩) fun k74 => brr (fun _ => ⟨rfl, y91⟩) fun k80 => brr (fun _ => ⟨rfl, y91⟩) fun k86 => brr (fun _ => ⟨rfl, y91⟩) fun k91 => ?_⟩
  have k74 : encCode ns 0 ms = 0 := by simpa using k74
  have k80 : encCode ns2 0 ms = 0 := by simpa using k80
  have k86 : encCode ns ((ns.length : Int) - 1) ms = 0 := by simpa using k86
  have k91 : encCode ns 0 [] = 0 := by simpa using k91
  rw [out_of k74] at i74 s74 ⊢
  rw [out_of k80] at i80 s80 ⊢
  rw [out_of k86] at i86 s86 ⊢
  rw [out_of k91] at i91 s91 ⊢
  have i74 := i74.ext (Ext.thn x80 (Ext.thn x86 x91))
  refine (same_does i74 (i80.ext (Ext.thn x86 x91)) rfl rfl c74 c80 (by omega)).imp ?_
  rintro e w110 ⟨rfl, x110⟩
  have y110 := Ext.thn y91 x110
  refine ⟨_, rfl, (samen_does (hx.ext y110) (hx2.ext y110) rfl rfl c c2 (by omega) hf.mods).imp ?_⟩
  rintro e w113 ⟨rfl, x113⟩
  have g1 : decide (encS ns 0 ms = encS ns2 0 ms) = decide (ns = ns2) := by
    rw [decide_eq_decide]
    exact ⟨fun h => (enc_inj ok45 hf.mods k74 ok50 hf2.mods k80 h).1, fun h => by rw [h]⟩
  refine ⟨_, rfl, tru (by rw [g1]; simp) ((same_does (i74.ext (Ext.thn x110 x113)) (i86.ext (Ext.thn x91 (Ext.thn x110 x113))) rfl rfl c74 c86 (by omega)).imp ?_)⟩
  rintro e w118 ⟨rfl, x118⟩
  have g2 : decide (encS ns 0 ms = encS ns ((ns.length : Int) - 1) ms) = ((ns.length : Int) == 1) := by
    show _ = decide ((ns.length : Int) = 1)
    rw [decide_eq_decide]
    exact ⟨fun h => by have := (enc_inj ok45 hf.mods k74 ok58 hf.mods k86 h).2.1; omega, fun h => by rw [show (ns.length : Int) - 1 = 0 by omega]⟩
  refine ⟨_, rfl, tru (by rw [g2]; simp) ((same_does (i74.ext (Ext.thn x110 (Ext.thn x113 x118))) (i91.ext (Ext.thn x110 (Ext.thn x113 x118))) rfl rfl c74 c91 (by omega)).imp ?_)⟩
  rintro e w127 ⟨rfl, x127⟩
  have g3 : decide (encS ns 0 ms = encS ns 0 []) = ((ms.length : Int) == 0) := by
    show _ = decide ((ms.length : Int) = 0)
    rw [decide_eq_decide]
    exact ⟨fun h => by have := (enc_inj ok45 hf.mods k74 ok45 hf.mods k91 h).2.2; rw [this]; rfl, fun h => by rw [List.length_eq_zero_iff.1 (show ms.length = 0 by omega)]⟩
  exact ⟨_, rfl, by rw [g3]; simp, Ext.thn y110 (Ext.thn x113 (Ext.thn x118 x127))⟩
end
end Go.Proofs.Ytlenmnffdbgkkaa
