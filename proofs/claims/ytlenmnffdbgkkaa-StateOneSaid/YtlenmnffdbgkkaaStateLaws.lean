/-
  Histories in bytes: the statements' functions answer true.
-/
import Derived.Test.YtlenmnffdbgkkaaStateSmall
set_option maxRecDepth 10000
open Go
namespace Go.Vc
theorem root_ok : loadOk [rootN] 0 := ⟨by decide, by decide, by decide, by decide, okL_root⟩
theorem root_code : encCode [rootN] 0 [] = 0 := by decide
theorem root_enc : encS [rootN] 0 [] = [0, 0, 0, 1, 0, 0, 0, 0, 0] := by decide
theorem out_of {ns : List Nd} {cur : Int} {ms : List (Int × Int)} (h : encCode ns cur ms = 0) : encOut ns cur ms = encS ns cur ms := by unfold encOut; rw [if_pos h]
end Go.Vc
namespace Go.Proofs.Ytlenmnffdbgkkaa
open Go.RowKit Go.Vc
section
variable {w : World}
/-- What a decoding that fails gives. -/
theorem dec_fails {b : List Int} {w' : World} {e : Ending} {n : Int} (h : DecR w b e w') (hd : decS b = (n, [], 0, [])) (hn : n ≠ 0) : e = .returned (.tuple #[.pointer none, .slice none 0 0, .int .i64 n]) ∧ Ext w w' := by
  obtain ⟨x, ⟨_, rfl⟩ | ⟨h0, _⟩⟩ := h
  · exact ⟨by rw [hd], x⟩
  · rw [hd] at h0; exact (hn h0).elim
theorem nil_does : Does Try.prog 10 #[.pointer none, .slice none 0 0] w fun e w' => e = .returned (.tuple #[.slice none 0 0, .int .i64 1]) ∧ w' = w := by
  apply f10_does
  exact tru rfl ⟨rfl, rfl⟩
theorem known_law : Does Try.prog 3 #[] w (Holds w) := by
  apply f3_does
  refine awake_does.imp ?_
  rintro e w15 ⟨rfl, x15⟩
  refine ⟨_, rfl, fls rfl (new_does.imp ?_)⟩
  rintro e w17 ⟨b, rfl, hM, x17⟩
  refine ⟨_, rfl, (encode_does hM.hs root_ok mods_root (ms := []) (ok := fun _ => True) RS.nil rfl 0 (by decide) (fun _ => by decide)).imp ?_⟩
  rintro e w20 ⟨⟨p20, c20, rfl, k20, i20⟩, x20⟩
  have hcode : encCode [rootN] ((0 : Nat) : Int) [] = 0 := root_code
  have hout : encOut [rootN] ((0 : Nat) : Int) [] = encS [rootN] 0 [] := out_of hcode
  rw [hout] at k20 i20 ⊢
  have hlen : (encS [rootN] 0 []).length = 9 := rfl
  rw [hlen] at k20
  have hsub : Ints .u8 w20 (fun z => w17.heap.size ≤ z) (subp p20 0 c20 1) ((encS [rootN] 0 []).take 8) := i20.sub 0 8 c20 (by omega)
  refine ⟨_, _, _, _, rfl, ⟨by decide, by omega⟩, (decode_does hsub rfl (c20 - 0) (by show 8 ≤ _; omega) (by decide)).imp ?_⟩
  intro e w26 hd
  obtain ⟨rfl, x26⟩ := dec_fails hd (dec_cut root_ok mods_root root_code (by decide) (by decide)) (by decide)
  have i26 := i20.ext x26
  refine ⟨_, _, _, _, _, rfl, (copy_does i26 rfl c20 (by decide)).imp ?_⟩
  rintro e w32 ⟨p32, c32, rfl, o32, x32⟩
  refine ⟨_, _, _, rfl, fun b33 w33 hb33 => ?_⟩
  obtain ⟨p34, c34, w34, r34, o34, u34⟩ := append_b (o32.ext hb33.ext) (hb33.ints [0] rfl (by decide)) rfl 1 (by decide) (Nat.le_trans x32.size hb33.ext.size)
  have x34 : Ext w26 w34 := Own.ext_of (o32.ext hb33.ext) u34 (Ext.thn x32 hb33.ext) (Nat.le_refl _)
  have i34 : Ints .u8 w34 (fun _ => True) p34 (encS [rootN] 0 [] ++ [0]) := o34.any (by decide)
  refine ⟨p34, _, c34, w34, r34, (decode_does i34 rfl c34 o34.cap.1 (by decide)).imp ?_⟩
  intro e w35 hd
  obtain ⟨rfl, x35⟩ := dec_fails hd (dec_more root_ok mods_root root_code 0) (by decide)
  refine ⟨_, _, _, _, _, rfl, (decode_does (w := w35) (ok := fun _ => True) (p := none) (b := []) RS.nil rfl 0 (by decide) (by decide)).imp ?_⟩
  rintro e w40 ⟨x40, hd⟩
  rw [dec_nil] at hd
  rcases hd with ⟨hd, _⟩ | ⟨-, g, A, p, c, rfl, H40, K40⟩
  · exact (hd rfl).elim
  refine ⟨_, _, _, _, _, rfl, nil_does.imp ?_⟩
  rintro e w45 ⟨rfl, rfl⟩
  refine ⟨_, _, _, _, rfl, tru rfl fun b52 w52 hb52 => ?_⟩
  have X := Ext.thn (Ext.thn x34 (Ext.thn x35 x40)) hb52.ext
  refine (same_does (i26.ext X) (hb52.ints [0, 0, 0, 1, 0, 0, 0, 0, 0] rfl (by decide)) rfl rfl c20 9 (by decide)).imp ?_
  rintro e w53 ⟨rfl, x53⟩
  have H53 := (H40.ext hb52.ext).ext x53
  refine ⟨_, rfl, tru (by rw [root_enc]; rfl) (tru rfl (tru rfl (tru rfl (tru rfl ((count_does H53 (by decide)).imp ?_)))))⟩
  rintro e w73 ⟨rfl, rfl⟩
  exact ⟨_, rfl, tru rfl (tru rfl ⟨rfl, Ext.thn (Ext.thn (Ext.thn x15 x17) x20) (Ext.thn x26 (Ext.thn X x53))⟩)⟩
theorem encodes_law {ok ok' : Nat → Prop} {p pm : Option Addr} {ns : List Nd} {ms : List (Int × Int)} (hx : Nodes w ok p ns) {l : Nat} (hl : l = ns.length) (c : Nat) (hbig : ∀ n ∈ ns, n.es.length ≤ 9223372036854775807) (a : Int) (ha : InK .i64 a)
    (hk : Mks w ok' pm ms) {lm : Nat} (hlm : lm = ms.length) (cm : Nat) : Does Try.prog 4 #[.slice p l c, .int .i64 a, .slice pm lm cm] w (Holds w) := by
  subst hl hlm
  apply f4_does
  refine awake_does.imp ?_
  rintro e w17 ⟨rfl, x17⟩
  refine ⟨_, rfl, fls rfl ((small_does (hx.ext x17) rfl c hbig).imp ?_)⟩
  rintro e w20 ⟨rfl, bo, rfl, hbo⟩
  refine ⟨_, rfl, brr (fun _ => ⟨rfl, x17⟩) fun j => brr (fun _ => ⟨rfl, x17⟩) fun jm => ?_⟩
  have hf := hbo (by simpa using j)
  have hm := hf.mods
  have jm := of_decide_eq_false jm
  have h60 := hf.1
  refine (load_does (hx.ext x17) rfl c a (by omega) hm).imp ?_
  rintro e w30 ⟨x30, h30⟩
  have y30 := Ext.thn x17 x30
  have hr := rload_does (hx.ext y30) rfl c a ha (by omega) hm
  rcases h30 with ⟨hno, rfl⟩ | ⟨hok, b, rfl, H⟩
  · refine ⟨_, _, rfl, hr.imp ?_⟩
    rintro e w36 ⟨x36, ⟨_, rfl⟩ | ⟨hok, _⟩⟩
    · exact ⟨_, _, rfl, tru rfl ⟨rfl, Ext.thn y30 x36⟩⟩
    · exact (hno hok).elim
  refine ⟨_, _, rfl, hr.imp ?_⟩
  rintro e w36 ⟨x36, ⟨hno, _⟩ | ⟨_, m, rfl, M⟩⟩
  · exact (hno hok).elim
  have y36 := Ext.thn y30 x36
  have ea : (a.toNat : Int) = a := by have := hok.2.2.1; omega
  have hok' : loadOk ns (a.toNat : Int) := by rw [ea]; exact hok
  have hT : (encS ns a ms).length ≤ 1000000 := by have := hf.len a ms; omega
  refine ⟨_, _, rfl, fls rfl (fls rfl ((encode_does (H.ext x36) hok' hm (hk.ext y36) rfl cm (by omega) (fun _ => by rw [ea]; omega)).imp ?_))⟩
  rintro e w51 ⟨⟨p51, c51, rfl, k51, i51⟩, x51⟩
  rw [ea] at k51 i51 ⊢
  have y51 := Ext.thn y36 x51
  refine ⟨_, _, _, _, rfl, (rencode_does (M.hs.ext x51) hok' hm (hk.ext y51) rfl cm (by rw [ea]; omega)).imp ?_⟩
  rintro e w57 ⟨⟨p57, c57, rfl, k57, i57⟩, x57⟩
  rw [ea] at k57 i57 ⊢
  have y57 := Ext.thn y51 x57
  have hO : (encOut ns a ms).length ≤ 1000000 := by unfold encOut; by_cases h : encCode ns a ms = 0 <;> simp [h, hT]
  refine ⟨_, _, _, _, rfl, fls (by simp) ((same_does (i51.ext x57) i57 rfl rfl c51 c57 (by omega)).imp ?_)⟩
  rintro e w66 ⟨rfl, x66⟩
  refine ⟨_, rfl, fls (by simp) (brr (fun _ => ⟨rfl, Ext.thn y57 x66⟩) fun j0 => ?_)⟩
  have hcode : encCode ns a ms = 0 := by simpa using j0
  rw [out_of hcode] at i51 k51 hO ⊢
  refine (decode_does (i51.ext (Ext.thn x57 x66)) rfl c51 k51 hO).imp ?_
  rintro e w73 ⟨x73, hd⟩
  rw [dec_enc hok hm hcode] at hd
  rcases hd with ⟨hd, _⟩ | ⟨-, g, A, pp, cc, rfl, H73, K73⟩
  · exact (hd rfl).elim
  have y73 := Ext.thn (Ext.thn y57 x66) x73
  have hn : 0 < ns.length := hok.1
  refine ⟨_, _, _, _, _, rfl, tru rfl ((nodes_does H73 hn hok.2.1 hm).imp ?_)⟩
  rintro e w81 ⟨p81, c81, rfl, o81, x81⟩
  have y81 := Ext.thn y73 x81
  refine ⟨_, _, _, rfl, (samen_does (OwnL.nodes o81) (hx.ext y81) rfl rfl c81 c (by show ns.length ≤ _; omega) hm).imp ?_⟩
  rintro e w83 ⟨rfl, x83⟩
  refine ⟨_, rfl, tru (by simp) ((current_does (H73.ext (Ext.thn x81 x83)) hn).imp ?_)⟩
  rintro e w87 ⟨rfl, rfl⟩
  refine ⟨_, rfl, tru (by simpa using ea) ((samem_does (K73.ext (Ext.thn x81 x83)) (hk.ext (Ext.thn y81 x83)) rfl rfl cc cm (by show ms.length ≤ _; omega)).imp ?_)⟩
  rintro e w94 ⟨rfl, x94⟩
  exact ⟨_, rfl, by simp, Ext.thn (Ext.thn y81 x83) x94⟩
end
end Go.Proofs.Ytlenmnffdbgkkaa
