/-
  Histories in bytes: the statements' functions answer true, second part.
-/
import Derived.Test.YtlenmnffdbgkkaaStateLaws
set_option maxRecDepth 10000
open Go
namespace Go.Vc
theorem dec_ok {b : List Int} (hb : FB b) (hs : b.length ≤ 1000000) {ns : List Nd} {cur : Int} {ms : List (Int × Int)} (h : decS b = (0, ns, cur, ms)) :
    loadOk ns cur ∧ Mods ns ∧ encCode ns cur ms = 0 ∧ ms.length ≤ 255 ∧ (encS ns cur ms).length ≤ 1000010 ∧ (b ≠ [] → encS ns cur ms = b) := by
  by_cases h0 : b = []
  · subst h0
    rw [Go.Proofs.Ytlenmnffdbgkkaa.dec_nil] at h
    injection h with _ h
    injection h with h1 h
    injection h with h2 h3
    subst h1 h2 h3
    exact ⟨root_ok, mods_root, root_code, by decide, by decide, fun h => (h rfl).elim⟩
  unfold decS at h
  rw [if_neg h0] at h
  match hst : stateP b, h with
  | none, h => cases h
  | some (((many, now, ns'), ms'), r), h =>
    obtain ⟨sm, -, sms, -⟩ := read_small hb hst (by omega)
    simp only at h
    by_cases hr : r = []
    case neg => rw [if_pos hr] at h; cases h
    rw [if_neg (fun h => h hr)] at h
    by_cases hc : 1 ≤ many ∧ loadOk (rootN :: ns') now ∧ encCode (rootN :: ns') now ms' = 0 ∧ encS (rootN :: ns') now ms' = b
    case neg => rw [if_neg hc] at h; cases h
    rw [if_pos hc] at h
    injection h with _ h
    injection h with h1 h
    injection h with h2 h3
    subst h1 h2 h3
    exact ⟨hc.2.1, sm, hc.2.2.1, sms, by rw [hc.2.2.2]; omega, fun _ => hc.2.2.2⟩
theorem dec_zero {b : List Int} (h : (decS b).1 = 0) : ∃ ns cur ms, decS b = (0, ns, cur, ms) := ⟨_, _, _, by rw [← h]⟩
end Go.Vc
namespace Go.Proofs.Ytlenmnffdbgkkaa
open Go.RowKit Go.Vc
section
variable {w : World}
theorem decodes_law {ok : Nat → Prop} {p : Option Addr} {b : List Int} (hx : Ints .u8 w ok p b) {l : Nat} (hl : l = b.length) (c : Nat) (hc : l ≤ c) : Does Try.prog 5 #[.slice p l c] w (Holds w) := by
  subst hl
  apply f5_does
  have hb : FB b := fun x h => hx.inK x h
  refine awake_does.imp ?_
  rintro e w11 ⟨rfl, x11⟩
  refine ⟨_, rfl, fls rfl (brr (fun _ => ⟨rfl, x11⟩) fun j => ?_)⟩
  have j := of_decide_eq_false j
  refine (decode_does (hx.ext x11) rfl c hc (by omega)).imp ?_
  rintro e w18 ⟨x18, h18⟩
  have y18 := Ext.thn x11 x18
  have hr := rdecode_does (hx.ext y18) rfl c hc (by omega)
  rcases h18 with ⟨h18, rfl⟩ | ⟨h18, g, A, q, d, rfl, H18, K18⟩
  · refine ⟨_, _, _, _, _, rfl, hr.imp ?_⟩
    rintro e w24 ⟨x24, ⟨_, rfl⟩ | ⟨h24, _⟩⟩
    · exact ⟨_, _, _, _, _, rfl, fls (by simp) (tru (by simpa using h18) (tru rfl ⟨rfl, Ext.thn y18 x24⟩))⟩
    · exact (h18 h24).elim
  refine ⟨_, _, _, _, _, rfl, hr.imp ?_⟩
  rintro e w24 ⟨x24, ⟨h24, _⟩ | ⟨_, g', A', q', d', rfl, H24, K24⟩⟩
  · exact (h24 h18).elim
  obtain ⟨ns, cur, ms, hd⟩ := dec_zero h18
  obtain ⟨hok, hm, hcode, hml, hT, hbs⟩ := dec_ok hb (by omega) hd
  rw [hd] at H18 K18 H24 K24 ⊢
  simp only at H18 K18 H24 K24 ⊢
  have hn : 0 < ns.length := hok.1
  have ea : (cur.toNat : Int) = cur := by have := hok.2.2.1; omega
  have hok' : loadOk ns (cur.toNat : Int) := by rw [ea]; exact hok
  have y24 := Ext.thn y18 x24
  refine ⟨_, _, _, _, _, rfl, fls (by simp) (fls rfl ((encode_does (H18.ext x24) hok' hm (K18.ext x24) rfl d (by omega) (fun _ => by rw [ea]; omega)).imp ?_))⟩
  rintro e w43 ⟨⟨p43, c43, rfl, k43, i43⟩, x43⟩
  rw [ea] at k43 i43 ⊢
  refine ⟨_, _, _, _, rfl, fun wd hwd => ?_⟩
  have H43 := H24.ext x43
  obtain ⟨pr, cr, hcr, hrow, hnds⟩ := H43.row
  refine ⟨fun v => Ext w43 v, hwd.ext, (nodes_does (H18.ext (Ext.thn x24 (Ext.thn x43 hwd.ext))) hn hok.2.1 hm).imp ?_⟩
  rintro e w47 ⟨p47, c47, rfl, o47, x47⟩
  have y47 := Ext.thn hwd.ext x47
  refine ⟨_, _, _, rfl, y47, g', 0, rfl, pr, _, cr, fun v hv => hv.cell hrow, (samen_does (OwnL.nodes o47) (hnds.ext y47) rfl rfl c47 cr (by have := hok.2.1; omega) hm).imp ?_⟩
  rintro e w52 ⟨rfl, x52⟩
  have y52 := Ext.thn y47 x52
  refine ⟨_, rfl, y52, tru (by simp) ((current_does (H18.ext (Ext.thn x24 (Ext.thn x43 y52))) hn).imp ?_)⟩
  rintro e w55 ⟨rfl, rfl⟩
  refine ⟨_, rfl, y52, g', 0, rfl, _, fun v hv => hv.cell H43.at1, tru (by simp) ((samem_does (K18.ext (Ext.thn x24 (Ext.thn x43 y52))) (K24.ext (Ext.thn x43 y52)) rfl rfl d d' (by omega)).imp ?_)⟩
  rintro e w65 ⟨rfl, x65⟩
  have y65 := Ext.thn y52 x65
  have Y := Ext.thn (Ext.thn y24 x43) y65
  refine ⟨_, rfl, tru (by simp) (tru (by rw [hcode]; rfl) (brr (fun _ => ⟨rfl, Y⟩) fun j2 => ?_))⟩
  have hne : b ≠ [] := by rintro rfl; simp at j2
  rw [out_of hcode, hbs hne] at i43 ⊢
  refine (same_does (hx.ext Y) (i43.ext y65) rfl rfl c c43 (by omega)).imp ?_
  rintro e w78 ⟨rfl, x78⟩
  exact ⟨_, rfl, by simp, Ext.thn Y x78⟩
end
end Go.Proofs.Ytlenmnffdbgkkaa
