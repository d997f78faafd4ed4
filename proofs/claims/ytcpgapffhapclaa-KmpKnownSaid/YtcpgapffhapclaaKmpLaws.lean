/-
  Patterns in bytes: the statements' functions answer true.
-/
import Derived.Test.YtcpgapffhapclaaKmpCalls3
namespace Go.Proofs.Ytcpgapffhapclaa
open Go.RowKit Go.Vc
theorem ends_inK {ps t : List Int} {b : Nat} (h : t.length ≤ 1000000000) (h2 : ps.length ≤ 1000000000) : ∀ x ∈ endsE ps t b t.length, InK .i64 x := fun x hx => by
  unfold endsE at hx
  obtain ⟨a, ha, rfl⟩ := List.mem_map.1 hx
  have := (occN_mem.1 (List.mem_filter.1 ha).1).1
  exact inI64 (by omega) (by omega)
theorem Fnd.mono {w : World} {O O' : Nat → Prop} {g : Nat} {ps s : List Int} (h : Fnd w O g ps s) (hO : ∀ k, O k → O' k) : Fnd w O' g ps s := by
  obtain ⟨h1, h2, h3, h4, h5, p, q, l, c, m, d, fl, k, c0, c1, c2, c3, hl, ip, hm, iq, r⟩ := h
  exact ⟨hO _ h1, h2, h3, h4, h5, p, q, l, c, m, d, fl, k, c0, c1, c2, c3, hl, ip.ok fun k _ hk => ⟨hO k hk.1, hk.2⟩, hm, iq.ok fun k _ hk => ⟨hO k hk.1, hk.2⟩, r⟩
/-- A finder of a pattern that is not empty. -/
theorem new_some {w : World} {ok : Nat → Prop} {p : Option Addr} {ps : List Int} (hp : Ints .u8 w ok p ps) {l : Nat} (hl : l = ps.length) (c : Nat) (h1 : 0 < ps.length) (h2 : ps.length ≤ 4096) :
    Does Try.prog 16 #[.slice p l c] w fun e w' => Ext w w' ∧ ∃ g, e = .returned (.tuple #[.pointer (some ⟨g, 0, none⟩), .int .i64 0]) ∧ Fnd w' (fun k => w.heap.size ≤ k ∧ k < w'.heap.size) g ps [] :=
  (new_does hp hl c (by omega)).imp fun e w' ⟨h3, h4⟩ => ⟨h3, by
    rcases h4 with ⟨h4, _⟩ | ⟨_, h4⟩
    · omega
    · exact h4⟩
theorem awake_does {w : World} : Does Try.prog 8 #[] w fun e w' => e = .returned (.bool true) ∧ Ext w w' := by
  apply f8_does
  intro b5 w5 n5
  obtain ⟨w6, r6, x6, i6, _⟩ := conv_const Try.underlying22 Try.underlying5 n5 2 2 (xs := [97, 97]) rfl (by decide)
  refine ⟨_, _, _, w6, r6, (new_some i6 rfl 2 (by decide) (by decide)).imp ?_⟩
  rintro e w7 ⟨x7, g, rfl, hf⟩
  have y7 := Ext.thn x6 x7
  refine ⟨_, _, rfl, fls rfl (fls rfl fun b17 w17 n17 => ?_)⟩
  obtain ⟨w18, r18, x18, i18, _⟩ := conv_const Try.underlying22 Try.underlying5 n17 2 2 (xs := [97, 97]) rfl (by decide)
  have y18 := Ext.thn y7 x18
  have e17 := n17.eq
  have s7 := y7.size
  have s18 := x18.size
  have hgl : g < w7.heap.size := hf.1.2
  have hgw : w.heap.size ≤ g := by have := hf.1.1; have := x6.size; omega
  refine ⟨_, _, _, w18, r18, (feed_does (hf.ext x18) (fun k hk => by omega) i18 (fun k hk e => by omega) rfl 2 (by decide)).imp ?_⟩
  rintro e w19 ⟨p19, l19, c19, rfl, r19, hf19, u19⟩
  have y19 : Ext w w19 := Upd.then y18 u19 fun i hi h => by omega
  obtain ⟨hl19, i19⟩ := r19.ints (by decide)
  have hE : endsE [97, 97] ([] ++ [97, 97]) (([] : List Int).length) (([] : List Int) ++ [97, 97]).length = [2] := by decide
  rw [hE] at hl19 i19
  subst hl19
  obtain ⟨b, o, hp, hc⟩ := i19.at 0 (by decide)
  refine ⟨_, _, _, rfl, tru rfl ⟨⟨by decide, by decide⟩, b, o, hp, _, hc, tru rfl fun b30 w30 n30 => ?_⟩⟩
  obtain ⟨w31, r31, x31, i31, _⟩ := conv_const Try.underlying22 Try.underlying5 n30 3 3 (xs := [97, 97, 97]) rfl (by decide)
  refine ⟨_, _, _, w31, r31, fun b32 w32 n32 => ?_⟩
  obtain ⟨w33, r33, x33, i33, _⟩ := conv_const Try.underlying22 Try.underlying5 n32 2 2 (xs := [97, 97]) rfl (by decide)
  refine ⟨_, _, _, w33, r33, (first_does (i31.ext x33) i33 rfl rfl 3 2 (by decide) (by decide) (by decide) 1).imp ?_⟩
  rintro e w34 ⟨rfl, x34⟩
  exact ⟨_, rfl, rfl, Ext.thn (Ext.thn (Ext.thn y19 x31) x33) x34⟩
theorem fails_law {w : World} {ok : Nat → Prop} {p : Option Addr} {ps : List Int} (hp : Ints .u8 w ok p ps) {l : Nat} (hl : l = ps.length) (c : Nat) (hlc : l ≤ c) : Does Try.prog 3 #[.slice p l c] w (Holds w) := by
  subst hl
  apply f3_does
  refine awake_does.imp ?_
  rintro e w3 ⟨rfl, x3⟩
  refine ⟨_, rfl, fls rfl ⟨fun _ => ⟨rfl, x3⟩, fun h => ?_⟩⟩
  have h := of_decide_eq_false h
  refine (fail_does (hp.ext x3) rfl c hlc (by omega)).imp ?_
  rintro e w9 ⟨p9, l9, c9, fl, rfl, r9, hfok, hfl, x9⟩
  obtain ⟨hl9, i9⟩ := r9.ints (fails_inK hfok (by omega))
  refine ⟨_, _, _, rfl, (rfail_does ((hp.ext x3).ext x9) rfl c hlc (by omega)).imp ?_⟩
  rintro e w11 ⟨p11, l11, c11, fl', rfl, r11, hfok', hfl', x11⟩
  obtain ⟨hl11, i11⟩ := r11.ints (fails_inK hfok' (by omega))
  refine ⟨_, _, _, rfl, (ints_does (i9.ext x11) i11 hl9 hl11 c9 c11 (by omega)).imp ?_⟩
  rintro e w12 ⟨rfl, x12⟩
  refine ⟨_, rfl, ?_, Ext.thn (Ext.thn (Ext.thn x3 x9) x11) x12⟩
  rw [hfok.eq hfok' (by omega), decide_eq_true rfl]
theorem finds_law {w : World} {ok ok' : Nat → Prop} {p q : Option Addr} {ps xs : List Int} (hp : Ints .u8 w ok p ps) (hx : Ints .u8 w ok' q xs) {l m : Nat} (hl : l = ps.length) (hm : m = xs.length) (c d : Nat) (hlc : l ≤ c) (hmd : m ≤ d) (at_ : Int) (hat : InK .i64 at_) :
    Does Try.prog 4 #[.slice p l c, .slice q m d, .int .i64 at_] w (Holds w) := by
  subst hl hm
  apply f4_does
  refine awake_does.imp ?_
  rintro e w7 ⟨rfl, x7⟩
  refine ⟨_, rfl, fls rfl ⟨fun _ => ⟨rfl, x7⟩, fun h => ⟨fun _ => ⟨rfl, x7⟩, fun h2 => ?_⟩⟩⟩
  have h := of_decide_eq_false h
  have h2 := of_decide_eq_false h2
  refine (first_does (hx.ext x7) (hp.ext x7) rfl rfl d c hlc (by omega) (by omega) at_).imp ?_
  rintro e w20 ⟨rfl, x20⟩
  have y20 := Ext.thn x7 x20
  refine ⟨_, rfl, (rfirst_does (hx.ext y20) (hp.ext y20) rfl rfl d c hmd (by omega) (by omega) at_).imp ?_⟩
  rintro e w24 ⟨rfl, x24⟩
  have y24 := Ext.thn y20 x24
  refine ⟨_, rfl, tru (by simp) ((last_does (hx.ext y24) (hp.ext y24) rfl rfl d c hlc (by omega) (by omega) at_).imp ?_)⟩
  rintro e w30 ⟨rfl, x30⟩
  have y30 := Ext.thn y24 x30
  refine ⟨_, rfl, (rlast_does (hx.ext y30) (hp.ext y30) rfl rfl d c hmd (by omega) (by omega) at_ hat).imp ?_⟩
  rintro e w34 ⟨rfl, x34⟩
  exact ⟨_, rfl, by simp, Ext.thn y30 x34⟩
theorem known_law {w : World} : Does Try.prog 7 #[] w (Holds w) := by
  apply f7_does
  refine awake_does.imp ?_
  rintro e w0 ⟨rfl, x0⟩
  refine ⟨_, rfl, fls rfl fun b5 w5 n5 => ?_⟩
  obtain ⟨w6, r6, x6, i6, _⟩ := conv_const Try.underlying22 Try.underlying5 n5 2 2 (xs := [97, 97]) rfl (by decide)
  have y6 := Ext.thn x0 x6
  refine ⟨_, _, _, w6, r6, (new_some i6 rfl 2 (by decide) (by decide)).imp ?_⟩
  rintro e w7 ⟨x7, g, rfl, hf⟩
  have y7 := Ext.thn y6 x7
  refine ⟨_, _, rfl, (new_does (ps := []) (ok := fun _ => True) RS.nil rfl 0 (by decide)).imp ?_⟩
  rintro e w15 ⟨x15, hn⟩
  have hn : e = .returned (.tuple #[.pointer none, .int .i64 1]) := by
    rcases hn with ⟨_, h⟩ | ⟨⟨h, _⟩, _⟩
    · exact h
    · simp at h
  subst hn
  have y15 := Ext.thn y7 x15
  refine ⟨_, _, rfl, fls rfl fun b17 w17 n17 => ?_⟩
  obtain ⟨w18, r18, x18, i18, _⟩ := conv_const Try.underlying22 Try.underlying5 n17 2 2 (xs := [97, 97]) rfl (by decide)
  have y18 := Ext.thn y15 x18
  have e17 := n17.eq
  have s7 := y7.size
  have s15 := x15.size
  have s18 := x18.size
  have hgl : g < w7.heap.size := hf.1.2
  have hgw : w.heap.size ≤ g := by have := hf.1.1; have := y6.size; omega
  have hO : ∀ k, (w6.heap.size ≤ k ∧ k < w7.heap.size) → k < w18.heap.size := fun k hk => by omega
  refine ⟨_, _, _, w18, r18, (feed_does ((hf.ext x15).ext x18) hO i18 (fun k hk e => by omega) rfl 2 (by decide)).imp ?_⟩
  rintro e w23 ⟨p23, l23, c23, rfl, r23, hf23, u23⟩
  have y23 : Ext w w23 := Upd.then y18 u23 fun i hi h => by omega
  refine ⟨_, _, _, rfl, fun b25 w25 n25 => ?_⟩
  obtain ⟨w26, r26, x26, i26, _⟩ := conv_const Try.underlying22 Try.underlying5 n25 1 1 (xs := [97]) rfl (by decide)
  have y26 := Ext.thn y23 x26
  have e25 := n25.eq
  have s23 := u23.size
  have s26 := x26.size
  refine ⟨_, _, _, w26, r26, (feed_does (hf23.ext x26) (fun k hk => by omega) i26 (fun k hk e => by omega) rfl 1 (by decide)).imp ?_⟩
  rintro e w27 ⟨p27, l27, c27, rfl, r27, hf27, u27⟩
  have y27 : Ext w w27 := Upd.then y26 u27 fun i hi h => by omega
  have hE : endsE [97, 97] ([] ++ [97, 97] ++ [97]) ([] ++ [97, 97] : List Int).length ([] ++ [97, 97] ++ [97] : List Int).length = [3] := by decide
  rw [hE] at r27
  obtain ⟨hl27, i27⟩ := r27.ints (by decide)
  subst hl27
  obtain ⟨b, o, hp, hc⟩ := i27.at 0 (by decide)
  refine ⟨_, _, _, rfl, tru rfl ⟨⟨by decide, by decide⟩, b, o, hp, _, hc, tru rfl ((at_does hf27).imp ?_)⟩⟩
  rintro e w39 ⟨rfl, rfl⟩
  refine ⟨_, rfl, tru rfl fun b43 w43 n43 => ?_⟩
  obtain ⟨w44, r44, x44, i44, _⟩ := conv_const Try.underlying22 Try.underlying5 n43 4 4 (xs := [97, 98, 97, 98]) rfl (by decide)
  have y44 := Ext.thn y27 x44
  refine ⟨_, _, _, w44, r44, (fail_does i44 rfl 4 (by decide) (by decide)).imp ?_⟩
  rintro e w45 ⟨p45, l45, c45, fl, rfl, r45, hfok, hfl, x45⟩
  obtain ⟨hl45, i45⟩ := r45.ints (fails_inK hfok (by rw [hfl]; decide))
  have y45 := Ext.thn y44 x45
  refine ⟨_, _, _, rfl, fun b46 w46 n46 => ?_⟩
  have i46 := n46.ints (k := .i64) [0, 0, 1, 2] rfl (by decide)
  have hfl4 : fl = [0, 0, 1, 2] := by
    have best : ∀ i k, i < 4 → (k ≤ i ∧ ([97, 98, 97, 98] : List Int).take k = (([97, 98, 97, 98] : List Int).take (i + 1)).drop (i + 1 - k) ∧ ∀ j, j ≤ i → ([97, 98, 97, 98] : List Int).take j = (([97, 98, 97, 98] : List Int).take (i + 1)).drop (i + 1 - j) → j ≤ k) →
        Best [97, 98, 97, 98] (([97, 98, 97, 98] : List Int).take (i + 1)) i k := fun i k hi ⟨h1, h2, h3⟩ => by
      have hl : (([97, 98, 97, 98] : List Int).take (i + 1)).length = i + 1 := by rw [List.length_take]; simp; omega
      refine ⟨h1, ⟨by simp; omega, by omega, by rw [hl]; exact h2⟩, fun j hj ⟨_, _, h4⟩ => h3 j hj (by rw [hl] at h4; exact h4)⟩
    refine hfok.eq (fl' := [0, 0, 1, 2]) (fun i hi => ?_) (by rw [hfl]; rfl)
    simp only [List.length_cons, List.length_nil] at hi
    match i, hi with
    | 0, _ => exact ⟨0, rfl, best 0 0 (by decide) (by decide)⟩
    | 1, _ => exact ⟨0, rfl, best 1 0 (by decide) (by decide)⟩
    | 2, _ => exact ⟨1, rfl, best 2 1 (by decide) (by decide)⟩
    | 3, _ => exact ⟨2, rfl, best 3 2 (by decide) (by decide)⟩
  refine (ints_does (i45.ext n46.ext) i46 hl45 rfl c45 4 (by rw [hfl]; decide)).imp ?_
  rintro e w47 ⟨rfl, x47⟩
  have y47 := Ext.thn (Ext.thn y45 n46.ext) x47
  refine ⟨_, rfl, tru (by rw [hfl4]; rfl) fun b50 w50 n50 => ?_⟩
  obtain ⟨w51, r51, x51, i51, _⟩ := conv_const Try.underlying22 Try.underlying5 n50 3 3 (xs := [97, 97, 97]) rfl (by decide)
  refine ⟨_, _, _, w51, r51, fun b52 w52 n52 => ?_⟩
  obtain ⟨w53, r53, x53, i53, _⟩ := conv_const Try.underlying22 Try.underlying5 n52 2 2 (xs := [97, 97]) rfl (by decide)
  refine ⟨_, _, _, w53, r53, (last_does (i51.ext x53) i53 rfl rfl 3 2 (by decide) (by decide) (by decide) 1).imp ?_⟩
  rintro e w54 ⟨rfl, x54⟩
  refine ⟨_, rfl, tru (by decide) ((first_does (xs := []) (ps := []) (ok := fun _ => True) (ok' := fun _ => True) RS.nil RS.nil rfl rfl 0 0 (by decide) (by decide) (by decide) 0).imp ?_)⟩
  rintro e w58 ⟨rfl, x58⟩
  exact ⟨_, rfl, tru (by decide) ⟨rfl, Ext.thn (Ext.thn (Ext.thn (Ext.thn y47 x51) x53) x54) x58⟩⟩
end Go.Proofs.Ytcpgapffhapclaa
