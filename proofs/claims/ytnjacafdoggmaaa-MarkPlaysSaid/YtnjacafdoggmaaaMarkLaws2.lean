/-
  Marks: the statements' functions answer true, second part.
-/
import Derived.Test.YtnjacafdoggmaaaMarkLaws
import Derived.Test.YtnjacafdoggmaaaMarkCalls2
import Derived.Test.YtnjacafdoggmaaaOpen
namespace Go.Proofs.Ytnjacafdoggmaaa
open Go.RowKit Go.Vc Go.ChangeShapes Go.WideShapes
theorem mark_open {H : Type} {enc : TypeId × Value → H} {w : World} {base : Nat} {sp : Nat → Bool} {held : Bool} {n : Nat} {cs : List Value} {y : DataW H × List MemPlace} (h : DataW.trod enc Try.prog w base sp held n 40 cs = some y) : ∃ x : Int × Int, MkV w (fun _ => True) cs x := by
  have hlen := struct_len Try.underlying40 h
  obtain ⟨n0, y0, h0⟩ := field_open Try.underlying40 h 0 rfl (T := 5) rfl (o := 0) rfl (s := 1) (by kernel_rfl)
  obtain ⟨n1, y1, h1⟩ := field_open Try.underlying40 h 1 rfl (T := 3) rfl (o := 1) rfl (s := 1) (by kernel_rfl)
  obtain ⟨a, ha, ka⟩ := int_open Try.underlying5 h0
  obtain ⟨b, hb, kb⟩ := int_open Try.underlying3 h1
  refine ⟨(a, b), ?_, ka, kb⟩
  have hs : Try.prog.cellsOf 40 = 2 := by kernel_rfl
  rw [hs] at hlen
  match cs, hlen with
  | [c0, c1], _ =>
    simp at ha hb
    rw [ha, hb]
theorem marks_open {H : Type} {enc : TypeId × Value → H} {w : World} {base : Nat} {sp : Nat → Bool} {held : Bool} {fuel : Nat} {p : Option Addr} {l c : Nat} {x : DataW H × List MemPlace} (h : DataW.trod enc Try.prog w base sp held fuel 41 [.slice p l c] = some x) :
    l ≤ c ∧ c ≤ maxLen ∧ ∃ xs : List (Int × Int), l = xs.length ∧ Mks w (fun _ => True) p xs :=
  rs_open Try.underlying41 (by kernel_rfl) (by decide) (fun _ _ _ h => mark_open h) h
theorem plays_law {w : World} {ok0 ok1 ok2 : Nat → Prop} {p0 p1 p2 : Option Addr} {set raw : List (Int × Int)} {es : List E} (hs : Mks w ok0 p0 set) (he : Edits w ok1 p1 es) (hr : Mks w ok2 p2 raw) {l0 l1 l2 : Nat} (hl0 : l0 = set.length) (hl1 : l1 = es.length) (hl2 : l2 = raw.length) (c0 c1 c2 : Nat)
    (h0 : set.length ≤ 9223372036854775807) (h1 : es.length ≤ 9223372036854775807) (h2 : raw.length ≤ 9223372036854775807) : Does Try.prog 6 #[.slice p0 l0 c0, .slice p1 l1 c1, .slice p2 l2 c2] w (Holds w) := by
  subst hl0 hl1 hl2
  apply f6_does
  refine awake_does.imp ?_
  rintro e w16 ⟨rfl, x16⟩
  refine ⟨_, rfl, fls rfl ⟨fun _ => ⟨rfl, x16⟩, fun j0 => ⟨fun _ => ⟨rfl, x16⟩, fun j2 => ?_⟩⟩⟩
  have j0 := of_decide_eq_false j0
  have j2 := of_decide_eq_false j2
  refine (room_does (he.ext x16) rfl c1 30 h1).imp ?_
  rintro e w28 ⟨rfl, b28, rfl, hroom⟩
  refine ⟨_, rfl, fun _ => ⟨rfl, x16⟩, fun jr => ?_⟩
  have hroom := hroom (by simpa using jr)
  refine ⟨fun x n wl => ∃ k : Nat, x = k ∧ n = es.length - k ∧ k ≤ es.length ∧ (∀ e ∈ es.take k, 0 ≤ e.at_ ∧ e.at_ ≤ 1099511627776) ∧ wl = w28, ⟨_, 0, rfl, rfl, Nat.zero_le _, by simp, rfl⟩, ?_⟩
  rintro _ n wl ⟨k, rfl, rfl, hk, hall, rfl⟩
  refine ⟨fun jj => ?_, fun jj => ?_⟩
  · have jj := of_decide_eq_true jj
    have hlt : k < es.length := by omega
    obtain ⟨bb, o, q1, d1, q2, d2, hp, _, a1, _⟩ := (he.ext x16).at k hlt
    refine ⟨⟨by omega, by omega⟩, bb, o, hp, _, a1, fun _ => ⟨rfl, x16⟩, fun c1 => ⟨⟨by omega, by omega⟩, bb, o, hp, _, a1, fun _ => ⟨rfl, x16⟩, fun c2 => ?_⟩⟩
    have c1 := of_decide_eq_false c1
    have c2 := of_decide_eq_false c2
    refine ⟨inI64 (by omega) (by omega), _, by omega, k + 1, by omega, rfl, hlt, ?_, rfl⟩
    rw [List.take_succ_eq_append_getElem hlt]
    intro e hm
    simp only [List.mem_append, List.mem_singleton] at hm
    rcases hm with hm | rfl
    · exact hall e hm
    · omega
  have jj := of_decide_eq_false jj
  obtain rfl : k = es.length := by omega
  rw [List.take_length] at hall
  have hok : ∀ e ∈ es, OkE e := fun e he => ⟨(hall e he).1, by have := (hall e he).2; omega, by have := (hroom.2 e he).1; omega, by have := (hroom.2 e he).2; omega⟩
  refine new_does.imp ?_
  rintro e w51 ⟨g, rfl, hM, hg, x51⟩
  have hg0 : w.heap.size ≤ g := by have := x16.size; omega
  have y51 := Ext.thn x16 x51
  refine ⟨_, rfl, fls rfl ?_⟩
  refine ⟨fun p9 l9 c9 x n wl => ∃ (k : Nat) (xs : List Int), x = k ∧ n = set.length - k ∧ k ≤ set.length ∧ Mk wl g xs ∧ l9 = (allG 0 xs).length ∧ Mks wl (fun z => z ≠ g) p9 (allG 0 xs) ∧ Ext w wl, ⟨_, 0, _, rfl, rfl, Nat.zero_le _, hM, by rw [zeros26, allG_zeros]; rfl, by rw [zeros26, allG_zeros]; exact fun i hi => by simp at hi, y51⟩, ?_⟩
  rintro p9 _ c9 _ n wl ⟨k, xs, rfl, rfl, hk, hM, rfl, hw, xl⟩
  have hlen26 : (allG 0 xs).length ≤ 26 := by have := allG_len (xs := xs) (off := 0); rw [hM.len] at this; exact this
  have hgl := hM.lt
  refine ⟨fun jj => ?_, fun jj => ?_⟩
  · have jj := of_decide_eq_true jj
    have hlt : k < set.length := by omega
    intro wd hd
    have xd := hd.ext
    obtain ⟨b, o, hp, _, a1, a2, k1, k2⟩ := (hs.ext (Ext.thn xl xd)).at k hlt
    refine ⟨⟨by omega, by omega⟩, b, o, hp, _, a1, ⟨by omega, by omega⟩, b, o, hp, _, a2, (setm_does (hw.ext xd) rfl c9 _ _ k1 k2 (by omega)).imp ?_⟩
    rintro e w72 ⟨x72, hr72⟩
    have zd := xd.size
    have z72 := x72.size
    have fin : ∀ {p72 : Option Addr} {l72 : Nat} {ms' : List (Int × Int)}, l72 = ms'.length → Mks w72 (fun z => z ≠ g) p72 ms' → allG 0 (if mayM set[k].1 set[k].2 then xs.set (set[k].1 - 97).toNat (set[k].2 + 1) else xs) = ms' → ∀ (c72 : Nat) (wd18 : World), Drew w72 wd18 →
        ((0 : Int) ≤ (k : Int) ∧ (k : Int) < (set.length : Int)) ∧ ∃ b78 o78, p0 = some ⟨b78, o78, none⟩ ∧ ∃ n80 : Int, wd18.cell? ⟨b78, o78 + (k : Int).toNat * 2, none⟩ = some (.int .u8 n80) ∧ ((0 : Int) ≤ (k : Int) ∧ (k : Int) < (set.length : Int)) ∧ ∃ b83 o83, p0 = some ⟨b83, o83, none⟩ ∧ ∃ n85 : Int, wd18.cell? ⟨b83, o83 + (k : Int).toNat * 2 + 1, none⟩ = some (.int .i64 n85) ∧
        Does Try.prog 10 #[.pointer (some ⟨g, 0, none⟩), .int .u8 n80, .int .i64 n85] wd18 fun e86 w86 => ∃ b86 : Bool, e86 = .returned (.bool b86) ∧ Br (!(b86 == mayM set[k].1 set[k].2)) (Holds w (.returned (.bool false)) w86)
          (InK .i64 ((k : Int) + 1) ∧ ∃ ml15, ml15 < set.length - k ∧ ∃ (k' : Nat) (xs : List Int), (k : Int) + 1 = k' ∧ ml15 = set.length - k' ∧ k' ≤ set.length ∧ Mk w86 g xs ∧ l72 = (allG 0 xs).length ∧ Mks w86 (fun z => z ≠ g) p72 (allG 0 xs) ∧ Ext w w86) := by
      rintro p72 l72 ms' rfl hw72 hall' c72 wd18 hd18
      have x18 := hd18.ext
      have y18 := Ext.thn (Ext.thn xd x72) x18
      have b1 := (Ext.thn x72 x18).cell a1
      have b2 := (Ext.thn x72 x18).cell a2
      refine ⟨⟨by omega, by omega⟩, b, o, hp, _, b1, ⟨by omega, by omega⟩, b, o, hp, _, b2, (set_does (hM.ext y18) _ _).imp ?_⟩
      rintro e w86 ⟨rfl, hM', u86⟩
      refine ⟨_, rfl, fls (by simp) ⟨inI64 (by omega) (by omega), _, by omega, k + 1, _, by omega, rfl, hlt, hM', by rw [hall'], by rw [hall']; exact (hw72.ext x18).upd u86 fun z hz e => hz e, Upd.then (Ext.thn xl y18) u86 (gOld hg0)⟩⟩
    rcases hr72 with ⟨hm, rfl⟩ | ⟨hm, p', c', rfl, hq⟩
    · refine ⟨_, _, _, _, rfl, ?_⟩
      have := fin (p72 := p9) rfl ((hw.ext xd).ext x72) (by rw [hm]; rfl) c9
      rw [hm] at this
      exact this
    · refine ⟨_, _, _, _, rfl, ?_⟩
      have hmi := mayM_iff.1 hm
      have := fin (p72 := p') rfl (RS.ok (ElemC.widens MkV.widens) hq (fun _ _ _ h => h.1) (fun z _ hz => by omega)) (by rw [if_pos hm]; exact setX_all hM.len hm) c'
      rw [hm] at this
      exact this
  have jj := of_decide_eq_false jj
  refine (clone_does hM).imp ?_
  rintro e w91 ⟨g', rfl, hM', hg', x91⟩
  have xw91 := Ext.thn xl x91
  have he91 : Edits w91 (fun z => z < w.heap.size) p1 es := (he.ok fun k hk _ => hk).upd (T := fun z => w.heap.size ≤ z) ⟨xw91.os, xw91.tape, xw91.output, xw91.size, fun i hi _ => xw91.block i hi id⟩ (fun k hk h => by omega)
  refine ⟨_, rfl, (shift_does (hM.ext x91) he91 (fun z hz => by omega) hok rfl c1 h1).imp ?_⟩
  rintro e w94 ⟨rfl, hMs, u94⟩
  have y94 := Upd.then xw91 u94 (gOld hg0)
  have hM' := hM'.upd u94 (by omega)
  have hw94 := (hw.ext x91).upd u94 fun z hz e => hz e
  refine ⟨rfl, (load_does (hr.ext y94) rfl c2 h2).imp ?_⟩
  rintro e w97 ⟨x97, hld⟩
  have tail : ∀ {ww : World}, Ext w94 ww → Does Try.prog 19 #[.pointer (some ⟨g', 0, none⟩)] ww fun e121 w121 =>
      ∃ (p121 : Option Addr) (l121 c121 : Nat), e121 = .returned (.slice p121 l121 c121) ∧ Does Try.prog 18 #[.slice p121 l121 c121, .slice p9 (allG 0 xs).length c9] w121 fun e123 w123 =>
      ∃ b123 : Bool, e123 = .returned (.bool b123) ∧ Br b123
      (Does Try.prog 19 #[.pointer (some ⟨g, 0, none⟩)] w123 fun e126 w126 =>
      ∃ (p126 : Option Addr) (l126 c126 : Nat), e126 = .returned (.slice p126 l126 c126) ∧ Does Try.prog 20 #[.slice p9 (allG 0 xs).length c9, .slice p1 es.length c1] w126 fun e129 w129 =>
      ∃ (p129 : Option Addr) (l129 c129 : Nat), e129 = .returned (.slice p129 l129 c129) ∧ Does Try.prog 18 #[.slice p126 l126 c126, .slice p129 l129 c129] w129 fun e130 w130 =>
      ∃ b130 : Bool, e130 = .returned (.bool b130) ∧ Holds w (.returned (.bool b130)) w130)
      (Holds w (.returned (.bool false)) w123) := by
    intro ww xx
    refine (all_does (hM'.ext xx)).imp ?_
    rintro e w121 ⟨pa, ca, rfl, ha, x121⟩
    refine ⟨_, _, _, rfl, (samem_does ha ((hw94.ext xx).ext x121) rfl rfl _ _ (by omega)).imp ?_⟩
    rintro e w123 ⟨rfl, x123⟩
    refine ⟨_, rfl, tru (decide_eq_true rfl) ((all_does (((hMs.ext xx).ext x121).ext x123)).imp ?_)⟩
    rintro e w126 ⟨pb, cb, rfl, hb, x126⟩
    have y126 := Ext.thn (Ext.thn (Ext.thn xx x121) x123) x126
    refine ⟨_, _, _, rfl, (rshift_does (hw94.ext y126) (he.ext (Ext.thn y94 y126)) hok (fun m hm => ⟨(allG_pos hM.okx m hm).1, (allG_pos hM.okx m hm).2.1⟩) rfl rfl c9 c1 (by omega) h1).imp ?_⟩
    rintro e w129 ⟨pc, cc, rfl, hc, x129⟩
    have hsh := allG_shift hok hM.okx (off := 0)
    have hln : (allG 0 (shiftL es xs)).length ≤ 26 := by rw [hsh, List.length_map]; exact hlen26
    refine ⟨_, _, _, rfl, (samem_does (hb.ext x129) hc rfl (by rw [List.length_map]) _ _ (by omega)).imp ?_⟩
    rintro e w130 ⟨rfl, x130⟩
    exact ⟨_, rfl, by rw [decide_eq_true hsh], Ext.thn (Ext.thn (Ext.thn y94 y126) x129) x130⟩
  have hmayd := may_does (hr.ext (Ext.thn y94 x97)) rfl c2 h2
  rcases hld with ⟨hml, gl, rfl, hMl, _⟩ | ⟨hml, rfl⟩
  · refine ⟨_, _, rfl, hmayd.imp ?_⟩
    rintro e w102 ⟨x102, b102, rfl, hb102⟩
    have hb102 := hb102.2 hml
    subst hb102
    refine ⟨_, rfl, fls rfl (fls rfl (tru rfl ((all_does (hMl.ext x102)).imp ?_)))⟩
    rintro e w114 ⟨pd, cd, rfl, hd, x114⟩
    rw [load_all hml] at hd ⊢
    have y114 := Ext.thn (Ext.thn x97 x102) x114
    refine ⟨_, _, _, rfl, (samem_does hd (hr.ext (Ext.thn y94 y114)) rfl rfl _ _ h2).imp ?_⟩
    rintro e w116 ⟨rfl, x116⟩
    exact ⟨_, rfl, fls (by rw [decide_eq_true rfl]; rfl) (tail (Ext.thn y114 x116))⟩
  · refine ⟨_, _, rfl, hmayd.imp ?_⟩
    rintro e w102 ⟨x102, b102, rfl, hb102⟩
    have hb102 : b102 = false := by
      cases b102 with
      | false => rfl
      | true => exact absurd (hb102.1 rfl) hml
    subst hb102
    exact ⟨_, rfl, fls rfl (fls rfl (fls rfl (tail (Ext.thn x97 x102))))⟩
end Go.Proofs.Ytnjacafdoggmaaa
