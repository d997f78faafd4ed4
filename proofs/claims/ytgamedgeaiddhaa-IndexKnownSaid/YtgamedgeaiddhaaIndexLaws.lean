/-
  Where lines begin: the statements' functions answer true.
-/
import Derived.Test.YtgamedgeaiddhaaIndexCalls2
import Derived.Test.YtgamedgeaiddhaaBytes
import Derived.Test.YtgamedgeaiddhaaOpen
namespace Go.Proofs.Ytgamedgeaiddhaa
open Go.RowKit Go.Vc
/-- A deed: its numbers and bytes. -/
structure Dd where
  do_ : Int
  at_ : Int
  n : Int
  b : List Int
def DdV (w : World) (ok : Nat → Prop) (vs : List Value) (d : Dd) : Prop :=
  ∃ p c, vs = [.int .i64 d.do_, .int .i64 d.at_, .int .i64 d.n, .slice p d.b.length c] ∧ InK .i64 d.do_ ∧ InK .i64 d.at_ ∧ InK .i64 d.n ∧ d.b.length ≤ c ∧ Ints .u8 w ok p d.b
theorem DdV.stable : StableV DdV := fun _ _ _ _ _ _ hu ht ⟨p, c, h1, h2, h3, h4, h5, h6⟩ => ⟨p, c, h1, h2, h3, h4, h5, h6.upd hu ht⟩
theorem DdV.widens : WidensV DdV := fun _ _ _ _ _ hok ⟨p, c, h1, h2, h3, h4, h5, h6⟩ => ⟨p, c, h1, h2, h3, h4, h5, h6.ok hok⟩
abbrev Dds (w : World) (ok : Nat → Prop) (p : Option Addr) (ds : List Dd) : Prop := RS 4 (ElemC DdV) w ok p ds
theorem Dds.ext {w w' : World} {ok : Nat → Prop} {p : Option Addr} {ds : List Dd} (h : Dds w ok p ds) (hu : Ext w w') : Dds w' ok p ds := RS.ext (ElemC.stable DdV.stable) h hu
theorem Dds.old {w : World} {ok : Nat → Prop} {p : Option Addr} {ds : List Dd} (h : Dds w ok p ds) : Dds w (fun k => k < w.heap.size) p ds := RS.ok (ElemC.widens DdV.widens) h (fun _ _ _ h => h.1) fun _ hk _ => hk
theorem Dds.at {w : World} {ok : Nat → Prop} {p : Option Addr} {ds : List Dd} (h : Dds w ok p ds) (i : Nat) (hi : i < ds.length) :
    ∃ b o q c, p = some ⟨b, o, none⟩ ∧ b < w.heap.size ∧ w.cell? ⟨b, o + i * 4, none⟩ = some (.int .i64 ds[i].do_) ∧ w.cell? ⟨b, o + i * 4 + 1, none⟩ = some (.int .i64 ds[i].at_) ∧ w.cell? ⟨b, o + i * 4 + 2, none⟩ = some (.int .i64 ds[i].n) ∧
      w.cell? ⟨b, o + i * 4 + 3, none⟩ = some (.slice q ds[i].b.length c) ∧ ds[i].b.length ≤ c ∧ Ints .u8 w ok q ds[i].b ∧ InK .i64 ds[i].at_ ∧ InK .i64 ds[i].n := by
  obtain ⟨b, o, hp, _, hb, vs, ⟨q, c, rfl, _, h2, h3, h4, h5⟩, hc⟩ := h i hi
  exact ⟨b, o, q, c, hp, hb, hc 0 _ rfl, hc 1 _ rfl, hc 2 _ rfl, hc 3 _ rfl, h4, h5, h2, h3⟩
theorem dd_open {H : Type} {enc : TypeId × Value → H} {w : World} {base : Nat} {sp : Nat → Bool} {held : Bool} {n : Nat} {cs : List Value} {y : DataW H × List MemPlace} (h : DataW.trod enc Try.prog w base sp held n 38 cs = some y) : ∃ x : Dd, DdV w (fun _ => True) cs x := by
  have hlen := struct_len Try.underlying38 h
  obtain ⟨n0, y0, h0⟩ := field_open Try.underlying38 h 0 rfl (T := 3) rfl (o := 0) rfl (s := 1) (by kernel_rfl)
  obtain ⟨n1, y1, h1⟩ := field_open Try.underlying38 h 1 rfl (T := 3) rfl (o := 1) rfl (s := 1) (by kernel_rfl)
  obtain ⟨n2, y2, h2⟩ := field_open Try.underlying38 h 2 rfl (T := 3) rfl (o := 2) rfl (s := 1) (by kernel_rfl)
  obtain ⟨n3, y3, h3⟩ := field_open Try.underlying38 h 3 rfl (T := 22) rfl (o := 3) rfl (s := 1) (by kernel_rfl)
  obtain ⟨a, ha, ka⟩ := int_open Try.underlying3 h0
  obtain ⟨b, hb, kb⟩ := int_open Try.underlying3 h1
  obtain ⟨c, hc, kc⟩ := int_open Try.underlying3 h2
  obtain ⟨p, l, d, hp⟩ := slice_form Try.underlying22 h3
  rw [hp] at h3
  obtain ⟨g1, _, xs, rfl, ix⟩ := ints_open Try.underlying22 Try.underlying5 (by kernel_rfl) h3
  refine ⟨⟨a, b, c, xs⟩, p, d, ?_, ka, kb, kc, g1, ix⟩
  have hs : Try.prog.cellsOf 38 = 4 := by kernel_rfl
  rw [hs] at hlen
  match cs, hlen with
  | [c0, c1, c2, c3], _ =>
    simp at ha hb hc hp
    rw [ha, hb, hc, hp]
theorem dds_open {H : Type} {enc : TypeId × Value → H} {w : World} {base : Nat} {sp : Nat → Bool} {held : Bool} {fuel : Nat} {p : Option Addr} {l c : Nat} {x : DataW H × List MemPlace} (h : DataW.trod enc Try.prog w base sp held fuel 34 [.slice p l c] = some x) :
    l ≤ c ∧ c ≤ maxLen ∧ ∃ xs : List Dd, l = xs.length ∧ Dds w (fun _ => True) p xs :=
  rs_open Try.underlying34 (by kernel_rfl) (by decide) (fun _ _ _ h => dd_open h) h
theorem room_does {w : World} {ok : Nat → Prop} {q p : Option Addr} {ds : List Dd} (hd : Dds w ok p ds) {l : Nat} (hl : l = ds.length) (c m d : Nat) (hm : ds.length ≤ 9223372036854775807) :
    Does Try.prog 16 #[.slice q m d, .slice p l c] w fun e w' => w' = w ∧ ∃ b, e = .returned (.bool b) ∧ (b = true → m ≤ 3000 ∧ ds.length ≤ 100 ∧ ∀ x ∈ ds, x.b.length ≤ 200) := by
  subst hl
  apply f16_does
  refine ⟨fun _ => ⟨rfl, false, rfl, by simp⟩, fun h1 => ⟨fun _ => ⟨rfl, false, rfl, by simp⟩, fun h2 => ?_⟩⟩
  have h1 := of_decide_eq_false h1
  have h2 := of_decide_eq_false h2
  refine ⟨fun i n wl => ∃ k : Nat, i = k ∧ n = ds.length - k ∧ k ≤ ds.length ∧ (∀ e ∈ ds.take k, e.b.length ≤ 200) ∧ wl = w, ⟨_, 0, rfl, rfl, Nat.zero_le _, by simp, rfl⟩, ?_⟩
  rintro _ n wl ⟨k, rfl, rfl, hk, hall, rfl⟩
  refine ⟨fun j => ?_, fun j => ?_⟩
  · have j := of_decide_eq_true j
    have hlt : k < ds.length := by omega
    obtain ⟨b, o, q1, d1, hp, _, a1, a2, a3, a4, _⟩ := hd.at k hlt
    refine ⟨⟨by omega, by omega⟩, b, o, hp, _, _, _, a4, fun _ => ⟨rfl, false, rfl, by simp⟩, fun h3 => ?_⟩
    have h3 := of_decide_eq_false h3
    refine ⟨inI64 (by omega) (by omega), ds.length - (k + 1), by omega, k + 1, by omega, rfl, hlt, ?_, rfl⟩
    rw [List.take_succ_eq_append_getElem hlt]
    intro e hm
    simp only [List.mem_append, List.mem_singleton] at hm
    rcases hm with hm | rfl
    · exact hall e hm
    · omega
  · have j := of_decide_eq_false j
    obtain rfl : k = ds.length := by omega
    exact ⟨rfl, true, rfl, fun _ => ⟨by omega, by omega, by simpa using hall⟩⟩
/-- looks: an index tells what the first bytes say. -/
theorem looks_does {w : World} {O : Nat → Prop} {g : Nat} {xs : List Int} {seen : Nat} (h : Idx w O g (xs.take seen)) (hsl : seen ≤ xs.length) {ok : Nat → Prop} {p : Option Addr} (hx : Ints .u8 w ok p xs) {l c : Nat} (hl : l = xs.length) (hc : l ≤ c)
    (at_ k : Int) {s : Int} (hss : s = seen) : Does Try.prog 19 #[.pointer (some ⟨g, 0, none⟩), .slice p l c, .int .i64 s, .int .i64 at_, .int .i64 k] w fun e w' => e = .returned (.bool true) ∧ w' = w := by
  subst hl hss
  apply f19_does
  have hlen : (xs.take seen).length = seen := by rw [List.length_take]; omega
  have h2 := h.2.1
  have hsub : Ints .u8 w ok (subp p 0 c 1) (xs.take seen) := hx.sub 0 seen c (by omega)
  refine ⟨⟨by omega, by omega⟩, (seen_does h).imp ?_⟩
  rintro e w1 ⟨rfl, rfl⟩
  refine ⟨_, rfl, fls (by simp [hlen]) ((known_does h).imp ?_)⟩
  rintro e w1 ⟨rfl, rfl⟩
  refine ⟨_, rfl, (lines_does hsub (by omega) _ h2).imp ?_⟩
  rintro e w1 ⟨rfl, rfl⟩
  refine ⟨_, rfl, fls (by simp) ((begin_does h k).imp ?_)⟩
  rintro e w1 ⟨rfl, rfl⟩
  refine ⟨_, _, rfl, (rbegin_does hsub (by omega) _ k h2).imp ?_⟩
  rintro e w1 ⟨rfl, rfl⟩
  refine ⟨_, _, rfl, fls (by simp) (fls (by simp) ((line_does h at_).imp ?_))⟩
  rintro e w1 ⟨rfl, rfl⟩
  refine ⟨_, _, rfl, fun j => ?_, fun j => ?_⟩
  · have j := of_decide_eq_true j
    rw [lineE, if_pos (.inl j)]
    exact tru rfl ⟨rfl, rfl⟩
  have j := of_decide_eq_false j
  refine ⟨fun j2 => ?_, fun j2 => ?_⟩
  · have j2 := of_decide_eq_true j2
    rw [lineE, if_pos (.inr (by omega))]
    exact tru rfl ⟨rfl, rfl⟩
  have j2 := of_decide_eq_false j2
  rw [lineE, if_neg (by omega)]
  refine tru rfl ⟨⟨by omega, by omega⟩, (lines_does (xs := (xs.take seen).take at_.toNat) (hsub.sub 0 at_.toNat (c - 0) (by omega)) (by rw [List.length_take, hlen]; omega) _ (by rw [List.length_take]; omega)).imp ?_⟩
  rintro e w1 ⟨rfl, rfl⟩
  exact ⟨_, rfl, by simp, rfl⟩
/-- awake. -/
theorem awake_does {w : World} : Does Try.prog 7 #[] w fun e w' => e = .returned (.bool true) ∧ Ext w w' := by
  apply f7_does
  refine new_does.imp ?_
  rintro e w6 ⟨g, rfl, hg, hg2, hi, x6⟩
  have hsz := x6.size
  let O : Nat → Prop := fun k => w.heap.size ≤ k
  have hi := hi O (by show w.heap.size ≤ g; omega)
  refine ⟨_, rfl, fls rfl fun b10 w10 n10 => ?_⟩
  obtain ⟨w11, r11, x11, i11, _⟩ := conv_const Try.underlying22 Try.underlying5 n10 4 4 (xs := [97, 98, 10, 99]) rfl (by decide)
  have y11 := Ext.thn x6 x11
  refine ⟨_, _, _, w11, r11, (step_does (hi.ext x11) (fun k hk => by have := y11.size; show w.heap.size ≤ k; omega) i11 rfl 4 (by decide)).imp ?_⟩
  rintro e w12 ⟨rfl, hi12, u12⟩
  have y12 : Ext w w12 := Upd.then y11 u12 fun i hi h => by have : w.heap.size ≤ i := h; omega
  refine ⟨rfl, fun b14 w14 n14 => ?_⟩
  obtain ⟨w15, r15, x15, i15, _⟩ := conv_const Try.underlying22 Try.underlying5 n14 2 2 (xs := [100, 10]) rfl (by decide)
  have y15 := Ext.thn y12 x15
  refine ⟨_, _, _, w15, r15, (step_does (hi12.ext x15) (fun k hk => by have := y15.size; show w.heap.size ≤ k; omega) i15 rfl 2 (by decide)).imp ?_⟩
  rintro e w16 ⟨rfl, hi16, u16⟩
  have y16 : Ext w w16 := Upd.then y15 u16 fun i hi h => by have : w.heap.size ≤ i := h; omega
  refine ⟨rfl, (begin_does hi16 1).imp ?_⟩
  rintro e w19 ⟨rfl, rfl⟩
  refine ⟨_, _, rfl, (line_does hi16 4).imp ?_⟩
  rintro e w19 ⟨rfl, rfl⟩
  refine ⟨_, _, rfl, tru rfl (tru rfl (tru rfl (tru rfl ((seen_does hi16).imp ?_))))⟩
  rintro e w19 ⟨rfl, rfl⟩
  refine ⟨_, rfl, tru rfl ((known_does hi16).imp ?_)⟩
  rintro e w19 ⟨rfl, rfl⟩
  exact ⟨_, rfl, rfl, y16⟩
theorem known_law {w : World} : Does Try.prog 5 #[] w (Holds w) := by
  apply f5_does
  refine awake_does.imp ?_
  rintro e w0 ⟨rfl, x0⟩
  refine ⟨_, rfl, fls rfl (new_does.imp ?_)⟩
  rintro e w6 ⟨g, rfl, hg, hg2, hi, x6⟩
  have x6 := Ext.thn x0 x6
  have hsz := x0.size
  let O : Nat → Prop := fun k => w.heap.size ≤ k
  have hi := hi O (by show w.heap.size ≤ g; omega)
  refine ⟨_, rfl, fls rfl fun b10 w10 n10 => ?_⟩
  obtain ⟨w11, r11, x11, i11, _⟩ := conv_const Try.underlying22 Try.underlying5 n10 6 6 (xs := [97, 98, 10, 99, 100, 10]) rfl (by decide)
  have y11 := Ext.thn x6 x11
  refine ⟨_, _, _, w11, r11, (step_does (hi.ext x11) (fun k hk => by have := y11.size; show w.heap.size ≤ k; omega) i11 rfl 6 (by decide)).imp ?_⟩
  rintro e w12 ⟨rfl, hi12, u12⟩
  have y12 : Ext w w12 := Upd.then y11 u12 fun i hi h => by have : w.heap.size ≤ i := h; omega
  refine ⟨rfl, fun b14 w14 n14 => ?_⟩
  obtain ⟨w15, r15, x15, i15, _⟩ := conv_const Try.underlying22 Try.underlying5 n14 2 2 (xs := [10, 10]) rfl (by decide)
  have y15 := Ext.thn y12 x15
  refine ⟨_, _, _, w15, r15, (edit_does (hi12.ext x15) (fun k hk => by have := y15.size; show w.heap.size ≤ k; omega) i15 rfl 2 (by decide) 1 1).imp ?_⟩
  rintro e w16 ⟨rfl, hi16, u16⟩
  have y16 : Ext w w16 := Upd.then y15 u16 fun i hi h => by have : w.heap.size ≤ i := h; omega
  refine ⟨rfl, (begin_does hi16 1).imp ?_⟩
  rintro e w19 ⟨rfl, rfl⟩
  refine ⟨_, _, rfl, (begin_does hi16 9).imp ?_⟩
  rintro e w19 ⟨rfl, rfl⟩
  refine ⟨_, _, rfl, tru rfl (tru rfl ((known_does hi16).imp ?_))⟩
  rintro e w19 ⟨rfl, rfl⟩
  refine ⟨_, rfl, tru rfl ((seen_does hi16).imp ?_)⟩
  rintro e w19 ⟨rfl, rfl⟩
  exact ⟨_, rfl, tru rfl ⟨rfl, y16⟩⟩
theorem finds_law {w : World} {ok : Nat → Prop} {p : Option Addr} {xs : List Int} (hx : Ints .u8 w ok p xs) {l : Nat} (hl : l = xs.length) (c : Nat) : Does Try.prog 4 #[.slice p l c] w (Holds w) := by
  subst hl
  apply f4_does
  refine awake_does.imp ?_
  rintro e w0 ⟨rfl, x0⟩
  refine ⟨_, rfl, fls rfl ⟨fun _ => ⟨rfl, x0⟩, fun h => ?_⟩⟩
  have h := of_decide_eq_false h
  refine new_does.imp ?_
  rintro e w6 ⟨g, rfl, hg, hg2, hi, x6⟩
  have x6 := Ext.thn x0 x6
  have hsz := x0.size
  let O : Nat → Prop := fun k => w.heap.size ≤ k
  have hi := hi O (by show w.heap.size ≤ g; omega)
  refine ⟨_, rfl, fls rfl ((step_does hi (fun k hk => by have := x6.size; show w.heap.size ≤ k; omega) (hx.ext x6) rfl c (by simp; omega)).imp ?_)⟩
  rintro e w12 ⟨rfl, hi12, u12⟩
  have y12 : Ext w w12 := Upd.then x6 u12 fun i hi h => by have : w.heap.size ≤ i := h; omega
  rw [List.nil_append] at hi12
  have hle := endsF_le 0 xs
  have hkl : linesF xs = (endsF 0 xs).length := rfl
  refine ⟨rfl, fun x n wl => ∃ k : Nat, x = k ∧ n = linesF xs + 1 - k ∧ k ≤ linesF xs + 1 ∧ wl = w12, ⟨_, 0, rfl, rfl, Nat.zero_le _, rfl⟩, ?_⟩
  rintro _ n wl ⟨k, rfl, rfl, hk, rfl⟩
  refine (known_does hi12).imp ?_
  rintro e w1 ⟨rfl, rfl⟩
  refine ⟨_, rfl, fun j => ?_, fun j => ?_⟩
  · have j := of_decide_eq_true j
    have hkl2 : k ≤ linesF xs := by omega
    refine (begin_does hi12 k).imp ?_
    rintro e w1 ⟨rfl, rfl⟩
    refine ⟨_, _, rfl, (line_does hi12 (beginE xs k).1).imp ?_⟩
    rintro e w1 ⟨rfl, rfl⟩
    by_cases hk0 : k = 0
    · subst hk0
      have hb : beginE xs 0 = (0, true) := by rw [beginE, if_neg (by omega)]; rfl
      have hb' : beginE xs ((0 : Nat) : Int) = (0, true) := hb
      have hln : lineE xs 0 = (0, true) := by rw [lineE, if_neg (by omega)]; rfl
      rw [hb', hln]
      exact ⟨_, _, rfl, fls rfl (fls rfl (fls rfl (fls rfl ⟨inI64 (by decide) (by decide), _, by omega, 1, rfl, rfl, by omega, rfl⟩)))⟩
    · obtain ⟨e, he, h1, h2, h3, h4, h5⟩ := endsF_pos (c := xs) (k := k) (by omega) hkl2
      have hb : beginE xs k = (e, true) := by
        rw [beginE, if_neg (by omega), if_neg (by omega), List.getD_eq_getElem?_getD, Int.toNat_natCast, he]; rfl
      have hln : lineE xs e = ((k : Int), true) := by rw [lineE, if_neg (by omega), h3]
      have hln2 : lineE xs (e - 1) = ((k : Int) - 1, true) := by
        rw [lineE, if_neg (by omega), h4]
        congr 1; omega
      rw [hb, hln]
      refine ⟨_, _, rfl, fls rfl (fls rfl (fls (by simp) (tru (by simp; omega) ⟨inI64 (by omega) (by omega), (line_does hi12 (e - 1)).imp ?_⟩)))⟩
      rintro e' w1 ⟨rfl, rfl⟩
      rw [hln2]
      obtain ⟨b, o, hp, hc⟩ := (hx.ext y12).at (e - 1).toNat (by omega)
      rw [List.getElem?_eq_getElem (by omega)] at h5
      injection h5 with h5
      rw [h5] at hc
      exact ⟨_, _, rfl, fls rfl ⟨inI64 (by omega) (by omega), fls (by simp) ⟨inI64 (by omega) (by omega), ⟨by omega, by omega⟩, b, o, hp, _, hc, fls rfl ⟨inI64 (by omega) (by omega), _, by omega, k + 1, by omega, rfl, by omega, rfl⟩⟩⟩⟩
  · have j := of_decide_eq_false j
    refine (known_does hi12).imp ?_
    rintro e w1 ⟨rfl, rfl⟩
    refine ⟨_, rfl, inI64 (by omega) (by omega), (begin_does hi12 _).imp ?_⟩
    rintro e w1 ⟨rfl, rfl⟩
    rw [beginE, if_pos (by omega)]
    refine ⟨_, _, rfl, tru rfl ((known_does hi12).imp ?_)⟩
    rintro e w1 ⟨rfl, rfl⟩
    refine ⟨_, rfl, (lines_does (hx.ext y12) rfl c (by omega)).imp ?_⟩
    rintro e w1 ⟨rfl, rfl⟩
    exact ⟨_, rfl, by simp, y12⟩
end Go.Proofs.Ytgamedgeaiddhaa
