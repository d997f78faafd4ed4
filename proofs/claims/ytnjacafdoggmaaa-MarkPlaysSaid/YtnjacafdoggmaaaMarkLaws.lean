/-
  Marks: the statements' functions answer true.
-/
import Derived.Test.YtnjacafdoggmaaaMarkLoad
import Derived.Test.YtnjacafdoggmaaaEditRoom
import Derived.Test.YtnjacafdoggmaaaEditCalls2
namespace Go.Proofs.Ytnjacafdoggmaaa
open Go.RowKit Go.Vc
theorem awake_does {w : World} : Does Try.prog 7 #[] w fun e w' => e = .returned (.bool true) ∧ Ext w w' := by
  apply f7_does
  refine new_does.imp ?_
  rintro e w4 ⟨g, rfl, hM, hg, x4⟩
  refine ⟨_, rfl, fls rfl ((set_does hM 97 5).imp ?_)⟩
  rintro e w9 ⟨rfl, hM, u9⟩
  refine ⟨_, rfl, fls (by decide) fun b13 w13 n13 => ?_⟩
  obtain ⟨w14, r14, e14, i14, _⟩ := conv_const Try.underlying25 Try.underlying5 n13 1 1 (xs := [120]) rfl (by decide)
  refine ⟨_, _, _, w14, r14, fun b16 w16 n16 => ?_⟩
  have z9 := u9.size
  have z14 := e14.size
  have hgl := hM.lt
  have hv : EditV w16 (fun z => z ≠ g) [.int .i64 2, .slice (some ⟨b13, 0, none⟩) 1 1, .slice none 0 0] ⟨2, [120], []⟩ :=
    ⟨_, _, _, _, rfl, by decide, by decide, (i14.ext n16.ext).ok (fun k hk (h : k = b13) (e : k = g) => by have := n13.eq; omega), by decide, fun i hi => by simp at hi⟩
  have hed : Edits w16 (fun z => z ≠ g) (some ⟨b16, 0, none⟩) [⟨2, [120], []⟩] := NewBlk.rs1 n16 (by have := n16.eq; omega) hv
  have xx := Ext.thn e14 n16.ext
  refine (shift_does (hM.ext xx) hed (fun z h => h) (by intro e he; simp at he; subst he; exact ⟨by decide, by decide, by decide, by decide⟩) rfl 1 (by decide)).imp ?_
  rintro e w17 ⟨rfl, hM, u17⟩
  refine ⟨rfl, (get_does hM 97 (by decide)).imp ?_⟩
  rintro e w20 ⟨rfl, rfl⟩
  refine ⟨_, _, rfl, tru (by decide) ⟨?_, ?_⟩⟩
  · congr 1
  · exact Upd.then (Ext.thn (Upd.then x4 u9 fun i hi e => by have e : i = g := e; omega) xx) u17 fun i hi e => by have e : i = g := e; omega
theorem gOld {g : Nat} {w : World} (hg : w.heap.size ≤ g) : ∀ i, i < w.heap.size → (fun z => z = g) i → False := fun i hi e => by have e : i = g := e; omega
theorem known_law {w : World} : Does Try.prog 5 #[] w (Holds w) := by
  apply f5_does
  refine awake_does.imp ?_
  rintro e w8 ⟨rfl, x8⟩
  refine ⟨_, rfl, fls rfl (new_does.imp ?_)⟩
  rintro e w10 ⟨g, rfl, hM, hg, x10⟩
  have hg0 : w.heap.size ≤ g := by have := x8.size; omega
  have y10 := Ext.thn x8 x10
  refine ⟨_, rfl, fls rfl ((set_does hM 97 4).imp ?_)⟩
  rintro e w14 ⟨rfl, hM, u14⟩
  refine ⟨_, rfl, fun b16 w16 n16 => ?_⟩
  obtain ⟨w17, r17, e17, i17, _⟩ := conv_const Try.underlying25 Try.underlying5 n16 3 3 (xs := [120, 121, 122]) rfl (by decide)
  refine ⟨_, _, _, w17, r17, fun b19 w19 n19 => ?_⟩
  have z9 := u14.size
  have z14 := e17.size
  have hgl := hM.lt
  have hv : EditV w19 (fun z => z ≠ g) [.int .i64 3, .slice (some ⟨b16, 0, none⟩) 3 3, .slice none 0 0] ⟨3, [120, 121, 122], []⟩ :=
    ⟨_, _, _, _, rfl, by decide, by decide, (i17.ext n19.ext).ok (fun k hk (h : k = b16) (e : k = g) => by have := n16.eq; omega), by decide, fun i hi => by simp at hi⟩
  have hed : Edits w19 (fun z => z ≠ g) (some ⟨b19, 0, none⟩) [⟨3, [120, 121, 122], []⟩] := NewBlk.rs1 n19 (by have := n19.eq; omega) hv
  have xx := Ext.thn e17 n19.ext
  have y19 := Ext.thn (Upd.then y10 u14 (gOld hg0)) xx
  refine (shift_does (hM.ext xx) hed (fun z h => h) (by intro e he; simp at he; subst he; exact ⟨by decide, by decide, by decide, by decide⟩) rfl 1 (by decide)).imp ?_
  rintro e w20 ⟨rfl, hM, u20⟩
  have y20 := Upd.then y19 u20 (gOld hg0)
  refine ⟨rfl, (get_does hM 97 (by decide)).imp ?_⟩
  rintro e w23 ⟨rfl, rfl⟩
  refine ⟨_, _, rfl, (get_does hM 98 (by decide)).imp ?_⟩
  rintro e w28 ⟨rfl, rfl⟩
  refine ⟨_, _, rfl, fun b34 w34 n34 => ?_⟩
  have hmk : Mks w34 (fun _ => True) (some ⟨b34, 0, none⟩) [(98, 0), (97, 0)] := by
    intro i hi
    match i, hi with
    | 0, _ => exact ⟨b34, 0, rfl, trivial, n34.lt, _, ⟨rfl, by show InK .u8 98; decide, by show InK .i64 0; decide⟩, fun j v hj => by
        match j with
        | 0 => simp at hj; subst hj; exact n34.cell 0 rfl
        | 1 => simp at hj; subst hj; exact n34.cell 1 rfl
        | j + 2 => simp at hj⟩
    | 1, _ => exact ⟨b34, 0, rfl, trivial, n34.lt, _, ⟨rfl, by show InK .u8 97; decide, by show InK .i64 0; decide⟩, fun j v hj => by
        match j with
        | 0 => simp at hj; subst hj; exact n34.cell 2 rfl
        | 1 => simp at hj; subst hj; exact n34.cell 3 rfl
        | j + 2 => simp at hj⟩
  refine (load_does hmk rfl 2 (by decide)).imp ?_
  rintro e w35 ⟨x35, h35⟩
  have hno : ¬ MayL [(98, 0), (97, 0)] := fun h => by have := (h 1 (by decide)).2 (by decide); simp at this
  have he : e = .returned (.tuple #[.pointer none, .bool false]) := by
    rcases h35 with ⟨h, _⟩ | ⟨_, h⟩
    · exact absurd h hno
    · exact h
  subst he
  have y35 := Ext.thn (Ext.thn y20 n34.ext) x35
  refine ⟨_, _, rfl, tru (by decide) (tru (by decide) ((set_does ((hM.ext n34.ext).ext x35) 65 1).imp ?_))⟩
  rintro e w46 ⟨rfl, hM, u46⟩
  refine ⟨_, rfl, tru (by decide) ((set_does hM 97 (-1)).imp ?_)⟩
  rintro e w51 ⟨rfl, hM, u51⟩
  exact ⟨_, rfl, tru (by decide) ⟨rfl, Upd.then (Upd.then y35 u46 (gOld hg0)) u51 (gOld hg0)⟩⟩
/-! ### Orders -/
theorem placeE_mono {e : E} {a b : Int} (h : a ≤ b) : placeE a e ≤ placeE b e := by
  unfold placeE
  repeat' split
  all_goals omega
theorem shiftX_mono {e : E} (he : 0 ≤ e.at_) {x y : Int} (hx : 0 < x) (h : x ≤ y) : 0 < shiftX e x ∧ shiftX e x ≤ shiftX e y := by
  have h1 := placeE_mono (e := e) (show x - 1 ≤ y - 1 by omega)
  have h2 := placeE_pos he (a := x - 1) (by omega)
  unfold shiftX
  rw [if_pos hx, if_pos (show 0 < y by omega)]
  refine ⟨by split <;> omega, ?_⟩
  split <;> split <;> omega
theorem shift_mono : ∀ {es : List E} {x y : Int}, (∀ e ∈ es, 0 ≤ e.at_) → 0 < x → x ≤ y → 0 < es.foldl (fun x e => shiftX e x) x ∧ es.foldl (fun x e => shiftX e x) x ≤ es.foldl (fun x e => shiftX e x) y
  | [], _, _, _, hx, h => ⟨hx, h⟩
  | e :: r, _, _, he, hx, h => by
    have := shiftX_mono (he e List.mem_cons_self) hx h
    exact shift_mono (es := r) (fun e' h' => he e' (List.mem_cons_of_mem _ h')) this.1 this.2
theorem set_len {xs : List Int} {j : Nat} {x : Int} : (xs.set j x).length = xs.length := by simp
theorem orders_law {w : World} {ok : Nat → Prop} {p : Option Addr} {es : List E} (he : Edits w ok p es) {l : Nat} (hl : l = es.length) (c : Nat) (h63 : es.length ≤ 9223372036854775807) (a b : Int) :
    Does Try.prog 3 #[.int .i64 a, .int .i64 b, .slice p l c] w (Holds w) := by
  subst hl
  apply f3_does
  refine awake_does.imp ?_
  rintro e w13 ⟨rfl, x13⟩
  refine ⟨_, rfl, fls rfl ⟨fun _ => ⟨rfl, x13⟩, fun j0 => ⟨fun _ => ⟨rfl, x13⟩, fun j1 => ⟨fun _ => ⟨rfl, x13⟩, fun j2 => ?_⟩⟩⟩⟩
  have j0 := of_decide_eq_false j0
  have j1 := of_decide_eq_false j1
  have j2 := of_decide_eq_false j2
  refine (room_does (he.ext x13) rfl c 30 h63).imp ?_
  rintro e w28 ⟨rfl, b28, rfl, hroom⟩
  refine ⟨_, rfl, fun _ => ⟨rfl, x13⟩, fun jr => ?_⟩
  have hroom := hroom (by simpa using jr)
  refine ⟨fun x n wl => ∃ k : Nat, x = k ∧ n = es.length - k ∧ k ≤ es.length ∧ (∀ e ∈ es.take k, 0 ≤ e.at_ ∧ e.at_ ≤ 1099511627776) ∧ wl = w28, ⟨_, 0, rfl, rfl, Nat.zero_le _, by simp, rfl⟩, ?_⟩
  rintro _ n wl ⟨k, rfl, rfl, hk, hall, rfl⟩
  refine ⟨fun jj => ?_, fun jj => ?_⟩
  · have jj := of_decide_eq_true jj
    have hlt : k < es.length := by omega
    obtain ⟨bb, o, q1, d1, q2, d2, hp, _, a1, _⟩ := (he.ext x13).at k hlt
    refine ⟨⟨by omega, by omega⟩, bb, o, hp, _, a1, fun _ => ⟨rfl, x13⟩, fun c1 => ⟨⟨by omega, by omega⟩, bb, o, hp, _, a1, fun _ => ⟨rfl, x13⟩, fun c2 => ?_⟩⟩
    have c1 := of_decide_eq_false c1
    have c2 := of_decide_eq_false c2
    refine ⟨inI64 (by omega) (by omega), _, by omega, k + 1, by omega, rfl, hlt, ?_, rfl⟩
    rw [List.take_succ_eq_append_getElem hlt]
    intro e hm
    simp only [List.mem_append, List.mem_singleton] at hm
    rcases hm with hm | rfl
    · exact hall e hm
    · omega
  have jj := of_decide_eq_false jj
  obtain rfl : k = es.length := by omega
  rw [List.take_length] at hall
  refine new_does.imp ?_
  rintro e w51 ⟨g, rfl, hM, hg, x51⟩
  have hg0 : w.heap.size ≤ g := by have := x13.size; omega
  have y51 := Ext.thn x13 x51
  have ma : mayM 97 a = true := by unfold mayM; rw [decide_eq_true (p := 0 ≤ a ∧ a ≤ 1048576) (by omega)]; rfl
  have mb : mayM 98 b = true := by unfold mayM; rw [decide_eq_true (p := 0 ≤ b ∧ b ≤ 1048576) (by omega)]; rfl
  refine ⟨_, rfl, fls rfl ((set_does hM 97 a).imp ?_)⟩
  rintro e w57 ⟨rfl, hM, u57⟩
  rw [if_pos ma] at hM
  refine ⟨_, rfl, fls (by rw [ma]; rfl) ((set_does hM 98 b).imp ?_)⟩
  rintro e w63 ⟨rfl, hM, u63⟩
  rw [if_pos mb] at hM
  have y63 := Upd.then (Upd.then y51 u57 (gOld hg0)) u63 (gOld hg0)
  have he63 : Edits w63 (fun z => z < w.heap.size) p es := (he.ok fun k hk _ => hk).upd (T := fun z => w.heap.size ≤ z) ⟨y63.os, y63.tape, y63.output, y63.size, fun i hi _ => y63.block i hi id⟩ (fun k hk h => by omega)
  refine ⟨_, rfl, fls (by rw [mb]; rfl) ((shift_does hM he63 (fun z hz => by omega) (fun e he => ⟨(hall e he).1, by have := (hall e he).2; omega, by have := (hroom.2 e he).1; omega, by have := (hroom.2 e he).2; omega⟩) rfl c h63).imp ?_)⟩
  rintro e w68 ⟨rfl, hM, u68⟩
  have y68 := Upd.then y63 u68 (gOld hg0)
  have ha : (shiftL es ((zeros26.set (97 - 97 : Int).toNat (a + 1)).set (98 - 97 : Int).toNat (b + 1))).getD (97 - 97 : Int).toNat 0 = es.foldl (fun x e => shiftX e x) (a + 1) := by
    rw [shiftL_get _ _ _ (by simp [zeros26])]; rfl
  have hb : (shiftL es ((zeros26.set (97 - 97 : Int).toNat (a + 1)).set (98 - 97 : Int).toNat (b + 1))).getD (98 - 97 : Int).toNat 0 = es.foldl (fun x e => shiftX e x) (b + 1) := by
    rw [shiftL_get _ _ _ (by simp [zeros26])]; rfl
  have hmono := shift_mono (es := es) (x := a + 1) (y := b + 1) (fun e he => (hall e he).1) (by omega) (by omega)
  refine ⟨rfl, (get_does hM 97 (by decide)).imp ?_⟩
  rintro e w71 ⟨rfl, rfl⟩
  refine ⟨_, _, rfl, (get_does hM 98 (by decide)).imp ?_⟩
  rintro e w76 ⟨rfl, rfl⟩
  rw [ha, hb]
  refine ⟨_, _, rfl, tru (by rw [decide_eq_true (by omega)]) (tru (by rw [decide_eq_true (by omega)]) ?_)⟩
  rw [if_neg (show ¬ es.foldl (fun x e => shiftX e x) (a + 1) = 0 by omega), if_neg (show ¬ es.foldl (fun x e => shiftX e x) (b + 1) = 0 by omega)]
  refine tru (by rw [decide_eq_true_iff]; omega) ⟨?_, y68⟩
  rw [decide_eq_true (by omega)]
/-! ### There and back -/
/-- The place stands outside of what each edit takes, when it comes to it. -/
def Outs : List E → Int → Prop
  | [], _ => True
  | e :: r, p => 0 ≤ e.at_ ∧ ¬ (e.at_ ≤ p ∧ p < e.at_ + e.old.length) ∧ p ≤ 524288 ∧ Outs r (placeE p e)
theorem Outs.snoc : ∀ {es : List E} {e : E} {p : Int}, Outs es p → (0 ≤ e.at_ ∧ ¬ (e.at_ ≤ es.foldl placeE p ∧ es.foldl placeE p < e.at_ + e.old.length) ∧ es.foldl placeE p ≤ 524288) → Outs (es ++ [e]) p
  | [], _, _, _, h => ⟨h.1, h.2.1, h.2.2, trivial⟩
  | _ :: _, _, _, h, h' => ⟨h.1, h.2.1, h.2.2.1, h.2.2.2.snoc h'⟩
theorem Outs.at : ∀ {es : List E} {p : Int}, Outs es p → ∀ e ∈ es, 0 ≤ e.at_
  | [], _, _, _, h => by cases h
  | x :: r, p, h, e, hm => by
    rcases List.mem_cons.1 hm with rfl | hm
    · exact h.1
    · exact h.2.2.2.at e hm
theorem placeE_back {e : E} {p : Int} (h : ¬ (e.at_ ≤ p ∧ p < e.at_ + e.old.length)) : placeE (placeE p e) (turn1 e) = p := by
  unfold turn1
  by_cases hp : p < e.at_
  · have h1 : placeE p e = p := by unfold placeE; rw [if_pos hp]
    rw [h1]; unfold placeE; rw [if_pos hp]
  · have h1 : placeE p e = p + e.new.length - e.old.length := by unfold placeE; rw [if_neg hp, if_pos (by omega)]
    rw [h1]
    unfold placeE
    simp only
    rw [if_neg (by omega), if_pos (by omega)]
    omega
theorem fold_shift : ∀ {es : List E} {p : Int}, 0 ≤ p → Outs es p → (∀ e ∈ es, e.new.length ≤ 300) → es.foldl (fun x e => shiftX e x) (p + 1) = es.foldl placeE p + 1 ∧ 0 ≤ es.foldl placeE p ∧ es.foldl placeE p ≤ (if es = [] then p else 524588)
  | [], p, h0, _, _ => ⟨rfl, h0, by simp⟩
  | e :: r, p, h0, ⟨a1, a2, a3, a4⟩, hn => by
    have hp0 := placeE_pos a1 h0
    have hle : placeE p e ≤ 524588 := by
      have := hn e List.mem_cons_self
      unfold placeE
      split
      · omega
      split <;> omega
    have hs : shiftX e (p + 1) = placeE p e + 1 := by
      unfold shiftX
      rw [if_pos (by omega), show p + 1 - 1 = p by omega, if_neg (by omega)]
    obtain ⟨b1, b2, b3⟩ := fold_shift hp0 a4 (fun e' h' => hn e' (List.mem_cons_of_mem _ h'))
    refine ⟨by rw [List.foldl_cons, List.foldl_cons, hs]; exact b1, b2, ?_⟩
    rw [if_neg (by simp), List.foldl_cons]
    split at b3
    · omega
    · exact b3
theorem shift_back : ∀ {es : List E} {p : Int}, 0 ≤ p → Outs es p → (turnE es).foldl (fun x e => shiftX e x) (es.foldl placeE p + 1) = p + 1
  | [], _, _, _ => rfl
  | e :: r, p, h0, ⟨a1, a2, a3, a4⟩ => by
    have hp0 := placeE_pos a1 h0
    have := shift_back hp0 a4
    rw [show turnE (e :: r) = turnE r ++ [turn1 e] by simp [turnE], List.foldl_append]
    show shiftX (turn1 e) ((turnE r).foldl (fun x e => shiftX e x) (r.foldl placeE (placeE p e) + 1)) = p + 1
    rw [this]
    unfold shiftX
    rw [if_pos (by omega), show placeE p e + 1 - 1 = placeE p e by omega, placeE_back a2, if_neg (by omega)]
theorem back_law {w : World} {ok : Nat → Prop} {p : Option Addr} {es : List E} (he : Edits w ok p es) {l : Nat} (hl : l = es.length) (c : Nat) (h63 : es.length ≤ 9223372036854775807) (a : Int) :
    Does Try.prog 4 #[.int .i64 a, .slice p l c] w (Holds w) := by
  subst hl
  apply f4_does
  refine awake_does.imp ?_
  rintro e w12 ⟨rfl, x12⟩
  refine ⟨_, rfl, fls rfl ⟨fun _ => ⟨rfl, x12⟩, fun j0 => ⟨fun _ => ⟨rfl, x12⟩, fun j1 => ?_⟩⟩⟩
  have j0 := of_decide_eq_false j0
  have j1 := of_decide_eq_false j1
  refine (room_does (he.ext x12) rfl c 20 h63).imp ?_
  rintro e w22 ⟨rfl, b22, rfl, hroom⟩
  refine ⟨_, rfl, fun _ => ⟨rfl, x12⟩, fun jr => ?_⟩
  have hroom := hroom (by simpa using jr)
  refine new_does.imp ?_
  rintro e w25 ⟨g, rfl, hM, hg, x25⟩
  have hg0 : w.heap.size ≤ g := by have := x12.size; omega
  have ma : mayM 113 a = true := by unfold mayM; rw [decide_eq_true (p := 0 ≤ a ∧ a ≤ 1048576) (by omega)]; rfl
  refine ⟨_, rfl, fls rfl ((set_does hM 113 a).imp ?_)⟩
  rintro e w31 ⟨rfl, hM, u31⟩
  rw [if_pos ma] at hM
  have y31 := Upd.then (Ext.thn x12 x25) u31 (gOld hg0)
  have he31 : Edits w31 (fun z => z < w.heap.size) p es := (he.ok fun k hk _ => hk).upd (T := fun z => w.heap.size ≤ z) ⟨y31.os, y31.tape, y31.output, y31.size, fun i hi _ => y31.block i hi id⟩ (fun k hk h => by omega)
  refine ⟨_, rfl, fls (by rw [ma]; rfl) ?_⟩
  refine ⟨fun q x n wl => ∃ k : Nat, x = k ∧ n = es.length - k ∧ k ≤ es.length ∧ Outs (es.take k) a ∧ (∀ e ∈ es.take k, e.at_ ≤ 1099511627776) ∧ q = (es.take k).foldl placeE a ∧ Ext w31 wl, ⟨_, 0, rfl, rfl, Nat.zero_le _, trivial, by simp, rfl, Upd.refl _ _⟩, ?_⟩
  rintro _ _ n wl ⟨k, rfl, rfl, hk, hout, hall, rfl, xl⟩
  have yl := Ext.thn y31 xl
  have hfs := fold_shift (es := es.take k) (p := a) (by omega) hout (fun e h => (hroom.2 e (List.mem_of_mem_take h)).2)
  have hq0 := hfs.2.1
  have hq1 : (es.take k).foldl placeE a ≤ 524588 := by have := hfs.2.2; split at this <;> omega
  refine ⟨fun jj => ?_, fun jj => ?_⟩
  · have jj := of_decide_eq_true jj
    have hlt : k < es.length := by omega
    have hr := hroom.2 _ (List.getElem_mem hlt)
    intro wd hd
    have xd := hd.ext
    have yd := Ext.thn yl xd
    obtain ⟨bb, o, q1, d1, q2, d2, hp, _, a1, a2, a3, _⟩ := (he31.ext (Ext.thn xl xd)).at k hlt
    refine ⟨⟨by omega, by omega⟩, bb, o, hp, _, a1, fun _ => ⟨rfl, yd⟩, fun c1 => ⟨⟨by omega, by omega⟩, bb, o, hp, _, a1, fun _ => ⟨rfl, yd⟩, fun c2 => ⟨⟨by omega, by omega⟩, bb, o, hp, _, a1, ?_⟩⟩⟩
    have c1 := of_decide_eq_false c1
    have c2 := of_decide_eq_false c2
    have hsn : ∀ {ww : World}, Ext w31 ww → ¬ (es[k].at_ ≤ (es.take k).foldl placeE a ∧ (es.take k).foldl placeE a < es[k].at_ + es[k].old.length) → (es.take k).foldl placeE a ≤ 524288 → ∀ v, v = placeE ((es.take k).foldl placeE a) es[k] →
        InK .i64 ((k : Int) + 1) ∧ ∃ ml10, ml10 < es.length - k ∧ ∃ k' : Nat, (k : Int) + 1 = k' ∧ ml10 = es.length - k' ∧ k' ≤ es.length ∧ Outs (es.take k') a ∧ (∀ e ∈ es.take k', e.at_ ≤ 1099511627776) ∧ v = (es.take k').foldl placeE a ∧ Ext w31 ww := by
      intro ww hx h1 h2 v hv
      refine ⟨inI64 (by omega) (by omega), _, by omega, k + 1, by omega, rfl, hlt, ?_, ?_, ?_, hx⟩
      · rw [List.take_succ_eq_append_getElem hlt]
        exact hout.snoc ⟨by omega, h1, h2⟩
      · rw [List.take_succ_eq_append_getElem hlt]
        intro e hm
        simp only [List.mem_append, List.mem_singleton] at hm
        rcases hm with hm | rfl
        · exact hall e hm
        · omega
      · rw [List.take_succ_eq_append_getElem hlt, List.foldl_append]
        exact hv
    refine ⟨fun c3 => ⟨⟨by omega, by omega⟩, bb, o, hp, _, a1, ⟨by omega, by omega⟩, bb, o, hp, _, _, _, a2, inI64 (by omega) (by omega), fun _ => ⟨rfl, yd⟩, fun c4 => ⟨fun _ => ⟨rfl, yd⟩, fun c5 => ⟨⟨by omega, by omega⟩, bb, o, hp, _, a1, fun c6 we he2 => ?_, fun c6 => ?_⟩⟩⟩, fun c3 => ⟨fun _ => ⟨rfl, yd⟩, fun c5 => ⟨⟨by omega, by omega⟩, bb, o, hp, _, a1, fun c6 => ?_, fun c6 => ?_⟩⟩⟩
    · have c3 := of_decide_eq_true c3
      have c4 := of_decide_eq_false c4
      have c5 := of_decide_eq_false c5
      have xe := he2.ext
      refine ⟨⟨by omega, by omega⟩, bb, o, hp, _, _, _, xe.cell a2, inI64 (by omega) (by omega), ⟨by omega, by omega⟩, bb, o, hp, _, _, _, xe.cell a3, inI64 (by omega) (by omega), hsn (Ext.thn (Ext.thn xl xd) xe) (by omega) (by omega) _ ?_⟩
      rw [placeE, if_neg (show ¬ (es.take k).foldl placeE a < es[k].at_ by omega), if_pos (show (es.take k).foldl placeE a - es[k].at_ ≥ es[k].old.length by omega)]
      omega
    · have c3 := of_decide_eq_true c3
      have c6 := of_decide_eq_false c6
      omega
    · have c3 := of_decide_eq_false c3
      have c6 := of_decide_eq_true c6
      omega
    · have c3 := of_decide_eq_false c3
      have c5 := of_decide_eq_false c5
      refine hsn (Ext.thn xl xd) (by omega) (by omega) _ ?_
      rw [placeE, if_pos (show (es.take k).foldl placeE a < es[k].at_ by omega)]
  have jj := of_decide_eq_false jj
  obtain rfl : k = es.length := by omega
  rw [List.take_length] at hout hall hfs hq0 hq1 ⊢
  have hok : ∀ e ∈ es, OkE e := fun e hm => by
    have h1 := hroom.2 e hm
    have h2 := hall e hm
    have h3 := hout.at e hm
    exact ⟨h3, by omega, by omega, by omega⟩
  refine (shift_does (hM.ext xl) (he31.ext xl) (fun z hz => by omega) hok rfl c h63).imp ?_
  rintro e w108 ⟨rfl, hM, u108⟩
  have y108 := Upd.then yl u108 (gOld hg0)
  have h113 : (shiftL es (zeros26.set (113 - 97 : Int).toNat (a + 1))).getD (113 - 97 : Int).toNat 0 = es.foldl placeE a + 1 := by
    rw [shiftL_get _ _ _ (by simp [zeros26])]
    exact hfs.1
  refine ⟨rfl, (get_does hM 113 (by decide)).imp ?_⟩
  rintro e w111 ⟨rfl, rfl⟩
  rw [h113]
  have he108 : Edits w111 (fun z => z < w.heap.size) p es := (he31.ext xl).upd u108 (fun k hk e => by have e : k = g := e; omega)
  refine ⟨_, _, rfl, (rturn_does he108 rfl c (by have := hroom.1; omega) (fun e hm => by have := hroom.2 e hm; omega)).imp ?_⟩
  rintro e w116 ⟨p', c', rfl, own, x116⟩
  have hgl := hM.lt
  have ⟨_, ed⟩ := own.rs EditV.widens (by decide)
  have htl : (turnE es).length = es.length := by simp [turnE]
  refine ⟨_, _, _, rfl, (shift_does (hM.ext x116) ed (fun z hz => by omega) (fun e hm => ?_) htl.symm c' (by rw [htl]; exact h63)).imp ?_⟩
  · simp only [turnE, List.mem_reverse, List.mem_map] at hm
    obtain ⟨x, hx, rfl⟩ := hm
    have := hok x hx
    exact ⟨this.1, this.2.1, this.2.2.2, this.2.2.1⟩
  rintro e w117 ⟨rfl, hM, u117⟩
  have h113' : (shiftL (turnE es) (shiftL es (zeros26.set (113 - 97 : Int).toNat (a + 1)))).getD (113 - 97 : Int).toNat 0 = a + 1 := by
    rw [shiftL_get _ _ _ (by rw [shiftL_length]; simp [zeros26]), h113]
    exact shift_back (by omega) hout
  refine ⟨rfl, (get_does hM 113 (by decide)).imp ?_⟩
  rintro e w120 ⟨rfl, rfl⟩
  rw [h113']
  refine ⟨_, _, rfl, tru (by rw [decide_eq_true (by omega)]) (tru (by rw [decide_eq_true (by omega)]) ?_)⟩
  rw [if_neg (show ¬ es.foldl placeE a + 1 = 0 by omega), if_neg (show ¬ a + 1 = 0 by omega)]
  refine tru (by rw [beq_iff_eq]; omega) ⟨?_, Upd.then (Ext.thn y108 x116) u117 (gOld hg0)⟩
  rw [show (a + 1 - 1 == a) = true by rw [beq_iff_eq]; omega]
end Go.Proofs.Ytnjacafdoggmaaa
