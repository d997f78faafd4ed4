/-
  Edits: the statements' functions answer true.
-/
import Derived.Test.YtjcdenfbmeleeaaEditLaws
namespace Go.Proofs.Ytjcdenfbmeleeaa
open Go.RowKit Go.Vc
/-- It returns true; nothing that was there has turned. -/
def Holds (w : World) (e : Ending) (w' : World) : Prop := e = .returned (.bool true) ∧ Ext w w'
theorem known_does {w : World} : Does Try.prog 3 #[] w (Holds w) := by
  apply f3_does
  refine awake_does.imp ?_
  rintro e w3 ⟨rfl, x3⟩
  refine ⟨_, rfl, fls rfl fun b6 w6 n6 => ?_⟩
  obtain ⟨w7, r7, x7, i7, _⟩ := conv_const Try.underlying23 Try.underlying5 n6 3 3 (xs := [97, 98, 99]) rfl (by decide)
  refine ⟨_, _, _, w7, r7, fun b8 w8 n8 => ?_⟩
  obtain ⟨w9, r9, x9, i9, _⟩ := conv_const Try.underlying23 Try.underlying5 n8 1 1 (xs := [99]) rfl (by decide)
  refine ⟨_, _, _, w9, r9, fun b10 w10 n10 => ?_⟩
  obtain ⟨w11, r11, x11, i11, _⟩ := conv_const Try.underlying23 Try.underlying5 n10 1 1 (xs := [120]) rfl (by decide)
  refine ⟨_, _, _, w11, r11, (apply_does (e := ⟨1, [99], [120]⟩) ((i7.any.ext x9).ext x11) (i9.any.ext x11) i11.any (by decide) (by decide) rfl).imp ?_⟩
  rintro e w13 ⟨x13, rfl⟩
  have y13 : Ext w w13 := Ext.thn (Ext.thn (Ext.thn (Ext.thn x3 x7) x9) x11) x13
  refine ⟨_, _, _, _, rfl, tru rfl fun b19 w19 n19 => ?_⟩
  obtain ⟨w20, r20, x20, i20, _⟩ := conv_const Try.underlying23 Try.underlying5 n19 1 1 (xs := [98]) rfl (by decide)
  refine ⟨_, _, _, w20, r20, fun b21 w21 n21 => ?_⟩
  obtain ⟨w22, r22, x22, i22, _⟩ := conv_const Try.underlying23 Try.underlying5 n21 2 2 (xs := [120, 121]) rfl (by decide)
  refine ⟨_, _, _, w22, r22, (place_does (e := ⟨1, [98], [120, 121]⟩) _ _ _ _ (by decide) (by decide) (by decide) (by decide) (by decide) (by decide)).imp ?_⟩
  rintro e w24 ⟨rfl, x24⟩
  refine ⟨_, rfl, tru rfl fun b28 w28 n28 => ?_⟩
  obtain ⟨w29, r29, x29, i29, _⟩ := conv_const Try.underlying23 Try.underlying5 n28 1 1 (xs := [120]) rfl (by decide)
  refine ⟨_, _, _, w29, r29, (place_does (e := ⟨0, [], [120]⟩) _ _ _ _ (by decide) (by decide) (by decide) (by decide) (by decide) (by decide)).imp ?_⟩
  rintro e w31 ⟨rfl, x31⟩
  exact ⟨_, rfl, rfl, Ext.thn (Ext.thn (Ext.thn (Ext.thn (Ext.thn y13 x20) x22) x24) x29) x31⟩
theorem back_does {w : World} {p q : Option Addr} {xs : List Int} {es : List E} {ok ok' : Nat → Prop} (hx : Ints .u8 w ok p xs) (he : Edits w ok' q es) {l m : Nat} (hl : l = xs.length) (hm : m = es.length) (c d : Nat)
    (hes : es.length ≤ 9223372036854775807) : Does Try.prog 4 #[.slice p l c, .slice q m d] w (Holds w) := by
  subst hl hm
  apply f4_does
  refine awake_does.imp ?_
  rintro e w9 ⟨rfl, x9⟩
  refine ⟨_, rfl, fls rfl ⟨fun _ => ⟨rfl, x9⟩, fun h => ?_⟩⟩
  have h := of_decide_eq_false h
  refine (room_does (he.ext x9) rfl d 30 hes).imp ?_
  rintro e w16 ⟨rfl, b, rfl, hb⟩
  refine ⟨_, rfl, fun _ => ⟨rfl, x9⟩, fun hb' => ?_⟩
  have hb := hb (by simpa using hb')
  have hf := few_of hb
  have hxw := hx.ext x9
  have hew := he.ext x9
  refine (all_does hxw hew (by omega) hf rfl rfl c d).imp ?_
  rintro e w22 ⟨x22, hr⟩
  have y22 := Ext.thn x9 x22
  have turned : ∀ {w'}, Ext w w' → ∀ (S : Ending → World → Prop), (∀ e w'', (∃ p' c', e = .returned (.slice p' es.length c') ∧ Edits w'' (fun g => w'.heap.size ≤ g ∧ g < w''.heap.size) p' (turnE es) ∧ Ext w' w'') → S e w'') → Does Try.prog 14 #[.slice q es.length d] w' S := fun hw S hS =>
    (turn_does (he.ext hw) rfl d (by omega) (fun e h => by have := hb.2 e h; omega)).imp fun e w'' ⟨p', c', h1, h2, h3⟩ => hS e w'' ⟨p', c', h1, (h2.rs EditV.widens (by decide)).2, h3⟩
  -- turned twice
  have twice : ∀ {w'}, Ext w w' → ∀ (S : Ending → World → Prop), (∀ w'', Ext w' w'' → S (.returned (.bool true)) w'') →
      Does Try.prog 14 #[.slice q es.length d] w' fun e26 w26 => ∃ (p26 : Option Addr) (l26 c26 : Nat), e26 = .returned (.slice p26 l26 c26) ∧ Does Try.prog 14 #[.slice p26 l26 c26] w26 fun e27 w27 =>
        ∃ (p27 : Option Addr) (l27 c27 : Nat), e27 = .returned (.slice p27 l27 c27) ∧ Does Try.prog 13 #[.slice p27 l27 c27, .slice q es.length d] w27 S := fun hw S hS => turned hw _ (by
    rintro e w'' ⟨p', c', rfl, ed, xw⟩
    refine ⟨_, _, _, rfl, (turn_does ed (turnE_length es).symm _ (by rw [turnE_length]; omega) (fun e h => by have := (FewE.turn hf).2 e h; omega)).imp ?_⟩
    rintro e w3 ⟨p3, c3, rfl, own3, x3⟩
    have ed3 := (own3.rs EditV.widens (by decide)).2
    rw [turnE_turnE] at ed3
    refine ⟨_, _, _, rfl, (rsame_does ed3 (he.ext (Ext.thn (Ext.thn hw xw) x3)) rfl rfl _ _ (by omega) (fun e h => by have := hb.2 e h; omega)).imp ?_⟩
    rintro e w4 ⟨rfl, x4⟩
    rw [decide_eq_true rfl]
    exact hS _ (Ext.thn (Ext.thn xw x3) x4))
  cases ha : allE xs es with
  | none =>
    rw [ha] at hr
    subst hr
    refine ⟨_, _, _, _, rfl, twice y22 _ fun w29 x29 => ⟨_, rfl, fls rfl (tru (by decide) ⟨rfl, Ext.thn y22 x29⟩)⟩⟩
  | some ys =>
    rw [ha] at hr
    obtain ⟨p22, c22, rfl, own22, k22, l22⟩ := hr
    refine ⟨_, _, _, _, rfl, twice y22 _ fun w29 x29 => ⟨_, rfl, fls rfl (fls (by decide) ?_)⟩⟩
    have y29 := Ext.thn y22 x29
    refine turned y29 _ ?_
    rintro e w39 ⟨p39, c39, rfl, ed39, x39⟩
    refine ⟨_, _, _, rfl, (all_does ((own22.any k22).ext (Ext.thn x29 x39)) ed39 (by omega) hf.turn rfl (turnE_length es).symm _ _).imp ?_⟩
    rintro e w40 ⟨x40, hr⟩
    rw [allE_back ha] at hr
    obtain ⟨p40, c40, rfl, own40, k40, l40⟩ := hr
    have y40 := Ext.thn (Ext.thn y29 x39) x40
    refine ⟨_, _, _, _, rfl, tru rfl ((same_does (own40.any k40) (hx.ext y40) rfl rfl _ _ (by omega)).imp ?_)⟩
    rintro e w48 ⟨rfl, x48⟩
    exact ⟨_, rfl, by simp, Ext.thn y40 x48⟩
theorem places_does {w : World} {p po pn : Option Addr} {c co cn : Nat} {xs : List Int} {e : E} {ok ok' : Nat → Prop} (hx : Ints .u8 w ok p xs) (ho : Ints .u8 w ok' po e.old) (hn : Ints .u8 w ok' pn e.new)
    (hl : xs.length ≤ c) {l : Nat} (hll : l = xs.length) (at_ : Int) : Does Try.prog 5 #[.slice p l c, .agg #[.int .i64 e.at_, .slice po e.old.length co, .slice pn e.new.length cn], .int .i64 at_] w (Holds w) := by
  subst hll
  apply f5_does
  intro b4 w4 n4
  refine awake_does.imp ?_
  rintro r w12 ⟨rfl, x12⟩
  have y12 := Ext.thn n4.ext x12
  refine ⟨_, rfl, fls rfl ⟨fun _ => ⟨rfl, y12⟩, fun h => ?_⟩⟩
  have h := of_decide_eq_false h
  refine ⟨_, _, _, x12.cell (n4.cell 1 rfl), fun _ => ⟨rfl, y12⟩, fun h1 => ?_⟩
  have h1 := of_decide_eq_false h1
  refine ⟨_, _, _, x12.cell (n4.cell 2 rfl), fun _ => ⟨rfl, y12⟩, fun h2 => ?_⟩
  have h2 := of_decide_eq_false h2
  refine ⟨_, x12.cell (n4.cell 0 rfl), _, _, _, x12.cell (n4.cell 1 rfl), _, _, _, x12.cell (n4.cell 2 rfl), (apply_does (e := e) (hx.ext y12) (ho.ext y12) (hn.ext y12) hl (by omega) rfl).imp ?_⟩
  rintro r w32 ⟨x32, hr⟩
  have y32 := Ext.thn y12 x32
  have z32 := Ext.thn x12 x32
  cases ha : applyE xs e with
  | none =>
    rw [ha] at hr
    subst hr
    exact ⟨_, _, _, _, rfl, tru (by decide) ⟨rfl, y32⟩⟩
  | some ys =>
    rw [ha] at hr
    obtain ⟨p32, c32, rfl, own32⟩ := hr
    refine ⟨_, _, _, _, rfl, fls (by decide) ⟨fun _ => ⟨rfl, y32⟩, fun h3 => ⟨fun _ => ⟨rfl, y32⟩, fun h4 => ?_⟩⟩⟩
    have h3 := of_decide_eq_false h3
    have h4 := of_decide_eq_false h4
    have hk := applyE_some ha
    obtain ⟨l1, l2, l3, l4⟩ := place_law ha (at_ := at_) (by omega) (by omega)
    refine ⟨_, z32.cell (n4.cell 0 rfl), _, _, _, z32.cell (n4.cell 1 rfl), _, _, _, z32.cell (n4.cell 2 rfl), (place_does (e := e) _ _ _ _ (by omega) (by omega) (by omega) (by omega) (by omega) (by omega)).imp ?_⟩
    rintro r w49 ⟨rfl, x49⟩
    have z49 := Ext.thn z32 x49
    refine ⟨_, rfl, inI64 (by omega) (by omega), _, z49.cell (n4.cell 0 rfl), _, _, _, z49.cell (n4.cell 1 rfl), _, _, _, z49.cell (n4.cell 2 rfl), (place_does (e := e) _ _ _ _ (by omega) (by omega) (by omega) (by omega) (by omega) (by omega)).imp ?_⟩
    rintro r w53 ⟨rfl, x53⟩
    have z53 := Ext.thn z49 x53
    have fin : ∀ {w'}, Ext w53 w' → ∀ (S : Ending → World → Prop), (∀ w'', Ext w' w'' → S (.returned (.int .i64 (placeE at_ e))) w'') → Does Try.prog 16 #[.int .i64 at_, .agg #[.int .i64 e.at_, .slice po e.old.length co, .slice pn e.new.length cn]] w' S := fun hw S hS =>
      (rplace_does (e := e) _ _ _ _ (by omega) (by omega) (by omega) (by omega) (by omega) (by omega)).imp (by rintro r w'' ⟨rfl, xx⟩; exact hS _ xx)
    have same : ∀ {w'}, Ext w53 w' → (at_ < e.at_ ∨ at_ ≥ e.at_ + e.old.length) → ∃ b o, p32 = some ⟨b, o, none⟩ ∧ ∃ n, w'.cell? ⟨b, o + (placeE at_ e).toNat, none⟩ = some (.int .u8 n) ∧ ∃ b' o', p = some ⟨b', o', none⟩ ∧ w'.cell? ⟨b', o' + at_.toNat, none⟩ = some (.int .u8 n) := by
      intro w' hw hout
      obtain ⟨l5, l6⟩ := l4 hout
      have ey : Ext w32 w' := Ext.thn (Ext.thn x49 x53) hw
      obtain ⟨b, o, e1, e2⟩ := Ints.at ((own32.any (applyE_inK ha hx.inK hn.inK)).ext ey) (placeE at_ e).toNat (by omega)
      obtain ⟨b', o', e3, e4⟩ := Ints.at (hx.ext (Ext.thn y32 ey)) at_.toNat (by omega)
      rw [List.getElem?_eq_getElem (by omega), List.getElem?_eq_getElem (by omega)] at l6
      injection l6 with l6
      rw [l6] at e2
      exact ⟨b, o, e1, _, e2, b', o', e3, e4⟩
    refine ⟨_, rfl, _, z53.cell (n4.cell 0 rfl), fun h5 => ?_, fun h5 => ?_⟩
    · have h5 := of_decide_eq_true h5
      intro wd hd
      have zd := Ext.thn z53 hd.ext
      have yd := Ext.thn n4.ext zd
      obtain ⟨l5, l6⟩ := l4 (.inl h5)
      obtain ⟨b, o, e1, n, e2, b', o', e3, e4⟩ := same hd.ext (.inl h5)
      refine tru (decide_eq_true l1) (tru (decide_eq_true l2) (tru (decide_eq_true l3) (tru (decide_eq_true l5) ⟨⟨l2, l5⟩, b, o, e1, n, e2, ⟨by omega, by omega⟩, b', o', e3, n, e4, tru (by simp) ?_⟩)))
      refine ⟨_, zd.cell (n4.cell 0 rfl), _, _, _, zd.cell (n4.cell 1 rfl), _, _, _, zd.cell (n4.cell 2 rfl), fin hd.ext _ fun w'' xx => ⟨_, rfl, ?_⟩⟩
      rw [beq_self_eq_true]
      exact ⟨rfl, Ext.thn yd xx⟩
    · have h5 := of_decide_eq_false h5
      refine ⟨_, z53.cell (n4.cell 0 rfl), _, _, _, z53.cell (n4.cell 1 rfl), inI64 (by omega) (by omega), fun wd hd => ?_⟩
      have zd := Ext.thn z53 hd.ext
      have yd := Ext.thn n4.ext zd
      refine tru (decide_eq_true l1) (tru (decide_eq_true l2) (tru (decide_eq_true l3) ⟨fun h6 => ?_, fun h6 => ?_⟩))
      · refine ⟨_, zd.cell (n4.cell 0 rfl), _, _, _, zd.cell (n4.cell 1 rfl), _, _, _, zd.cell (n4.cell 2 rfl), fin hd.ext _ fun w'' xx => ⟨_, rfl, ?_⟩⟩
        rw [beq_self_eq_true]
        exact ⟨rfl, Ext.thn yd xx⟩
      · have h6 : at_ ≥ e.at_ + e.old.length := yes_dec h6
        obtain ⟨l5, l6⟩ := l4 (.inr h6)
        obtain ⟨b, o, e1, n, e2, b', o', e3, e4⟩ := same hd.ext (.inr h6)
        refine tru (decide_eq_true l5) ⟨⟨l2, l5⟩, b, o, e1, n, e2, ⟨by omega, by omega⟩, b', o', e3, n, e4, tru (by simp) ?_⟩
        refine ⟨_, zd.cell (n4.cell 0 rfl), _, _, _, zd.cell (n4.cell 1 rfl), _, _, _, zd.cell (n4.cell 2 rfl), fin hd.ext _ fun w'' xx => ⟨_, rfl, ?_⟩⟩
        rw [beq_self_eq_true]
        exact ⟨rfl, Ext.thn yd xx⟩
theorem cut_law (a : Int) (n : Nat) (hn : n ≤ 1000000) : 0 ≤ ((((a.tmod ((n : Int) + 1)) + n) + 1).tmod ((n : Int) + 1)) ∧ ((((a.tmod ((n : Int) + 1)) + n) + 1).tmod ((n : Int) + 1)) ≤ n ∧ -1000001 ≤ a.tmod ((n : Int) + 1) ∧ a.tmod ((n : Int) + 1) ≤ 1000001 ∧ -(n : Int) - 1 < a.tmod ((n : Int) + 1) := by
  have h1 := Int.lt_tmod_of_pos a (show (0 : Int) < (n : Int) + 1 by omega)
  have h2 := Int.tmod_lt_of_pos a (show (0 : Int) < (n : Int) + 1 by omega)
  have h3 := Int.tmod_nonneg ((n : Int) + 1) (show 0 ≤ ((a.tmod ((n : Int) + 1)) + n) + 1 by omega)
  have h4 := Int.tmod_lt_of_pos (((a.tmod ((n : Int) + 1)) + n) + 1) (show (0 : Int) < (n : Int) + 1 by omega)
  omega
theorem parts_does {w : World} {p q : Option Addr} {xs : List Int} {es : List E} {ok ok' : Nat → Prop} (hx : Ints .u8 w ok p xs) (he : Edits w ok' q es) {l m : Nat} (hl : l = xs.length) (hm : m = es.length) (c d : Nat)
    (hes : es.length ≤ 9223372036854775807) (hd : es.length ≤ d) (cut : Int) : Does Try.prog 6 #[.slice p l c, .slice q m d, .int .i64 cut] w (Holds w) := by
  subst hl hm
  apply f6_does
  refine awake_does.imp ?_
  rintro e w14 ⟨rfl, x14⟩
  refine ⟨_, rfl, fls rfl ⟨fun _ => ⟨rfl, x14⟩, fun h => ?_⟩⟩
  have h := of_decide_eq_false h
  refine (room_does (he.ext x14) rfl d 30 hes).imp ?_
  rintro e w21 ⟨rfl, b, rfl, hb⟩
  refine ⟨_, rfl, fun _ => ⟨rfl, x14⟩, fun hb' => ?_⟩
  have hb := hb (by simpa using hb')
  have hf := few_of hb
  obtain ⟨c1, c2, c3, c4, c5⟩ := cut_law cut es.length (by omega)
  refine ⟨inI64 (by omega) (by omega), by omega, inI64 (by omega) (by omega), inI64 (by omega) (by omega), inI64 (by omega) (by omega), by omega, ?_⟩
  generalize hk : ((((cut.tmod ((es.length : Int) + 1)) + es.length) + 1).tmod ((es.length : Int) + 1)) = k at c1 c2 ⊢
  refine (copy_does (hx.ext x14) rfl c (by omega)).imp ?_
  rintro e w38 ⟨p38, c38, rfl, own38, x38⟩
  have y38 := Ext.thn x14 x38
  refine ⟨_, _, _, rfl, (all_does (hx.ext y38) (he.ext y38) (by omega) hf rfl rfl c d).imp ?_⟩
  rintro e w42 ⟨x42, hr42⟩
  have y42 := Ext.thn y38 x42
  have hsplit : allE xs es = (allE xs (es.take k.toNat)).bind (fun c => allE c (es.drop k.toNat)) := by rw [← allE_append, List.take_append_drop]
  have he1 : Edits w ok' (subp q 0 d 3) (es.take k.toNat) := he.sub 0 k.toNat d (by omega)
  have he2 : Edits w ok' (subp q k.toNat d 3) (es.drop k.toNat) := by have := he.sub k.toNat es.length d hd; rwa [List.take_length] at this
  have hf1 : FewE (es.take k.toNat) := ⟨by have := hf.1; simp; omega, fun e h => hf.2 e (List.mem_of_mem_take h)⟩
  have hf2 : FewE (es.drop k.toNat) := ⟨by have := hf.1; simp; omega, fun e h => hf.2 e (List.mem_of_mem_drop h)⟩
  have first : ∃ (p42 : Option Addr) (l42 c42 : Nat) (n42 : Int), e = .returned (.tuple #[.slice p42 l42 c42, .int .i64 n42]) ∧ (allE xs es = none → n42 = 1 ∧ l42 = 0) ∧ (∀ ys, allE xs es = some ys → n42 = 0 ∧ l42 = ys.length ∧ ys.length ≤ 100000000 ∧ Ints .u8 w42 (fun _ => True) p42 ys) := by
    cases ha : allE xs es with
    | none => rw [ha] at hr42; subst hr42; exact ⟨_, _, _, _, rfl, fun _ => ⟨rfl, rfl⟩, fun ys h => by cases h⟩
    | some ys =>
      rw [ha] at hr42
      obtain ⟨p42, c42, rfl, own42, k42, l42⟩ := hr42
      refine ⟨_, _, _, _, rfl, (fun h => by cases h), fun ys' h => ?_⟩
      injection h with h; subst h
      exact ⟨rfl, rfl, by omega, own42.any k42⟩
  obtain ⟨p42, l42, c42, n42, rfl, no42, yes42⟩ := first
  refine ⟨_, _, _, _, rfl, ⟨c1, by omega⟩, ?_⟩
  refine (all_does (hx.ext y42) (he1.ext y42) (by omega) hf1 rfl (by simp; omega) c (d - 0)).imp ?_
  rintro e w50 ⟨x50, hr50⟩
  have y50 := Ext.thn y42 x50
  cases ha : allE xs (es.take k.toNat) with
  | none =>
    rw [ha] at hr50
    subst hr50
    have hnone : allE xs es = none := by rw [hsplit, ha]; rfl
    obtain ⟨rfl, rfl⟩ := no42 hnone
    refine ⟨_, _, _, _, rfl, ⟨c1, c2⟩, (all_does (xs := []) (ok := fun _ => True) RS.nil (he2.ext y50) (by simp) hf2 rfl (by simp) 0 _).imp ?_⟩
    rintro e w58 ⟨x58, hr58⟩
    have y58 := Ext.thn y50 x58
    have fin : ∃ (p58 : Option Addr) (l58 c58 : Nat) (n58 : Int), e = .returned (.tuple #[.slice p58 l58 c58, .int .i64 n58]) := by
      cases hb : allE [] (es.drop k.toNat) with
      | none => rw [hb] at hr58; exact ⟨_, _, _, _, hr58⟩
      | some ys => rw [hb] at hr58; obtain ⟨p, c, h, _⟩ := hr58; exact ⟨_, _, _, _, h⟩
    obtain ⟨p58, l58, c58, n58, rfl⟩ := fin
    refine ⟨_, _, _, _, rfl, (same_does (hx.ext y58) ((own38.any hx.inK).ext (Ext.thn (Ext.thn x42 x50) x58)) rfl rfl _ _ (by omega)).imp ?_⟩
    rintro e w63 ⟨rfl, x63⟩
    exact ⟨_, rfl, fls (by simp) (tru (by decide) (tru rfl ⟨rfl, Ext.thn y58 x63⟩))⟩
  | some ys =>
    rw [ha] at hr50
    obtain ⟨p50, c50, rfl, own50, k50, l50⟩ := hr50
    have l50' : ys.length ≤ 1000000000 := by
      have h1 := hf1.1
      have h2 : (es.take k.toNat).length ≤ 30 := by simp; omega
      omega
    have hsp : allE xs es = allE ys (es.drop k.toNat) := by rw [hsplit, ha]; rfl
    refine ⟨_, _, _, _, rfl, ⟨c1, c2⟩, (all_does (own50.any k50) (he2.ext y50) l50' hf2 rfl (by simp) _ _).imp ?_⟩
    rintro e w58 ⟨x58, hr58⟩
    have y58 := Ext.thn y50 x58
    have z58 := Ext.thn (Ext.thn x42 x50) x58
    cases hb : allE ys (es.drop k.toNat) with
    | none =>
      rw [hb] at hr58
      subst hr58
      obtain ⟨rfl, rfl⟩ := no42 (hsp.trans hb)
      refine ⟨_, _, _, _, rfl, (same_does (hx.ext y58) ((own38.any hx.inK).ext z58) rfl rfl _ _ (by omega)).imp ?_⟩
      rintro e w63 ⟨rfl, x63⟩
      refine ⟨_, rfl, fls (by simp) (fls (by decide) (tru rfl ((same_does (xs := []) (ys := []) (ok := fun _ => True) (ok' := fun _ => True) RS.nil RS.nil rfl rfl _ _ (by simp)).imp ?_)))⟩
      rintro e w81 ⟨rfl, x81⟩
      exact ⟨_, rfl, by simp, Ext.thn (Ext.thn y58 x63) x81⟩
    | some zs =>
      rw [hb] at hr58
      obtain ⟨p58, c58, rfl, own58, k58, l58⟩ := hr58
      obtain ⟨rfl, rfl, hz, i42⟩ := yes42 _ (hsp.trans hb)
      refine ⟨_, _, _, _, rfl, (same_does (hx.ext y58) ((own38.any hx.inK).ext z58) rfl rfl _ _ (by omega)).imp ?_⟩
      rintro e w63 ⟨rfl, x63⟩
      refine ⟨_, rfl, fls (by simp) (fls (by decide) (tru rfl ((same_does (i42.ext (Ext.thn (Ext.thn x50 x58) x63)) ((own58.any k58).ext x63) rfl rfl _ _ (by omega)).imp ?_)))⟩
      rintro e w81 ⟨rfl, x81⟩
      exact ⟨_, rfl, by simp, Ext.thn (Ext.thn y58 x63) x81⟩
theorem applies_does {w : World} {p q r : Option Addr} {xs : List Int} {es ks : List E} {ok ok' ok2 : Nat → Prop} (hx : Ints .u8 w ok p xs) (he : Edits w ok' q es) (hk : Edits w ok2 r ks) {l m n : Nat} (hl : l = xs.length) (hm : m = es.length) (hn : n = ks.length)
    (c d f : Nat) (hes : es.length ≤ 9223372036854775807) (hks : ks.length ≤ 9223372036854775807) : Does Try.prog 7 #[.slice p l c, .slice q m d, .slice r n f] w (Holds w) := by
  subst hl hm hn
  apply f7_does
  refine awake_does.imp ?_
  rintro e w11 ⟨rfl, x11⟩
  refine ⟨_, rfl, fls rfl ⟨fun _ => ⟨rfl, x11⟩, fun h => ?_⟩⟩
  have h := of_decide_eq_false h
  refine (room_does (he.ext x11) rfl d 30 hes).imp ?_
  rintro e w18 ⟨rfl, b, rfl, hb⟩
  refine ⟨_, rfl, fun _ => ⟨rfl, x11⟩, fun hb' => ?_⟩
  have hb := hb (by simpa using hb')
  have hf := few_of hb
  refine (room_does (hk.ext x11) rfl f 30 hks).imp ?_
  rintro e w23 ⟨rfl, b, rfl, hb2⟩
  refine ⟨_, rfl, fun _ => ⟨rfl, x11⟩, fun hb' => ?_⟩
  refine (all_does (hx.ext x11) (he.ext x11) (by omega) hf rfl rfl c d).imp ?_
  rintro e w29 ⟨x29, hr29⟩
  have y29 := Ext.thn x11 x29
  have two : ∃ (p29 : Option Addr) (l29 c29 : Nat) (n29 : Int), e = .returned (.tuple #[.slice p29 l29 c29, .int .i64 n29]) ∧ Does Try.prog 18 #[.slice p xs.length c, .slice q es.length d] w29 fun e35 w35 =>
      ∃ (p35 : Option Addr) (l35 c35 : Nat) (n35 : Int), e35 = .returned (.tuple #[.slice p35 l35 c35, .int .i64 n35]) ∧ n29 = n35 ∧ Ext w29 w35 ∧ ∃ ys, l29 = ys.length ∧ l35 = ys.length ∧ Ints .u8 w35 (fun _ => True) p29 ys ∧ Ints .u8 w35 (fun _ => True) p35 ys ∧ ys.length ≤ 100000000 := by
    cases ha : allE xs es with
    | none =>
      rw [ha] at hr29
      subst hr29
      refine ⟨_, _, _, _, rfl, (rall_does (hx.ext y29) (he.ext y29) (by omega) hf rfl rfl c d).imp ?_⟩
      rintro e w35 ⟨x35, hr35⟩
      rw [ha] at hr35
      subst hr35
      exact ⟨_, _, _, _, rfl, rfl, x35, [], rfl, rfl, RS.nil, RS.nil, by simp⟩
    | some ys =>
      rw [ha] at hr29
      obtain ⟨p29, c29, rfl, own29, k29, l29⟩ := hr29
      refine ⟨_, _, _, _, rfl, (rall_does (hx.ext y29) (he.ext y29) (by omega) hf rfl rfl c d).imp ?_⟩
      rintro e w35 ⟨x35, hr35⟩
      rw [ha] at hr35
      obtain ⟨p35, c35, rfl, own35, k35, l35⟩ := hr35
      exact ⟨_, _, _, _, rfl, rfl, x35, ys, rfl, rfl, (own29.any k29).ext x35, own35.any k35, by omega⟩
  obtain ⟨p29, l29, c29, n29, rfl, hd⟩ := two
  refine ⟨_, _, _, _, rfl, hd.imp ?_⟩
  rintro e w35 ⟨p35, l35, c35, n35, rfl, rfl, x35, ys, rfl, rfl, i1, i2, hys⟩
  have y35 := Ext.thn y29 x35
  refine ⟨_, _, _, _, rfl, tru (by simp) ((same_does i1 i2 rfl rfl _ _ (by omega)).imp ?_)⟩
  rintro e w44 ⟨rfl, x44⟩
  have y44 := Ext.thn y35 x44
  have hbig : ∀ e ∈ es, e.old.length ≤ 1000000000 ∧ e.new.length ≤ 1000000000 := fun e h => by have := hb.2 e h; omega
  refine ⟨_, rfl, tru (by simp) ((turn_does (he.ext y44) rfl d (by omega) hbig).imp ?_)⟩
  rintro e w48 ⟨p48, c48, rfl, own48, x48⟩
  refine ⟨_, _, _, rfl, (rturn_does (he.ext (Ext.thn y44 x48)) rfl d (by omega) hbig).imp ?_⟩
  rintro e w50 ⟨p50, c50, rfl, own50, x50⟩
  have hbt : ∀ e ∈ turnE es, e.old.length ≤ 9223372036854775807 ∧ e.new.length ≤ 9223372036854775807 := fun e h => by have := hf.turn.2 e h; omega
  have tl := turnE_length es
  refine ⟨_, _, _, rfl, (rsame_does (Edits.ext (own48.rs EditV.widens (by decide)).2 x50) (own50.rs EditV.widens (by decide)).2 tl.symm tl.symm _ _ (by omega) hbt).imp ?_⟩
  rintro e w51 ⟨rfl, x51⟩
  have y51 := Ext.thn (Ext.thn (Ext.thn y44 x48) x50) x51
  refine ⟨_, rfl, tru (by simp) ((samee_does (he.ext y51) (hk.ext y51) rfl rfl d f (by omega)).imp ?_)⟩
  rintro e w56 ⟨rfl, x56⟩
  have y56 := Ext.thn y51 x56
  refine ⟨_, rfl, (rsame_does (he.ext y56) (hk.ext y56) rfl rfl d f (by omega) (fun e h => by have := hb.2 e h; omega)).imp ?_⟩
  rintro e w59 ⟨rfl, x59⟩
  have y59 := Ext.thn y56 x59
  refine ⟨_, rfl, tru (by simp) ((samee_does (he.ext y59) (he.ext y59) rfl rfl d d (by omega)).imp ?_)⟩
  rintro e w65 ⟨rfl, x65⟩
  exact ⟨_, rfl, by simp, Ext.thn y59 x65⟩
end Go.Proofs.Ytjcdenfbmeleeaa
