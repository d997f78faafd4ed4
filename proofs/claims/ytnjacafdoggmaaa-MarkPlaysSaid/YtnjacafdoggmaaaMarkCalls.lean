/-
  Marks: the plain law, and what the functions do.
-/
import Derived.Test.YtnjacafdoggmaaaRange
import Derived.Test.YtnjacafdoggmaaaRowW
import Derived.Test.YtnjacafdoggmaaaEditPlace
namespace Go.Proofs.Ytnjacafdoggmaaa
open Go.RowKit Go.Vc
/-- A mark behind an edit (by one; 0: it is not set). -/
def shiftX (e : E) (x : Int) : Int := if 0 < x then (if 1048576 < placeE (x - 1) e then 1048576 else placeE (x - 1) e) + 1 else x
def shiftL (es : List E) (xs : List Int) : List Int := es.foldl (fun xs e => xs.map (shiftX e)) xs
def OkX (xs : List Int) : Prop := ∀ x ∈ xs, 0 ≤ x ∧ x ≤ 1048577
def OkE (e : E) : Prop := 0 ≤ e.at_ ∧ e.at_ ≤ 10000000000000 ∧ e.old.length ≤ 1000000000 ∧ e.new.length ≤ 1000000000
theorem placeE_pos {e : E} (h : 0 ≤ e.at_) {a : Int} (ha : 0 ≤ a) : 0 ≤ placeE a e := by
  unfold placeE
  split
  · exact ha
  split <;> omega
theorem shiftX_ok {e : E} (h : 0 ≤ e.at_) {x : Int} (hx : 0 ≤ x ∧ x ≤ 1048577) : 0 ≤ shiftX e x ∧ shiftX e x ≤ 1048577 := by
  unfold shiftX
  split
  · have := placeE_pos h (a := x - 1) (by omega)
    split <;> omega
  · exact hx
theorem OkX.map {xs : List Int} (h : OkX xs) {e : E} (he : 0 ≤ e.at_) : OkX (xs.map (shiftX e)) := fun x hx => by
  obtain ⟨y, hy, rfl⟩ := List.mem_map.1 hx
  exact shiftX_ok he (h y hy)
theorem shiftL_length (es : List E) (xs : List Int) : (shiftL es xs).length = xs.length := by
  induction es generalizing xs with
  | nil => rfl
  | cons e r ih => exact (ih _).trans (by simp)
theorem shiftL_snoc {es : List E} {xs : List Int} {k : Nat} (h : k < es.length) : shiftL (es.take (k + 1)) xs = (shiftL (es.take k) xs).map (shiftX es[k]) := by
  rw [List.take_succ_eq_append_getElem h, shiftL, List.foldl_append]
  rfl
theorem shiftL_ok {es : List E} (he : ∀ e ∈ es, OkE e) {xs : List Int} (h : OkX xs) : OkX (shiftL es xs) := by
  induction es generalizing xs with
  | nil => exact h
  | cons e r ih => exact ih (fun e' h' => he e' (List.mem_cons_of_mem _ h')) (h.map (he e List.mem_cons_self).1)
theorem shiftL_get (es : List E) (xs : List Int) (j : Nat) (h : j < xs.length) : (shiftL es xs).getD j 0 = es.foldl (fun x e => shiftX e x) (xs.getD j 0) := by
  induction es generalizing xs with
  | nil => rfl
  | cons e r ih =>
    have := ih (xs.map (shiftX e)) (by simpa using h)
    show (shiftL r (xs.map (shiftX e))).getD j 0 = _
    rw [this]
    simp only [List.foldl_cons, List.getD_eq_getElem?_getD, List.getElem?_map, List.getElem?_eq_getElem h, Option.map_some, Option.getD_some]
/-- Marks in memory. -/
structure Mk (w : World) (g : Nat) (xs : List Int) : Prop where
  len : xs.length = 26
  okx : OkX xs
  made : w.cell? ⟨g, 0, none⟩ = some (.bool true)
  cell : ∀ j, j < 26 → w.cell? ⟨g, 0 + 1 + j, none⟩ = some (.int .i64 (xs.getD j 0))
  can : ∀ j, j < 26 → CanStore w g (0 + 1 + j)
theorem Mk.lt {w : World} {g : Nat} {xs : List Int} (h : Mk w g xs) : g < w.heap.size := cell_lt h.made
theorem Mk.upd {w w' : World} {T : Nat → Prop} {g : Nat} {xs : List Int} (h : Mk w g xs) (hu : Upd T w w') (ht : ¬ T g) : Mk w' g xs :=
  ⟨h.len, h.okx, hu.cell ht h.made, fun j hj => hu.cell ht (h.cell j hj), fun j hj => hu.can ht (h.can j hj)⟩
theorem Mk.ext {w w' : World} {g : Nat} {xs : List Int} (h : Mk w g xs) (hu : Ext w w') : Mk w' g xs := h.upd hu id
theorem getD_setI {xs : List Int} {j k : Nat} {x : Int} (hk : k < xs.length) : (xs.set j x).getD k 0 = if j = k then x else xs.getD k 0 := by
  rw [List.getD_eq_getElem?_getD, List.getElem?_set]
  by_cases h : j = k
  · subst h; rw [if_pos rfl, if_pos hk, if_pos rfl]; rfl
  · rw [if_neg h, if_neg h, ← List.getD_eq_getElem?_getD]
theorem Mk.set {w w' : World} {g : Nat} {xs : List Int} (h : Mk w g xs) {j : Nat} (hj : j < 26) {x : Int} (hx : 0 ≤ x ∧ x ≤ 1048577) (hs : Stored w g (0 + 1 + j) (.int .i64 x) w') : Mk w' g (xs.set j x) := by
  refine ⟨by simpa using h.len, fun y hy => ?_, ?_, fun k hk => ?_, fun k hk => hs.can (h.can k hk)⟩
  · rcases List.mem_or_eq_of_mem_set hy with hy | rfl
    · exact h.okx y hy
    · exact hx
  · rw [hs.other (.inr (by omega))]; exact h.made
  · rw [getD_setI (by rw [h.len]; exact hk)]
    by_cases e : j = k
    · subst e; rw [if_pos rfl]; exact hs.cell (h.can j hj)
    · rw [if_neg e, hs.other (.inr (by omega))]; exact h.cell k hk
theorem Mk.bound {w : World} {g : Nat} {xs : List Int} (h : Mk w g xs) (j : Nat) (hj : j < 26) : 0 ≤ xs.getD j 0 ∧ xs.getD j 0 ≤ 1048577 := by
  have hl : j < xs.length := by rw [h.len]; exact hj
  have := h.okx _ (List.getElem_mem hl)
  rw [List.getD_eq_getElem?_getD, List.getElem?_eq_getElem hl]
  exact this
def zeros26 : List Int := List.replicate 26 0
theorem new_does {w : World} : Does Try.prog 9 #[] w fun e w' => ∃ g, e = .returned (.pointer (some ⟨g, 0, none⟩)) ∧ Mk w' g zeros26 ∧ w.heap.size ≤ g ∧ Ext w w' := by
  apply f9_does
  intro b w2 hb
  refine ⟨b, rfl, ⟨rfl, fun x hx => by rw [List.eq_of_mem_replicate hx]; omega, hb.cell 0 rfl, fun j hj => hb.cell _ ?_, fun j hj => hb.can _ ?_⟩, by rw [hb.eq]; exact Nat.le_refl _, hb.ext⟩
  · rw [Nat.zero_add, Nat.add_comm]
    show (List.replicate 26 (Value.int .i64 0))[j]? = _
    rw [List.getElem?_replicate, if_pos hj, List.getD_eq_getElem?_getD]
    show _ = some (Value.int .i64 ((List.replicate 26 (0 : Int))[j]?.getD 0))
    rw [List.getElem?_replicate, if_pos hj]
    rfl
  · show 0 + 1 + j < 27
    omega
theorem named_does {w : World} (n : Int) : Does Try.prog 21 #[.int .u8 n] w fun e w' => e = .returned (.bool (decide (97 ≤ n ∧ n ≤ 122))) ∧ w' = w := by
  apply f21_does
  refine ⟨fun j => ⟨?_, rfl⟩, fun j => ⟨?_, rfl⟩⟩
  · have j := of_decide_eq_true j
    rw [show decide (n ≤ 122) = decide (97 ≤ n ∧ n ≤ 122) by rw [decide_eq_decide]; omega]
  · have j := of_decide_eq_false j
    rw [decide_eq_false (by omega)]
theorem wrap97 {n : Int} (h : 97 ≤ n ∧ n ≤ 122) : IntKind.wrap .u8 (n - 97) = n - 97 := wrap_in ⟨by show (0 : Int) ≤ _; omega, by show _ ≤ (255 : Int); omega⟩
/-- May a mark be set so? -/
def mayM (n at_ : Int) : Bool := decide (97 ≤ n ∧ n ≤ 122) && decide (0 ≤ at_ ∧ at_ ≤ 1048576)
theorem set_does {w : World} {g : Nat} {xs : List Int} (h : Mk w g xs) (n at_ : Int) : Does Try.prog 10 #[.pointer (some ⟨g, 0, none⟩), .int .u8 n, .int .i64 at_] w fun e w' => e = .returned (.bool (mayM n at_)) ∧
    Mk w' g (if mayM n at_ then xs.set (n - 97).toNat (at_ + 1) else xs) ∧ Upd (fun z => z = g) w w' := by
  apply f10_does
  refine fls rfl ⟨g, 0, rfl, _, h.made, fls rfl ((named_does n).imp ?_)⟩
  rintro e w18 ⟨rfl, rfl⟩
  refine ⟨_, rfl, fun j => ?_, fun j => ?_⟩
  · have j : ¬ (97 ≤ n ∧ n ≤ 122) := by rw [Bool.not_eq_true'] at j; exact of_decide_eq_false j
    have hm : mayM n at_ = false := by unfold mayM; rw [decide_eq_false j]; rfl
    rw [hm]
    exact ⟨rfl, h, Upd.refl _ _⟩
  have j : 97 ≤ n ∧ n ≤ 122 := by simpa using j
  refine ⟨fun k => ?_, fun k => ⟨fun k2 => ?_, fun k2 => ?_⟩⟩
  · have k := of_decide_eq_true k
    have hm : mayM n at_ = false := by unfold mayM; rw [decide_eq_false (p := 0 ≤ at_ ∧ at_ ≤ 1048576) (by omega), Bool.and_false]
    rw [hm]
    exact ⟨rfl, h, Upd.refl _ _⟩
  · have k2 := of_decide_eq_true k2
    have hm : mayM n at_ = false := by unfold mayM; rw [decide_eq_false (p := 0 ≤ at_ ∧ at_ ≤ 1048576) (by omega), Bool.and_false]
    rw [hm]
    exact ⟨rfl, h, Upd.refl _ _⟩
  have k := of_decide_eq_false k
  have k2 := of_decide_eq_false k2
  have hm : mayM n at_ = true := by unfold mayM; rw [decide_eq_true j, decide_eq_true (by omega)]; rfl
  rw [hm, wrap97 j]
  refine ⟨inI64 (by omega) (by omega), g, 0, rfl, ⟨by omega, by omega⟩, h.can _ (by omega), fun ws hs => ⟨rfl, ?_, hs.upd⟩⟩
  rw [if_pos rfl]
  exact h.set (by omega) (by omega) hs
theorem get_does {w : World} {g : Nat} {xs : List Int} (h : Mk w g xs) (n : Int) (hn : 97 ≤ n ∧ n ≤ 122) : Does Try.prog 12 #[.pointer (some ⟨g, 0, none⟩), .int .u8 n] w fun e w' =>
    e = .returned (.tuple #[.int .i64 (if xs.getD (n - 97).toNat 0 = 0 then 0 else xs.getD (n - 97).toNat 0 - 1), .bool (decide (xs.getD (n - 97).toNat 0 ≠ 0))]) ∧ w' = w := by
  apply f12_does
  refine fls rfl ((named_does n).imp ?_)
  rintro e w10 ⟨rfl, rfl⟩
  refine ⟨_, rfl, fls (by rw [decide_eq_true hn]; rfl) ?_⟩
  rw [wrap97 hn]
  have hb := h.bound (n - 97).toNat (by omega)
  refine ⟨g, 0, rfl, ⟨by omega, by omega⟩, _, h.cell _ (by omega), fun k => ⟨?_, rfl⟩, fun k => ⟨g, 0, rfl, ⟨by omega, by omega⟩, _, h.cell _ (by omega), inI64 (by omega) (by omega), ?_, rfl⟩⟩
  · have k := eq_of_beq k
    rw [if_pos k, k]; rfl
  · have k := ne_of_beq_false k
    rw [if_neg k, decide_eq_true k]
theorem each_does {w : World} {g b : Nat} {xs : List Int} (h : Mk w g xs) (hb : w.cell? ⟨b, 0, none⟩ = some (.pointer (some ⟨g, 0, none⟩))) (l : Nat) (J : Nat → World → Prop) (h0 : J 0 w)
    (step : ∀ j w', j < 26 → J j w' → (0 < xs.getD j 0 → YieldsV Try.prog l #[.int .u8 (97 + j), .int .i64 (xs.getD j 0 - 1)] w' fun e w'' => e = .returned (.bool true) ∧ J (j + 1) w'') ∧ (¬ 0 < xs.getD j 0 → J (j + 1) w')) :
    Does Try.prog 27 #[.func (.yield l) #[] #[], .pointer (some ⟨b, 0, none⟩)] w fun e w' => (∃ v, e = .returned v) ∧ J 26 w' := by
  apply f27_does
  refine ⟨b, 0, rfl, _, hb, g, 0, rfl, _, h.cell 0 (by decide), _, h.cell 1 (by decide), _, h.cell 2 (by decide), _, h.cell 3 (by decide), _, h.cell 4 (by decide), _, h.cell 5 (by decide), _, h.cell 6 (by decide), _, h.cell 7 (by decide), _, h.cell 8 (by decide), _, h.cell 9 (by decide), _, h.cell 10 (by decide), _, h.cell 11 (by decide), _, h.cell 12 (by decide), _, h.cell 13 (by decide), _, h.cell 14 (by decide), _, h.cell 15 (by decide), _, h.cell 16 (by decide), _, h.cell 17 (by decide), _, h.cell 18 (by decide), _, h.cell 19 (by decide), _, h.cell 20 (by decide), _, h.cell 21 (by decide), _, h.cell 22 (by decide), _, h.cell 23 (by decide), _, h.cell 24 (by decide), _, h.cell 25 (by decide), ?_⟩
  refine ⟨fun x n wl => ∃ j : Nat, x = j ∧ n = 26 - j ∧ j ≤ 26 ∧ J j wl, ⟨_, 0, rfl, rfl, by omega, h0⟩, ?_⟩
  rintro _ n wl ⟨j, rfl, rfl, hj, hJ⟩
  have one : ∀ k : Nat, (j : Int) = (k : Nat) → j < 26 → Br (decide (xs.getD k 0 > 0))
      (InK .i64 (97 + (j : Int)) ∧ InK .i64 (xs.getD k 0 - 1) ∧ DoesV Try.prog (.yield l) #[] #[.int .u8 (IntKind.wrap .u8 (97 + (j : Int))), .int .i64 (xs.getD k 0 - 1)] #[] wl fun e22 w22 =>
        ∃ b22 : Bool, e22 = .returned (.bool b22) ∧ Br (!b22) ((∃ v, (Ending.returned (.tuple #[])) = .returned v) ∧ J 26 w22)
        (InK .i64 ((j : Int) + 1) ∧ ∃ ml1, ml1 < 26 - j ∧ ∃ j' : Nat, (j : Int) + 1 = j' ∧ ml1 = 26 - j' ∧ j' ≤ 26 ∧ J j' w22))
      (InK .i64 ((j : Int) + 1) ∧ ∃ ml1, ml1 < 26 - j ∧ ∃ j' : Nat, (j : Int) + 1 = j' ∧ ml1 = 26 - j' ∧ j' ≤ 26 ∧ J j' wl) := by
    intro k hk hlt
    obtain rfl : j = k := by omega
    have hbd := h.bound j hlt
    refine ⟨fun c => ?_, fun c => ?_⟩
    · have c : 0 < xs.getD j 0 := of_decide_eq_true c
      refine ⟨inI64 (by omega) (by omega), inI64 (by omega) (by omega), doesV_yield ?_⟩
      rw [wrap_in (show InK .u8 (97 + (j : Int)) from ⟨by show (0 : Int) ≤ _; omega, by show _ ≤ (255 : Int); omega⟩)]
      refine ((step j wl hlt hJ).1 c).imp ?_
      rintro e w22 ⟨rfl, hJ'⟩
      exact ⟨_, rfl, fls rfl ⟨inI64 (by omega) (by omega), _, by omega, j + 1, by omega, rfl, hlt, hJ'⟩⟩
    · have c : ¬ 0 < xs.getD j 0 := of_decide_eq_false c
      exact ⟨inI64 (by omega) (by omega), _, by omega, j + 1, by omega, rfl, hlt, (step j wl hlt hJ).2 c⟩
  refine ⟨fun c => ?_, fun c => ?_⟩
  · have c := of_decide_eq_true c
    have hlt : j < 26 := by omega
    exact ⟨⟨by omega, by omega⟩, fun e => one 0 e hlt, fun e => one 1 e hlt, fun e => one 2 e hlt, fun e => one 3 e hlt, fun e => one 4 e hlt, fun e => one 5 e hlt, fun e => one 6 e hlt, fun e => one 7 e hlt, fun e => one 8 e hlt, fun e => one 9 e hlt, fun e => one 10 e hlt, fun e => one 11 e hlt, fun e => one 12 e hlt, fun e => one 13 e hlt, fun e => one 14 e hlt, fun e => one 15 e hlt, fun e => one 16 e hlt, fun e => one 17 e hlt, fun e => one 18 e hlt, fun e => one 19 e hlt, fun e => one 20 e hlt, fun e => one 21 e hlt, fun e => one 22 e hlt, fun e => one 23 e hlt, fun e => one 24 e hlt, fun e => one 25 e hlt, trivial⟩
  · have c := of_decide_eq_false c
    obtain rfl : j = 26 := by omega
    exact ⟨⟨_, rfl⟩, hJ⟩
/-- So far shifted. -/
def mixL (e : E) (xs : List Int) (j : Nat) : List Int := (xs.take j).map (shiftX e) ++ xs.drop j
theorem mixL_length (e : E) (xs : List Int) (j : Nat) : (mixL e xs j).length = xs.length := by simp [mixL]; omega
theorem mixL_get {e : E} {xs : List Int} {j : Nat} : (mixL e xs j)[j]? = xs[j]? := by
  unfold mixL
  by_cases h : j ≤ xs.length
  · rw [List.getElem?_append_right (by simp; omega)]
    simp
    congr 1
    omega
  · rw [List.getElem?_eq_none (by simp; omega), List.getElem?_eq_none (by omega)]
theorem mixL_set {e : E} {xs : List Int} {j : Nat} (h : j < xs.length) : (mixL e xs j).set j (shiftX e (xs.getD j 0)) = mixL e xs (j + 1) := by
  have hg : xs.getD j 0 = xs[j] := by rw [List.getD_eq_getElem?_getD, List.getElem?_eq_getElem h]; rfl
  unfold mixL
  rw [List.take_succ_eq_append_getElem h, List.map_append, List.append_assoc, hg, List.set_append_right _ _ (by simp; omega)]
  congr 1
  rw [show j - (List.map (shiftX e) (xs.take j)).length = 0 by simp; omega, List.drop_eq_getElem_cons h]
  rfl
theorem mixL_skip {e : E} {xs : List Int} {j : Nat} (h : j < xs.length) (hx : ¬ 0 < xs.getD j 0) : mixL e xs j = mixL e xs (j + 1) := by
  rw [← mixL_set h]
  have hs : shiftX e (xs.getD j 0) = xs.getD j 0 := by unfold shiftX; rw [if_neg hx]
  have hl : j < (mixL e xs j).length := by rw [mixL_length]; exact h
  rw [hs, List.getD_eq_getElem?_getD, ← mixL_get (e := e), List.getElem?_eq_getElem hl]
  simp
theorem mixL_all {e : E} {xs : List Int} {n : Nat} (h : xs.length = n) : mixL e xs n = xs.map (shiftX e) := by
  unfold mixL
  rw [List.take_of_length_le (by omega), List.drop_eq_nil_of_le (by omega), List.append_nil]
theorem shift_does {w : World} {g : Nat} {xs : List Int} (h : Mk w g xs) {ok : Nat → Prop} {p : Option Addr} {es : List E} (he : Edits w ok p es) (hg : ∀ z, ok z → z ≠ g) (hok : ∀ e ∈ es, OkE e) {l : Nat} (hl : l = es.length) (c : Nat) (h63 : es.length ≤ 9223372036854775807) :
    Does Try.prog 11 #[.pointer (some ⟨g, 0, none⟩), .slice p l c] w fun e w' => e = .returned (.tuple #[]) ∧ Mk w' g (shiftL es xs) ∧ Upd (fun z => z = g) w w' := by
  subst hl
  apply f11_does
  intro b2 w2 hb2
  have hg0 := h.lt
  have b2e := hb2.eq
  have b2l := hb2.lt
  refine ⟨_, hb2.cell 0 rfl, fls rfl ?_⟩
  refine ⟨fun ds x n wl => ∃ (k : Nat) (Ds : List Nat), ds = Ds.map markOf ∧ x = k ∧ n = es.length - k ∧ k ≤ es.length ∧ Mk wl g (shiftL (es.take k) xs) ∧ wl.cell? ⟨b2, 0, none⟩ = some (.pointer (some ⟨g, 0, none⟩)) ∧
    (∀ D ∈ Ds, OpenD wl D ∧ w2.heap.size ≤ D) ∧ Ds.Nodup ∧ Upd (fun z => z = g) w2 wl, ⟨_, 0, [], rfl, rfl, rfl, Nat.zero_le _, h.ext hb2.ext, hb2.cell 0 rfl, by simp, List.nodup_nil, Upd.refl _ _⟩, ?_⟩
  rintro _ _ n wl ⟨k, Ds, rfl, rfl, rfl, hk, hm, hc2, hop, hnd, hu⟩
  have uw : Upd (fun z => z = g) w wl := Upd.then (hb2.ext.mono fun _ _ x => x.elim) hu fun i _ e => e
  have zu := hu.size
  refine ⟨fun jj => ?_, fun jj => ?_⟩
  · have jj := of_decide_eq_true jj
    have hlt : k < es.length := by omega
    obtain ⟨b, o, p1, c1, p2, c2, hp, hbk, a1, a2, a3, hka, h1, i1, h2, i2⟩ := (he.upd uw fun z hz e => hg z hz e).at k hlt
    have hE := hok _ (List.getElem_mem hlt)
    refine ⟨⟨by omega, by omega⟩, b, o, hp, _, a1, _, _, _, a2, _, _, _, a3, fun b5 w5 hb5 => ?_⟩
    refine ⟨hb5.can 0 (by simp), fun ws1 s1 => ?_⟩
    have hb5 := hb5.store s1
    refine ⟨hb5.can 1 (by simp), fun ws2 s2 => ?_⟩
    have hb5 := hb5.store s2
    refine ⟨hb5.can 2 (by simp), fun ws3 s3 => ?_⟩
    have hb5 := hb5.store s3
    have x5 := hb5.ext
    have b5e := hb5.eq
    have b5l := hb5.lt
    have hgl := hm.lt
    refine ⟨_, x5.cell hc2, f22_does _ fun b1 w17 hb1 => ⟨_, _, _, rfl, fun D lr rec wr hO hY => ?_⟩⟩
    have x1 := hb1.ext
    have xO := hO.ext
    have b1l := hb1.lt
    have b1e := hb1.eq
    have zO := hO.size
    have eD := hO.blk
    have eL := hO.rcd
    have x5r := Ext.thn (Ext.thn x5 x1) xO
    have hgr : g < w17.heap.size := by have := x5.size; omega
    refine doesG_func ((each_does (hm.ext x5r) (xO.cell (hb1.cell 0 rfl)) lr (fun j w' => LoopAt w' lr rec .ready ∧ Mk w' g (mixL es[k] (shiftL (es.take k) xs) j) ∧ Upd (fun z => z = g ∨ z = lr) wr w')
      ⟨hO.loop, by simpa [mixL] using hm.ext x5r, Upd.refl _ _⟩ ?_).imp ?_)
    · rintro j wy hj ⟨hL, hM, hU⟩
      have hjl : j < (shiftL (es.take k) xs).length := by rw [hm.len]; exact hj
      refine ⟨fun hpos => ?_, fun hneg => ⟨hL, by rw [← mixL_skip hjl hneg]; exact hM, hU⟩⟩
      have hbd := hm.bound j hj
      refine hY _ _ wy _ hL ⟨hL, fun wb hT hB wd hd => ?_⟩
      have uT := hT.upd
      have xd := hd.ext
      have keep : ∀ {bb oo : Nat} {v : Value}, wr.cell? ⟨bb, oo, none⟩ = some v → bb < w17.heap.size → bb ≠ g → wd.cell? ⟨bb, oo, none⟩ = some v := fun hc hlt hne =>
        xd.cell (uT.cell (by omega) (hU.cell (by omega) hc))
      have q0 := keep (x5r.cell hc2) (by omega) (by omega)
      have e0 := keep (xO.cell (x1.cell (hb5.cell 0 rfl))) (by omega) (by omega)
      have e1 := keep (xO.cell (x1.cell (hb5.cell 1 rfl))) (by omega) (by omega)
      have e2 := keep (xO.cell (x1.cell (hb5.cell 2 rfl))) (by omega) (by omega)
      refine ⟨fun w' => w'.cell? ⟨b2, 0, none⟩ = some (.pointer (some ⟨g, 0, none⟩)), q0, _, fun _ hx => hx, _, e0, _, _, _, e1, _, _, _, e2, ?_⟩
      refine (place_does (at_ := (shiftL (es.take k) xs).getD j 0 - 1) (e := es[k]) p1 p2 c1 c2 (by omega) (by omega) (by have := hE.1; omega) (by have := hE.2.1; omega) hE.2.2.1 hE.2.2.2).imp ?_
      rintro e w25 ⟨rfl, x25⟩
      have hM25 := ((hM.upd uT (by omega)).ext xd).ext x25
      have hpl := placeE_pos hE.1 (a := (shiftL (es.take k) xs).getD j 0 - 1) (by omega)
      have hsx : (if (1048576 : Int) < placeE ((shiftL (es.take k) xs).getD j 0 - 1) es[k] then 1048576 else placeE ((shiftL (es.take k) xs).getD j 0 - 1) es[k]) + 1 = shiftX es[k] ((shiftL (es.take k) xs).getD j 0) := by
        unfold shiftX; rw [if_pos hpos]
      have hsb := shiftX_ok hE.1 hbd
      refine ⟨_, rfl, x25.cell q0, ?_⟩
      rw [hsx, wrap97 (by omega), show ((97 : Int) + j - 97).toNat = j by omega]
      refine ⟨inI64 (by omega) (by omega), g, 0, rfl, ⟨by omega, by omega⟩, hM25.can j hj, fun ws hs => ?_⟩
      have us := hs.upd
      have hM' := hM25.set hj hsb hs
      rw [mixL_set hjl] at hM'
      refine ⟨((hB.ext xd).ext x25).upd us (by omega), fun wz hTz hRz => ⟨rfl, hRz, hM'.upd hTz.upd (by omega), ?_⟩⟩
      exact Upd.trans hU (Upd.trans (uT.mono fun _ _ e => .inr e) (Upd.trans ((Ext.thn xd x25).mono fun _ _ e => e.elim) (Upd.trans (us.mono fun _ _ e => .inl e) (hTz.upd.mono fun _ _ e => .inr e))))
    · rintro e we ⟨⟨v, rfl⟩, hL, hM, hU⟩
      refine ⟨v, rfl, hL, fun wz hTz => ⟨inI64 (by omega) (by omega), _, by omega, markOf D :: Ds.map markOf, by simp, k + 1, D :: Ds, rfl, by omega, rfl, hlt, ?_⟩⟩
      have uz := hTz.upd
      have hUz : Upd (fun z => z = g ∨ z = lr) wr wz := Upd.trans hU (uz.mono fun _ _ e => .inr e)
      have uall : Upd (fun z => z = g) w2 wz := Upd.then (Upd.then hu x5r fun _ _ x => x.elim) hUz fun i hi e => by
        rcases e with e | e
        · exact e
        · exfalso; have := x5.size; omega
      rw [mixL_all hm.len] at hM
      rw [shiftL_snoc hlt]
      refine ⟨hM.upd uz (by omega), hUz.cell (by omega) (x5r.cell hc2), fun D' hD' => ?_, List.nodup_cons.2 ⟨fun hD => ?_, hnd⟩, uall⟩
      · rcases List.mem_cons.1 hD' with rfl | hD'
        · exact ⟨hO.opn.upd hUz (by omega), by have := x5.size; omega⟩
        · have hq := (hop D' hD').1
          have hq2 := (hop D' hD').2
          have hlt' := hq.lt
          have := x5.size
          exact ⟨(hq.ext x5r).upd hUz (by omega), hq2⟩
      · have := (hop D hD).1.lt
        have := x5.size
        omega
  · have jj := of_decide_eq_false jj
    obtain rfl : k = es.length := by omega
    rw [List.take_length] at hm
    rw [List.append_nil]
    refine leaves_marks hnd (fun D hD => (hop D hD).1) fun w' hu' => ⟨rfl, hm.upd hu' fun hD => ?_, Upd.then uw hu' fun i hi hD => ?_⟩
    · have := (hop g hD).2; omega
    · have := (hop i hD).2; have := hb2.ext.size; omega
end Go.Proofs.Ytnjacafdoggmaaa
