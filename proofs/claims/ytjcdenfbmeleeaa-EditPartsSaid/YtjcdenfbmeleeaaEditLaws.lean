/-
  Edits: what the statements' functions answer.
-/
import Derived.Test.YtjcdenfbmeleeaaEditCalls3
namespace Go.Proofs.Ytjcdenfbmeleeaa
open Go.RowKit Go.Vc
/-! ### The plain law -/
theorem applyE_back {xs : List Int} {e : E} {ys : List Int} (h : applyE xs e = some ys) : applyE ys (turn1 e) = some xs := by
  obtain ⟨h1, h2, h3, h4, hy⟩ := applyE_some h
  have hyl := applyE_len h
  have hta : (xs.take e.at_.toNat).length = e.at_.toNat := by simp; omega
  have hdrop : ys.drop e.at_.toNat = e.new ++ xs.drop (e.at_.toNat + e.old.length) := by
    rw [hy, List.append_assoc, List.drop_left' hta]
  unfold applyE turn1
  simp only
  rw [if_pos ⟨h1, by omega, by rw [hdrop, List.take_left' rfl]⟩]
  congr 1
  rw [← List.drop_drop, hdrop, List.drop_left' rfl]
  have ht : ys.take e.at_.toNat = xs.take e.at_.toNat := by rw [hy, List.append_assoc, List.take_left' hta]
  rw [ht]
  have hd : e.old ++ xs.drop (e.at_.toNat + e.old.length) = xs.drop e.at_.toNat := by
    have := List.take_append_drop e.old.length (xs.drop e.at_.toNat)
    rwa [h4, List.drop_drop] at this
  rw [List.append_assoc, hd, List.take_append_drop]
theorem allE_append (xs : List Int) (a b : List E) : allE xs (a ++ b) = (allE xs a).bind (fun c => allE c b) := by
  induction a generalizing xs with
  | nil => rfl
  | cons e r ih =>
    simp only [List.cons_append, allE]
    cases applyE xs e with
    | none => rfl
    | some c => exact ih c
theorem turnE_cons (e : E) (r : List E) : turnE (e :: r) = turnE r ++ [turn1 e] := by simp [turnE]
theorem turnE_turnE (l : List E) : turnE (turnE l) = l := by
  rw [turnE, turnE, List.map_reverse, List.reverse_reverse, List.map_map]
  have : (turn1 ∘ turn1) = id := by funext e; cases e; rfl
  rw [this, List.map_id]
theorem allE_back {xs : List Int} {es : List E} {ys : List Int} (h : allE xs es = some ys) : allE ys (turnE es) = some xs := by
  induction es generalizing xs with
  | nil => simpa [turnE, allE] using h.symm
  | cons e r ih =>
    rw [allE] at h
    cases ha : applyE xs e with
    | none => rw [ha] at h; cases h
    | some c =>
      rw [ha] at h
      rw [turnE_cons, allE_append, ih h]
      simp only [Option.bind_some, allE, applyE_back ha]
theorem FewE.turn {l : List E} (h : FewE l) : FewE (turnE l) := by
  refine ⟨by simpa [turnE] using h.1, fun e he => ?_⟩
  simp only [turnE, List.mem_reverse, List.mem_map] at he
  obtain ⟨x, hx, rfl⟩ := he
  exact ⟨(h.2 x hx).2, (h.2 x hx).1⟩
theorem turnE_length (l : List E) : (turnE l).length = l.length := by simp [turnE]
theorem place_law {xs ys : List Int} {e : E} (h : applyE xs e = some ys) {at_ : Int} (h0 : 0 ≤ at_) (h1 : at_ < xs.length) :
    placeE at_ e ≤ placeE (at_ + 1) e ∧ 0 ≤ placeE at_ e ∧ placeE (at_ + 1) e ≤ ys.length ∧
      ((at_ < e.at_ ∨ at_ ≥ e.at_ + e.old.length) → placeE at_ e < ys.length ∧ ys[(placeE at_ e).toNat]? = xs[at_.toNat]?) := by
  obtain ⟨a1, a2, a3, _, hy⟩ := applyE_some h
  have hyl := applyE_len h
  have hta : (xs.take e.at_.toNat).length = e.at_.toNat := by simp; omega
  unfold placeE
  refine ⟨?_, ?_, ?_, fun hout => ?_⟩
  · split <;> split <;> (try split) <;> (try split) <;> omega
  · split <;> (try split) <;> omega
  · split <;> (try split) <;> omega
  · rcases hout with hlt | hge
    · rw [if_pos hlt]
      refine ⟨by omega, ?_⟩
      rw [hy, List.append_assoc, List.getElem?_append_left (by omega), List.getElem?_take_of_lt (by omega)]
    · rw [if_neg (by omega), if_pos (by omega)]
      refine ⟨by omega, ?_⟩
      rw [hy, List.getElem?_append_right (by simp; omega), List.getElem?_drop]
      congr 1
      simp; omega
/-! ### The functions -/
theorem room_does {w : World} {ok : Nat → Prop} {p : Option Addr} {es : List E} (he : Edits w ok p es) {l : Nat} (hl : l = es.length) (c : Nat) (most : Int) (hs : es.length ≤ 9223372036854775807) :
    Does Try.prog 11 #[.slice p l c, .int .i64 most] w fun e w' => w' = w ∧ ∃ b, e = .returned (.bool b) ∧ (b = true → (es.length : Int) ≤ most ∧ ∀ e ∈ es, e.old.length ≤ 300 ∧ e.new.length ≤ 300) := by
  subst hl
  apply f11_does
  refine ⟨fun h => ⟨rfl, false, rfl, by simp⟩, fun h => ?_⟩
  have h := of_decide_eq_false h
  refine ⟨fun i n wl => ∃ k : Nat, i = k ∧ n = es.length - k ∧ k ≤ es.length ∧ (∀ e ∈ es.take k, e.old.length ≤ 300 ∧ e.new.length ≤ 300) ∧ wl = w, ⟨_, 0, rfl, rfl, Nat.zero_le _, by simp, rfl⟩, ?_⟩
  rintro _ n wl ⟨k, rfl, rfl, hk, hall, rfl⟩
  refine ⟨fun j => ?_, fun j => ?_⟩
  · have j := of_decide_eq_true j
    have hlt : k < es.length := by omega
    obtain ⟨b, o, q1, d1, q2, d2, hp, _, a1, a2, a3, _, _, a4, _, a5⟩ := he.at k hlt
    refine ⟨⟨by omega, by omega⟩, b, o, hp, _, _, _, a2, fun _ => ⟨rfl, false, rfl, by simp⟩, fun h1 => ?_⟩
    have h1 := of_decide_eq_false h1
    refine ⟨⟨by omega, by omega⟩, b, o, hp, _, _, _, a3, fun _ => ⟨rfl, false, rfl, by simp⟩, fun h2 => ?_⟩
    have h2 := of_decide_eq_false h2
    refine ⟨inI64 (by omega) (by omega), es.length - (k + 1), by omega, k + 1, by omega, rfl, hlt, ?_, rfl⟩
    rw [List.take_succ_eq_append_getElem hlt]
    intro e hm
    simp only [List.mem_append, List.mem_singleton] at hm
    rcases hm with hm | rfl
    · exact hall e hm
    · omega
  · have j := of_decide_eq_false j
    obtain rfl : k = es.length := by omega
    exact ⟨rfl, true, rfl, fun _ => ⟨by omega, by simpa using hall⟩⟩
theorem few_of {es : List E} (h : (es.length : Int) ≤ 30 ∧ ∀ e ∈ es, e.old.length ≤ 300 ∧ e.new.length ≤ 300) : FewE es := ⟨by omega, fun e he => by have := h.2 e he; omega⟩
/-- awake. -/
theorem awake_does {w : World} : Does Try.prog 8 #[] w fun e w' => e = .returned (.bool true) ∧ Ext w w' := by
  apply f8_does
  intro b6 w6 n6
  obtain ⟨w7, r7, e7, i7, s7⟩ := conv_const Try.underlying23 Try.underlying5 n6 1 1 (xs := [98]) rfl (by decide)
  refine ⟨_, _, _, w7, r7, fun b8 w8 n8 => ?_⟩
  obtain ⟨w9, r9, e9, i9, s9⟩ := conv_const Try.underlying23 Try.underlying5 n8 2 2 (xs := [120, 121]) rfl (by decide)
  refine ⟨_, _, _, w9, r9, fun b1 w1 n1 => ?_⟩
  refine ⟨n1.can 0 (by simp), fun ws1 s1 => ?_⟩
  have n1 := n1.store s1
  refine ⟨n1.can 1 (by simp), fun ws2 s2 => ?_⟩
  have n1 := n1.store s2
  refine ⟨n1.can 2 (by simp), fun ws3 s3 => ?_⟩
  have n1 := n1.store s3
  intro b12 w12 n12
  obtain ⟨w13, r13, e13, i13, s13⟩ := conv_const Try.underlying23 Try.underlying5 n12 3 3 (xs := [97, 98, 99]) rfl (by decide)
  have x8 : Ext w7 w9 := e9
  have x1 : Ext w9 ws3 := n1.ext
  have x9 : Ext w w9 := Ext.then e7 e9
  have x13 : Ext w w13 := Ext.then (Ext.then x9 x1) e13
  refine ⟨_, _, _, w13, r13, _, e13.cell (n1.cell 0 rfl), _, _, _, e13.cell (n1.cell 1 rfl), _, _, _, e13.cell (n1.cell 2 rfl), ?_⟩
  have o13 : Ints .u8 w13 (fun _ => True) (some ⟨b6, 0, none⟩) [98] := (i7.any.ext (Ext.then (Ext.then x8 x1) e13))
  have m13 : Ints .u8 w13 (fun _ => True) (some ⟨b8, 0, none⟩) [120, 121] := (i9.any.ext (Ext.then x1 e13))
  refine (apply_does (e := ⟨1, [98], [120, 121]⟩) i13.any o13 m13 (by decide) (by decide) rfl).imp ?_
  rintro r w15 ⟨x15, p15, c15, rfl, own15⟩
  have y15 : Ext ws3 w15 := Ext.then e13 x15
  refine ⟨_, _, _, _, rfl, _, y15.cell (n1.cell 0 rfl), _, _, _, y15.cell (n1.cell 1 rfl), _, _, _, y15.cell (n1.cell 2 rfl), fun b21 w21 n21 => ?_⟩
  have hv : EditV w21 (fun _ => True) [.int .i64 1, .slice (some ⟨b6, 0, none⟩) 1 1, .slice (some ⟨b8, 0, none⟩) 2 2] ⟨1, [98], [120, 121]⟩ :=
    ⟨_, _, _, _, rfl, by decide, by decide, (o13.ext x15).ext n21.ext, by decide, (m13.ext x15).ext n21.ext⟩
  have hed : Edits w21 (fun _ => True) (some ⟨b21, 0, none⟩) [⟨1, [98], [120, 121]⟩] := NewBlk.rs1 n21 trivial hv
  have x21 : Ext w w21 := Ext.then (Ext.then x13 x15) n21.ext
  refine (turn_does hed rfl 1 (by decide) (by decide)).imp ?_
  rintro r w22 ⟨p22, c22, rfl, own22, x22⟩
  obtain ⟨l22, ed22⟩ := own22.rs EditV.widens (by decide)
  have own15' := (own15.ext n21.ext).ext x22
  refine ⟨_, _, _, rfl, (all_does (own15'.any (by decide)) ed22 (by decide) (by refine ⟨?_, ?_⟩ <;> decide) rfl rfl _ _).imp ?_⟩
  rintro r w23 ⟨x23, p23, c23, rfl, own23, k23, _⟩
  refine ⟨_, _, _, _, rfl, tru rfl (tru rfl ?_)⟩
  have i15 := Own.any (own15'.ext x23) (xs := [97, 120, 121, 99]) (by decide)
  have i23 := Own.any own23 (xs := [97, 98, 99]) (by decide)
  refine ⟨_, _, conv_str Try.underlying23 Try.underlying5 Try.underlying9 i15 rfl _, tru (by rw [str_lit]; decide) ⟨_, _, conv_str Try.underlying23 Try.underlying5 Try.underlying9 i23 rfl _, tru (by rw [str_lit]; decide) ?_⟩⟩
  have y23 : Ext ws3 w23 := Ext.then (Ext.then (Ext.then y15 n21.ext) x22) x23
  refine ⟨_, y23.cell (n1.cell 0 rfl), _, _, _, y23.cell (n1.cell 1 rfl), _, _, _, y23.cell (n1.cell 2 rfl), (place_does (e := ⟨1, [98], [120, 121]⟩) _ _ _ _ (by decide) (by decide) (by decide) (by decide) (by decide) (by decide)).imp ?_⟩
  rintro r w44 ⟨rfl, x44⟩
  exact ⟨_, rfl, rfl, Ext.then (Ext.then (Ext.then x21 x22) x23) x44⟩
end Go.Proofs.Ytjcdenfbmeleeaa
