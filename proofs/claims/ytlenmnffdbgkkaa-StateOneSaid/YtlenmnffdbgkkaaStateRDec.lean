/-
  States: what each function of the reference does: Decode.
-/
import Derived.Test.YtlenmnffdbgkkaaStateDec
namespace Go.Vc
open Go.RowKit
theorem then_assoc {α β γ : Type} (p : Ps α) (q : α → Ps β) (f : β → Ps γ) : andThen (andThen p q) f = andThen p (fun a => andThen (q a) f) := by
  funext b
  unfold andThen
  cases p b with
  | none => rfl
  | some x => rfl
theorem done_then {α β : Type} (a : α) (f : α → Ps β) : andThen (done a) f = f a := rfl
theorem then_done {α : Type} (p : Ps α) : andThen p done = p := by
  funext b
  unfold andThen
  cases p b with
  | none => rfl
  | some x => rfl
theorem node_then {β : Type} (f : Nd → Ps β) : andThen nodeP f = andThen numP fun a => andThen numP fun c => andThen numP fun k => andThen (manyP editP k.toNat) fun es => f ⟨a, es, c⟩ := by
  unfold nodeP; simp only [then_assoc, done_then]
theorem edit_then {β : Type} (f : E → Ps β) : andThen editP f = andThen numP fun a => andThen numP fun n => andThen (takeP n) fun o => andThen numP fun m => andThen (takeP m) fun x => f ⟨a, o, x⟩ := by
  unfold editP textP; simp only [then_assoc, done_then]
theorem mark_then {β : Type} (f : Int × Int → Ps β) : andThen markP f = andThen (takeP 1) fun c => andThen numP fun a => f (c.headD 0, a) := by
  unfold markP; simp only [then_assoc, done_then]
theorem state_then : stateP = andThen numP fun many => andThen numP fun now => andThen (manyP nodeP (many - 1).toNat) fun ns => andThen (takeP 1) fun c => andThen (manyP markP (c.headD 0).toNat) fun ms => done ((many, now, ns), ms) := by
  unfold stateP treesP marksP; simp only [then_assoc, done_then]
theorem many_then {α β : Type} (p : Ps α) (k : Nat) (f : List α → Ps β) : andThen (manyP p (k + 1)) f = andThen p fun x => andThen (manyP p k) fun l => f (x :: l) := by
  show andThen (andThen p _) f = _
  simp only [then_assoc, done_then]
/-- What is still to come of it. -/
def Pend {β : Type} (st : Option (List Int)) (q : Ps β) (T : Option (β × List Int)) : Prop := match st with
  | none => T = none
  | some t => q t = T
theorem Pend.many {α β : Type} {p : Ps α} {st : Option (List Int)} {acc : List α} {k n : Nat} {G : List α → Ps β} {T : Option (β × List Int)} (h : Pend st (andThen (manyP p (n - k)) fun l => G (acc ++ l)) T) (hk : k < n) :
    Pend st (andThen p fun x => andThen (manyP p (n - (k + 1))) fun l => G ((acc ++ [x]) ++ l)) T := by
  rw [show n - k = (n - (k + 1)) + 1 by omega, many_then] at h
  simpa using h
theorem Pend.stop {α β : Type} {p : Ps α} {st : Option (List Int)} {acc : List α} {k n : Nat} {G : List α → Ps β} {T : Option (β × List Int)} (h : Pend st (andThen (manyP p (n - k)) fun l => G (acc ++ l)) T) (hk : k = n ∨ st = none) : Pend st (G acc) T := by
  rcases hk with rfl | rfl
  · rw [Nat.sub_self] at h
    have : andThen (manyP p 0) (fun l => G (acc ++ l)) = G acc := by
      show G (acc ++ []) = _
      rw [List.append_nil]
    rwa [this] at h
  · exact h
end Go.Vc
namespace Go.Proofs.Ytlenmnffdbgkkaa
open Go.RowKit Go.Vc
/-- The reference's reader: what is left, or that it was too short. -/
def RR (w : World) (r : Nat) (ok : Nat → Prop) (st : Option (List Int)) : Prop :=
  (∀ z, ok z → z ≠ r) ∧ ∃ p l c, Blk w r [.slice p l c, .bool st.isNone] ∧ ∀ t, st = some t → l = t.length ∧ l ≤ c ∧ Ints .u8 w ok p t ∧ t.length ≤ 1000000
section
variable {w : World} {r : Nat} {ok : Nat → Prop} {st : Option (List Int)}
theorem RR.upd {T : Nat → Prop} {w' : World} (h : RR w r ok st) (u : Upd T w w') (h1 : ¬ T r) (h2 : ∀ z, ok z → ¬ T z) : RR w' r ok st := by
  obtain ⟨h0, p, l, c, a1, a2⟩ := h
  exact ⟨h0, p, l, c, a1.upd u h1, fun t ht => by obtain ⟨b1, b2, b3, b4⟩ := a2 t ht; exact ⟨b1, b2, b3.upd u h2, b4⟩⟩
theorem RR.ext {w' : World} (h : RR w r ok st) (x : Ext w w') : RR w' r ok st := h.upd x id fun _ _ => id
theorem RR.lt (h : RR w r ok st) : r < w.heap.size := by obtain ⟨_, p, l, c, a1, _⟩ := h; exact a1.lt
def TakeR (w : World) (r : Nat) (ok : Nat → Prop) (st : Option (List Int)) (n : Int) (x : List Int) (w' : World) : Prop :=
  ∃ st', RR w' r ok st' ∧ Upd (fun z => z = r) w w' ∧ (x.length : Int) ≤ n ∧ x.length ≤ 1000000 ∧ FB x ∧ ∀ {β : Type} (f : List Int → Ps β) (T : Option (β × List Int)), Pend st (andThen (takeP n) f) T → Pend st' (f x) T
theorem rrtake_does (h : RR w r ok st) {n : Int} (hn : 0 ≤ n) : Does Try.prog 43 #[.pointer (some ⟨r, 0, none⟩), .int .i64 n] w fun e w' => ∃ x p c, e = .returned (.slice p x.length c) ∧ Ints .u8 w' ok p x ∧ TakeR w r ok st n x w' := by
  obtain ⟨h0, p, l, c, a1, a2⟩ := h
  have short : (∀ {β : Type} (f : List Int → Ps β) (T : Option (β × List Int)), Pend st (andThen (takeP n) f) T → T = none) → ∃ b20 o20, (some ⟨r, 0, none⟩ : Option Addr) = some ⟨b20, o20, none⟩ ∧ CanStore w b20 (o20 + 1) ∧ ∀ ws, Stored w b20 (o20 + 1) (.bool true) ws →
      ((0 : Int) ≤ (0 : Int) ∧ (0 : Int) ≤ (0 : Int) ∧ (0 : Int) * ((1 : Nat) : Int) ≤ 140737488355328 ∧ (0 : Int) ≤ 9223372036854775807) ∧ ∀ b22 w22, NewBlk ws b22 (zerosL (.int .u8 0) (0 : Int).toNat) 5 w22 →
      ∃ x p c, Ending.returned (.slice (some ⟨b22, 0, none⟩) ((0 : Int).toNat) ((0 : Int).toNat)) = .returned (.slice p x.length c) ∧ Ints .u8 w22 ok p x ∧ TakeR w r ok st n x w22 := fun hp =>
    ⟨r, 0, rfl, a1.st (by simp) fun ws Bs us => ⟨⟨by decide, by decide, by decide, by decide⟩, fun b22 w22 hb22 => ⟨[], _, _, rfl, RS.nil, none, ⟨h0, p, l, c, Bs.ext hb22.ext, fun t ht => by cases ht⟩, Ext.then us hb22.ext, by simpa using hn, by simp, fun x hx => (by cases hx), fun f T hT => hp f T hT⟩⟩⟩
  apply f43_does
  refine ⟨r, 0, rfl, _, a1.cell 1 rfl, brr (fun q => short fun f T hT => ?_) fun q => ⟨r, 0, rfl, _, _, _, a1.cell 0 rfl, ?_⟩⟩
  · cases st with
    | none => exact hT
    | some t => cases q
  cases st with
  | none => cases q
  | some t =>
    obtain ⟨rfl, hc, hx, ht⟩ := a2 t rfl
    have hf : FB t := fun x h => hx.inK x h
    refine brr (fun q1 => short fun f T hT => ?_) fun q1 => ?_
    · have q1 := of_decide_eq_true q1
      have hT : andThen (takeP n) f t = T := hT
      rw [← hT]
      unfold andThen takeP
      rw [if_pos (by omega)]
    · have q1 := of_decide_eq_false q1
      have htk : takeP n t = some (t.take n.toNat, t.drop n.toNat) := by unfold takeP; rw [if_neg (by omega)]
      have hxl : (t.take n.toNat).length = n.toNat := by rw [List.length_take]; omega
      refine ⟨r, 0, rfl, _, _, _, a1.cell 0 rfl, ⟨hn, by omega⟩, r, 0, rfl, _, _, _, a1.cell 0 rfl, ⟨hn, by omega⟩, r, 0, rfl, a1.st (by simp) fun w' B u => ⟨t.take n.toNat, subp p 0 c 1, c - 0, ?_, ?_, some (t.drop n.toNat), ⟨h0, _, _, _, B, fun t' ht' => ?_⟩, u, by omega, by omega, fun x h => hf x (List.mem_of_mem_take h), fun f T hT => ?_⟩⟩
      · rw [hxl, Nat.sub_zero, Nat.sub_zero]
      · have := hx.sub 0 n.toNat c (by omega)
        rw [List.drop_zero] at this
        exact Ints.upd this u fun z hz e => h0 z hz e
      · injection ht' with ht'
        subst ht'
        refine ⟨List.length_drop.symm, by omega, ?_, by rw [List.length_drop]; omega⟩
        have := hx.sub n.toNat t.length c hc
        rw [List.take_length] at this
        exact Ints.upd this u fun z hz e => h0 z hz e
      · have hT : andThen (takeP n) f t = T := hT
        show f _ (t.drop n.toNat) = T
        rw [← hT]
        unfold andThen
        rw [htk]
theorem rrnum_does (h : RR w r ok st) {n : Int} (hn : 0 ≤ n ∧ n ≤ 4) : Does Try.prog 42 #[.pointer (some ⟨r, 0, none⟩), .int .i64 n] w fun e w' => ∃ x, e = .returned (.int .i64 (getN x)) ∧ TakeR w r ok st n x w' := by
  apply f42_does
  refine (rrtake_does h hn.1).imp ?_
  rintro e w10 ⟨x, p, c, rfl, hx, st', h1, h2, h3, h4, h5, h6⟩
  refine ⟨_, _, _, rfl, fun x6 x7 nl wl => ∃ j : Nat, x7 = j ∧ nl = x.length - j ∧ j ≤ x.length ∧ x6 = getN (x.take j) ∧ wl = w10, ⟨_, 0, rfl, rfl, Nat.zero_le _, rfl, rfl⟩, ?_⟩
  rintro _ _ _ wl ⟨j, rfl, rfl, hj, rfl, rfl⟩
  refine brr (fun q => ?_) fun q => ?_
  · have q := of_decide_eq_true q
    have hjl : j < x.length := by omega
    have hg := getN_lt (b := x.take j) (fun y hy => h5 y (List.mem_of_mem_take hy)) (by rw [List.length_take]; omega)
    obtain ⟨b, o, hp, hc⟩ := hx.at j hjl
    have hxj := h5 _ (List.getElem_mem hjl)
    refine ⟨by decide, inI64 (by omega) (by omega), ⟨by omega, by omega⟩, b, o, hp, x[j], by rw [Int.toNat_natCast]; exact hc, inI64 (by omega) (by omega), inI64 (by omega) (by omega), _, ?_, j + 1, by omega, rfl, hjl, ?_, rfl⟩
    · omega
    · rw [or_i64 ⟨hg.1, by omega⟩ hxj, ← getN_snoc, ← List.take_succ_eq_append_getElem hjl]
  · have q := of_decide_eq_false q
    obtain rfl : j = x.length := by omega
    rw [List.take_length]
    exact ⟨x, rfl, st', h1, h2, h3, h4, h5, h6⟩
/-- A number of four bytes. -/
theorem rr4_does (h : RR w r ok st) : Does Try.prog 42 #[.pointer (some ⟨r, 0, none⟩), .int .i64 4] w fun e w' => ∃ v st', e = .returned (.int .i64 v) ∧ Fits32 v ∧ RR w' r ok st' ∧ Upd (fun z => z = r) w w' ∧ ∀ {β : Type} (f : Int → Ps β) (T : Option (β × List Int)), Pend st (andThen numP f) T → Pend st' (f v) T := by
  refine (rrnum_does h (by decide)).imp ?_
  rintro e w' ⟨x, rfl, st', h1, h2, h3, h4, h5, h6⟩
  refine ⟨getN x, st', rfl, ?_, h1, h2, fun f T hT => ?_⟩
  · by_cases h : x.length = 4
    · exact getN4 h5 h
    · have := getN_lt (b := x) h5 (by omega)
      exact ⟨this.1, by omega⟩
  · refine h6 (fun x => f (getN x)) T ?_
    have : andThen numP f = andThen (takeP 4) fun x => f (getN x) := by unfold numP; simp only [then_assoc, done_then]
    rwa [this] at hT
end
end Go.Proofs.Ytlenmnffdbgkkaa
