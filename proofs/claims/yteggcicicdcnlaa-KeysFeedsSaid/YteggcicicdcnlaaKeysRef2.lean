/-
  Keys: what each function of the reference does: a command.
-/
import Derived.Test.YteggcicicdcnlaaKeysRef
namespace Go.Vc
open Go.RowKit
theorem br_vis {p v : Bool} {w : World} {a0 : Option Addr} {m : Nat} (ha0 : a0 = some ⟨m, 0, none⟩) (hv : w.cell? ⟨m, 0, none⟩ = some (.bool v)) {A T : Prop} (ha : p = true → v = false → A) (ht : ¬ (p = true ∧ v = false) → T) :
    Br p (∃ b o, a0 = some ⟨b, o, none⟩ ∧ ∃ b', w.cell? ⟨b, o, none⟩ = some (.bool b') ∧ Br (!b') A T) T :=
  brr (fun h => ⟨m, 0, ha0, v, hv, brr (fun k => ha h (by simpa using k)) fun k => ht (fun e => by rw [e.2] at k; cases k)⟩) fun h => ht fun e => by rw [e.1] at h; cases h
theorem Own.zero {w w' : World} {b : Nat} {T : TypeId} (h : NewBlk w b [] T w') : Own w' b T 1 (some ⟨b, 0, none⟩) 0 0 [] :=
  ⟨rfl, .inr ⟨b, 0, _, rfl, Nat.le_refl _, h.heap, by decide, by decide, rfl, rfl⟩⟩
theorem last_sb {s : ByteArray} {key : List Int} (hs : L s = key) (hk : 0 < key.length) : sb s (((s.size : Int)) - 1) = lastK key := by
  have hsz := L_len s
  subst hs
  have e1 : ((s.size : Int)) - 1 = (((L s).length - 1 : Nat) : Int) := by omega
  rw [e1, L_sb (by omega)]
  unfold lastK
  rw [List.getLastD_eq_getLast?, List.getLast?_eq_getElem?, List.getElem?_eq_getElem (by omega)]
  rfl
/-! ### How long an argument is -/
theorem motR_len (t : List Int) : (motionR t).2.1.length ≤ t.length := by
  unfold motionR
  (repeat' split) <;> simp
theorem plR_len (v : Bool) (t : List Int) : (plainR v t).2.1.length ≤ t.length := by
  unfold plainR
  (repeat' split) <;> simp
theorem opR_len (t : List Int) : (operR t).2.1.length ≤ t.length := by
  unfold operR
  (repeat' split) <;> simp <;> omega
theorem countG_len : ∀ (t : List Int) (n : Int), (countG n t).2.length ≤ t.length
  | [], n => Nat.le_refl _
  | x :: r, n => by
    unfold countG
    split
    · have := countG_len r (min99 (n * 10 + (x - 48)))
      simp only [List.length_cons]; omega
    · exact Nat.le_refl _
theorem countR_len (t : List Int) : (countR t).2.length ≤ t.length := by
  unfold countR
  split
  · exact Nat.le_refl _
  · exact countG_len t 0
theorem tailR_len {x : Cd} (h : x.arg = []) (t : List Int) : (tailR x t).1.arg.length ≤ t.length := by
  unfold tailR
  split
  · simp [h]
  · split
    · simp [h]
    · exact motR_len t
theorem operatedR_len {x : Cd} (h : x.arg = []) (t : List Int) : (operatedR x t).1.arg.length ≤ t.length := by
  have := countR_len t
  unfold operatedR
  refine Nat.le_trans (tailR_len ?_ _) this
  split <;> exact h
theorem bodyR_len {v : Bool} {x : Cd} (h : x.arg = []) (t : List Int) : (bodyR v x t).1.arg.length ≤ t.length := by
  unfold bodyR
  split
  · simp [h]
  split
  · simp [h]
  split
  · exact Nat.le_trans (operatedR_len (x := { x with key := (operR t).1 }) h _) (opR_len t)
  split
  · exact motR_len t
  split
  · exact plR_len v t
  · simp [h]
theorem readR_len (v : Bool) (t : List Int) : (readR v t).1.arg.length ≤ t.length := by
  cases t with
  | nil => exact Nat.le_refl _
  | cons c r =>
    by_cases hc : c = 34
    · subst hc
      cases r with
      | nil => exact Nat.zero_le _
      | cons x q =>
        show (if nameK x = true then bodyR v ⟨x, (countR q).1, [], [], []⟩ (countR q).2 else (cd0, 2)).1.arg.length ≤ _
        split
        · exact Nat.le_trans (bodyR_len rfl _) (Nat.le_trans (countR_len q) (by simp only [List.length_cons]; omega))
        · exact Nat.zero_le _
    · have : readR v (c :: r) = bodyR v ⟨0, (countR (c :: r)).1, [], [], []⟩ (countR (c :: r)).2 := by unfold readR; simp [hc]
      rw [this]
      exact Nat.le_trans (bodyR_len rfl _) (countR_len _)
/-! ### Plain commands, case by case -/
theorem plR_p {v : Bool} {k : Int} (r : List Int) (h : k ∈ plains v) : plainR v (k :: r) = ([k], [], 1) := by unfold plainR; simp [h]
theorem plR_r {k : Int} (r : List Int) (h : k = 18) : plainR false (k :: r) = ([94, 82], [], 1) := by
  subst h
  unfold plainR; simp [show (18 : Int) ∉ plains false by decide]
theorem plR_114 (v : Bool) : plainR v [114] = ([], [], 0) := by cases v <;> decide
theorem plR_114x {v : Bool} {x : Int} (r : List Int) : plainR v (114 :: x :: r) = if ((x :: r).length : Int) < longK x then ([], [], 0) else ([114], x :: r, 1) := by
  unfold plainR; simp [show (114 : Int) ∉ plains v by cases v <;> decide]
theorem plR_109 (v : Bool) : plainR v [109] = ([], [], 0) := by cases v <;> decide
theorem plR_109x {v : Bool} {x : Int} (r : List Int) : plainR v (109 :: x :: r) = if smallK x = true then ([109], x :: r, 1) else ([], [], 2) := by
  unfold plainR; simp [show (109 : Int) ∉ plains v by cases v <;> decide]
theorem plR_g {r : List Int} (h : r.head? = some 45 ∨ r.head? = some 43) : plainR false (103 :: r) = (103 :: r, [], 1) := by
  unfold plainR; simp [show (103 : Int) ∉ plains false by decide, h]
theorem plR_g0 (v : Bool) : plainR v [103] = ([], [], 0) := by cases v <;> decide
theorem plR_no {v : Bool} {k : Int} (r : List Int) (h1 : k ∉ plains v) (h2 : ¬ (k = 18 ∧ v = false)) (h3 : k ≠ 114) (h4 : k ≠ 109) (h5 : ¬ (k = 103 ∧ v = false ∧ (r.head? = some 45 ∨ r.head? = some 43))) (h6 : ¬ (k = 103 ∧ r = [])) :
    plainR v (k :: r) = ([], [], 2) := by
  unfold plainR
  show (if _ then _ else _) = _
  rw [if_neg h1, if_neg h2, if_neg h3, if_neg h4, if_neg h5, if_neg h6]
theorem opR_key {t : List Int} (h : (operR t).2.2 = 1) : 0 < (operR t).1.length ∧ (operR t).1.length ≤ 2 := by
  unfold operR at h ⊢
  cases t with
  | nil => simp at h
  | cons c r =>
    simp only at h ⊢
    by_cases h1 : c ∈ opers
    · rw [if_pos h1]; simp
    · rw [if_neg h1] at h ⊢
      by_cases h2 : c ≠ 103
      · rw [if_pos h2] at h; simp at h
      · rw [if_neg h2] at h ⊢
        cases r with
        | nil => simp at h
        | cons x q =>
          simp only at h ⊢
          by_cases h3 : x ∈ opers2
          · rw [if_pos h3]; simp
          · rw [if_neg h3] at h; simp at h
end Go.Vc
namespace Go.Proofs.Yteggcicicdcnlaa
open Go.RowKit Go.Vc
/-- A command's cells are read, laid and handed on. -/
theorem ret55 {ws : World} {b4 b6 : Nat} {vs : List Value} {r n : Int} {sk sm : ByteArray} {p : Option Addr} {l c : Nat} (h6 : Blk ws b6 (cellsK r n sk sm p l c)) (h4 : Blk ws b4 vs) (hl : vs.length = 5) {G : Int → Int → ByteArray → ByteArray → Option Addr → Nat → Nat → World → Prop} (hG : ∀ w', Upd (fun z => z = b4) ws w' → G r n sk sm p l c w') :
    ∃ r0 : Int, ws.cell? ⟨b6, 0, none⟩ = some (.int .u8 r0) ∧ ∃ n0 : Int, ws.cell? ⟨b6, 1, none⟩ = some (.int .i64 n0) ∧ ∃ sk0 : ByteArray, ws.cell? ⟨b6, 2, none⟩ = some (.string sk0) ∧ ∃ sm0 : ByteArray, ws.cell? ⟨b6, 3, none⟩ = some (.string sm0) ∧ ∃ (p0 : Option Addr) (l0 c0 : Nat), ws.cell? ⟨b6, 4, none⟩ = some (.slice p0 l0 c0) ∧
    CanStore ws b4 0 ∧ ∀ w1, Stored ws b4 0 (.int .u8 r0) w1 → CanStore w1 b4 1 ∧ ∀ w2, Stored w1 b4 1 (.int .i64 n0) w2 → CanStore w2 b4 2 ∧ ∀ w3, Stored w2 b4 2 (.string sk0) w3 → CanStore w3 b4 3 ∧ ∀ w4, Stored w3 b4 3 (.string sm0) w4 → CanStore w4 b4 4 ∧ ∀ w5, Stored w4 b4 4 (.slice p0 l0 c0) w5 →
      ∃ r' : Int, w5.cell? ⟨b4, 0, none⟩ = some (.int .u8 r') ∧ ∃ n' : Int, w5.cell? ⟨b4, 1, none⟩ = some (.int .i64 n') ∧ ∃ sk' : ByteArray, w5.cell? ⟨b4, 2, none⟩ = some (.string sk') ∧ ∃ sm' : ByteArray, w5.cell? ⟨b4, 3, none⟩ = some (.string sm') ∧ ∃ (p' : Option Addr) (l' c' : Nat), w5.cell? ⟨b4, 4, none⟩ = some (.slice p' l' c') ∧ G r' n' sk' sm' p' l' c' w5 :=
  ⟨_, h6.cell 0 rfl, _, h6.cell 1 rfl, _, h6.cell 2 rfl, _, h6.cell 3 rfl, _, _, _, h6.cell 4 rfl, ret5 h4 hl hG⟩
section
variable {w : World} {ok : Nat → Prop} {p : Option Addr} {xs : List Int} {l c : Nat}
theorem rplain_does (hx : Ints .u8 w ok p xs) (hl : l = xs.length) (hc : l ≤ c) {i : Nat} (hlt : i < xs.length) (hs : xs.length ≤ 1000001) {m : Nat} {v : Bool} (hv : w.cell? ⟨m, 0, none⟩ = some (.bool v)) :
    Does Try.prog 25 #[.pointer (some ⟨m, 0, none⟩), .slice p l c, .int .i64 i] w (RdQ w ok (plainR v (xs.drop i))) := by
  apply f25_does
  rw [List.drop_eq_getElem_cons hlt]
  obtain ⟨hr, hrl⟩ := hx.tail hl hc hlt
  have hk := hx.inK xs[i] (List.getElem_mem hlt)
  refine hx.rd hl rfl hlt ?_
  generalize xs[i] = k at hk ⊢
  have hb : (((0 : Int) ≤ (i : Int) + 1) ∧ ((i : Int) + 1) ≤ (l : Int)) := by omega
  have hlr : (xs.drop (i + 1)).length ≤ 1000001 := by rw [List.length_drop]; omega
  generalize xs.drop (i + 1) = r at hr hrl hlr ⊢
  refine ⟨inI64 (by omega) (by omega), hb, fun s _ wc => L s = plains v ∧ wc = w, ⟨m, 0, rfl, v, hv, brr (fun q => ⟨0, ?_, rfl⟩) fun q => ⟨0, ?_, rfl⟩⟩, ?_⟩
  · subst q; decide
  · subst q; decide
  rintro s _ wc ⟨hps, rfl⟩
  refine ⟨fun _ wz => wz = wc ∧ plainR v (k :: r) = ([], [], 2), (has_does hps (by cases v <;> decide) k).imp ?_, ?_⟩
  · rintro e w27 ⟨rfl, rfl⟩
    refine ⟨_, rfl, brr (fun q1 b25 w25 hb25 => one_str hb25 hk fun s hs => ?_) fun q1 => ?_⟩
    · rw [plR_p r (of_decide_eq_true q1)]
      exact rdq_none hs hb25.ext
    have q1 := of_decide_eq_false q1
    refine br_vis rfl hv (fun q2 hv0 => ?_) fun q2 => ?_
    · subst hv0
      rw [plR_r r (by simpa using q2)]
      exact rdq_none rfl (Upd.refl _ _)
    have q2 : ¬ (k = 18 ∧ v = false) := by simpa using q2
    refine brr (fun q3 => ?_) fun q3 => ?_
    · obtain rfl : k = 114 := by simpa using q3
      cases r with
      | nil =>
        rw [plR_114]
        exact tru (by rw [hrl]; rfl) (rdq_none rfl (Upd.refl _ _))
      | cons x r' =>
        refine fls (by rw [hrl]; simp; omega) (hr.rd hrl rfl (Nat.zero_lt_succ _) ((rletter_does x).imp ?_))
        rintro e w49 ⟨rfl, rfl⟩
        rw [plR_114x r']
        refine ⟨_, rfl, brr (fun q4 => ?_) fun q4 => ?_⟩
        · have q4 := of_decide_eq_true q4
          rw [hrl] at q4
          rw [if_pos q4]
          exact rdq_none rfl (Upd.refl _ _)
        · have q4 := of_decide_eq_false q4
          rw [hrl] at q4
          rw [if_neg q4]
          exact ⟨_, _, _, _, rfl, rfl, hrl, hr, Upd.refl _ _⟩
    have q3 : k ≠ 114 := by simpa using q3
    refine brr (fun q4 => ?_) fun q4 => ?_
    · obtain rfl : k = 109 := by simpa using q4
      cases r with
      | nil =>
        rw [plR_109]
        exact tru (by rw [hrl]; rfl) (rdq_none rfl (Upd.refl _ _))
      | cons x r' =>
        refine fls (by rw [hrl]; simp; omega) (hr.rd hrl rfl (Nat.zero_lt_succ _) ((rsmall_does x).imp ?_))
        rintro e w49 ⟨rfl, rfl⟩
        rw [plR_109x r']
        refine ⟨_, rfl, brr (fun q5 => ?_) fun q5 => ⟨0, rfl, ?_⟩⟩
        · rw [if_pos q5]
          exact ⟨_, _, _, _, rfl, rfl, hrl, hr, Upd.refl _ _⟩
        · rw [if_neg (by rw [show smallK x = false from q5]; decide)]
    have q4 : k ≠ 109 := by simpa using q4
    have t2 : ¬ (k = 103 ∧ v = false ∧ (r.head? = some 45 ∨ r.head? = some 43)) → Br (k == 103) (Br (((l - (((i : Int) + 1).toNat) : Nat) : Int) == 0)
        (RdQ w27 ok (plainR v (k :: r)) (.returned (.tuple #[.string (({ data := #[] } : ByteArray)), .slice none 0 0, .int .i64 0])) w27) (∃ _ : Nat, w27 = w27 ∧ plainR v (k :: r) = ([], [], 2))) (∃ _ : Nat, w27 = w27 ∧ plainR v (k :: r) = ([], [], 2)) := fun h => by
      rw [hrl]
      refine brr (fun q5 => ?_) fun q5 => ?_
      · obtain rfl : k = 103 := by simpa using q5
        cases r with
        | nil =>
          rw [plR_g0]
          exact tru rfl (rdq_none rfl (Upd.refl _ _))
        | cons x r' => exact fls (by simp; omega) ⟨0, rfl, plR_no _ q1 q2 q3 q4 h (by simp)⟩
      · exact ⟨0, rfl, plR_no _ q1 q2 q3 q4 h (by simp at q5; exact fun e => q5 e.1)⟩
    refine br_vis rfl hv (fun q5 hv0 => ?_) fun q5 => t2 fun e => q5 ⟨by simp [e.1], e.2.1⟩
    obtain rfl : k = 103 := by simpa using q5
    subst hv0
    cases r with
    | nil => exact fls (by rw [hrl]; rfl) (t2 (by simp))
    | cons x r' =>
      refine tru (by rw [hrl]; simp) (hr.rd hrl rfl (Nat.zero_lt_succ _) ((has_does (xs := [45, 43]) (by decide) (by decide) x).imp ?_))
      rintro e w49 ⟨rfl, rfl⟩
      refine ⟨_, rfl, brr (fun q6 => ?_) fun q6 => ?_⟩
      · have q6 : x = 45 ∨ x = 43 := by simpa using q6
        have q6 : (x :: r').head? = some 45 ∨ (x :: r').head? = some 43 := by simpa using q6
        refine ⟨_, _, conv_str Try.underlying27 Try.underlying5 Try.underlying9 hr hrl _, ?_, ?_⟩
        · have := L_len (strOfNums (x :: r'))
          rw [L_nums hr.inK] at this
          have h1 : (({ data := #[103] } : ByteArray)).size = 1 := rfl
          rw [h1, ← this]; omega
        · rw [plR_g q6]
          refine rdq_none ?_ (Upd.refl _ _)
          rw [L_append, L_nums hr.inK]; rfl
      · have q6 : ¬ (x = 45 ∨ x = 43) := by simpa using q6
        exact t2 fun e => q6 (by simpa using e.2.2)
  · rintro _ wz ⟨rfl, h⟩
    rw [h]
    exact rdq_none rfl (Upd.refl _ _)
/-- A command that is read. -/
def CdQ (w : World) (ok : Nat → Prop) (r : Cd × Int) (e : Ending) (w' : World) : Prop :=
  ∃ sk sm p c, e = .returned (.tuple #[.agg #[.int .u8 r.1.reg, .int .i64 r.1.count, .string sk, .string sm, .slice p r.1.arg.length c], .int .i64 r.2]) ∧ L sk = r.1.key ∧ L sm = r.1.mot ∧ Ints .u8 w' ok p r.1.arg ∧ Ext w w'
theorem roperated_does (hx : Ints .u8 w ok p xs) (hok : ∀ z, ok z → z < w.heap.size) (hl : l = xs.length) (hc : l ≤ c) {i : Nat} (hi : i ≤ xs.length) (hs : xs.length ≤ 1000001) {x : Cd} {sk sm : ByteArray} {pa : Option Addr} {ca : Nat} (hsk : L sk = x.key) (hsm : L sm = x.mot)
    (ha : Ints .u8 w ok pa x.arg) (hn : 0 ≤ x.count ∧ x.count ≤ 99) (hk : 0 < x.key.length ∧ x.key.length ≤ 2) (a0 : Option Addr) :
    Does Try.prog 23 #[.pointer a0, .agg #[.int .u8 x.reg, .int .i64 x.count, .string sk, .string sm, .slice pa x.arg.length ca], .slice p l c, .int .i64 i] w (CdQ w ok (operatedR x (xs.drop i))) := by
  apply f23_does
  intro b5 w5 hb5 b8 w8 hb8
  have e5 := hb5.eq
  have e8 := hb8.eq
  have z5 := hb5.size
  have x8 := hb5.ext.thn hb8.ext
  have B5 : Blk w8 b5 (cellsK x.reg x.count sk sm pa x.arg.length ca) := hb5.blk.ext hb8.ext
  have B8 := hb8.blk
  refine (rcount_does (hx.ext x8) hl hi hs).imp ?_
  rintro e w17 ⟨⟨k, rfl, hkl, hd⟩, rfl⟩
  have hcr := countR_ge (xs.drop i)
  unfold operatedR
  rw [← hd]
  generalize (countR (xs.drop i)).1 = n at hcr ⊢
  obtain ⟨x', hx'⟩ : ∃ x', x' = (if n > 0 then { x with count := min99 ((if x.count < 1 then 1 else x.count) * n) } else x) := ⟨_, rfl⟩
  rw [← hx']
  have f1 : x'.reg = x.reg ∧ x'.key = x.key ∧ x'.mot = x.mot ∧ x'.arg = x.arg := by rw [hx']; split <;> exact ⟨rfl, rfl, rfl, rfl⟩
  refine ⟨_, _, rfl, fun _ wc => Blk wc b5 (cellsK x'.reg x'.count sk sm pa x'.arg.length ca) ∧ Upd (fun z => z = b5) w17 wc, brr (fun q => ?_) fun q => ?_, ?_⟩
  · have q := of_decide_eq_true q
    rw [if_pos q] at hx'
    have hm : 1 ≤ (if x.count < 1 then 1 else x.count) ∧ (if x.count < 1 then 1 else x.count) ≤ 99 := by split <;> omega
    have hmul : 0 ≤ (if x.count < 1 then 1 else x.count) * n ∧ (if x.count < 1 then 1 else x.count) * n ≤ 9801 := by
      generalize (if x.count < 1 then 1 else x.count) = y at hm ⊢
      refine ⟨Int.mul_nonneg (by omega) hcr.1, ?_⟩
      have : y * n ≤ 99 * n := Int.mul_le_mul_of_nonneg_right hm.2 hcr.1
      omega
    refine ⟨_, B5.cell 1 rfl, inI64 (by omega) (by omega), B5.st (by simp [cellsK]) fun ws Bs us => ⟨0, ?_, us⟩⟩
    rw [hx']; exact Bs
  · have q := of_decide_eq_false q
    rw [if_neg q] at hx'
    rw [hx']
    exact ⟨0, B5, Upd.refl _ _⟩
  rintro _ wc ⟨B5c, uc⟩
  have zc := uc.size
  have z8 := hb8.size
  have B8c := B8.upd uc (by omega)
  have Xc : Ext w wc := x8.loc (by omega) uc
  have hac : Ints .u8 wc ok pa x'.arg := by rw [f1.2.2.2]; exact ha.ext Xc
  have fin : ∀ {wz : World} {y : Cd} {sk sm pa ca n}, Ext w wz → Blk wz b5 (cellsK y.reg y.count sk sm pa y.arg.length ca) → Blk wz b8 [.int .u8 0, .int .i64 0, .string (({ data := #[] } : ByteArray)), .string (({ data := #[] } : ByteArray)), .slice none 0 0] → L sk = y.key → L sm = y.mot → Ints .u8 wz ok pa y.arg →
      ∀ w', Upd (fun z => z = b8) wz w' → CdQ w ok (y, n) (.returned (.tuple #[.agg #[.int .u8 y.reg, .int .i64 y.count, .string sk, .string sm, .slice pa y.arg.length ca], .int .i64 n])) w' := fun x1 _ _ h1 h2 h3 w' u =>
    ⟨_, _, _, _, rfl, h1, h2, h3.upd u fun z hz e => by have := hok z hz; omega, x1.loc (by omega) u⟩
  refine brr (fun q => ?_) fun q => ?_
  · have q := of_decide_eq_true q
    have hn0 : xs.drop k = [] := List.drop_of_length_le (by omega)
    rw [hn0]
    exact ret55 B5c B8c rfl (fin Xc B5c B8c (by rw [hsk, f1.2.1]) (by rw [hsm, f1.2.2.1]) hac)
  have q := of_decide_eq_false q
  have hlt : k < xs.length := by omega
  have hdk := List.drop_eq_getElem_cons hlt
  have ht : tailR x' (xs.drop k) = if xs.drop k = [lastK x'.key] then ({ x' with mot := [95] }, 1) else ({ x' with mot := (motionR (xs.drop k)).1, arg := (motionR (xs.drop k)).2.1 }, (motionR (xs.drop k)).2.2) := by
    unfold tailR
    rw [if_neg (by rw [hdk]; exact List.cons_ne_nil _ _)]
  have hsz := L_len sk
  rw [hsk] at hsz
  refine ⟨fun _ wz => xs.drop k ≠ [lastK x'.key] ∧ Ext wc wz, fun wd hwd => (hx.ext (Xc.thn hwd.ext)).rd hl rfl hlt ⟨_, (B5c.ext hwd.ext).cell 2 rfl, _, (B5c.ext hwd.ext).cell 2 rfl, inI64 (by omega) (by omega), ⟨by omega, by omega⟩, ?_⟩, ?_⟩
  · rw [last_sb hsk hk.1, ← f1.2.1]
    refine brr (fun q1 => ⟨inI64 (by omega) (by omega), brr (fun q2 => ?_) fun q2 => ⟨0, ?_, hwd.ext⟩⟩) fun q1 => ⟨0, ?_, hwd.ext⟩
    · have q1 : xs[k] = lastK x'.key := by simpa using q1
      have q2 : (k : Int) = (l : Int) - 1 := by simpa using q2
      rw [ht, if_pos (by rw [hdk, q1, List.drop_of_length_le (by omega)])]
      have X1 := Xc.thn hwd.ext
      refine (B5c.ext hwd.ext).st (by simp [cellsK]) fun ws Bs us => ?_
      have X2 := X1.loc (by omega) us
      have zs := us.size
      have zd := hwd.ext.size
      have B8s := (B8c.ext hwd.ext).upd us (by omega)
      exact ret55 (sm := { data := #[95] }) Bs B8s rfl (fin (y := { x' with mot := [95] }) X2 Bs B8s (by rw [hsk, f1.2.1]) rfl ((hac.ext hwd.ext).upd us fun z hz e => by have := hok z hz; omega))
    · have q2 : (k : Int) ≠ (l : Int) - 1 := by simpa using q2
      intro e
      have := congrArg List.length e
      rw [List.length_drop] at this
      simp at this
      omega
    · have q1 : xs[k] ≠ lastK x'.key := by simpa using q1
      intro e
      rw [hdk] at e
      exact q1 (List.cons.inj e).1
  rintro _ wz ⟨hne, xz⟩
  rw [ht, if_neg hne]
  have Xz := Xc.thn xz
  refine (rmotion_does (hx.ext Xz) hl hc hkl hs).imp ?_
  rintro e w58 ⟨s58, p58, _, c58, rfl, hs58, rfl, hI58, x58⟩
  have X58 := Xz.thn x58
  refine ⟨_, _, _, _, _, rfl, ((B5c.ext xz).ext x58).st (by simp [cellsK]) fun ws Bs us => Bs.st (by simp [cellsK]) fun ws1 Bs1 us1 => ?_⟩
  have u2 := us.trans us1
  have zz := (xz.thn x58).size
  have X2 := X58.loc (by omega) u2
  have B8s := ((B8c.ext xz).ext x58).upd u2 (by omega)
  have := X58.size
  exact ret55 Bs1 B8s rfl (fin (y := { x' with mot := (motionR (xs.drop k)).1, arg := (motionR (xs.drop k)).2.1 }) X2 Bs1 B8s (by rw [hsk, f1.2.1]) hs58 (hI58.upd u2 fun z hz e => by have := hok z hz; omega))
theorem readR_1 (v : Bool) : readR v [34] = (cd0, 0) := rfl
theorem readR_2 {v : Bool} {x : Int} {q : List Int} : readR v (34 :: x :: q) = if nameK x = true then bodyR v ⟨x, (countR q).1, [], [], []⟩ (countR q).2 else (cd0, 2) := by unfold readR; simp
theorem readR_3 {v : Bool} {c : Int} {r : List Int} (h : c ≠ 34) : readR v (c :: r) = bodyR v ⟨0, (countR (c :: r)).1, [], [], []⟩ (countR (c :: r)).2 := by unfold readR; simp [h]
theorem rread_does (hx : Ints .u8 w ok p xs) (hok : ∀ z, ok z → z < w.heap.size) (hl : l = xs.length) (hc : l ≤ c) (h0 : 0 < xs.length) (hs : xs.length ≤ 1000001) {m : Nat} {v : Bool} (hv : w.cell? ⟨m, 0, none⟩ = some (.bool v)) :
    Does Try.prog 18 #[.pointer (some ⟨m, 0, none⟩), .slice p l c] w (CdQ w ok (readR v xs)) := by
  apply f18_does
  intro b4 w4 hb4 b6 w6 hb6
  have e4 := hb4.eq
  have e6 := hb6.eq
  have z4 := hb4.size
  have z6 := hb6.size
  have hm : m < w.heap.size := World.block_lt_of_cell? w _ hv
  have x6 := hb4.ext.thn hb6.ext
  have B4 : Blk w6 b4 [.int .u8 0, .int .i64 0, .string (({ data := #[] } : ByteArray)), .string (({ data := #[] } : ByteArray)), .slice none 0 0] := hb4.blk.ext hb6.ext
  refine Blk.st5 hb6.blk rfl fun wa Ba ua => ?_
  have Ba : Blk wa b6 (cellsK 0 0 ({ data := #[] } : ByteArray) ({ data := #[] } : ByteArray) none 0 0) := Ba
  have Xa : Ext w wa := x6.loc (by omega) ua
  have za := ua.size
  have B4a := B4.upd ua (by omega)
  have fin : ∀ {wz : World} {y : Cd} {sk sm pa ca n}, Ext w wz → L sk = y.key → L sm = y.mot → Ints .u8 wz ok pa y.arg →
      ∀ w', Upd (fun z => z = b4) wz w' → CdQ w ok (y, n) (.returned (.tuple #[.agg #[.int .u8 y.reg, .int .i64 y.count, .string sk, .string sm, .slice pa y.arg.length ca], .int .i64 n])) w' := fun x1 h1 h2 h3 w' u =>
    ⟨_, _, _, _, rfl, h1, h2, h3.upd u fun z hz e => by have := hok z hz; omega, x1.loc (by omega) u⟩
  refine ⟨fun x7 _ wc => ∃ i : Nat, ∃ reg : Int, x7 = i ∧ i ≤ xs.length ∧ Blk wc b6 (cellsK reg 0 ({ data := #[] } : ByteArray) ({ data := #[] } : ByteArray) none 0 0) ∧ Upd (fun z => z = b6) w6 wc ∧
    readR v xs = bodyR v ⟨reg, (countR (xs.drop i)).1, [], [], []⟩ (countR (xs.drop i)).2, (hx.ext Xa).rd hl rfl h0 ?_, ?_⟩
  · obtain ⟨k0, r, rfl⟩ : ∃ k0 r, xs = k0 :: r := by
      cases xs with
      | nil => simp at h0
      | cons a b => exact ⟨a, b, rfl⟩
    show Br (k0 == 34) _ _
    refine brr (fun q => ?_) fun q => ?_
    · obtain rfl : k0 = 34 := by simpa using q
      cases r with
      | nil =>
        refine tru (by rw [hl]; rfl) ?_
        rw [readR_1]
        exact ret55 Ba B4a rfl (fin (y := cd0) Xa rfl rfl RS.nil)
      | cons x q =>
        have h1 : 1 < (34 :: x :: q).length := by simp
        refine fls (by rw [hl]; simp; omega) ((hx.ext Xa).rd hl rfl h1 ((rname_does x).imp ?_))
        rintro e w28 ⟨rfl, rfl⟩
        rw [readR_2]
        refine ⟨_, rfl, brr (fun q1 => ?_) fun q1 => (hx.ext Xa).rd hl rfl h1 ?_⟩
        · rw [if_neg (by simpa using q1)]
          exact ret55 Ba B4a rfl (fin (y := cd0) Xa rfl rfl RS.nil)
        · rw [if_pos (by simpa using q1)]
          exact Ba.st (by simp [cellsK]) fun ws Bs us => ⟨0, 2, x, rfl, by simp, Bs, ua.trans us, rfl⟩
    · have q : k0 ≠ 34 := by simpa using q
      exact ⟨0, 0, 0, rfl, Nat.zero_le _, Ba, ua, readR_3 q⟩
  rintro _ _ wc ⟨i, reg, rfl, hi, B6c, uc, hread⟩
  rw [hread]
  have Xc : Ext w wc := x6.loc (by omega) uc
  have zc := uc.size
  refine (rcount_does (hx.ext Xc) hl hi hs).imp ?_
  rintro e w38 ⟨⟨k, rfl, hkl, hd⟩, rfl⟩
  have hcr := countR_ge (xs.drop i)
  rw [← hd]
  generalize (countR (xs.drop i)).1 = n at hcr ⊢
  refine ⟨_, _, rfl, B6c.st (by simp [cellsK]) fun ws Bs us => ?_⟩
  have u6 := uc.trans us
  have Xs : Ext w ws := x6.loc (by omega) u6
  have B4s := B4.upd u6 (by omega)
  have Bs : Blk ws b6 (cellsK reg n ({ data := #[] } : ByteArray) ({ data := #[] } : ByteArray) none 0 0) := Bs
  refine brr (fun q => ?_) fun q => ?_
  · have q := of_decide_eq_true q
    have hn0 : xs.drop k = [] := List.drop_of_length_le (by omega)
    rw [hn0]
    exact ret55 Bs B4s rfl (fin (y := ⟨reg, n, [], [], []⟩) Xs rfl rfl RS.nil)
  have q := of_decide_eq_false q
  have hlt : k < xs.length := by omega
  have hdk := List.drop_eq_getElem_cons hlt
  have hne : xs.drop k ≠ [] := by rw [hdk]; exact List.cons_ne_nil _ _
  have hvs := Xs.cell hv
  refine ⟨fun _ wz => ¬ (v = false ∧ (operR (xs.drop k)).2.2 = 0) ∧ ¬ (v = false ∧ (operR (xs.drop k)).2.2 = 1) ∧ Ext ws wz, ⟨m, 0, rfl, v, hvs, brr (fun q1 => ?_) fun q1 => ⟨0, ?_, ?_, Upd.refl _ _⟩⟩, ?_⟩
  · have hv0 : v = false := by simpa using q1
    refine (roperator_does (hx.ext Xs) hl hlt hs).imp ?_
    rintro e w55 ⟨s55, k2, rfl, hs55, hk2, hd2, x55⟩
    have X55 := Xs.thn x55
    have B655 := Bs.ext x55
    have B455 := B4s.ext x55
    refine ⟨_, _, _, rfl, brr (fun q2 => ?_) fun q2 => brr (fun q3 => ?_) fun q3 => ⟨0, ?_, ?_, x55⟩⟩
    · have q2 : (operR (xs.drop k)).2.2 = 0 := by simpa using q2
      have : bodyR v ⟨reg, n, [], [], []⟩ (xs.drop k) = (⟨reg, n, [], [], []⟩, 0) := by unfold bodyR; rw [if_neg hne, if_pos ⟨hv0, q2⟩]
      rw [this]
      exact ret55 B655 B455 rfl (fin (y := ⟨reg, n, [], [], []⟩) X55 rfl rfl RS.nil)
    · have q3 : (operR (xs.drop k)).2.2 = 1 := by simpa using q3
      have : bodyR v ⟨reg, n, [], [], []⟩ (xs.drop k) = operatedR ⟨reg, n, (operR (xs.drop k)).1, [], []⟩ (operR (xs.drop k)).2.1 := by unfold bodyR; rw [if_neg hne, if_neg (by rw [q3]; simp), if_pos ⟨hv0, q3⟩]
      rw [this, ← hd2]
      refine B655.st (by simp [cellsK]) fun wt Bt ut => ?_
      have zt := ut.size
      have z55 := X55.size
      have Xt := X55.loc (by omega) ut
      have B4t := B455.upd ut (by omega)
      refine ⟨_, Bt.cell 0 rfl, _, Bt.cell 1 rfl, _, Bt.cell 2 rfl, _, Bt.cell 3 rfl, _, _, _, Bt.cell 4 rfl,
        (roperated_does (x := ⟨reg, n, (operR (xs.drop k)).1, [], []⟩) (hx.ext Xt) (fun z hz => Nat.lt_of_lt_of_le (hok z hz) Xt.size) hl hc hk2 hs hs55 rfl RS.nil hcr (opR_key q3) _).imp ?_⟩
      rintro e w70 ⟨sk, sm, p70, c70, rfl, hsk, hsm, hI70, x70⟩
      exact ⟨_, _, _, _, _, _, _, _, rfl, ret5 (B4t.ext x70) rfl (fin (Xt.thn x70) hsk hsm hI70)⟩
    · exact fun e => by rw [e.2] at q2; simp at q2
    · exact fun e => by rw [e.2] at q3; simp at q3
  · exact fun e => by rw [e.1] at q1; simp at q1
  · exact fun e => by rw [e.1] at q1; simp at q1
  rintro _ wz ⟨hn0, hn1, xz⟩
  have Xz := Xs.thn xz
  refine (rmotion_does (hx.ext Xz) hl hc hkl hs).imp ?_
  rintro e w76 ⟨s76, p76, _, c76, rfl, hs76, rfl, hI76, x76⟩
  have X76 := Xz.thn x76
  have B676 := (Bs.ext xz).ext x76
  have B476 := (B4s.ext xz).ext x76
  have z76 := X76.size
  have zs76 := (xz.thn x76).size
  have zss := us.size
  have eb : bodyR v ⟨reg, n, [], [], []⟩ (xs.drop k) = if (motionR (xs.drop k)).2.2 = 1 then (⟨reg, n, [], (motionR (xs.drop k)).1, (motionR (xs.drop k)).2.1⟩, 1) else if (plainR v (xs.drop k)).2.2 = 1 then (⟨reg, n, (plainR v (xs.drop k)).1, [], (plainR v (xs.drop k)).2.1⟩, 1)
      else (⟨reg, n, [], [], []⟩, if (plainR v (xs.drop k)).2.2 < (motionR (xs.drop k)).2.2 then (plainR v (xs.drop k)).2.2 else (motionR (xs.drop k)).2.2) := by
    unfold bodyR
    rw [if_neg hne, if_neg hn0, if_neg hn1]
  rw [eb]
  refine ⟨_, _, _, _, _, rfl, brr (fun q2 => ?_) fun q2 => ?_⟩
  · have q2 : (motionR (xs.drop k)).2.2 = 1 := by simpa using q2
    rw [if_pos q2]
    refine B676.st (by simp [cellsK]) fun wt Bt ut => Bt.st (by simp [cellsK]) fun wt1 Bt1 ut1 => ?_
    have u2 := ut.trans ut1
    exact ret55 Bt1 (B476.upd u2 (by omega)) rfl (fin (y := ⟨reg, n, [], (motionR (xs.drop k)).1, (motionR (xs.drop k)).2.1⟩) (X76.loc (by omega) u2) rfl hs76 (hI76.upd u2 fun z hz e => by have := hok z hz; omega))
  have q2 : (motionR (xs.drop k)).2.2 ≠ 1 := by simpa using q2
  rw [if_neg q2]
  refine (rplain_does (hx.ext X76) hl hc hlt hs (X76.cell hv)).imp ?_
  rintro e w91 ⟨s91, p91, _, c91, rfl, hs91, rfl, hI91, x91⟩
  have X91 := X76.thn x91
  have z91 := x91.size
  refine ⟨_, _, _, _, _, rfl, brr (fun q3 => ?_) fun q3 => ?_⟩
  · have q3 : (plainR v (xs.drop k)).2.2 = 1 := by simpa using q3
    rw [if_pos q3]
    refine (B676.ext x91).st (by simp [cellsK]) fun wt Bt ut => Bt.st (by simp [cellsK]) fun wt1 Bt1 ut1 => ?_
    have u2 := ut.trans ut1
    exact ret55 Bt1 ((B476.ext x91).upd u2 (by omega)) rfl (fin (y := ⟨reg, n, (plainR v (xs.drop k)).1, [], (plainR v (xs.drop k)).2.1⟩) (X91.loc (by omega) u2) hs91 rfl (hI91.upd u2 fun z hz e => by have := hok z hz; omega))
  · have q3 : (plainR v (xs.drop k)).2.2 ≠ 1 := by simpa using q3
    rw [if_neg q3]
    exact ret55 (B676.ext x91) (B476.ext x91) rfl (fin (y := ⟨reg, n, [], [], []⟩) X91 rfl rfl RS.nil)
/-- The model's parser. -/
def Rf (w : World) (m : Nat) (v : Bool) (B : List Int) (kb : Option Nat) : Prop := ∃ p l c, Blk w m [.bool v, .slice p l c] ∧ Own w 0 5 1 p l c (B.map (Value.int .u8)) ∧ blkOf p = kb ∧ kb ≠ some m ∧ ∀ x ∈ B, InK .u8 x
theorem Rf.upd {T : Nat → Prop} {w' : World} {m : Nat} {v : Bool} {B : List Int} {kb : Option Nat} (h : Rf w m v B kb) (u : Upd T w w') (hT : ∀ z, T z → ¬ (z = m ∨ kb = some z)) : Rf w' m v B kb := by
  obtain ⟨p, l, c, h1, h2, h3, h4, h5⟩ := h
  exact ⟨p, l, c, h1.upd u fun e => hT _ e (.inl rfl), h2.upd u fun a ha e => hT _ e (.inr (by rw [← h3, ha]; rfl)), h3, h4, h5⟩
theorem Rf.lt {m : Nat} {v : Bool} {B : List Int} {kb : Option Nat} (h : Rf w m v B kb) {z : Nat} (hz : z = m ∨ kb = some z) : z < w.heap.size := by
  obtain ⟨p, l, c, h1, h2, h3, h4, h5⟩ := h
  rcases hz with rfl | hz
  · exact h1.lt
  · rw [← h3] at hz
    cases hp : p with
    | none => rw [hp] at hz; cases hz
    | some a => rw [hp] at hz; have hz : a.block = z := Option.some.inj hz; have := (h2.base hp).2; omega
def RFeedR (w : World) (m : Nat) (v : Bool) (kb : Option Nat) (r : (Cd × Int) × List Int) (e : Ending) (w' : World) : Prop :=
  ∃ val kb', e = .returned (.tuple #[val, .int .i64 r.1.2]) ∧ CdV w' (fun z => w.heap.size ≤ z) r.1.1 val ∧ Rf w' m v r.2 kb' ∧ Upd (fun z => z = m ∨ kb = some z) w w' ∧ ∀ z, kb' = some z → kb = some z ∨ w.heap.size ≤ z
theorem rfeed_does {m : Nat} {v : Bool} {B : List Int} {kb : Option Nat} (h : Rf w m v B kb) {k : Int} (hk : InK .u8 k) (hB : B.length ≤ 1000000) : Does Try.prog 13 #[.pointer (some ⟨m, 0, none⟩), .int .u8 k] w (RFeedR w m v kb (feedR v B k)) := by
  apply f13_does
  intro b4 w4 hb4
  have e4 := hb4.eq
  have z4 := hb4.size
  have hlt : ∀ {z}, z = m ∨ kb = some z → z < w.heap.size := fun hz => h.lt hz
  have hm := hlt (.inl rfl : m = m ∨ _)
  have H4 := h.upd hb4.ext fun _ e => e.elim
  obtain ⟨p, l, c, M1, M2, M3, M4, M5⟩ := H4
  have z0 : ∀ {w' : World}, CdV w' (fun z => w.heap.size ≤ z) cd0 (.agg #[.int .u8 0, .int .i64 0, .string (({ data := #[] } : ByteArray)), .string (({ data := #[] } : ByteArray)), .slice none 0 0]) := ⟨_, _, _, _, rfl, rfl, rfl, RS.nil⟩
  have nilRf : ∀ {w' : World}, Blk w' m [.bool v, .slice none 0 0] → Rf w' m v [] none := fun hb => ⟨_, _, _, hb, own_nil _ _ _ _, rfl, fun e => (by cases e), fun x hx => by cases hx⟩
  refine brr (fun q => ?_) fun q => ?_
  · have q : k = 27 := by simpa using q
    refine ⟨m, 0, rfl, M1.st (by simp) fun ws Bs us => ret5 (hb4.blk.upd us (by omega)) rfl fun w' u' => ?_⟩
    have zs := us.size
    unfold feedR
    rw [if_pos q]
    exact ⟨_, none, rfl, z0, nilRf (Bs.upd u' (by omega)), Upd.then (Upd.then (hb4.ext.mono fun _ _ e => e.elim) us fun _ _ e => .inl e) u' fun z hz e => by omega, fun _ e => by cases e⟩
  have q : k ≠ 27 := by simpa using q
  refine ⟨m, 0, rfl, _, _, _, M1.cell 1 rfl, fun b20 w20 hb20 => ?_⟩
  have e20 := hb20.eq
  have z20 := hb20.size
  have ho := M2.ext hb20.ext
  have hl := ho.len
  simp only [List.length_map] at hl
  subst hl
  obtain ⟨p', c', w21, hr, ho', hu, hat⟩ := append_own slB 27 ho (l2 := 1) (c2 := 1) (news := [Value.int .u8 k]) rfl (fun j u hj => ⟨b20, 0, rfl, by rw [Nat.zero_add]; exact hb20.cell j hj⟩) (by simp [Value.oneCell']) (by simp only [maxLen]; omega) (by omega) (by omega)
  have hpkb : ∀ a : Addr, p = some a → kb = some a.block := fun a e => by rw [← M3, e]; rfl
  have hnew : ∀ a' : Addr, p' = some a' → (kb = some a'.block ∨ a'.block = w20.heap.size) := fun a' e => (hat a' e).imp (fun ⟨a, e1, e2⟩ => by rw [hpkb a e1, e2]) id
  have hum : ¬ (∃ a, p = some a ∧ a.block = m) := fun ⟨a, e1, e2⟩ => M4 (by rw [hpkb a e1, e2])
  have hub : ∀ {z}, w.heap.size ≤ z → ¬ (∃ a, p = some a ∧ a.block = z) := fun hz ⟨a, e1, e2⟩ => by have := hlt (.inr (hpkb a e1) : _ ∨ kb = some a.block); omega
  have B4 := (hb4.blk.ext hb20.ext).upd hu (hub (by omega))
  have z21 := hu.size
  refine ⟨p', _, c', w21, hr, m, 0, rfl, ((M1.ext hb20.ext).upd hu hum).st (by simp) fun w26 B26 u26 => ?_⟩
  have z26 := u26.size
  have B4 := B4.upd u26 (by omega)
  have hp'm : ∀ a : Addr, p' = some a → a.block ≠ m := fun a e e' => by
    rcases hnew a e with h | h
    · exact M4 (by rw [h, e'])
    · have h : a.block = w20.heap.size := h
      omega
  have inK : ∀ x ∈ B ++ [k], InK .u8 x := fun x hx => by
    rcases List.mem_append.1 hx with hx | hx
    · exact M5 x hx
    · rw [List.mem_singleton.1 hx]; exact hk
  have ho'' : Own w26 0 5 1 p' (B.length + 1) c' ((B ++ [k]).map (Value.int .u8)) := by
    have : Own w21 0 5 1 p' (B.length + 1) c' ((B ++ [k]).map (Value.int .u8)) := by rw [List.map_append]; exact ho'
    exact this.upd u26 fun a e e' => hp'm a e e'
  have U26 : Upd (fun z => z = m ∨ kb = some z) w w26 := Upd.then (Upd.then ((hb4.ext.thn hb20.ext).mono fun _ _ e => e.elim) hu fun z _ ⟨a, e1, e2⟩ => .inr (by rw [hpkb a e1, e2])) u26 fun z _ e => .inl e
  have hlen : (B ++ [k]).length = B.length + 1 := by simp
  have hI : Ints .u8 w26 (fun z => z < w26.heap.size) p' (B ++ [k]) := Ints.ok (ho''.any inK) fun z hz _ => hz
  refine ⟨m, 0, rfl, _, _, _, B26.cell 1 rfl, (rread_does hI (fun _ h => h) hlen.symm ho''.cap.1 (by omega) (by omega) (B26.cell 0 rfl)).imp ?_⟩
  rintro e w30 ⟨sk, sm, pr, cr, rfl, hsk, hsm, hIr, x30⟩
  unfold feedR
  rw [if_neg q]
  have hra := readR_len v (B ++ [k])
  generalize readR v (B ++ [k]) = r at hsk hsm hIr hra ⊢
  refine ⟨_, _, _, _, _, _, _, _, rfl, fun b6 w6 hb6 => Blk.st5 hb6.blk rfl fun wa Ba ua => ?_⟩
  have e6 := hb6.eq
  have z6 := hb6.size
  have z30 := x30.size
  have za := ua.size
  have xa : Ext w26 wa := (x30.thn hb6.ext).loc (by omega) ua
  have Ua : Upd (fun z => z = m ∨ kb = some z) w wa := Upd.then U26 xa fun _ _ e => e.elim
  have B4a := B4.ext xa
  have B26a := B26.ext xa
  refine brr (fun q1 => ?_) fun q1 b36 w36 hb36 => ?_
  · have q1 : r.2 = 0 := by simpa using q1
    rw [if_pos q1]
    refine ret5 B4a rfl fun w' u' => ⟨_, blkOf p', rfl, z0, ⟨p', _, c', B26a.upd u' (by omega), (ho''.ext xa).upd u' fun a e e' => ?_, rfl, ?_, inK⟩, Upd.then Ua u' fun z hz e => by omega, fun z hz => ?_⟩
    · rcases hnew a e with h | h
      · have := hlt (.inr h : _ ∨ kb = some a.block); omega
      · have h : a.block = w20.heap.size := h
        omega
    · intro e
      cases hp : p' with
      | none => rw [hp] at e; cases e
      | some a => rw [hp] at e; exact hp'm a hp (Option.some.inj e)
    · cases hp : p' with
      | none => rw [hp] at hz; cases hz
      | some a =>
        rw [hp] at hz
        have hz : a.block = z := Option.some.inj hz
        rcases hnew a hp with h | h
        · exact .inl (by rw [h, hz])
        · have h : a.block = w20.heap.size := h
          exact .inr (by omega)
  have q1 : r.2 ≠ 0 := by simpa using q1
  rw [if_neg q1]
  have e36 := hb36.eq
  have z36 := hb36.size
  have hIa : Ints .u8 w36 (fun z => z < w26.heap.size) pr r.1.arg := ((hIr.ext hb6.ext).upd ua fun z hz e => by omega).ext hb36.ext
  obtain ⟨p39, c39, w39, hr39, ho39, hu39⟩ := append_b (xs := []) (Own.zero hb36) hIa rfl cr (by simp only [List.length_nil]; omega) (by omega)
  simp only [List.length_nil, Nat.zero_add, List.nil_append] at hr39 ho39
  have z39 := hu39.size
  have x39 : Ext wa w39 := Upd.then hb36.ext hu39 fun i hi ⟨a, e1, e2⟩ => by
    injection e1 with e1
    subst e1
    have e2 : b36 = i := e2
    omega
  have z39' := x39.size
  have hb39 : ∀ a : Addr, p39 = some a → b36 ≤ a.block := fun a e => (ho39.base e).1
  refine ⟨_, _, _, (Ba.ext hb36.ext).cell 4 rfl, p39, _, c39, w39, hr39, (Ba.ext x39).st (by simp) fun wb Bb ub => ⟨m, 0, rfl, ((B26a.ext x39).upd ub (by omega)).st (by simp) fun wc Bc uc => ?_⟩⟩
  have zb := ub.size
  have zc := uc.size
  have B4c := ((B4a.ext x39).upd ub (by omega)).upd uc (by omega)
  have Uc : Upd (fun z => z = m ∨ kb = some z) w wc := Upd.then (Upd.then (Upd.then Ua x39 fun _ _ e => e.elim) ub fun z hz e => by omega) uc fun z _ e => .inl e
  refine brr (fun q2 => ?_) fun q2 => ?_
  · have q2 : r.2 = 2 := by simpa using q2
    rw [if_pos q2]
    exact ret5 B4c rfl fun w' u' => ⟨_, none, rfl, z0, nilRf (Bc.upd u' (by omega)), Upd.then Uc u' fun z hz e => by omega, fun _ e => by cases e⟩
  have q2 : r.2 ≠ 2 := by simpa using q2
  rw [if_neg q2]
  have Bbc : Blk wc b6 (cellsK r.1.reg r.1.count sk sm p39 r.1.arg.length c39) := Bb.upd uc (by omega)
  have ho : Own wc b36 5 1 p39 r.1.arg.length c39 (r.1.arg.map (Value.int .u8)) := (ho39.upd ub fun a e e' => by have := hb39 a e; omega).upd uc fun a e e' => by have := hb39 a e; omega
  exact ret55 Bbc B4c rfl fun w' u' => ⟨_, none, rfl, ⟨_, _, _, _, rfl, hsk, hsm, Ints.ok ((ho.upd u' fun a e e' => by have := hb39 a e; omega).ints hIr.inK) fun z _ hz => by have := hz.1; omega⟩, nilRf (Bc.upd u' (by omega)), Upd.then Uc u' fun z hz e => by omega, fun _ e => by cases e⟩
theorem rsame_does {x y : Cd} {vx vy : Value} {o1 o2 : Nat → Prop} (hx : CdV w o1 x vx) (hy : CdV w o2 y vy) : Does Try.prog 14 #[vx, vy] w fun e w' => e = .returned (.bool (decide (x = y))) ∧ Ext w w' := by
  obtain ⟨sk, sm, p, ca, rfl, h1, h2, h3⟩ := hx
  obtain ⟨tk, tm, q, cb, rfl, g1, g2, g3⟩ := hy
  apply f14_does
  intro b2 w2 hb2 b3 w3 hb3
  have B2 := hb2.blk.ext hb3.ext
  have B3 := hb3.blk
  have X := hb2.ext.thn hb3.ext
  have no : x ≠ y → Ending.returned (.bool false) = .returned (.bool (decide (x = y))) ∧ Ext w w3 := fun h => ⟨by rw [decide_eq_false h], X⟩
  refine ⟨_, B2.cell 0 rfl, _, B3.cell 0 rfl, brr (fun q1 => ⟨_, B2.cell 1 rfl, _, B3.cell 1 rfl, brr (fun q2 => ⟨_, B2.cell 2 rfl, _, B3.cell 2 rfl, brr (fun q3 => ⟨_, B2.cell 3 rfl, _, B3.cell 3 rfl, brr (fun q4 => ⟨_, _, _, B2.cell 4 rfl, ?_⟩) fun q4 => no ?_⟩) fun q3 => no ?_⟩) fun q2 => no ?_⟩) fun q1 => no ?_⟩
  · refine ⟨_, w3, conv_str Try.underlying27 Try.underlying5 Try.underlying9 (h3.ext X) rfl _, _, _, _, B3.cell 4 rfl, _, w3, conv_str Try.underlying27 Try.underlying5 Try.underlying9 (g3.ext X) rfl _, ?_, X⟩
    rw [L_eq, h1, g1] at q3
    rw [L_eq, h2, g2] at q4
    have q1 : x.reg = y.reg := by simpa using q1
    have q2 : x.count = y.count := by simpa using q2
    have q3 := of_decide_eq_true q3
    have q4 := of_decide_eq_true q4
    rw [L_eq, L_nums h3.inK, L_nums g3.inK]
    obtain ⟨a1, a2, a3, a4, a5⟩ := x
    obtain ⟨b1, b2, b3, b4, b5⟩ := y
    simp only at q1 q2 q3 q4 ⊢
    rw [q1, q2, q3, q4]
    simp
  · rw [L_eq, h2, g2] at q4
    exact fun e => of_decide_eq_false q4 (by rw [e])
  · rw [L_eq, h1, g1] at q3
    exact fun e => of_decide_eq_false q3 (by rw [e])
  · exact fun e => by rw [e] at q2; simp at q2
  · exact fun e => by rw [e] at q1; simp at q1
theorem model_does {x : Cd} {vx : Value} {o1 : Nat → Prop} (hx : CdV w o1 x vx) : Does Try.prog 15 #[vx] w fun e w' => (∃ v, e = .returned v ∧ CdV w' o1 x v) ∧ Ext w w' := by
  obtain ⟨sk, sm, p, ca, rfl, h1, h2, h3⟩ := hx
  apply f15_does
  intro b1 w1 hb1 b2 w2 hb2
  have e1 := hb1.eq
  have e2 := hb2.eq
  have z1 := hb1.size
  have B1 : Blk w2 b1 (cellsK x.reg x.count sk sm p x.arg.length ca) := hb1.blk.ext hb2.ext
  have X := hb1.ext.thn hb2.ext
  have X' : ∀ {w'}, Upd (fun z => z = b2) w2 w' → Ext w w' := fun u => X.loc (by omega) u
  exact ret55 B1 hb2.blk rfl fun w' u => ⟨⟨_, rfl, _, _, _, _, rfl, h1, h2, h3.ext (X' u)⟩, X' u⟩
end
end Go.Proofs.Yteggcicicdcnlaa
