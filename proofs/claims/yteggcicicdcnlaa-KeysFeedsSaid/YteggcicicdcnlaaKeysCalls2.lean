/-
  Keys: what each function of the code does: the states, a key.
-/
import Derived.Test.YteggcicicdcnlaaKeysCalls
namespace Go.Vc
open Go.RowKit
theorem br_and' {p q : Bool} {H A B : Prop} (hH : p = true → H) (ha : p = true → q = true → A) (hb : (p && q) = false → B) : Br p (H ∧ Br q A B) B :=
  ⟨fun h => ⟨hH h, fun k => ha h k, fun k => hb (by rw [k, Bool.and_false])⟩, fun h => hb (by rw [h, Bool.false_and])⟩
theorem Own.one {k : IntKind} {w w' : World} {b : Nat} {x : Int} {T : TypeId} (h : NewBlk w b [.int k x] T w') : Own w' 0 T 1 (some ⟨b, 0, none⟩) 1 1 ([x].map (Value.int k)) :=
  ⟨rfl, .inr ⟨b, 1, _, rfl, Nat.zero_le _, h.heap, by decide, by decide, rfl, rfl⟩⟩
end Go.Vc
namespace Go.Proofs.Yteggcicicdcnlaa
open Go.RowKit Go.Vc
section
variable {w : World} {g : Nat} {s : PS} {B : List Int} {kb ab : Option Nat}
theorem counted_does (h : Ps w g s B kb ab) (hr : Rg s) {k : Int} (hk : InK .u8 k) : Does Try.prog 28 #[.pointer (some ⟨g, 0, none⟩), .int .u8 k] w (StepR w g B kb ab (countedP s k)) := by
  apply f28_does
  intro wd hd
  have H := h.ext hd.ext
  have Xu : Upd (PT g kb ab) w wd := pt_ext hd.ext
  obtain ⟨pk, lk, ck, sk, sm, pa, la, ca, M⟩ := H
  have H : Ps wd g s B kb ab := ⟨_, _, _, _, _, _, _, _, M⟩
  have n0 := hr.n0
  have n1 := hr.n1
  -- the cell of the count
  have hcell : wd.cell? ⟨g, 0 + 9 + (hereI s.here).toNat, none⟩ = some (.int .i64 (nOf s)) := by
    unfold hereI nOf
    cases s.here with
    | true => exact M.blk.cell 10 rfl
    | false => exact M.blk.cell 9 rfl
  have hn : 0 ≤ nOf s ∧ nOf s ≤ 99 := by unfold nOf; split; exact n1; exact n0
  have digit : (49 ≤ k ∧ k ≤ 57) ∨ (k = 48 ∧ nOf s > 0) → ∃ n29 : Int, wd.cell? ⟨g, 0 + 9 + (hereI s.here).toNat, none⟩ = some (.int .i64 n29) ∧ InK .i64 (10 * n29) ∧ InK .i64 (IntKind.wrap .u8 (k - 48)) ∧ InK .i64 ((10 * n29) + (IntKind.wrap .u8 (k - 48))) ∧ CanStore wd g (0 + 9 + (hereI s.here).toNat) ∧
      ∀ ws, Stored wd g (0 + 9 + (hereI s.here).toNat) (.int .i64 (if 99 < (10 * n29) + (IntKind.wrap .u8 (k - 48)) then 99 else (10 * n29) + (IntKind.wrap .u8 (k - 48)))) ws →
        Does Try.prog 26 #[.pointer (some ⟨g, 0, none⟩), .func (.func 28) #[.pointer (some ⟨g, 0, none⟩)] #[]] ws fun e40 w40 => ∃ n40 : Int, e40 = .returned (.int .i64 n40) ∧ StepR w g B kb ab (countedP s k) (.returned (.int .i64 n40)) w40 := by
    intro hd
    have hw : IntKind.wrap .u8 (k - 48) = k - 48 := wrap_in ⟨by show (0 : Int) ≤ _; omega, by show _ ≤ (255 : Int); omega⟩
    rw [hw]
    refine ⟨_, hcell, inI64 (by omega) (by omega), inI64 (by omega) (by omega), inI64 (by omega) (by omega), ?_⟩
    rw [min99_eq]
    unfold countedP
    rw [if_pos hd]
    have fin : ∀ (s' : PS), s'.arg = s.arg → s'.key = s.key → s'.mot = s.mot → (∀ pk lk ck sk sm pa la ca, (cellsP g s pk lk ck sk sm pa la ca).set (0 + 9 + (hereI s.here).toNat) (.int .i64 (min99 (10 * nOf s + (k - 48)))) = cellsP g s' pk lk ck sk sm pa la ca) → CanStore wd g (0 + 9 + (hereI s.here).toNat) ∧ ∀ ws, Stored wd g (0 + 9 + (hereI s.here).toNat) (.int .i64 (min99 (10 * nOf s + (k - 48)))) ws →
        Does Try.prog 26 #[.pointer (some ⟨g, 0, none⟩), .func (.func 28) #[.pointer (some ⟨g, 0, none⟩)] #[]] ws fun e40 w40 => ∃ n40 : Int, e40 = .returned (.int .i64 n40) ∧ StepR w g B kb ab ({ s' with tag := .counted }, 0) (.returned (.int .i64 n40)) w40 := fun s' ha hkk hm hc =>
      M.st (s' := s') (by unfold hereI; split <;> decide) (hc _ _ _ _ _ _ _ _) ha (by rw [hkk]; exact M.hsk) (by rw [hm]; exact M.hsm) fun w1 h1 u1 => (goon_does ⟨_, _, _, _, _, _, _, _, h1⟩ .counted).imp fun e w' h => ⟨_, h.1, by rw [← h.1]; exact (h.after u1 fun _ _ e => .inl e).after Xu fun _ _ e => e⟩
    obtain ⟨a1, a2, a3, a4, a5, a6, a7⟩ := setN_here s (min99 (10 * nOf s + (k - 48)))
    refine fin (setN s (min99 (10 * nOf s + (k - 48)))) a5 a3 a4 fun pk lk ck sk sm pa la ca => ?_
    unfold setN hereI cellsP
    cases s.here <;> rfl
  refine ⟨g, 0, rfl, _, M.blk.cell 11 rfl, g, 0, rfl, ⟨by unfold hereI; split <;> decide, by unfold hereI; split <;> decide⟩, fun _ wc => ¬ ((49 ≤ k ∧ k ≤ 57) ∨ (k = 48 ∧ nOf s > 0)) ∧ wc = wd, ?_, ?_⟩
  · refine (between_does k 49 57).imp ?_
    rintro e w15 ⟨rfl, rfl⟩
    refine ⟨_, rfl, brr (fun q => digit (.inl (of_decide_eq_true q))) fun q => ?_⟩
    have q := of_decide_eq_false q
    refine brr (fun q1 => ?_) fun q1 => ⟨0, fun e => e.elim q fun e => (by simp at q1; exact q1 e.1), rfl⟩
    have q1 : k = 48 := by simpa using q1
    refine ⟨_, hcell, brr (fun q2 => digit (.inr ⟨q1, of_decide_eq_true q2⟩)) fun q2 => ?_⟩
    have q2 := of_decide_eq_false q2
    exact ⟨0, fun e => e.elim q fun e => q2 e.2, rfl⟩
  · rintro _ wc ⟨hno, rfl⟩
    refine ⟨g, 0, rfl, _, M.blk.cell 11 rfl, ?_⟩
    unfold countedP
    rw [if_neg hno]
    by_cases hh : s.here = true
    · rw [if_pos hh]
      exact tru (by rw [hh]; rfl) (on_does (motion_does H hr hk) Xu)
    · rw [if_neg hh]
      have hf : s.here = false := by simpa using hh
      exact fls (by rw [hf]; rfl) (on_does (command_does H hr hf hk) Xu)
theorem register_does (h : Ps w g s B kb ab) {k : Int} : Does Try.prog 27 #[.pointer (some ⟨g, 0, none⟩), .int .u8 k] w (StepR w g B kb ab (registerP s k)) := by
  apply f27_does
  have H := h
  obtain ⟨pk, lk, ck, sk, sm, pa, la, ca, M⟩ := h
  unfold registerP
  refine ⟨fun _ wc => nameK k = true ∧ wc = w, ?_, ?_⟩
  · have yes : (97 ≤ k ∧ k ≤ 122 ∨ 65 ≤ k ∧ k ≤ 90 ∨ 48 ≤ k ∧ k ≤ 57 ∨ k = 61 ∨ k = 34) → nameK k = true := fun h => decide_eq_true h
    refine (between_does k 97 122).imp ?_
    rintro e w6 ⟨rfl, rfl⟩
    refine ⟨_, rfl, brr (fun q => ?_) fun q => ⟨0, yes (.inl (by simpa using q)), rfl⟩⟩
    have q := not_dec q
    refine (between_does k 65 90).imp ?_
    rintro e w6 ⟨rfl, rfl⟩
    refine ⟨_, rfl, brr (fun q1 => ?_) fun q1 => ⟨0, yes (.inr (.inl (by simpa using q1))), rfl⟩⟩
    have q1 := not_dec q1
    refine (between_does k 48 57).imp ?_
    rintro e w6 ⟨rfl, rfl⟩
    refine ⟨_, rfl, brr (fun q2 => ?_) fun q2 => ⟨0, yes (.inr (.inr (.inl (by simpa using q2)))), rfl⟩⟩
    have q2 := not_dec q2
    refine brr (fun q3 => brr (fun q4 => ?_) fun q4 => ⟨0, yes (.inr (.inr (.inr (.inr (by simpa using q4))))), rfl⟩) fun q3 => ⟨0, yes (.inr (.inr (.inr (.inl (by simpa using q3))))), rfl⟩
    have q3 : k ≠ 61 := by simpa using q3
    have q4 : k ≠ 34 := by simpa using q4
    rw [if_neg (by unfold nameK; simp only [decide_eq_true_eq]; omega)]
    exact ⟨rfl, ab, H, Upd.refl _ _, .inl rfl⟩
  · rintro _ wc ⟨hn, rfl⟩
    rw [if_pos hn]
    exact ⟨g, 0, rfl, M.st (s' := { s with reg := k }) (by decide) rfl rfl M.hsk M.hsm fun w1 h1 u1 => (goon_does ⟨_, _, _, _, _, _, _, _, h1⟩ .counted).imp fun e w' h => ⟨_, h.1, by rw [← h.1]; exact h.after u1 fun _ _ e => .inl e⟩⟩
theorem begin_does (h : Ps w g s B kb ab) (hr : Rg s) {k : Int} (hk : InK .u8 k) : Does Try.prog 19 #[.pointer (some ⟨g, 0, none⟩), .int .u8 k] w (StepR w g B kb ab (beginP s k)) := by
  apply f19_does
  unfold beginP
  refine brr (fun q => ?_) fun q => ?_
  · rw [if_pos (by simpa using q)]
    exact on_does (goon_does h .register) (Upd.refl _ _)
  · rw [if_neg (by simpa using q)]
    exact on_does (counted_does h hr hk) (Upd.refl _ _)
theorem again_does (h : Ps w g s B kb ab) {k : Int} : Does Try.prog 39 #[.pointer (some ⟨g, 0, none⟩), .int .u8 k] w (StepR w g B kb ab (againP s k)) := by
  apply f39_does
  unfold againP
  refine brr (fun q => ?_) fun q => ?_
  · rw [if_neg (by simpa using q)]
    exact ⟨rfl, ab, h, Upd.refl _ _, .inl rfl⟩
  · rw [if_pos (by simpa using q)]
    exact on_does (moves_does h ({ data := #[103, 103] } : ByteArray)) (Upd.refl _ _)
theorem second_does (h : Ps w g s B kb ab) {k : Int} (hk : InK .u8 k) : Does Try.prog 42 #[.pointer (some ⟨g, 0, none⟩), .int .u8 k] w (StepR w g B kb ab (secondP s k)) := by
  apply f42_does
  intro b7 w7 hb7
  have hI := hb7.ints (k := .u8) [k] rfl (by simpa using hk)
  have hL : L ((({ data := #[103] } : ByteArray)) ++ strOfNums [k]) = [103, k] := by rw [L_append, L_nums (by simpa using hk)]; rfl
  have H := h.ext hb7.ext
  have Xu : Upd (PT g kb ab) w w7 := pt_ext hb7.ext
  refine ⟨_, w7, conv_str Try.underlying27 Try.underlying5 Try.underlying9 hI rfl 1, by show ((1 + 1 : Nat) : Int) ≤ _; decide, ?_⟩
  unfold secondP
  have M := H
  obtain ⟨pk, lk, ck, sk, sm, pa, la, ca, M⟩ := M
  refine brr (fun q => ?_) fun q => ⟨g, 0, rfl, _, M.blk.cell 1 rfl, ?_⟩
  · have q : k = 103 := by simpa using q
    rw [if_pos q]
    have := moves_does H ((({ data := #[103] } : ByteArray)) ++ strOfNums [k])
    rw [hL, q] at this
    rw [← q] at this
    rw [← q]
    exact on_does this Xu
  have q : k ≠ 103 := by simpa using q
  rw [if_neg q]
  refine brr (fun q1 => ?_) fun q1 => ?_
  · rw [if_pos q1]
    exact ⟨rfl, ab, H, Xu, .inl rfl⟩
  rw [if_neg (by rw [q1]; decide)]
  have op : k ∈ opers2 → Does Try.prog 40 #[.pointer (some ⟨g, 0, none⟩), .string ((({ data := #[103] } : ByteArray)) ++ strOfNums [k])] w7 fun e w' => ∃ n : Int, e = .returned (.int .i64 n) ∧ StepR w g B kb ab (if k ∈ opers2 then ({ s with key := [103, k], here := true, tag := .counted }, 0) else if k = 45 ∨ k = 43 then ({ s with key := [103, k] }, 1) else (s, 2)) (.returned (.int .i64 n)) w' := fun hm => by
    rw [if_pos hm]
    have := operator_does H ((({ data := #[103] } : ByteArray)) ++ strOfNums [k])
    rw [hL] at this
    exact on_does this Xu
  have pl : k ∉ opers2 → k = 45 ∨ k = 43 → Does Try.prog 41 #[.pointer (some ⟨g, 0, none⟩), .string ((({ data := #[103] } : ByteArray)) ++ strOfNums [k])] w7 fun e w' => ∃ n : Int, e = .returned (.int .i64 n) ∧ StepR w g B kb ab (if k ∈ opers2 then ({ s with key := [103, k], here := true, tag := .counted }, 0) else if k = 45 ∨ k = 43 then ({ s with key := [103, k] }, 1) else (s, 2)) (.returned (.int .i64 n)) w' := fun hm hq => by
    rw [if_neg hm, if_pos hq]
    have := plain_does H ((({ data := #[103] } : ByteArray)) ++ strOfNums [k])
    rw [hL] at this
    exact on_does this Xu
  refine brr (fun q2 => op (by rw [show k = 117 by simpa using q2]; decide)) fun q2 => brr (fun q3 => op (by rw [show k = 85 by simpa using q3]; decide)) fun q3 => brr (fun q4 => op (by rw [show k = 126 by simpa using q4]; decide)) fun q4 => ?_
  have hm : k ∉ opers2 := by
    have q2 : k ≠ 117 := by simpa using q2
    have q3 : k ≠ 85 := by simpa using q3
    have q4 : k ≠ 126 := by simpa using q4
    simp [opers2]; omega
  refine brr (fun q5 => pl hm (.inl (by simpa using q5))) fun q5 => brr (fun q6 => pl hm (.inr (by simpa using q6))) fun q6 => ?_
  have q5 : k ≠ 45 := by simpa using q5
  have q6 : k ≠ 43 := by simpa using q6
  rw [if_neg hm, if_neg (by omega)]
  exact ⟨rfl, ab, H, Xu, .inl rfl⟩
theorem name_does (h : Ps w g s B kb ab) {k : Int} (hk : InK .u8 k) : Does Try.prog 38 #[.pointer (some ⟨g, 0, none⟩), .int .u8 k] w (StepR w g B kb ab (nameP s k)) := by
  apply f38_does
  unfold nameP
  refine (between_does k 97 122).imp ?_
  rintro e w6 ⟨rfl, rfl⟩
  refine ⟨_, rfl, brr (fun q => ?_) fun q b10 w10 hb10 => ?_⟩
  · rw [if_neg (by unfold smallK; simpa using not_dec q)]
    exact ⟨rfl, ab, h, Upd.refl _ _, .inl rfl⟩
  · have q := yes_dec q
    rw [if_pos (by unfold smallK; exact decide_eq_true q)]
    have e10 := hb10.eq
    have H := h.ext hb10.ext
    have hlt : ∀ {z}, PT g kb ab z → z < b10 := fun hz => by rw [e10]; exact h.lt hz
    have hg : g < b10 := hlt (.inl rfl)
    have hkb : kb ≠ some b10 := fun e => by have := hlt (.inr (.inl e)); omega
    obtain ⟨pk, lk, ck, sk, sm, pa, la, ca, M⟩ := H
    refine ⟨g, 0, rfl, M.blk.st (by simp [cellsP]) fun w1 B1 u1 => ⟨rfl, some b10, ⟨pk, lk, ck, sk, sm, _, 1, 1, ⟨B1, M.keys.upd u1 fun a e e' => blk_ne M.hkb M.nk e e', (Own.one hb10).upd u1 fun a e e' => ?_, M.hkb, rfl, M.hsk, M.hsm, M.nk, fun e => ?_, fun x hx e => ?_, M.ink, by simpa using hk⟩⟩, Upd.trans (pt_ext hb10.ext) (upd_pt u1), .inr ⟨_, rfl, by omega⟩⟩⟩
    · injection e with e
      subst e
      have e' : b10 = g := e'
      omega
    · injection e with e; omega
    · injection e with e; exact hkb (by rw [hx, e])
theorem letter_does (h : Ps w g s B kb ab) (hlet : LetK s.arg s.letters) {k : Int} (hk : InK .u8 k) : Does Try.prog 37 #[.pointer (some ⟨g, 0, none⟩), .int .u8 k] w (StepR w g B kb ab (letterP s k)) := by
  apply f37_does
  have H := h
  obtain ⟨pk, lk, ck, sk, sm, pa, la, ca, M⟩ := h
  have hlk : ∀ c, longK c ≤ 4 := fun c => by unfold longK; split; decide; split; decide; split <;> decide
  have hl4 : s.arg.length ≤ 4 ∧ 0 ≤ s.letters ∧ s.letters ≤ 4 := by
    rcases hlet with ⟨e1, e2⟩ | ⟨a, r, e1, e2, e3⟩
    · rw [e1, e2]; simp
    · have := hlk a; have := longK_pos a; omega
  obtain ⟨m, hm⟩ : ∃ m, m = (if s.letters = 0 then longK k else s.letters) := ⟨_, rfl⟩
  have hm4 : 0 ≤ m ∧ m ≤ 4 := by rw [hm]; split; have := hlk k; have := longK_pos k; omega; omega
  have hp : letterP s k = ({ s with letters := m - 1, arg := s.arg ++ [k] }, if m - 1 > 0 then 0 else 1) := by unfold letterP; rw [hm]
  rw [hp]
  refine ⟨fun _ wc => Ps wc g { s with letters := m } B kb ab ∧ Upd (fun z => z = g) w wc, ⟨g, 0, rfl, _, M.blk.cell 12 rfl, brr (fun q => ?_) fun q => ?_⟩, ?_⟩
  · have q : s.letters = 0 := by simpa using q
    rw [if_pos q] at hm
    refine (long_does k).imp ?_
    rintro e w12 ⟨rfl, rfl⟩
    rw [← hm]
    exact ⟨_, rfl, g, 0, rfl, M.st (s' := { s with letters := m }) (by decide) rfl rfl M.hsk M.hsm fun w1 h1 u1 => ⟨0, ⟨_, _, _, _, _, _, _, _, h1⟩, u1⟩⟩
  · have q : s.letters ≠ 0 := by simpa using q
    rw [if_neg q] at hm
    rw [hm]
    exact ⟨0, H, Upd.refl _ _⟩
  · rintro _ wc ⟨Hc, uc⟩
    have hzc := uc.size
    obtain ⟨pk, lk, ck, sk, sm, pa, la, ca, M⟩ := Hc
    have Hc : Ps wc g { s with letters := m } B kb ab := ⟨_, _, _, _, _, _, _, _, M⟩
    refine ⟨g, 0, rfl, _, _, _, M.blk.cell 8 rfl, fun b22 w22 hb22 => ?_⟩
    have e22 := hb22.eq
    have ho := M.arg.ext hb22.ext
    have hI := hb22.ints (k := .u8) [k] rfl (by simpa using hk)
    have hla := ho.len
    simp only [List.length_map] at hla
    subst hla
    obtain ⟨p', c', w', hr, ho', hu, hat⟩ := append_own slB 27 ho (l2 := 1) (c2 := 1) (news := [Value.int .u8 k]) rfl (fun j u hj => ⟨b22, 0, rfl, by rw [Nat.zero_add]; exact hb22.cell j hj⟩) (by simp [Value.oneCell']) (by simp only [maxLen]; omega) (by omega) (by omega)
    have hlt : ∀ {z}, PT g kb ab z → z < wc.heap.size := fun hz => Hc.lt hz
    have hpab : ∀ a : Addr, pa = some a → ab = some a.block := fun a e => by rw [← M.hab, e]; rfl
    have hug : ¬ (∃ a, pa = some a ∧ a.block = g) := fun ⟨a, e1, e2⟩ => M.na (by rw [hpab a e1, e2])
    refine ⟨p', _, c', w', hr, g, 0, rfl, ((M.blk.ext hb22.ext).upd hu hug).st (by simp [cellsP]) fun w1 B1 u1 => ?_⟩
    have hnew : ∀ a', p' = some a' → (ab = some a'.block ∨ a'.block = w22.heap.size) := fun a' e => (hat a' e).imp (fun ⟨a, e1, e2⟩ => by rw [hpab a e1, e2]) id
    have hz22 := hb22.size
    have M1 : PsM w1 g { s with letters := m, arg := s.arg ++ [k] } B kb (blkOf p') pk lk ck sk sm p' (s.arg.length + 1) c' := by
      refine ⟨B1, ((M.keys.ext hb22.ext).upd hu fun a e ⟨a2, e1, e2⟩ => ?_).upd u1 fun a e e' => blk_ne M.hkb M.nk e e', ?_, M.hkb, rfl, M.hsk, M.hsm, M.nk, ?_, ?_, M.ink, ?_⟩
      · exact M.nka a.block (by rw [← M.hkb, e]; rfl) (by rw [hpab a2 e1, e2])
      · have : Own w' 0 5 1 p' (s.arg.length + 1) c' ((s.arg ++ [k]).map (Value.int .u8)) := by rw [List.map_append]; exact ho'
        refine this.upd u1 fun a e e' => ?_
        have e' : a.block = g := e'
        rcases hnew a e with h | h
        · exact M.na (by rw [h, e'])
        · have := hlt (.inl rfl : PT g kb ab g)
          have h : a.block = w22.heap.size := h
          omega
      · intro e
        cases hp' : p' with
        | none => rw [hp'] at e; cases e
        | some a =>
          rw [hp'] at e
          have e : a.block = g := Option.some.inj e
          rcases hnew a hp' with h | h
          · exact M.na (by rw [h, e])
          · have := hlt (.inl rfl : PT g kb ab g)
            have h : a.block = w22.heap.size := h
            omega
      · intro x hx e
        cases hp' : p' with
        | none => rw [hp'] at e; cases e
        | some a =>
          rw [hp'] at e
          have e : a.block = x := Option.some.inj e
          rcases hnew a hp' with h | h
          · exact M.nka x hx (by rw [h, e])
          · have := hlt (.inr (.inl hx) : PT g kb ab x)
            have h : a.block = w22.heap.size := h
            omega
      · intro x hx
        rcases List.mem_append.1 hx with hx | hx
        · exact M.ina x hx
        · rw [List.mem_singleton.1 hx]; exact hk
    have U1 : Upd (PT g kb ab) w w1 := Upd.then (Upd.then (Upd.then (upd_pt uc) (pt_ext (g := g) (kb := kb) (ab := ab) hb22.ext) fun _ _ e => e) hu fun z _ ⟨a, e1, e2⟩ => .inr (.inr (by rw [hpab a e1, e2]))) u1 fun z _ e => .inl e
    refine ⟨g, 0, rfl, _, M1.blk.cell 12 rfl, inI64 (by show _ ≤ m - 1; omega) (by show m - 1 ≤ _; omega), g, 0, rfl, M1.st (s' := { s with letters := m - 1, arg := s.arg ++ [k] }) (by decide) rfl rfl M1.hsk M1.hsm fun w2 M2 u2 => ⟨g, 0, rfl, _, M2.blk.cell 12 rfl, ?_⟩⟩
    have fin : ∀ n : Int, n = (if m - 1 > 0 then 0 else 1) → StepR w g B kb ab ({ s with letters := m - 1, arg := s.arg ++ [k] }, if m - 1 > 0 then 0 else 1) (.returned (.int .i64 n)) w2 := fun n hn => by
      rw [hn]
      refine ⟨rfl, blkOf p', ⟨_, _, _, _, _, _, _, _, M2⟩, Upd.then U1 u2 fun _ _ e => .inl e, ?_⟩
      cases hp' : p' with
      | none =>
        exfalso
        rw [hp'] at ho'
        have := ho'.1
        rcases ho'.2 with ⟨e, h0⟩ | ⟨_, _, _, e, _⟩
        · omega
        · cases e
      | some a =>
        rcases hnew a hp' with h | h
        · exact .inl h.symm
        · have h : a.block = w22.heap.size := h
          exact .inr ⟨a.block, rfl, by omega⟩
    refine brr (fun q => fin 0 ?_) fun q => fin 1 ?_
    · rw [if_pos (of_decide_eq_true q)]
    · rw [if_neg (of_decide_eq_false q)]
/-- The numbers of a step. -/
theorem rg_motion {s : PS} (h : Rg s) (k : Int) : Rg (motionP s k).1 := by
  unfold motionP
  (repeat' split) <;> exact ⟨h.n0, h.n1, h.op⟩
theorem rg_counted {s : PS} (h : Rg s) (k : Int) : Rg (countedP s k).1 := by
  have hn : 0 ≤ nOf s := by unfold nOf; split; exact h.n1.1; exact h.n0.1
  unfold countedP
  split
  · rename_i h1
    have hm := min99_le (n := 10 * nOf s + (k - 48)) (by omega)
    unfold setN
    split
    · exact ⟨h.n0, hm, h.op⟩
    · exact ⟨hm, h.n1, h.op⟩
  · split
    · exact rg_motion h k
    · rename_i hh
      unfold commandP
      split
      · exact ⟨h.n0, h.n1, fun _ => ⟨by simp, by simp⟩⟩
      (repeat' split) <;> first | exact ⟨h.n0, h.n1, fun e => absurd e hh⟩ | exact rg_motion h k
theorem step_rg {s : PS} (hw : WF s) (k : Int) : Rg (stepP s k).1 := by
  have h := rg_of hw
  have ht := hw.tag
  unfold stepP
  cases htag : s.tag with
  | begin =>
    show Rg (beginP s k).1
    unfold beginP
    split
    · exact ⟨h.n0, h.n1, h.op⟩
    · exact rg_counted h k
  | register =>
    show Rg (registerP s k).1
    unfold registerP
    split <;> exact ⟨h.n0, h.n1, h.op⟩
  | counted => exact rg_counted h k
  | second =>
    show Rg (secondP s k).1
    rw [htag] at ht
    unfold secondP
    (repeat' split) <;> first | exact ⟨h.n0, h.n1, h.op⟩ | exact ⟨h.n0, h.n1, fun _ => ⟨by simp, by simp⟩⟩
  | again =>
    show Rg (againP s k).1
    unfold againP
    split <;> exact ⟨h.n0, h.n1, h.op⟩
  | name =>
    show Rg (nameP s k).1
    unfold nameP
    split <;> exact ⟨h.n0, h.n1, h.op⟩
  | letter => exact ⟨h.n0, h.n1, h.op⟩
/-- A step. -/
theorem step_does (h : Ps w g s B kb ab) (hw : WF s) {k : Int} (hk : InK .u8 k) : Does Try.prog (fidT s.tag) #[.pointer (some ⟨g, 0, none⟩), .int .u8 k] w (StepR w g B kb ab (stepP s k)) := by
  have hr := rg_of hw
  have ht := hw.tag
  unfold stepP
  cases htag : s.tag with
  | begin => exact begin_does h hr hk
  | register => exact register_does h
  | counted => exact counted_does h hr hk
  | second => exact second_does h hk
  | again => exact again_does h
  | name => exact name_does h hk
  | letter => rw [htag] at ht; exact letter_does h ht.2 hk
theorem count_does (h : Ps w g s B kb ab) (hr : Rg s) : Does Try.prog 17 #[.pointer (some ⟨g, 0, none⟩)] w fun e w' => e = .returned (.int .i64 (countP s)) ∧ Ext w w' := by
  apply f17_does
  intro wd hd
  obtain ⟨pk, lk, ck, sk, sm, pa, la, ca, M⟩ := h.ext hd.ext
  have n0 := hr.n0
  have n1 := hr.n1
  have hmul : 0 ≤ s.n0 * s.n1 ∧ s.n0 * s.n1 ≤ 9801 := ⟨Int.mul_nonneg n0.1 n1.1, by
    have h1 : s.n0 * s.n1 ≤ 99 * s.n1 := Int.mul_le_mul_of_nonneg_right n0.2 n1.1
    omega⟩
  refine ⟨g, 0, rfl, ⟨by decide, by decide⟩, _, M.blk.cell 9 rfl, g, 0, rfl, ⟨by decide, by decide⟩, _, M.blk.cell 10 rfl, ?_⟩
  unfold countP
  refine brr (fun q => ⟨inI64 (by omega) (by omega), ?_, hd.ext⟩) fun q => brr (fun q1 => ⟨inI64 (by omega) (by omega), ?_, hd.ext⟩) fun q1 => ⟨inI64 (by omega) (by omega), ?_, hd.ext⟩
  · rw [if_pos (.inl (by simpa using q))]
  · rw [if_pos (.inr (by simpa using q1))]
  · have q : s.n0 ≠ 0 := by simpa using q
    have q1 : s.n1 ≠ 0 := by simpa using q1
    show _ = Ending.returned (.int .i64 (if s.n0 = 0 ∨ s.n1 = 0 then _ else min99 _))
    rw [if_neg (show ¬(s.n0 = 0 ∨ s.n1 = 0) by omega)]; rfl
theorem reset_does (h : Ps w g s B kb ab) : Does Try.prog 16 #[.pointer (some ⟨g, 0, none⟩)] w fun e w' => e = .returned (.tuple #[]) ∧ Ps w' g (fresh s.visual) [] none none ∧ Upd (fun z => z = g) w w' := by
  obtain ⟨pk, lk, ck, sk, sm, pa, la, ca, M⟩ := h
  apply f16_does
  refine fls rfl ⟨g, 0, rfl, _, M.blk.cell 0 rfl, fls rfl ⟨g, 0, rfl, _, M.blk.cell 1 rfl, g, 0, rfl, ?_⟩⟩
  refine M.blk.st (by simp [cellsP]) fun w0 B0 u0 => B0.st (by simp [cellsP]) fun w1 B1 u1 => B1.st (by simp [cellsP]) fun w2 B2 u2 => B2.st (by simp [cellsP]) fun w3 B3 u3 => B3.st (by simp [cellsP]) fun w4 B4 u4 => B4.st (by simp [cellsP]) fun w5 B5 u5 => B5.st (by simp [cellsP]) fun w6 B6 u6 =>
    B6.st (by simp [cellsP]) fun w7 B7 u7 => B7.st (by simp [cellsP]) fun w8 B8 u8 => B8.st (by simp [cellsP]) fun w9 B9 u9 => B9.st (by simp [cellsP]) fun w10 B10 u10 => B10.st (by simp [cellsP]) fun w11 B11 u11 => B11.st (by simp [cellsP]) fun w12 B12 u12 => ⟨g, 0, rfl, B12.st (by simp [cellsP]) fun w13 B13 u13 => ⟨rfl, ?_, ?_⟩⟩
  · exact ⟨none, 0, 0, _, _, none, 0, 0, B13, own_nil _ _ _ _, own_nil _ _ _ _, rfl, rfl, L_nil, L_nil, fun e => (by cases e), fun e => (by cases e), fun _ e => (by cases e), by simp, fun x hx => by cases hx⟩
  · exact Upd.trans (Upd.trans (Upd.trans (Upd.trans (Upd.trans (Upd.trans (Upd.trans (Upd.trans (Upd.trans (Upd.trans (Upd.trans (Upd.trans (Upd.trans u0 u1) u2) u3) u4) u5) u6) u7) u8) u9) u10) u11) u12) u13
theorem new_does (v : Bool) : Does Try.prog 8 #[.bool v] w fun e w' => ∃ g, e = .returned (.pointer (some ⟨g, 0, none⟩)) ∧ Ps w' g (fresh v) [] none none ∧ Ext w w' ∧ w.heap.size ≤ g := by
  apply f8_does
  intro b6 w6 hb6
  have e6 := hb6.eq
  -- the reset of a parser that has no state yet
  have hreset : Does Try.prog 16 #[.pointer (some ⟨b6, 0, none⟩)] w6 fun e w' => e = .returned (.tuple #[]) ∧ Ps w' b6 (fresh v) [] none none ∧ Upd (fun z => z = b6) w6 w' := by
    have M := hb6.blk
    apply f16_does
    refine fls rfl ⟨b6, 0, rfl, _, M.cell 0 rfl, fls rfl ⟨b6, 0, rfl, _, M.cell 1 rfl, b6, 0, rfl, ?_⟩⟩
    refine M.st (by simp) fun w0 B0 u0 => B0.st (by simp) fun w1 B1 u1 => B1.st (by simp) fun w2 B2 u2 => B2.st (by simp) fun w3 B3 u3 => B3.st (by simp) fun w4 B4 u4 => B4.st (by simp) fun w5 B5 u5 => B5.st (by simp) fun w6 B6 u6 =>
      B6.st (by simp) fun w7 B7 u7 => B7.st (by simp) fun w8 B8 u8 => B8.st (by simp) fun w9 B9 u9 => B9.st (by simp) fun w10 B10 u10 => B10.st (by simp) fun w11 B11 u11 => B11.st (by simp) fun w12 B12 u12 => ⟨b6, 0, rfl, B12.st (by simp) fun w13 B13 u13 => ⟨rfl, ?_, ?_⟩⟩
    · exact ⟨none, 0, 0, _, _, none, 0, 0, B13, own_nil _ _ _ _, own_nil _ _ _ _, rfl, rfl, L_nil, L_nil, fun e => (by cases e), fun e => (by cases e), fun _ e => (by cases e), by simp, fun x hx => by cases hx⟩
    · exact Upd.trans (Upd.trans (Upd.trans (Upd.trans (Upd.trans (Upd.trans (Upd.trans (Upd.trans (Upd.trans (Upd.trans (Upd.trans (Upd.trans (Upd.trans u0 u1) u2) u3) u4) u5) u6) u7) u8) u9) u10) u11) u12) u13
  refine hreset.imp ?_
  rintro e w8 ⟨rfl, h8, u8⟩
  exact ⟨rfl, b6, rfl, h8, hb6.ext.loc (by omega) u8, by omega⟩
theorem pending_does (h : Ps w g s B kb ab) : Does Try.prog 11 #[.pointer (some ⟨g, 0, none⟩)] w fun e w' => ∃ x, e = .returned (.string x) ∧ L x = B ∧ w' = w := by
  obtain ⟨pk, lk, ck, sk, sm, pa, la, ca, M⟩ := h
  apply f11_does
  have hl := M.keys.len
  rw [List.length_map] at hl
  exact fls rfl ⟨g, 0, rfl, _, _, _, M.blk.cell 3 rfl, _, w, conv_str Try.underlying27 Try.underlying5 Try.underlying9 (M.keys.any M.ink) hl _, _, rfl, L_nums M.ink, rfl⟩
/-- A command that is told. -/
def CdV (w' : World) (ok : Nat → Prop) (c : Cd) (v : Value) : Prop := ∃ sk sm p ca, v = .agg #[.int .u8 c.reg, .int .i64 c.count, .string sk, .string sm, .slice p c.arg.length ca] ∧ L sk = c.key ∧ L sm = c.mot ∧ Ints .u8 w' ok p c.arg
/-- What a key comes to. -/
def FeedR (w : World) (g : Nat) (kb ab : Option Nat) (r : (Cd × Int) × PS × List Int) (e : Ending) (w' : World) : Prop :=
  ∃ v kb' ab', e = .returned (.tuple #[v, .int .i64 r.1.2]) ∧ CdV w' (fun z => PT g kb ab z ∨ w.heap.size ≤ z) r.1.1 v ∧ Ps w' g r.2.1 r.2.2 kb' ab' ∧ Upd (PT g kb ab) w w' ∧ ∀ z, PT g kb' ab' z → PT g kb ab z ∨ w.heap.size ≤ z
def cellsK (r n : Int) (sk sm : ByteArray) (p : Option Addr) (l c : Nat) : List Value := [.int .u8 r, .int .i64 n, .string sk, .string sm, .slice p l c]
theorem Blk.st5 {w : World} {b : Nat} {vs : List Value} {x0 x1 x2 x3 x4 : Value} (h : Blk w b vs) (hl : vs.length = 5) {G : World → Prop} (k : ∀ w', Blk w' b [x0, x1, x2, x3, x4] → Upd (fun z => z = b) w w' → G w') :
    CanStore w b 0 ∧ ∀ ws, Stored w b 0 x0 ws → CanStore ws b 1 ∧ ∀ ws1, Stored ws b 1 x1 ws1 → CanStore ws1 b 2 ∧ ∀ ws2, Stored ws1 b 2 x2 ws2 → CanStore ws2 b 3 ∧ ∀ ws3, Stored ws2 b 3 x3 ws3 → CanStore ws3 b 4 ∧ ∀ ws4, Stored ws3 b 4 x4 ws4 → G ws4 := by
  obtain ⟨a, b', c, d, e, rfl⟩ : ∃ a b' c d e, vs = [a, b', c, d, e] := by
    match vs, hl with
    | [a, b', c, d, e], _ => exact ⟨a, b', c, d, e, rfl⟩
  exact h.st (by simp) fun w1 h1 u1 => h1.st (by simp) fun w2 h2 u2 => h2.st (by simp) fun w3 h3 u3 => h3.st (by simp) fun w4 h4 u4 => h4.st (by simp) fun w5 h5 u5 => k w5 h5 (Upd.trans (Upd.trans (Upd.trans (Upd.trans u1 u2) u3) u4) u5)
/-- A command's cells are laid and handed on. -/
theorem ret5 {ws : World} {b4 : Nat} {vs : List Value} {r n : Int} {sk sm : ByteArray} {p : Option Addr} {l c : Nat} (h4 : Blk ws b4 vs) (hl : vs.length = 5) {G : Int → Int → ByteArray → ByteArray → Option Addr → Nat → Nat → World → Prop} (hG : ∀ w', Upd (fun z => z = b4) ws w' → G r n sk sm p l c w') :
    CanStore ws b4 0 ∧ ∀ w1, Stored ws b4 0 (.int .u8 r) w1 → CanStore w1 b4 1 ∧ ∀ w2, Stored w1 b4 1 (.int .i64 n) w2 → CanStore w2 b4 2 ∧ ∀ w3, Stored w2 b4 2 (.string sk) w3 → CanStore w3 b4 3 ∧ ∀ w4, Stored w3 b4 3 (.string sm) w4 → CanStore w4 b4 4 ∧ ∀ w5, Stored w4 b4 4 (.slice p l c) w5 →
      ∃ r' : Int, w5.cell? ⟨b4, 0, none⟩ = some (.int .u8 r') ∧ ∃ n' : Int, w5.cell? ⟨b4, 1, none⟩ = some (.int .i64 n') ∧ ∃ sk' : ByteArray, w5.cell? ⟨b4, 2, none⟩ = some (.string sk') ∧ ∃ sm' : ByteArray, w5.cell? ⟨b4, 3, none⟩ = some (.string sm') ∧ ∃ (p' : Option Addr) (l' c' : Nat), w5.cell? ⟨b4, 4, none⟩ = some (.slice p' l' c') ∧ G r' n' sk' sm' p' l' c' w5 :=
  Blk.st5 h4 hl fun w' B u => ⟨_, B.cell 0 rfl, _, B.cell 1 rfl, _, B.cell 2 rfl, _, B.cell 3 rfl, _, _, _, B.cell 4 rfl, hG _ u⟩
theorem feed_does (h : Ps w g s B kb ab) (hw : WF s) {k : Int} (hk : InK .u8 k) (hB : B.length ≤ 1000000) : Does Try.prog 12 #[.pointer (some ⟨g, 0, none⟩), .int .u8 k] w (FeedR w g kb ab (feedP s B k)) := by
  apply f12_does
  intro b4 w4 hb4
  have e4 := hb4.eq
  have z4 := hb4.size
  have hlt : ∀ {z}, PT g kb ab z → z < w.heap.size := fun hz => h.lt hz
  have H4 := h.ext hb4.ext
  obtain ⟨pk, lk, ck, sk, sm, pa, la, ca, M⟩ := H4
  refine fls rfl ⟨g, 0, rfl, _, M.blk.cell 0 rfl, fls rfl ⟨g, 0, rfl, _, _, _, M.blk.cell 3 rfl, fun b24 w24 hb24 => ?_⟩⟩
  have e24 := hb24.eq
  have z24 := hb24.size
  -- the keys, and this one
  have ho := M.keys.ext hb24.ext
  have hlk := ho.len
  simp only [List.length_map] at hlk
  subst hlk
  obtain ⟨p', c', w25, hr, ho', hu, hat⟩ := append_own slB 27 ho (l2 := 1) (c2 := 1) (news := [Value.int .u8 k]) rfl (fun j u hj => ⟨b24, 0, rfl, by rw [Nat.zero_add]; exact hb24.cell j hj⟩) (by simp [Value.oneCell']) (by simp only [maxLen]; omega) (by omega) (by omega)
  have hpkb : ∀ a, pk = some a → kb = some a.block := fun a e => by rw [← M.hkb, e]; rfl
  have hnew : ∀ a', p' = some a' → (kb = some a'.block ∨ a'.block = w24.heap.size) := fun a' e => (hat a' e).imp (fun ⟨a, e1, e2⟩ => by rw [hpkb a e1, e2]) id
  have hg := hlt (.inl rfl : PT g kb ab g)
  have hug : ¬ (∃ a, pk = some a ∧ a.block = g) := fun ⟨a, e1, e2⟩ => M.nk (by rw [hpkb a e1, e2])
  have hub : ∀ {z}, w.heap.size ≤ z → ¬ (∃ a, pk = some a ∧ a.block = z) := fun hz ⟨a, e1, e2⟩ => by have := hlt (.inr (.inl (hpkb a e1)) : PT g kb ab a.block); omega
  have B4 := (hb4.blk.ext hb24.ext).upd hu (hub (by omega))
  have z25 := hu.size
  refine ⟨p', _, c', w25, hr, g, 0, rfl, ((M.blk.ext hb24.ext).upd hu hug).st (by simp [cellsP]) fun w26 B26 u26 => ?_⟩
  have B4 := B4.upd u26 (by omega)
  have z26 := u26.size
  have M26 : PsM w26 g s (B ++ [k]) (blkOf p') ab p' (B.length + 1) c' sk sm pa la ca := by
    refine ⟨B26, ?_, ((M.arg.ext hb24.ext).upd hu fun a e ⟨a2, e1, e2⟩ => ?_).upd u26 fun a e e' => blk_ne M.hab M.na e e', rfl, M.hab, M.hsk, M.hsm, ?_, M.na, ?_, ?_, M.ina⟩
    · have : Own w25 0 5 1 p' (B.length + 1) c' ((B ++ [k]).map (Value.int .u8)) := by rw [List.map_append]; exact ho'
      refine this.upd u26 fun a e e' => ?_
      have e' : a.block = g := e'
      rcases hnew a e with h | h
      · exact M.nk (by rw [h, e'])
      · omega
    · exact M.nka a2.block (hpkb a2 e1) (by rw [e2, ← M.hab, e]; rfl)
    · intro e
      cases hp' : p' with
      | none => rw [hp'] at e; cases e
      | some a =>
        rw [hp'] at e
        have e : a.block = g := Option.some.inj e
        rcases hnew a hp' with h | h
        · exact M.nk (by rw [h, e])
        · omega
    · intro x hx e
      cases hp' : p' with
      | none => rw [hp'] at hx; cases hx
      | some a =>
        rw [hp'] at hx
        have hx : a.block = x := Option.some.inj hx
        rcases hnew a hp' with h | h
        · exact M.nka x (by rw [h, hx]) e
        · have := hlt (.inr (.inr e) : PT g kb ab x); omega
    · intro x hx
      rcases List.mem_append.1 hx with hx | hx
      · exact M.ink x hx
      · rw [List.mem_singleton.1 hx]; exact hk
  have hkb' : ∀ z, blkOf p' = some z → kb = some z ∨ w.heap.size ≤ z := fun z hz => by
    cases hp' : p' with
    | none => rw [hp'] at hz; cases hz
    | some a =>
      rw [hp'] at hz
      have hz : a.block = z := Option.some.inj hz
      rcases hnew a hp' with h | h
      · exact .inl (by rw [h, hz])
      · exact .inr (by omega)
  have hnb4 : ∀ z, blkOf p' = some z → z ≠ b4 := fun z hz => by
    cases hp' : p' with
    | none => rw [hp'] at hz; cases hz
    | some a =>
      rw [hp'] at hz
      have hz : a.block = z := Option.some.inj hz
      rcases hnew a hp' with h | h
      · have := hlt (.inr (.inl h) : PT g kb ab a.block); omega
      · omega
  have U26 : Upd (PT g kb ab) w w26 := Upd.then (Upd.then (Upd.then (pt_ext (g := g) (kb := kb) (ab := ab) hb4.ext) (pt_ext (g := g) (kb := kb) (ab := ab) hb24.ext) fun _ _ e => e) hu fun z _ ⟨a, e1, e2⟩ => .inr (.inl (by rw [hpkb a e1, e2]))) u26 fun z _ e => .inl e
  have H26 : Ps w26 g s (B ++ [k]) (blkOf p') ab := ⟨_, _, _, _, _, _, _, _, M26⟩
  -- what is told
  obtain ⟨st, hst⟩ : ∃ st : PS × Int, st = if k = 27 then (s, 2) else stepP s k := ⟨_, rfl⟩
  have gk := step_goes hw k
  have hvis : st.1.visual = s.visual := by rw [hst]; split; rfl; exact stepP_visual s k
  have hF : feedP s B k = if st.2 = 0 then ((cd0, 0), st.1, B ++ [k]) else ((if st.2 = 2 then cd0 else cdOf st.1, st.2), fresh s.visual, []) := by
    unfold feedP
    rw [hst]
    split
    · rfl
    · rfl
  rw [hF]
  refine ⟨fun x _ wc => x = st.2 ∧ ∃ ab', Ps wc g st.1 (B ++ [k]) (blkOf p') ab' ∧ Upd (PT g kb ab) w wc ∧ (∀ z, ab' = some z → ab = some z ∨ w.heap.size ≤ z) ∧ (∀ z, ab' = some z → z ≠ b4) ∧ Blk wc b4 (cellsK 0 0 { data := #[] } { data := #[] } none 0 0), brr (fun q => ?_) fun q => ?_, ?_⟩
  · have q : k ≠ 27 := by simpa using q
    rw [if_neg q] at hst
    refine ⟨g, 0, rfl, _, _, _, M26.blk.cell 2 rfl, ?_⟩
    show Does Try.prog (fidT s.tag) #[.pointer (some ⟨g, 0, none⟩), .int .u8 k] w26 _
    refine (step_does H26 hw hk).imp ?_
    rw [← hst]
    rintro e w35 ⟨rfl, ab', h35, u35, hab'⟩
    refine ⟨_, rfl, 0, rfl, ab', h35, Upd.then U26 u35 fun z hz e => ?_, fun z hz => ?_, fun z hz => ?_, B4.upd u35 fun e => ?_⟩
    · rcases e with e | e | e
      · exact .inl e
      · rcases hkb' z e with e | e
        · exact .inr (.inl e)
        · omega
      · exact .inr (.inr e)
    · rcases hab' with e | ⟨x, e, hx⟩
      · rw [e] at hz; exact .inl hz
      · rw [e] at hz; injection hz with hz; exact .inr (by omega)
    · rcases hab' with e | ⟨x, e, hx⟩
      · rw [e] at hz; have := hlt (.inr (.inr hz) : PT g kb ab z); omega
      · rw [e] at hz; injection hz with hz; omega
    · rcases e with e | e | e
      · omega
      · exact hnb4 _ e rfl
      · have := hlt (.inr (.inr e) : PT g kb ab b4); omega
  · have q : k = 27 := by simpa using q
    rw [if_pos q] at hst
    rw [hst]
    exact ⟨0, rfl, ab, H26, U26, fun z hz => .inl hz, fun z hz => by have := hlt (.inr (.inr hz) : PT g kb ab z); omega, B4⟩
  · rintro _ _ wc ⟨rfl, ab', Hc, Uc, hab', hab4, C4⟩
    have hwz := Uc.size
    have nPT : ∀ z, PT g (blkOf p') ab' z → z ≠ b4 := fun z hz => by
      rcases hz with hz | hz | hz
      · omega
      · exact hnb4 z hz
      · exact hab4 z hz
    have oPT : ∀ z, PT g (blkOf p') ab' z → PT g kb ab z ∨ w.heap.size ≤ z := fun z hz => by
      rcases hz with hz | hz | hz
      · exact .inl (.inl hz)
      · exact (hkb' z hz).imp (fun e => .inr (.inl e)) id
      · exact (hab' z hz).imp (fun e => .inr (.inr e)) id
    refine brr (fun q => ?_) fun q => ?_
    · have q : st.2 = 0 := by simpa using q
      rw [if_pos q]
      refine ret5 C4 rfl fun w' u' => ⟨_, blkOf p', ab', rfl, ⟨_, _, none, 0, rfl, L_nil, L_nil, RS.nil⟩, Hc.upd u' fun z e hz => nPT z hz e, Upd.then Uc u' fun z hz e => ?_, oPT⟩
      have e : z = b4 := e; omega
    have q : st.2 ≠ 0 := by simpa using q
    rw [if_neg q]
    have hRg : Rg st.1 := by
      rw [hst]
      split
      · exact rg_of hw
      · -- the numbers of a step
        rename_i h27
        rw [if_neg h27] at hst
        exact step_rg hw k
    obtain ⟨pk', lk', ck', sk', sm', pa', la', ca', Mc⟩ := Hc
    have Hc : Ps wc g st.1 (B ++ [k]) (blkOf p') ab' := ⟨_, _, _, _, _, _, _, _, Mc⟩
    have hla' := Mc.arg.len
    simp only [List.length_map] at hla'
    refine ⟨g, 0, rfl, _, Mc.blk.cell 4 rfl, _, Mc.blk.cell 5 rfl, _, Mc.blk.cell 6 rfl, _, Mc.blk.cell 7 rfl, _, _, _, Mc.blk.cell 8 rfl, fun b7 w7 hb7 => Blk.st5 hb7.blk rfl fun w8 B7 u8 => ?_⟩
    have e7 := hb7.eq
    have hgc : g < b7 := by omega
    have hlc : ∀ {z}, PT g (blkOf p') ab' z → z < b7 := fun hz => by have := Hc.lt hz; omega
    have X8 : Ext wc w8 := hb7.ext.loc (by omega) u8
    have H8 := Hc.ext X8
    have D4 := C4.ext X8
    have hI8 := (Mc.arg.any Mc.ina).ext X8
    refine (count_does H8 hRg).imp ?_
    rintro e w44 ⟨rfl, x44⟩
    refine ⟨_, rfl, (B7.ext x44).st (by simp) fun w45 B7' u45 => ?_⟩
    have H45 := (H8.ext x44).upd u45 fun z e hz => by have e : z = b7 := e; have := hlc hz; omega
    have D4 := (D4.ext x44).upd u45 (by have := C4.lt; omega)
    have hI45 : Ints .u8 w45 (fun z => z ≠ b7) pa' st.1.arg := by
      have h1 : Ints .u8 w8 (fun z => z ≠ b7) pa' st.1.arg := fun i hi => by
        obtain ⟨b, o, e1, _, e3⟩ := hI8 i hi
        refine ⟨b, o, e1, ?_, e3⟩
        have := hlc (.inr (.inr (by rw [← Mc.hab, e1]; rfl)) : PT g (blkOf p') ab' b)
        omega
      exact (h1.ext x44).upd u45 fun z hz e => hz e
    refine (reset_does H45).imp ?_
    rintro e w47 ⟨rfl, h47, u47⟩
    rw [hvis] at h47
    have B7'' := B7'.upd u47 (by omega)
    have D4 := D4.upd u47 (by omega)
    have hI47 : Ints .u8 w47 (fun z => (z ≠ b7 ∧ z ≠ b4) ∧ (PT g kb ab z ∨ w.heap.size ≤ z)) pa' st.1.arg := by
      have h1 : Ints .u8 w45 (fun z => ((z ≠ b7 ∧ z ≠ b4) ∧ (PT g kb ab z ∨ w.heap.size ≤ z)) ∧ z ≠ g) pa' st.1.arg := fun i hi => by
        obtain ⟨b, o, e1, e2, e3⟩ := hI45 i hi
        have hb : ab' = some b := by rw [← Mc.hab, e1]; rfl
        exact ⟨b, o, e1, ⟨⟨⟨e2, nPT b (.inr (.inr hb))⟩, oPT b (.inr (.inr hb))⟩, fun e => Mc.na (by rw [hb, e])⟩, e3⟩
      have h2 := h1.upd u47 fun z hz e => hz.2 e
      exact Ints.ok h2 fun z _ hz => hz.1
    have U47 : Upd (PT g kb ab) w w47 := Upd.then (Upd.then (Upd.then (Upd.then Uc X8 fun _ _ e => e.elim) x44 fun _ _ e => e.elim) u45 fun z hz e => by have e : z = b7 := e; omega) u47 fun z _ e => .inl e
    refine ⟨rfl, fun _ wd => ∃ r n sk sm p ca, Blk wd b7 (cellsK r n sk sm p (if st.2 = 2 then cd0 else cdOf st.1).arg.length ca) ∧ r = (if st.2 = 2 then cd0 else cdOf st.1).reg ∧ n = (if st.2 = 2 then cd0 else cdOf st.1).count ∧ L sk = (if st.2 = 2 then cd0 else cdOf st.1).key ∧ L sm = (if st.2 = 2 then cd0 else cdOf st.1).mot ∧
      Ints .u8 wd (fun z => (z ≠ b7 ∧ z ≠ b4) ∧ (PT g kb ab z ∨ w.heap.size ≤ z)) p (if st.2 = 2 then cd0 else cdOf st.1).arg ∧ Blk wd b4 (cellsK 0 0 { data := #[] } { data := #[] } none 0 0) ∧ Ps wd g (fresh s.visual) [] none none ∧ Upd (PT g kb ab) w wd, brr (fun q2 => ?_) fun q2 => ?_, ?_⟩
    · have q2 : st.2 = 2 := by simpa using q2
      rw [if_pos q2]
      refine Blk.st5 B7'' rfl fun w48 B48 u48 => ⟨0, 0, 0, _, _, none, 0, B48, rfl, rfl, L_nil, L_nil, RS.nil, D4.upd u48 (by have := C4.lt; omega), h47.upd u48 fun z e hz => ?_, Upd.then U47 u48 fun z hz e => by have e : z = b7 := e; omega⟩
      have e : z = b7 := e
      rcases hz with hz | hz | hz
      · omega
      · cases hz
      · cases hz
    · have q2 : st.2 ≠ 2 := by simpa using q2
      rw [if_neg q2]
      refine ⟨0, _, _, _, _, pa', ca', ?_, rfl, rfl, Mc.hsk, Mc.hsm, hI47, D4, h47, U47⟩
      have : (cdOf st.1).arg.length = la' := hla'.symm
      rw [this]
      exact B7''
    · rintro _ wd ⟨r, n, sk2, sm2, p2, ca2, E7, hr', hn', hk', hm', hI', E4, hP, hU⟩
      refine ⟨_, E7.cell 0 rfl, _, E7.cell 1 rfl, _, E7.cell 2 rfl, _, E7.cell 3 rfl, _, _, _, E7.cell 4 rfl, ret5 E4 rfl fun w' u' => ⟨_, none, none, rfl, ⟨sk2, sm2, p2, ca2, ?_, hk', hm', Ints.ok (hI'.upd u' fun z hz e => hz.1.2 e) fun z _ hz => hz.2⟩, hP.upd u' fun z e hz => ?_, Upd.then hU u' fun z hz e => ?_, fun z hz => ?_⟩⟩
      · rw [hr', hn']
      · have e : z = b4 := e
        rcases hz with hz | hz | hz
        · omega
        · cases hz
        · cases hz
      · have e : z = b4 := e; omega
      · rcases hz with hz | hz | hz
        · exact .inl (.inl hz)
        · cases hz
        · cases hz
end
end Go.Proofs.Yteggcicicdcnlaa
