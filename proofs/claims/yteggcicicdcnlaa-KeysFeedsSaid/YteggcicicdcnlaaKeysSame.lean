/-
  Keys: the parser goes on as the reference reads.
-/
import Derived.Test.YteggcicicdcnlaaKeysPure
namespace Go.Vc
open Go.RowKit
theorem setN_here (s : PS) (n : Int) : (setN s n).here = s.here ∧ (setN s n).visual = s.visual ∧ (setN s n).key = s.key ∧ (setN s n).mot = s.mot ∧ (setN s n).arg = s.arg ∧ (setN s n).letters = s.letters ∧ (setN s n).reg = s.reg := by
  unfold setN; split <;> exact ⟨rfl, rfl, rfl, rfl, rfl, rfl, rfl⟩
theorem stepP_visual (s : PS) (k : Int) : (stepP s k).1.visual = s.visual := by
  have hm : ∀ s : PS, (motionP s k).1.visual = s.visual := fun s => by unfold motionP; (repeat' split) <;> rfl
  have hc : ∀ s : PS, (commandP s k).1.visual = s.visual := fun s => by
    unfold commandP
    repeat' split
    all_goals first | rfl | exact hm _
  have hn : ∀ s : PS, (countedP s k).1.visual = s.visual := fun s => by
    unfold countedP
    repeat' split
    · exact (setN_here s _).2.1
    · exact hm s
    · exact hc s
  unfold stepP
  split
  · unfold beginP; split
    · rfl
    · exact hn s
  · unfold registerP; split <;> rfl
  · exact hn s
  · unfold secondP; (repeat' split) <;> rfl
  · unfold againP; split <;> rfl
  · unfold nameP; split <;> rfl
  · rfl
theorem plainR_g (v : Bool) (k : Int) : plainR v [103, k] = if v = false ∧ (k = 45 ∨ k = 43) then ([103, k], [], 1) else ([], [], 2) := by
  simp only [plainR]
  rw [if_neg (by cases v <;> decide), if_neg (by simp), if_neg (by decide), if_neg (by decide)]
  cases v <;> simp
/-- What the step from a state comes to, in the reference's words. -/
structure Goes (s : PS) (k : Int) (p : PS × Int) : Prop where
  more : p.2 = 0 → WF p.1 ∧ p.1.tag ≠ .begin ∧ ∀ t, contR s (k :: t) = contR p.1 t
  whole : p.2 = 1 → contR s [k] = (cdOf p.1, 1)
  none : p.2 = 2 → (contR s [k]).2 = 2
  told : p.2 = 0 ∨ p.2 = 1 ∨ p.2 = 2
theorem Goes.of_more {s s' : PS} {k : Int} (h : WF s') (ht : s'.tag ≠ .begin) (hc : ∀ t, contR s (k :: t) = contR s' t) : Goes s k (s', 0) := ⟨fun _ => ⟨h, ht, hc⟩, fun h => (by cases h), fun h => (by cases h), .inl rfl⟩
theorem Goes.of_whole {s s' : PS} {k : Int} (h : contR s [k] = (cdOf s', 1)) : Goes s k (s', 1) := ⟨fun h => (by cases h), fun _ => h, fun h => (by cases h), .inr (.inl rfl)⟩
theorem Goes.of_none {s s' : PS} {k : Int} (h : (contR s [k]).2 = 2) : Goes s k (s', 2) := ⟨fun h => (by cases h), fun h => (by cases h), fun _ => h, .inr (.inr rfl)⟩
/-- Ahead of a key that is no figure: where the reference stands. -/
def atR (s : PS) (t : List Int) : Cd × Int := if s.here = true then tailR ⟨s.reg, comb s.n0 s.n1, s.key, [], []⟩ t else bodyR s.visual ⟨s.reg, s.n0, [], [], []⟩ t
/-- A state in which a command's key, or a motion's, may come. -/
structure AtK (s : PS) : Prop where
  n0 : 0 ≤ s.n0 ∧ s.n0 ≤ 99
  n1 : 0 ≤ s.n1 ∧ s.n1 ≤ 99
  nohere : s.here = false → s.n1 = 0 ∧ s.key = []
  op : s.here = true → OpK s.key ∧ s.visual = false
  mot : s.mot = []
  arg : s.arg = []
  letters : s.letters = 0
theorem WF.at {s : PS} (h : WF s) (ht : s.tag = .counted) : AtK s := by
  have := h.tag
  rw [ht] at this
  exact ⟨h.n0, h.n1, fun e => ⟨h.nohere e, this.1 e⟩, h.op, this.2.1, this.2.2.1, this.2.2.2⟩
theorem waits_eq (s : PS) (tag : Tag) (h1 : tag ≠ .begin) (h2 : tag ≠ .register) (h3 : tag ≠ .counted) (t : List Int) : contR { s with tag := tag } t = atR s (waits { s with tag := tag } ++ t) := by
  unfold contR atR
  cases tag <;> simp_all
theorem wf_at {s s' : PS} (h : AtK s) (e0 : s'.n0 = s.n0) (e1 : s'.n1 = s.n1) (eh : s'.here = s.here) (ev : s'.visual = s.visual) (ek : s.here = true → s'.key = s.key) (ht : match s'.tag with
    | .begin => s' = fresh s'.visual
    | .register => s' = { fresh s'.visual with tag := .register }
    | .counted => (s'.here = false → s'.key = []) ∧ s'.mot = [] ∧ s'.arg = [] ∧ s'.letters = 0
    | .second => s'.here = false ∧ s'.key = [] ∧ s'.mot = [] ∧ s'.arg = [] ∧ s'.letters = 0
    | .again => s'.here = true ∧ s'.mot = [] ∧ s'.arg = [] ∧ s'.letters = 0
    | .name => ((s'.here = false ∧ s'.key = [109] ∧ s'.mot = []) ∨ ((s'.here = false → s'.key = []) ∧ (s'.mot = [39] ∨ s'.mot = [96]))) ∧ s'.arg = [] ∧ s'.letters = 0
    | .letter => ((s'.here = false ∧ s'.key = [114] ∧ s'.mot = []) ∨ ((s'.here = false → s'.key = []) ∧ ∃ f ∈ finds, s'.mot = [f])) ∧ LetK s'.arg s'.letters) : WF s' :=
  ⟨by rw [e0]; exact h.n0, by rw [e1]; exact h.n1, fun hh => (by rw [e1]; exact (h.nohere (by rw [← eh]; exact hh)).1), fun hh => (by rw [ev, ek (by rw [← eh]; exact hh)]; exact h.op (by rw [← eh]; exact hh)), ht⟩
theorem count_at {s : PS} (h : AtK s) : countP s = (if s.here = true then comb s.n0 s.n1 else s.n0) := by
  cases hh : s.here with
  | true =>
    rw [if_pos rfl]
    have h0 := h.n0
    have h1 := h.n1
    unfold countP comb
    by_cases a : s.n1 = 0
    · rw [if_pos (.inr a), if_neg (by omega), a, Int.add_zero]
    by_cases b : s.n0 = 0
    · rw [if_pos (.inl b), if_pos (by omega), b, if_pos (by decide), Int.one_mul, Int.zero_add, min99_id h1.2]
    · rw [if_neg (by omega), if_pos (by omega), if_neg (by omega : ¬ s.n0 < 1)]
  | false =>
    rw [if_neg (by decide)]
    unfold countP
    rw [(h.nohere hh).1, if_pos (.inr rfl), Int.add_zero]
/-- A motion that is whole. -/
theorem atR_mot {s : PS} (h : AtK s) {t m a : List Int} (ht : t ≠ []) (hm : motionR t = (m, a, 1)) (hl : s.here = true → t ≠ [lastK s.key]) (ho : s.here = false → s.visual = false → (operR t).2.2 = 2) :
    atR s t = (⟨s.reg, countP s, s.key, m, a⟩, 1) := by
  rw [count_at h]
  unfold atR
  cases hh : s.here with
  | true =>
    simp only [if_true]
    unfold tailR
    rw [if_neg ht, if_neg (hl hh), hm]
  | false =>
    simp only [Bool.false_eq_true, if_false]
    rw [bodyR_no ht (ho hh), hm, if_pos rfl, (h.nohere hh).2]
/-- Neither a motion nor a plain command, or not yet. -/
theorem atR_how {s : PS} {t : List Int} (ht : t ≠ []) (hl : s.here = true → t ≠ [lastK s.key]) (ho : s.here = false → s.visual = false → (operR t).2.2 = 2) (hm : (motionR t).2.2 ≠ 1) (hp : s.here = false → (plainR s.visual t).2.2 ≠ 1) :
    (atR s t).2 = if s.here = true then (motionR t).2.2 else if (plainR s.visual t).2.2 < (motionR t).2.2 then (plainR s.visual t).2.2 else (motionR t).2.2 := by
  unfold atR
  cases hh : s.here with
  | true =>
    simp only [if_true]
    unfold tailR
    rw [if_neg ht, if_neg (hl hh)]
  | false =>
    simp only [Bool.false_eq_true, if_false]
    rw [bodyR_no ht (ho hh), if_neg hm, if_neg (hp hh)]
theorem atR_plain {s : PS} (h : AtK s) {t k a : List Int} (ht : t ≠ []) (hh : s.here = false) (hm : (motionR t).2.2 ≠ 1) (hp : plainR s.visual t = (k, a, 1)) (ho : s.visual = false → (operR t).2.2 = 2) :
    atR s t = (⟨s.reg, countP s, k, [], a⟩, 1) := by
  rw [count_at h]
  unfold atR
  rw [hh]
  simp only [Bool.false_eq_true, if_false]
  rw [bodyR_no ht ho, if_neg hm, hp, if_pos rfl]
theorem motion_goes {s : PS} (h : AtK s) {k : Int} (hno : s.here = false → (s.visual = false → k ∉ opers) ∧ k ∉ plains s.visual ∧ ¬ (s.visual = false ∧ k = 18) ∧ k ≠ 114 ∧ k ≠ 109 ∧ k ≠ 103) {s0 : PS} (hc : ∀ t, contR s0 (k :: t) = atR s (k :: t)) :
    Goes s0 k (motionP s k) := by
  have hop : ∀ r, s.here = false → s.visual = false → (operR (k :: r)).2.2 = 2 := fun r hh hv => by rw [operR_none r ((hno hh).1 hv) (hno hh).2.2.2.2.2]
  have hpl : ∀ r, s.here = false → plainR s.visual (k :: r) = ([], [], 2) := fun r hh => by
    obtain ⟨_, h2, h3, h4, h5, h6⟩ := hno hh
    exact plainR_none r h2 (fun e => h3 ⟨e.2, e.1⟩) h4 h5 h6
  unfold motionP
  split
  · rename_i h1
    refine .of_whole ?_
    rw [hc]
    unfold atR tailR
    rw [if_pos h1.1, if_neg (by simp), if_pos (by rw [h1.2])]
    have hcc := count_at h
    rw [if_pos h1.1] at hcc
    show ((⟨s.reg, comb s.n0 s.n1, s.key, [95], []⟩ : Cd), (1 : Int)) = (⟨s.reg, countP s, s.key, [95], s.arg⟩, 1)
    rw [hcc, h.arg]
  rename_i h1
  have hl : ∀ r, s.here = true → (k :: r) ≠ [lastK s.key] := fun r hh e => h1 ⟨hh, by injection e⟩
  split
  · rename_i h2
    refine .of_whole ?_
    rw [hc, atR_mot h (by simp) (motionR_mot [] h2) (hl []) (hop [])]
    unfold cdOf
    rw [h.arg]; rfl
  rename_i h2
  split
  · rename_i h3
    refine .of_more (wf_at h rfl rfl rfl rfl (fun _ => rfl) ?_) (by simp) fun t => ?_
    · exact ⟨.inr ⟨fun hh => (h.nohere hh).2, k, h3, rfl⟩, .inl ⟨h.arg, h.letters⟩⟩
    · rw [hc, waits_eq { s with mot := [k] } .letter (by decide) (by decide) (by decide)]
      have : waits { s with mot := [k], tag := .letter } = [k] := by unfold waits; simp [h.arg]
      rw [this]; rfl
  rename_i h3
  split
  · rename_i h4
    refine .of_more (wf_at h rfl rfl rfl rfl (fun _ => rfl) ?_) (by simp) fun t => ?_
    · refine ⟨.inr ⟨fun hh => (h.nohere hh).2, ?_⟩, h.arg, h.letters⟩
      rcases h4 with rfl | rfl
      · exact .inl rfl
      · exact .inr rfl
    · rw [hc, waits_eq { s with mot := [k] } .name (by decide) (by decide) (by decide)]
      have : waits { s with mot := [k], tag := .name } = [k] := by unfold waits; simp [h.arg]
      rw [this]; rfl
  rename_i h4
  split
  · rename_i h5
    refine .of_more (wf_at h rfl rfl rfl rfl (fun _ => rfl) ⟨h5.2, h.mot, h.arg, h.letters⟩) (by simp) fun t => ?_
    rw [hc, waits_eq s .again (by decide) (by decide) (by decide), h5.1]; rfl
  rename_i h5
  refine .of_none ?_
  rw [hc]
  have hk : k ≠ 103 := by
    intro e
    cases hh : s.here with
    | true => exact h5 ⟨e, hh⟩
    | false => exact (hno hh).2.2.2.2.2 e
  have hm := motionR_none [] h2 hk h3 h4
  rw [atR_how (by simp) (hl []) (hop []) (by rw [hm]; decide) (fun hh => by rw [hpl [] hh]; decide), hm]
  cases hh : s.here with
  | true => rfl
  | false => rw [hpl [] hh]; rfl
theorem command_goes {s : PS} (h : AtK s) (hh : s.here = false) {k : Int} {s0 : PS} (hc : ∀ t, contR s0 (k :: t) = atR s (k :: t)) : Goes s0 k (commandP s k) := by
  unfold commandP
  split
  · rename_i h1
    refine .of_more ⟨h.n0, by rw [(h.nohere hh).1]; decide, fun e => (by cases e), fun _ => ⟨.inl ⟨k, h1.2, rfl⟩, h1.1⟩, ⟨fun e => (by cases e), h.mot, h.arg, h.letters⟩⟩ (by simp) fun t => ?_
    rw [hc]
    unfold atR contR bodyR operatedR cntR
    rw [hh, operR_op t h1.2, h1.1, (h.nohere hh).1]
    simp [comb]
    congr 1
    split <;> rfl
  rename_i h1
  split
  · rename_i h2
    obtain ⟨p1, p2, p3, p4, p5, p6, p7⟩ := plains_not _ k h2
    refine .of_whole ?_
    rw [hc, atR_plain h (by simp) hh (by rw [motionR_none [] p1 p5 p2 (by rintro (e | e); exact p3 e; exact p4 e)]; decide) (plainR_yes [] h2) (fun hv => by rw [operR_none [] (fun e => h1 ⟨hv, e⟩) p5])]
    unfold cdOf
    rw [h.mot, h.arg]; rfl
  rename_i h2
  split
  · rename_i h3
    obtain ⟨hv, rfl⟩ := h3
    refine .of_whole ?_
    have hp : plainR s.visual [18] = ([94, 82], [], 1) := by rw [hv]; rfl
    rw [hc, atR_plain h (by simp) hh (by rw [motionR_none [] (by decide) (by decide) (by decide) (by decide)]; decide) hp (fun _ => rfl)]
    unfold cdOf
    rw [h.mot, h.arg]; rfl
  rename_i h3
  split
  · rename_i h4
    refine .of_more ⟨h.n0, h.n1, fun _ => (h.nohere hh).1, fun e => (by rw [hh] at e; cases e), ⟨.inl ⟨hh, rfl, h.mot⟩, .inl ⟨h.arg, h.letters⟩⟩⟩ (by simp) fun t => ?_
    have : waits { s with key := [114], tag := .letter } = [114] := by unfold waits; simp [h.mot, h.arg]
    rw [hc, waits_eq { s with key := [114] } .letter (by decide) (by decide) (by decide), this, h4]
    unfold atR
    simp only [hh]
    rfl
  rename_i h4
  split
  · rename_i h5
    refine .of_more ⟨h.n0, h.n1, fun _ => (h.nohere hh).1, fun e => (by rw [hh] at e; cases e), ⟨.inl ⟨hh, rfl, h.mot⟩, h.arg, h.letters⟩⟩ (by simp) fun t => ?_
    have : waits { s with key := [109], tag := .name } = [109] := by unfold waits; simp [h.mot, h.arg]
    rw [hc, waits_eq { s with key := [109] } .name (by decide) (by decide) (by decide), this, h5]
    unfold atR
    simp only [hh]
    rfl
  rename_i h5
  split
  · rename_i h6
    refine .of_more (wf_at h rfl rfl rfl rfl (fun _ => rfl) ⟨hh, (h.nohere hh).2, h.mot, h.arg, h.letters⟩) (by simp) fun t => ?_
    rw [hc, waits_eq s .second (by decide) (by decide) (by decide), h6]; rfl
  rename_i h6
  exact motion_goes h (fun _ => ⟨fun hv e => h1 ⟨hv, e⟩, h2, h3, h4, h5, h6⟩) hc
/-- A state in which a count may come. -/
theorem counted_goes {s : PS} (h : AtK s) {k : Int} {s0 : PS} (hc : ∀ t, contR s0 t = contR { s with tag := .counted } t) : Goes s0 k (countedP s k) := by
  have hn : 0 ≤ nOf s := by unfold nOf; split; exact h.n1.1; exact h.n0.1
  unfold countedP
  split
  · rename_i h1
    obtain ⟨a1, a2, a3, a4, a5, a6, a7⟩ := setN_here s (min99 (10 * nOf s + (k - 48)))
    have hm := min99_le (n := 10 * nOf s + (k - 48)) (by omega)
    refine .of_more ⟨?_, ?_, ?_, ?_, ⟨?_, ?_, ?_, ?_⟩⟩ (by simp) fun t => ?_
    · show 0 ≤ (setN s _).n0 ∧ (setN s _).n0 ≤ 99
      unfold setN; split
      · exact h.n0
      · exact hm
    · show 0 ≤ (setN s _).n1 ∧ (setN s _).n1 ≤ 99
      unfold setN; split
      · exact hm
      · exact h.n1
    · intro e
      have e : s.here = false := a1 ▸ e
      show (setN s _).n1 = 0
      unfold setN; rw [if_neg (by rw [e]; decide)]; exact (h.nohere e).1
    · intro e
      have e : s.here = true := a1 ▸ e
      show OpK (setN s _).key ∧ (setN s _).visual = false
      rw [a3, a2]; exact h.op e
    · intro e
      have e : s.here = false := a1 ▸ e
      show (setN s _).key = []
      rw [a3]; exact (h.nohere e).2
    · show (setN s _).mot = []; rw [a4]; exact h.mot
    · show (setN s _).arg = []; rw [a5]; exact h.arg
    · show (setN s _).letters = 0; rw [a6]; exact h.letters
    · rw [hc]
      unfold contR
      cases hh : s.here with
      | true =>
        have hnn : nOf s = s.n1 := by unfold nOf; rw [if_pos hh]
        rw [hnn] at h1 hn ⊢
        simp only [setN, hh, if_true]
        rw [(cntR_digit hn h1).1]
      | false =>
        have hnn : nOf s = s.n0 := by unfold nOf; rw [if_neg (by rw [hh]; decide)]
        rw [hnn] at h1 hn ⊢
        simp only [setN, hh, Bool.false_eq_true, if_false]
        rw [(cntR_digit hn h1).1]
  · rename_i h1
    have hat : ∀ t, contR s0 (k :: t) = atR s (k :: t) := fun t => by
      rw [hc]
      unfold contR atR
      cases hh : s.here with
      | true =>
        have hnn : nOf s = s.n1 := by unfold nOf; rw [if_pos hh]
        rw [hnn] at h1 hn
        simp only [if_true]
        rw [cntR_other hn h1]
      | false =>
        have hnn : nOf s = s.n0 := by unfold nOf; rw [if_neg (by rw [hh]; decide)]
        rw [hnn] at h1 hn
        simp only [Bool.false_eq_true, if_false]
        rw [cntR_other hn h1]
    split
    · rename_i hh
      exact motion_goes h (fun e => (by rw [hh] at e; cases e)) hat
    · rename_i hh
      exact command_goes h (by simpa using hh) hat
theorem atK_fresh (v : Bool) : AtK (fresh v) := ⟨by show (0 : Int) ≤ 0 ∧ (0 : Int) ≤ 99; decide, by show (0 : Int) ≤ 0 ∧ (0 : Int) ≤ 99; decide, fun _ => ⟨rfl, rfl⟩, fun e => (by cases e), rfl, rfl, rfl⟩
theorem step_goes {s : PS} (h : WF s) (k : Int) : Goes s k (stepP s k) := by
  have ht := h.tag
  unfold stepP
  cases htag : s.tag with
  | begin =>
    rw [htag] at ht
    simp only
    unfold beginP
    split
    · rename_i h1
      rw [ht]
      refine .of_more ⟨by show (0 : Int) ≤ 0 ∧ (0 : Int) ≤ 99; decide, by show (0 : Int) ≤ 0 ∧ (0 : Int) ≤ 99; decide, fun _ => rfl, fun e => (by cases e), rfl⟩ (by simp) fun t => ?_
      rw [h1]; rfl
    · rename_i h1
      have hat : AtK s := by rw [ht]; exact atK_fresh _
      have := counted_goes (s0 := { s with tag := .counted }) hat (k := k) (fun t => rfl)
      have hck : ∀ t, contR s (k :: t) = contR { s with tag := .counted } (k :: t) := fun t => by
        rw [ht]
        show readR _ (k :: t) = _
        unfold contR readR
        simp only [if_neg h1]
        rfl
      exact ⟨fun e => ⟨(this.more e).1, (this.more e).2.1, fun t => by rw [hck]; exact (this.more e).2.2 t⟩, fun e => by rw [hck]; exact this.whole e, fun e => by rw [hck]; exact this.none e, this.told⟩
  | register =>
    rw [htag] at ht
    simp only
    unfold registerP
    split
    · rename_i h1
      rw [ht]
      refine .of_more ⟨by show (0 : Int) ≤ 0 ∧ (0 : Int) ≤ 99; decide, by show (0 : Int) ≤ 0 ∧ (0 : Int) ≤ 99; decide, fun _ => rfl, fun e => (by cases e), ⟨fun _ => rfl, rfl, rfl, rfl⟩⟩ (by simp) fun t => ?_
      show readR _ (34 :: k :: t) = _
      unfold readR contR
      simp only [h1, if_true]
      rfl
    · rename_i h1
      rw [ht]
      refine .of_none ?_
      show (readR _ [34, k]).2 = 2
      unfold readR
      simp only [h1, if_true]
      rfl
  | counted => exact counted_goes (h.at htag) fun t => by rw [← htag]
  | second =>
    rw [htag] at ht
    obtain ⟨hh, hk, hm, ha, hl⟩ := ht
    have hat : AtK s := ⟨h.n0, h.n1, fun e => ⟨h.nohere e, hk⟩, fun e => (by rw [hh] at e; cases e), hm, ha, hl⟩
    have hc : ∀ t, contR s t = atR s (103 :: t) := fun t => by
      have := waits_eq s .second (by decide) (by decide) (by decide) t
      rw [← htag] at this
      rw [this]
      unfold waits
      rw [htag]; rfl
    simp only
    unfold secondP
    split
    · rename_i h1
      refine .of_whole ?_
      rw [hc, h1, atR_mot hat (by simp) (m := [103, 103]) (a := []) rfl (fun e => (by rw [hh] at e; cases e)) (fun _ _ => rfl)]
      unfold cdOf
      rw [ha]; rfl
    rename_i h1
    have hmr : motionR [103, k] = ([], [], 2) := by
      simp only [motionR]
      rw [if_neg (by decide), if_pos trivial, if_neg h1]
    split
    · rename_i h2
      refine .of_none ?_
      have hp : plainR s.visual [103, k] = ([], [], 2) := by
        rw [plainR_g, if_neg (fun e => by rw [h2] at e; cases e.1)]
      rw [hc, atR_how (by simp) (fun e => (by rw [hh] at e; cases e)) (fun _ e => by rw [h2] at e; cases e) (by rw [hmr]; decide) (fun _ => by rw [hp]; decide), hmr, hp, hh]
      rfl
    rename_i h2
    have h2 : s.visual = false := by simpa using h2
    split
    · rename_i h3
      refine .of_more ⟨h.n0, by rw [h.nohere hh]; decide, fun e => (by cases e), fun _ => ⟨.inr ⟨k, h3, rfl⟩, h2⟩, ⟨fun e => (by cases e), hm, ha, hl⟩⟩ (by simp) fun t => ?_
      have ho : operR (103 :: k :: t) = ([103, k], t, 1) := by
        simp only [operR]
        first | rw [if_neg (by decide), if_neg (by decide), if_pos h3] | (rw [if_neg (by decide)]; simp [h3])
      rw [hc]
      unfold atR contR bodyR operatedR cntR
      rw [hh, ho, h2, h.nohere hh]
      simp [comb]
      congr 1
      split <;> rfl
    rename_i h3
    have ho' : operR [103, k] = ([], [103, k], 2) := by
      simp only [operR]
      first | rw [if_neg (by decide), if_neg (by decide), if_neg h3] | (rw [if_neg (by decide)]; simp [h3])
    have ho : (operR [103, k]).2.2 = 2 := by rw [ho']
    split
    · rename_i h4
      refine .of_whole ?_
      have hp : plainR s.visual [103, k] = ([103, k], [], 1) := by
        rw [plainR_g, if_pos ⟨h2, h4⟩]
      rw [hc, atR_plain hat (by simp) hh (by rw [hmr]; decide) hp (fun _ => ho)]
      unfold cdOf
      rw [hm, ha]; rfl
    · rename_i h4
      refine .of_none ?_
      have hp : plainR s.visual [103, k] = ([], [], 2) := by
        rw [plainR_g, if_neg (fun e => h4 e.2)]
      rw [hc, atR_how (by simp) (fun e => (by rw [hh] at e; cases e)) (fun _ _ => ho) (by rw [hmr]; decide) (fun _ => by rw [hp]; decide), hmr, hp, hh]
      rfl
  | again =>
    rw [htag] at ht
    obtain ⟨hh, hm, ha, hl⟩ := ht
    have hat : AtK s := ⟨h.n0, h.n1, fun e => (by rw [hh] at e; cases e), h.op, hm, ha, hl⟩
    have hc : ∀ t, contR s t = atR s (103 :: t) := fun t => by
      have := waits_eq s .again (by decide) (by decide) (by decide) t
      rw [← htag] at this
      rw [this]
      unfold waits
      rw [htag]; rfl
    simp only
    unfold againP
    split
    · rename_i h1
      refine .of_whole ?_
      rw [hc, h1, atR_mot hat (by simp) (m := [103, 103]) (a := []) rfl (fun _ => by simp) (fun e => (by rw [hh] at e; cases e))]
      unfold cdOf
      rw [ha]; rfl
    · rename_i h1
      have hmr : motionR [103, k] = ([], [], 2) := by
        simp only [motionR]
        rw [if_neg (by decide), if_pos trivial, if_neg h1]
      refine .of_none ?_
      rw [hc, atR_how (by simp) (fun _ => by simp) (fun e => (by rw [hh] at e; cases e)) (by rw [hmr]; decide) (fun e => (by rw [hh] at e; cases e)), hmr, hh]
      rfl
  | name =>
    rw [htag] at ht
    obtain ⟨hcase, ha, hl⟩ := ht
    have hc : ∀ t, contR s t = atR s ((if s.mot = [] then s.key else s.mot) ++ t) := fun t => by
      have := waits_eq s .name (by decide) (by decide) (by decide) t
      rw [← htag] at this
      rw [this]
      unfold waits
      rw [htag, ha]; simp
    simp only
    unfold nameP
    rcases hcase with ⟨hh, hk, hm⟩ | ⟨hk, hm⟩
    · -- a mark is set
      let s1 : PS := { s with key := [] }
      have hat : AtK s1 := ⟨h.n0, h.n1, fun e => ⟨h.nohere hh, rfl⟩, fun e => (by have e : s.here = true := e; rw [hh] at e; cases e), hm, ha, hl⟩
      have hc : ∀ t, contR s t = atR s1 (109 :: t) := fun t => by
        rw [hc, if_pos hm, hk]
        unfold atR
        show (if s.here = true then _ else _) = (if s.here = true then _ else _)
        rw [hh]; rfl
      have hmr : ∀ r, motionR (109 :: r) = ([], [], 2) := fun r => motionR_none r (by decide) (by decide) (by decide) (by decide)
      have hor : ∀ r, (operR (109 :: r)).2.2 = 2 := fun r => by rw [operR_none r (by decide) (by decide)]
      have hpr : plainR s.visual [109, k] = if smallK k = true then ([109], [k], 1) else ([], [], 2) := by
        show (if (109 : Int) ∈ plains s.visual then _ else _) = _
        rw [if_neg (by cases s.visual <;> decide), if_neg (by simp), if_neg (by decide), if_pos rfl]
      split
      · rename_i h1
        refine .of_whole ?_
        rw [if_pos h1] at hpr
        rw [hc, atR_plain hat (by simp) hh (by rw [hmr]; decide) hpr (fun _ => hor _)]
        unfold cdOf
        rw [hk, hm]; rfl
      · rename_i h1
        refine .of_none ?_
        rw [if_neg h1] at hpr
        rw [hc, atR_how (by simp) (fun e => (by have e : s.here = true := e; rw [hh] at e; cases e)) (fun _ _ => hor _) (by rw [hmr]; decide) (fun _ => by show (plainR s.visual [109, k]).2.2 ≠ 1; rw [hpr]; decide), hmr]
        show (if s.here = true then _ else if (plainR s.visual [109, k]).2.2 < _ then (plainR s.visual [109, k]).2.2 else _) = _
        rw [hh, hpr]; rfl
    · -- a mark is gone to
      have hmne : s.mot ≠ [] := by rcases hm with e | e <;> rw [e] <;> simp
      let s1 : PS := { s with mot := [] }
      have hat : AtK s1 := ⟨h.n0, h.n1, fun e => ⟨h.nohere e, hk e⟩, h.op, rfl, ha, hl⟩
      obtain ⟨q, hq, hq2⟩ : ∃ q, (q = 39 ∨ q = 96) ∧ s.mot = [q] := by
        rcases hm with e | e
        · exact ⟨39, .inl rfl, e⟩
        · exact ⟨96, .inr rfl, e⟩
      have hc : ∀ t, contR s t = atR s1 (q :: t) := fun t => by rw [hc, if_neg hmne, hq2]; rfl
      have hqn : q ∉ mots ∧ q ≠ 103 ∧ q ∉ finds ∧ q ∉ opers ∧ q ≠ 18 ∧ q ≠ 114 ∧ q ≠ 109 ∧ ∀ v, q ∉ plains v := by rcases hq with rfl | rfl <;> decide
      obtain ⟨p1, p2, p3, p4, p5, p6, p7, p8⟩ := hqn
      have hmr : motionR [q, k] = if smallK k = true then ([q], [k], 1) else ([], [], 2) := by
        show (if q ∈ mots then _ else _) = _
        rw [if_neg p1, if_neg p2, if_neg p3, if_pos hq]
      have hor : ∀ r, (operR (q :: r)).2.2 = 2 := fun r => by rw [operR_none r p4 p2]
      have hpr : ∀ v r, plainR v (q :: r) = ([], [], 2) := fun v r => plainR_none r (p8 v) (fun e => p5 e.1) p6 p7 p2
      have hll : s1.here = true → [q, k] ≠ [lastK s1.key] := fun _ => by simp
      split
      · rename_i h1
        refine .of_whole ?_
        rw [if_pos h1] at hmr
        rw [hc, atR_mot hat (by simp) hmr hll (fun _ _ => hor _)]
        unfold cdOf
        rw [hq2]; rfl
      · rename_i h1
        refine .of_none ?_
        rw [if_neg h1] at hmr
        rw [hc, atR_how (by simp) hll (fun _ _ => hor _) (by rw [hmr]; decide) (fun _ => by rw [hpr]; decide), hmr, hpr]
        split <;> rfl
  | letter =>
    rw [htag] at ht
    obtain ⟨hcase, hlet⟩ := ht
    have hc : ∀ t, contR s t = atR s ((if s.mot = [] then s.key else s.mot) ++ (s.arg ++ t)) := fun t => by
      have := waits_eq s .letter (by decide) (by decide) (by decide) t
      rw [← htag] at this
      rw [this]
      unfold waits
      rw [htag, List.append_assoc]
    -- the letter's bytes so far, with this one
    obtain ⟨a0, r0, har, hmr0⟩ : ∃ a0 r0, s.arg ++ [k] = a0 :: r0 ∧ (if s.letters = 0 then longK k else s.letters) - 1 = longK a0 - ((a0 :: r0).length : Int) := by
      rcases hlet with ⟨e1, e2⟩ | ⟨a, r, e1, e2, e3⟩
      · exact ⟨k, [], by rw [e1]; rfl, by rw [if_pos e2]; simp⟩
      · refine ⟨a, r ++ [k], by rw [e1]; rfl, ?_⟩
        rw [if_neg (by omega), e2, e1]
        simp; omega
    have hpos : 0 ≤ longK a0 - ((a0 :: r0).length : Int) := by
      rw [← hmr0]
      rcases hlet with ⟨e1, e2⟩ | ⟨a, r, e1, e2, e3⟩
      · rw [if_pos e2]; have := longK_pos k; omega
      · rw [if_neg (by omega)]; omega
    have hlet' : ∀ (h0 : longK a0 - ((a0 :: r0).length : Int) > 0), LetK (s.arg ++ [k]) (longK a0 - ((a0 :: r0).length : Int)) := fun h0 => .inr ⟨a0, r0, har, by rw [har], h0⟩
    simp only
    unfold letterP
    rw [hmr0]
    rcases hcase with ⟨hh, hk, hm⟩ | ⟨hk, f, hf, hm⟩
    · -- a letter is replaced
      have hat : AtK { s with key := [], arg := [], letters := 0 } := ⟨h.n0, h.n1, fun e => ⟨h.nohere hh, rfl⟩, fun e => (by have e : s.here = true := e; rw [hh] at e; cases e), hm, rfl, rfl⟩
      have hc : ∀ t, contR s t = atR { s with key := [], arg := [], letters := 0 } (114 :: (s.arg ++ t)) := fun t => by
        rw [hc, if_pos hm, hk]
        unfold atR
        show (if s.here = true then _ else _) = (if s.here = true then _ else _)
        rw [hh]; rfl
      have hmr : ∀ r, motionR (114 :: r) = ([], [], 2) := fun r => motionR_none r (by decide) (by decide) (by decide) (by decide)
      have hor : ∀ r, (operR (114 :: r)).2.2 = 2 := fun r => by rw [operR_none r (by decide) (by decide)]
      have hpr : plainR s.visual (114 :: a0 :: r0) = if ((a0 :: r0).length : Int) < longK a0 then ([], [], 0) else ([114], a0 :: r0, 1) := by
        show (if (114 : Int) ∈ plains s.visual then _ else _) = _
        rw [if_neg (by cases s.visual <;> decide), if_neg (by simp), if_pos rfl]
      split
      · rename_i h1
        refine .of_more ⟨h.n0, h.n1, h.nohere, h.op, ?_⟩ (by show s.tag ≠ _; rw [htag]; decide) fun t => ?_
        · show (match s.tag with | .begin => _ | .register => _ | .counted => _ | .second => _ | .again => _ | .name => _ | .letter => _ : Prop)
          rw [htag]
          exact ⟨.inl ⟨hh, hk, hm⟩, hlet' h1⟩
        · have h2 := waits_eq { s with letters := longK a0 - ((a0 :: r0).length : Int), arg := s.arg ++ [k] } .letter (by decide) (by decide) (by decide) t
          have e : ({ s with letters := longK a0 - ((a0 :: r0).length : Int), arg := s.arg ++ [k] } : PS) = { s with letters := longK a0 - ((a0 :: r0).length : Int), arg := s.arg ++ [k], tag := .letter } := by rw [← htag]
          rw [e, h2, hc]
          unfold waits atR
          simp only [hm, hk, hh]
          simp
      · rename_i h1
        refine .of_whole ?_
        rw [if_neg (by omega)] at hpr
        have hcc := hc [k]
        rw [har] at hcc
        rw [hcc, atR_plain hat (by simp) hh (by rw [hmr]; decide) hpr (fun _ => hor _)]
        unfold cdOf
        simp only [har, hk, hm]
        rfl
    · -- a letter is looked for
      have hmne : s.mot ≠ [] := by rw [hm]; simp
      have hat : AtK { s with mot := [], arg := [], letters := 0 } := ⟨h.n0, h.n1, fun e => ⟨h.nohere e, hk e⟩, h.op, rfl, rfl, rfl⟩
      have hc : ∀ t, contR s t = atR { s with mot := [], arg := [], letters := 0 } (f :: (s.arg ++ t)) := fun t => by rw [hc, if_neg hmne, hm]; rfl
      obtain ⟨p1, p2, p3, p4, p5, p6, p7, p8, p9, p10, _⟩ := finds_not f hf
      have hmr := motionR_find a0 r0 hf
      have hor : ∀ r, (operR (f :: r)).2.2 = 2 := fun r => by rw [operR_none r p3 p2]
      have hpr : ∀ v r, plainR v (f :: r) = ([], [], 2) := fun v r => plainR_none r (p7 v) (fun e => p8 e.1) p9 p10 p2
      have hll : s.here = true → f :: a0 :: r0 ≠ [lastK s.key] := fun _ => by simp
      split
      · rename_i h1
        refine .of_more ⟨h.n0, h.n1, h.nohere, h.op, ?_⟩ (by show s.tag ≠ _; rw [htag]; decide) fun t => ?_
        · show (match s.tag with | .begin => _ | .register => _ | .counted => _ | .second => _ | .again => _ | .name => _ | .letter => _ : Prop)
          rw [htag]
          exact ⟨.inr ⟨hk, f, hf, hm⟩, hlet' h1⟩
        · have h2 := waits_eq { s with letters := longK a0 - ((a0 :: r0).length : Int), arg := s.arg ++ [k] } .letter (by decide) (by decide) (by decide) t
          have e : ({ s with letters := longK a0 - ((a0 :: r0).length : Int), arg := s.arg ++ [k] } : PS) = { s with letters := longK a0 - ((a0 :: r0).length : Int), arg := s.arg ++ [k], tag := .letter } := by rw [← htag]
          rw [e, h2, hc]
          unfold waits atR
          simp only [hm]
          simp
      · rename_i h1
        refine .of_whole ?_
        rw [if_neg (by omega)] at hmr
        have hcc := hc [k]
        rw [har] at hcc
        rw [hcc, atR_mot hat (by simp) hmr hll (fun _ _ => hor _)]
        unfold cdOf
        simp only [har, hm]
        rfl
theorem cont_nil {s : PS} (h : WF s) (hb : s.tag ≠ .begin) : (contR s []).2 = 0 := by
  have ht := h.tag
  have at0 : ∀ {s : PS} {c : Int} {t : List Int}, (motionR (c :: t)).2.2 = 0 → (s.here = true → c :: t ≠ [lastK s.key]) → (s.here = false → (s.visual = false → (operR (c :: t)).2.2 = 2) ∧ 0 ≤ (plainR s.visual (c :: t)).2.2 ∧ (plainR s.visual (c :: t)).2.2 ≠ 1) → (atR s (c :: t)).2 = 0 := by
    intro s c t h1 h2 h3
    rw [atR_how (by simp) h2 (fun hh => (h3 hh).1) (by rw [h1]; decide) (fun hh => (h3 hh).2.2), h1]
    cases hh : s.here with
    | true => rfl
    | false =>
      have := (h3 hh).2.1
      simp only [Bool.false_eq_true, if_false]
      rw [if_neg (by omega)]
  cases htag : s.tag with
  | begin => exact absurd htag hb
  | register => rw [htag] at ht; rw [ht]; rfl
  | counted =>
    unfold contR
    rw [htag]
    simp only [cntR_nil]
    split <;> rfl
  | second =>
    rw [htag] at ht
    have := waits_eq s .second (by decide) (by decide) (by decide) []
    rw [← htag] at this
    rw [this]
    unfold waits
    rw [htag]
    show (atR s [103]).2 = 0
    unfold atR bodyR
    rw [ht.1]
    cases s.visual <;> rfl
  | again =>
    rw [htag] at ht
    have := waits_eq s .again (by decide) (by decide) (by decide) []
    rw [← htag] at this
    rw [this]
    unfold waits
    rw [htag]
    have hl := last_not (op_last (h.op ht.1).1)
    exact at0 rfl (fun _ e => by injection e with e; exact hl.2.1 e.symm) (fun e => by rw [ht.1] at e; cases e)
  | name =>
    rw [htag] at ht
    obtain ⟨hcase, ha, _⟩ := ht
    have := waits_eq s .name (by decide) (by decide) (by decide) []
    rw [← htag] at this
    rw [this]
    unfold waits
    rw [htag, ha]
    simp only [List.append_nil]
    rcases hcase with ⟨hh, hk, hm⟩ | ⟨hk, hm⟩
    · rw [if_pos hm, hk]
      unfold atR bodyR
      rw [hh]
      cases s.visual <;> rfl
    · have hll : ∀ q, (q = 39 ∨ q = 96) → s.here = true → [q] ≠ [lastK s.key] := fun q hq hh e => by
        have hl := last_not (op_last (h.op hh).1)
        injection e with e
        rcases hq with rfl | rfl
        · exact hl.2.2.1 e.symm
        · exact hl.2.2.2.1 e.symm
      rcases hm with hm | hm
      · rw [if_neg (by rw [hm]; simp), hm]
        exact at0 rfl (hll _ (.inl rfl)) fun _ => ⟨fun _ => rfl, by cases s.visual <;> decide, by cases s.visual <;> decide⟩
      · rw [if_neg (by rw [hm]; simp), hm]
        exact at0 rfl (hll _ (.inr rfl)) fun _ => ⟨fun _ => rfl, by cases s.visual <;> decide, by cases s.visual <;> decide⟩
  | letter =>
    rw [htag] at ht
    obtain ⟨hcase, hlet⟩ := ht
    have := waits_eq s .letter (by decide) (by decide) (by decide) []
    rw [← htag] at this
    rw [this]
    unfold waits
    rw [htag]
    simp only [List.append_nil]
    have hmo : ∀ {c : Int}, c ∈ finds → motionR (c :: s.arg) = ([], [], 0) := fun {c} hc => by
      rcases hlet with ⟨e1, e2⟩ | ⟨a, r, e1, e2, e3⟩
      · rw [e1]; exact motionR_find0 hc
      · rw [e1, motionR_find a r hc, if_pos (by rw [e1] at e2; omega)]
    rcases hcase with ⟨hh, hk, hm⟩ | ⟨hk, f, hf, hm⟩
    · rw [if_pos hm, hk]
      have hpr : plainR s.visual (114 :: s.arg) = ([], [], 0) := by
        have h114 : ∀ r, plainR s.visual (114 :: r) = (match r with | [] => ([], [], 0) | x :: _ => if (r.length : Int) < longK x then ([], [], 0) else ([114], r, 1)) := fun r => by
          show (if (114 : Int) ∈ plains s.visual then _ else _) = _
          rw [if_neg (by cases s.visual <;> decide), if_neg (by simp), if_pos rfl]
          cases r <;> rfl
        rw [h114]
        rcases hlet with ⟨e1, e2⟩ | ⟨a, r, e1, e2, e3⟩
        · rw [e1]
        · rw [e1]
          simp only
          rw [if_pos (by rw [e1] at e2; omega)]
      have hmr : motionR (114 :: s.arg) = ([], [], 2) := motionR_none _ (by decide) (by decide) (by decide) (by decide)
      show (atR s (114 :: s.arg)).2 = 0
      rw [atR_how (by simp) (fun e => (by rw [hh] at e; cases e)) (fun _ _ => by rw [operR_none _ (by decide) (by decide)]) (by rw [hmr]; decide) (fun _ => by rw [hpr]; decide), hmr, hpr, hh]
      rfl
    · rw [if_neg (by rw [hm]; simp), hm]
      obtain ⟨p1, p2, p3, p4, p5, p6, p7, p8, p9, p10, _⟩ := finds_not f hf
      show (atR s (f :: s.arg)).2 = 0
      refine at0 (by rw [hmo hf]) (fun hh e => ?_) fun _ => ⟨fun _ => by rw [operR_none _ p3 p2], by rw [plainR_none _ (p7 _) (fun e => p8 e.1) p9 p10 p2]; decide, by rw [plainR_none _ (p7 _) (fun e => p8 e.1) p9 p10 p2]; decide⟩
      have hl := last_not (op_last (h.op hh).1)
      injection e with e
      exact hl.1 (by rw [← e]; exact hf)
/-- The keys so far. -/
structure Keys (s : PS) (B : List Int) : Prop where
  wf : WF s
  read : ∀ t, readR s.visual (B ++ t) = contR s t
  some : B = [] → s = fresh s.visual
theorem wf_fresh (v : Bool) : WF (fresh v) := ⟨by show (0 : Int) ≤ 0 ∧ (0 : Int) ≤ 99; decide, by show (0 : Int) ≤ 0 ∧ (0 : Int) ≤ 99; decide, fun _ => rfl, fun e => (by cases e), rfl⟩
theorem Keys.fresh (v : Bool) : Keys (fresh v) [] := ⟨wf_fresh v, fun t => rfl, fun _ => rfl⟩
theorem feed_same {s : PS} {B : List Int} (h : Keys s B) (k : Int) : (feedP s B k).1 = (feedR s.visual B k).1 ∧ (feedP s B k).2.2 = (feedR s.visual B k).2 ∧ Keys (feedP s B k).2.1 (feedP s B k).2.2 ∧ (feedP s B k).2.1.visual = s.visual := by
  unfold feedP feedR
  by_cases h27 : k = 27
  · rw [if_pos h27, if_pos h27]
    exact ⟨rfl, rfl, Keys.fresh _, rfl⟩
  rw [if_neg h27, if_neg h27, h.read [k]]
  have g := step_goes h.wf k
  have hv := stepP_visual s k
  rcases g.told with h0 | h1 | h2
  · obtain ⟨g1, g2, g3⟩ := g.more h0
    have hc : (contR s [k]).2 = 0 := by rw [g3 []]; exact cont_nil g1 g2
    rw [if_pos h0, if_pos hc]
    refine ⟨rfl, rfl, ⟨g1, fun t => ?_, fun e => by simp at e⟩, hv⟩
    show readR (stepP s k).1.visual ((B ++ [k]) ++ t) = _
    rw [hv, List.append_assoc, h.read]
    exact g3 t
  · have hc := g.whole h1
    rw [hc, h1]
    exact ⟨rfl, rfl, Keys.fresh _, rfl⟩
  · have hc := g.none h2
    rw [hc, h2]
    exact ⟨rfl, rfl, Keys.fresh _, rfl⟩
end Go.Vc
