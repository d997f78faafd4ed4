/-
  Expressions, in plain Lean: what stands behind a text, or ahead of it, changes nothing.
-/
import Derived.Test.YtffhlgejfgmpiaaGreatDoorCalcLoc
namespace Go.Vc
/-- What may stand behind: blanks, then nothing or what closes. -/
structure Beh (B : Prop) (post : List Int) : Prop where
  head : ∀ x, post.head? = some x → x = 32 ∨ x = 41 ∨ x = 44
  after : ∀ x, (skip post).head? = some x → x = 41 ∨ x = 44
  blank : B → skip post = []
theorem skip_app {l post : List Int} : skip (l ++ post) = if skip l = [] then skip post else skip l ++ post := by
  induction l with
  | nil => rfl
  | cons x r ih =>
    show skip (x :: (r ++ post)) = _
    unfold skip at ih ⊢
    rw [List.dropWhile_cons, List.dropWhile_cons]
    by_cases h : (x == 32) = true
    · rw [if_pos h, if_pos h]; exact ih
    · rw [if_neg h, if_neg h, if_neg (by simp)]; rfl
theorem skip_app_congr {l l' post : List Int} (h : skip l = skip l') : skip (l ++ post) = skip (l' ++ post) := by rw [skip_app, skip_app, h]
theorem tk_some_app {w l r post : List Int} (hw : w ≠ []) (h : tk w l = some r) : tk w (l ++ post) = some (r ++ post) := by
  unfold tk at h ⊢
  split at h
  · rename_i hp
    injection h with h
    have hp := List.isPrefixOf_iff_prefix.1 hp
    have hn : skip l ≠ [] := fun e => by rw [e] at hp; exact hw (List.prefix_nil.1 hp)
    obtain ⟨t, ht⟩ := hp
    rw [skip_app, if_neg hn, if_pos (List.isPrefixOf_iff_prefix.2 ⟨t ++ post, by rw [← ht, List.append_assoc]⟩), ← h, ← ht, List.append_assoc, List.drop_left, List.drop_left]
  · cases h
theorem tk_none_app {B : Prop} {w l post : List Int} (hw : w ≠ []) (h : tk w l = none) (hp : Beh B post) (hc : ∀ x ∈ w, x ≠ 32 ∧ (¬ B → x ≠ 41 ∧ x ≠ 44)) : tk w (l ++ post) = none := by
  unfold tk at h ⊢
  split at h
  · cases h
  rename_i hn
  rw [if_neg fun e => ?_]
  have e := List.isPrefixOf_iff_prefix.1 e
  rw [skip_app] at e
  by_cases h0 : skip l = []
  · rw [if_pos h0] at e
    cases hs : skip post with
    | nil => rw [hs] at e; exact hw (List.prefix_nil.1 e)
    | cons y q =>
      rw [hs] at e
      have hy := hp.after y (by rw [hs]; rfl)
      have hB : ¬ B := fun b => by have := hp.blank b; rw [this] at hs; cases hs
      cases w with
      | nil => exact hw rfl
      | cons x v =>
        have : x = y := by
          have := (List.cons_prefix_cons.1 e).1
          exact this
        have h2 := (hc x (List.mem_cons_self)).2 hB
        subst this
        omega
  · rw [if_neg h0] at e
    rcases List.prefix_or_prefix_of_prefix e (List.prefix_append (skip l) post) with h1 | h1
    · exact hn (List.isPrefixOf_iff_prefix.2 h1)
    · obtain ⟨t, rfl⟩ := h1
      have ht := (List.prefix_append_right_inj _).1 e
      cases t with
      | nil => exact hn (List.isPrefixOf_iff_prefix.2 (by rw [List.append_nil]; exact List.prefix_refl _))
      | cons y q =>
        obtain ⟨u, hu⟩ := ht
        have hy := hp.head y (by rw [← hu]; rfl)
        obtain ⟨g1, g2⟩ := hc y (List.mem_append_right _ List.mem_cons_self)
        by_cases hB : B
        · have := hp.blank hB
          rw [← hu] at this
          have h32 : (y == 32) = false := by simpa using g1
          unfold skip at this
          rw [List.cons_append, List.dropWhile_cons, h32] at this
          simp at this
        · have := g2 hB
          omega
theorem fact_skip {E F : List Int → Res} {l l' : List Int} (h : skip l = skip l') : factorP E F l = factorP E F l' := by
  have ht : ∀ w, tk w l = tk w l' := fun w => by rw [← tk_skip w l, h, tk_skip]
  unfold factorP
  rw [ht, ht, ht, ht, ht, ht, ht]
  unfold numP
  rw [h]
theorem factN_skip {n : Nat} {l l' : List Int} (h : skip l = skip l') : factN n l = factN n l' := by
  cases n with
  | zero => rfl
  | succ n => exact fact_skip h
def SkipInv (F : List Int → Res) : Prop := ∀ l l', skip l = skip l' → F l = F l'
theorem seqP_skip {F : List Int → Res} (hF : SkipInv F) {a b : Int} {ga gb : Option Nat → Option Nat → Option Nat} : SkipInv (seqP F a b ga gb) := fun l l' h => by unfold seqP; rw [hF l l' h]
theorem exprP_skip {F : List Int → Res} (hF : SkipInv F) : SkipInv (exprP F) := seqP_skip (seqP_skip hF)
theorem tk_inv {w l l' : List Int} (h : skip l = skip l') : tk w l = tk w l' := by rw [← tk_skip w l, h, tk_skip]
theorem chainP_skip {F : List Int → Res} {a b : Int} {ga gb : Option Nat → Option Nat → Option Nat} {n : Nat} {c : Option Nat} {m : Nat} {l l' : List Int} (h : skip l = skip l') : chainP F a b ga gb n c m l = chainP F a b ga gb n c m l' := by
  cases n with
  | zero => rfl
  | succ n => unfold chainP; rw [tk_inv h, tk_inv h, h]
/-- The same, whatever stands behind. -/
def Loc (B : Prop) (post : List Int) (x y : Res) : Prop := (∀ c m r, x = some (c, m, r) → ∃ r', y = some (c, m, r') ∧ skip r' = skip (r ++ post)) ∧ (B → x = none → y = none)
def LocF (B : Prop) (post : List Int) (F : List Int → Res) : Prop := ∀ l, Loc B post (F l) (F (l ++ post))
section
variable {B : Prop} {post : List Int} (hp : Beh B post)
include hp
theorem tk1 {w : List Int} (hw : w ≠ []) (hc : ∀ x ∈ w, x ≠ 32 ∧ x ≠ 41 ∧ x ≠ 44) {l : List Int} (h : tk w l = none) : tk w (l ++ post) = none :=
  tk_none_app hw h hp fun x hx => ⟨(hc x hx).1, fun _ => (hc x hx).2⟩
theorem tkB (b : B) {w : List Int} (hw : w ≠ []) (hc : ∀ x ∈ w, x ≠ 32) {l : List Int} (h : tk w l = none) : tk w (l ++ post) = none :=
  tk_none_app hw h hp fun x hx => ⟨hc x hx, fun n => absurd b n⟩
theorem closedP_loc {E : List Int → Res} (hE : LocF B post E) : LocF B post (closedP E) := fun l => by
  have h := hE l
  unfold closedP
  cases h1 : E l with
  | none => exact ⟨fun _ _ _ e => (by cases e), fun b _ => by rw [h.2 b h1]⟩
  | some x =>
    obtain ⟨c1, m1, r1⟩ := x
    obtain ⟨r', h2, h3⟩ := h.1 _ _ _ h1
    rw [h2]
    simp only
    cases h4 : tk [41] r1 with
    | none => exact ⟨fun _ _ _ e => (by cases e), fun b _ => by rw [tk_inv h3, tkB hp b (by simp) (by simp) h4]⟩
    | some r2 =>
      rw [tk_inv h3, tk_some_app (by simp) h4]
      refine ⟨fun c m r e => ?_, fun _ e => by cases e⟩
      simp only [Option.some.injEq, Prod.mk.injEq] at e
      obtain ⟨rfl, rfl, rfl⟩ := e
      exact ⟨_, rfl, rfl⟩
theorem twoP_loc {E : List Int → Res} (hE : LocF B post E) (hi : SkipInv E) (g : Option Nat → Option Nat → Option Nat) : LocF B post (twoP E g) := fun l => by
  have h := hE l
  unfold twoP
  cases h1 : E l with
  | none => exact ⟨fun _ _ _ e => (by cases e), fun b _ => by rw [h.2 b h1]⟩
  | some x =>
    obtain ⟨c1, m1, r1⟩ := x
    obtain ⟨r', h2, h3⟩ := h.1 _ _ _ h1
    rw [h2]
    simp only
    cases h4 : tk [44] r1 with
    | none => exact ⟨fun _ _ _ e => (by cases e), fun b _ => by rw [tk_inv h3, tkB hp b (by simp) (by simp) h4]⟩
    | some r2 =>
      rw [tk_inv h3, tk_some_app (by simp) h4]
      simp only
      have h5 := closedP_loc hp hE r2
      cases h6 : closedP E r2 with
      | none => exact ⟨fun _ _ _ e => (by cases e), fun b _ => by rw [h5.2 b h6]⟩
      | some x =>
        obtain ⟨c2, m2, r3⟩ := x
        obtain ⟨r4, h7, h8⟩ := h5.1 _ _ _ h6
        rw [h7]
        refine ⟨fun c m r e => ?_, fun _ e => by cases e⟩
        simp only [Option.some.injEq, Prod.mk.injEq] at e
        obtain ⟨rfl, rfl, rfl⟩ := e
        exact ⟨_, rfl, h8⟩
omit hp in
theorem up_loc {x y : Res} (h : Loc B post x y) (g : Option Nat → Option Nat) : Loc B post (up g x) (up g y) := by
  refine ⟨fun c m r e => ?_, fun b e => ?_⟩
  · obtain ⟨c', m', rfl, rfl, rfl⟩ := up_some e
    obtain ⟨r', rfl, h2⟩ := h.1 _ _ _ rfl
    exact ⟨r', rfl, h2⟩
  · cases x with
    | none => rw [h.2 b rfl]; rfl
    | some x => cases e
theorem callP_loc {f : List Int → Res} (hf : LocF B post f) (g : Option Nat → Option Nat) : LocF B post (callP f g) := fun l => by
  unfold callP
  cases h1 : tk [40] l with
  | none => exact ⟨fun _ _ _ e => (by cases e), fun _ _ => by rw [tk1 hp (by simp) (by simp) h1]⟩
  | some r =>
    rw [tk_some_app (by simp) h1]
    exact up_loc (hf r) g
theorem numP_loc : LocF B post numP := fun l => by
  have hpn : ∀ x, post.head? = some x → isNum x = false := fun x hx => by
    rcases hp.head x hx with rfl | rfl | rfl <;> decide
  have hsn : ∀ x, (skip post).head? = some x → isNum x = false := fun x hx => by
    rcases hp.after x hx with rfl | rfl <;> decide
  have tw0 : ∀ q : List Int, (∀ x, q.head? = some x → isNum x = false) → q.takeWhile isNum = [] := fun q hq => by
    cases q with
    | nil => rfl
    | cons x r => rw [List.takeWhile_cons, hq x rfl]; rfl
  have tw : ∀ q : List Int, (q ++ post).takeWhile isNum = q.takeWhile isNum := fun q => by
    induction q with
    | nil => exact tw0 _ hpn
    | cons x r ih =>
      rw [List.cons_append, List.takeWhile_cons, List.takeWhile_cons, ih]
  unfold numP
  by_cases h0 : skip l = []
  · rw [h0, skip_app, if_pos h0, tw0 _ hsn]
    exact ⟨fun _ _ _ e => (by rw [show List.takeWhile isNum [] = [] from rfl, decC_nil] at e; cases e), fun _ _ => by rw [decC_nil]⟩
  · rw [skip_app, if_neg h0, tw]
    cases h1 : decC ((skip l).takeWhile isNum) with
    | none => exact ⟨fun _ _ _ e => (by cases e), fun _ _ => rfl⟩
    | some d =>
      refine ⟨fun c m r e => ?_, fun _ e => by cases e⟩
      simp only [Option.some.injEq, Prod.mk.injEq] at e
      obtain ⟨rfl, rfl, rfl⟩ := e
      refine ⟨_, rfl, ?_⟩
      rw [List.drop_append_of_le_length (List.IsPrefix.length_le (List.takeWhile_prefix _))]
theorem factorP_loc {E F : List Int → Res} (hE : LocF B post E) (hi : SkipInv E) (hF : LocF B post F) : LocF B post (factorP E F) := fun l => by
  unfold factorP
  cases h1 : tk [45] l with
  | some r => rw [tk_some_app (by simp) h1]; exact up_loc (hF r) _
  | none =>
    rw [tk1 hp (by simp) (by simp) h1]
    simp only
    cases h2 : tk [40] l with
    | some r => rw [tk_some_app (by simp) h2]; exact up_loc (closedP_loc hp hE r) _
    | none =>
      rw [tk1 hp (by simp) (by simp) h2]
      simp only
      cases h3 : tk [109, 105, 110] l with
      | some r => rw [tk_some_app (by simp) h3]; exact callP_loc hp (twoP_loc hp hE hi _) _ r
      | none =>
        rw [tk1 hp (by simp) (by simp) h3]
        simp only
        cases h4 : tk [109, 97, 120] l with
        | some r => rw [tk_some_app (by simp) h4]; exact callP_loc hp (twoP_loc hp hE hi _) _ r
        | none =>
          rw [tk1 hp (by simp) (by simp) h4]
          simp only
          cases h5 : tk [97, 98, 115] l with
          | some r => rw [tk_some_app (by simp) h5]; exact callP_loc hp (closedP_loc hp hE) _ r
          | none =>
            rw [tk1 hp (by simp) (by simp) h5]
            simp only
            have one : ∀ (v : Option Nat) (r : List Int), Loc B post (some (v, 0, r)) (some (v, 0, r ++ post)) := fun v r => by
              refine ⟨fun c m r' e => ?_, fun _ e => by cases e⟩
              simp only [Option.some.injEq, Prod.mk.injEq] at e
              obtain ⟨rfl, rfl, rfl⟩ := e
              exact ⟨_, rfl, rfl⟩
            cases h6 : tk [110, 97, 110] l with
            | some r => rw [tk_some_app (by simp) h6]; exact one _ _
            | none =>
              rw [tk1 hp (by simp) (by simp) h6]
              simp only
              cases h7 : tk [105, 110, 102] l with
              | some r => rw [tk_some_app (by simp) h7]; exact one _ _
              | none =>
                rw [tk1 hp (by simp) (by simp) h7]
                exact numP_loc hp l
theorem chainP_loc {F : List Int → Res} (hF : LocF B post F) {a b : Int} (ha : a ≠ 32 ∧ a ≠ 41 ∧ a ≠ 44) (hb : b ≠ 32 ∧ b ≠ 41 ∧ b ≠ 44) {ga gb : Option Nat → Option Nat → Option Nat} : ∀ {n : Nat} {c : Option Nat} {m : Nat} {l : List Int}, Loc B post (chainP F a b ga gb n c m l) (chainP F a b ga gb n c m (l ++ post))
  | 0, _, _, _ => ⟨fun _ _ _ e => (by cases e), fun _ _ => rfl⟩
  | n + 1, c, m, l => by
    unfold chainP
    cases h1 : tk [a] l with
    | some r =>
      rw [tk_some_app (by simp) h1]
      simp only
      have h := hF r
      cases h2 : F r with
      | none => exact ⟨fun _ _ _ e => (by cases e), fun b _ => by rw [h.2 b h2]⟩
      | some x =>
        obtain ⟨c1, m1, r1⟩ := x
        obtain ⟨r2, h3, h4⟩ := h.1 _ _ _ h2
        rw [h3]
        simp only
        rw [chainP_skip h4]
        exact chainP_loc hF ha hb
    | none =>
      rw [tk1 hp (by simp) (by simpa using ha) h1]
      simp only
      cases h1' : tk [b] l with
      | some r =>
        rw [tk_some_app (by simp) h1']
        simp only
        have h := hF r
        cases h2 : F r with
        | none => exact ⟨fun _ _ _ e => (by cases e), fun b _ => by rw [h.2 b h2]⟩
        | some x =>
          obtain ⟨c1, m1, r1⟩ := x
          obtain ⟨r2, h3, h4⟩ := h.1 _ _ _ h2
          rw [h3]
          simp only
          rw [chainP_skip h4]
          exact chainP_loc hF ha hb
      | none =>
        rw [tk1 hp (by simp) (by simpa using hb) h1']
        refine ⟨fun c m r e => ?_, fun _ e => by cases e⟩
        simp only [Option.some.injEq, Prod.mk.injEq] at e
        obtain ⟨rfl, rfl, rfl⟩ := e
        exact ⟨_, rfl, by rw [skip_skip]; exact skip_app_congr (skip_skip l).symm⟩
theorem seqP_loc {F : List Int → Res} (hF : LocF B post F) {a b : Int} (ha : a ≠ 32 ∧ a ≠ 41 ∧ a ≠ 44) (hb : b ≠ 32 ∧ b ≠ 41 ∧ b ≠ 44) {ga gb : Option Nat → Option Nat → Option Nat} : LocF B post (seqP F a b ga gb) := fun l => by
  unfold seqP
  have h := hF l
  cases h2 : F l with
  | none => exact ⟨fun _ _ _ e => (by cases e), fun b _ => by rw [h.2 b h2]⟩
  | some x =>
    obtain ⟨c1, m1, r1⟩ := x
    obtain ⟨r2, h3, h4⟩ := h.1 _ _ _ h2
    rw [h3]
    simp only
    rw [chainP_skip h4]
    exact chainP_loc hp hF ha hb
theorem exprP_loc {F : List Int → Res} (hF : LocF B post F) : LocF B post (exprP F) := seqP_loc hp (seqP_loc hp hF (by decide) (by decide)) (by decide) (by decide)
theorem factN_loc : ∀ n, LocF B post (factN n)
  | 0 => fun _ => ⟨fun _ _ _ e => (by cases e), fun _ _ => rfl⟩
  | n + 1 => factorP_loc hp (exprP_loc hp (factN_loc n)) (exprP_skip fun _ _ => factN_skip) (factN_loc n)
/-- What stands behind changes nothing. -/
theorem exprN_loc (n : Nat) : LocF B post (exprN n) := exprP_loc hp (factN_loc hp n)
end
theorem exprN_skip {n : Nat} {l l' : List Int} (h : skip l = skip l') : exprN n l = exprN n l' := exprP_skip (fun _ _ => factN_skip) l l' h
end Go.Vc
