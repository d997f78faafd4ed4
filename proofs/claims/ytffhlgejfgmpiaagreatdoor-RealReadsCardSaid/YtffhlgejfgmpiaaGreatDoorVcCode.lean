/-
  The verification conditions suffice: regions, tests, loops, a whole function.
-/
import Derived.Test.YtffhlgejfgmpiaaGreatDoorVcDraw
import Derived.RangeFuncRecord
import Derived.Deep.LoopGhost
namespace Go.Vc
open Go.RowKit

/-- The frame holds what is known. -/
structure Fits (a : Act) (σ : Env) : Prop where
  size : a.tmps.size = σ.length
  slot : ∀ t s, get σ t = some s → a.tmps.getD t undef = s.val
/-- Only these slots have been written; the deferred calls are as they were. -/
structure Kept (ts : List Tmp) (nd : Bool) (a a' : Act) : Prop where
  slots : ∀ t, t ∉ ts → a'.tmps.getD t undef = a.tmps.getD t undef
  size : a'.tmps.size = a.tmps.size
  defers : nd = true → a'.defers = a.defers
theorem Kept.refl (ts : List Tmp) (nd : Bool) (a : Act) : Kept ts nd a a := ⟨fun _ _ => rfl, rfl, fun _ => rfl⟩
theorem Kept.trans {ts : List Tmp} {nd : Bool} {a b c : Act} (h : Kept ts nd a b) (k : Kept ts nd b c) : Kept ts nd a c :=
  ⟨fun t ht => (k.slots t ht).trans (h.slots t ht), k.size.trans h.size, fun e => (k.defers e).trans (h.defers e)⟩
theorem Kept.mono {ts us : List Tmp} {nd me : Bool} {a b : Act} (h : Kept ts nd a b) (hs : ∀ t, t ∈ ts → t ∈ us) (hn : me = true → nd = true) : Kept us me a b :=
  ⟨fun t ht => h.slots t fun k => ht (hs t k), h.size, fun e => h.defers (hn e)⟩

theorem length_put : ∀ (σ : Env) (t : Nat) (s : SV), (put σ t s).length = σ.length
  | [], _, _ => rfl
  | _ :: _, 0, _ => rfl
  | _ :: r, t + 1, s => by simp [put, length_put r t s]
theorem get_put : ∀ (σ : Env) (t u : Nat) (s : SV), get (put σ t s) u = if u = t ∧ t < σ.length then some s else get σ u
  | [], t, u, s => by simp [put, get]
  | x :: r, 0, 0, s => by simp [put, get]
  | x :: r, 0, u + 1, s => by simp [put, get]
  | x :: r, t + 1, 0, s => by simp [put, get]
  | x :: r, t + 1, u + 1, s => by simp [put, get, get_put r t u s]
theorem get_lt : ∀ {σ : Env} {t : Nat} {s : SV}, get σ t = some s → t < σ.length
  | [], _, _, h => by simp [get] at h
  | _ :: _, 0, _, _ => by simp
  | _ :: r, t + 1, s, h => by have := get_lt (σ := r) (t := t) h; simp; omega
theorem length_forget : ∀ (σ : Env) (t : Nat), (forget σ t).length = σ.length
  | [], _ => rfl
  | _ :: _, 0 => rfl
  | _ :: r, t + 1 => by simp [forget, length_forget r t]
theorem get_forget : ∀ (σ : Env) (t u : Nat) (s : SV), get (forget σ t) u = some s → u ≠ t ∧ get σ u = some s
  | [], t, u, s, h => by simp [forget, get] at h
  | x :: r, 0, 0, s, h => by simp [forget, get] at h
  | x :: r, 0, u + 1, s, h => by simpa [forget, get] using h
  | x :: r, t + 1, 0, s, h => by simpa [forget, get] using h
  | x :: r, t + 1, u + 1, s, h => by
    have := get_forget r t u s (by simpa [forget, get] using h)
    exact ⟨by omega, by simpa [get] using this.2⟩
theorem length_forgetAll : ∀ (ts : List Nat) (σ : Env), (forgetAll σ ts).length = σ.length
  | [], _ => rfl
  | t :: r, σ => by simp [forgetAll, length_forgetAll r, length_forget]
theorem get_forgetAll : ∀ (ts : List Nat) (σ : Env) (u : Nat) (s : SV), get (forgetAll σ ts) u = some s → u ∉ ts ∧ get σ u = some s
  | [], _, _, _, h => ⟨by simp, h⟩
  | t :: r, σ, u, s, h => by
    obtain ⟨h1, h2⟩ := get_forgetAll r _ u s h
    obtain ⟨h3, h4⟩ := get_forget σ t u s h2
    exact ⟨by simp [h1, h3], h4⟩

theorem ev_fits {a : Act} {σ : Env} (h : Fits a σ) : ∀ x s, ev σ x = some s → a.eval x = s.val := by
  intro x s hx
  cases x with
  | tmp t => exact h.slot t s hx
  | const y => simp only [ev, Option.some.injEq] at hx; subst hx; exact (svC_val y).symm
  | global g => simp only [ev, Option.some.injEq] at hx; subst hx; rfl
  | func f => simp only [ev, Option.some.injEq] at hx; subst hx; rfl
theorem put_size (a : Act) (d : Option Tmp) (x : Value) : (a.put d x).tmps.size = a.tmps.size := by cases d <;> simp [Act.put]
theorem fits_putO {a : Act} {σ : Env} (h : Fits a σ) (d : Option Tmp) (s : SV) : Fits (a.put d s.val) (putO σ d s) := by
  cases d with
  | none => exact h
  | some d =>
    refine ⟨by simp [Act.put, putO, length_put, h.size], fun t s' hs => ?_⟩
    simp only [putO, get_put] at hs
    by_cases e : t = d ∧ d < σ.length
    · rw [if_pos e] at hs
      obtain ⟨rfl, hl⟩ := e
      simp only [Option.some.injEq] at hs
      subst hs
      simp [Act.put, Array.getD_eq_getD_getElem?, h.size, hl]
    · rw [if_neg e] at hs
      have := h.slot t s' hs
      have hl := get_lt hs
      have hne : ¬ d = t := fun k => e ⟨k.symm, by rw [k]; exact hl⟩
      rw [← this]
      simp only [Act.put, Array.getD_eq_getD_getElem?, Array.getElem?_setIfInBounds, if_neg hne]
theorem fits_same {a : Act} {σ : Env} (h : Fits a σ) (t : Nat) (s : SV) (hs : a.tmps.getD t undef = s.val) : Fits a (put σ t s) := by
  refine ⟨by rw [length_put, h.size], fun u s' hu => ?_⟩
  rw [get_put] at hu
  split at hu
  · rename_i e
    obtain ⟨rfl, _⟩ := e
    simp only [Option.some.injEq] at hu
    subst hu
    exact hs
  · exact h.slot u s' hu
theorem kept_put {a : Act} {d : Option Tmp} {x : Value} {ts : List Tmp} {nd : Bool} (h : ∀ t, d = some t → t ∈ ts) : Kept ts nd a (a.put d x) := by
  refine ⟨fun t ht => ?_, put_size .., fun _ => by cases d <;> rfl⟩
  cases d with
  | none => rfl
  | some d =>
    have hne : ¬ d = t := fun k => ht (k ▸ h d rfl)
    simp only [Act.put, Array.getD_eq_getD_getElem?, Array.getElem?_setIfInBounds, if_neg hne]
theorem fits_kept {a a' : Act} {σ : Env} {ts : List Tmp} {nd : Bool} (h : Fits a σ) (k : Kept ts nd a a') : Fits a' (forgetAll σ ts) :=
  ⟨by rw [length_forgetAll, k.size, h.size], fun t s ht => by
    obtain ⟨h1, h2⟩ := get_forgetAll ts σ t s ht
    rw [k.slots t h1]; exact h.slot t s h2⟩
inductive All2 {α β : Type} (R : α → β → Prop) : List α → List β → Prop
  | nil : All2 R [] []
  | cons {a : α} {b : β} {l : List α} {m : List β} (h : R a b) (r : All2 R l m) : All2 R (a :: l) (b :: m)
theorem getL_vals {a : Act} {σ : Env} (h : Fits a σ) : ∀ {sl : List (Tmp × Kd)} {ss : List SV}, getL σ sl = some ss → All2 (fun (p : Tmp × Kd) s => a.tmps.getD p.1 undef = s.val) sl ss
  | [], ss, e => by simp [getL] at e; subst e; exact .nil
  | (t, k) :: r, ss, e => by
    simp only [getL] at e
    split at e
    · rename_i s ss' h1 h2
      simp only [Option.some.injEq] at e
      subst e
      exact .cons (h.slot t s h1) (getL_vals h h2)
    · cases e
theorem fits_putL {a : Act} : ∀ {sl : List (Tmp × Kd)} {ss : List SV} {σ : Env}, Fits a σ → All2 (fun (p : Tmp × Kd) s => a.tmps.getD p.1 undef = s.val) sl ss → Fits a (putL σ sl ss)
  | [], _, _, h, .nil => h
  | (t, k) :: r, s :: ss, σ, h, .cons h1 h2 => show Fits a (putL (put σ t s) r ss) from fits_putL (fits_same h t s h1) h2

/-- What holds of all values of these kinds holds of these. -/
theorem AllI_at : ∀ {ks : List Kd} {I : InvT ks} {ss : List SV} {n : Nat} {w : World} {F : List SV → (Nat → World → Prop) → Prop}, AllI ks I F → app ks I ss n w →
    ∃ ss' J, F ss' J ∧ J n w ∧ ∃ us, ss = us ++ (ss.drop ks.length) ∧ us.length = ks.length ∧ All2 (fun s s' => SV.val s = SV.val s') us ss'
  | [], I, ss, n, w, F, hF, hI => ⟨[], I, hF, hI, [], by simp, rfl, .nil⟩
  | k :: ks, I, [], n, w, F, hF, hI => by cases k <;> exact hI.elim
  | k :: ks, I, s :: ss, n, w, F, hF, hI => by
    have fin : ∀ {s' : SV} {I' : InvT ks} (F' : AllI ks I' fun ss J => F (s' :: ss) J) (hv : s.val = s'.val) (hI' : app ks I' ss n w),
        ∃ ss' J, F ss' J ∧ J n w ∧ ∃ us, s :: ss = us ++ ((s :: ss).drop (ks.length + 1)) ∧ us.length = ks.length + 1 ∧ All2 (fun s s' => SV.val s = SV.val s') us ss' := by
      intro s' I' F' hv hI'
      obtain ⟨ss', J, h1, h2, us, h3, h4, h5⟩ := AllI_at F' hI'
      exact ⟨s' :: ss', J, h1, h2, s :: us, by simp; exact h3, by simp [h4], .cons hv h5⟩
    cases k with
    | int k =>
      cases s with
      | lb b => exact hI.elim
      | pt b o => exact hI.elim
      | v x =>
        cases x <;> first | exact hI.elim | skip
        simp only [app] at hI
        split at hI
        · rename_i e; subst e; exact fin (hF _) rfl hI
        · exact hI.elim
    | bool =>
      cases s with
      | lb b => exact fin (hF b) rfl hI
      | pt b o => exact hI.elim
      | v x =>
        cases x <;> first | exact hI.elim | skip
        exact fin (hF _) rfl hI
    | str =>
      cases s with
      | lb b => exact hI.elim
      | pt b o => exact hI.elim
      | v x =>
        cases x <;> first | exact hI.elim | skip
        exact fin (hF _) rfl hI
    | ptr =>
      cases s with
      | lb b => exact hI.elim
      | pt b o => exact fin (hF _) rfl hI
      | v x =>
        cases x <;> first | exact hI.elim | skip
        exact fin (hF _) rfl hI
    | slice =>
      cases s with
      | lb b => exact hI.elim
      | pt b o => exact hI.elim
      | v x =>
        cases x <;> first | exact hI.elim | skip
        exact fin (hF _ _ _) rfl hI
    | flt k =>
      cases s with
      | lb b => exact hI.elim
      | pt b o => exact hI.elim
      | v x =>
        cases x <;> first | exact hI.elim | skip
        simp only [app] at hI
        split at hI
        · rename_i e; subst e; exact fin (hF _) rfl hI
        · exact hI.elim
    | fn =>
      cases s with
      | lb b => exact hI.elim
      | pt b o => exact hI.elim
      | v x =>
        cases x <;> first | exact hI.elim | skip
        exact fin (hF _ _ _) rfl hI
    | any =>
      cases s with
      | lb b => exact fin (hF _) rfl hI
      | pt b o => exact fin (hF _) rfl hI
      | v x => exact fin (hF _) rfl hI
theorem forall2_val : ∀ {sl : List (Tmp × Kd)} {us ss' : List SV} {a : Act}, All2 (fun (p : Tmp × Kd) s => a.tmps.getD p.1 undef = SV.val s) sl us →
    All2 (fun s s' => SV.val s = SV.val s') us ss' → All2 (fun (p : Tmp × Kd) s => a.tmps.getD p.1 undef = SV.val s) sl ss'
  | [], _, _, _, .nil, .nil => .nil
  | _ :: _, _, _, _, .cons h r, .cons k q => .cons (h.trans k) (forall2_val r q)
theorem forall2_len {α β : Type} {R : α → β → Prop} : ∀ {l : List α} {m : List β}, All2 R l m → l.length = m.length
  | _, _, .nil => rfl
  | _, _, .cons _ r => by simp [forall2_len r]
/-- At a loop's head (or behind a cut): the relation holds of the frame: so what holds of all values holds of it. -/
theorem appE_at {a : Act} {σ σ' : Env} {sl : List (Tmp × Kd)} {I : InvT (sl.map (·.2))} {n : Nat} {w : World} (hf : Fits a σ) (h : appE sl I σ n w) (hf' : Fits a σ')
    {F : List SV → (Nat → World → Prop) → Prop} (hF : AllI (sl.map (·.2)) I F) : ∃ ss J, F ss J ∧ J n w ∧ Fits a (putL σ' sl ss) := by
  obtain ⟨ss, hss, h⟩ := opt_some h
  have hv := getL_vals hf hss
  obtain ⟨ss', J, h1, h2, us, h3, h4, h5⟩ := AllI_at hF h
  have hl := forall2_len hv
  have hd : ss.drop (sl.map (·.2)).length = [] := List.drop_eq_nil_of_le (by simp [hl])
  rw [hd, List.append_nil] at h3
  subst h3
  exact ⟨ss', J, h1, h2, fits_putL hf' (forall2_val hv h5)⟩

section
variable {P : Program} {A : Ann}

theorem yielded_at {a : Act} {σ : Env} (hf : Fits a σ) {ops : Array Oper} {j d : Nat} (hj : (ops[j]?).bind (·.dst) = some d) {s : SV} (hs : get σ d = some s) :
    yielded ops a.tmps j = match s.val with | .bool b => some b | _ => none := by
  have hv := hf.slot d s hs
  have hl := get_lt hs
  rw [← hf.size] at hl
  unfold yielded
  rw [hj]
  simp only [Option.bind_some]
  rw [Array.getElem?_eq_getElem hl]
  have : a.tmps[d] = s.val := by rw [← hv]; simp [Array.getD, hl]
  rw [this]
  cases s.val <;> rfl
theorem guarded_elim {ops : Array Oper} {o : Oper} {a : Act} {σ : Env} {go skip : Env → Prop} (hf : Fits a σ) (h : guarded ops o σ go skip) :
    ∃ σ', Fits a σ' ∧ ((Region.wanted o (yielded ops a.tmps) = true ∧ go σ') ∨ (Region.wanted o (yielded ops a.tmps) = false ∧ skip σ')) := by
  unfold guarded at h
  unfold Region.wanted
  split at h
  · rename_i hg; rw [hg]; exact ⟨σ, hf, .inl ⟨rfl, h⟩⟩
  · rename_i j want hg
    rw [hg]
    split at h
    · exact h.elim
    · rename_i d hd
      split at h
      · rename_i b hb
        have hy := yielded_at hf hd hb
        simp only [SV.val] at hy
        simp only [hy]
        cases b <;> cases want <;> simp only at h <;> first
          | exact ⟨σ, hf, .inl ⟨rfl, h⟩⟩
          | exact ⟨σ, hf, .inr ⟨rfl, h⟩⟩
      · rename_i b hb
        have hy := yielded_at hf hd hb
        have hv := hf.slot d _ hb
        simp only [SV.val] at hy hv
        simp only [hy]
        cases want <;> simp only at h
        · refine Br_elim h (fun e k => ?_) (fun e k => ?_)
          · subst e; exact ⟨_, fits_same hf d (.lb true) hv, .inr ⟨rfl, k⟩⟩
          · subst e; exact ⟨_, fits_same hf d (.lb false) hv, .inl ⟨rfl, k⟩⟩
        · refine Br_elim h (fun e k => ?_) (fun e k => ?_)
          · subst e; exact ⟨_, fits_same hf d (.lb true) hv, .inl ⟨rfl, k⟩⟩
          · subst e; exact ⟨_, fits_same hf d (.lb false) hv, .inr ⟨rfl, k⟩⟩
      · rename_i ts hb
        have hy := yielded_at hf hd hb
        simp only [SV.val] at hy
        simp only [hy]
        exact ⟨σ, hf, .inr ⟨by cases want <;> rfl, h⟩⟩
      · exact h.elim

theorem fits_defers {a : Act} {σ : Env} (h : Fits a σ) (ds : List Deferred) : Fits { a with defers := ds } σ := ⟨h.size, h.slot⟩
/-- What is shown of a piece of code: the frame that it leaves fits, and only its own slots are written. -/
def Post (ts : List Tmp) (nd : Bool) (a₀ : Act) (Q : Exit → Env → List Deferred → World → Prop) (e : Exit) (a : Act) (w : World) : Prop := (∃ σ, Fits a σ ∧ Q e σ a.defers w) ∧ Kept ts nd a₀ a

theorem wp_gives {ro : Option Nat} {o : Oper} {a : Act} {w : World} {s : SV} {next : Act → World → Prop} {Q : Exit → Act → World → Prop} (hd : ∀ c, o.op ≠ .defer c) (hg : Gives P a.eval o s) (h : next (a.put o.dst s.val) w) : o.wpIn (Fr ro) 0 P a w next Q := by
  refine ⟨fun _ _ => trivial, ?_⟩
  rw [Oper.semAt_eq _ _ _ hd, hg w]; exact h
/-- A region's operations, in their order. -/
def wpListR (ro : Option Nat) (P : Program) (ops : Array Oper) (Q : Exit → Act → World → Prop) : List Oper → Act → World → Prop
  | [], a, w => Q .normal a w
  | o :: rest, a, w => if Region.wanted o (yielded ops a.tmps) then o.wpIn (Fr ro) 0 P a w (wpListR ro P ops Q rest) Q else wpListR ro P ops Q rest (a.put o.dst undef) w
theorem wpListR_ops {ro : Option Nat} {ops : Array Oper} {Q : Exit → Act → World → Prop} (l : List Oper) : ∀ k, (∀ j : Nat, l[j]? = ops[k + j]?) → ∀ a w, wpListR ro P ops Q l a w → wpOpsIn (Fr ro) 0 P ops Q (List.range' k l.length) a w := by
  induction l with
  | nil => intro k _ a w h; simpa [wpOpsIn, wpListR] using h
  | cons o l ih =>
    intro k hk a w h
    have h0 : ops[k]? = some o := by simpa using (hk 0).symm
    have ih' := ih (k + 1) (fun j => by have := hk (j + 1); simpa [Nat.add_assoc, Nat.add_comm 1 j] using this)
    simp only [List.length_cons, List.range'_succ, wpOpsIn, h0]
    unfold wpListR at h
    split
    · rename_i hw
      rw [if_pos hw] at h
      exact Oper.wpIn_mono (fun a w => ih' a w) h
    · rename_i hw
      rw [if_neg hw] at h
      exact ⟨fun _ _ => trivial, ih' _ _ h⟩
theorem wp_region_listR {ro : Option Nat} {ops : Array Oper} {Q : Exit → Act → World → Prop} {a : Act} {w : World} {id : Nat} (h : wpListR ro P ops Q ops.toList a w) : (Code.region id ops false).wpIn (Fr ro) 0 P Q a w :=
  wpIn_region (by rw [List.range_eq_range', ← Array.length_toList]; exact wpListR_ops ops.toList 0 (by simp) _ _ h)
theorem pure_nodef {o : Oper} {v : Operand → Option SV} {K : SV → Prop} {p : Prop} (h : pureVc P A o v K = some p) : ∀ c, o.op ≠ .defer c := by
  intro c hc
  unfold pureVc at h
  rw [hc] at h
  cases h
theorem nodefOps_mem : ∀ {l : List Oper}, nodefOps l = true → ∀ o ∈ l, ∀ c, o.op ≠ Op.defer c
  | [], _, o, ho, _, _ => by simp at ho
  | x :: r, h, o, ho, c, hc => by
    simp only [nodefOps, Bool.and_eq_true, Bool.not_eq_true'] at h
    rcases List.mem_cons.1 ho with rfl | ho
    · have := h.1; unfold deferB at this; rw [hc] at this; cases this
    · exact nodefOps_mem h.2 o ho c hc
theorem vcOps_sound {ro : Option Nat} {ops : Array Oper} {Q : Exit → Env → List Deferred → World → Prop} {ts : List Tmp} {nd : Bool} {a₀ : Act} : ∀ (l : List Oper) (σ : Env) (w : World) (a : Act), (∀ o ∈ l, ∀ t, o.dst = some t → t ∈ ts) → (ro = none ∨ nodefOps l = true) → (nd = true → nodefOps l = true) →
    vcOps P A ops Q l σ a.defers w → Fits a σ → Kept ts nd a₀ a → wpListR ro P ops (Post ts nd a₀ Q) l a w
  | [], σ, w, a, _, _, _, h, hf, hk => ⟨⟨σ, hf, h⟩, hk⟩
  | o :: rest, σ, w, a, hts, hro, hnd, h, hf, hk => by
    have hd : ∀ t, o.dst = some t → t ∈ ts := hts o (by simp)
    have hr : ∀ o' ∈ rest, ∀ t, o'.dst = some t → t ∈ ts := fun o' ho => hts o' (by simp [ho])
    have hro' : ro = none ∨ nodefOps rest = true := hro.imp id fun k => by simp only [nodefOps, Bool.and_eq_true] at k; exact k.2
    have hnd' : nd = true → nodefOps rest = true := fun e => by have k := hnd e; simp only [nodefOps, Bool.and_eq_true] at k; exact k.2
    have pd : ∀ (d : Option Tmp) (x : Value), (a.put d x).defers = a.defers := fun d x => by cases d <;> rfl
    unfold vcOps at h
    obtain ⟨σ', hf', h⟩ := guarded_elim hf h
    unfold wpListR
    rcases h with ⟨hw, h⟩ | ⟨hw, h⟩
    · rw [if_pos hw]
      split at h
      · rename_i c hc -- defer
        have hdb : deferB o = true := by unfold deferB; rw [hc]
        have hro : ro = none := by
          rcases hro with e | e
          · exact e
          · simp [nodefOps, hdb] at e
        have hnf : nd ≠ true := fun e => by have k := hnd e; simp [nodefOps, hdb] at k
        subst hro
        unfold deferVc at h
        split at h
        · rename_i f args ats
          obtain ⟨sf, hsf, h0⟩ := opt_some h
          clear h
          obtain ⟨ss, hss, h⟩ := optL_some h0
          clear h0
          split at h
          · rename_i fn first caps
            have e1 : args.map a.eval = (ss.map SV.val).toArray := by apply Array.ext'; simp [map_of_some (ev_fits hf') hss]
            refine ⟨fun _ _ => trivial, ?_⟩
            have hrun : (execOp a.eval o).run P w = .ok (.defer { target := .fn fn caps, args := first ++ (ss.map SV.val).toArray }) w := by
              rw [← e1]
              unfold execOp
              simp only [hc, resolve, ev_fits hf' _ _ hsf, SV.val, Deferred.ofValue, Sem.run_bind, Sem.run_pure, Result.andThen_ok]
            show Oper.uponIn _ _ _ _ _ _ _ ((execOp a.eval o).run P w)
            rw [hrun]
            have hf2 := fits_putO (fits_defers hf' ({ target := .fn fn caps, args := first ++ (ss.map SV.val).toArray } :: a.defers)) o.dst (.v undef)
            have pd2 : ∀ ds : List Deferred, (({ a with defers := ds } : Act).put o.dst undef).defers = ds := fun ds => by cases o.dst <;> rfl
            refine vcOps_sound rest _ _ _ hr (.inl rfl) hnd' (by rw [pd2]; exact h) hf2 (hk.trans ?_)
            have := kept_put (a := { a with defers := { target := .fn fn caps, args := first ++ (ss.map SV.val).toArray } :: a.defers }) (x := undef) (nd := nd) hd
            exact ⟨this.slots, this.size, fun e => absurd e hnf⟩
          · exact h.elim
        · exact h.elim
      · split at h
        · rename_i p hp
          obtain ⟨s, hs, hg⟩ := pure_sound (ρ := a.eval) (ev_fits hf') hp h
          exact wp_gives (pure_nodef hp) hg (vcOps_sound rest _ _ _ hr hro' hnd' (by rw [pd]; exact hs) (fits_putO hf' _ _) (hk.trans (kept_put hd)))
        · exact mem_sound (ev_fits hf') h (fun s w' hs => vcOps_sound rest _ _ _ hr hro' hnd' (by rw [pd]; exact hs) (fits_putO hf' _ _) (hk.trans (kept_put hd))) (fun ch w' hq => ⟨⟨σ', hf', hq⟩, hk⟩)
    · rw [if_neg (by simp [hw])]
      exact vcOps_sound rest _ _ _ hr hro' hnd' (by rw [pd]; exact h) (fits_putO hf' _ (.v undef)) (hk.trans (kept_put hd))

theorem loadQ_elim {C : World → Prop} {b : Nat} : ∀ {ks : List Kd} {o : Nat} {F : List Value → Prop}, loadQ C b o ks F →
    ∃ vs, vs.length = ks.length ∧ (∀ w, C w → ∀ j u, vs[j]? = some u → w.cell? ⟨b, o + j, none⟩ = some u) ∧ F vs
  | [], o, F, h => ⟨[], rfl, by simp, h⟩
  | k :: ks, o, F, h => by
    obtain ⟨s, hc, h⟩ := Ex_elim h
    obtain ⟨vs, hl, hv, h⟩ := loadQ_elim h
    refine ⟨s.val :: vs, by simp [hl], fun w hw j u hj => ?_, h⟩
    cases j with
    | zero => simp at hj; subst hj; exact hc w hw
    | succ j => simp at hj; have := hv w hw j u hj; rwa [show o + 1 + j = o + (j + 1) by omega] at this
theorem load_quiet {o : Oper} {v : Operand → Option SV} {C : World → Prop} {K : SV → Prop} {a : Act} (hv : ∀ x s, v x = some s → a.eval x = s.val) (h : quietVc P o v C K) :
    ∃ s, K s ∧ ∀ w, C w → (execOp a.eval o).run P w = .ok (.value s.val) w := by
  have fin : ∀ {s : SV} (S : Sem Value) (_ : execOp a.eval o = (do pure (.value (← S)))) (_ : ∀ w, C w → S.run P w = .ok s.val w), ∀ w, C w → (execOp a.eval o).run P w = .ok (.value s.val) w := by
    intro s S he h w hw
    rw [he]; simp only [Sem.run_bind, h w hw, Result.andThen_ok, Sem.run_pure]
  unfold quietVc at h
  split at h
  · rename_i T x hop
    obtain ⟨sx, hx, h⟩ := opt_some h
    split at h
    · rename_i ht
      obtain ⟨k, hk, h⟩ := opt_some h
      obtain ⟨b, o', hb, h⟩ := addrVc_elim h
      obtain ⟨s, hc, h⟩ := Ex_elim h
      exact ⟨s, h, fin (Instr.loadAt T (a.eval x)) (by unfold execOp; simp [hop]) fun w hw => by rw [hv _ _ hx, hb]; exact load_one ht (hc w hw)⟩
    · rename_i ht
      obtain ⟨ks, hk, h⟩ := opt_some h
      obtain ⟨sz, hsz, h⟩ := opt_some h
      split at h
      · rename_i hl
        have hl := of_decide_eq_true hl
        obtain ⟨b, o', hb, h⟩ := addrVc_elim h
        obtain ⟨vs, h1, h2, h3⟩ := loadQ_elim h
        exact ⟨_, h3, fin (s := .v (.agg vs.toArray)) (Instr.loadAt T (a.eval x)) (by unfold execOp; simp [hop]) fun w hw => by rw [hv _ _ hx, hb]; exact load_agg ht hsz (by omega) (h2 w hw)⟩
      · exact h.elim
    · exact h.elim
  · exact h.elim
theorem load_mem {o : Oper} (ho : loadB o = true) {v : Operand → Option SV} {K : SV → World → Prop} {Qp : List PanicEntry → World → Prop} {w : World} {a : Act}
    (hv : ∀ x s, v x = some s → a.eval x = s.val) (h : memVc P A o v K Qp w) : ∃ s, K s w ∧ (execOp a.eval o).run P w = .ok (.value s.val) w := by
  unfold loadB at ho
  split at ho
  · rename_i T x hop
    have fin : ∀ {s : SV} (S : Sem Value) (_ : execOp a.eval o = (do pure (.value (← S)))) (_ : S.run P w = .ok s.val w), (execOp a.eval o).run P w = .ok (.value s.val) w := by
      intro s S he h
      rw [he]; simp only [Sem.run_bind, h, Result.andThen_ok, Sem.run_pure]
    unfold memVc at h
    rw [hop] at h
    simp only at h
    obtain ⟨sx, hx, h⟩ := opt_some h
    split at h
    · rename_i ht
      obtain ⟨k, hk, h⟩ := opt_some h
      obtain ⟨b, o', hb, h⟩ := addrVc_elim h
      obtain ⟨s, hc, h⟩ := Ex_elim h
      exact ⟨s, h, fin (Instr.loadAt T (a.eval x)) (by unfold execOp; simp [hop]) (by rw [hv _ _ hx, hb]; exact load_one ht hc)⟩
    · rename_i ht
      obtain ⟨ks, hk, h⟩ := opt_some h
      obtain ⟨sz, hsz, h⟩ := opt_some h
      split at h
      · rename_i hl
        have hl := of_decide_eq_true hl
        obtain ⟨b, o', hb, h⟩ := addrVc_elim h
        split at h
        · obtain ⟨vs, h1, h2, h3⟩ := loadL_elim h
          exact ⟨_, h3, fin (s := .v (.agg vs.toArray)) (Instr.loadAt T (a.eval x)) (by unfold execOp; simp [hop]) (by rw [hv _ _ hx, hb]; exact load_agg ht hsz (by omega) h2)⟩
        · obtain ⟨vs, h1, h2, h3⟩ := h
          exact ⟨_, h3, fin (s := .v (.agg vs.toArray)) (Instr.loadAt T (a.eval x)) (by unfold execOp; simp [hop]) (by rw [hv _ _ hx, hb]; exact load_agg ht hsz h1 h2)⟩
      · exact h.elim
    · exact h.elim
  · cases ho
theorem allFrom_at {f : Oper → Nat → Bool} : ∀ {l : List Oper} {k : Nat}, allFrom f l k = true → ∀ j o, l[j]? = some o → f o (k + j) = true
  | [], _, _, j, o, hj => by simp at hj
  | x :: r, k, h, 0, o, hj => by
    simp only [List.getElem?_cons_zero, Option.some.injEq] at hj
    subst hj
    simp only [allFrom, Bool.and_eq_true] at h
    exact h.1
  | x :: r, k, h, j + 1, o, hj => by
    simp only [List.getElem?_cons_succ] at hj
    simp only [allFrom, Bool.and_eq_true] at h
    have := allFrom_at h.2 j o hj
    rwa [show k + 1 + j = k + (j + 1) by omega] at this
theorem okM_at {M : List Nat} : ∀ {l : List Oper} {k : Nat}, okM M l k = true → ∀ j o, l[j]? = some o → M.getD (k + j) 0 = edgesMask M o.after.toList
  | [], _, _, j, o, hj => by simp at hj
  | x :: r, k, h, 0, o, hj => by
    simp only [List.getElem?_cons_zero, Option.some.injEq] at hj
    subst hj
    simp only [okM, Bool.and_eq_true, beq_iff_eq] at h
    exact h.1
  | x :: r, k, h, j + 1, o, hj => by
    simp only [List.getElem?_cons_succ] at hj
    simp only [okM, Bool.and_eq_true] at h
    have := okM_at h.2 j o hj
    rwa [show k + 1 + j = k + (j + 1) by omega] at this
theorem edgesMask_bit {M : List Nat} {i : Nat} : ∀ {l : List Edge}, (edgesMask M l).testBit i = true → ∃ d ∈ l, Region.binds .any d = true ∧ (d.on = i ∨ befM M i d.on = true)
  | [], h => by simp [edgesMask] at h
  | d :: r, h => by
    unfold edgesMask at h
    have tail : (edgesMask M r).testBit i = true → ∃ d' ∈ d :: r, Region.binds .any d' = true ∧ (d'.on = i ∨ befM M i d'.on = true) := fun h => by
      obtain ⟨d', h1, h2⟩ := edgesMask_bit h
      exact ⟨d', List.mem_cons_of_mem _ h1, h2⟩
    split at h
    · rename_i hb
      rw [Nat.testBit_or, Nat.testBit_or, Bool.or_eq_true, Bool.or_eq_true] at h
      rcases h with (h | h) | h
      · refine ⟨d, List.mem_cons_self, hb, .inl ?_⟩
        rw [Nat.testBit_two_pow] at h
        simpa using h
      · exact ⟨d, List.mem_cons_self, hb, .inr h⟩
      · exact tail h
    · exact tail h
def planOf (P : Program) (ops : Array Oper) (M : List Nat) (S : World → Prop) (w0 : World) : Plan where
  eff := fun i => match ops[i]? with
    | some o => effB P o
    | none => false
  cls := fun i w => match ops[i]? with
    | some o => if loadB o = true then (if earlyM P M ops.toList i = true then w = w0 else S w) else True
    | none => True
  bef := befM M
theorem plan_ok {ops : Array Oper} {M : List Nat} (h1 : okM M ops.toList 0 = true) (h2 : chainM P M ops.toList = true) (S : World → Prop) (w0 : World) : (planOf P ops M S w0).Ok .any ops := by
  refine ⟨⟨fun e o ho i hb => ?_⟩, fun i j hi hj hne hil hjl => ?_⟩
  · have := okM_at h1 e o (by simpa using ho)
    simp only [Nat.zero_add] at this
    have hb' : (M.getD e 0).testBit i = true := hb
    rw [this] at hb'
    obtain ⟨d, hd, h⟩ := edgesMask_bit hb'
    exact ⟨d, by simpa using hd, h⟩
  · have e1 : ops[i]? = some ops[i] := Array.getElem?_eq_getElem hil
    have e2 : ops[j]? = some ops[j] := Array.getElem?_eq_getElem hjl
    have hi' : effB P ops[i] = true := by simpa [planOf, e1] using hi
    have hj' : effB P ops[j] = true := by simpa [planOf, e2] using hj
    have := allFrom_at h2 i ops[i] (by simp [e1])
    simp only [hi', Bool.not_true, Bool.false_or, Nat.zero_add] at this
    have := allFrom_at this j ops[j] (by simp [e2])
    simp only [hj', Bool.not_true, Bool.false_or, Nat.zero_add, Bool.or_eq_true, beq_iff_eq] at this
    rcases this with (h | h) | h
    · exact absurd h hne
    · exact .inl h
    · exact .inr h
theorem vcP_sound {ops : Array Oper} {M : List Nat} {S : World → Prop} {w0 : World} {F : Env → World → Prop} {ts : List Tmp} {a₀ : Act} : ∀ (l : List Oper) (k : Nat) (σ : Env) (a : Act) (w : World),
    (∀ j, l[j]? = ops[k + j]?) → (∀ o ∈ l, ∀ t, o.dst = some t → t ∈ ts) →
    vcP P A ops M S w0 F l k σ w → Fits a σ → Kept ts true a₀ a → lexP P ops (planOf P ops M S w0) NoZ (fun a' w' => (∃ σ', Fits a' σ' ∧ F σ' w') ∧ Kept ts true a₀ a') l k a w
  | [], k, σ, a, w, _, _, h, hf, hk => ⟨⟨σ, hf, h⟩, hk⟩
  | o :: rest, k, σ, a, w, hl, hts, h, hf, hk => by
    have hd : ∀ t, o.dst = some t → t ∈ ts := hts o (by simp)
    have hr : ∀ o' ∈ rest, ∀ t, o'.dst = some t → t ∈ ts := fun o' ho => hts o' (by simp [ho])
    have h0 : ops[k]? = some o := by simpa using (hl 0).symm
    have hl' : ∀ j, rest[j]? = ops[k + 1 + j]? := fun j => by have := hl (j + 1); simpa [Nat.add_assoc, Nat.add_comm 1 j] using this
    unfold vcP at h
    obtain ⟨σ', hf', h⟩ := guarded_elim hf h
    unfold lexP opP
    simp only [h0]
    rcases h with ⟨hw, h⟩ | ⟨hw, h⟩
    · rw [if_pos hw]
      cases hE : effB P o with
      | true =>
        simp only [hE] at h
        rw [if_pos (by simp [planOf, h0, hE])]
        refine (mem_eff (ev_fits hf') h).mono fun x w' ⟨s, hx, hq⟩ => ?_
        subst hx
        have both : (needM P M ops.toList k = true → S w') ∧ vcP P A ops M S w0 F rest (k + 1) (putO σ' o.dst s) w' := by
          split at hq
          · exact ⟨fun _ => hq.1, hq.2⟩
          · rename_i hn; exact ⟨fun h => (by rw [hn] at h; cases h), hq⟩
        refine ⟨fun j hj hb => ?_, vcP_sound rest (k + 1) _ _ _ hl' hr both.2 (fits_putO hf' _ _) (hk.trans (kept_put hd))⟩
        simp only [planOf] at hj hb ⊢
        cases hoj : ops[j]? with
        | none => trivial
        | some oj =>
          simp only
          split
          · rename_i hlo
            split
            · rename_i he
              have := allFrom_at he k o (by simpa using h0)
              simp only [hE, Bool.not_true, Bool.false_or, Nat.zero_add] at this
              rw [this] at hb; cases hb
            · rename_i he
              refine both.1 ?_
              unfold needM
              rw [Bool.not_eq_true']
              cases hall : allFrom (fun o i => !loadB o || earlyM P M ops.toList i || befM M i k) ops.toList 0 with
              | false => rfl
              | true =>
                have := allFrom_at hall j oj (by simpa using hoj)
                simp only [hlo, Bool.not_true, Bool.false_or, Nat.zero_add, Bool.or_eq_true] at this
                rcases this with h | h
                · exact absurd h he
                · rw [h] at hb; cases hb
          · trivial
      | false =>
        simp only [hE] at h
        rw [if_neg (by simp [planOf, h0, hE])]
        cases hlo : loadB o with
        | true =>
          simp only [hlo] at h
          cases hea : earlyM P M ops.toList k with
          | true =>
            simp only [hea] at h
            obtain ⟨s, hs, hrun⟩ := load_mem hlo (ev_fits hf') h
            refine ⟨s.val, fun w1 hw1 => ?_, vcP_sound rest (k + 1) _ _ _ hl' hr hs (fits_putO hf' _ _) (hk.trans (kept_put hd))⟩
            simp only [planOf, h0, hlo, hea, if_true] at hw1
            rw [hw1]; exact hrun
          | false =>
            simp only [hea] at h
            obtain ⟨s, hs, hrun⟩ := load_quiet (ev_fits hf') h
            refine ⟨s.val, fun w1 hw1 => ?_, vcP_sound rest (k + 1) _ _ _ hl' hr hs (fits_putO hf' _ _) (hk.trans (kept_put hd))⟩
            simp only [planOf, h0, hlo, hea, if_true, Bool.false_eq_true, if_false] at hw1
            exact hrun w1 hw1
        | false =>
          simp only [hlo] at h
          split at h
          · rename_i p hp
            obtain ⟨s, hs, hg⟩ := pure_sound (ρ := a.eval) (ev_fits hf') hp h
            exact ⟨s.val, fun w1 _ => hg w1, vcP_sound rest (k + 1) _ _ _ hl' hr hs (fits_putO hf' _ _) (hk.trans (kept_put hd))⟩
          · exact h.elim
    · rw [if_neg (by simp [hw])]
      exact vcP_sound rest (k + 1) _ _ _ hl' hr h (fits_putO hf' _ (.v undef)) (hk.trans (kept_put hd))

/-- The plan of a tree: loads answer in every world of S. -/
def planT (P : Program) (ops : Array Oper) (M : List Nat) (S : World → Prop) : Plan where
  eff := fun i => match ops[i]? with
    | some o => effB P o
    | none => false
  cls := fun i w => match ops[i]? with
    | some o => if loadB o = true then S w else True
    | none => True
  bef := befM M
theorem planT_edges {ops : Array Oper} {M : List Nat} (h1 : okM M ops.toList 0 = true) (S : World → Prop) : (planT P ops M S).Edges .any ops := by
  refine ⟨fun e o ho i hb => ?_⟩
  have := okM_at h1 e o (by simpa using ho)
  simp only [Nat.zero_add] at this
  have hb' : (M.getD e 0).testBit i = true := hb
  rw [this] at hb'
  obtain ⟨d, hd, h⟩ := edgesMask_bit hb'
  exact ⟨d, by simpa using hd, h⟩
theorem firstQ_spec {ops : Array Oper} : ∀ {l : List Nat} {k : Nat}, firstQ P ops l = some k → k ∈ l ∧ ∃ o, ops[k]? = some o ∧ effB P o = false
  | [], k, h => by cases h
  | x :: r, k, h => by
    unfold firstQ at h
    split at h
    · rename_i hx
      injection h with h
      subst h
      refine ⟨List.mem_cons_self, ?_⟩
      cases ho : ops[x]? with
      | none => rw [ho] at hx; cases hx
      | some o => rw [ho] at hx; injection hx with hx; exact ⟨o, rfl, hx⟩
    · obtain ⟨h1, h2⟩ := firstQ_spec h
      exact ⟨List.mem_cons_of_mem _ h1, h2⟩
theorem allT_mem {f : Nat → Prop} : ∀ {l : List Nat}, allT f l → ∀ k ∈ l, f k
  | [], _, k, hk => by cases hk
  | [x], h, k, hk => by rw [List.mem_singleton.1 hk]; exact h
  | x :: y :: r, h, k, hk => by
    rcases List.mem_cons.1 hk with rfl | hk
    · exact h.1
    · exact allT_mem h.2 k hk
theorem opT_sound {ops : Array Oper} {M : List Nat} {S : World → Prop} {Z : List PanicEntry → World → Prop} {ts : List Tmp} {a₀ : Act} {k : Nat} {K : Env → World → Prop} {K' : Act → World → Prop} {σ : Env} {a : Act} {w : World} (hts : ∀ o ∈ ops.toList, ∀ t, o.dst = some t → t ∈ ts)
    (hK : ∀ σ' a' w', K σ' w' → Fits a' σ' → Kept ts true a₀ a' → K' a' w') (h : opT P A ops M S Z k K σ w) (hf : Fits a σ) (hk : Kept ts true a₀ a) : opP P ops (planT P ops M S) Z k K' a w := by
  unfold opT at h
  unfold opP
  cases ho : ops[k]? with
  | none => simp only [ho] at h
  | some o =>
    simp only [ho] at h ⊢
    have hd : ∀ t, o.dst = some t → t ∈ ts := hts o (by have := Array.mem_of_getElem? ho; simpa using this)
    obtain ⟨σ', hf', h⟩ := guarded_elim hf h
    rcases h with ⟨hw, h⟩ | ⟨hw, h⟩
    · rw [if_pos hw]
      cases hE : effB P o with
      | true =>
        simp only [hE] at h
        rw [if_pos (by simp [planT, ho, hE])]
        refine (mem_eff (ev_fits hf') h).mono fun x w' ⟨s, hx, hq⟩ => ?_
        subst hx
        have both : (needT M ops.toList k = true → S w') ∧ K (putO σ' o.dst s) w' := by
          split at hq
          · exact ⟨fun _ => hq.1, hq.2⟩
          · rename_i hn; exact ⟨fun h => (by rw [hn] at h; cases h), hq⟩
        refine ⟨fun j _ hb => ?_, hK _ _ _ both.2 (fits_putO hf' _ _) (hk.trans (kept_put hd))⟩
        simp only [planT] at hb ⊢
        split
        · rename_i oj hoj
          split
          · rename_i hlo
            refine both.1 ?_
            unfold needT
            rw [Bool.not_eq_true']
            cases hall : allFrom (fun o i => !loadB o || befM M i k) ops.toList 0 with
            | false => rfl
            | true =>
              have := allFrom_at hall j oj (by simpa using hoj)
              simp only [hlo, Bool.not_true, Bool.false_or, Nat.zero_add] at this
              rw [this] at hb; cases hb
          · trivial
        · trivial
      | false =>
        simp only [hE] at h
        rw [if_neg (by simp [planT, ho, hE])]
        cases hlo : loadB o with
        | true =>
          simp only [hlo] at h
          obtain ⟨s, hs, hrun⟩ := load_quiet (ev_fits hf') h
          refine ⟨s.val, fun w1 hw1 => ?_, hK _ _ _ hs (fits_putO hf' _ _) (hk.trans (kept_put hd))⟩
          simp only [planT, ho, hlo, if_true] at hw1
          exact hrun w1 hw1
        | false =>
          simp only [hlo] at h
          split at h
          · rename_i p hp
            obtain ⟨s, hs, hg⟩ := pure_sound (ρ := a.eval) (ev_fits hf') hp h
            exact ⟨s.val, fun w1 _ => hg w1, hK _ _ _ hs (fits_putO hf' _ _) (hk.trans (kept_put hd))⟩
          · exact h.elim
    · rw [if_neg (by simp [hw])]
      exact hK _ _ _ h (fits_putO hf' _ (.v undef)) (hk.trans (kept_put hd))
theorem vcT_sound {ops : Array Oper} {M : List Nat} {S : World → Prop} {Z : List PanicEntry → World → Prop} {F : Env → World → Prop} {ts : List Tmp} {a₀ : Act} (hts : ∀ o ∈ ops.toList, ∀ t, o.dst = some t → t ∈ ts) : ∀ (n : Nat) (listed : Array Bool) (σ : Env) (a : Act) (w : World),
    vcT P A ops M S Z F n listed σ w → Fits a σ → Kept ts true a₀ a → treeP P .any ops (planT P ops M S) Z (fun a' w' => (∃ σ', Fits a' σ' ∧ F σ' w') ∧ Kept ts true a₀ a') n listed a w
  | 0, listed, σ, a, w, h, hf, hk => by
    unfold vcT at h
    split at h
    · rename_i h0; exact ⟨h0, ⟨σ, hf, h⟩, hk⟩
    · exact h.elim
  | n + 1, listed, σ, a, w, h, hf, hk => by
    have go : ∀ k, opT P A ops M S Z k (vcT P A ops M S Z F n (listed.setIfInBounds k true)) σ w → opP P ops (planT P ops M S) Z k (treeP P .any ops (planT P ops M S) Z (fun a' w' => (∃ σ', Fits a' σ' ∧ F σ' w') ∧ Kept ts true a₀ a') n (listed.setIfInBounds k true)) a w := fun k h =>
      opT_sound hts (fun σ' a' w' h' hf' hk' => vcT_sound hts n _ σ' a' w' h' hf' hk') h hf hk
    unfold vcT at h
    split at h
    · rename_i h0; exact .inl ⟨h0, ⟨σ, hf, h⟩, hk⟩
    · rename_i k0 r h0
      split at h
      · rename_i k hq
        obtain ⟨hm, o, ho, hE⟩ := firstQ_spec hq
        exact .inr (.inl ⟨k, by rw [h0]; exact hm, by simp [planT, ho, hE], go k h⟩)
      · exact .inr (.inr ⟨by rw [h0]; exact List.cons_ne_nil _ _, fun k hk' => go k (allT_mem h k (by rw [← h0]; exact hk'))⟩)
theorem apartT_spec {ops : Array Oper} (h : apartT ops = true) (i j : Nat) (oi oj : Oper) (hi : ops[i]? = some oi) (hj : ops[j]? = some oj) (hne : j ≠ i) (h1 : ∀ e ∈ oj.after, Region.binds .any e = true → e.on ≠ i) (h2 : ∀ e ∈ oi.after, Region.binds .any e = true → e.on ≠ j) : oi.apart ops oj = true := by
  have no : ∀ {o : Oper} {k : Nat}, (∀ e ∈ o.after, Region.binds .any e = true → e.on ≠ k) → edgeB o k = false := fun {o k} hh => by
    unfold edgeB
    rw [Array.any_eq_false]
    intro x hx hb
    simp only [Bool.and_eq_true, beq_iff_eq] at hb
    exact hh _ (Array.getElem_mem hx) hb.1 hb.2
  have := allFrom_at h i oi (by simpa using hi)
  have := allFrom_at this j oj (by simpa using hj)
  simp only [Nat.zero_add, no h1, no h2, Bool.or_false, Bool.or_eq_true, beq_iff_eq] at this
  rcases this with h | h
  · exact absurd h.symm hne
  · exact h
theorem mem_writesOps : ∀ {l : List Oper} {o : Oper} {t : Tmp}, o ∈ l → o.dst = some t → t ∈ writesOps l
  | [], _, _, h, _ => by simp at h
  | x :: r, o, t, h, e => by
    have ih : o ∈ r → t ∈ writesOps r := fun h => mem_writesOps h e
    have h' := List.mem_cons.1 h
    cases hx : x.dst with
    | none =>
      have hw : writesOps (x :: r) = writesOps r := by rw [writesOps, hx]
      rw [hw]
      rcases h' with h' | h'
      · subst h'; rw [hx] at e; cases e
      · exact ih h'
    | some d =>
      have hw : writesOps (x :: r) = d :: writesOps r := by rw [writesOps, hx]
      rw [hw]
      rcases h' with h' | h'
      · subst h'; rw [hx] at e; cases e; exact List.mem_cons_self
      · exact List.mem_cons_of_mem _ (ih h')
theorem wp_loop_ghostR {ro : Option Nat} {Q : Exit → Act → World → Prop} {a : Act} {w : World} {c : Code} (I : Nat → Act → World → Prop) (n₀ : Nat) (h₀ : I n₀ a w)
    (round : ∀ n a w, I n a w → c.wpIn (Fr ro) 0 P (Exit.then (fun a' w' => ∃ n', n' < n ∧ I n' a' w') Q) a w) : (Code.loop c).wpIn (Fr ro) 0 P Q a w := by
  refine wpIn_loop (fun a w => ∃ n, I n a w) (fun a w => leastOf (fun n => I n a w)) ⟨n₀, h₀⟩ ?_
  intro a w hI
  refine wpIn_mono (round _ a w (leastOf_spec hI).1) ?_
  intro e a' w' hq
  cases e with
  | normal =>
    obtain ⟨n', hlt, hI'⟩ := hq
    exact show (∃ n, I n a' w') ∧ leastOf (fun n => I n a' w') < leastOf (fun n => I n a w) from ⟨⟨n', hI'⟩, Nat.lt_of_le_of_lt ((leastOf_spec ⟨n', hI'⟩).2 n' hI') hlt⟩
  | exit id => exact hq
  | goto l => exact hq
  | ret => exact hq
  | panic ch => exact hq
  | outgrown => exact hq
/-- The round's frame: yield's arguments in the parameters. -/
theorem fits_args : ∀ {sl : List (Tmp × Kd)} {ss : List SV} {a : Act} {σ : Env}, Fits a σ → ss.length = sl.length →
    Fits { tmps := (List.zip (sl.map (·.1)) (ss.map SV.val)).foldl (fun t (p : Tmp × Value) => t.setIfInBounds p.1 p.2) a.tmps, defers := [] } (putL σ sl ss)
  | [], [], a, σ, h, _ => ⟨h.size, h.slot⟩
  | [], _ :: _, _, _, _, hl => by simp at hl
  | _ :: _, [], _, _, _, hl => by simp at hl
  | (t, k) :: r, s :: ss, a, σ, h, hl => by
    have := fits_args (sl := r) (ss := ss) (fits_putO h (some t) s) (by simpa using hl)
    simpa [Act.put, putL, putO] using this
theorem AllK_of : ∀ {ks : List Kd} {F : List SV → Prop}, (∀ ss : List SV, ss.length = ks.length → F ss) → AllK ks F
  | [], F, h => h [] rfl
  | k :: r, F, h => by
    have : ∀ s : SV, AllK r fun ss => F (s :: ss) := fun s => AllK_of fun ss hl => h (s :: ss) (by simp [hl])
    unfold AllK
    cases k <;> simp only [All1] <;> intros <;> exact this _
/-- A round of a range over a function. -/
def RoundV (P : Program) (A : Ann) (as body : Code) (sl : List (Tmp × Kd)) (σ : Env) (l : Nat) (rec : Loop) (ss : List SV) (w' : World) (R : Ending → World → Prop) : Prop :=
  vc P A as (fun e σ _ wa => match e with
    | .normal => LoopAt wa l rec .ready ∧ ∀ wb, Turned wa l wb → LoopAt wb l rec .busy → vc P A body (fun e _ _ wc => match e with
      | .normal => LoopAt wc l rec .busy ∧ ∀ wd, Turned wc l wd → LoopAt wd l rec .ready → R (.returned (.bool true)) wd
      | _ => False) σ [] wb
    | _ => False) (putL σ sl ss) [] w'
theorem stepR_scope' {P : Program} {b : Frame} {a : Act} {k : List Item} {cs : List Frame} {w : World} {c : Code} : step P (lone (b.atR a (.code (.scope c) :: k)) cs w) = .next (lone (b.atR a (.code c :: .inScope c :: k)) cs w) :=
  step_lone_go (by simp [stepG, stepG.exec, Frame.atR])
theorem stepR_inScope' {P : Program} {b : Frame} {a : Act} {k : List Item} {cs : List Frame} {w : World} {c : Code} : step P (lone (b.atR a (.inScope c :: k)) cs w) = .next (lone (b.atR a k) cs w) :=
  step_lone_go (by simp [stepG, stepG.exec, Frame.atR])
theorem wpIn_scope_straight {F : Fence} {n : Nat} {P : Program} {Q : Exit → Act → World → Prop} {a : Act} {w : World} {c : Code}
    (h : c.wpIn F n P (fun e a w => match e with
      | .goto _ => False
      | e => Q e a w) a w) : (Code.scope c).wpIn F n P Q a w := by
  intro b k cs hro hb hr
  have h0 : (lone (b.atR a (.code (.scope c) :: k)) cs w).fenced P F := fenced_calm hb hr rfl
  obtain ⟨e, a₁, w₁, hq, harr⟩ := h b (.inScope c :: k) cs hro hb hr
  cases e with
  | normal => exact ⟨.normal, a₁, w₁, hq, .head h0 stepR_scope' (StepsIn.trans harr (.one (fenced_calm hb hr rfl) stepR_inScope'))⟩
  | exit id =>
    have hx : exitTo id (.inScope c :: k) = exitTo id k := by simp [exitTo]
    exact ⟨.exit id, a₁, w₁, hq, fun k' hk => .head h0 stepR_scope' (harr.1 k' (by rw [hx]; exact hk)),
      fun hr' hk => let ⟨k₁, h1, h2⟩ := harr.2 hr' (by rw [hx]; exact hk); ⟨k₁, h1, .head h0 stepR_scope' h2⟩⟩
  | goto l => exact hq.elim
  | ret => exact ⟨_, a₁, w₁, hq, .of_steps (.one h0 stepR_scope') harr⟩
  | panic ch => exact ⟨_, a₁, w₁, hq, .of_steps (.one h0 stepR_scope') harr⟩
  | outgrown => exact ⟨_, a₁, w₁, hq, .of_steps (.one h0 stepR_scope') harr⟩
def SoundV (P : Program) (A : Ann) (c : Code) : Prop := ∀ (ro : Option Nat) (Q : Exit → Env → List Deferred → World → Prop) (σ : Env) (w : World) (a : Act), (ro = none ∨ nodef c = true) → vc P A c Q σ a.defers w → Fits a σ →
    c.wpIn (Fr ro) 0 P (Post (writes c) (nodef c) a Q) a w
theorem round_sound {as body : Code} (iha : SoundV P A as) (ihb : SoundV P A body) (ha : nodef as = true) (hb : nodef body = true) {sl : List (Tmp × Kd)} {σ : Env} {l : Nat} {rec : Loop} {ss : List SV} {w' : World} {R : Ending → World → Prop} {tmps : Array Value}
    (h : RoundV P A as body sl σ l rec ss w' R) (hf : Fits { tmps := tmps, defers := [] } (putL σ sl ss)) (fn : FuncId) : RoundIn Fence.wide 0 P l fn tmps as body w' R := by
  refine roundIn_of_wpIn (F := Fence.wide) trivial ?_
  unfold RoundV at h
  have h1 := iha (some l) _ (putL σ sl ss) w' { tmps := tmps, defers := [] } (.inr ha) h hf
  have h2 : as.wpIn (Fence.wide.inRound l) 0 P (Post (writes as) (nodef as) { tmps := tmps, defers := [] } _) { tmps := tmps, defers := [] } w' := h1
  refine wpIn_mono h2 ?_
  rintro e a1 wa ⟨⟨σ1, hf1, hq⟩, hk1⟩
  cases e with
  | normal =>
    obtain ⟨hla, hq⟩ := hq
    refine ⟨_, run_beginRound hla.heap rfl, ?_⟩
    have hlt : l < wa.heap.size := (Array.getElem?_eq_some_iff.1 hla.heap).1
    have hq := hq _ ⟨⟨_, rfl⟩⟩ ⟨World.putObj_heap_same hlt⟩
    have hd1 : a1.defers = [] := hk1.defers ha
    have h3 := ihb (some l) _ _ _ _ (.inr hb) (by rw [hd1]; exact hq) hf1
    have h4 : body.wpIn (Fence.wide.inRound l) 0 P (Post (writes body) (nodef body) a1 _) a1 _ := h3
    refine wpIn_mono h4 ?_
    rintro e a2 wc ⟨⟨σ2, hf2, hq⟩, hk2⟩
    cases e with
    | normal =>
      obtain ⟨hlc, hq⟩ := hq
      have hltc : l < wc.heap.size := (Array.getElem?_eq_some_iff.1 hlc.heap).1
      exact ⟨_, _, run_endRound none hlc.heap, hq _ ⟨⟨_, rfl⟩⟩ ⟨World.putObj_heap_same hltc⟩⟩
    | exit i => exact hq.elim
    | goto i => exact hq.elim
    | ret => exact hq.elim
    | panic ch => exact hq.elim
    | outgrown => exact hq.elim
  | exit i => exact hq.elim
  | goto i => exact hq.elim
  | ret => exact hq.elim
  | panic ch => exact hq.elim
  | outgrown => exact hq.elim
theorem rangeCall_run {g : Operand} {l gf : Nat} {fs caps : Array Value} {a : Act} {w : World} (hg : a.eval g = .func (.func gf) fs caps) :
    (resolve a.eval (rangeCall g l) 0).run P w = .ok { target := .fn (.func gf) caps, args := fs ++ #[.func (.yield l) #[] #[]] } w := by
  simp only [resolve, hg, Deferred.ofValue, Sem.run_pure, List.map_toArray, List.map_cons, List.map_nil]; rfl
theorem range_post {l gf : Nat} {args : Array Value} {w1 : World} {K : World → Prop} {Q : Exit → Act → World → Prop} {a' : Act} {rec : Loop}
    (h : DoesB P gf args w1 fun e w2 => ∃ v, e = .returned v ∧ LoopAt w2 l rec .ready ∧ ∀ w3, Turned w2 l w3 → K w3) (hQ : ∀ w3, K w3 → Q .normal a' w3) : CallsIn (Fr none) (0 - 1) P gf args w1 (rangePost (Fr none) 0 P l Q a') := by
  have h2 : Calls P gf args w1 (rangePost (Fr none) 0 P l Q a') := h.2.mono (by
    rintro e w2 ⟨v, rfl, hl2, hq⟩
    exact ⟨none, _, run_endLoop hl2.heap (by simp), hQ _ (hq _ ⟨⟨_, rfl⟩⟩)⟩)
  exact callsIn_fr h2
theorem range_sound {g : Operand} {ps : Array Tmp} {as body : Code} (iha : SoundV P A as) (ihb : SoundV P A body) {Q : Exit → Env → List Deferred → World → Prop} {σ : Env} {w : World} {a : Act} (h : vc P A (.rangeFunc g ps as body) Q σ a.defers w) (hf : Fits a σ) :
    (Code.rangeFunc g ps as body).wpIn (Fr none) 0 P (Post (writes (.rangeFunc g ps as body)) (nodef (.rangeFunc g ps as body)) a Q) a w := by
  unfold vc at h
  obtain ⟨sg, hsg, h0⟩ := opt_some h
  clear h
  obtain ⟨sl, hsl, h⟩ := opt_some h0
  clear h0
  split at h
  · rename_i gf fs caps hnd hps
    have hps := of_decide_eq_true hps
    simp only [Bool.and_eq_true] at hnd
    have hg : a.eval g = .func gf fs caps := ev_fits hf g _ hsg
    refine wpIn_rangeFunc ?_
    intro fn _
    obtain ⟨rec, hrec⟩ : ∃ rec : Loop, rec = { state := .ready, pending := none, fn, tmps := a.tmps, params := ps, assign := as, body, defers := w.heap.size } := ⟨_, rfl⟩
    obtain ⟨w1, hw1⟩ : ∃ w1, w1 = (w.alloc (.deferred (some []))).alloc (.loop rec) := ⟨_, rfl⟩
    have hop : Opened w w.heap.size (w.heap.size + 1) rec w1 := ⟨rfl, rfl, by rw [hw1, hrec]⟩
    have h := h w.heap.size (w.heap.size + 1) rec w1 hop
    have hen : (Instr.enterLoop fn a.tmps ps as body none).run P w = .ok (w.heap.size + 1, [markOf w.heap.size]) w1 := by rw [hw1, hrec]; exact run_enterLoop_outer _ _ _ _ _
    generalize w.heap.size + 1 = l at h hen
    generalize w.heap.size = D at h hen
    have hyl : AllK (sl.map (·.2)) fun ss => ∀ (w' : World) (R : Ending → World → Prop), LoopAt w' l rec .ready → RoundV P A as body sl σ l rec ss w' R → YieldsV P l (ss.map SV.val).toArray w' R := by
      refine AllK_of fun ss hss w' R hl hv => ?_
      have hsz : (ss.map SV.val).toArray.size = ps.size := by
        have : ps.toList.length = ss.length := by rw [← hps]; simpa using hss.symm
        simpa using this.symm
      have hfr : Fits { tmps := ((ps.zip (ss.map SV.val).toArray).foldl (fun tmps (t, a) => tmps.setIfInBounds t a) a.tmps), defers := [] } (putL σ sl ss) := by
        have := fits_args (sl := sl) (ss := ss) hf (by simpa using hss)
        rw [hps] at this
        have e : (ps.zip (ss.map SV.val).toArray).foldl (fun (tmps : Array Value) (x : Tmp × Value) => tmps.setIfInBounds x.1 x.2) a.tmps = (List.zip ps.toList (ss.map SV.val)).foldl (fun t (p : Tmp × Value) => t.setIfInBounds p.1 p.2) a.tmps := by
          rw [← Array.foldl_toList]; simp
        rw [e]; exact this
      have hy := run_yield (P := P) hl.heap (args := (ss.map SV.val).toArray) (by rw [hrec]; exact hsz)
      refine ⟨_, _, _, _, hy, ?_⟩
      have e1 : rec.tmps = a.tmps := by rw [hrec]
      have e2 : rec.params = ps := by rw [hrec]
      have e3 : rec.assign = as := by rw [hrec]
      have e4 : rec.body = body := by rw [hrec]
      simp only [e1, e2, e3, e4]
      exact round_sound iha ihb hnd.1 hnd.2 hv hfr _
    have h := h hyl
    unfold DoesG at h
    split at h
    · refine ⟨l, [markOf D], w1, _, w1, _, _, w1, hen, rangeCall_run hg, fun _ _ => trivial, callFunc_run h.1 _ _, fr_vac, range_post h fun w3 hk => ?_⟩
      exact ⟨⟨σ, fits_defers hf _, hk⟩, ⟨fun _ _ => rfl, rfl, fun e => by cases e⟩⟩
    · exact h.elim
  · exact h.elim
theorem vc_sound (hm : P.follows .mixedOrders = true) : ∀ (c : Code) (ro : Option Nat) (Q : Exit → Env → List Deferred → World → Prop) (σ : Env) (w : World) (a : Act), (ro = none ∨ nodef c = true) → vc P A c Q σ a.defers w → Fits a σ →
    c.wpIn (Fr ro) 0 P (Post (writes c) (nodef c) a Q) a w := by
  intro c
  induction c with
  | skip => exact fun ro Q σ w a _ h hf => wpIn_skip ⟨⟨σ, hf, h⟩, Kept.refl _ _ _⟩
  | label l => exact fun ro Q σ w a _ h hf => wpIn_label ⟨⟨σ, hf, h⟩, Kept.refl _ _ _⟩
  | region id ops draw =>
    intro ro Q σ w a hro h hf
    cases draw with
    | false => exact wp_region_listR (vcOps_sound _ _ _ _ (fun o ho t ht => mem_writesOps ho ht) hro (fun e => e) h hf (Kept.refl _ _ _))
    | true =>
      unfold vc at h
      split at h
      · rename_i hB hok hch hnd
        have hnd : nodefOps ops.toList = true := by simp only [Bool.and_eq_true] at hnd; exact hnd.1
        have h := h _ ⟨rfl⟩
        have hnd' : ∀ (i : Nat) (o : Oper), ops[i]? = some o → ∀ c, o.op ≠ Op.defer c := fun i o ho => nodefOps_mem hnd o (by
          have := (Array.getElem?_eq_some_iff.1 ho)
          obtain ⟨h1, h2⟩ := this
          rw [← h2]
          simp)
        have main : ∀ S : World → Prop, (anyM P (maskOf ops) ops.toList = true → S { w with drawn := w.drawn + 1 }) →
            vcP P A ops (maskOf ops) S { w with drawn := w.drawn + 1 } (fun σ w => Q .normal σ a.defers w) ops.toList 0 σ { w with drawn := w.drawn + 1 } → (Code.region id ops true).wpIn (Fr ro) 0 P (Post (writes (Code.region id ops true)) (nodef (Code.region id ops true)) a Q) a w := by
          intro S hS h
          refine wp_region_plan hnd' hm hB (plan_ok hok hch S { w with drawn := w.drawn + 1 }) (fun i hi => ?_) (F := fun a' w' => (∃ σ', Fits a' σ' ∧ Q .normal σ' a.defers w') ∧ Kept (writes (Code.region id ops true)) true a a') (fun a' w' ⟨⟨σ', h1, h2⟩, h3⟩ => ⟨⟨σ', h1, by rw [h3.defers rfl]; exact h2⟩, h3.mono (fun _ h => h) (fun _ => rfl)⟩)
            (vcP_sound ops.toList 0 σ a _ (by simp) (fun o ho t ht => mem_writesOps ho ht) h hf (Kept.refl _ _ _))
          simp only [planOf]
          cases hoi : ops[i]? with
          | none => trivial
          | some oi =>
            simp only
            split
            · rename_i hlo
              split
              · trivial
              · rename_i he
                refine hS ?_
                unfold anyM
                rw [Bool.not_eq_true']
                cases hall : allFrom (fun o i => !loadB o || earlyM P (maskOf ops) ops.toList i) ops.toList 0 with
                | false => rfl
                | true =>
                  have := allFrom_at hall i oi (by simpa using hoi)
                  simp only [hlo, Bool.not_true, Bool.false_or, Nat.zero_add] at this
                  exact absurd this he
            · trivial
        split at h
        · obtain ⟨S, hS, h⟩ := h
          exact main S (fun _ => hS) h
        · rename_i hany
          exact main _ (fun k => by rw [hany] at k; cases k) h
      · split at h
        · rename_i hs hap hnd
          have hok : okM (maskOf ops) ops.toList 0 = true := by simp only [Bool.and_eq_true] at hnd; exact hnd.2
          have hnd : nodefOps ops.toList = true := by simp only [Bool.and_eq_true] at hnd; exact hnd.1
          have hnd' : ∀ (i : Nat) (o : Oper), ops[i]? = some o → ∀ c, o.op ≠ Op.defer c := fun i o ho => nodefOps_mem hnd o (by
            have := (Array.getElem?_eq_some_iff.1 ho)
            obtain ⟨h1, h2⟩ := this
            rw [← h2]
            simp)
          obtain ⟨S, hS, h⟩ := h _ ⟨rfl⟩
          refine wp_region_tree (G := fun a' => Kept (writes (Code.region id ops true)) true a a') (Z := fun ch w => Q (.panic ch) (forgetAll σ (writesOps ops.toList)) a.defers w) hnd' hm hs (planT_edges hok S) (apartT_spec hap) (Kept.refl _ _ _) (fun i o ho a' v hk => hk.trans (kept_put (fun t ht => mem_writesOps (by have := Array.mem_of_getElem? ho; simpa using this) ht))) (fun a' ch w' hk hz => ⟨⟨_, fits_kept hf hk, by rw [hk.defers rfl]; exact hz⟩, hk.mono (fun _ h => h) (fun _ => rfl)⟩) (fun i hi => ?_) (F := fun a' w' => (∃ σ', Fits a' σ' ∧ Q .normal σ' a.defers w') ∧ Kept (writes (Code.region id ops true)) true a a') (fun a' w' ⟨⟨σ', h1, h2⟩, h3⟩ => ⟨⟨σ', h1, by rw [h3.defers rfl]; exact h2⟩, h3.mono (fun _ h => h) (fun _ => rfl)⟩)
            (vcT_sound (fun o ho t ht => mem_writesOps ho ht) _ _ σ a _ h hf (Kept.refl _ _ _))
          simp only [planT]
          split
          · split
            · exact hS
            · trivial
          · trivial
        · exact h.elim
  | seq x y ihx ihy =>
    intro ro Q σ w a hro h hf
    unfold vc at h
    have hl : ∀ {t}, t ∈ writes x → t ∈ writes (x.seq y) := fun h => List.mem_append_left _ h
    have hr : ∀ {t}, t ∈ writes y → t ∈ writes (x.seq y) := fun h => List.mem_append_right _ h
    have nx : nodef (x.seq y) = true → nodef x = true := fun e => by simp only [nodef, Bool.and_eq_true] at e; exact e.1
    have ny : nodef (x.seq y) = true → nodef y = true := fun e => by simp only [nodef, Bool.and_eq_true] at e; exact e.2
    have rx := hro.imp id nx
    have ry := hro.imp id ny
    split at h
    · refine wpIn_seq (wpIn_mono (ihx ro _ σ w a rx h hf) ?_)
      rintro e a' w' ⟨⟨σ', hf', hq⟩, hk⟩
      cases e with
      | normal =>
        refine wpIn_mono (ihy ro Q σ' w' a' ry hq hf') ?_
        rintro e a'' w'' ⟨hq, hk'⟩
        exact ⟨hq, (hk.mono (fun t => hl) nx).trans (hk'.mono (fun t => hr) ny)⟩
      | exit i => exact ⟨⟨σ', hf', hq⟩, hk.mono (fun t => hl) nx⟩
      | goto i => exact ⟨⟨σ', hf', hq⟩, hk.mono (fun t => hl) nx⟩
      | ret => exact ⟨⟨σ', hf', hq⟩, hk.mono (fun t => hl) nx⟩
      | panic ch => exact ⟨⟨σ', hf', hq⟩, hk.mono (fun t => hl) nx⟩
      | outgrown => exact ⟨⟨σ', hf', hq⟩, hk.mono (fun t => hl) nx⟩
    · rename_i sl hsl
      split at h
      · rename_i hndx
        obtain ⟨I, h, hF⟩ := h
        refine wpIn_seq (wpIn_mono (ihx ro _ σ w a rx h hf) ?_)
        rintro e a' w' ⟨⟨σ', hf', hq⟩, hk⟩
        cases e with
        | normal =>
          obtain ⟨n, hq⟩ := hq
          obtain ⟨ss, J, h1, h2, h3⟩ := appE_at hf' hq (fits_kept hf hk) hF
          refine wpIn_mono (ihy ro Q _ w' a' ry (by rw [hk.defers hndx]; exact h1 n w' h2) h3) ?_
          rintro e a'' w'' ⟨hq, hk'⟩
          exact ⟨hq, (hk.mono (fun t => hl) nx).trans (hk'.mono (fun t => hr) ny)⟩
        | exit i => exact ⟨⟨σ', hf', hq⟩, hk.mono (fun t => hl) nx⟩
        | goto i => exact ⟨⟨σ', hf', hq⟩, hk.mono (fun t => hl) nx⟩
        | ret => exact ⟨⟨σ', hf', hq⟩, hk.mono (fun t => hl) nx⟩
        | panic ch => exact ⟨⟨σ', hf', hq⟩, hk.mono (fun t => hl) nx⟩
        | outgrown => exact ⟨⟨σ', hf', hq⟩, hk.mono (fun t => hl) nx⟩
      · exact h.elim
  | cond c x y ihx ihy =>
    intro ro Q σ w a hro h hf
    unfold vc at h
    obtain ⟨s, hs, h⟩ := opt_some h
    have hv := ev_fits hf c s hs
    have hl : ∀ {t}, t ∈ writes x → t ∈ writes (Code.cond c x y) := fun h => List.mem_append_left _ h
    have hr : ∀ {t}, t ∈ writes y → t ∈ writes (Code.cond c x y) := fun h => List.mem_append_right _ h
    have nx : nodef (Code.cond c x y) = true → nodef x = true := fun e => by simp only [nodef, Bool.and_eq_true] at e; exact e.1
    have ny : nodef (Code.cond c x y) = true → nodef y = true := fun e => by simp only [nodef, Bool.and_eq_true] at e; exact e.2
    have rx := hro.imp id nx
    have ry := hro.imp id ny
    have fit : ∀ b, s.val = .bool b → Fits a (putT σ c (.lb b)) := by
      intro b e
      cases c with
      | tmp t => exact fits_same hf t (.lb b) (by rw [e] at hv; exact hv)
      | const y => exact hf
      | global g => exact hf
      | func f => exact hf
    split at h
    · exact wpIn_cond_true hv (wpIn_mono (ihx ro _ _ _ _ rx h hf) fun e a' w' ⟨hq, hk⟩ => ⟨hq, hk.mono (fun t => hl) nx⟩)
    · exact wpIn_cond_false hv (wpIn_mono (ihy ro _ _ _ _ ry h hf) fun e a' w' ⟨hq, hk⟩ => ⟨hq, hk.mono (fun t => hr) ny⟩)
    · rename_i b
      refine Br_elim h (fun e k => ?_) (fun e k => ?_)
      · subst e
        exact wpIn_cond_true hv (wpIn_mono (ihx ro _ _ _ _ rx k (fit _ rfl)) fun e a' w' ⟨hq, hk⟩ => ⟨hq, hk.mono (fun t => hl) nx⟩)
      · subst e
        exact wpIn_cond_false hv (wpIn_mono (ihy ro _ _ _ _ ry k (fit _ rfl)) fun e a' w' ⟨hq, hk⟩ => ⟨hq, hk.mono (fun t => hr) ny⟩)
    · exact h.elim
  | block id c ih =>
    intro ro Q σ w a hro h hf
    unfold vc at h
    refine wpIn_block (wpIn_mono (ih ro _ _ _ _ hro h hf) ?_)
    rintro e a' w' ⟨⟨σ', hf', hq⟩, hk⟩
    cases e with
    | exit i =>
      show Exit.inBlock id _ (.exit i) a' w'
      unfold Exit.inBlock
      dsimp only
      split
      · rename_i hi; subst hi; simp only [if_true] at hq; exact ⟨⟨σ', hf', hq⟩, hk⟩
      · rename_i hi; simp only [if_neg hi] at hq; exact ⟨⟨σ', hf', hq⟩, hk⟩
    | normal => exact ⟨⟨σ', hf', hq⟩, hk⟩
    | goto i => exact ⟨⟨σ', hf', hq⟩, hk⟩
    | ret => exact ⟨⟨σ', hf', hq⟩, hk⟩
    | panic ch => exact ⟨⟨σ', hf', hq⟩, hk⟩
    | outgrown => exact ⟨⟨σ', hf', hq⟩, hk⟩
  | loop c ih =>
    intro ro Q σ w a hro h hf
    unfold vc at h
    obtain ⟨sl, hsl, h⟩ := opt_some h
    split at h
    · rename_i hnd
      obtain ⟨I, ⟨n0, h0⟩, hF⟩ := h
      refine wp_loop_ghostR (fun n a' w' => (∃ σ', Fits a' σ' ∧ appE sl I σ' n w') ∧ Kept (writes c) (nodef c) a a') n0 ⟨⟨σ, hf, h0⟩, Kept.refl _ _ _⟩ ?_
      rintro n a' w' ⟨⟨σ', hf', hI⟩, hk⟩
      obtain ⟨ss, J, h1, h2, h3⟩ := appE_at hf' hI (fits_kept hf hk) hF
      refine wpIn_mono (ih ro _ _ _ _ hro (by rw [hk.defers hnd]; exact h1 n w' h2) h3) ?_
      rintro e a'' w'' ⟨⟨σ'', hf'', hq⟩, hk'⟩
      cases e with
      | normal =>
        obtain ⟨m, hm', hq⟩ := hq
        exact ⟨m, hm', ⟨σ'', hf'', hq⟩, hk.trans hk'⟩
      | exit i => exact ⟨⟨σ'', hf'', hq⟩, hk.trans hk'⟩
      | goto i => exact ⟨⟨σ'', hf'', hq⟩, hk.trans hk'⟩
      | ret => exact ⟨⟨σ'', hf'', hq⟩, hk.trans hk'⟩
      | panic ch => exact ⟨⟨σ'', hf'', hq⟩, hk.trans hk'⟩
      | outgrown => exact ⟨⟨σ'', hf'', hq⟩, hk.trans hk'⟩
    · obtain ⟨I, ⟨n0, h0⟩, hF⟩ := h
      refine wp_loop_ghostR (fun n a' w' => (∃ es, a'.defers = es ++ a.defers ∧ ∃ σ', Fits a' σ' ∧ appE sl (I es) σ' n w') ∧ Kept (writes c) (nodef c) a a') n0 ⟨⟨[], rfl, σ, hf, h0⟩, Kept.refl _ _ _⟩ ?_
      rintro n a' w' ⟨⟨es, hes, σ', hf', hI⟩, hk⟩
      obtain ⟨ss, J, h1, h2, h3⟩ := appE_at hf' hI (fits_kept hf hk) (hF es)
      refine wpIn_mono (ih ro _ _ _ _ hro (by rw [hes]; exact h1 n w' h2) h3) ?_
      rintro e a'' w'' ⟨⟨σ'', hf'', hq⟩, hk'⟩
      cases e with
      | normal =>
        obtain ⟨m, hm', es', he, hq⟩ := hq
        exact ⟨m, hm', ⟨es', he, σ'', hf'', hq⟩, hk.trans hk'⟩
      | exit i => exact ⟨⟨σ'', hf'', hq⟩, hk.trans hk'⟩
      | goto i => exact ⟨⟨σ'', hf'', hq⟩, hk.trans hk'⟩
      | ret => exact ⟨⟨σ'', hf'', hq⟩, hk.trans hk'⟩
      | panic ch => exact ⟨⟨σ'', hf'', hq⟩, hk.trans hk'⟩
      | outgrown => exact ⟨⟨σ'', hf'', hq⟩, hk.trans hk'⟩
  | exit id => exact fun ro Q σ w a _ h hf => wpIn_exit ⟨⟨σ, hf, h⟩, Kept.refl _ _ _⟩
  | ret => exact fun ro Q σ w a _ h hf => wpIn_ret ⟨⟨σ, hf, h⟩, Kept.refl _ _ _⟩
  | rangeFunc g ps as body iha ihb =>
    intro ro Q σ w a hro h hf
    rcases hro with e | e
    · subst e; exact range_sound iha ihb h hf
    · cases e
  | scope c ih =>
    intro ro Q σ w a hro h hf
    unfold vc at h
    refine wpIn_scope_straight (wpIn_mono (ih ro _ _ _ _ hro h hf) ?_)
    rintro e a' w' ⟨⟨σ', hf', hq⟩, hk⟩
    cases e with
    | goto i => exact hq.elim
    | exit i => exact ⟨⟨σ', hf', hq⟩, hk⟩
    | normal => exact ⟨⟨σ', hf', hq⟩, hk⟩
    | ret => exact ⟨⟨σ', hf', hq⟩, hk⟩
    | panic ch => exact ⟨⟨σ', hf', hq⟩, hk⟩
    | outgrown => exact ⟨⟨σ', hf', hq⟩, hk⟩
  | goto l => exact fun ro Q σ w a _ h hf => h.elim
  | refuse why => exact fun ro Q σ w a _ h hf => h.elim
end
end Go.Vc
