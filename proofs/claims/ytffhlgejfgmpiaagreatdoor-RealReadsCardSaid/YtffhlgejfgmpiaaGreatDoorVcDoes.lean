/-
  The verification condition of a whole function suffices.
-/
import Derived.Test.YtffhlgejfgmpiaaGreatDoorVcCode
import Derived.RangeFuncLeaves
namespace Go.Vc
open Go.RowKit
section
variable {P : Program} {A : Ann}
theorem get_env : ∀ {ss : List SV} {n t : Nat} {s : SV}, get (ss.map some ++ List.replicate n none) t = some s → ss[t]? = some s
  | [], 0, t, s, h => by simp [get] at h
  | [], n + 1, 0, s, h => by simp [List.replicate_succ, get] at h
  | [], n + 1, t + 1, s, h => by
    have := get_env (ss := []) (n := n) (t := t) (s := s) (by simpa [List.replicate_succ, get] using h)
    simp at this
  | x :: r, n, 0, s, h => by simpa [get] using h
  | x :: r, n, t + 1, s, h => by simpa using get_env (ss := r) (n := n) (t := t) (by simpa [get] using h)
theorem fits_env (ss : List SV) (n : Nat) (ds : List Deferred) (_hl : ss.length ≤ n) :
    Fits { tmps := (ss.map SV.val).toArray ++ Array.replicate (n - (ss.map SV.val).toArray.size) undef, defers := ds } (envOf n ss) := by
  refine ⟨by simp [envOf], fun t s h => ?_⟩
  have hs := get_env h
  obtain ⟨hlt, hs⟩ := List.getElem?_eq_some_iff.1 hs
  subst hs
  simp only [Array.getD_eq_getD_getElem?]
  rw [Array.getElem?_append_left (by simpa using hlt)]
  simp [hlt]
theorem res_run {w : World} {σ : Env} {a : Act} (hf : Fits a σ) : ∀ {l : List ResultVar} {F : List SV → Prop}, resVals P w σ l F →
    ∃ ss, F ss ∧ (l.mapM (fun | .tmp t => pure (a.tmps.getD t undef) | .cell p t => do loadVar t (← asAddr (a.tmps.getD p undef)) : ResultVar → Sem Value)).run P w = .ok (ss.map SV.val) w
  | [], F, h => ⟨[], h, rfl⟩
  | .tmp t :: r, F, h => by
    obtain ⟨s, hs, h⟩ := opt_some h
    obtain ⟨ss, hF, hr⟩ := res_run hf h
    refine ⟨s :: ss, hF, ?_⟩
    rw [List.mapM_cons]
    simp only [Sem.run_bind, Sem.run_pure, Result.andThen_ok, hr, hf.slot t s hs, List.map_cons]
  | .cell t T :: r, F, h => by
    obtain ⟨sp, hs, h⟩ := opt_some h
    split at h
    · rename_i b o ht
      obtain ⟨k, hk, h⟩ := opt_some h
      obtain ⟨s, hc, h⟩ := Ex_elim h
      obtain ⟨ss, hF, hr⟩ := res_run hf h
      refine ⟨s :: ss, hF, ?_⟩
      have hl : (loadVar T ⟨b, o, none⟩).run P w = .ok s.val w := by
        simp only [loadVar, Sem.run_bind, isAggT_run ht, Result.andThen_ok, Bool.false_eq_true, if_false, run_load, hc]
      have ha : asAddr (SV.val (.pt b o)) = pure ⟨b, o, none⟩ := rfl
      rw [List.mapM_cons]
      simp only [Sem.run_bind, hf.slot t _ hs, ha, Sem.run_pure, Result.andThen_ok, hl, hr, List.map_cons]
    · rename_i b o ht
      obtain ⟨ks, hk, h⟩ := opt_some h
      obtain ⟨sz, hsz, h⟩ := opt_some h
      split at h
      · rename_i hl
        have hl := of_decide_eq_true hl
        obtain ⟨vs, h1, h2, h⟩ := loadL_elim h
        obtain ⟨ss, hF, hr⟩ := res_run hf h
        refine ⟨.v (.agg vs.toArray) :: ss, hF, ?_⟩
        have hld := load_agg (P := P) ht hsz (by omega) h2
        have hl : (loadVar T ⟨b, o, none⟩).run P w = .ok (.agg vs.toArray) w := by
          simpa only [Instr.loadAt, Instr.sureAddr, Sem.run_bind, Sem.run_pure, Result.andThen_ok] using hld
        have ha : asAddr (SV.val (.pt b o)) = pure ⟨b, o, none⟩ := rfl
        rw [List.mapM_cons]
        simp only [Sem.run_bind, hf.slot t _ hs, ha, Sem.run_pure, Result.andThen_ok, hl, hr, List.map_cons]
        rfl
      · exact h.elim
    · exact h.elim
theorem results_run {fn : Func} {w : World} {σ : Env} {a : Act} (hf : Fits a σ) {F : List SV → Prop} (h : resVals P w σ fn.results.toList F) :
    ∃ ss, F ss ∧ (results fn a.tmps).run P w = .ok (tupOf ss) w := by
  obtain ⟨ss, hF, hr⟩ := res_run hf h
  refine ⟨ss, hF, ?_⟩
  have hr' : (fn.results.mapM (fun | .tmp t => pure (a.tmps.getD t undef) | .cell p t => do loadVar t (← asAddr (a.tmps.getD p undef)) : ResultVar → Sem Value)).run P w = .ok (ss.map SV.val).toArray w := by
    rw [Array.mapM_eq_mapM_toList]
    simp only [Sem.run_map, hr, Result.andThen_ok]
  unfold results
  rw [Sem.run_bind]
  refine (congrArg (fun r => Result.andThen r _) hr').trans ?_
  simp only [Result.andThen_ok, Sem.run_pure]
  congr 1
  match ss with
  | [] => simp [tupOf]
  | [s] => simp [tupOf]
  | s :: s' :: r => simp [tupOf]
theorem leaves_sound {fn : Func} {tmps : Array Value} {R : Ending → World → Prop} {K : World → Prop} {Kp : List PanicEntry → World → Prop} (hK : ∀ w, K w → ∃ v, (results fn tmps).run P w = .ok v w ∧ R (.returned v) w) (hKp : ∀ ch w, Kp ch w → R (.panicked ch) w) :
    ∀ (ds : List Deferred) (u : FrameMode) (w : World), LeavesV K Kp P ds u w → LeavesInM (Fr none) 0 P fn tmps R ds u w
  | [], .returning, w, h => hK w h
  | [], .panicking ch, w, h => hKp ch w h
  | [], .run, w, h => h.elim
  | d :: ds, u, w, h => by
    unfold LeavesV at h
    obtain ⟨hu, h⟩ := h
    refine ⟨hu, ?_⟩
    split at h
    · rename_i D hD
      exact .inl ⟨D, _, hD, run_takeDeferred h.1, leaves_sound hK hKp ds u _ (h.2 _ ⟨⟨_, rfl⟩⟩)⟩
    · rename_i f caps hD
      refine .inr ⟨fr_vac, .func f, caps, f, d.args ++ caps, hD, ?_, fun _ _ => trivial, ?_⟩
      · rw [hD]; exact callFunc_run h.1 _ _
      · have := h.2
        refine CallsDIn.mono (F := Fr none) (n := 0 - 1) this ?_
        rintro e u' w' hr
        cases e with
        | returned v => exact leaves_sound hK hKp ds _ _ hr
        | panicked ch => exact leaves_sound hK hKp ds _ _ hr
        | outgrown => exact hr.elim
    · exact h.elim
/-- THE CONDITION OF A FUNCTION SUFFICES. -/
theorem does_of_vc {f : FuncId} {fn : Func} {c : Code} {ss : List SV} {args : Array Value} {w : World} {R : Ending → World → Prop} (A : Ann)
    (hm : P.follows .mixedOrders = true) (hcb : callableB P f = true) (hf : P.funcs[f]? = some fn) (hb : fn.body = some c) (hargs : args = (ss.map SV.val).toArray) (hl : ss.length ≤ fn.ntmps)
    (h : vc P A c (retQ P fn R) (envOf fn.ntmps ss) [] w) : Does P f args w R := by
  subst hargs
  refine .inl ⟨hcb, callsIn_wide.1 (callsIn_of_wp_marks (F := Fence.wide) (n := 0) hf hb trivial (wpIn_mono (vc_sound hm c none _ _ _ _ (.inl rfl) h (fits_env ss fn.ntmps [] hl)) ?_))⟩
  rintro e a' w' ⟨⟨σ', hf', hq⟩, hk⟩
  cases e with
  | normal => exact leaves_sound (fun w hq => by obtain ⟨ss', hR, hr⟩ := results_run (fn := fn) hf' hq; exact ⟨_, hr, hR⟩) (fun ch w h => h) _ _ _ hq
  | ret => exact leaves_sound (fun w hq => by obtain ⟨ss', hR, hr⟩ := results_run (fn := fn) hf' hq; exact ⟨_, hr, hR⟩) (fun ch w h => h) _ _ _ hq
  | panic ch => exact leaves_sound (fun w hq => by obtain ⟨ss', hR, hr⟩ := results_run (fn := fn) hf' hq; exact ⟨_, hr, hR⟩) (fun ch w h => h) _ _ _ hq
  | exit i => exact hq.elim
  | goto i => exact hq.elim
  | outgrown => exact hq.elim
end
end Go.Vc
