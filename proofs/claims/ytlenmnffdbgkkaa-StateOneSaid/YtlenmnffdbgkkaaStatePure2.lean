import Derived.Test.YtlenmnffdbgkkaaStatePure
set_option maxRecDepth 10000
open Go
namespace Go.Vc
/-! # What is read again -/
theorem root_of {ns : List Nd} {cur : Int} (h : loadOk ns cur) : rootN :: ns.drop 1 = ns := by
  obtain ⟨h1, -, -, -, h5⟩ := h
  match ns, h1, h5 with
  | n :: t, _, h5 =>
    have h0 := h5 0 (Nat.zero_lt_succ _)
    simp only [List.getElem_cons_zero] at h0
    have : n = rootN := by
      unfold mayN at h0
      simp at h0
      exact Nd.ext' h0.1 h0.2.1 h0.2.2
    rw [this]
    rfl
theorem encCode_zero {ns : List Nd} {cur : Int} {ms : List (Int × Int)} (h : encCode ns cur ms = 0) : writeOk ns ms ∧ (encS ns cur ms).length ≤ 1048576 := by
  unfold encCode at h
  by_cases h1 : writeOk ns ms
  · refine ⟨h1, ?_⟩
    rw [if_neg (fun h => h h1)] at h
    by_cases h2 : (encS ns cur ms).length > 1048576
    · rw [if_pos h2] at h
      cases h
    · omega
  · rw [if_pos h1] at h
    cases h
theorem encS_ne (ns : List Nd) (cur : Int) (ms : List (Int × Int)) : 9 ≤ (encS ns cur ms).length := by
  unfold encS
  simp only [List.length_append, putN_len, List.length_cons]
  omega
theorem reads_enc {ns : List Nd} {cur : Int} {ms : List (Int × Int)} (hl : loadOk ns cur) (hm : Mods ns) (hc : encCode ns cur ms = 0) (r : List Int) : stateP (encS ns cur ms ++ r) = some ((((ns.length : Int), cur, ns.drop 1), ms), r) :=
  reads_state (fits_of hl hm (encCode_zero hc).1) r
theorem dec_enc {ns : List Nd} {cur : Int} {ms : List (Int × Int)} (hl : loadOk ns cur) (hm : Mods ns) (hc : encCode ns cur ms = 0) : decS (encS ns cur ms) = (0, ns, cur, ms) := by
  have hr := reads_enc hl hm hc []
  rw [List.append_nil] at hr
  have hn := encS_ne ns cur ms
  unfold decS
  rw [if_neg (fun h => by rw [h] at hn; simp at hn), hr]
  have hg := root_of hl
  generalize ns.drop 1 = t at hg
  subst hg
  show (ite _ _ _ : Int × List Nd × Int × List (Int × Int)) = _
  rw [if_neg (fun h => h rfl), if_pos ⟨by have := hl.1; omega, hl, hc, rfl⟩]
theorem dec_more {ns : List Nd} {cur : Int} {ms : List (Int × Int)} (hl : loadOk ns cur) (hm : Mods ns) (hc : encCode ns cur ms = 0) (x : Int) : decS (encS ns cur ms ++ [x]) = (3, [], 0, []) := by
  have hr := reads_enc hl hm hc [x]
  unfold decS
  rw [if_neg (by simp), hr]
  simp
theorem dec_cut {ns : List Nd} {cur : Int} {ms : List (Int × Int)} (hl : loadOk ns cur) (hm : Mods ns) (hc : encCode ns cur ms = 0) {k : Nat} (h0 : 0 < k) (hk : k < (encS ns cur ms).length) : decS ((encS ns cur ms).take k) = (2, [], 0, []) := by
  have hr := reads_enc hl hm hc []
  rw [List.append_nil] at hr
  obtain ⟨c, e, -, h⟩ := ex_state _ _ _ hr
  rw [List.append_nil] at e
  have := h k (by rw [← e]; exact hk)
  rw [← e] at this
  unfold decS
  rw [if_neg, this]
  intro h
  have h := congrArg List.length h
  rw [List.length_take, List.length_nil] at h
  omega
theorem enc_inj {ns ns' : List Nd} {cur cur' : Int} {ms ms' : List (Int × Int)} (hl : loadOk ns cur) (hm : Mods ns) (hc : encCode ns cur ms = 0) (hl' : loadOk ns' cur') (hm' : Mods ns') (hc' : encCode ns' cur' ms' = 0) (h : encS ns cur ms = encS ns' cur' ms') : ns = ns' ∧ cur = cur' ∧ ms = ms' := by
  have h1 := dec_enc hl hm hc
  rw [h, dec_enc hl' hm' hc'] at h1
  injection h1 with _ h1
  injection h1 with h1 h2
  injection h2 with h2 h3
  exact ⟨h1.symm, h2.symm, h3.symm⟩
end Go.Vc
