/-
  The verification conditions of all the operations that leave the world alone suffice.
-/
import Derived.Test.YtffhlgejfgmpiaaGreatDoorVcPure2
namespace Go.Vc
open Go.RowKit
section
variable {P : Program} {A : Ann} {ρ : Operand → Value} {K : SV → Prop}

theorem fieldPlace_run {fd : Field} {sz : Nat} (hs : sizeO P fd.type = some (sz + 1)) (b o : Nat) (w : World) : (fieldPlace ⟨b, o, none⟩ fd).run P w = .ok ⟨b, o + fd.offset, none⟩ w := by
  simp only [fieldPlace, Sem.run_bind, sizeO_run hs, Result.andThen_ok, Nat.add_one_ne_zero, if_false, Sem.run_pure, add_plain']

theorem build_struct {T : TypeId} {fs : Array Field} {z : Value} (hu : P.underlying T = some (.struct fs)) (hz : zeroO P T = some z) {ps : List (Nat × Nat)} (hps : placesO P fs.toList = some ps)
    {vs : List (Nat × Value)} {cs : List Value} (hf : fillL ps z.cells.toList vs = some cs) (w : World) : (Instr.build T vs.toArray).run P w = .ok (.agg cs.toArray) w := by
  have places : ∀ (l : List Field) (ps : List (Nat × Nat)) (w : World), placesO P l = some ps →
      (l.mapM (fun f => do pure (f.offset, ← sizeOf f.type) : Field → Sem (Nat × Nat))).run P w = .ok ps w := by
    intro l
    induction l with
    | nil => intro ps w h; simp [placesO] at h; subst h; rfl
    | cons f r ih =>
      intro ps w h
      simp only [placesO] at h
      split at h
      · rename_i n qs hn hq
        simp only [Option.some.injEq] at h
        subst h
        rw [List.mapM_cons]
        simp only [Sem.run_bind, sizeO_run hn, Result.andThen_ok, Sem.run_pure, ih qs w hq]
      · simp at h
  have hp := places fs.toList ps w hps
  have hp' : (fs.mapM (fun f => do pure (f.offset, ← sizeOf f.type) : Field → Sem (Nat × Nat))).run P w = .ok ps.toArray w := by
    simp only [Array.mapM_eq_mapM_toList, Sem.run_map, hp, Result.andThen_ok]
  have hfill := fill_sound ps (fun i => ps.toArray[i]?) (fun i x h => by simpa using h) vs z.cells.toList cs hf
  simp only [Instr.build, Sem.run_bind, zeroO_run hz, Result.andThen_ok, run_underlying hu, hp']
  simp only [Array.toArray_toList] at hfill
  simp only [hfill, Sem.run_pure]

theorem build_array {T e : TypeId} {len : Nat} {z : Value} (hu : P.underlying T = some (.array len e)) (hz : zeroO P T = some z) {sz : Nat} (hs : sizeO P e = some sz)
    {vs : List (Nat × Value)} {cs : List Value} (hf : fillL ((List.range len).map fun i => (i * sz, sz)) z.cells.toList vs = some cs) (w : World) : (Instr.build T vs.toArray).run P w = .ok (.agg cs.toArray) w := by
  have hfill := fill_sound ((List.range len).map fun i => (i * sz, sz)) (fun i => some (i * sz, sz)) (fun i x h => by
    rw [List.getElem?_map] at h
    cases hr : (List.range len)[i]? with
    | none => simp [hr] at h
    | some j =>
      rw [hr] at h
      obtain ⟨_, hj⟩ := List.getElem?_eq_some_iff.1 hr
      simp at hj
      subst hj
      simpa using h) vs z.cells.toList cs hf
  simp only [Instr.build, Sem.run_bind, zeroO_run hz, Result.andThen_ok, run_underlying hu, sizeO_run hs]
  simp only [Array.toArray_toList] at hfill
  simp only [hfill, Sem.run_pure]

theorem parts_run {v : Operand → Option SV} (hv : ∀ x s, v x = some s → ρ x = s.val) : ∀ {l : List (Nat × Operand)} {vs : List (Nat × Value)},
    l.map (fun p : Nat × Operand => (v p.2).map fun s => (p.1, s.val)) = vs.map some → l.map (fun p => (p.1, ρ p.2)) = vs
  | [], [], _ => rfl
  | [], _ :: _, h => by simp at h
  | _ :: _, [], h => by simp at h
  | (i, x) :: r, y :: ys, h => by
    simp only [List.map_cons, List.cons.injEq] at h
    obtain ⟨h1, h2⟩ := h
    cases hx : v x with
    | none => simp [hx] at h1
    | some s =>
      simp only [hx, Option.map_some, Option.some.injEq] at h1
      subst h1
      simp only [List.map_cons, hv _ _ hx, parts_run hv h2]

set_option maxHeartbeats 1000000 in
theorem pure_sound {o : Oper} {v : Operand → Option SV} (hv : ∀ x s, v x = some s → ρ x = s.val) {p : Prop} (h : pureVc P A o v K = some p) (hp : p) : ∃ s, K s ∧ Gives P ρ o s := by
  unfold pureVc at h
  split at h
  case h_1 _ x hop => -- move
    obtain rfl := Option.some.inj h
    obtain ⟨s, hs, hq⟩ := opt_some hp
    clear hp h
    have hk := hq
    clear hq
    exact ⟨s, hk, fun w => by unfold execOp; simp [hop, hv _ _ hs]⟩
  case h_2 _ x hop => -- assign
    obtain rfl := Option.some.inj h
    obtain ⟨s, hs, hq⟩ := opt_some hp
    clear hp h
    have hk := hq
    clear hq
    exact ⟨s, hk, fun w => by unfold execOp; simp [hop, hv _ _ hs]⟩
  case h_3 _ c a b hop => -- pick
    obtain rfl := Option.some.inj h
    obtain ⟨sc, hc, hq⟩ := opt_some hp
    clear hp h
    have hk := hq
    clear hq
    split at hk
    · obtain ⟨s, hs, hk⟩ := opt_some hk
      exact ⟨s, hk, fun w => by unfold execOp; simp [hop, hv _ _ hs, hv _ _ hc, SV.val, asBool]⟩
    · obtain ⟨s, hs, hk⟩ := opt_some hk
      exact ⟨s, hk, fun w => by unfold execOp; simp [hop, hv _ _ hs, hv _ _ hc, SV.val, asBool]⟩
    · refine Br_elim hk (fun ht hk => ?_) (fun ht hk => ?_)
      · obtain ⟨s, hs, hk⟩ := opt_some hk
        exact ⟨s, hk, fun w => by unfold execOp; simp [hop, hv _ _ hs, hv _ _ hc, SV.val, asBool, ht]⟩
      · obtain ⟨s, hs, hk⟩ := opt_some hk
        exact ⟨s, hk, fun w => by unfold execOp; simp [hop, hv _ _ hs, hv _ _ hc, SV.val, asBool, ht]⟩
    · exact hk.elim
  case h_4 _ uop T x hop => -- unOp
    obtain rfl := Option.some.inj h
    obtain ⟨s, hs, hq⟩ := opt_some hp
    clear hp h
    have hk := hq
    clear hq
    exact un_sound hop (hv _ _ hs) hk
  case h_5 _ bop T x y yT hop => -- binOp
    split at h
    · cases h
    obtain rfl := Option.some.inj h
    obtain ⟨sx, hx, hq⟩ := opt_some hp
    clear hp h
    have hk := hq
    clear hq
    obtain ⟨sy, hy, hq⟩ := opt_some hk
    clear hk
    have hk := hq
    clear hq
    exact bin_sound hop (hv _ _ hx) (hv _ _ hy) hk
  case h_6 _ src dst' x hop => -- convert
    split at h
    · rename_i k1 k2 h1 h2
      obtain rfl := Option.some.inj h
      obtain ⟨sx, hx, hq⟩ := opt_some hp
      clear hp h
      have hk := hq
      clear hq
      obtain ⟨n, hn, hq⟩ := opt_some hk
      clear hk
      have hk := hq
      clear hq
      obtain ⟨k, hk'⟩ := intOfV_some hn
      obtain ⟨s, hs, e⟩ := num_sound hk
      refine ⟨s, hs, gives_of (convert src dst' (ρ x)) (by unfold execOp; simp [hop]) fun w => ?_⟩
      rw [hv _ _ hx, hk', e]
      simp [convert, run_underlying h1, run_underlying h2, Conv.intToInt]
    · rename_i h1 h2
      obtain rfl := Option.some.inj h
      obtain ⟨sx, hx, hq⟩ := opt_some hp
      clear hp h
      have hk := hq
      clear hq
      split at hk
      · refine ⟨_, hk, gives_of (convert src dst' (ρ x)) (by unfold execOp; simp [hop]) fun w => ?_⟩
        rw [hv _ _ hx]
        simp [convert, run_underlying h1, run_underlying h2, SV.val]
      · exact hk.elim
    · cases h
  case h_7 _ fn first caps hop => -- makeFunc
    obtain rfl := Option.some.inj h
    obtain ⟨fs, hf, hq⟩ := optL_some hp
    clear hp h
    have hk := hq
    clear hq
    obtain ⟨cs, hc, hq⟩ := optL_some hk
    clear hk
    have hk := hq
    clear hq
    refine ⟨_, hk, gives_of (Instr.makeFunc fn (first.map ρ) (caps.map ρ)) (by unfold execOp; simp [hop]) fun w => ?_⟩
    have e1 : first.map ρ = (fs.map SV.val).toArray := by apply Array.ext'; simp [map_of_some hv hf]
    have e2 : caps.map ρ = (cs.map SV.val).toArray := by apply Array.ext'; simp [map_of_some hv hc]
    rw [e1, e2]; rfl
  case h_8 _ T x hop => -- makeInterface
    obtain rfl := Option.some.inj h
    obtain ⟨sx, hx, hq⟩ := opt_some hp
    clear hp h
    have hk := hq
    clear hq
    split at hk
    · rename_i hc
      refine ⟨_, hk, gives_of (Instr.makeInterface T (ρ x)) (by unfold execOp; simp [hop]) fun w => ?_⟩
      rw [hv _ _ hx, run_makeInterface _ _ _ hc]; rfl
    · exact hk.elim
  case h_9 _ t i hop => -- extract
    obtain rfl := Option.some.inj h
    obtain ⟨st, ht, hq⟩ := opt_some hp
    clear hp h
    have hk := hq
    clear hq
    split at hk
    · rename_i vs
      obtain ⟨x, hx, hq⟩ := opt_some hk
      clear hk
      have hk := hq
      clear hq
      refine ⟨_, hk, gives_of (Instr.extract (ρ t) i) (by unfold execOp; simp [hop]) fun w => ?_⟩
      have hx' : vs[i]? = some x := by rw [← Array.getElem?_toList]; exact hx
      rw [hv _ _ ht]; simp [SV.val, Instr.extract, hx']
    · exact hk.elim
  case h_10 _ T x f hop => -- field
    obtain rfl := Option.some.inj h
    obtain ⟨sx, hx, hq⟩ := opt_some hp
    clear hp h
    have hk := hq
    clear hq
    obtain ⟨fd, hfd, hq⟩ := opt_some hk
    clear hk
    have hk := hq
    clear hq
    obtain ⟨fs, hu, hf⟩ := field_run hfd
    split at hk
    · split at hk
      · rename_i ha
        obtain ⟨sz, hsz, hq⟩ := opt_some hk
        clear hk
        have hk := hq
        clear hq
        refine ⟨_, hk, gives_of (Instr.field T (ρ x) f) (by unfold execOp; simp [hop]) fun w => ?_⟩
        rw [hv _ _ hx]
        simp only [SV.val, Instr.field, Sem.run_bind, run_underlying hu, Result.andThen_ok, hf, asAgg, Sem.run_pure, part_agg ha hsz]
      · rename_i ha
        obtain ⟨y, hy, hq⟩ := opt_some hk
        clear hk
        have hk := hq
        clear hq
        refine ⟨_, hk, gives_of (Instr.field T (ρ x) f) (by unfold execOp; simp [hop]) fun w => ?_⟩
        rw [hv _ _ hx]
        simp only [SV.val, Instr.field, Sem.run_bind, run_underlying hu, Result.andThen_ok, hf, asAgg, Sem.run_pure, part_one ha hy]
      · exact hk.elim
    · exact hk.elim
  case h_11 _ T x f hop => -- fieldAddr
    obtain rfl := Option.some.inj h
    obtain ⟨sx, hx, hq⟩ := opt_some hp
    clear hp h
    have hk := hq
    clear hq
    obtain ⟨fd, hfd, hq⟩ := opt_some hk
    clear hk
    have hk := hq
    clear hq
    obtain ⟨sz, hsz, hq⟩ := opt_some hk
    clear hk
    have hk := hq
    clear hq
    obtain ⟨fs, hu, hf⟩ := field_run hfd
    split at hk
    · exact hk.elim
    · split at hk
      · rename_i b o
        refine ⟨_, hk, gives_of (Instr.fieldAt T (ρ x) f) (by unfold execOp; simp [hop]) fun w => ?_⟩
        rw [hv _ _ hx]
        simp only [SV.val, Instr.fieldAt, Instr.sureAddr, Sem.run_bind, run_underlying hu, Result.andThen_ok, hf, Sem.run_pure, fieldPlace_run hsz]
      · obtain ⟨b, o, rfl, hk⟩ := hk
        refine ⟨_, hk, gives_of (Instr.fieldAt T (ρ x) f) (by unfold execOp; simp [hop]) fun w => ?_⟩
        rw [hv _ _ hx]
        simp only [SV.val, Instr.fieldAt, Instr.sureAddr, Sem.run_bind, run_underlying hu, Result.andThen_ok, hf, Sem.run_pure, fieldPlace_run hsz]
      · exact hk.elim
  case h_12 _ x hop => -- nilCheck
    obtain rfl := Option.some.inj h
    obtain ⟨sx, hx, hq⟩ := opt_some hp
    clear hp h
    have hk := hq
    clear hq
    split at hk
    · exact ⟨_, hk, fun w => by unfold execOp; simp [hop, hv _ _ hx, SV.val]⟩
    · obtain ⟨b, o, rfl, hk⟩ := hk
      exact ⟨_, hk, fun w => by unfold execOp; simp [hop, hv _ _ hx, SV.val]⟩
    · exact ⟨_, hk, fun w => by unfold execOp; simp [hop, hv _ _ hx, SV.val]⟩
    · rename_i g a c _
      obtain ⟨hm, hk⟩ := hk
      refine ⟨_, hk, fun w => ?_⟩
      unfold execOp
      simp only [hop, hv _ _ hx, SV.val]
      cases g <;> first | exact absurd rfl (hm _) | simp
    · exact hk.elim
  case h_13 _ T x i hop => -- indexAddr
    obtain rfl := Option.some.inj h
    obtain ⟨sx, hx, hq⟩ := opt_some hp
    clear hp h
    have hk := hq
    clear hq
    obtain ⟨si, hi, hq⟩ := opt_some hk
    clear hk
    have hk := hq
    clear hq
    obtain ⟨n, hn, hq⟩ := opt_some hk
    clear hk
    have hk := hq
    clear hq
    obtain ⟨k, hk'⟩ := intOfV_some hn
    split at hk
    · rename_i e hu
      obtain ⟨sz, hsz, hq⟩ := opt_some hk
      clear hk
      have hk := hq
      clear hq
      split at hk
      · obtain ⟨hb, b, o, rfl, hk⟩ := hk
        refine ⟨_, hk, gives_of (Instr.indexAt T (ρ x) (ρ i)) (by unfold execOp; simp [hop]) fun w => ?_⟩
        rw [hv _ _ hx, hv _ _ hi, hk']
        exact indexAt_slice hu hsz _ _ _ _ _ _ hb w
      · exact hk.elim
    · rename_i len e hu
      obtain ⟨sz, hsz, hq⟩ := opt_some hk
      clear hk
      have hk := hq
      clear hq
      split at hk
      · obtain ⟨hb, hk⟩ := hk
        refine ⟨_, hk, gives_of (Instr.indexAt T (ρ x) (ρ i)) (by unfold execOp; simp [hop]) fun w => ?_⟩
        rw [hv _ _ hx, hv _ _ hi, hk']
        exact indexAt_array hu hsz _ _ _ _ hb w
      · obtain ⟨hb, b, o, rfl, hk⟩ := hk
        refine ⟨_, hk, gives_of (Instr.indexAt T (ρ x) (ρ i)) (by unfold execOp; simp [hop]) fun w => ?_⟩
        rw [hv _ _ hx, hv _ _ hi, hk']
        exact indexAt_array hu hsz _ _ _ _ hb w
      · exact hk.elim
    · exact hk.elim
  case h_14 _ T x i hop => -- index
    obtain rfl := Option.some.inj h
    obtain ⟨sx, hx, hq⟩ := opt_some hp
    clear hp h
    have hk := hq
    clear hq
    obtain ⟨si, hi, hq⟩ := opt_some hk
    clear hk
    have hk := hq
    clear hq
    obtain ⟨n, hn, hq⟩ := opt_some hk
    clear hk
    have hk := hq
    clear hq
    obtain ⟨k, hk'⟩ := intOfV_some hn
    split at hk
    · rename_i hu
      split at hk
      · rename_i s
        obtain ⟨⟨h0, h1⟩, hk⟩ := hk
        refine ⟨_, hk, gives_of (Instr.index T (ρ x) (ρ i)) (by unfold execOp; simp [hop]) fun w => ?_⟩
        rw [hv _ _ hx, hv _ _ hi, hk']
        have hlt : n.toNat < s.size := by omega
        have hg : s[n.toNat]? = some (s.data.toList.getD n.toNat 0) := by
          have hlt' : n.toNat < s.data.toList.length := by simpa using hlt
          rw [List.getD_eq_getElem?_getD, List.getElem?_eq_getElem hlt']
          rw [getElem?_pos s n.toNat hlt]
          rfl
        simp [SV.val, Instr.index, asIntOf, run_underlying hu, h0, hg, sb]
      · exact hk.elim
    · rename_i len e hu
      split at hk
      · rename_i cs
        split at hk
        · rename_i ha hsz hlen
          obtain ⟨⟨h0, h1⟩, hk⟩ := hk
          have hlen := of_decide_eq_true hlen
          have hlt : n.toNat < cs.toList.length := by omega
          have hg := List.getElem?_eq_getElem hlt
          refine ⟨_, oneOf_get hk n.toNat _ hg (by omega), gives_of (Instr.index T (ρ x) (ρ i)) (by unfold execOp; simp [hop]) fun w => ?_⟩
          rw [hv _ _ hx, hv _ _ hi, hk', svC_val]
          simp only [SV.val, Instr.index, asIntOf, Sem.run_bind, Sem.run_pure, Result.andThen_ok, run_underlying hu, if_pos (And.intro h0 h1), sizeO_run hsz, Nat.mul_one]
          exact part_one ha hg w
        · exact hk.elim
      · exact hk.elim
    · exact hk.elim
  case h_15 _ T x lo hi mx hop => -- slice
    obtain rfl := Option.some.inj h
    obtain ⟨sx, hx, hq⟩ := opt_some hp
    clear hp h
    have hk := hq
    clear hq
    obtain ⟨l, kl, hq, el⟩ := optI_some hv hk
    clear hk
    have hk := hq
    clear hq
    obtain ⟨hh, kh, hq, eh⟩ := optI_some hv hk
    clear hk
    have hk := hq
    clear hq
    obtain ⟨m, km, hq, em⟩ := optI_some hv hk
    clear hk
    have hk := hq
    clear hq
    split at hk
    · rename_i e hu
      obtain ⟨sz, hsz, hq⟩ := opt_some hk
      clear hk
      have hk := hq
      clear hq
      split at hk
      · obtain ⟨l', h', m', hk, hb⟩ := bounds_sound (P := P) trivial hk kl kh km true
        refine ⟨_, hk, gives_of (Instr.sliceAt T (ρ x) (lo.map ρ) (hi.map ρ) (mx.map ρ)) (by unfold execOp; simp [hop]) fun w => ?_⟩
        rw [hv _ _ hx, el, eh, em]
        simp only [SV.val, Instr.sliceAt, Instr.slice, Sem.run_bind, run_underlying hu, Result.andThen_ok, hb, sizeO_run hsz, Sem.run_pure, subp]
      · exact hk.elim
    · rename_i hu
      split at hk
      · obtain ⟨l', h', m', hk, hb⟩ := bounds_sound (P := P) trivial hk kl kh km false
        refine ⟨_, hk, gives_of (Instr.sliceAt T (ρ x) (lo.map ρ) (hi.map ρ) (mx.map ρ)) (by unfold execOp; simp [hop]) fun w => ?_⟩
        rw [hv _ _ hx, el, eh, em]
        simp only [Option.map_none] at hb
        simp only [SV.val, Instr.sliceAt, Instr.slice, Sem.run_bind, run_underlying hu, Result.andThen_ok, Option.map_none, Option.isSome_none, Bool.false_eq_true, if_false, hb, Sem.run_pure]
      · exact hk.elim
    · rename_i arr hu
      split at hk
      · rename_i len e hu2
        obtain ⟨sz, hsz, hq⟩ := opt_some hk
        clear hk
        have hk := hq
        clear hq
        split at hk
        · obtain ⟨l', h', m', hk, hb⟩ := bounds_sound (P := P) trivial hk kl kh km false
          refine ⟨_, hk, gives_of (Instr.sliceAt T (ρ x) (lo.map ρ) (hi.map ρ) (mx.map ρ)) (by unfold execOp; simp [hop]) fun w => ?_⟩
          rw [hv _ _ hx, el, eh, em]
          simp only [SV.val, Instr.sliceAt, Instr.slice, asAddr, Sem.run_bind, run_underlying hu, run_underlying hu2, Result.andThen_ok, hb, sizeO_run hsz, Sem.run_pure, subp]
          split <;> simp [*]
        · exact hk.elim
      · exact hk.elim
    · rename_i len e hu
      obtain ⟨sz, hsz, hq⟩ := opt_some hk
      clear hk
      have hk := hq
      clear hq
      split at hk
      · obtain ⟨l', h', m', hk, hb⟩ := bounds_sound (P := P) trivial hk kl kh km false
        refine ⟨_, hk, gives_of (Instr.sliceAt T (ρ x) (lo.map ρ) (hi.map ρ) (mx.map ρ)) (by unfold execOp; simp [hop]) fun w => ?_⟩
        rw [hv _ _ hx, el, eh, em]
        simp only [SV.val, Instr.sliceAt, Instr.sureAddr, Sem.run_bind, run_underlying hu, Result.andThen_ok, hb, sizeO_run hsz, Sem.run_pure, subp]
        split <;> simp [*]
      · exact hk.elim
    · exact hk.elim
  case h_16 _ T parts hop => -- build
    obtain rfl := Option.some.inj h
    obtain ⟨z, hz, hq⟩ := opt_some hp
    clear hp h
    have hk := hq
    clear hq
    obtain ⟨vs, hvs, hq⟩ := optL_some hk
    clear hk
    have hk := hq
    clear hq
    have e : parts.map (fun (p : Nat × Operand) => (p.1, ρ p.2)) = vs.toArray := by apply Array.ext'; simp [parts_run hv hvs]
    split at hk
    · rename_i fs hu
      obtain ⟨ps, hps, hq⟩ := opt_some hk
      clear hk
      have hk := hq
      clear hq
      obtain ⟨cs, hcs, hq⟩ := opt_some hk
      clear hk
      have hk := hq
      clear hq
      refine ⟨_, hk, gives_of (Instr.build T (parts.map fun (p : Nat × Operand) => (p.1, ρ p.2))) (by unfold execOp; simp [hop]) fun w => ?_⟩
      rw [e]; exact build_struct hu hz hps hcs w
    · rename_i len el hu
      obtain ⟨sz, hsz, hq⟩ := opt_some hk
      clear hk
      have hk := hq
      clear hq
      obtain ⟨cs, hcs, hq⟩ := opt_some hk
      clear hk
      have hk := hq
      clear hq
      refine ⟨_, hk, gives_of (Instr.build T (parts.map fun (p : Nat × Operand) => (p.1, ρ p.2))) (by unfold execOp; simp [hop]) fun w => ?_⟩
      rw [e]; exact build_array hu hz hsz hcs w
    · exact hk.elim
  case h_17 _ args ats hop => -- len
    split at h
    · rename_i x T hargs hats
      have ea : args = #[x] := by apply Array.ext'; simpa using hargs
      have et : ats = #[T] := by apply Array.ext'; simpa using hats
      subst ea et
      split at h
      · rename_i e hu
        obtain rfl := Option.some.inj h
        obtain ⟨sx, hx, hq⟩ := opt_some hp
        clear hp h
        have hk := hq
        clear hq
        split at hk
        · exact ⟨_, hk, fun w => by unfold execOp; simp [hop, resolve, invoke, builtin, hv _ _ hx, SV.val, Builtin.len_, run_underlying hu, goInt]⟩
        · exact hk.elim
      · rename_i hu
        obtain rfl := Option.some.inj h
        obtain ⟨sx, hx, hq⟩ := opt_some hp
        clear hp h
        have hk := hq
        clear hq
        split at hk
        · exact ⟨_, hk, fun w => by unfold execOp; simp [hop, resolve, invoke, builtin, hv _ _ hx, SV.val, Builtin.len_, run_underlying hu, goInt]⟩
        · exact hk.elim
      · cases h
    · cases h
  case h_18 _ args ats hop => -- cap
    split at h
    · rename_i x T hargs hats
      have ea : args = #[x] := by apply Array.ext'; simpa using hargs
      have et : ats = #[T] := by apply Array.ext'; simpa using hats
      subst ea et
      split at h
      · rename_i e hu
        obtain rfl := Option.some.inj h
        obtain ⟨sx, hx, hq⟩ := opt_some hp
        clear hp h
        have hk := hq
        clear hq
        split at hk
        · exact ⟨_, hk, fun w => by unfold execOp; simp [hop, resolve, invoke, builtin, hv _ _ hx, SV.val, Builtin.cap_, run_underlying hu, goInt]⟩
        · exact hk.elim
      · cases h
    · cases h
  case h_19 _ args ats hop => -- min
    split at h
    · rename_i x y hargs
      have ea : args = #[x, y] := by apply Array.ext'; simpa using hargs
      subst ea
      obtain rfl := Option.some.inj h
      obtain ⟨sx, hx, hq⟩ := opt_some hp
      clear hp h
      have hk := hq
      clear hq
      obtain ⟨sy, hy, hq⟩ := opt_some hk
      clear hk
      have hk := hq
      clear hq
      split at hk
      · exact ⟨_, hk, fun w => by unfold execOp; simp [hop, resolve, invoke, builtin, hv _ _ hx, hv _ _ hy, SV.val, Builtin.min_, Builtin.min2]⟩
      · exact hk.elim
    · rename_i x y z hargs
      have ea : args = #[x, y, z] := by apply Array.ext'; simpa using hargs
      subst ea
      obtain rfl := Option.some.inj h
      obtain ⟨sx, hx, hq⟩ := opt_some hp
      clear hp h
      have hk := hq
      clear hq
      obtain ⟨sy, hy, hq⟩ := opt_some hk
      clear hk
      have hk := hq
      clear hq
      obtain ⟨sz, hz, hq⟩ := opt_some hk
      clear hk
      have hk := hq
      clear hq
      split at hk
      · exact ⟨_, hk, fun w => by unfold execOp; simp [hop, resolve, invoke, builtin, hv _ _ hx, hv _ _ hy, hv _ _ hz, SV.val, Builtin.min_, Builtin.min2]⟩
      · exact hk.elim
    · cases h
  case h_20 _ args ats hop => -- max
    split at h
    · rename_i x y hargs
      have ea : args = #[x, y] := by apply Array.ext'; simpa using hargs
      subst ea
      obtain rfl := Option.some.inj h
      obtain ⟨sx, hx, hq⟩ := opt_some hp
      clear hp h
      have hk := hq
      clear hq
      obtain ⟨sy, hy, hq⟩ := opt_some hk
      clear hk
      have hk := hq
      clear hq
      split at hk
      · exact ⟨_, hk, fun w => by unfold execOp; simp [hop, resolve, invoke, builtin, hv _ _ hx, hv _ _ hy, SV.val, Builtin.max_, Builtin.max2]⟩
      · exact hk.elim
    · cases h
  case h_21 => cases h
end
end Go.Vc
