/-
  The verification conditions suffice: memory and calls.
-/
import Derived.Test.YtffhlgejfgmpiaaGreatDoorVcMem
import Derived.Deep.LoopGhost
namespace Go.Vc
open Go.RowKit

theorem Ex_elim {k : Kd} {F : SV → Prop} (h : Ex k F) : ∃ s, F s := by
  cases k with
  | int k => obtain ⟨n, h⟩ := h; exact ⟨_, h⟩
  | bool => obtain ⟨n, h⟩ := h; exact ⟨_, h⟩
  | str => obtain ⟨n, h⟩ := h; exact ⟨_, h⟩
  | ptr => obtain ⟨n, h⟩ := h; exact ⟨_, h⟩
  | slice => obtain ⟨p, l, c, h⟩ := h; exact ⟨_, h⟩
  | flt k => obtain ⟨n, h⟩ := h; exact ⟨_, h⟩
  | fn => obtain ⟨g, f, c, h⟩ := h; exact ⟨_, h⟩
  | any => obtain ⟨n, h⟩ := h; exact ⟨_, h⟩
theorem ExL_elim : ∀ {ks : List Kd} {F : List SV → Prop}, ExL ks F → ∃ ss, F ss
  | [], _, h => ⟨[], h⟩
  | _ :: _, _, h => by
    obtain ⟨s, h⟩ := Ex_elim h
    obtain ⟨ss, h⟩ := ExL_elim h
    exact ⟨_, h⟩
theorem ExR_elim {k : Rk} {F : SV → Prop} (h : ExR k F) : ∃ s, F s := by
  cases k with
  | one k => exact Ex_elim h
  | agg ks => obtain ⟨ss, h⟩ := ExL_elim h; exact ⟨_, h⟩
theorem ExRL_elim : ∀ {ks : List Rk} {F : List SV → Prop}, ExRL ks F → ∃ ss, F ss
  | [], _, h => ⟨[], h⟩
  | _ :: _, _, h => by
    obtain ⟨s, h⟩ := ExR_elim h
    obtain ⟨ss, h⟩ := ExRL_elim h
    exact ⟨_, h⟩
theorem ResVc_elim {P : Program} {t : TypeId} {F : SV → Prop} (h : ResVc P t F) : ∃ s, F s := by
  unfold ResVc at h
  split at h
  · split at h
    · exact ⟨_, h⟩
    · obtain ⟨rs, _, h⟩ := opt_some h
      obtain ⟨ss, h⟩ := ExRL_elim h
      exact ⟨_, h⟩
  · obtain ⟨r, _, h⟩ := opt_some h
    exact ExR_elim h
theorem addrVc_elim {s : SV} {F : Nat → Nat → Prop} (h : addrVc s F) : ∃ b o, s.val = .pointer (some ⟨b, o, none⟩) ∧ F b o := by
  unfold addrVc at h
  split at h
  · exact ⟨_, _, rfl, h⟩
  · obtain ⟨b, o, rfl, h⟩ := h
    exact ⟨b, o, rfl, h⟩
  · exact h.elim

section
variable {P : Program} {A : Ann}

theorem loadL_elim {w : World} {b : Nat} : ∀ {ks : List Kd} {o : Nat} {F : List Value → Prop}, loadL w b o ks F →
    ∃ vs, vs.length = ks.length ∧ (∀ j u, vs[j]? = some u → w.cell? ⟨b, o + j, none⟩ = some u) ∧ F vs
  | [], o, F, h => ⟨[], rfl, by simp, h⟩
  | k :: ks, o, F, h => by
    obtain ⟨s, hc, h⟩ := Ex_elim h
    obtain ⟨vs, hl, hv, h⟩ := loadL_elim h
    refine ⟨s.val :: vs, by simp [hl], fun j u hj => ?_, h⟩
    cases j with
    | zero => simp at hj; subst hj; exact hc
    | succ j => simp at hj; have := hv j u hj; rwa [show o + 1 + j = o + (j + 1) by omega] at this
theorem load_one {T : TypeId} (ht : isAggT P T = some false) {w : World} {b o : Nat} {x : Value} (hc : w.cell? ⟨b, o, none⟩ = some x) :
    (Instr.loadAt T (.pointer (some ⟨b, o, none⟩))).run P w = .ok x w := by
  simp only [Instr.loadAt, Instr.sureAddr, loadVar, Sem.run_bind, Sem.run_pure, Result.andThen_ok, isAggT_run ht, Bool.false_eq_true, if_false, run_load, hc]
theorem load_agg {T : TypeId} (ht : isAggT P T = some true) {sz : Nat} (hs : sizeO P T = some sz) {w : World} {b o : Nat} {vs : List Value} (hl : vs.length = sz)
    (hc : ∀ j u, vs[j]? = some u → w.cell? ⟨b, o + j, none⟩ = some u) : (Instr.loadAt T (.pointer (some ⟨b, o, none⟩))).run P w = .ok (.agg vs.toArray) w := by
  subst hl
  have := run_loadCells_list (P := P) w ⟨b, o, none⟩ vs (fun j v hj => by rw [add_plain']; exact hc j v hj)
  simp only [Instr.loadAt, Instr.sureAddr, loadVar, Sem.run_bind, Sem.run_pure, Result.andThen_ok, isAggT_run ht, sizeO_run hs, if_true, this]
theorem store_one {w : World} {b o : Nat} {x : Value} (h1 : x.oneCell' = true) (h : CanStore w b o) : (store ⟨b, o, none⟩ x).run P w = .ok () (w.setCell ⟨b, o, none⟩ x) := by
  obtain ⟨⟨u, hu⟩, hf⟩ := h
  rw [run_store P w _ x _ h1, hu]
  simp [hf]
theorem storeL_elim {b o : Nat} : ∀ {vs : List Value} {i : Nat} {w : World} {F : World → Prop}, storeL b (o + i) vs w F →
    ∃ w', (storeCells ⟨b, o, none⟩ vs i).run P w = .ok () w' ∧ F w'
  | [], i, w, F, h => ⟨w, rfl, h⟩
  | x :: r, i, w, F, h => by
    unfold storeL at h
    split at h
    · rename_i h1
      obtain ⟨hs, h⟩ := h
      obtain ⟨w', hr, hF⟩ := storeL_elim (i := i + 1) (h _ ⟨rfl⟩)
      refine ⟨w', ?_, hF⟩
      simp only [storeCells, Sem.run_bind, add_plain', store_one h1 hs, Result.andThen_ok, hr]
    · exact h.elim
theorem zerosL_eq (z : Value) (n sz : Nat) (hz : z.cells.size = sz) (hsz : 0 < sz) : ((Array.range (n * sz)).map (z.cells[· % z.cells.size]!)).toList = zerosL z n := by
  simp only [Array.toList_map, Array.toList_range]
  induction n with
  | zero => simp [zerosL]
  | succ n ih =>
    rw [Nat.succ_mul, List.range_add, List.map_append, ih]
    unfold zerosL
    rw [List.replicate_succ', List.flatten_append]
    congr 1
    simp only [List.map_map, List.flatten_cons, List.flatten_nil, List.append_nil]
    apply List.ext_getElem
    · simp [hz]
    · intro i h1 h2
      simp only [List.length_map, List.length_range] at h1
      simp only [List.getElem_map, List.getElem_range, Function.comp, hz]
      rw [Nat.mul_comm n sz, Nat.mul_add_mod, Nat.mod_eq_of_lt h1]
      rw [getElem!_pos z.cells i (by omega)]
      simp
theorem callFunc_run {g : FuncId} (h : callableB P g = true) (args : Array Value) (w : World) : (callFunc g args).run P w = .ok (.enter g args) w := by
  unfold callableB at h
  split at h
  · rename_i fn hf
    simp only [Bool.and_eq_true, Bool.not_eq_true'] at h
    obtain ⟨h1, h2⟩ := h
    have h3 : fn.body.isNone = false := by cases hb : fn.body <;> simp_all
    have hp : ∀ w, (program).run P w = .ok P w := fun w => rfl
    simp only [callFunc, Sem.run_bind, hp, Result.andThen_ok, hf, h1, h3, Bool.false_eq_true, if_false, Sem.run_pure]
  · cases h

/-- The fence of a frame: that of an activation, or of a round. -/
abbrev Fr (ro : Option Nat) : Fence := { Fence.wide with round := ro }
theorem callsIn_fr {ro : Option Nat} {n : Nat} {f : FuncId} {args : Array Value} {w : World} {R : Ending → World → Prop} (h : Calls P f args w R) : CallsIn (Fr ro) n P f args w R :=
  (callsIn_wide (n := n)).2 h
theorem fr_vac {ro : Option Nat} {n : Nat} : (Fr ro).depth.isSome = true → 1 ≤ n := fun h => absurd h (by simp [Fence.wide])
/-- The operation comes to a value and a world of which N holds; or it panics. -/
def EffQ (P : Program) (o : Oper) (a : Act) (w : World) (N : Value → World → Prop) (Qp : List PanicEntry → World → Prop) : Prop :=
  (∃ x w', (execOp a.eval o).run P w = .ok (.value x) w' ∧ N x w') ∨ (∃ w', (execOp a.eval o).run P w = .ok .skip w' ∧ N undef w') ∨
    (∃ f args, (execOp a.eval o).run P w = .ok (.enter f args) w ∧ Calls P f args w fun e w' => (∃ x, e = .returned x ∧ N x w') ∨ ∃ ch, e = .panicked ch ∧ Qp ch w') ∨
    (∃ v, (execOp a.eval o).run P w = .halt (.panic v) w ∧ Qp [{ v := v, recovered := false }] w) ∨
    (∃ l f ts as body, (execOp a.eval o).run P w = .ok (.round l f ts as body) w ∧ RoundIn Fence.wide 0 P l f ts as body w fun e w' => ∃ x, e = .returned x ∧ N x w')
theorem EffQ.wp {ro : Option Nat} {o : Oper} {a : Act} {w : World} {N : Value → World → Prop} {Qp : List PanicEntry → World → Prop} {next : Act → World → Prop} {Q : Exit → Act → World → Prop} (hd : ∀ c, o.op ≠ .defer c) (h : EffQ P o a w N Qp)
    (hn : ∀ x w', N x w' → next (a.put o.dst x) w') (hQ : ∀ ch w', Qp ch w' → Q (.panic ch) a w') : o.wpIn (Fr ro) 0 P a w next Q := by
  refine ⟨fun _ _ => trivial, ?_⟩
  rw [Oper.semAt_eq _ _ _ hd]
  rcases h with ⟨x, w', h, n⟩ | ⟨w', h, n⟩ | ⟨f, as, h, n⟩ | ⟨v, h, n⟩ | ⟨l, f, ts, as, body, h, n⟩
  · rw [h]; exact hn _ _ n
  · rw [h]; exact hn _ _ n
  · rw [h]; exact ⟨fr_vac, callsIn_fr (n.mono fun e w' hr => by
      rcases hr with ⟨x, he, k⟩ | ⟨ch, he, k⟩
      · subst he; exact hn _ _ k
      · subst he; exact hQ _ _ k)⟩
  · rw [h]; exact hQ _ _ n
  · rw [h]
    have hr : RoundIn Fence.wide 0 P l f ts as body w (fun
      | .returned v, w'' => next (a.put o.dst v) w''
      | .panicked chain, w'' => Q (.panic chain) a w''
      | .outgrown, _ => LetsOut Q) := n.mono fun e w' ⟨x, he, k⟩ => by subst he; exact hn _ _ k
    exact ⟨fr_vac, hr⟩
theorem eff_value {o : Oper} {a : Act} {w w' : World} {N : Value → World → Prop} {Qp : List PanicEntry → World → Prop} (x : Value) (S : Sem Value) (he : execOp a.eval o = (do pure (.value (← S))))
    (hr : S.run P w = .ok x w') (h : N x w') : EffQ P o a w N Qp :=
  .inl ⟨x, w', by rw [he]; simp only [Sem.run_bind, hr, Result.andThen_ok, Sem.run_pure], h⟩
theorem eff_unit {o : Oper} {a : Act} {w w' : World} {N : Value → World → Prop} {Qp : List PanicEntry → World → Prop} (S : Sem Unit) (he : execOp a.eval o = (do S; pure .skip))
    (hr : S.run P w = .ok () w') (h : N undef w') : EffQ P o a w N Qp :=
  .inr (.inl ⟨w', by rw [he]; simp only [Sem.run_bind, hr, Result.andThen_ok, Sem.run_pure], h⟩)
theorem eff_enter {o : Oper} {a : Act} {w : World} {N : Value → World → Prop} {Qp : List PanicEntry → World → Prop} {g : FuncId} {args : Array Value}
    (he : (execOp a.eval o).run P w = .ok (.enter g args) w) {R : Ending → World → Prop} (hc : Calls P g args w R)
    (hR : ∀ e w', R e w' → (∃ x, e = .returned x ∧ N x w') ∨ (∃ ch, e = .panicked ch ∧ Qp ch w')) : EffQ P o a w N Qp :=
  .inr (.inr (.inl ⟨g, args, he, hc.mono hR⟩))
theorem eff_round {o : Oper} {a : Act} {w : World} {N : Value → World → Prop} {Qp : List PanicEntry → World → Prop} {l : Nat} {args : Array Value}
    (he : (execOp a.eval o).run P w = (Instr.yield l args).run P w) {R : Ending → World → Prop} (hc : YieldsV P l args w R)
    (hR : ∀ e w', R e w' → ∃ x, e = .returned x ∧ N x w') : EffQ P o a w N Qp := by
  obtain ⟨f, ts, as, body, hy, hr⟩ := hc
  exact .inr (.inr (.inr (.inr ⟨l, f, ts, as, body, he.trans hy, hr.mono hR⟩)))
theorem exec_call {o : Oper} {a : Act} {w : World} {f : Operand} {args : Array Operand} {ats : Array TypeId} {g : FuncId} {first caps : Array Value}
    (hop : o.op = .call { callee := .value f, args := args, argTypes := ats }) (hf : a.eval f = .func (.func g) first caps) (hc : callableB P g = true) :
    (execOp a.eval o).run P w = .ok (.enter g (first ++ args.map a.eval ++ caps)) w := by
  unfold execOp
  simp only [hop, resolve, hf, Deferred.ofValue, Sem.run_bind, Sem.run_pure, Result.andThen_ok, invoke]
  rw [callFunc_run hc]

theorem exec_callv {o : Oper} {a : Act} {w : World} {f : Operand} {args : Array Operand} {ats : Array TypeId} {g : FuncId} {first caps : Array Value}
    (hop : o.op = .call { callee := .value f, args := args, argTypes := ats }) (hf : a.eval f = .func (.func g) first caps) :
    (execOp a.eval o).run P w = (callFunc g (first ++ args.map a.eval ++ caps)).run P w := by
  unfold execOp
  simp only [hop, resolve, hf, Deferred.ofValue, Sem.run_bind, Sem.run_pure, Result.andThen_ok, invoke]
theorem eff_does {o : Oper} {a : Act} {w : World} {N : Value → World → Prop} {Qp : List PanicEntry → World → Prop} {f : Operand} {args : Array Operand} {ats : Array TypeId} {g : FuncId} {first caps : Array Value}
    (hop : o.op = .call { callee := .value f, args := args, argTypes := ats }) (hf : a.eval f = .func (.func g) first caps) {R : Ending → World → Prop} {as : Array Value} (has : as = first ++ args.map a.eval ++ caps) (h : Does P g as w R)
    (hR : ∀ e w', R e w' → (∃ x, e = .returned x ∧ N x w') ∨ (∃ ch, e = .panicked ch ∧ Qp ch w')) : EffQ P o a w N Qp := by
  subst has
  rcases h with ⟨hc, h⟩ | ⟨_, v, w', hr, h⟩
  · exact eff_enter (by rw [exec_call hop hf hc]) h hR
  · rcases hR _ _ h with ⟨x, e, n⟩ | ⟨ch, e, _⟩
    · injection e with e
      subst e
      exact .inl ⟨v, w', by rw [exec_callv hop hf]; exact hr, n⟩
    · cases e

theorem mem_eff {o : Oper} {v : Operand → Option SV} {K : SV → World → Prop} {Qp : List PanicEntry → World → Prop} {w : World} {a : Act}
    (hv : ∀ x s, v x = some s → a.eval x = s.val) (h : memVc P A o v K Qp w) : EffQ P o a w (fun x w' => ∃ s, x = s.val ∧ K s w') Qp := by
  have hK : ∀ s w', K s w' → ∃ s', SV.val s = s'.val ∧ K s' w' := fun s w' h => ⟨s, rfl, h⟩
  unfold memVc at h
  split at h
  · rename_i T x hop -- load
    obtain ⟨sx, hx, h⟩ := opt_some h
    split at h
    · rename_i ht
      obtain ⟨k, hk, h⟩ := opt_some h
      obtain ⟨b, o', hb, h⟩ := addrVc_elim h
      obtain ⟨s, hc, h⟩ := Ex_elim h
      exact eff_value s.val (Instr.loadAt T (a.eval x)) (by unfold execOp; simp [hop]) (by rw [hv _ _ hx, hb]; exact load_one ht hc) (hK _ _ h)
    · rename_i ht
      obtain ⟨ks, hk, h⟩ := opt_some h
      obtain ⟨sz, hsz, h⟩ := opt_some h
      split at h
      · rename_i hl
        have hl := of_decide_eq_true hl
        obtain ⟨b, o', hb, h⟩ := addrVc_elim h
        split at h
        · obtain ⟨vs, h1, h2, h3⟩ := loadL_elim h
          exact eff_value (.agg vs.toArray) (Instr.loadAt T (a.eval x)) (by unfold execOp; simp [hop]) (by rw [hv _ _ hx, hb]; exact load_agg ht hsz (by omega) h2) (hK _ _ h3)
        · obtain ⟨vs, h1, h2, h3⟩ := h
          exact eff_value (.agg vs.toArray) (Instr.loadAt T (a.eval x)) (by unfold execOp; simp [hop]) (by rw [hv _ _ hx, hb]; exact load_agg ht hsz h1 h2) (hK _ _ h3)
      · exact h.elim
    · exact h.elim
  · rename_i T x y hop -- store
    obtain ⟨sx, hx, h⟩ := opt_some h
    obtain ⟨sy, hy, h⟩ := opt_some h
    obtain ⟨sz, hsz, h⟩ := opt_some h
    split at h
    · rename_i hl
      have hl := of_decide_eq_true hl
      obtain ⟨b, o', hb, h⟩ := addrVc_elim h
      obtain ⟨w', hr, h⟩ := storeL_elim (P := P) (i := 0) h
      refine eff_unit (Instr.storeAt T (a.eval x) (a.eval y)) (by unfold execOp; simp [hop]) ?_ (hK _ _ h)
      rw [hv _ _ hx, hb, hv _ _ hy]
      simp only [Instr.storeAt, Instr.sureAddr, storeVar, Sem.run_bind, Sem.run_pure, Result.andThen_ok, sizeO_run hsz, hl, ne_eq, not_true_eq_false, if_false, hr]
    · exact h.elim
  · rename_i T hop -- alloc
    obtain ⟨z, hz, h⟩ := opt_some h
    refine eff_value (.pointer (some ⟨w.heap.size, 0, none⟩)) (Instr.alloc T true (.tuple #[])) (by unfold execOp; simp [hop]) ?_ (hK _ _ (h _ _ ⟨rfl, rfl⟩))
    simp only [Instr.alloc, Sem.run_bind, zeroO_run hz, Result.andThen_ok, newVar, newRow, Sem.run_pure, newObj, Sem.run]
    simp
  · rename_i T x hop -- box
    obtain ⟨sx, hx, h⟩ := opt_some h
    refine eff_value (.pointer (some ⟨w.heap.size, 0, none⟩)) (Instr.box T (a.eval x)) (by unfold execOp; simp [hop]) ?_ (hK _ _ (h _ _ ⟨rfl, rfl⟩))
    rw [hv _ _ hx]
    simp only [Instr.box, Sem.run_bind, newVar, newRow, Sem.run_pure, newObj, Sem.run, Result.andThen_ok]
    simp
  · rename_i T n parts hop -- buildSlice
    obtain ⟨e, he, h⟩ := opt_some h
    obtain ⟨sz, hsz, h⟩ := opt_some h
    obtain ⟨z, hz, h⟩ := opt_some h
    obtain ⟨vs, hvs, h⟩ := optL_some h
    have hu : P.underlying T = some (.slice e) := by
      unfold elemOf at he
      split at he
      · rename_i e' hu; simp at he; subst he; exact hu
      · cases he
    have ep : parts.map (fun (p : Nat × Operand) => (p.1, a.eval p.2)) = vs.toArray := by apply Array.ext'; simp [parts_run hv hvs]
    have hx : execOp a.eval o = (do pure (.value (← Instr.buildSlice T n vs.toArray))) := by unfold execOp; rw [hop, ← ep]
    split at h
    · rename_i h1 h2 h3
      have h1 := of_decide_eq_true h1
      have h2 := of_decide_eq_true h2
      have h3 := of_decide_eq_true h3
      obtain ⟨cs, hcs, h⟩ := opt_some h
      refine eff_value (.slice (some ⟨w.heap.size, 0, none⟩) n n) _ hx ?_ (hK _ _ (h _ _ ⟨rfl, rfl⟩))
      have hz0 : 0 < sz := Nat.pos_of_mul_pos_left h3
      have hfill := fill_sound ((List.range n).map fun i => (i * sz, sz)) (fun i => some (i * sz, sz)) (fun i x h => by
        rw [List.getElem?_map] at h
        cases hr : (List.range n)[i]? with
        | none => simp [hr] at h
        | some j =>
          rw [hr] at h
          obtain ⟨_, hj⟩ := List.getElem?_eq_some_iff.1 hr
          simp at hj
          subst hj
          simpa using h) vs (zerosL z n) cs hcs
      have hzs := zerosL_eq z n sz h2 hz0
      have hzs' : (Array.range (n * sz)).map (z.cells[· % z.cells.size]!) = (zerosL z n).toArray := by apply Array.ext'; simpa using hzs
      have n1 : ¬ n * sz > 2 ^ 24 := by omega
      have n2 : ¬ n * sz = 0 := by omega
      simp only [Instr.buildSlice, Sem.run_bind, run_underlying hu, sizeO_run hsz, Result.andThen_ok, n1, if_false, n2, zeroO_run hz, Sem.run_pure, hzs', hfill, newRow, newObj, Sem.run]
      simp
    · rename_i h1 h2 h3
      have h3 := of_decide_eq_false h3
      split at h
      · refine eff_value (.slice (some ⟨w.heap.size, 0, none⟩) n n) _ hx ?_ (hK _ _ (h _ _ ⟨rfl, rfl⟩))
        have n1 : n * sz = 0 := by omega
        simp only [Instr.buildSlice, Sem.run_bind, run_underlying hu, sizeO_run hsz, Result.andThen_ok, n1, Instr.fill, newRow, newObj, Sem.run]
        simp only [newObj, Array.range_zero', Sem.run]
        simp
        rfl
      · exact h.elim
    · exact h.elim
  · rename_i T l c hop -- makeSlice
    obtain ⟨e, he, h⟩ := opt_some h
    obtain ⟨z, hz, h⟩ := opt_some h
    obtain ⟨i, hi, h⟩ := opt_some h
    obtain ⟨sl, hl, h⟩ := opt_some h
    obtain ⟨sc, hc, h⟩ := opt_some h
    obtain ⟨n, hn, h⟩ := opt_some h
    obtain ⟨m, hm, h⟩ := opt_some h
    obtain ⟨kn, hkn⟩ := intOfV_some hn
    obtain ⟨km, hkm⟩ := intOfV_some hm
    have hu : P.underlying T = some (.slice e) := by
      unfold elemOf at he
      split at he
      · rename_i e' hu; simp at he; subst he; exact hu
      · cases he
    split at h
    · rename_i h1 h2
      have h1 := of_decide_eq_true h1
      have h2 := of_decide_eq_true h2
      obtain ⟨⟨b1, b2, b3, b4⟩, h⟩ := h
      have hz' : i.zero = some z := by unfold zeroO at hz; simpa [hi] using hz
      refine eff_value (.slice (some ⟨w.heap.size, 0, none⟩) n.toNat m.toNat) (Instr.makeSlice T (a.eval l) (a.eval c)) (by unfold execOp; simp [hop]) ?_ (hK _ _ (h _ _ ⟨rfl, rfl⟩))
      rw [hv _ _ hl, hv _ _ hc, hkn, hkm, run_make w T e i z hu hi hz' kn km n m b1 b2 (by rw [Int.mul_comm]; omega) b4]
      have hzs := zerosL_eq z m.toNat i.size h1 h2
      congr 3
      unfold madeCells
      apply Array.ext'
      simpa using hzs
    · exact h.elim
  · rename_i op T x y yT hop -- the arithmetic of floats
    split at h
    · rename_i hfl
      obtain ⟨sx, hx, h⟩ := opt_some h
      obtain ⟨sy, hy, h⟩ := opt_some h
      obtain ⟨k, hk, h⟩ := opt_some h
      obtain ⟨s, h⟩ := Ex_elim h
      obtain ⟨w', hr, h⟩ := h
      have hg : eqGuard op T x y (a.eval x) (a.eval y) = pure () := by
        unfold fltB at hfl
        split at hfl
        · unfold arithB at hfl
          unfold eqGuard
          split at hfl <;> first | rfl | cases hfl
        · cases hfl
      exact eff_value s.val (binOp op T (a.eval x) (a.eval y)) (by unfold execOp; simp only [hop, hg]; rfl) (by rw [hv _ _ hx, hv _ _ hy]; exact hr) (hK _ _ h)
    · split at h
      · rename_i hnb
        obtain ⟨sx, hx, h⟩ := opt_some h
        obtain ⟨b, hb, h⟩ := h
        obtain ⟨ms, hu, hy, hop2⟩ : ∃ ms, P.underlying T = some (.interface ms) ∧ y = .const .nilIface ∧ (op = .eql ∨ op = .neq) := by
          unfold nilB at hnb
          split at hnb
          · exact ⟨_, by assumption, rfl, .inl rfl⟩
          · exact ⟨_, by assumption, rfl, .inr rfl⟩
          · cases hnb
        subst hy
        have ey : a.eval (.const .nilIface) = .nilIface := rfl
        have hval : a.eval x = sx.val := hv _ _ hx
        have hg : eqGuard op T x (.const .nilIface) (a.eval x) (a.eval (.const .nilIface)) = pure () := by
          rw [hval, ey]
          rcases hb with ⟨h1, _⟩ | ⟨⟨t, v, h1⟩, _⟩ <;> rw [h1]
          · exact eqGuard_nil_constR ..
          · exact eqGuard_at_iface ..
        have hr : (binOp op T (a.eval x) (a.eval (.const .nilIface))).run P w = .ok (.bool (nilR op b)) w := by
          rw [hval, ey]
          have he2 : (Op.equal T sx.val .nilIface).run P w = .ok b w := equalIn_nil hu 9999 hb w
          have hbin : binOp op T sx.val .nilIface = (do let b ← Op.equal T sx.val .nilIface; pure (.bool (nilR op b)) : Sem Value) := by
            rcases hb with ⟨h1, _⟩ | ⟨⟨t, v, h1⟩, _⟩ <;> rcases hop2 with rfl | rfl <;> rw [h1] <;> simp [binOp, nilR]
          rw [hbin]
          simp only [Sem.run_bind, he2, Result.andThen_ok, Sem.run_pure]
        exact eff_value _ (binOp op T (a.eval x) (a.eval (.const .nilIface))) (by unfold execOp; simp only [hop, hg]; rfl) hr (hK _ _ h)
      · split at h
        · obtain ⟨sx, hx, h⟩ := opt_some h
          obtain ⟨sy, hy, h⟩ := opt_some h
          obtain ⟨hgu, b, w', hr, h⟩ := h
          have hg : eqGuard op T x y (a.eval x) (a.eval y) = pure () := by
            rw [hv _ _ hx]
            rcases hgu with ⟨p, e⟩ | ⟨t, u, e⟩ <;> rw [e]
            · exact eqGuard_at_pointer ..
            · exact eqGuard_at_iface ..
          exact eff_value (.bool b) (binOp op T (a.eval x) (a.eval y)) (by unfold execOp; simp only [hop, hg]; rfl) (by rw [hv _ _ hx, hv _ _ hy]; exact hr) (hK _ _ h)
        · exact h.elim
  · rename_i src dst x hop -- convert
    obtain ⟨sx, hx, h⟩ := opt_some h
    obtain ⟨k, hk, h⟩ := opt_some h
    obtain ⟨s, h⟩ := Ex_elim h
    obtain ⟨w', hr, h⟩ := h
    exact eff_value s.val (convert src dst (a.eval x)) (by unfold execOp; simp [hop]) (by rw [hv _ _ hx]; exact hr) (hK _ _ h)
  · rename_i args ats hop -- append
    obtain ⟨ss, hss, h⟩ := optL_some h
    obtain ⟨p, l, c, w', hr, h⟩ := h
    refine eff_value (.slice p l c) (Builtin.append_ ats o.type (args.map a.eval)) (by unfold execOp; simp [hop, resolve, invoke, builtin]) ?_ (hK _ _ h)
    have e1 : args.map a.eval = (ss.map SV.val).toArray := by apply Array.ext'; simp [map_of_some hv hss]
    rw [e1]; exact hr
  · rename_i args ats hop -- copy
    obtain ⟨ss, hss, h⟩ := optL_some h
    obtain ⟨n, w', hr, h⟩ := h
    refine eff_value (.int .i64 n) (Builtin.copy_ ats o.type (args.map a.eval)) (by unfold execOp; simp [hop, resolve, invoke, builtin]) ?_ (hK _ _ h)
    have e1 : args.map a.eval = (ss.map SV.val).toArray := by apply Array.ext'; simp [map_of_some hv hss]
    rw [e1]; exact hr
  · rename_i args ats hop -- unsafe.String
    obtain ⟨ss, hss, h⟩ := optL_some h
    obtain ⟨s, w', hr, h⟩ := h
    refine eff_value (.string s) (Builtin.unsafeString_ ats o.type (args.map a.eval)) (by unfold execOp; simp [hop, resolve, invoke, builtin]) ?_ (hK _ _ h)
    have e1 : args.map a.eval = (ss.map SV.val).toArray := by apply Array.ext'; simp [map_of_some hv hss]
    rw [e1]; exact hr
  · rename_i f args ats hop -- call
    obtain ⟨sf, hf, h⟩ := opt_some h
    obtain ⟨ss, hss, h⟩ := optL_some h
    split at h
    · rename_i f first caps _
      have e1 : args.map a.eval = (ss.map SV.val).toArray := by apply Array.ext'; simp [map_of_some hv hss]
      split at h
      · cases f with
        | func g =>
          refine eff_does hop (hv _ _ hf) (by rw [e1]) h fun e w' hr => ?_
          obtain ⟨s, rfl, hk⟩ := ResVc_elim hr
          exact .inl ⟨_, rfl, hK _ _ hk⟩
        | yield l =>
          refine eff_round (l := l) (args := first ++ (ss.map SV.val).toArray) ?_ h fun e w' hr => ?_
          · rw [← e1]
            unfold execOp
            simp only [hop, resolve, hv _ _ hf, SV.val, Deferred.ofValue, Sem.run_bind, Sem.run_pure, Result.andThen_ok, invoke]
          · obtain ⟨s, rfl, hk⟩ := ResVc_elim hr
            exact ⟨_, rfl, hK _ _ hk⟩
        | _ => exact h.elim
      · cases f with
        | func g =>
          refine eff_does hop (hv _ _ hf) (by rw [e1]) h fun e w' hr => ?_
          rcases hr with hr | ⟨ch, rfl, hq⟩
          · obtain ⟨s, rfl, hk⟩ := ResVc_elim hr
            exact .inl ⟨_, rfl, hK _ _ hk⟩
          · exact .inr ⟨ch, rfl, hq⟩
        | _ => exact h.elim
      · cases f with
        | func g =>
          unfold callVc at h
          simp only at h
          split at h
          · refine eff_does hop (hv _ _ hf) (by rw [e1]) h fun e w' hr => ?_
            obtain ⟨s, rfl, hk⟩ := ResVc_elim hr
            exact .inl ⟨_, rfl, hK _ _ hk⟩
          · refine eff_does hop (hv _ _ hf) (by rw [e1]) h fun e w' hr => ?_
            rcases hr with hr | ⟨ch, rfl, hq⟩
            · obtain ⟨s, rfl, hk⟩ := ResVc_elim hr
              exact .inl ⟨_, rfl, hK _ _ hk⟩
            · exact .inr ⟨ch, rfl, hq⟩
        | _ => exact h.elim
    · exact h.elim
  · rename_i x hop -- panic
    obtain ⟨sx, hx, h⟩ := opt_some h
    split at h
    · refine .inr (.inr (.inr (.inl ⟨_, ?_, h⟩)))
      unfold execOp
      simp only [hop, hv _ _ hx, SV.val, Instr.panic, goPanic, Sem.run_bind, Sem.run_halt, Result.andThen_halt]
    · exact h.elim
  · exact h.elim
theorem mem_nodef {o : Oper} {v : Operand → Option SV} {K : SV → World → Prop} {Qp : List PanicEntry → World → Prop} {w : World} (h : memVc P A o v K Qp w) : ∀ c, o.op ≠ .defer c := by
  intro c hc
  unfold memVc at h
  rw [hc] at h
  exact h.elim
theorem mem_sound {ro : Option Nat} {o : Oper} {v : Operand → Option SV} {K : SV → World → Prop} {Qp : List PanicEntry → World → Prop} {w : World} {a : Act} {next : Act → World → Prop} {Q : Exit → Act → World → Prop}
    (hv : ∀ x s, v x = some s → a.eval x = s.val) (h : memVc P A o v K Qp w) (hK : ∀ s w', K s w' → next (a.put o.dst s.val) w') (hQ : ∀ ch w', Qp ch w' → Q (.panic ch) a w') : o.wpIn (Fr ro) 0 P a w next Q :=
  (mem_eff hv h).wp (mem_nodef h) (fun x w' ⟨s, e, k⟩ => by subst e; exact hK s w' k) hQ
end
end Go.Vc
