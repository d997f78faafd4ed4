/-
  The verification conditions of the operations that leave the world alone suffice.
-/
import Derived.Test.YtffhlgejfgmpiaaGreatDoorVc
namespace Go.Vc
open Go.RowKit

/-- The operation answers this value, whatever the world. -/
def Gives (P : Program) (ρ : Operand → Value) (o : Oper) (s : SV) : Prop := ∀ w, (execOp ρ o).run P w = .ok (.value s.val) w

theorem opt_some {α : Type} {x : Option α} {K : α → Prop} (h : opt x K) : ∃ a, x = some a ∧ K a := by
  cases x with
  | none => exact h.elim
  | some a => exact ⟨a, rfl, h⟩
theorem optL_some {α β : Type} {f : α → Option β} : ∀ {l : List α} {K : List β → Prop}, optL f l K → ∃ bs, l.map f = bs.map some ∧ K bs
  | [], _, h => ⟨[], rfl, h⟩
  | x :: r, K, h => by
    obtain ⟨b, hb, h⟩ := opt_some h
    obtain ⟨bs, hbs, h⟩ := optL_some h
    exact ⟨b :: bs, by simp [hb, hbs], h⟩
theorem map_of_some {f : Operand → Option SV} {ρ : Operand → Value} (hv : ∀ x s, f x = some s → ρ x = s.val) :
    ∀ {l : List Operand} {ss : List SV}, l.map f = ss.map some → l.map ρ = ss.map SV.val
  | [], [], _ => rfl
  | [], _ :: _, h => by simp at h
  | _ :: _, [], h => by simp at h
  | x :: r, s :: ss, h => by
    simp only [List.map_cons, List.cons.injEq] at h
    simp [hv _ _ h.1, map_of_some hv h.2]
theorem intOfV_some {s : SV} {n : Int} (h : intOfV s = some n) : ∃ k, s.val = .int k n := by
  cases s with
  | lb b => simp [intOfV] at h
  | pt b o => simp [intOfV] at h
  | v x => cases x <;> simp_all [intOfV, SV.val]
theorem Br_elim {b : Bool} {A B C : Prop} (h : Br b A B) (ha : b = true → A → C) (hb : b = false → B → C) : C := by
  cases b
  · exact hb rfl (h.2 rfl)
  · exact ha rfl (h.1 rfl)

section
variable {P : Program} {A : Ann} {ρ : Operand → Value} {K : SV → Prop}

theorem num_sound {d : Option Tmp} {k : IntKind} {z : Int} (h : num A d k z K) : ∃ s, K s ∧ s.val = .int k (k.wrap z) := by
  unfold num at h
  split at h
  · refine ⟨_, h.2, ?_⟩
    have hw : k.wrap z = z := by
      obtain ⟨h1, h2⟩ := h.1
      cases k <;> simp [IntKind.min, IntKind.max, IntKind.signed, IntKind.bits] at h1 h2 <;>
        simp [IntKind.wrap, IntKind.signed, IntKind.bits] <;> omega
    show Value.int k z = _
    rw [hw]
  · exact ⟨_, h, rfl⟩

theorem equalIn_bool {T : TypeId} (hu : P.underlying T = some .bool) (d : Nat) (a b : Bool) (w : World) : (Op.equalIn (d + 1) T (.bool a) (.bool b)).run P w = .ok (a == b) w := by
  simp only [Op.equalIn, Sem.run_bind, run_underlying hu, Result.andThen_ok, Sem.run_pure]
theorem equalIn_ptr {T e : TypeId} (hu : P.underlying T = some (.pointer e)) (d : Nat) (a : Option Addr) (w : World) : (Op.equalIn (d + 1) T (.pointer a) (.pointer none)).run P w = .ok a.isNone w := by
  cases a <;> simp only [Op.equalIn, Sem.run_bind, run_underlying hu, Result.andThen_ok, Sem.run_pure] <;> rfl
theorem equalIn_slice {T e : TypeId} (hu : P.underlying T = some (.slice e)) (d : Nat) (a : Option Addr) (l c l' c' : Nat) (w : World) : (Op.equalIn (d + 1) T (.slice a l c) (.slice none l' c')).run P w = .ok a.isNone w := by
  cases a <;> simp only [Op.equalIn, Sem.run_bind, run_underlying hu, Result.andThen_ok, Sem.run_pure] <;> rfl
theorem equalIn_nil {T : TypeId} {ms : Array (String × TypeId)} (hu : P.underlying T = some (.interface ms)) (d : Nat) {a : Value} {b : Bool} (h : IfNil a b) (w : World) : (Op.equalIn (d + 1) T a .nilIface).run P w = .ok b w := by
  rcases h with ⟨rfl, rfl⟩ | ⟨⟨t, v, rfl⟩, rfl⟩ <;> simp only [Op.equalIn, Sem.run_bind, run_underlying hu, Result.andThen_ok, Sem.run_pure]
theorem equalIn_int {T : TypeId} {k0 : IntKind} (hu : P.underlying T = some (.int k0)) (d : Nat) (k : IntKind) (a b : Int) (w : World) : (Op.equalIn (d + 1) T (.int k a) (.int k b)).run P w = .ok (a == b) w := by
  simp only [Op.equalIn, Sem.run_bind, run_underlying hu, Result.andThen_ok, Sem.run_pure, if_true]
theorem part_int {T : TypeId} {k0 : IntKind} (hu : P.underlying T = some (.int k0)) {cs : Array Value} {off : Nat} {v : Value} {r : List Value} (h : cs.toList.drop off = v :: r) (w : World) : (part T cs off).run P w = .ok v w := by
  have hc : cs[off]? = some v := by
    have := congrArg (fun l => l[0]?) h
    simpa using this
  have hi : (isAgg T).run P w = .ok false w := by simp only [isAgg, Sem.run_bind, run_underlying hu, Result.andThen_ok, Sem.run_pure]
  simp only [part, Sem.run_bind, hi, Result.andThen_ok, Bool.false_eq_true, if_false, hc, Sem.run_pure]
theorem eqFields_run {xs ys : Array Value} : ∀ {l : List Field} {K : Bool → Prop}, eqFields P xs.toList ys.toList l K → ∃ b, K b ∧ ∀ d w,
    ((forIn l ((none, ()) : Option Bool × Unit) fun f _ =>
        if f.name ≠ "_" then do
          let x ← part f.type xs f.offset
          let y ← part f.type ys f.offset
          let e ← Op.equalIn (d + 1) f.type x y
          if (!e) = true then pure (ForInStep.done (some false, ())) else pure (ForInStep.yield (none, ()))
        else pure (ForInStep.yield (none, ())) : Sem (Option Bool × Unit))).run P w = .ok (if b then (none, ()) else (some false, ())) w
  | [], K, h => ⟨true, h, fun d w => rfl⟩
  | f :: r, K, h => by
    unfold eqFields at h
    split at h
    · rename_i k0 k a t1 k' b t2 hu hn hx hy
      split at h
      · rename_i hk
        subst hk
        obtain ⟨t, h1, h2⟩ := eqFields_run h
        refine ⟨_, h1, fun d w => ?_⟩
        have hn : f.name ≠ "_" := by simpa using hn
        rw [List.forIn_cons]
        simp only [Sem.run_bind, if_pos hn, part_int hu hx, part_int hu hy, Result.andThen_ok, equalIn_int hu]
        cases hab : (a == b) with
        | true => simpa [Sem.run_pure] using h2 d w
        | false => simp [Sem.run_pure]
      · exact h.elim
    · exact h.elim
theorem equalIn_struct {T : TypeId} {fs : Array Field} (hu : P.underlying T = some (.struct fs)) (hs : P.stoodInHeld T = false) {xs ys : Array Value} {K : Bool → Prop} (h : eqFields P xs.toList ys.toList fs.toList K) :
    ∃ b, K b ∧ ∀ d w, (Op.equalIn (d + 2) T (.agg xs) (.agg ys)).run P w = .ok b w := by
  obtain ⟨b, h1, h2⟩ := eqFields_run h
  refine ⟨b, h1, fun d w => ?_⟩
  have hp : ∀ w, (program).run P w = .ok P w := fun w => rfl
  rw [Op.equalIn]
  simp only [Sem.run_bind, run_underlying hu, Result.andThen_ok, hp, hs, Bool.false_eq_true, if_false, Sem.run_pure]
  rw [← Array.forIn_toList]
  refine (congrArg (fun r => Result.andThen r _) (h2 d w)).trans ?_
  cases b <;> rfl
theorem eq_run {T : TypeId} {x y : Value} {b : Bool} (hx : ∀ op, (op = BinOp.eql ∨ op = .neq) → binOp op T x y = (do let b ← Op.equal T x y; pure (.bool (if op = .eql then b else !b)) : Sem Value))
    (h : ∀ w, (Op.equalIn 10000 T x y).run P w = .ok b w) {op : BinOp} (hop : op = .eql ∨ op = .neq) (w : World) : (binOp op T x y).run P w = .ok (.bool (if op = .eql then b else !b)) w := by
  have he : ∀ w, (Op.equal T x y).run P w = .ok b w := fun w => h w
  rw [hx op hop]
  simp only [Sem.run_bind, he, Result.andThen_ok, Sem.run_pure]
theorem bin_eq {op : BinOp} (hop : op = .eql ∨ op = .neq) {T : TypeId} {x y : SV} {F : Bool → Prop} (h : eqVc P T x y F) :
    ∃ b, F b ∧ (∀ X Y w, (eqGuard op T X Y x.val y.val).run P w = .ok () w) ∧
      (∀ w, (binOp op T x.val y.val).run P w = .ok (.bool (if op = .eql then b else !b)) w) := by
  unfold eqVc at h
  split at h
  · rename_i hu
    split at h
    · rename_i a b ha hb
      rw [ha, hb]
      refine ⟨_, h, fun X Y w => by rw [eqGuard_at_bool]; rfl, fun w => eq_run ?_ (fun w => equalIn_bool hu 9999 a b w) hop w⟩
      rintro op (rfl | rfl) <;> simp [binOp]
    · exact h.elim
  · rename_i e hu
    split at h
    · refine ⟨_, h, fun X Y w => by simp only [SV.val]; rw [eqGuard_at_pointer]; rfl, fun w => eq_run ?_ (fun w => equalIn_ptr hu 9999 _ w) hop w⟩
      rintro op (rfl | rfl) <;> simp [binOp, SV.val]
    · refine ⟨_, h, fun X Y w => by simp only [SV.val]; rw [eqGuard_at_pointer]; rfl, fun w => eq_run ?_ (fun w => equalIn_ptr hu 9999 _ w) hop w⟩
      rintro op (rfl | rfl) <;> simp [binOp, SV.val]
    · exact h.elim
  · rename_i e hu
    split at h
    · refine ⟨_, h, fun X Y w => by simp only [SV.val]; rw [eqGuard_at_slice]; rfl, fun w => eq_run ?_ (fun w => equalIn_slice hu 9999 _ _ _ _ _ w) hop w⟩
      rintro op (rfl | rfl) <;> simp [binOp, SV.val]
    · exact h.elim
  · rename_i fs hu
    split at h
    · rename_i a b ha hb
      split at h
      · rename_i hs hg
        obtain ⟨t, h1, h2⟩ := equalIn_struct hu hs h
        rw [ha, hb]
        refine ⟨t, h1, fun X Y w => ?_, fun w => eq_run ?_ (fun w => h2 9998 w) hop w⟩
        · have hp : ∀ w, (program).run P w = .ok P w := fun w => rfl
          rcases hop with rfl | rfl <;> simp [eqGuard, Sem.run_bind, hp, hg]
        · rintro op (rfl | rfl) <;> simp [binOp]
      · exact h.elim
    · exact h.elim
  · exact h.elim

theorem shift_run (op : BinOp) (hop : op = .shl ∨ op = .shr) (k yk : IntKind) (a b : Int) (hb : 0 ≤ b) (w : World) :
    (Op.shift op k a yk b).run P w = .ok (.int k (if op = .shl then k.wrap (a * 2 ^ (min b.toNat k.bits)) else a.fdiv (2 ^ (min b.toNat k.bits)))) w := by
  have hn : ¬ b < 0 := by omega
  rcases hop with rfl | rfl <;> simp [Op.shift, hn]

theorem bin_sound {o : Oper} {op : BinOp} {T yT : TypeId} {x y : Operand} {sx sy : SV} (ho : o.op = .binOp op T x y yT) (hx : ρ x = sx.val) (hy : ρ y = sy.val)
    (h : binVc P A o.dst op T sx sy K) : ∃ s, K s ∧ Gives P ρ o s := by
  have main : ∃ s, K s ∧ (∀ w, (eqGuard op T x y sx.val sy.val).run P w = .ok () w) ∧ ∀ w, (binOp op T sx.val sy.val).run P w = .ok s.val w := by
    unfold binVc at h
    split at h
    · rename_i k a k' b ha hb
      rw [ha, hb]
      have g : ∀ w, (eqGuard op T x y (.int k a) (.int k' b)).run P w = .ok () w := fun w => by rw [eqGuard_at_int]; rfl
      split at h
      · obtain ⟨s, h1, h2⟩ := num_sound h.2
        exact ⟨s, h1, g, fun w => by rw [h2, binOp_shl, shift_run .shl (.inl rfl) _ _ _ _ h.1]; rfl⟩
      · exact ⟨_, h.2, g, fun w => by rw [binOp_shr, shift_run .shr (.inr rfl) _ _ _ _ h.1]; rfl⟩
      · rename_i hne1 hne2
        split at h
        · rename_i hk
          subst hk
          split at h
          · obtain ⟨s, h1, h2⟩ := num_sound h
            exact ⟨s, h1, g, fun w => by rw [h2, binOp_add]; rfl⟩
          · obtain ⟨s, h1, h2⟩ := num_sound h
            exact ⟨s, h1, g, fun w => by rw [h2, binOp_sub]; rfl⟩
          · obtain ⟨s, h1, h2⟩ := num_sound h
            exact ⟨s, h1, g, fun w => by rw [h2, binOp_mul]; rfl⟩
          · obtain ⟨s, h1, h2⟩ := num_sound h.2
            exact ⟨s, h1, g, fun w => by rw [h2, binOp_quo]; simp [Op.intDiv, h.1]⟩
          · exact ⟨_, h.2, g, fun w => by rw [binOp_rem]; simp [Op.intDiv, h.1, SV.val]⟩
          · exact ⟨_, h, g, fun w => by rw [binOp_and]; rfl⟩
          · exact ⟨_, h, g, fun w => by rw [binOp_or]; rfl⟩
          · exact ⟨_, h, g, fun w => by rw [binOp_xor]; rfl⟩
          · exact ⟨_, h, g, fun w => by rw [binOp_andNot]; rfl⟩
          · exact ⟨_, h, g, fun w => by rw [binOp_eql]; rfl⟩
          · exact ⟨_, h, g, fun w => by rw [binOp_neq]; rfl⟩
          · exact ⟨_, h, g, fun w => by rw [binOp_lss]; rfl⟩
          · exact ⟨_, h, g, fun w => by rw [binOp_leq]; rfl⟩
          · exact ⟨_, h, g, fun w => by rw [binOp_gtr]; rfl⟩
          · exact ⟨_, h, g, fun w => by rw [binOp_geq]; rfl⟩
          · exact h.elim
        · exact h.elim
    · rename_i a b ha hb
      rw [ha, hb]
      have g : ∀ w, (eqGuard op T x y (.string a) (.string b)).run P w = .ok () w := fun w => by rw [eqGuard_at_string]; rfl
      split at h
      · refine ⟨_, h.2, g, fun w => ?_⟩
        have h1 := h.1
        have h1 : ¬ (((a.size + b.size : Nat) : Int) > IntKind.i64.max) := by show ¬ (_ > (9223372036854775807 : Int)); omega
        show (Op.stringOp .add a b).run P w = _
        unfold Op.stringOp
        simp only [if_neg h1]
        rfl
      · exact ⟨_, h, g, fun w => rfl⟩
      · exact ⟨_, h, g, fun w => rfl⟩
      · exact h.elim
    · rename_i k a k' b ha hb
      rw [ha, hb]
      have g : ∀ w, (eqGuard op T x y (.float k a) (.float k' b)).run P w = .ok () w := fun w => by unfold eqGuard; split <;> rfl
      split at h
      · rename_i hk
        subst hk
        split at h
        all_goals first
          | exact h.elim
          | exact ⟨_, h, g, fun w => by simp [binOp, Op.floatCmp, SV.val]⟩
      · exact h.elim
    · split at h
      · obtain ⟨b, h1, h2, h3⟩ := bin_eq (op := .eql) (.inl rfl) h
        exact ⟨_, h1, fun w => h2 _ _ w, fun w => by rw [h3]; rfl⟩
      · obtain ⟨b, h1, h2, h3⟩ := bin_eq (op := .neq) (.inr rfl) h
        exact ⟨_, h1, fun w => h2 _ _ w, fun w => by rw [h3]; rfl⟩
      · exact h.elim
  obtain ⟨s, h1, h2, h3⟩ := main
  refine ⟨s, h1, fun w => ?_⟩
  unfold execOp
  simp only [ho, hx, hy, Sem.run_bind, h2, h3, Result.andThen_ok, Sem.run_pure]

theorem un_sound {o : Oper} {op : UnOp} {T : TypeId} {x : Operand} {sx : SV} (ho : o.op = .unOp op T x) (hx : ρ x = sx.val) (h : unVc A o.dst op sx K) : ∃ s, K s ∧ Gives P ρ o s := by
  unfold unVc at h
  split at h
  · exact ⟨_, h, fun w => by unfold execOp; simp [ho, hx, SV.val, Op.unary]⟩
  · exact ⟨_, h, fun w => by unfold execOp; simp [ho, hx, SV.val, Op.unary]⟩
  · obtain ⟨s, h1, h2⟩ := num_sound h
    exact ⟨s, h1, fun w => by rw [h2]; unfold execOp; simp [ho, hx, SV.val, Op.unary, Op.intArith]⟩
  · exact ⟨_, h, fun w => by unfold execOp; simp [ho, hx, SV.val, Op.unary]⟩
  · exact ⟨_, h, fun w => by unfold execOp; simp [ho, hx, SV.val, Op.unary, Op.intBits, bits]⟩
  · exact h.elim
end
end Go.Vc
