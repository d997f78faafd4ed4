/-
  A region whose order is drawn: one walk of its operations in the order of the text serves every order, if each operation that leaves the world alone answers the same in every world
  in which it may come to be carried out, and those that change the world wait for one another. (After Derived/Deep/Quiet.lean, whose walk is of operations that leave the world alone.)
-/
import Derived.Test.YtffhlgejfgmpiaaGreatDoorVcSound
import Derived.Deep.Quiet
import Derived.OrdersIn
namespace Go.Vc
open Go.RowKit

abbrev NoZ : List PanicEntry → World → Prop := fun _ _ => False
section
variable {P : Program} {ops : Array Oper} {md : Region.Mode} {Z : List PanicEntry → World → Prop}
theorem EffQ.mono {o : Oper} {a : Act} {w : World} {N N' : Value → World → Prop} (h : EffQ P o a w N Z) (hn : ∀ x w', N x w' → N' x w') : EffQ P o a w N' Z := by
  rcases h with ⟨x, w', h, n⟩ | ⟨w', h, n⟩ | ⟨f, as, h, n⟩ | h | ⟨l, f, ts, as, body, h, n⟩
  · exact .inl ⟨x, w', h, hn _ _ n⟩
  · exact .inr (.inl ⟨w', h, hn _ _ n⟩)
  · exact .inr (.inr (.inl ⟨f, as, h, n.mono fun e w' hr => hr.imp (fun ⟨x, he, k⟩ => ⟨x, he, hn _ _ k⟩) id⟩))
  · exact .inr (.inr (.inr (.inl h)))
  · exact .inr (.inr (.inr (.inr ⟨l, f, ts, as, body, h, n.mono fun e w' ⟨x, he, k⟩ => ⟨x, he, hn _ _ k⟩⟩)))
theorem EffQ.some {o : Oper} {a : Act} {w : World} {N : Value → World → Prop} (h : EffQ P o a w N NoZ) : ∃ x w', N x w' := by
  rcases h with ⟨x, w', h, n⟩ | ⟨w', h, n⟩ | ⟨f, as, h, n⟩ | ⟨v, h, n⟩ | ⟨l, f, ts, as, body, h, n⟩
  · exact ⟨x, w', n⟩
  · exact ⟨undef, w', n⟩
  · obtain ⟨e, w', fr, hr, _⟩ := n []
    rcases hr with ⟨x, _, n⟩ | ⟨_, _, k⟩
    · exact ⟨x, w', n⟩
    · exact k.elim
  · exact n.elim
  · obtain ⟨e, w', ⟨x, _, n⟩, _⟩ := n.2 default [] (room_wide _)
    exact ⟨x, w', n⟩
theorem EffQ.same {o : Oper} {a a' : Act} {w : World} {N : Value → World → Prop} (h : EffQ P o a w N Z) (he : execOp a'.eval o = execOp a.eval o) : EffQ P o a' w N Z := by
  unfold EffQ at *; rw [he]; exact h

/-- The classes: which operations change the world, in which worlds the others answer as they do, which go before which. -/
structure Plan where
  eff : Nat → Bool
  cls : Nat → World → Prop
  bef : Nat → Nat → Bool
def StillIn (P : Program) (D : Plan) (i : Nat) (o : Oper) (a : Act) (v : Value) : Prop := ∀ w, D.cls i w → (execOp a.eval o).run P w = .ok (.value v) w
def opP (P : Program) (ops : Array Oper) (D : Plan) (Z : List PanicEntry → World → Prop) (i : Nat) (K : Act → World → Prop) (a : Act) (w : World) : Prop :=
  match ops[i]? with
  | none => K a w
  | some o =>
    if Region.wanted o (yielded ops a.tmps) then
      if D.eff i then EffQ P o a w (fun x w' => (∀ j, D.eff j = false → D.bef j i = false → D.cls j w') ∧ K (a.put o.dst x) w') Z
      else ∃ v, StillIn P D i o a v ∧ K (a.put o.dst v) w
    else K (a.put o.dst undef) w
def anyP (P : Program) (md : Region.Mode) (ops : Array Oper) (D : Plan) (Z : List PanicEntry → World → Prop) (F : Act → World → Prop) : Nat → Array Bool → Act → World → Prop
  | 0, listed, a, w => Region.ready md ops listed = [] ∧ F a w
  | n + 1, listed, a, w => (Region.ready md ops listed = [] → F a w) ∧ ∀ i ∈ Region.ready md ops listed, opP P ops D Z i (anyP P md ops D Z F n (listed.setIfInBounds i true)) a w
def lexP (P : Program) (ops : Array Oper) (D : Plan) (Z : List PanicEntry → World → Prop) (F : Act → World → Prop) : List Oper → Nat → Act → World → Prop
  | [], _, a, w => F a w
  | _ :: r, k, a, w => opP P ops D Z k (lexP P ops D Z F r (k + 1)) a w
/-- What has come up is closed under 'goes before'; those still to come answer in this world. -/
structure Inv (D : Plan) (listed : Array Bool) (w : World) : Prop where
  closed : ∀ e, listed.getD e false = true → ∀ i, D.bef i e = true → listed.getD i false = true
  cls : ∀ i, listed.getD i true = false → D.eff i = false → D.cls i w
/-- The relation 'goes before' is made of the edges; what changes the world is ordered. -/
structure Plan.Edges (md : Region.Mode) (ops : Array Oper) (D : Plan) : Prop where
  edge : ∀ (e : Nat) (o : Oper), ops[e]? = some o → ∀ i, D.bef i e = true → ∃ d ∈ o.after, Region.binds md d = true ∧ (d.on = i ∨ D.bef i d.on = true)
structure Plan.Ok (md : Region.Mode) (ops : Array Oper) (D : Plan) : Prop extends Plan.Edges md ops D where
  effs : ∀ i j, D.eff i = true → D.eff j = true → i ≠ j → i < ops.size → j < ops.size → D.bef i j = true ∨ D.bef j i = true

theorem listed_of_ready {D : Plan} (hD : D.Edges md ops) {listed : Array Bool} {w : World} (hI : Inv D listed w) {e : Nat} (he : e ∈ Region.ready md ops listed) {i : Nat} (hb : D.bef i e = true) :
    listed.getD i false = true := by
  obtain ⟨_, o, ho, hall⟩ := mem_ready.1 he
  obtain ⟨d, hd, hbd, h⟩ := hD.edge e o ho i hb
  have hl := hall d hd hbd
  rcases h with rfl | h
  · exact hl
  · exact hI.closed _ hl _ h
theorem getD_tf {listed : Array Bool} {i : Nat} (h : listed.getD i false = true) : listed.getD i true = true := by
  rcases Nat.lt_or_ge i listed.size with h' | h'
  · simp [h'] at h ⊢; exact h
  · simp [Array.getElem?_eq_none h'] at h
theorem getD_set {listed : Array Bool} {i j : Nat} {d : Bool} (h : (listed.setIfInBounds i true).getD j d = true) : j = i ∨ listed.getD j d = true := by
  by_cases e : i = j
  · exact .inl e.symm
  · rw [getD_set_ne d e] at h; exact .inr h
theorem Inv.step {D : Plan} (hD : D.Edges md ops) {listed : Array Bool} {w w' : World} (hI : Inv D listed w) {e : Nat} (he : e ∈ Region.ready md ops listed)
    (hc : ∀ j, listed.getD j true = false → j ≠ e → D.eff j = false → D.bef j e = false → D.cls j w') : Inv D (listed.setIfInBounds e true) w' := by
  refine ⟨fun x hx i hi => ?_, fun i hu hE => ?_⟩
  · rcases getD_set hx with rfl | hx
    · exact getD_set_true (listed_of_ready hD hI he hi)
    · exact getD_set_true (hI.closed _ hx _ hi)
  · have hne : i ≠ e := by
      rintro rfl
      have hlt : i < listed.size := by
        have h0 := (mem_ready.1 he).1
        rcases Nat.lt_or_ge i listed.size with h' | h'
        · exact h'
        · simp [Array.getElem?_eq_none h'] at h0
      simp [hlt] at hu
    have hu' : listed.getD i true = false := by rwa [getD_set_ne true (Ne.symm hne)] at hu
    refine hc i hu' hne hE ?_
    cases hb : D.bef i e with
    | false => rfl
    | true => rw [getD_tf (listed_of_ready hD hI he hb)] at hu'; cases hu'
theorem any_sound {ro : Option Nat} {D : Plan} (hD : D.Edges md ops) (hnd : ∀ (i : Nat) (o : Oper), ops[i]? = some o → ∀ c, o.op ≠ Op.defer c) {F : Act → World → Prop} {Q : Exit → Act → World → Prop} {G : Act → Prop} (hG : ∀ (i : Nat) (o : Oper), ops[i]? = some o → ∀ a v, G a → G (a.put o.dst v)) (hZ : ∀ a ch w, G a → Z ch w → Q (.panic ch) a w) (hF : ∀ a w, F a w → Q .normal a w) : ∀ (n : Nat) (listed : Array Bool) (a : Act) (w : World),
    G a → Inv D listed w → anyP P md ops D Z F n listed a w → wpAnyIn (Fr ro) 0 P md ops Q n listed a w
  | 0, _, _, _, _, _, h => ⟨h.1, hF _ _ h.2⟩
  | n + 1, listed, a, w, hg, hI, h => by
    refine ⟨fun h0 => hF _ _ (h.1 h0), fun i hi => ?_⟩
    have hP := h.2 i hi
    unfold opP at hP
    unfold wpOpIn
    obtain ⟨hu, o, ho, _⟩ := mem_ready.1 hi
    simp only [ho] at hP ⊢
    split
    · rename_i hw
      rw [if_pos hw] at hP
      by_cases hE : D.eff i = true
      · rw [if_pos hE] at hP
        exact hP.wp (hnd i o ho) (fun x w' ⟨hc, hk⟩ => any_sound hD hnd hG hZ hF n _ _ _ (hG i o ho _ _ hg) (hI.step hD hi fun j _ _ h1 h2 => hc j h1 h2) hk) fun ch w' hz => hZ _ _ _ hg hz
      · rw [if_neg hE] at hP
        obtain ⟨v, hv, hk⟩ := hP
        have hr := hv w (hI.cls i hu (by simpa using hE))
        refine ⟨fun _ _ => trivial, ?_⟩
        rw [Oper.semAt_eq _ _ _ (hnd i o ho), hr]
        exact any_sound hD hnd hG hZ hF n _ _ _ (hG i o ho _ _ hg) (hI.step hD hi fun j hj _ h1 _ => hI.cls j hj h1) hk
    · rename_i hw
      rw [if_neg hw] at hP
      exact ⟨fun _ _ => trivial, any_sound hD hnd hG hZ hF n _ _ _ (hG i o ho _ _ hg) (hI.step hD hi fun j hj _ h1 _ => hI.cls j hj h1) hP⟩

/-- What an operation yields that leaves the world alone (or is passed over). -/
def YieldsP (P : Program) (ops : Array Oper) (D : Plan) (i : Nat) (o : Oper) (v : Value) (a : Act) : Prop :=
  (Region.wanted o (yielded ops a.tmps) = true ∧ D.eff i = false ∧ StillIn P D i o a v) ∨ (Region.wanted o (yielded ops a.tmps) = false ∧ v = undef)
theorem YieldsP.opP {D : Plan} {i : Nat} {o : Oper} {v : Value} {a : Act} {w : World} (hi : ops[i]? = some o) (hy : YieldsP P ops D i o v a) {K : Act → World → Prop} (h : K (a.put o.dst v) w) : opP P ops D Z i K a w := by
  unfold Go.Vc.opP
  simp only [hi]
  rcases hy with ⟨hw, hE, hv⟩ | ⟨hw, rfl⟩
  · rw [if_pos hw, if_neg (by simp [hE])]; exact ⟨v, hv, h⟩
  · rw [if_neg (by simp [hw])]; exact h
theorem YieldsP.of_same {D : Plan} {i : Nat} {o : Oper} {v : Value} {a a' : Act} (hy : YieldsP P ops D i o v a) (he : execOp a'.eval o = execOp a.eval o)
    (hw : Region.wanted o (yielded ops a'.tmps) = Region.wanted o (yielded ops a.tmps)) : YieldsP P ops D i o v a' := by
  unfold YieldsP StillIn at *
  rw [he, hw]
  exact hy
theorem opP_mono {D : Plan} {i : Nat} {a : Act} {w : World} {K K' : Act → World → Prop}
    (h : ∀ a' w', (w' = w ∨ ∀ j, D.eff j = false → D.bef j i = false → D.cls j w') → K a' w' → K' a' w') (hh : opP P ops D Z i K a w) : opP P ops D Z i K' a w := by
  unfold opP at *
  split
  · rename_i ho; simp only [ho] at hh; exact h _ _ (.inl rfl) hh
  · rename_i o ho
    simp only [ho] at hh
    split
    · rename_i hw
      rw [if_pos hw] at hh
      split
      · rename_i hE
        rw [if_pos hE] at hh
        exact hh.mono fun x w' ⟨hc, hk⟩ => ⟨hc, h _ _ (.inr hc) hk⟩
      · rename_i hE
        rw [if_neg hE] at hh
        obtain ⟨v, hv, hk⟩ := hh
        exact ⟨v, hv, h _ _ (.inl rfl) hk⟩
    · rename_i hw
      rw [if_neg hw] at hh
      exact h _ _ (.inl rfl) hh
theorem opP_put {D : Plan} {i j : Nat} {oi oj : Oper} {v : Value} (hj : ops[j]? = some oj) (hap : oi.apart ops oj = true)
    (hsi : ∀ cs b, oi.op ≠ .select cs b) (hsj : ∀ cs b, oj.op ≠ .select cs b) {K : Act → World → Prop} {a : Act} {w : World}
    (hy : YieldsP P ops D i oi v a) (h : opP P ops D Z j K (a.put oi.dst v) w) :
    opP P ops D Z j (fun a' w' => YieldsP P ops D i oi v a' ∧ K (a'.put oi.dst v) w') a w := by
  obtain ⟨h1, h2, h3⟩ := Oper.apart_spec hap
  have keep : ∀ (a : Act), YieldsP P ops D i oi v a → ∀ u, YieldsP P ops D i oi v (a.put oj.dst u) := fun a hy u =>
    hy.of_same (execOp_put oi hsi a oj.dst u h3) (wanted_put oi a oj.dst u h3)
  have hex : execOp (a.put oi.dst v).eval oj = execOp a.eval oj := execOp_put oj hsj a oi.dst v h1
  unfold opP at *
  simp only [hj] at *
  rw [wanted_put oj a oi.dst v h1] at h
  split
  · rename_i hw
    rw [if_pos hw] at h
    split
    · rename_i hE
      rw [if_pos hE] at h
      refine (h.same (a' := a) hex.symm).mono fun x w' ⟨hc, hk⟩ => ⟨hc, keep a hy x, ?_⟩
      rw [← Act.put_comm a v x h2]; exact hk
    · rename_i hE
      rw [if_neg hE] at h
      obtain ⟨u, hu, hk⟩ := h
      refine ⟨u, fun w hw => ?_, keep a hy u, by rw [← Act.put_comm a v u h2]; exact hk⟩
      rw [← hex]; exact hu w hw
  · rename_i hw
    rw [if_neg hw] at h
    exact ⟨keep a hy undef, by rw [← Act.put_comm a v undef h2]; exact h⟩

theorem no_edge {listed : Array Bool} {i : Nat} (hi : i ∈ Region.ready md ops listed) {oj : Oper} (hall : ∀ e ∈ oj.after, Region.binds md e = true → listed.getD e.on false = true) :
    ∀ e ∈ oj.after, Region.binds md e = true → e.on ≠ i := fun e he hb heq => by
  have h1 := hall e he hb
  have h0 := (mem_ready.1 hi).1
  rw [heq] at h1
  rw [getD_tf h1] at h0
  cases h0
theorem inv_of {D : Plan} (hD : D.Edges md ops) {listed : Array Bool} {w w' : World} (hI : Inv D listed w) {j : Nat} (hj : j ∈ Region.ready md ops listed)
    (h : w' = w ∨ ∀ k, D.eff k = false → D.bef k j = false → D.cls k w') : Inv D (listed.setIfInBounds j true) w' := by
  rcases h with rfl | h
  · exact hI.step hD hj fun k hk _ h1 _ => hI.cls k hk h1
  · exact hI.step hD hj fun k _ _ h1 h2 => h k h1 h2
/-- An operation that leaves the world alone may be taken first. -/
theorem first_still {D : Plan} (hD : D.Edges md ops) {F : Act → World → Prop} {i : Nat} {oi : Oper} {v : Value} (hi : ops[i]? = some oi) (hsel : ∀ (j : Nat) (o : Oper) cs b, ops[j]? = some o → o.op ≠ .select cs b) :
    ∀ (n : Nat) (listed : Array Bool) (a : Act) (w : World), Inv D listed w →
      (∀ j oj, ops[j]? = some oj → j ≠ i → listed.getD j true = false → (∀ e ∈ oj.after, Region.binds md e = true → e.on ≠ i) → oi.apart ops oj = true) →
      i ∈ Region.ready md ops listed → YieldsP P ops D i oi v a →
      anyP P md ops D Z F n (listed.setIfInBounds i true) (a.put oi.dst v) w → anyP P md ops D Z F (n + 1) listed a w := by
  intro n
  induction n with
  | zero =>
    intro listed a w hI _ hr hy H
    refine ⟨fun h => (by rw [h] at hr; cases hr), fun j hj => ?_⟩
    by_cases hji : j = i
    · subst hji; exact hy.opP hi H
    · have := ready_mono hj hji
      rw [H.1] at this
      cases this
  | succ n ih =>
    intro listed a w hI hfree hr hy H
    refine ⟨fun h => (by rw [h] at hr; cases hr), fun j hj => ?_⟩
    by_cases hji : j = i
    · subst hji; exact hy.opP hi H
    · have h1 := H.2 j (ready_mono hj hji)
      obtain ⟨hjun, oj, hoj, hall⟩ := mem_ready.1 hj
      have h2 := opP_put hoj (hfree j oj hoj hji hjun (no_edge hr hall)) (fun cs b => hsel i oi cs b hi) (fun cs b => hsel j oj cs b hoj) hy h1
      have hfree' : ∀ k ok, ops[k]? = some ok → k ≠ i → (listed.setIfInBounds j true).getD k true = false →
          (∀ e ∈ ok.after, Region.binds md e = true → e.on ≠ i) → oi.apart ops ok = true := fun k ok hk hki hun hno => by
        refine hfree k ok hk hki ?_ hno
        by_cases hjk : j = k
        · subst hjk; exact hjun
        · rw [getD_set_ne true hjk] at hun; exact hun
      refine opP_mono (fun a' w' hw' h3 => ih (listed.setIfInBounds j true) a' w' (inv_of hD hI hj hw') hfree' (ready_mono hr (Ne.symm hji)) h3.1 ?_) h2
      rw [Array.setIfInBounds_comm _ _ hji]
      exact h3.2
/-- An operation that changes the world may be taken first. -/
theorem first_eff {D : Plan} (hD : D.Ok md ops) {F : Act → World → Prop} {i : Nat} {oi : Oper} (hi : ops[i]? = some oi) (hE : D.eff i = true) (hsel : ∀ (j : Nat) (o : Oper) cs b, ops[j]? = some o → o.op ≠ .select cs b) :
    ∀ (n : Nat) (listed : Array Bool) (a : Act) (w : World), Inv D listed w →
      (∀ j oj, ops[j]? = some oj → j ≠ i → listed.getD j true = false → (∀ e ∈ oj.after, Region.binds md e = true → e.on ≠ i) → oi.apart ops oj = true) →
      i ∈ Region.ready md ops listed → Region.wanted oi (yielded ops a.tmps) = true →
      EffQ P oi a w (fun x w' => (∀ j, D.eff j = false → D.bef j i = false → D.cls j w') ∧ anyP P md ops D NoZ F n (listed.setIfInBounds i true) (a.put oi.dst x) w') NoZ → anyP P md ops D NoZ F (n + 1) listed a w := by
  intro n
  induction n with
  | zero =>
    intro listed a w hI _ hr hw H
    refine ⟨fun h => (by rw [h] at hr; cases hr), fun j hj => ?_⟩
    by_cases hji : j = i
    · subst hji
      unfold opP
      simp only [hi]
      rw [if_pos hw, if_pos hE]
      exact H
    · obtain ⟨x, w', _, h⟩ := H.some
      have := ready_mono hj hji
      rw [h.1] at this
      cases this
  | succ n ih =>
    intro listed a w hI hfree hr hw H
    refine ⟨fun h => (by rw [h] at hr; cases hr), fun j hj => ?_⟩
    by_cases hji : j = i
    · subst hji
      unfold opP
      simp only [hi]
      rw [if_pos hw, if_pos hE]
      exact H
    · obtain ⟨hjun, oj, hoj, hall⟩ := mem_ready.1 hj
      have hap := hfree j oj hoj hji hjun (no_edge hr hall)
      obtain ⟨h1, h2, h3⟩ := Oper.apart_spec hap
      have hsi := fun cs b => hsel i oi cs b hi
      have hsj := fun cs b => hsel j oj cs b hoj
      have hex : ∀ x, execOp (a.put oi.dst x).eval oj = execOp a.eval oj := fun x => execOp_put oj hsj a oi.dst x h1
      have hwj : ∀ x, Region.wanted oj (yielded ops (a.put oi.dst x).tmps) = Region.wanted oj (yielded ops a.tmps) := fun x => wanted_put oj a oi.dst x h1
      have hEj : D.eff j = false := by
        cases hb : D.eff j with
        | false => rfl
        | true =>
          have hil : i < ops.size := (Array.getElem?_eq_some_iff.1 hi).1
          have hjl : j < ops.size := (Array.getElem?_eq_some_iff.1 hoj).1
          rcases hD.effs i j hE hb (Ne.symm hji) hil hjl with h | h
          · have := getD_tf (listed_of_ready hD.toEdges hI hj h)
            rw [(mem_ready.1 hr).1] at this; cases this
          · have := getD_tf (listed_of_ready hD.toEdges hI hr h)
            rw [hjun] at this; cases this
      have hfree' : ∀ k ok, ops[k]? = some ok → k ≠ i → (listed.setIfInBounds j true).getD k true = false →
          (∀ e ∈ ok.after, Region.binds md e = true → e.on ≠ i) → oi.apart ops ok = true := fun k ok hk hki hun hno => by
        refine hfree k ok hk hki ?_ hno
        by_cases hjk : j = k
        · subst hjk; exact hjun
        · rw [getD_set_ne true hjk] at hun; exact hun
      have hI' : Inv D (listed.setIfInBounds j true) w := inv_of hD.toEdges hI hj (.inl rfl)
      -- what j does behind each way in which i may come out
      have behind : ∀ x w', anyP P md ops D NoZ F (n + 1) (listed.setIfInBounds i true) (a.put oi.dst x) w' → opP P ops D NoZ j (anyP P md ops D NoZ F n ((listed.setIfInBounds i true).setIfInBounds j true)) (a.put oi.dst x) w' :=
        fun x w' h => h.2 j (ready_mono hj hji)
      have go : ∀ u, YieldsP P ops D j oj u a → (∀ x w', anyP P md ops D NoZ F (n + 1) (listed.setIfInBounds i true) (a.put oi.dst x) w' → anyP P md ops D NoZ F n ((listed.setIfInBounds i true).setIfInBounds j true) ((a.put oi.dst x).put oj.dst u) w') →
          opP P ops D NoZ j (anyP P md ops D NoZ F (n + 1) (listed.setIfInBounds j true)) a w := by
        intro u hy hgo
        refine hy.opP hoj (ih (listed.setIfInBounds j true) _ w hI' hfree' (ready_mono hr (Ne.symm hji)) ?_ ?_)
        · rw [wanted_put oi a oj.dst u h3]; exact hw
        · refine (H.same (a' := a.put oj.dst u) (execOp_put oi hsi a oj.dst u h3)).mono fun x w' ⟨hc, hk⟩ => ⟨hc, ?_⟩
          rw [Array.setIfInBounds_comm _ _ hji, ← Act.put_comm a x u h2]
          exact hgo x w' hk
      obtain ⟨x0, w0, _, h0⟩ := H.some
      have b0 := behind x0 w0 h0
      unfold opP at b0
      simp only [hoj] at b0
      rw [hwj x0] at b0
      by_cases hwd : Region.wanted oj (yielded ops a.tmps) = true
      · rw [if_pos hwd, if_neg (by simp [hEj])] at b0
        obtain ⟨u, hu, _⟩ := b0
        have hst : StillIn P D j oj a u := fun w hw => by rw [← hex x0]; exact hu w hw
        refine go u (.inl ⟨hwd, hEj, hst⟩) fun x w' h => ?_
        have b := behind x w' h
        unfold opP at b
        simp only [hoj] at b
        rw [hwj x, if_pos hwd, if_neg (by simp [hEj])] at b
        obtain ⟨u', hu', hk⟩ := b
        have e1 := hst w (hI.cls j hjun hEj)
        have e2 := hu' w (hI.cls j hjun hEj)
        rw [hex x, e1] at e2
        injection e2 with e2
        injection e2 with e2
        rw [e2]; exact hk
      · have hwd' : Region.wanted oj (yielded ops a.tmps) = false := by simpa using hwd
        refine go undef (.inr ⟨hwd', rfl⟩) fun x w' h => ?_
        have b := behind x w' h
        unfold opP at b
        simp only [hoj] at b
        rw [hwj x, if_neg hwd] at b
        exact b
theorem any_of_lex {D : Plan} (hD : D.Ok md ops) {F : Act → World → Prop} (hs : Region.noSelect ops = true) : ∀ (l : List Oper) (k : Nat) (listed : Array Bool) (a : Act) (w : World), (∀ j, l[j]? = ops[k + j]?) →
    Region.lexFrom md ops l.length k listed = true → Inv D listed w → lexP P ops D NoZ F l k a w → anyP P md ops D NoZ F l.length listed a w
  | [], _, _, _, _, _, hB, _, h => ⟨by simpa [Region.lexFrom] using hB, h⟩
  | o :: l, k, listed, a, w, hl, hB, hI, h => by
    have h0 : ops[k]? = some o := by simpa using (hl 0).symm
    simp only [List.length_cons, Region.lexFrom, Bool.and_eq_true] at hB
    obtain ⟨⟨hr, hf⟩, hB'⟩ := hB
    have hr : k ∈ Region.ready md ops listed := by simpa using hr
    have hl' : ∀ j, l[j]? = ops[k + 1 + j]? := fun j => by have := hl (j + 1); simpa [Nat.add_assoc, Nat.add_comm 1 j] using this
    have hfree := Region.free_spec h0 hf
    have hsel := Region.noSelect_spec hs
    unfold lexP opP at h
    simp only [h0] at h
    by_cases hw : Region.wanted o (yielded ops a.tmps) = true
    · rw [if_pos hw] at h
      by_cases hE : D.eff k = true
      · rw [if_pos hE] at h
        refine first_eff hD h0 hE hsel l.length listed a w hI hfree hr hw (h.mono fun x w' ⟨hc, hk⟩ => ⟨hc, ?_⟩)
        exact any_of_lex hD hs l (k + 1) _ _ _ hl' hB' (inv_of hD.toEdges hI hr (.inr hc)) hk
      · rw [if_neg hE] at h
        obtain ⟨v, hv, hk⟩ := h
        exact first_still hD.toEdges h0 hsel l.length listed a w hI hfree hr (.inl ⟨hw, by simpa using hE, hv⟩) (any_of_lex hD hs l (k + 1) _ _ _ hl' hB' (inv_of hD.toEdges hI hr (.inl rfl)) hk)
    · rw [if_neg hw] at h
      exact first_still hD.toEdges h0 hsel l.length listed a w hI hfree hr (.inr ⟨by simpa using hw, rfl⟩) (any_of_lex hD hs l (k + 1) _ _ _ hl' hB' (inv_of hD.toEdges hI hr (.inl rfl)) h)
/-- A REGION THAT DRAWS ITS ORDER: the walk in the order of the text suffices. -/
theorem wp_region_plan {ro : Option Nat} (hnd : ∀ (i : Nat) (o : Oper), ops[i]? = some o → ∀ c, o.op ≠ Op.defer c) {id : Nat} {Q : Exit → Act → World → Prop} {a : Act} {w : World} {D : Plan} {F : Act → World → Prop} (hm : P.follows .mixedOrders = true) (hB : Region.lexB .any ops = true) (hD : D.Ok .any ops)
    (hc : ∀ i, D.eff i = false → D.cls i { w with drawn := w.drawn + 1 }) (hF : ∀ a w, F a w → Q .normal a w)
    (h : lexP P ops D NoZ F ops.toList 0 a { w with drawn := w.drawn + 1 }) : (Code.region id ops true).wpIn (Fr ro) 0 P Q a w := by
  simp only [Region.lexB, Bool.and_eq_true] at hB
  refine wpIn_region_any hm (any_sound (Z := NoZ) (G := fun _ => True) hD.toEdges hnd (fun _ _ _ _ _ _ => trivial) (fun _ _ _ _ k => k.elim) hF _ _ _ _ trivial ⟨fun e he => ?_, fun i _ hE => hc i hE⟩ ?_)
  · rcases Nat.lt_or_ge e ops.size with h' | h'
    · simp [h'] at he
    · simp [h'] at he
  · have := any_of_lex (md := .any) hD hB.1 ops.toList 0 (Array.replicate ops.size false) a _ (by simp) (by simpa using hB.2) ⟨fun e he => by
      rcases Nat.lt_or_ge e ops.size with h' | h'
      · simp [h'] at he
      · simp [h'] at he, fun i _ hE => hc i hE⟩ h
    simpa using this
/-- A walk in which whatever leaves the world alone goes first; then each of the others that may be next. -/
def treeP (P : Program) (md : Region.Mode) (ops : Array Oper) (D : Plan) (Z : List PanicEntry → World → Prop) (F : Act → World → Prop) : Nat → Array Bool → Act → World → Prop
  | 0, listed, a, w => Region.ready md ops listed = [] ∧ F a w
  | n + 1, listed, a, w => (Region.ready md ops listed = [] ∧ F a w) ∨
    (∃ k ∈ Region.ready md ops listed, D.eff k = false ∧ opP P ops D Z k (treeP P md ops D Z F n (listed.setIfInBounds k true)) a w) ∨
    (Region.ready md ops listed ≠ [] ∧ ∀ k ∈ Region.ready md ops listed, opP P ops D Z k (treeP P md ops D Z F n (listed.setIfInBounds k true)) a w)
theorem any_of_tree {D : Plan} (hD : D.Edges md ops) {F : Act → World → Prop} (hsel : ∀ (j : Nat) (o : Oper) cs b, ops[j]? = some o → o.op ≠ .select cs b)
    (hap : ∀ (i j : Nat) (oi oj : Oper), ops[i]? = some oi → ops[j]? = some oj → j ≠ i → (∀ e ∈ oj.after, Region.binds md e = true → e.on ≠ i) → (∀ e ∈ oi.after, Region.binds md e = true → e.on ≠ j) → oi.apart ops oj = true) :
    ∀ (n : Nat) (listed : Array Bool) (a : Act) (w : World), Inv D listed w → treeP P md ops D Z F n listed a w → anyP P md ops D Z F n listed a w
  | 0, _, _, _, _, h => h
  | n + 1, listed, a, w, hI, h => by
    rcases h with ⟨h0, hF⟩ | ⟨k, hk, hE, h⟩ | ⟨h0, h⟩
    · exact ⟨fun _ => hF, fun i hi => by rw [h0] at hi; cases hi⟩
    · obtain ⟨hun, ok, hok, hall⟩ := mem_ready.1 hk
      have hfree : ∀ j oj, ops[j]? = some oj → j ≠ k → listed.getD j true = false → (∀ e ∈ oj.after, Region.binds md e = true → e.on ≠ k) → ok.apart ops oj = true := fun j oj hj hjk hju hno => by
        refine hap k j ok oj hok hj hjk hno fun e he hb heq => ?_
        have h1 := hall e he hb
        rw [heq] at h1
        rw [getD_tf h1] at hju; cases hju
      unfold opP at h
      simp only [hok] at h
      by_cases hw : Region.wanted ok (yielded ops a.tmps) = true
      · rw [if_pos hw, if_neg (by simp [hE])] at h
        obtain ⟨v, hv, hK⟩ := h
        exact first_still hD hok hsel n listed a w hI hfree hk (.inl ⟨hw, hE, hv⟩) (any_of_tree hD hsel hap n _ _ _ (inv_of hD hI hk (.inl rfl)) hK)
      · rw [if_neg hw] at h
        exact first_still hD hok hsel n listed a w hI hfree hk (.inr ⟨by simpa using hw, rfl⟩) (any_of_tree hD hsel hap n _ _ _ (inv_of hD hI hk (.inl rfl)) h)
    · refine ⟨fun e => absurd e h0, fun i hi => opP_mono (fun a' w' hw' h3 => any_of_tree hD hsel hap n _ _ _ (inv_of hD hI hi hw') h3) (h i hi)⟩
/-- A REGION THAT DRAWS ITS ORDER: the tree of the ways that its effects may go suffices. -/
theorem wp_region_tree {ro : Option Nat} (hnd : ∀ (i : Nat) (o : Oper), ops[i]? = some o → ∀ c, o.op ≠ Op.defer c) {id : Nat} {Q : Exit → Act → World → Prop} {a : Act} {w : World} {D : Plan} {F : Act → World → Prop} (hm : P.follows .mixedOrders = true) (hs : Region.noSelect ops = true) (hD : D.Edges .any ops)
    (hap : ∀ (i j : Nat) (oi oj : Oper), ops[i]? = some oi → ops[j]? = some oj → j ≠ i → (∀ e ∈ oj.after, Region.binds .any e = true → e.on ≠ i) → (∀ e ∈ oi.after, Region.binds .any e = true → e.on ≠ j) → oi.apart ops oj = true)
    {G : Act → Prop} (hg : G a) (hG : ∀ (i : Nat) (o : Oper), ops[i]? = some o → ∀ a v, G a → G (a.put o.dst v)) (hZ : ∀ a ch w, G a → Z ch w → Q (.panic ch) a w)
    (hc : ∀ i, D.eff i = false → D.cls i { w with drawn := w.drawn + 1 }) (hF : ∀ a w, F a w → Q .normal a w)
    (h : treeP P .any ops D Z F ops.size (Array.replicate ops.size false) a { w with drawn := w.drawn + 1 }) : (Code.region id ops true).wpIn (Fr ro) 0 P Q a w := by
  have hI : Inv D (Array.replicate ops.size false) { w with drawn := w.drawn + 1 } := ⟨fun e he => by
    rcases Nat.lt_or_ge e ops.size with h' | h'
    · simp [h'] at he
    · simp [h'] at he, fun i _ hE => hc i hE⟩
  exact wpIn_region_any hm (any_sound hD hnd hG hZ hF _ _ _ _ hg hI (any_of_tree hD (Region.noSelect_spec hs) hap _ _ _ _ hI h))
end
end Go.Vc
