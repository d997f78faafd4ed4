/-
  Histories: jumps.
-/
import Derived.Test.YtbnjlnbmdkbpkaaHistCalls4
import Derived.Test.YtbnjlnbmdkbpkaaRange
namespace Go.Vc
open Go.RowKit
theorem doesG_func3 {P : Program} {g : FuncId} {y c1 c2 c3 : Value} {w : World} {R : Ending → World → Prop} (h : Does P g #[y, c1, c2, c3] w R) : DoesG P (.func g) #[] #[y] #[c1, c2, c3] w R := h
/-- A row of structs that grows, all in blocks of which R holds. -/
def OwnR {α : Type} (RV : World → (Nat → Prop) → List Value → α → Prop) (w : World) (R : Nat → Prop) (T : TypeId) (sz : Nat) (p : Option Addr) (l c : Nat) (xs : List α) : Prop :=
  ∃ vss : List (List Value), Own w 0 T sz p l c vss.flatten ∧ All2 (fun vs x => vs.length = sz ∧ RV w (fun k => R k ∧ ∀ a, p = some a → a.block ≠ k) vs x) vss xs ∧ ∀ a, p = some a → R a.block
theorem OwnR.nil {α : Type} {RV : World → (Nat → Prop) → List Value → α → Prop} (w : World) (R : Nat → Prop) (T : TypeId) (sz : Nat) : OwnR RV w R T sz none 0 0 [] := ⟨[], own_nil _ _ _ _, .nil, fun a h => by cases h⟩
theorem OwnR.upd {α : Type} {RV : World → (Nat → Prop) → List Value → α → Prop} (hs : StableV RV) {w w' : World} {R Q : Nat → Prop} {T : TypeId} {sz : Nat} {p : Option Addr} {l c : Nat} {xs : List α} (h : OwnR RV w R T sz p l c xs)
    (hu : Upd Q w w') (hq : ∀ k, R k → ¬ Q k) : OwnR RV w' R T sz p l c xs := by
  obtain ⟨vss, ho, ha, hp⟩ := h
  exact ⟨vss, ho.upd hu fun a e => hq _ (hp a e), ha.imp fun vs x ⟨q1, q2⟩ => ⟨q1, hs _ _ _ _ _ _ hu (fun k hk => hq k hk.1) q2⟩, hp⟩
theorem OwnR.wider {α : Type} {RV : World → (Nat → Prop) → List Value → α → Prop} (hw : WidensV RV) {w : World} {R R' : Nat → Prop} {T : TypeId} {sz : Nat} {p : Option Addr} {l c : Nat} {xs : List α} (h : OwnR RV w R T sz p l c xs)
    (hr : ∀ k, k < w.heap.size → R k → R' k) : OwnR RV w R' T sz p l c xs := by
  obtain ⟨vss, ho, ha, hp⟩ := h
  exact ⟨vss, ho, ha.imp fun vs x ⟨q1, q2⟩ => ⟨q1, hw _ _ _ _ _ (fun k hk h => ⟨hr k hk h.1, h.2⟩) q2⟩, fun a e => hr _ (ho.base e).2 (hp a e)⟩
theorem OwnR.join {α : Type} {RV : World → (Nat → Prop) → List Value → α → Prop} (hs : StableV RV) (hw : WidensV RV) (h1 : ∀ w ok vs x, RV w ok vs x → ∀ u ∈ vs, u.oneCell' = true) {P : Program} {t e : TypeId} {sz by_ : Nat} (ht : SlT P t e sz by_) (ty : TypeId)
    {w : World} {R : Nat → Prop} {base2 : Nat} {p q : Option Addr} {l c m d : Nat} {xs ys : List α} (h : OwnR RV w R e sz p l c xs) (k : OwnL RV w base2 e sz q m d ys) (hp : ∀ a, p = some a → a.block < base2)
    (hb2 : base2 ≤ w.heap.size) (h63 : l + m ≤ maxLen) (hby : (l + m) * by_ ≤ 140737488355328) :
    ∃ p' c' w', (Builtin.append_ #[t, t] ty #[.slice p l c, .slice q m d]).run P w = .ok (.slice p' (l + m) c') w' ∧ OwnR RV w' (fun k => R k ∨ base2 ≤ k ∧ k < w'.heap.size) e sz p' (l + m) c' (xs ++ ys) ∧
      Upd (fun k => ∃ a, p = some a ∧ a.block = k) w w' := by
  obtain ⟨vss, ho, ha, hpR⟩ := h
  obtain ⟨uss, ko, ka⟩ := k
  obtain ⟨p', c', w', hr, ho', hu, hat⟩ := append_own ht ty ho (p2 := q) (l2 := m) (c2 := d) (news := uss.flatten) ko.1 ko.src (by
    intro u hu
    obtain ⟨vs, hvs, hu⟩ := List.mem_flatten.1 hu
    have : ∀ {l : List (List Value)} {m : List α}, All2 (fun vs x => vs.length = sz ∧ RV w (Inner w base2 q) vs x) l m → ∀ vs ∈ l, ∃ x, RV w (Inner w base2 q) vs x := by
      intro l m hh
      induction hh with
      | nil => intro vs h; simp at h
      | cons x _ ih =>
        intro vs h
        rcases List.mem_cons.1 h with rfl | h
        · exact ⟨_, x.2⟩
        · exact ih vs h
    obtain ⟨x, hx⟩ := this ka vs hvs
    exact h1 _ _ _ _ hx u hu) h63 hby (Nat.zero_le _)
  have hsz := hu.size
  have key : ∀ (vs' : List Value) (x' : α) (ok : Nat → Prop), (∀ g, g < w.heap.size → ok g → (R g ∨ base2 ≤ g) ∧ ∀ a, p = some a → a.block ≠ g) → RV w ok vs' x' → RV w' (fun k => (R k ∨ base2 ≤ k ∧ k < w'.heap.size) ∧ ∀ a, p' = some a → a.block ≠ k) vs' x' := fun vs' x' ok hok h' => by
    have h' : RV w (fun g => g < w.heap.size ∧ ok g) vs' x' := hw _ _ _ _ _ (fun k hk hh => ⟨hk, hh⟩) h'
    have h2 := hs _ _ _ _ _ _ hu (fun k hk ⟨a, e1, e2⟩ => (hok k hk.1 hk.2).2 a e1 e2) h'
    refine hw _ _ _ _ _ (fun k _ hk => ?_) h2
    obtain ⟨a1, a2⟩ := hok k hk.1 hk.2
    have := hk.1
    refine ⟨a1.imp id fun g => ⟨g, by omega⟩, fun a' e' hk' => ?_⟩
    rcases hat a' e' with ⟨a, e1, e2⟩ | e2
    · exact a2 a e1 (e2.trans hk')
    · omega
  refine ⟨p', c', w', hr, ⟨vss ++ uss, by simpa using ho', All2.append (ha.imp fun vs' x' ⟨a1, a2⟩ => ⟨a1, key _ _ _ (fun g _ hg => ⟨.inl hg.1, hg.2⟩) a2⟩) (ka.imp fun vs' x' ⟨a1, a2⟩ => ⟨a1, key _ _ _ (fun g _ ⟨g1, g2, _⟩ => ⟨.inr g1, fun a ea => by have := hp a ea; omega⟩) a2⟩), fun a' ha' => ?_⟩, hu⟩
  rcases hat a' ha' with ⟨a, e1, e2⟩ | e2
  · exact .inl (e2 ▸ hpR a e1)
  · have := (ho'.base ha').2
    exact .inr (by omega)
end Go.Vc
namespace Go.Proofs.Ytbnjlnbmdkbpkaa
open Go.RowKit Go.Vc
section
variable {w : World} {A : Nat → Prop} {b : Nat} {ns : List Nd} {cur : Nat}
/-- slices.Backward's iterator. -/
theorem back_does {b1 : Nat} {p : Option Addr} {c lr : Nat} {ks : List Nat} (J : Nat → World → Prop)
    (hJ : ∀ j wl, J j wl → wl.cell? ⟨b1, 0, none⟩ = some (.slice p ks.length c) ∧ Src wl p (ks.map fun n : Nat => Value.int .i64 n)) (h0 : J 0 w) (hk : ks.length ≤ 1000000000)
    (hY : ∀ j wl (h : j < ks.length), J j wl → YieldsV Try.prog lr #[.int .i64 ((ks.length - 1 - j : Nat) : Int), .int .i64 ((ks[ks.length - 1 - j]'(by omega) : Nat) : Int)] wl fun e w' => e = .returned (.bool true) ∧ J (j + 1) w') :
    Does Try.prog 58 #[.func (.yield lr) #[] #[], .pointer (some ⟨b1, 0, none⟩)] w fun e w' => e = .returned (.tuple #[]) ∧ J ks.length w' := by
  apply f58_does
  refine ⟨b1, 0, rfl, _, _, _, (hJ 0 w h0).1, inI64 (by omega) (by omega), fun x n wl => ∃ j : Nat, j ≤ ks.length ∧ x = (ks.length : Int) - 1 - j ∧ n = ks.length - j ∧ J j wl, ⟨_, 0, Nat.zero_le _, by omega, rfl, h0⟩, ?_⟩
  rintro _ _ wl ⟨j, hj, rfl, rfl, hw⟩
  refine brr (fun q => ?_) fun q => ?_
  · have q := of_decide_eq_true q
    have hlt : j < ks.length := by omega
    obtain ⟨h1, h2⟩ := hJ j wl hw
    have hi : ks.length - 1 - j < ks.length := by omega
    obtain ⟨bb, o, hp, hc⟩ := h2 (ks.length - 1 - j) (.int .i64 ((ks[ks.length - 1 - j]'hi : Nat) : Int)) (by rw [List.getElem?_map, List.getElem?_eq_getElem hi]; rfl)
    have e : ((ks.length : Int) - 1 - j).toNat = ks.length - 1 - j := by omega
    refine ⟨b1, 0, rfl, _, _, _, h1, ⟨by omega, by omega⟩, bb, o, hp, _, by rw [e]; exact hc, doesV_yield ?_⟩
    have e2 : (ks.length : Int) - 1 - j = ((ks.length - 1 - j : Nat) : Int) := by omega
    rw [e2]
    refine (hY j wl hlt hw).imp ?_
    rintro e w' ⟨rfl, hJ'⟩
    exact ⟨_, rfl, fls rfl ⟨inI64 (by omega) (by omega), _, by omega, j + 1, hlt, by omega, rfl, hJ'⟩⟩
  · have q := of_decide_eq_false q
    obtain rfl : j = ks.length := by omega
    exact ⟨rfl, hw⟩
/-- The way's iterator: J tells what the body keeps, in blocks of which R holds. -/
theorem way1_does {bf bt bh lr : Nat} {f0 t0 : Nat} (J : List (Nat × Bool) → World → (Nat → Prop) → Prop) (hf : w.cell? ⟨bf, 0, none⟩ = some (.int .i64 (f0 : Int))) (ht : w.cell? ⟨bt, 0, none⟩ = some (.int .i64 (t0 : Int))) (hh : w.cell? ⟨bh, 0, none⟩ = some (.pointer (some ⟨b, 0, none⟩)))
    (hcf : CanStore w bf 0) (hct : CanStore w bt 0) (hne : bf ≠ bt ∧ bf ≠ bh ∧ bt ≠ bh) (ok : okL ns) (hn6 : ns.length ≤ 65536) (hf0 : f0 < ns.length) (ht0 : t0 < ns.length)
    (hlt : ∀ d wl R, J d wl R → ∀ k, R k → k < wl.heap.size)
    (hst : ∀ d wl wl' R Q, J d wl R → Upd Q wl wl' → (∀ k, Q k → (k = bf ∨ k = bt ∨ w.heap.size ≤ k) ∧ ¬ R k) → J d wl' R)
    (hH : ∀ d wl R, J d wl R → Hs wl A b ns cur) (hA : ∀ k, A k → k < w.heap.size ∧ k ≠ bf ∧ k ≠ bt)
    (hY : ∀ d s rest wl R, J d wl R → d ++ s :: rest = wayF (paF ns) f0 t0 → YieldsV Try.prog lr #[.int .i64 (s.1 : Int), .bool s.2] wl fun e w' => e = .returned (.bool true) ∧ ∃ R', J (d ++ [s]) w' R' ∧ Upd R wl w' ∧ ∀ k, R' k → R k ∨ wl.heap.size ≤ k)
    {R0 : Nat → Prop} (h0 : J [] w R0) (hR0 : ¬ R0 bf ∧ ¬ R0 bt ∧ ¬ R0 bh) :
    Does Try.prog 54 #[.func (.yield lr) #[] #[], .pointer (some ⟨bf, 0, none⟩), .pointer (some ⟨bt, 0, none⟩), .pointer (some ⟨bh, 0, none⟩)] w fun e w' => e = .returned (.tuple #[]) ∧ ∃ R, J (wayF (paF ns) f0 t0) w' R := by
  apply f54_does
  intro b4 w4 hb4
  have e4 := hb4.eq
  have s4 := hb4.size
  have lf := cell_lt hf
  have lt_ := cell_lt ht
  have lh := cell_lt hh
  have hpa := paF_lt ok
  have hpb : ∀ {k : Nat}, k < ns.length → k ≠ 0 → ∃ (hk : k < ns.length), ns[k].par = (paF ns k : Nat) ∧ paF ns k < ns.length := fun {k} hk h0 => ⟨hk, by
    unfold paF
    rw [getD_at hk]
    have := below ok hk h0
    omega, by have := hpa k h0; omega⟩
  have h04 : J [] w4 R0 := hst _ _ _ _ (fun _ => False) h0 hb4.ext fun k hk => hk.elim
  refine ⟨fun p l c n wl => ∃ (f t : Nat) (d : List (Nat × Bool)) (ks : List Nat) (R : Nat → Prop), wl.cell? ⟨bf, 0, none⟩ = some (.int .i64 (f : Int)) ∧ wl.cell? ⟨bt, 0, none⟩ = some (.int .i64 (t : Int)) ∧ wl.cell? ⟨bh, 0, none⟩ = some (.pointer (some ⟨b, 0, none⟩)) ∧ wl.cell? ⟨b4, 0, none⟩ = some (.func (.yield lr) #[] #[]) ∧
      CanStore wl bf 0 ∧ CanStore wl bt 0 ∧ f < ns.length ∧ t < ns.length ∧ n = f + t ∧ ks.length + f + t ≤ f0 + t0 ∧ d ++ (wayF (paF ns) f t ++ ks.reverse.map fun k => (k, true)) = wayF (paF ns) f0 t0 ∧ l = ks.length ∧
      Own wl w4.heap.size 3 1 p l c (ks.map fun n : Nat => Value.int .i64 n) ∧ (∀ a, p = some a → ¬ R a.block) ∧ J d wl R ∧ ¬ R bf ∧ ¬ R bt ∧ ¬ R bh ∧ ¬ R b4 ∧ w4.heap.size ≤ wl.heap.size,
    ⟨_, f0, t0, [], [], R0, hb4.ext.cell hf, hb4.ext.cell ht, hb4.ext.cell hh, hb4.cell 0 rfl, hb4.ext.can hcf, hb4.ext.can hct, hf0, ht0, rfl, by simp, by simp, rfl, own_nil _ _ _ _, (fun a ha => nomatch ha), h04, hR0.1, hR0.2.1, hR0.2.2, (fun k => by have := hlt _ _ _ h0 _ k; omega), Nat.le_refl _⟩, ?_⟩
  rintro p5 _ c5 _ wl ⟨f, t, d, ks, R, cf, ct, ch, c4, kf, kt, hfl, htl, rfl, hks, hway, rfl, ho, hpR, hJ, rf, rt, rh, r4, hwl⟩
  have hwsz : w.heap.size ≤ wl.heap.size := by omega
  refine ⟨bf, 0, rfl, _, cf, bt, 0, rfl, _, ct, brr (fun q => ⟨bf, 0, rfl, _, cf, bt, 0, rfl, _, ct, brr (fun q1 => ⟨_, _, _, c4, bf, 0, rfl, _, cf, doesV_yield ?_⟩) fun q1 => ?_⟩) fun q => ?_⟩
  · -- upward
    have q1 := of_decide_eq_true q1
    obtain ⟨_, hpar, hpl⟩ := hpb hfl (by omega)
    have hup := way_up (pa := paF ns) (show t < f by omega) (hpa f (by omega))
    rw [hup] at hway
    refine (hY d (f, false) _ wl R hJ hway).imp ?_
    rintro e w16 ⟨rfl, R', hJ', hu, hR'⟩
    refine ⟨_, rfl, fls rfl fun wd hd => ?_⟩
    have hJd : J (d ++ [(f, false)]) wd R' := hst _ _ _ _ (fun _ => False) hJ' hd.ext fun k hk => hk.elim
    have hud : Upd R wl wd := Ext.then hu hd.ext
    have HH := hH _ _ _ hJd
    obtain ⟨q2, c2, _, g1, g2⟩ := HH.row
    obtain ⟨bb, o, p1, c1, hp, _, a1, _⟩ := g2.at f hfl
    have cf' := hud.cell rf cf
    refine ⟨bh, 0, rfl, _, hud.cell rh ch, b, 0, rfl, _, _, _, g1, bf, 0, rfl, _, cf', ⟨by omega, by omega⟩, bb, o, hp, _, a1, bf, 0, rfl, hud.can rf kf, fun ws hs => ?_⟩
    rw [hpar] at hs
    have us := hs.upd
    have nbt : bt ≠ bf := fun e => hne.1 e.symm
    have nbh : bh ≠ bf := fun e => hne.2.1 e.symm
    have nb4 : b4 ≠ bf := by omega
    have rf' : ∀ {k}, k < wl.heap.size → ¬ R k → ¬ R' k := fun hk hr hr' => (hR' _ hr').elim hr fun h => by omega
    refine ⟨_, ?_, paF ns f, t, d ++ [(f, false)], ks, R', hs.cell (hud.can rf kf), us.cell nbt (hud.cell rt ct), us.cell nbh (hud.cell rh ch), us.cell nb4 (hud.cell r4 c4), hs.can (hud.can rf kf), hs.can (hud.can rt kt), hpl, htl, rfl, by have := hpa f (by omega); omega, by simpa using hway, rfl,
      (ho.upd hud hpR).upd us (fun a ha e => by have := (ho.base ha).1; have e : a.block = bf := e; omega), fun a ha => rf' (ho.base ha).2 (hpR a ha), hst _ _ _ _ _ hJd us (fun k hk => ⟨.inl hk, fun h => by rw [show k = bf from hk] at h; exact rf' (by omega) rf h⟩), rf' (by omega) rf, rf' (by omega) rt, rf' (by omega) rh, rf' (by omega) r4, by have := hud.size; have := us.size; omega⟩
    have := hpa f (by omega)
    omega
  · -- downward
    have q1 := of_decide_eq_false q1
    have q : f ≠ t := by
      intro e
      subst e
      simp at q
    obtain ⟨_, hpar, hpl⟩ := hpb htl (by omega)
    have hdn := way_down (pa := paF ns) (show f < t by omega) (hpa t (by omega))
    refine ⟨bt, 0, rfl, _, ct, fun b28 w28 hb28 => ?_⟩
    have s28 := hb28.size
    have e28 := hb28.eq
    obtain ⟨p', c', w29, hr, ho', hu, hat⟩ := append_own slI 48 (ho.ext hb28.ext) (p2 := some ⟨b28, 0, none⟩) (l2 := 1) (c2 := 1) (news := [.int .i64 (t : Int)]) rfl hb28.src (by simp [Value.oneCell']) (by simp only [maxLen]; omega) (by omega) (by omega)
    refine ⟨p', _, c', w29, hr, fun wd hd => ?_⟩
    have u29 : Upd (fun k => ∃ a, p5 = some a ∧ a.block = k) wl wd := Ext.then (Upd.then (Upd.mono hb28.ext fun k _ e => e.elim) hu fun k _ e => e) hd.ext
    have nf : ∀ {k}, k < w4.heap.size → ¬ ∃ a, p5 = some a ∧ a.block = k := fun hk ⟨a, ha, e⟩ => by have := (ho.base ha).1; omega
    have hJd : J d wd R := hst _ _ _ _ _ hJ u29 fun k ⟨a, ha, e⟩ => by
      have := (ho.base ha).1
      exact ⟨by omega, e ▸ hpR a ha⟩
    have HH := hH _ _ _ hJd
    obtain ⟨q2, c2, _, g1, g2⟩ := HH.row
    obtain ⟨bb, o, p1, c1, hp, _, a1, _⟩ := g2.at t htl
    refine ⟨bh, 0, rfl, _, u29.cell (nf (by omega)) ch, b, 0, rfl, _, _, _, g1, bt, 0, rfl, _, u29.cell (nf (by omega)) ct, ⟨by omega, by omega⟩, bb, o, hp, _, a1, bt, 0, rfl, u29.can (nf (by omega)) kt, fun ws hs => ?_⟩
    rw [hpar] at hs
    have us := hs.upd
    have nb4 : b4 ≠ bt := by omega
    have hpR' : ∀ a, p' = some a → ¬ R a.block := fun a ha => by
      rcases hat a ha with ⟨a0, e1, e2⟩ | e2
      · exact e2 ▸ hpR a0 e1
      · intro h
        have := hlt _ _ _ hJ _ h
        omega
    refine ⟨_, ?_, f, paF ns t, d, ks ++ [t], R, us.cell hne.1 (u29.cell (nf (by omega)) cf), hs.cell (u29.can (nf (by omega)) kt), us.cell (fun e => hne.2.2 e.symm) (u29.cell (nf (by omega)) ch), us.cell nb4 (u29.cell (nf (by omega)) c4), hs.can (u29.can (nf (by omega)) kf), hs.can (u29.can (nf (by omega)) kt), hfl, hpl, rfl, by
      have := hpa t (by omega)
      simp only [List.length_append, List.length_cons, List.length_nil]
      omega, ?_, by simp, ?_, hpR', hst _ _ _ _ _ hJd us (fun k hk => ⟨.inr (.inl hk), fun h => by rw [show k = bt from hk] at h; exact rt h⟩), rf, rt, rh, r4, by have := u29.size; have := us.size; omega⟩
    · have := hpa t (by omega)
      omega
    · rw [hdn] at hway
      rw [← hway]
      simp
    · rw [List.map_append]
      exact (ho'.ext hd.ext).upd us fun a ha e => by have := ((ho'.ext hd.ext).base ha).1; have e : a.block = bt := e; omega
  · -- there; down the rest
    have q : f = t := by
      have : (f : Int) = t := by simpa using q
      omega
    subst q
    rw [way_same, List.nil_append] at hway
    refine f55_does _ _ _ fun b1 w1 hb1 => ⟨_, _, _, rfl, fun Dr lr2 rec wr hO => ?_⟩
    intro hYield
    have e1 := hb1.eq
    have s1 := hb1.size
    have eD := hO.blk
    have eL := hO.rcd
    have xO := hO.ext
    have sO := hO.size
    have xr : Ext wl wr := Ext.thn hb1.ext xO
    have hRlt := hlt _ _ _ hJ
    have hd' : ∀ j, j ≤ ks.length → d ++ (ks.reverse.take j).map (fun k => (k, true)) ++ (ks.reverse.drop j).map (fun k => (k, true)) = wayF (paF ns) f0 t0 := fun j hj => by
      rw [List.append_assoc, ← List.map_append, List.take_append_drop]; exact hway
    refine doesG_func ((back_does (b1 := b1) (p := p5) (c := c5) (lr := lr2) (ks := ks) (fun j wv => ∃ R', J (d ++ (ks.reverse.take j).map fun k => (k, true)) wv R' ∧ LoopAt wv lr2 rec .ready ∧ OpenD wv Dr ∧ wv.cell? ⟨b1, 0, none⟩ = some (.slice p5 ks.length c5) ∧ Own wv w4.heap.size 3 1 p5 ks.length c5 (ks.map fun n : Nat => Value.int .i64 n) ∧
      wv.cell? ⟨b4, 0, none⟩ = some (.func (.yield lr) #[] #[]) ∧ wr.heap.size ≤ wv.heap.size ∧ ∀ k, k < wr.heap.size → R' k → R k) (fun j wv ⟨R', _, _, _, g1, g2, _⟩ => ⟨g1, g2.src⟩)
      ⟨R, by simpa using hst _ _ _ _ (fun _ => False) hJ xr fun k hk => hk.elim, hO.loop, hO.opn, xO.cell (hb1.cell 0 rfl), ho.ext xr, xr.cell c4, Nat.le_refl _, fun k _ h => h⟩ (by omega) ?_).imp ?_)
    · rintro j wv hj ⟨R', hJ', hL, hop, g1, g2, g3, g4, g5⟩
      refine hYield _ _ wv _ hL ⟨hL, fun wb hT hB => ?_⟩
      have uT := hT.upd
      have nR : ∀ {k}, k < wr.heap.size → ¬ R k → ¬ R' k := fun hk hr hr' => hr (g5 _ hk hr')
      have nl : ¬ R' lr2 := nR (by omega) fun h => by have := hRlt _ h; omega
      have nD : ¬ R' Dr := nR (by omega) fun h => by have := hRlt _ h; omega
      have n1 : ¬ R' b1 := nR (by omega) fun h => by have := hRlt _ h; omega
      have n4 : ¬ R' b4 := nR (by omega) r4
      have hJb : J _ wb R' := hst _ _ _ _ _ hJ' uT fun k hk => ⟨.inr (.inr (by rw [show k = lr2 from hk]; omega)), by rw [show k = lr2 from hk]; exact nl⟩
      refine ⟨_, _, _, uT.cell (by omega) g3, doesV_yield ?_⟩
      have hi : ks.length - 1 - j < ks.length := by omega
      have hget : ks.reverse.drop j = ks[ks.length - 1 - j] :: ks.reverse.drop (j + 1) := by
        rw [List.drop_eq_getElem_cons (by rw [List.length_reverse]; exact hj), List.getElem_reverse]
      have htk : ks.reverse.take (j + 1) = ks.reverse.take j ++ [ks[ks.length - 1 - j]] := by
        rw [List.take_succ_eq_append_getElem (by rw [List.length_reverse]; exact hj), List.getElem_reverse]
      have hdj := hd' j (by omega)
      rw [hget, List.map_cons] at hdj
      refine (hY _ (ks[ks.length - 1 - j], true) _ wb R' hJb hdj).imp ?_
      rintro e w44 ⟨rfl, R'', hJ'', hu44, hR''⟩
      refine ⟨_, rfl, fls rfl ⟨hB.upd hu44 nl, fun wz hTz hRz => ⟨rfl, R'', ?_, hRz, ?_, ?_, ?_, ?_, ?_, ?_⟩⟩⟩
      all_goals have uz := hTz.upd
      · have nl'' : ¬ R'' lr2 := fun h => (hR'' _ h).elim nl fun h => by have := uT.size; omega
        rw [htk, List.map_append, ← List.append_assoc]
        exact hst _ _ _ _ _ hJ'' uz fun k hk => ⟨.inr (.inr (by rw [show k = lr2 from hk]; omega)), by rw [show k = lr2 from hk]; exact nl''⟩
      · exact ((hop.upd uT (by omega)).upd hu44 nD).upd uz (by omega)
      · exact uz.cell (by omega) (hu44.cell n1 (uT.cell (by omega) g1))
      · have hpw : ∀ a, p5 = some a → a.block < wl.heap.size := fun a ha => (ho.base ha).2
        refine ((g2.upd uT fun a ha e => ?_).upd hu44 fun a ha => ?_).upd uz fun a ha e => ?_
        · have := hpw a ha; have e : a.block = lr2 := e; omega
        · exact nR (by have := hpw a ha; omega) (hpR a ha)
        · have := hpw a ha; have e : a.block = lr2 := e; omega
      · exact uz.cell (by omega) (hu44.cell n4 (uT.cell (by omega) g3))
      · have := uT.size; have := hu44.size; have := uz.size; omega
      · intro k hk h
        rcases hR'' k h with h | h
        · exact g5 k hk h
        · have := uT.size; omega
    · rintro e we ⟨rfl, R', hJ', hL, hop, g1, g2, g3, g4, g5⟩
      refine ⟨_, rfl, hL, fun wz hT => ?_⟩
      have uT := hT.upd
      have nR : ∀ {k}, k < wr.heap.size → ¬ R k → ¬ R' k := fun hk hr hr' => hr (g5 _ hk hr')
      have nl : ¬ R' lr2 := nR (by omega) fun h => by have := hRlt _ h; omega
      have nD : ¬ R' Dr := nR (by omega) fun h => by have := hRlt _ h; omega
      have hJz : J _ wz R' := hst _ _ _ _ _ hJ' uT fun k hk => ⟨.inr (.inr (by rw [show k = lr2 from hk]; omega)), by rw [show k = lr2 from hk]; exact nl⟩
      refine leaves_marks (Ds := [Dr]) (by simp) (fun D hD => ?_) fun w' hu' => ⟨rfl, R', ?_⟩
      · rw [List.mem_singleton.1 hD]; exact hop.upd uT (by omega)
      · have := hst _ _ _ _ _ hJz hu' fun k hk => ⟨.inr (.inr (by rw [List.mem_singleton.1 hk]; omega)), by rw [List.mem_singleton.1 hk]; exact nD⟩
        have e := hd' ks.length (Nat.le_refl _)
        rw [List.drop_of_length_le (by rw [List.length_reverse]; exact Nat.le_refl _), List.map_nil, List.append_nil] at e
        rw [← e]
        exact this
end
end Go.Proofs.Ytbnjlnbmdkbpkaa
