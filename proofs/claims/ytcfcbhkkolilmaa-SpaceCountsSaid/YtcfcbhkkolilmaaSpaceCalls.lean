/-
  Which pages are free: what each function of the code does.
-/
import Derived.Test.YtcfcbhkkolilmaaV
import Derived.Test.YtcfcbhkkolilmaaSpacePure
namespace Go.Proofs.Ytcfcbhkkolilmaa
open Go.RowKit Go.Vc
/-- A space: its states lie in blocks of O. -/
def Sp (k : IntKind) (w : World) (O : Nat → Prop) (g : Nat) (p : Option Addr) (c : Nat) (st : List Int) : Prop :=
  O g ∧ OkS st ∧ 8 ≤ st.length ∧ st.length ≤ 4096 ∧ w.cell? ⟨g, 0, none⟩ = some (.slice p st.length c) ∧ Row w (fun z => O z ∧ z ≠ g) 1 p st.length c (st.map (Value.int k))
theorem Sp.upd {k : IntKind} {w w' : World} {O T : Nat → Prop} {g : Nat} {p : Option Addr} {c : Nat} {st : List Int} (h : Sp k w O g p c st) (hu : Upd T w w') (ht : ∀ z, O z → ¬ T z) : Sp k w' O g p c st := by
  obtain ⟨h1, h2, h3, h4, h5, h6⟩ := h
  exact ⟨h1, h2, h3, h4, hu.cell (ht g h1) h5, h6.upd hu fun a ha => ht _ (h6.lt ha).1.1⟩
theorem Sp.ext {k : IntKind} {w w' : World} {O : Nat → Prop} {g : Nat} {p : Option Addr} {c : Nat} {st : List Int} (h : Sp k w O g p c st) (hu : Ext w w') : Sp k w' O g p c st := h.upd hu fun _ _ => id
theorem Sp.at {k : IntKind} {w : World} {O : Nat → Prop} {g : Nat} {p : Option Addr} {c : Nat} {st : List Int} (h : Sp k w O g p c st) {i : Nat} (hi : i < st.length) :
    ∃ b o, p = some ⟨b, o, none⟩ ∧ O b ∧ b ≠ g ∧ CanStore w b (o + i) ∧ w.cell? ⟨b, o + i, none⟩ = some (.int k st[i]) := by
  obtain ⟨h1, h2, h3, h4, h5, h6⟩ := h
  obtain ⟨b, o, e, ho, hc, hv⟩ := h6.can (j := i) (by simpa using hi)
  exact ⟨b, o, e, ho.1, ho.2, hc, hv _ (by simp [hi])⟩
theorem Sp.set {k : IntKind} {w w' : World} {O : Nat → Prop} {g b o : Nat} {c : Nat} {st : List Int} (h : Sp k w O g (some ⟨b, o, none⟩) c st) {i : Nat} (hi : i < st.length) {v : Int} (h0 : 0 ≤ v) (hv : v ≤ 3) (hs : Stored w b (o + i) (.int k v) w') :
    Sp k w' O g (some ⟨b, o, none⟩) c (st.set i v) ∧ Upd (fun z => O z) w w' := by
  have hn := h.at hi
  obtain ⟨b', o', e, k1, k2, _⟩ := hn
  injection e with e
  injection e with e1 e2
  subst e1; subst e2
  obtain ⟨h1, h2, h3, h4, h5, h6⟩ := h
  refine ⟨⟨h1, h2.set i h0 hv, by rw [List.length_set]; exact h3, by rw [List.length_set]; exact h4, ?_, ?_⟩, hs.upd.mono fun z _ e => e ▸ k1⟩
  · rw [hs.other (.inl (Ne.symm k2)), List.length_set]; exact h5
  · rw [List.length_set, List.map_set]
    exact h6.set (by simpa using hi) hs
section
variable {w : World} {O : Nat → Prop} {g : Nat} {p : Option Addr} {c : Nat} {st : List Int}
theorem made_does (h : Sp .u8 w O g p c st) : Does Try.prog 34 #[.pointer (some ⟨g, 0, none⟩)] w fun e w' => e = .returned (.bool true) ∧ w' = w := by
  obtain ⟨h1, h2, h3, h4, h5, h6⟩ := h
  apply f34_does
  exact tru rfl ⟨g, 0, rfl, _, _, _, h5, by rw [decide_eq_true (by omega)], rfl⟩
theorem there_does (h : Sp .u8 w O g p c st) (page : Int) : Does Try.prog 35 #[.pointer (some ⟨g, 0, none⟩), .int .i64 page] w fun e w' => e = .returned (.bool (decide (2 ≤ page ∧ page < st.length))) ∧ w' = w := by
  obtain ⟨h1, h2, h3, h4, h5, h6⟩ := h
  apply f35_does
  refine ⟨fun j => ⟨g, 0, rfl, _, _, _, h5, ?_, rfl⟩, fun j => ⟨?_, rfl⟩⟩
  · have j := of_decide_eq_true j
    rw [show decide (page < (st.length : Int)) = decide (2 ≤ page ∧ page < (st.length : Int)) by rw [decide_eq_decide]; omega]
  · have j := of_decide_eq_false j
    rw [decide_eq_false (by omega)]
theorem alloc_does (h : Sp .u8 w O g p c st) : Does Try.prog 10 #[.pointer (some ⟨g, 0, none⟩)] w fun e w' => e = .returned (.tuple #[.int .i64 (allocF st).2.1, .int .i64 (allocF st).2.2]) ∧ Sp .u8 w' O g p c (allocF st).1 ∧ Upd O w w' := by
  apply f10_does
  have key : Does Try.prog 32 #[.pointer (some ⟨g, 0, none⟩), .func (.func 33) #[] #[]] w fun e w' => e = .returned (.tuple #[.int .i64 (allocF st).2.1, .int .i64 (allocF st).2.2]) ∧ Sp .u8 w' O g p c (allocF st).1 ∧ Upd O w w' := by
    apply f32_does
    refine (made_does h).imp ?_
    rintro e w9 ⟨rfl, rfl⟩
    refine ⟨_, rfl, fls rfl ⟨g, 0, rfl, _, _, _, h.2.2.2.2.1, fun i n wl => ∃ j : Nat, i = j ∧ n = st.length - j ∧ j ≤ st.length ∧ (∀ z, z < j → st[z]? ≠ some 0) ∧ wl = w9, ⟨_, 0, rfl, rfl, Nat.zero_le _, by omega, rfl⟩, ?_⟩⟩
    rintro _ n wl ⟨j, rfl, rfl, hj, hno, rfl⟩
    have h4 := h.2.2.2.1
    refine ⟨fun jj => ?_, fun jj => ?_⟩
    · have jj := of_decide_eq_true jj
      have hlt : j < st.length := by omega
      obtain ⟨b, o, rfl, ho, hne, hcan, hc⟩ := h.at hlt
      refine ⟨⟨by omega, by omega⟩, b, o, rfl, _, hc, fun hz => ?_, fun hz => ?_⟩
      · have hz : st[j] = 0 := by simpa using hz
        show Does Try.prog 33 #[.int .i64 j] wl _
        apply f33_does
        have hal : allocF st = (st.set j 2, (j : Int), 0) := by unfold allocF; rw [freeI_some (by rw [List.getElem?_eq_getElem hlt, hz]) hno]
        rw [hal]
        refine ⟨true, rfl, tru rfl ⟨g, 0, rfl, _, _, _, h.2.2.2.2.1, ⟨by omega, by omega⟩, b, o, rfl, hcan, fun ws s => ?_⟩⟩
        obtain ⟨q1, q2⟩ := h.set hlt (by decide) (by decide) s
        exact ⟨rfl, q1, q2⟩
      · have hz : st[j] ≠ 0 := by simpa using hz
        refine ⟨inI64 (by omega) (by omega), _, ?_, j + 1, by omega, rfl, hlt, fun z hz' => ?_, rfl⟩
        · omega
        · by_cases he : z = j
          · subst he; rw [List.getElem?_eq_getElem hlt]; exact fun e => hz (Option.some.inj e)
          · exact hno z (by omega)
    · have jj := of_decide_eq_false jj
      have hal : allocF st = (st, 0, 6) := by unfold allocF; rw [freeI_none fun z hz => hno z (by omega)]
      rw [hal]
      exact ⟨rfl, h, Upd.refl _ _⟩
  refine key.imp ?_
  rintro e w5 ⟨rfl, h2, h3⟩
  exact ⟨_, _, rfl, rfl, h2, h3⟩
theorem give_does (h : Sp .u8 w O g p c st) (page : Int) : Does Try.prog 11 #[.pointer (some ⟨g, 0, none⟩), .int .i64 page] w fun e w' => e = .returned (.int .i64 (giveF st page).2) ∧ Sp .u8 w' O g p c (giveF st page).1 ∧ Upd O w w' := by
  apply f11_does
  refine (made_does h).imp ?_
  rintro e w7 ⟨rfl, rfl⟩
  refine ⟨_, rfl, fls rfl ((there_does h page).imp ?_)⟩
  rintro e w12 ⟨rfl, rfl⟩
  refine ⟨_, rfl, fun j => ?_, fun j => ?_⟩
  · have j := not_dec j
    have hg : giveF st page = (st, 1) := by rw [giveF, if_pos (by omega)]
    rw [hg]
    exact ⟨rfl, h, Upd.refl _ _⟩
  have j := yes_dec j
  have hlt : page.toNat < st.length := by omega
  have hc := h.2.2.2.2.1
  have hok := h.2.1 _ (List.getElem_mem hlt)
  have hgd : st.getD page.toNat 0 = st[page.toNat] := by rw [List.getD_eq_getElem?_getD, List.getElem?_eq_getElem hlt]; rfl
  obtain ⟨b, o, rfl, ho, hne, hcan, hcell⟩ := h.at hlt
  refine ⟨g, 0, rfl, _, _, _, hc, ⟨by omega, by omega⟩, b, o, rfl, _, hcell, fun z => ?_, fun z => ?_⟩
  · have z : st[page.toNat] = 0 := by simpa using z
    have hg : giveF st page = (st, 10) := by rw [giveF, if_neg (by omega), hgd, z, if_neg (by decide), if_neg (by decide)]
    rw [hg]
    exact ⟨rfl, h, Upd.refl _ _⟩
  have z : st[page.toNat] ≠ 0 := by simpa using z
  refine ⟨g, 0, rfl, _, _, _, hc, ⟨by omega, by omega⟩, b, o, rfl, _, hcell, fun z2 => ?_, fun z2 => ?_⟩
  · have z2 : st[page.toNat] = 3 := by simpa using z2
    have hg : giveF st page = (st, 10) := by rw [giveF, if_neg (by omega), hgd, z2, if_neg (by decide), if_neg (by decide)]
    rw [hg]
    exact ⟨rfl, h, Upd.refl _ _⟩
  have z2 : st[page.toNat] ≠ 3 := by simpa using z2
  intro wd hd
  have hcd := hd.ext.cell hc
  have hD := h.ext hd.ext
  refine ⟨g, 0, rfl, _, _, _, hcd, g, 0, rfl, _, _, _, hcd, ⟨by omega, by omega⟩, b, o, rfl, _, hd.ext.cell hcell, ⟨by omega, by omega⟩, fun e => ?_, fun e => ?_, fun e => ?_, trivial⟩
  · omega
  · have hg : giveF st page = (st.set page.toNat 3, 0) := by rw [giveF, if_neg (by omega), hgd, e, if_neg (by decide), if_pos (by decide)]
    rw [hg]
    refine ⟨⟨by omega, by omega⟩, b, o, rfl, hd.ext.can hcan, fun ws s => ?_⟩
    obtain ⟨q1, q2⟩ := hD.set hlt (by decide) (by decide) s
    exact ⟨rfl, q1, Upd.then (hd.ext.mono fun _ _ x => x.elim) q2 fun _ _ x => x⟩
  · have hg : giveF st page = (st.set page.toNat 0, 0) := by rw [giveF, if_neg (by omega), hgd, e, if_pos (by decide)]
    rw [hg]
    refine ⟨⟨by omega, by omega⟩, b, o, rfl, hd.ext.can hcan, fun ws s => ?_⟩
    obtain ⟨q1, q2⟩ := hD.set hlt (by decide) (by decide) s
    exact ⟨rfl, q1, Upd.then (hd.ext.mono fun _ _ x => x.elim) q2 fun _ _ x => x⟩
end
/-- What a page becomes by a function; nothing: it stays. -/
def setO (st : List Int) (i : Nat) (v : Option Int) : List Int := match v with
  | some v => st.set i v
  | none => st
def Eff (f : FuncId) (v : Option Int) : Prop := ∀ (w : World) (O : Nat → Prop) (g : Nat) (p : Option Addr) (c : Nat) (st : List Int) (i : Nat), Sp .u8 w O g p c st → i < st.length →
  Does Try.prog f #[.pointer (some ⟨g, 0, none⟩), .int .i64 i] w fun e w' => e = .returned (.tuple #[]) ∧ Sp .u8 w' O g p c (setO st i v) ∧ Upd O w w'
theorem use_eff : Eff 37 (some 1) := fun w O g p c st i h hi => by
  apply f37_does
  obtain ⟨b, o, rfl, ho, hne, hcan, hcell⟩ := h.at hi
  refine ⟨g, 0, rfl, _, _, _, h.2.2.2.2.1, ⟨by omega, by omega⟩, b, o, rfl, hcan, fun ws s => ?_⟩
  obtain ⟨q1, q2⟩ := h.set hi (by decide) (by decide) s
  exact ⟨rfl, q1, q2⟩
theorem free_eff : Eff 38 (some 0) := fun w O g p c st i h hi => by
  apply f38_does
  obtain ⟨b, o, rfl, ho, hne, hcan, hcell⟩ := h.at hi
  refine ⟨g, 0, rfl, _, _, _, h.2.2.2.2.1, ⟨by omega, by omega⟩, b, o, rfl, hcan, fun ws s => ?_⟩
  obtain ⟨q1, q2⟩ := h.set hi (by decide) (by decide) s
  exact ⟨rfl, q1, q2⟩
theorem stay_eff : Eff 41 none := fun w O g p c st i h hi => by
  apply f41_does
  exact ⟨rfl, h, Upd.refl _ _⟩
def orV (v : Option Int) (d : Int) : Int := match v with
  | some v => v
  | none => d
theorem end_does {w : World} {O : Nat → Prop} {g : Nat} {p : Option Addr} {c : Nat} {st : List Int} (h : Sp .u8 w O g p c st) (hO : ∀ z, O z → z < w.heap.size) {f1 f2 : FuncId} {v1 v2 : Option Int} (e1 : Eff f1 v1) (e2 : Eff f2 v2) (k1 : 0 ≤ orV v1 2 ∧ orV v1 2 ≤ 3) (k2 : 0 ≤ orV v2 3 ∧ orV v2 3 ≤ 3) :
    Does Try.prog 36 #[.pointer (some ⟨g, 0, none⟩), .func (.func f1) #[.pointer (some ⟨g, 0, none⟩)] #[], .func (.func f2) #[.pointer (some ⟨g, 0, none⟩)] #[]] w fun e w' =>
      e = .returned (.tuple #[]) ∧ Sp .u8 w' O g p c (turnF (orV v1 2) (orV v2 3) st) ∧ Upd O w w' := by
  apply f36_does
  refine (made_does h).imp ?_
  rintro e w10 ⟨rfl, rfl⟩
  refine ⟨_, rfl, fls rfl fun b6 w6 n6 => ?_⟩
  have hb6 := n6.eq
  refine ⟨n6.can 0 (by simp), fun ws1 s1 => ?_⟩
  have n6 := n6.store s1
  refine ⟨n6.can 1 (by simp), fun ws2 s2 => ?_⟩
  have n6 := n6.store s2
  refine ⟨n6.can 2 (by simp), fun ws3 s3 => ?_⟩
  have n6 := n6.store s3
  refine ⟨n6.can 3 (by simp), fun ws4 s4 => ?_⟩
  have n6 := n6.store s4
  have x4 : Ext w10 ws4 := n6.ext
  have hT : ∀ z, O z → ¬ z = b6 := fun z hz e => by have := hO z hz; omega
  refine ⟨g, 0, rfl, _, _, _, (h.ext x4).2.2.2.2.1, fun i n wl => ∃ j : Nat, i = j ∧ n = st.length - j ∧ j ≤ st.length ∧ Sp .u8 wl O g p c (turnF (orV v1 2) (orV v2 3) (st.take j) ++ st.drop j) ∧ Upd O ws4 wl,
    ⟨_, 0, rfl, rfl, Nat.zero_le _, by simpa [turnF] using h.ext x4, Upd.refl _ _⟩, ?_⟩
  rintro _ n wl ⟨j, rfl, rfl, hj, hs, hu⟩
  have hlen : (turnF (orV v1 2) (orV v2 3) (st.take j) ++ st.drop j).length = st.length := by simp [turnF]; omega
  have hl4 := h.2.2.2.1
  refine ⟨fun jj => ?_, fun jj => ?_⟩
  · have jj := of_decide_eq_true jj
    have hlt : j < st.length := by omega
    obtain ⟨b, o, rfl, ho, hne, hcan, hcell⟩ := hs.at (i := j) (by omega)
    have htl : (turnF (orV v1 2) (orV v2 3) (st.take j)).length = j := by simp [turnF]; omega
    have hget : (turnF (orV v1 2) (orV v2 3) (st.take j) ++ st.drop j)[j]'(by omega) = st[j] := by
      rw [List.getElem_append_right (by omega)]; simp [htl]
    rw [hget] at hcell
    have hok := h.2.1 _ (List.getElem_mem hlt)
    have hcells : ∀ {m : Nat} {v : Value}, ws4.cell? ⟨b6, m, none⟩ = some v → wl.cell? ⟨b6, 0 + m, none⟩ = some v := fun hv => by rw [Nat.zero_add]; exact hu.cell (fun x => hT _ x rfl) hv
    have step : ∀ v : Option Int, setO (turnF (orV v1 2) (orV v2 3) (st.take j) ++ st.drop j) j v = turnF (orV v1 2) (orV v2 3) (st.take j) ++ (orV v st[j]) :: st.drop (j + 1) := fun v => by
      rw [List.drop_eq_getElem_cons hlt]
      cases v with
      | none => rfl
      | some v =>
        show List.set _ _ _ = _
        rw [List.set_append_right _ _ (by omega), htl, Nat.sub_self]
        rfl
    have fin : ∀ {w' : World} {v : Option Int}, orV v st[j] = turnV (orV v1 2) (orV v2 3) st[j] → Sp .u8 w' O g (some ⟨b, o, none⟩) c (setO (turnF (orV v1 2) (orV v2 3) (st.take j) ++ st.drop j) j v) → Sp .u8 w' O g (some ⟨b, o, none⟩) c (turnF (orV v1 2) (orV v2 3) (st.take (j + 1)) ++ st.drop (j + 1)) := fun hv hsp => by
      rw [step, hv] at hsp
      rw [List.take_succ_eq_append_getElem hlt]
      unfold turnF at hsp ⊢
      rw [List.map_append, List.append_assoc]
      exact hsp
    have done : ∀ {f : FuncId} {v : Option Int}, Eff f v → orV v st[j] = turnV (orV v1 2) (orV v2 3) st[j] → Does Try.prog f (#[.pointer (some ⟨g, 0, none⟩)] ++ #[.int .i64 (j : Int)] ++ #[]) wl fun e33 w33 => e33 = .returned (.tuple #[]) ∧ InK .i64 ((j : Int) + 1) ∧ ∃ ml3, ml3 < st.length - j ∧
        ∃ j' : Nat, (j : Int) + 1 = j' ∧ ml3 = st.length - j' ∧ j' ≤ st.length ∧ Sp .u8 w33 O g (some ⟨b, o, none⟩) c (turnF (orV v1 2) (orV v2 3) (st.take j') ++ st.drop j') ∧ Upd O ws4 w33 := fun he hv => by
      refine (he wl O g _ c _ j hs (by omega)).imp ?_
      rintro e w33 ⟨rfl, hs', hu'⟩
      exact ⟨rfl, inI64 (by omega) (by omega), _, by omega, j + 1, by omega, rfl, hlt, fin hv hs', hu.trans hu'⟩
    refine ⟨⟨by omega, by omega⟩, b, o, rfl, _, hcell, ⟨hok.1, by omega⟩, ?_⟩
    have h4 : st[j] = 0 ∨ st[j] = 1 ∨ st[j] = 2 ∨ st[j] = 3 := by omega
    rcases h4 with e | e | e | e
    · refine ⟨_, _, _, by rw [e]; exact hcells (n6.cell 0 rfl), done stay_eff (by rw [e]; rfl)⟩
    · refine ⟨_, _, _, by rw [e]; exact hcells (n6.cell 1 rfl), done stay_eff (by rw [e]; rfl)⟩
    · refine ⟨_, _, _, by rw [e]; exact hcells (n6.cell 2 rfl), done e1 (by rw [e]; rfl)⟩
    · refine ⟨_, _, _, by rw [e]; exact hcells (n6.cell 3 rfl), done e2 (by rw [e]; rfl)⟩
  · have jj := of_decide_eq_false jj
    obtain rfl : j = st.length := by omega
    refine ⟨rfl, by simpa using hs, Upd.then (x4.mono fun _ _ x => x.elim) hu fun _ _ x => x⟩
end Go.Proofs.Ytcfcbhkkolilmaa
