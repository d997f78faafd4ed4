/-
  What a given argument holds, out of the row's reading of it.
-/
import Derived.Test.YtffhlgejfgmpiaaGreatDoorWords2
import Derived.ChangeSlices
import Derived.WideShapes
import Derived.ChangeShapes
import Derived.OpenShut
namespace Go.Vc
open Go.RowKit Go.ChangeShapes Go.WideShapes
section
variable {H : Type} {enc : TypeId × Value → H} {P : Program} {w : World} {base : Nat} {sp : Nat → Bool} {held : Bool}
theorem inK_of_wf {k : IntKind} {n : Int} (h : (Lit.int k n).wf = true) : InK k n := by
  simp only [Lit.wf, Bool.and_eq_true, decide_eq_true_eq] at h; exact h
theorem list_of {α : Type} : ∀ {n : Nat} {Q : Nat → α → Prop}, (∀ i, i < n → ∃ x, Q i x) → ∃ xs : List α, xs.length = n ∧ ∀ (i : Nat) (hi : i < xs.length), Q i xs[i]
  | 0, _, _ => ⟨[], rfl, fun i hi => by simp at hi⟩
  | n + 1, Q, h => by
    obtain ⟨x, hx⟩ := h 0 (by omega)
    obtain ⟨xs, hl, hxs⟩ := list_of (n := n) (Q := fun i => Q (i + 1)) fun i hi => h (i + 1) (by omega)
    refine ⟨x :: xs, by simp [hl], fun i hi => ?_⟩
    cases i with
    | zero => exact hx
    | succ i => simp only [List.getElem_cons_succ]; exact hxs i (by simpa using hi)
/-- A slice that is read. -/
theorem slice_open {t e : TypeId} (ht : P.underlying t = some (.slice e)) (hpos : 0 < P.cellsOf e) {fuel : Nat} {p : Option Addr} {l c : Nat} {x : DataW H × List MemPlace} (h : DataW.trod enc P w base sp held fuel t [.slice p l c] = some x) :
    l ≤ c ∧ c ≤ maxLen ∧ ∀ i, i < l → ∃ b o cs y n, p = some ⟨b, o, none⟩ ∧ b < w.heap.size ∧ cs.length = P.cellsOf e ∧ CellsAt w b (o + i * P.cellsOf e) cs ∧ DataW.trod enc P w base sp held n e cs = some y := by
  rcases DataW.trod_slice ht h with ⟨h0, _⟩ | ⟨a, len, cap, elems, rest, n, _, h0, _, _, hl, hm, hlen, hel, _, _⟩
  · simp at h0
    obtain ⟨rfl, rfl, rfl⟩ := h0
    exact ⟨Nat.le_refl _, Nat.zero_le _, fun i hi => by omega⟩
  · simp at h0
    obtain ⟨rfl, rfl, rfl⟩ := h0
    refine ⟨hl, hm, fun i hi => ?_⟩
    have he := hel i hi
    rw [List.getElem?_eq_getElem (by omega)] at he
    obtain ⟨cs, hcs, hy⟩ := Option.bind_eq_some_iff.1 he
    obtain ⟨_, hcl, hcell⟩ := World.cells?_some hcs
    obtain ⟨b, off, spot⟩ := a
    have hspot : spot = none := by
      have he := hel 0 (by omega)
      rw [List.getElem?_eq_getElem (by omega)] at he
      obtain ⟨cs, hcs, _⟩ := Option.bind_eq_some_iff.1 he
      obtain ⟨_, hcl, hcell⟩ := World.cells?_some hcs
      have g0 := hcell 0 hpos
      rw [List.getElem?_eq_getElem (by omega)] at g0
      simpa [Addr.add] using World.cell?_spot g0
    subst hspot
    have g0 := hcell 0 hpos
    rw [List.getElem?_eq_getElem (by omega), add_plain', add_plain'] at g0
    refine ⟨b, off, cs, elems[i], n, rfl, World.block_lt_of_cell? w _ g0, hcl, fun j v hj => ?_, hy⟩
    have hjl : j < P.cellsOf e := by
      have := (List.getElem?_eq_some_iff.1 hj).1
      omega
    have h1 := hcell j hjl
    rw [hj, add_plain', add_plain'] at h1
    exact h1
/-- A slice of structs. -/
theorem rs_open {α : Type} {RV : World → (Nat → Prop) → List Value → α → Prop} {sz : Nat} {t e : TypeId} (ht : P.underlying t = some (.slice e)) (hsz : P.cellsOf e = sz) (hpos : 0 < sz)
    (hel : ∀ (n : Nat) (cs : List Value) (y : DataW H × List MemPlace), DataW.trod enc P w base sp held n e cs = some y → ∃ x : α, RV w (fun _ => True) cs x)
    {fuel : Nat} {p : Option Addr} {l c : Nat} {x : DataW H × List MemPlace} (h : DataW.trod enc P w base sp held fuel t [.slice p l c] = some x) :
    l ≤ c ∧ c ≤ maxLen ∧ ∃ xs : List α, l = xs.length ∧ RS sz (ElemC RV) w (fun _ => True) p xs := by
  subst hsz
  obtain ⟨h1, h2, h3⟩ := slice_open ht hpos h
  obtain ⟨xs, hl, hxs⟩ := list_of (α := α) (Q := fun i x => ∃ b o, p = some ⟨b, o, none⟩ ∧ True ∧ ElemC RV w (fun _ => True) b (o + i * P.cellsOf e) x) fun i hi => by
    obtain ⟨b, o, cs, y, n, hp, hb, _, hc, hy⟩ := h3 i hi
    obtain ⟨x, hx⟩ := hel n cs y hy
    exact ⟨x, b, o, hp, trivial, hb, cs, hx, hc⟩
  exact ⟨h1, h2, xs, hl.symm, hxs⟩
/-- A slice of integers. -/
theorem ints_open {k : IntKind} {t e : TypeId} (ht : P.underlying t = some (.slice e)) (he : P.underlying e = some (.int k)) (hsz : P.cellsOf e = 1)
    {fuel : Nat} {p : Option Addr} {l c : Nat} {x : DataW H × List MemPlace} (h : DataW.trod enc P w base sp held fuel t [.slice p l c] = some x) :
    l ≤ c ∧ c ≤ maxLen ∧ ∃ xs : List Int, l = xs.length ∧ Ints k w (fun _ => True) p xs := by
  obtain ⟨h1, h2, h3⟩ := slice_open ht (by omega) h
  obtain ⟨xs, hl, hxs⟩ := list_of (α := Int) (Q := fun i x => ∃ b o, p = some ⟨b, o, none⟩ ∧ True ∧ IntC k w (fun _ => True) b (o + i * 1) x) fun i hi => by
    obtain ⟨b, o, cs, y, n, hp, hb, _, hc, hy⟩ := h3 i hi
    obtain ⟨z, rfl, _, hw⟩ := DataW.trod_int he hy
    rw [hsz] at hc
    exact ⟨z, b, o, hp, trivial, by simpa using hc 0 _ rfl, inK_of_wf hw⟩
  exact ⟨h1, h2, xs, hl.symm, hxs⟩
/-- A field of a struct that is read. -/
theorem field_open {t : TypeId} {fs : Array Field} (ht : P.underlying t = some (.struct fs)) {fuel : Nat} {cs : List Value} {x : DataW H × List MemPlace} (h : DataW.trod enc P w base sp held fuel t cs = some x) (i : Nat) {f : Field} (hf : fs[i]? = some f)
    {T : TypeId} (hT : f.type = T) {o : Nat} (ho : f.offset = o) {s : Nat} (hs : P.cellsOf T = s) : ∃ n y, DataW.trod enc P w base sp held n T ((cs.drop o).take s) = some y := by
  subst hT ho hs
  obtain ⟨xs, n, _, _, _, hl, hx⟩ := DataW.trod_struct ht h
  refine ⟨n, xs[i]'(by rw [hl]; exact (Array.getElem?_eq_some_iff.1 hf).1), ?_⟩
  rw [hx i f hf, List.getElem?_eq_getElem]
theorem struct_len {t : TypeId} {fs : Array Field} (ht : P.underlying t = some (.struct fs)) {fuel : Nat} {cs : List Value} {x : DataW H × List MemPlace} (h : DataW.trod enc P w base sp held fuel t cs = some x) : cs.length = P.cellsOf t := by
  obtain ⟨xs, n, _, _, hl, _, _⟩ := DataW.trod_struct ht h
  exact hl
theorem int_open {t : TypeId} {k : IntKind} (ht : P.underlying t = some (.int k)) {fuel : Nat} {cs : List Value} {x : DataW H × List MemPlace} (h : DataW.trod enc P w base sp held fuel t cs = some x) : ∃ n, cs = [.int k n] ∧ InK k n := by
  obtain ⟨n, h1, _, h2⟩ := DataW.trod_int ht h
  exact ⟨n, h1, inK_of_wf h2⟩
theorem bool_open {t : TypeId} (ht : P.underlying t = some .bool) {fuel : Nat} {cs : List Value} {x : DataW H × List MemPlace} (h : DataW.trod enc P w base sp held fuel t cs = some x) : ∃ b, cs = [.bool b] := by
  obtain ⟨n, h1, _⟩ := DataW.trod_bool ht h
  exact ⟨n, h1⟩
theorem string_open {t : TypeId} (ht : P.underlying t = some .string) {fuel : Nat} {cs : List Value} {x : DataW H × List MemPlace} (h : DataW.trod enc P w base sp held fuel t cs = some x) : ∃ s : ByteArray, cs = [.string s] ∧ s.size ≤ maxLen := by
  obtain ⟨n, h1, _, h2⟩ := DataW.trod_string ht h
  exact ⟨n, h1, h2⟩
theorem slice_form {t e : TypeId} (ht : P.underlying t = some (.slice e)) {fuel : Nat} {cs : List Value} {x : DataW H × List MemPlace} (h : DataW.trod enc P w base sp held fuel t cs = some x) : ∃ p l c, cs = [.slice p l c] := by
  rcases DataW.trod_slice ht h with ⟨h0, _⟩ | ⟨a, len, cap, elems, rest, n, _, h0, _⟩
  · exact ⟨_, _, _, h0⟩
  · exact ⟨_, _, _, h0⟩
end
end Go.Vc
