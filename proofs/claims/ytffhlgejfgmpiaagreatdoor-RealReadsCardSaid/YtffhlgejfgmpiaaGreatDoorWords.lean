/-
  Words for memory: what a slice holds, what a call leaves as it was, rows that the call itself appends to.
-/
import Derived.Test.YtffhlgejfgmpiaaGreatDoorVcDoes
import Derived.Below
import Derived.Laws.BytesArg
import Derived.Maps.AppendAt
import Derived.Lib.SlBytesConst
namespace Go.Vc
open Go.RowKit

/-! ### Worlds -/
/-- Nothing that was there has turned but (perhaps) the blocks of T. -/
structure Upd (T : Nat → Prop) (w w' : World) : Prop where
  os : w'.os = w.os
  tape : w'.tape = w.tape
  output : w'.output = w.output
  size : w.heap.size ≤ w'.heap.size
  block : ∀ k, k < w.heap.size → ¬ T k → w'.heap[k]? = w.heap[k]?
/-- Nothing that was there has turned. -/
abbrev Ext (w w' : World) : Prop := Upd (fun _ => False) w w'
theorem Upd.refl (T : Nat → Prop) (w : World) : Upd T w w := ⟨rfl, rfl, rfl, Nat.le_refl _, fun _ _ _ => rfl⟩
theorem Upd.trans {T : Nat → Prop} {a b c : World} (h : Upd T a b) (k : Upd T b c) : Upd T a c :=
  ⟨k.os.trans h.os, k.tape.trans h.tape, k.output.trans h.output, Nat.le_trans h.size k.size, fun i hi ht => (k.block i (Nat.lt_of_lt_of_le hi h.size) ht).trans (h.block i hi ht)⟩
theorem Upd.mono {T U : Nat → Prop} {a b : World} (h : Upd T a b) (ht : ∀ k, k < a.heap.size → T k → U k) : Upd U a b :=
  ⟨h.os, h.tape, h.output, h.size, fun i hi hu => h.block i hi fun k => hu (ht i hi k)⟩
/-- Two steps, of which the second touches no old block but those of T. -/
theorem Upd.then {T U : Nat → Prop} {a b c : World} (h : Upd T a b) (k : Upd U b c) (hu : ∀ i, i < a.heap.size → U i → T i) : Upd T a c :=
  ⟨k.os.trans h.os, k.tape.trans h.tape, k.output.trans h.output, Nat.le_trans h.size k.size, fun i hi ht => (k.block i (Nat.lt_of_lt_of_le hi h.size) fun x => ht (hu i hi x)).trans (h.block i hi ht)⟩
theorem Ext.then {T : Nat → Prop} {a b c : World} (h : Upd T a b) (k : Ext b c) : Upd T a c := h.then k fun _ _ x => x.elim
theorem Ext.below {a b : World} (h : Ext a b) : Below a.heap.size a b := ⟨h.os, h.tape, h.output, h.size, fun k hk => h.block k hk id⟩
theorem Upd.cell {T : Nat → Prop} {w w' : World} (h : Upd T w w') {b o : Nat} {v : Value} (ht : ¬ T b) (hc : w.cell? ⟨b, o, none⟩ = some v) : w'.cell? ⟨b, o, none⟩ = some v := by
  rw [World.cell?_of_block (w := w) (h.block b (World.block_lt_of_cell? w _ hc) ht)]; exact hc
theorem Ext.cell {w w' : World} (h : Ext w w') {b o : Nat} {v : Value} (hc : w.cell? ⟨b, o, none⟩ = some v) : w'.cell? ⟨b, o, none⟩ = some v := Upd.cell h id hc
theorem CanStore.lt {w : World} {b o : Nat} (h : CanStore w b o) : b < w.heap.size := by
  obtain ⟨⟨u, hu⟩, _⟩ := h; exact World.block_lt_of_cell? w _ hu
theorem Upd.can {T : Nat → Prop} {w w' : World} (h : Upd T w w') {b o : Nat} (ht : ¬ T b) (hc : CanStore w b o) : CanStore w' b o := by
  have hb := h.block b hc.lt ht
  obtain ⟨⟨u, hu⟩, hf⟩ := hc
  exact ⟨⟨u, h.cell ht hu⟩, (World.frozen?_of_block (w := w) hb).trans hf⟩
theorem Ext.can {w w' : World} (h : Ext w w') {b o : Nat} (hc : CanStore w b o) : CanStore w' b o := Upd.can h id hc

theorem NewBlk.ext {w w' : World} {b : Nat} {cs : List Value} {T : TypeId} (h : NewBlk w b cs T w') : Ext w w' := by
  rw [h.world]
  exact ⟨rfl, rfl, rfl, by simp, fun k hk _ => Below.heap_alloc _ _ _ hk⟩
theorem NewBlk.heap {w w' : World} {b : Nat} {cs : List Value} {T : TypeId} (h : NewBlk w b cs T w') : w'.heap[b]? = some (.cells cs.toArray T) := by
  rw [h.world, h.eq]; exact heap_alloc_new _ _
theorem NewBlk.size {w w' : World} {b : Nat} {cs : List Value} {T : TypeId} (h : NewBlk w b cs T w') : w'.heap.size = w.heap.size + 1 := by rw [h.world]; simp
theorem NewBlk.lt {w w' : World} {b : Nat} {cs : List Value} {T : TypeId} (h : NewBlk w b cs T w') : b < w'.heap.size := by rw [h.size, h.eq]; omega
theorem cell_of_heap {w : World} {b j : Nat} {cs : List Value} {T : TypeId} {fr : Nat × Nat} (h : w.heap[b]? = some (.cells cs.toArray T fr)) : w.cell? ⟨b, j, none⟩ = cs[j]? := by
  simp [World.cell?, h]
theorem NewBlk.cell {w w' : World} {b : Nat} {cs : List Value} {T : TypeId} (h : NewBlk w b cs T w') (j : Nat) {v : Value} (hj : cs[j]? = some v) : w'.cell? ⟨b, j, none⟩ = some v := by
  rw [cell_of_heap h.heap]; exact hj
theorem NewBlk.can {w w' : World} {b : Nat} {cs : List Value} {T : TypeId} (h : NewBlk w b cs T w') (j : Nat) (hj : j < cs.length) : CanStore w' b j :=
  ⟨⟨_, h.cell j (List.getElem?_eq_getElem hj)⟩, by simp [World.frozen?, h.heap]⟩
/-- A store into a block that was laid just now: as if it had been laid so. -/
theorem NewBlk.store {w w1 w2 : World} {b : Nat} {cs : List Value} {T : TypeId} (h : NewBlk w b cs T w1) {j : Nat} {x : Value} (hs : Stored w1 b j x w2) : NewBlk w b (cs.set j x) T w2 := by
  refine ⟨h.eq, ?_⟩
  rw [hs.world, h.world, World.setCell_alloc_at _ _ _ _ _ h.eq]
  congr 2
  apply Array.ext'
  simp
theorem Drew.ext {w w' : World} (h : Drew w w') : Ext w w' := by rw [h.eq]; exact ⟨rfl, rfl, rfl, Nat.le_refl _, fun _ _ _ => rfl⟩
theorem Stored.upd {w w' : World} {b o : Nat} {x : Value} (h : Stored w b o x w') : Upd (fun k => k = b) w w' := by
  rw [h.world]
  exact ⟨rfl, rfl, rfl, by simp [World.setCell], fun k _ hne => Below.heap_setCell _ _ _ _ hne⟩
theorem Stored.size {w w' : World} {b o : Nat} {x : Value} (h : Stored w b o x w') : w'.heap.size = w.heap.size := by rw [h.world]; simp [World.setCell]
theorem Stored.cell {w w' : World} {b o : Nat} {x : Value} (h : Stored w b o x w') (hc : CanStore w b o) : w'.cell? ⟨b, o, none⟩ = some x := by
  obtain ⟨⟨u, hu⟩, _⟩ := hc
  rw [h.world]; exact World.cell?_setCell_same' _ _ _ (by rw [hu]; rfl)
theorem Stored.other {w w' : World} {b o : Nat} {x : Value} (h : Stored w b o x w') {b' o' : Nat} (hne : b' ≠ b ∨ o' ≠ o) : w'.cell? ⟨b', o', none⟩ = w.cell? ⟨b', o', none⟩ := by
  rw [h.world]
  unfold World.cell? World.setCell
  simp only [Array.getElem?_modify]
  by_cases hb : b = b'
  · subst hb
    have ho : o' ≠ o := by rcases hne with h | h; exact absurd rfl h; exact h
    simp only [if_true]
    cases hh : w.heap[b]? with
    | none => simp
    | some ob => cases ob <;> simp [Array.getElem?_setIfInBounds_ne (Ne.symm ho)]
  · simp [if_neg hb]
theorem Stored.can {w w' : World} {b o : Nat} {x : Value} (h : Stored w b o x w') {b' o' : Nat} (hc : CanStore w b' o') : CanStore w' b' o' := by
  have hl := hc.lt
  obtain ⟨⟨u, hu⟩, hf⟩ := hc
  refine ⟨?_, ?_⟩
  · by_cases e : b' = b ∧ o' = o
    · obtain ⟨rfl, rfl⟩ := e
      exact ⟨x, by rw [h.world]; exact World.cell?_setCell_same' _ _ _ (by rw [hu]; rfl)⟩
    · exact ⟨u, by rw [h.other (by omega)]; exact hu⟩
  · rw [h.world, World.frozen?_setCell]; exact hf

/-! ### What a slice holds -/
/-- The elements lie behind the pointer, each of sz cells; they lie in blocks of which ok holds. -/
def RS {α : Type} (sz : Nat) (R : World → (Nat → Prop) → Nat → Nat → α → Prop) (w : World) (ok : Nat → Prop) (p : Option Addr) (xs : List α) : Prop :=
  ∀ (i : Nat) (h : i < xs.length), ∃ b o, p = some ⟨b, o, none⟩ ∧ ok b ∧ R w ok b (o + i * sz) xs[i]
/-- An element survives whatever touches none of its blocks. -/
def Stable {α : Type} (R : World → (Nat → Prop) → Nat → Nat → α → Prop) : Prop :=
  ∀ (w w' : World) (ok : Nat → Prop) (T : Nat → Prop) (b o : Nat) (x : α), Upd T w w' → (∀ k, ok k → ¬ T k) → ok b → R w ok b o x → R w' ok b o x
def Widens {α : Type} (R : World → (Nat → Prop) → Nat → Nat → α → Prop) : Prop :=
  ∀ (w : World) (ok ok' : Nat → Prop) (b o : Nat) (x : α), (∀ k, k < w.heap.size → ok k → ok' k) → R w ok b o x → R w ok' b o x
theorem RS.upd {α : Type} {sz : Nat} {R : World → (Nat → Prop) → Nat → Nat → α → Prop} (hR : Stable R) {w w' : World} {ok T : Nat → Prop} {p : Option Addr} {xs : List α} (h : RS sz R w ok p xs)
    (hu : Upd T w w') (ht : ∀ k, ok k → ¬ T k) : RS sz R w' ok p xs := fun i hi => by
  obtain ⟨b, o, e, hb, hr⟩ := h i hi
  exact ⟨b, o, e, hb, hR _ _ _ _ _ _ _ hu ht hb hr⟩
theorem RS.ext {α : Type} {sz : Nat} {R : World → (Nat → Prop) → Nat → Nat → α → Prop} (hR : Stable R) {w w' : World} {ok : Nat → Prop} {p : Option Addr} {xs : List α} (h : RS sz R w ok p xs)
    (hu : Ext w w') : RS sz R w' ok p xs := h.upd hR hu fun _ _ => id
theorem RS.nil {α : Type} {sz : Nat} {R : World → (Nat → Prop) → Nat → Nat → α → Prop} {w : World} {ok : Nat → Prop} {p : Option Addr} : RS sz R w ok p ([] : List α) := fun i h => by simp at h
def CellsAt (w : World) (b o : Nat) (vs : List Value) : Prop := ∀ j v, vs[j]? = some v → w.cell? ⟨b, o + j, none⟩ = some v
/-- An element whose cells hold values of which RV holds. -/
def ElemC {α : Type} (RV : World → (Nat → Prop) → List Value → α → Prop) (w : World) (ok : Nat → Prop) (b o : Nat) (x : α) : Prop := b < w.heap.size ∧ ∃ vs, RV w ok vs x ∧ CellsAt w b o vs
def StableV {α : Type} (RV : World → (Nat → Prop) → List Value → α → Prop) : Prop :=
  ∀ (w w' : World) (ok : Nat → Prop) (T : Nat → Prop) (vs : List Value) (x : α), Upd T w w' → (∀ k, ok k → ¬ T k) → RV w ok vs x → RV w' ok vs x
def WidensV {α : Type} (RV : World → (Nat → Prop) → List Value → α → Prop) : Prop :=
  ∀ (w : World) (ok ok' : Nat → Prop) (vs : List Value) (x : α), (∀ k, k < w.heap.size → ok k → ok' k) → RV w ok vs x → RV w ok' vs x
theorem ElemC.stable {α : Type} {RV : World → (Nat → Prop) → List Value → α → Prop} (h : StableV RV) : Stable (ElemC RV) := fun w w' ok T b o x hu ht hb ⟨hl, vs, hr, hc⟩ =>
  ⟨Nat.lt_of_lt_of_le hl hu.size, vs, h w w' ok T vs x hu ht hr, fun j v hj => hu.cell (ht b hb) (hc j v hj)⟩
theorem ElemC.widens {α : Type} {RV : World → (Nat → Prop) → List Value → α → Prop} (h : WidensV RV) : Widens (ElemC RV) := fun w ok ok' b o x hok ⟨hl, vs, hr, hc⟩ => ⟨hl, vs, h w ok ok' vs x hok hr, hc⟩
theorem All2.imp {α β : Type} {R S : α → β → Prop} (h : ∀ a b, R a b → S a b) : ∀ {l : List α} {m : List β}, All2 R l m → All2 S l m
  | _, _, .nil => .nil
  | _, _, .cons x r => .cons (h _ _ x) (All2.imp h r)
theorem All2.append {α β : Type} {R : α → β → Prop} : ∀ {l : List α} {m : List β} {l' : List α} {m' : List β}, All2 R l m → All2 R l' m' → All2 R (l ++ l') (m ++ m')
  | _, _, _, _, .nil, k => k
  | _, _, _, _, .cons x r, k => .cons x (All2.append r k)
theorem All2.get {α β : Type} {R : α → β → Prop} : ∀ {l : List α} {m : List β}, All2 R l m → ∀ (i : Nat) (h : i < m.length), ∃ a, l[i]? = some a ∧ R a m[i]
  | _, _, .nil, i, h => by simp at h
  | _, _, .cons x r, 0, h => ⟨_, rfl, x⟩
  | _, _, .cons x r, i + 1, h => by
    simp only [List.length_cons] at h
    obtain ⟨a, h1, h2⟩ := All2.get r i (by omega)
    exact ⟨a, by simpa using h1, by simpa using h2⟩
theorem flatten_at {sz : Nat} : ∀ {vss : List (List Value)} {i : Nat} {vs : List Value}, (∀ v ∈ vss, v.length = sz) → vss[i]? = some vs → ∀ j v, vs[j]? = some v → vss.flatten[i * sz + j]? = some v
  | [], i, vs, _, h, _, _, _ => by simp at h
  | x :: r, 0, vs, hl, h, j, v, hj => by
    simp only [List.getElem?_cons_zero, Option.some.injEq] at h
    subst h
    have hx := hl x (by simp)
    obtain ⟨hjl, _⟩ := List.getElem?_eq_some_iff.1 hj
    simp only [List.flatten_cons, Nat.zero_mul, Nat.zero_add]
    rw [List.getElem?_append_left hjl]; exact hj
  | x :: r, i + 1, vs, hl, h, j, v, hj => by
    have hx := hl x (by simp)
    simp only [List.getElem?_cons_succ] at h
    simp only [List.flatten_cons]
    rw [List.getElem?_append_right (by rw [hx, Nat.add_mul]; omega), hx, show (i + 1) * sz + j - sz = i * sz + j by rw [Nat.add_mul]; omega]
    exact flatten_at (fun v hv => hl v (by simp [hv])) h j v hj
/-- An integer in a cell. -/
def IntC (k : IntKind) (w : World) (_ok : Nat → Prop) (b o : Nat) (n : Int) : Prop := w.cell? ⟨b, o, none⟩ = some (.int k n) ∧ InK k n
theorem IntC.stable (k : IntKind) : Stable (IntC k) := fun _ _ _ _ _ _ _ hu ht hb h => ⟨hu.cell (ht _ hb) h.1, h.2⟩
/-- A slice of integers. -/
abbrev Ints (k : IntKind) (w : World) (ok : Nat → Prop) (p : Option Addr) (xs : List Int) : Prop := RS 1 (IntC k) w ok p xs
theorem Ints.at {k : IntKind} {w : World} {ok : Nat → Prop} {p : Option Addr} {xs : List Int} (h : Ints k w ok p xs) (i : Nat) (hi : i < xs.length) :
    ∃ b o, p = some ⟨b, o, none⟩ ∧ w.cell? ⟨b, o + i, none⟩ = some (.int k xs[i]) := by
  obtain ⟨b, o, e, _, hr⟩ := h i hi
  rw [Nat.mul_one] at hr
  exact ⟨b, o, e, hr.1⟩
theorem Ints.inK {k : IntKind} {w : World} {ok : Nat → Prop} {p : Option Addr} {xs : List Int} (h : Ints k w ok p xs) : ∀ x ∈ xs, InK k x := fun x hx => by
  obtain ⟨i, hi, e⟩ := List.getElem_of_mem hx
  obtain ⟨b, o, _, _, hr⟩ := h i hi
  rw [← e]; exact hr.2
theorem Ints.upd {k : IntKind} {w w' : World} {ok T : Nat → Prop} {p : Option Addr} {xs : List Int} (h : Ints k w ok p xs) (hu : Upd T w w') (ht : ∀ k, ok k → ¬ T k) : Ints k w' ok p xs := RS.upd (IntC.stable k) h hu ht
theorem Ints.ext {k : IntKind} {w w' : World} {ok : Nat → Prop} {p : Option Addr} {xs : List Int} (h : Ints k w ok p xs) (hu : Ext w w') : Ints k w' ok p xs := RS.ext (IntC.stable k) h hu
theorem RS.ok {α : Type} {sz : Nat} {R : World → (Nat → Prop) → Nat → Nat → α → Prop} (hR : Widens R) {w : World} {ok ok' : Nat → Prop} {p : Option Addr} {xs : List α} (h : RS sz R w ok p xs)
    (hlt : ∀ b o x, R w ok b o x → b < w.heap.size) (hok : ∀ k, k < w.heap.size → ok k → ok' k) : RS sz R w ok' p xs := fun i hi => by
  obtain ⟨b, o, e, hb, hr⟩ := h i hi
  exact ⟨b, o, e, hok b (hlt _ _ _ hr) hb, hR _ _ _ _ _ _ hok hr⟩
theorem IntC.widens (k : IntKind) : Widens (IntC k) := fun _ _ _ _ _ _ _ h => h
theorem IntC.lt {k : IntKind} {w : World} {ok : Nat → Prop} {b o : Nat} {x : Int} (h : IntC k w ok b o x) : b < w.heap.size := World.block_lt_of_cell? w _ h.1
theorem Ints.ok {k : IntKind} {w : World} {ok ok' : Nat → Prop} {p : Option Addr} {xs : List Int} (h : Ints k w ok p xs) (hok : ∀ k, k < w.heap.size → ok k → ok' k) : Ints k w ok' p xs :=
  RS.ok (IntC.widens k) h (fun _ _ _ => IntC.lt) hok
/-- A part of a slice. -/
theorem RS.sub {α : Type} {sz : Nat} {R : World → (Nat → Prop) → Nat → Nat → α → Prop} {w : World} {ok : Nat → Prop} {p : Option Addr} {xs : List α} (h : RS sz R w ok p xs) (lo hi m : Nat) (hm : hi ≤ m) :
    RS sz R w ok (subp p lo m sz) ((xs.take hi).drop lo) := fun i hi' => by
  simp only [List.length_drop, List.length_take] at hi'
  obtain ⟨b, o, e, hb, hr⟩ := h (lo + i) (by omega)
  refine ⟨b, o + lo * sz, ?_, hb, ?_⟩
  · unfold subp
    rw [if_neg (by omega), e]
    simp [add_plain']
  · simp only [List.getElem_drop, List.getElem_take]
    rw [show o + lo * sz + i * sz = o + (lo + i) * sz by rw [Nat.add_mul]; omega]
    exact hr

/-! ### Rows that the call itself appends to -/
/-- A slice type: its element's type, cells and bytes. -/
def SlT (P : Program) (t e : TypeId) (sz by_ : Nat) : Prop :=
  P.underlying t = some (.slice e) ∧ ∃ i z, P.info? e = some i ∧ i.zero = some z ∧ i.size = sz ∧ i.bytes = by_ ∧ z.cells.size = sz ∧ 0 < sz
/-- The cells that a slice shows. -/
def Src (w : World) (p : Option Addr) (cs : List Value) : Prop := ∀ j u, cs[j]? = some u → ∃ b o, p = some ⟨b, o, none⟩ ∧ w.cell? ⟨b, o + j, none⟩ = some u
theorem Ints.src {k : IntKind} {w : World} {ok : Nat → Prop} {p : Option Addr} {xs : List Int} (h : Ints k w ok p xs) : Src w p (xs.map (Value.int k)) := fun j u hj => by
  rw [List.getElem?_map] at hj
  cases hx : xs[j]? with
  | none => simp [hx] at hj
  | some n =>
    obtain ⟨hl, e⟩ := List.getElem?_eq_some_iff.1 hx
    obtain ⟨b, o, ep, hc⟩ := h.at j hl
    simp only [hx, Option.map_some, Option.some.injEq] at hj
    subst hj; subst e
    exact ⟨b, o, ep, hc⟩
theorem NewBlk.src {w w' : World} {b : Nat} {cs : List Value} {T : TypeId} (h : NewBlk w b cs T w') : Src w' (some ⟨b, 0, none⟩) cs := fun j u hj => ⟨b, 0, rfl, by rw [Nat.zero_add]; exact h.cell j hj⟩
abbrev Own (w : World) (base : Nat) (T : TypeId) (sz : Nat) (p : Option Addr) (l c : Nat) (cs : List Value) : Prop := w.ownsRow base T sz (.slice p l c) l cs
theorem own_nil (w : World) (base : Nat) (T : TypeId) (sz : Nat) : Own w base T sz none 0 0 [] := World.ownsRow_nil w base T sz
theorem grown_upd {w w' : World} {p : Option Addr} {l c : Nat} (h : w.grownBy w' (Value.slice p l c).ownBlock) : Upd (fun k => ∃ a, p = some a ∧ a.block = k) w w' :=
  ⟨h.os, h.tape, h.output, h.size, fun k hk ht => h.block k hk fun e => by
    cases p with
    | none => simp [Value.ownBlock] at e
    | some a => exact ht ⟨a, rfl, by simpa [Value.ownBlock] using e.symm⟩⟩
theorem grown_of {T : Nat → Prop} {w w' : World} (h : Upd T w w') (row : Option Nat) (ht : ∀ k, k < w.heap.size → T k → row = some k) : w.grownBy w' row :=
  ⟨h.os, h.tape, h.output, h.size, fun k hk hne => h.block k hk fun x => hne (ht k hk x).symm⟩
theorem Own.base {w : World} {base : Nat} {T : TypeId} {sz : Nat} {p : Option Addr} {l c : Nat} {cs : List Value} (h : Own w base T sz p l c cs) {a : Addr} (ha : p = some a) : base ≤ a.block ∧ a.block < w.heap.size :=
  World.ownsRow.lt h _ (by rw [ha]; rfl)
/-- The row is still owned where its block has not been touched. -/
theorem Own.upd {U : Nat → Prop} {w w' : World} {base : Nat} {T : TypeId} {sz : Nat} {p : Option Addr} {l c : Nat} {cs : List Value} (h : Own w base T sz p l c cs) (hu : Upd U w w')
    (ht : ∀ a, p = some a → ¬ U a.block) : Own w' base T sz p l c cs := by
  refine ⟨h.1, ?_⟩
  rcases h.2 with h2 | ⟨g, cap, cur, e, hb, hh, r⟩
  · exact .inl h2
  · refine .inr ⟨g, cap, cur, e, hb, ?_, r⟩
    injection e with e1 e2 e3
    rw [hu.block g (Array.getElem?_eq_some_iff.1 hh).1 (by have := ht _ e1; exact this)]; exact hh
theorem Own.ext {w w' : World} {base : Nat} {T : TypeId} {sz : Nat} {p : Option Addr} {l c : Nat} {cs : List Value} (h : Own w base T sz p l c cs) (hu : Ext w w') : Own w' base T sz p l c cs :=
  Own.upd h hu fun _ _ => id
theorem append_own {P : Program} {t e : TypeId} {sz by_ : Nat} (h : SlT P t e sz by_) (ty : TypeId) {w : World} {base : Nat} {p : Option Addr} {l c : Nat} {cs : List Value} (ho : Own w base e sz p l c cs)
    {p2 : Option Addr} {l2 c2 : Nat} {news : List Value} (hl : news.length = l2 * sz) (hs : Src w p2 news) (h1 : ∀ u ∈ news, u.oneCell' = true) (h63 : l + l2 ≤ maxLen) (hby : (l + l2) * by_ ≤ 140737488355328) (hbase : base ≤ w.heap.size) :
    ∃ p' c' w', (Builtin.append_ #[t, t] ty #[.slice p l c, .slice p2 l2 c2]).run P w = .ok (.slice p' (l + l2) c') w' ∧ Own w' base e sz p' (l + l2) c' (cs ++ news) ∧ Upd (fun k => ∃ a, p = some a ∧ a.block = k) w w' ∧
      ∀ a', p' = some a' → (∃ a, p = some a ∧ a.block = a'.block) ∨ a'.block = w.heap.size := by
  obtain ⟨ht, i, z, hi, hz, h2, h3, h4, h5⟩ := h
  have form : ∀ {v' : Value} {w' : World}, w'.ownsRow base e sz v' (l + l2) (cs ++ news) → ∃ p' c', v' = .slice p' (l + l2) c' := by
    intro v' w' hv
    rcases hv.2 with ⟨rfl, h0⟩ | ⟨g, cap, cur, rfl, _⟩
    · exact ⟨none, 0, by rw [h0]⟩
    · exact ⟨_, _, rfl⟩
  cases p2 with
  | some ad =>
    have hsrc : ∀ j u, news[j]? = some u → w.cell? (ad.add j) = some u := fun j u hj => by
      obtain ⟨b, o, e', hc⟩ := hs j u hj
      injection e' with e'
      subst e'
      rw [add_plain']; exact hc
    obtain ⟨v', w', hr, hv, hg, _, hat⟩ := run_append_own_at (P := P) w base t ty e i z sz by_ ht hi hz h2 h3 h4 h5 _ l cs ho ad l2 c2 news hl hsrc h1 h63 hby hbase
    obtain ⟨p', c', rfl⟩ := form hv
    refine ⟨p', c', w', hr, hv, grown_upd hg, fun a' ha => ?_⟩
    subst ha
    rcases hat with h | h
    · left
      cases p with
      | none => simp [Value.ownBlock] at h
      | some a => exact ⟨a, rfl, by simpa [Value.ownBlock] using h.symm⟩
    · right; simpa [Value.ownBlock] using h
  | none =>
    have hn : news = [] := by
      cases news with
      | nil => rfl
      | cons u r => obtain ⟨b, o, e', _⟩ := hs 0 u rfl; cases e'
    subst hn
    have hl0 : l2 = 0 := by
      simp only [List.length_nil] at hl
      rcases Nat.mul_eq_zero.1 hl.symm with h | h
      · exact h
      · omega
    subst hl0
    have hlc : l ≤ c := by
      rcases ho.2 with ⟨e', _⟩ | ⟨g, cap, cur, e', _, _, hc, _⟩
      · injection e' with _ e2 e3; omega
      · injection e' with _ _ e3; omega
    refine ⟨p, c, w, ?_, by simpa using ho, Upd.refl _ _, fun a' ha => .inl ⟨a', ha, rfl⟩⟩
    have hsz : ∀ w, (sizeOf e).run P w = .ok sz w := fun w => by simp [sizeOf, typeInfo, hi, h2]
    cases p <;> simp [Builtin.append_, run_underlying ht, hsz, Builtin.lenOf, Builtin.firstCells, hlc, storeCells]
theorem Own.ints {k : IntKind} {w : World} {base : Nat} {T : TypeId} {p : Option Addr} {l c : Nat} {xs : List Int} (h : Own w base T 1 p l c (xs.map (Value.int k))) :
    (hk : ∀ x ∈ xs, InK k x) → Ints k w (fun g => base ≤ g ∧ g < w.heap.size) p xs := fun hk i hi => by
  rcases h.2 with ⟨e, h0⟩ | ⟨g, cap, cur, e, hb, hh, _⟩
  · have := h.1; simp at this; omega
  · injection e with e1 e2 e3
    subst e1
    have hc := h.cells (g := g) rfl i (.int k xs[i]) (by simp [hi])
    rw [add_plain'] at hc
    exact ⟨g, 0, rfl, ⟨hb, (Array.getElem?_eq_some_iff.1 hh).1⟩, by rw [Nat.mul_one]; exact hc, hk _ (List.getElem_mem hi)⟩
/-- A row of the call's own, element by element. -/
theorem Own.rs {α : Type} {RV : World → (Nat → Prop) → List Value → α → Prop} {w : World} {base : Nat} {T : TypeId} {sz : Nat} {p : Option Addr} {l c : Nat} {vss : List (List Value)} {xs : List α}
    (h : Own w base T sz p l c vss.flatten) (hsz : 0 < sz) {ok : Nat → Prop} (hall : All2 (fun vs x => vs.length = sz ∧ RV w ok vs x) vss xs) (hok : ∀ g, base ≤ g → g < w.heap.size → ok g) :
    l = xs.length ∧ RS sz (ElemC RV) w ok p xs := by
  have hlen : ∀ v ∈ vss, v.length = sz := by
    intro v hv
    obtain ⟨i, hi, rfl⟩ := List.getElem_of_mem hv
    have hl := forall2_len hall
    obtain ⟨a, h1, h2, _⟩ := hall.get i (by omega)
    rw [List.getElem?_eq_getElem hi] at h1
    injection h1 with h1
    rw [h1]; exact h2
  have hl : vss.flatten.length = vss.length * sz := by
    have : ∀ {l : List (List Value)}, (∀ v ∈ l, v.length = sz) → l.flatten.length = l.length * sz := by
      intro l
      induction l with
      | nil => intro _; simp
      | cons x r ih => intro hx; simp only [List.flatten_cons, List.length_append, List.length_cons, hx x (by simp), ih (fun v hv => hx v (by simp [hv])), Nat.add_mul]; omega
    exact this hlen
  have hll : l = xs.length := by
    have h1 := h.1
    rw [hl] at h1
    have := Nat.eq_of_mul_eq_mul_right hsz h1
    rw [← this]; exact forall2_len hall
  refine ⟨hll, fun i hi => ?_⟩
  rcases h.2 with ⟨e, h0⟩ | ⟨g, cap, cur, e, hb, hh, _⟩
  · omega
  · injection e with e1 e2 e3
    subst e1
    have hg := (Array.getElem?_eq_some_iff.1 hh).1
    obtain ⟨vs, h1, h2, h3⟩ := hall.get i hi
    refine ⟨g, 0, rfl, hok g hb hg, hg, vs, h3, fun j v hj => ?_⟩
    have hc := h.cells (g := g) rfl (i * sz + j) v (flatten_at hlen h1 j v hj)
    rw [add_plain'] at hc
    rw [show 0 + i * sz + j = 0 + (i * sz + j) by omega]
    exact hc
theorem Own.len {w : World} {base : Nat} {T : TypeId} {p : Option Addr} {l c : Nat} {cs : List Value} (h : Own w base T 1 p l c cs) : l = cs.length := by have := h.1; omega
theorem Own.cap {w : World} {base : Nat} {T : TypeId} {sz : Nat} {p : Option Addr} {l c : Nat} {cs : List Value} (h : Own w base T sz p l c cs) : l ≤ c ∧ l ≤ maxLen := by
  rcases h.2 with ⟨e', h0⟩ | ⟨g, cap, cur, e', _, _, hc, hm, _⟩
  · injection e' with _ e2 e3; omega
  · injection e' with _ _ e3; omega
theorem ints_one (k : IntKind) (xs : List Int) : ∀ u ∈ xs.map (Value.int k), u.oneCell' = true := by
  intro u hu
  obtain ⟨n, _, rfl⟩ := List.mem_map.1 hu
  rfl
/-- What the call has appended to lies beyond the base: what was there stands. -/
theorem Own.ext_of {w0 w w' : World} {base : Nat} {T : TypeId} {sz : Nat} {p : Option Addr} {l c : Nat} {cs : List Value} (ho : Own w base T sz p l c cs) (hu : Upd (fun k => ∃ a, p = some a ∧ a.block = k) w w')
    (h0 : Ext w0 w) (hb : w0.heap.size ≤ base) : Ext w0 w' := Upd.then h0 hu fun i hi ⟨a, ha, e⟩ => by have := (ho.base ha).1; omega

/-- A row that was laid just now, of integers. -/
theorem NewBlk.ints {w w' : World} {b : Nat} {cs : List Value} {T : TypeId} (h : NewBlk w b cs T w') {k : IntKind} (xs : List Int) (hx : cs = xs.map (Value.int k)) (hk : ∀ x ∈ xs, InK k x) :
    Ints k w' (fun g => g = b) (some ⟨b, 0, none⟩) xs := fun i hi => by
  subst hx
  exact ⟨b, 0, rfl, rfl, by rw [Nat.zero_add, Nat.mul_one]; exact h.cell i (by simp [hi]), hk _ (List.getElem_mem hi)⟩

/-! ### Conversions -/
theorem conv_str {P : Program} {src e dst : TypeId} (hs : P.underlying src = some (.slice e)) (he : P.underlying e = some (.int .u8)) (hd : P.underlying dst = some .string)
    {w : World} {ok : Nat → Prop} {p : Option Addr} {xs : List Int} (h : Ints .u8 w ok p xs) {l : Nat} (hl : l = xs.length) (c : Nat) : (convert src dst (.slice p l c)).run P w = .ok (.string (strOfNums xs)) w := by
  subst hl
  cases p with
  | none =>
    cases xs with
    | nil => rw [run_convert_bytes_nil w src e hs he _ c dst hd]; rfl
    | cons x r => obtain ⟨b, o, e, _⟩ := h.at 0 (by simp); cases e
  | some ad =>
    cases xs with
    | nil =>
      rw [run_convert_bytes_string w src dst e _ _ c hs he hd]
      exact run_bytesToString w ad 0 c [] (by simp [loadCells, loadCellsFrom])
    | cons x r =>
      obtain ⟨b, o, e, _⟩ := h.at 0 (by simp)
      injection e with e
      subst e
      refine run_convert_bytes_arg w src e hs he b o _ c (x :: r) rfl (fun i hi => ?_) dst hd
      obtain ⟨b', o', e', hc⟩ := h.at i hi
      injection e' with e'
      injection e' with e1 e2
      subst e1; subst e2
      rw [hc]; simp [List.getD, List.getElem?_eq_getElem hi]
theorem str_eq {xs ys : List Int} (hx : ∀ x ∈ xs, InK .u8 x) (hy : ∀ x ∈ ys, InK .u8 x) : ((strOfNums xs).toList == (strOfNums ys).toList) = decide (xs = ys) := by
  rw [ByteArray.toList_eq, ByteArray.toList_eq, strOfNums_data, strOfNums_data]
  have key : ∀ {xs ys : List Int}, (∀ x ∈ xs, InK .u8 x) → (∀ x ∈ ys, InK .u8 x) → (xs.map (fun n => UInt8.ofNat n.toNat) = ys.map (fun n => UInt8.ofNat n.toNat) ↔ xs = ys) := by
    intro xs
    induction xs with
    | nil => intro ys _ _; cases ys <;> simp
    | cons x r ih =>
      intro ys hx hy
      cases ys with
      | nil => simp
      | cons y q =>
        simp only [List.map_cons, List.cons.injEq]
        rw [ih (fun z hz => hx z (by simp [hz])) (fun z hz => hy z (by simp [hz]))]
        have h1 := hx x (by simp)
        have h2 := hy y (by simp)
        have b1 : 0 ≤ x ∧ x ≤ 255 := h1
        have b2 : 0 ≤ y ∧ y ≤ 255 := h2
        constructor
        · rintro ⟨h, rfl⟩
          refine ⟨?_, rfl⟩
          have := congrArg UInt8.toNat h
          simp only [UInt8.toNat_ofNat'] at this
          omega
        · rintro ⟨rfl, rfl⟩; exact ⟨rfl, rfl⟩
  rw [Bool.eq_iff_iff]
  simp only [beq_iff_eq, decide_eq_true_eq]
  exact key hx hy
/-- '[]byte("..")' of a constant. -/
theorem conv_const {P : Program} {t e : TypeId} (ht : P.underlying t = some (.slice e)) (he : P.underlying e = some (.int .u8)) {w w1 : World} {b : Nat} {cs : List Value} (h : NewBlk w b cs e w1) (n c : Nat)
    {xs : List Int} (hx : cs = xs.map (Value.int .u8)) (hk : ∀ x ∈ xs, InK .u8 x) :
    ∃ w2, (convert t t (.slice (some ⟨b, 0, none⟩) n c)).run P w1 = .ok (.slice (some ⟨b, 0, none⟩) n c) w2 ∧ Ext w w2 ∧ Ints .u8 w2 (fun g => g = b) (some ⟨b, 0, none⟩) xs ∧ w2.heap.size = w1.heap.size := by
  subst hx
  rw [h.eq, h.world]
  refine ⟨_, Lib.run_convert_bytes_const w t e _ n c ht he, ⟨rfl, rfl, rfl, by simp, fun k hk _ => Below.heap_alloc _ _ _ hk⟩, fun i hi => ?_, by simp⟩
  refine ⟨w.heap.size, 0, rfl, rfl, ?_, hk _ (List.getElem_mem hi)⟩
  rw [Nat.zero_add, Nat.mul_one, cell_of_heap (heap_alloc_new w _)]
  simp [hi]

theorem inI64 {z : Int} (h1 : -9223372036854775808 ≤ z) (h2 : z ≤ 9223372036854775807) : InK .i64 z := ⟨h1, h2⟩
theorem tru {b : Bool} {A B : Prop} (h : b = true) (ha : A) : Br b A B := ⟨fun _ => ha, fun k => (by rw [h] at k; cases k)⟩
theorem fls {b : Bool} {A B : Prop} (h : b = false) (ha : B) : Br b A B := ⟨fun k => (by rw [h] at k; cases k), fun _ => ha⟩
end Go.Vc
