/-
  Words for memory, second part: lists of structs that a call builds.
-/
import Derived.Test.YtffhlgejfgmpiaaGreatDoorWords
namespace Go.Vc
open Go.RowKit
theorem Does.imp {P : Program} {g : FuncId} {args : Array Value} {w : World} {R S : Ending → World → Prop} (h : Does P g args w R) (hi : ∀ e w', R e w' → S e w') : Does P g args w S :=
  h.mono hi
theorem Ints.any {k : IntKind} {w : World} {ok : Nat → Prop} {p : Option Addr} {xs : List Int} (h : Ints k w ok p xs) : Ints k w (fun _ => True) p xs := Ints.ok h fun _ _ _ => trivial
/-- A new block's row of integers, as an own row. -/
theorem Own.any {k : IntKind} {w : World} {base : Nat} {T : TypeId} {p : Option Addr} {l c : Nat} {xs : List Int} (h : Own w base T 1 p l c (xs.map (Value.int k))) (hk : ∀ x ∈ xs, InK k x) :
    Ints k w (fun _ => True) p xs := (Own.ints h hk).any
/-- Where what a row's elements lead to may lie, that it may be appended to: in blocks that the call made, but not in the row's own. -/
def Inner (w : World) (base : Nat) (p : Option Addr) (g : Nat) : Prop := base ≤ g ∧ g < w.heap.size ∧ ∀ a, p = some a → a.block ≠ g
/-- A row that the call appends to, of structs. -/
def OwnL {α : Type} (RV : World → (Nat → Prop) → List Value → α → Prop) (w : World) (base : Nat) (T : TypeId) (sz : Nat) (p : Option Addr) (l c : Nat) (xs : List α) : Prop :=
  ∃ vss : List (List Value), Own w base T sz p l c vss.flatten ∧ All2 (fun vs x => vs.length = sz ∧ RV w (Inner w base p) vs x) vss xs
theorem OwnL.nil {α : Type} {RV : World → (Nat → Prop) → List Value → α → Prop} (w : World) (base : Nat) (T : TypeId) (sz : Nat) : OwnL RV w base T sz none 0 0 [] := ⟨[], own_nil _ _ _ _, .nil⟩
theorem OwnL.ext {α : Type} {RV : World → (Nat → Prop) → List Value → α → Prop} (hs : StableV RV) (hw : WidensV RV) {w w' : World} {base : Nat} {T : TypeId} {sz : Nat} {p : Option Addr} {l c : Nat} {xs : List α}
    (h : OwnL RV w base T sz p l c xs) (hu : Ext w w') : OwnL RV w' base T sz p l c xs := by
  obtain ⟨vss, ho, ha⟩ := h
  refine ⟨vss, ho.ext hu, ha.imp fun vs x ⟨h1, h2⟩ => ⟨h1, ?_⟩⟩
  exact hw _ _ _ _ _ (fun k hk ⟨a1, a2, a3⟩ => ⟨a1, hk, a3⟩) (hs _ _ _ _ _ _ hu (fun _ _ => id) h2)
/-- Appended to. -/
theorem OwnL.append {α : Type} {RV : World → (Nat → Prop) → List Value → α → Prop} (hs : StableV RV) (hw : WidensV RV) {P : Program} {t e : TypeId} {sz by_ : Nat} (ht : SlT P t e sz by_) (ty : TypeId) {w : World} {base : Nat}
    {p : Option Addr} {l c : Nat} {xs : List α} (h : OwnL RV w base e sz p l c xs) {b : Nat} {vs : List Value} (hlen : vs.length = sz) (hsrc : ∀ (j : Nat) (u : Value), vs[j]? = some u → w.cell? ⟨b, j, none⟩ = some u)
    (h1 : ∀ u ∈ vs, u.oneCell' = true) {x : α} (hx : RV w (Inner w base p) vs x) (h63 : l + 1 ≤ maxLen) (hby : (l + 1) * by_ ≤ 140737488355328) (hbase : base ≤ w.heap.size) :
    ∃ p' c' w', (Builtin.append_ #[t, t] ty #[.slice p l c, .slice (some ⟨b, 0, none⟩) 1 1]).run P w = .ok (.slice p' (l + 1) c') w' ∧ OwnL RV w' base e sz p' (l + 1) c' (xs ++ [x]) ∧
      Upd (fun k => ∃ a, p = some a ∧ a.block = k) w w' ∧ ∀ a', p' = some a' → (∃ a, p = some a ∧ a.block = a'.block) ∨ a'.block = w.heap.size := by
  obtain ⟨vss, ho, ha⟩ := h
  obtain ⟨p', c', w', hr, ho', hu, hat⟩ := append_own ht ty ho (p2 := some ⟨b, 0, none⟩) (l2 := 1) (c2 := 1) (news := vs) (by rw [Nat.one_mul]; exact hlen)
    (fun j u hj => ⟨b, 0, rfl, by rw [Nat.zero_add]; exact hsrc j u hj⟩) h1 h63 hby hbase
  refine ⟨p', c', w', hr, ⟨vss ++ [vs], by simpa using ho', ?_⟩, hu, hat⟩
  have key : ∀ (vs' : List Value) (x' : α), RV w (Inner w base p) vs' x' → RV w' (Inner w' base p') vs' x' := fun vs' x' h' => by
    have h2 := hs _ _ _ _ _ _ hu (fun k ⟨_, _, a3⟩ ⟨a, e1, e2⟩ => a3 a e1 e2) h'
    refine hs _ _ _ _ _ _ (Upd.refl (fun _ => False) w') (fun _ _ => id) (hw _ _ _ _ _ (fun k _ ⟨a1, a2, a3⟩ => ?_) h2)
    refine ⟨a1, Nat.lt_of_lt_of_le a2 hu.size, fun a' e' hk => ?_⟩
    rcases hat a' e' with ⟨a, e1, e2⟩ | e2
    · exact a3 a e1 (e2.trans hk)
    · omega
  refine All2.append (ha.imp fun vs' x' ⟨a1, a2⟩ => ⟨a1, key _ _ a2⟩) (.cons ⟨hlen, key _ _ hx⟩ .nil)
theorem OwnL.rs {α : Type} {RV : World → (Nat → Prop) → List Value → α → Prop} (hw : WidensV RV) {w : World} {base : Nat} {T : TypeId} {sz : Nat} {p : Option Addr} {l c : Nat} {xs : List α} (h : OwnL RV w base T sz p l c xs) (hsz : 0 < sz) :
    l = xs.length ∧ RS sz (ElemC RV) w (fun g => base ≤ g ∧ g < w.heap.size) p xs := by
  obtain ⟨vss, ho, ha⟩ := h
  exact Own.rs ho hsz (ha.imp fun vs x ⟨a1, a2⟩ => ⟨a1, hw _ _ _ _ _ (fun _ _ ⟨b1, b2, _⟩ => ⟨b1, b2⟩) a2⟩) fun g h1 h2 => ⟨h1, h2⟩
theorem OwnL.ext_of {α : Type} {RV : World → (Nat → Prop) → List Value → α → Prop} {w0 w w' : World} {base : Nat} {T : TypeId} {sz : Nat} {p : Option Addr} {l c : Nat} {xs : List α} (ho : OwnL RV w base T sz p l c xs)
    (hu : Upd (fun k => ∃ a, p = some a ∧ a.block = k) w w') (h0 : Ext w0 w) (hb : w0.heap.size ≤ base) : Ext w0 w' := by
  obtain ⟨vss, ho, _⟩ := ho
  exact Own.ext_of ho hu h0 hb
theorem OwnL.base {α : Type} {RV : World → (Nat → Prop) → List Value → α → Prop} {w : World} {base : Nat} {T : TypeId} {sz : Nat} {p : Option Addr} {l c : Nat} {xs : List α} (h : OwnL RV w base T sz p l c xs) {a : Addr} (ha : p = some a) :
    base ≤ a.block ∧ a.block < w.heap.size := by obtain ⟨vss, ho, _⟩ := h; exact ho.base ha
/-- A struct that was laid just now, as a row of one. -/
theorem NewBlk.rs1 {α : Type} {RV : World → (Nat → Prop) → List Value → α → Prop} {w w' : World} {b : Nat} {vs : List Value} {T : TypeId} (h : NewBlk w b vs T w') {sz : Nat} {ok : Nat → Prop} (hok : ok b) {x : α} (hx : RV w' ok vs x) :
    RS sz (ElemC RV) w' ok (some ⟨b, 0, none⟩) [x] := fun i hi => by
  simp only [List.length_cons, List.length_nil] at hi
  obtain rfl : i = 0 := by omega
  exact ⟨b, 0, rfl, hok, h.lt, vs, hx, fun j v hj => by simpa using h.cell j hj⟩
instance instInK (k : IntKind) (z : Int) : Decidable (InK k z) := inferInstanceAs (Decidable (k.min ≤ z ∧ z ≤ k.max))
theorem str_lit (xs : List Int) (a : Array UInt8) : ((strOfNums xs).toList == (ByteArray.mk a).toList) = decide (xs.map (fun n => UInt8.ofNat n.toNat) = a.toList) := by
  rw [ByteArray.toList_eq, ByteArray.toList_eq, strOfNums_data, Bool.eq_iff_iff]
  simp
theorem Ext.thn {a b c : World} (h : Ext a b) (k : Ext b c) : Ext a c := Ext.then h k
/-- It returns true; nothing that was there has turned. -/
def Holds (w : World) (e : Ending) (w' : World) : Prop := e = .returned (.bool true) ∧ Ext w w'
theorem wrap_in {k : IntKind} {z : Int} (h : InK k z) : k.wrap z = z := by
  obtain ⟨h1, h2⟩ := h
  cases k <;> simp [IntKind.min, IntKind.max, IntKind.signed, IntKind.bits] at h1 h2 <;>
    simp [IntKind.wrap, IntKind.signed, IntKind.bits] <;> omega
theorem not_dec {p : Prop} [Decidable p] (h : (!decide p) = true) : ¬ p := by simpa using h
theorem yes_dec {p : Prop} [Decidable p] (h : (!decide p) = false) : p := by simpa using h
/-- A later base. -/
theorem Own.lower {w : World} {base base' : Nat} {T : TypeId} {sz : Nat} {p : Option Addr} {l c : Nat} {cs : List Value} (h : Own w base T sz p l c cs) (hb : base' ≤ base) : Own w base' T sz p l c cs := by
  refine ⟨h.1, ?_⟩
  rcases h.2 with h | ⟨g, cap, cur, q1, q2, r⟩
  · exact .inl h
  · exact .inr ⟨g, cap, cur, q1, Nat.le_trans hb q2, r⟩
end Go.Vc
