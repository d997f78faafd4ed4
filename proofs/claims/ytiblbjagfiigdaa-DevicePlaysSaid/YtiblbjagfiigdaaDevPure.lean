/-
  Devices: the model, in plain Lean.
-/
import Derived.Test.YtiblbjagfiigdaaWords2
namespace Go.Vc
theorem getD_at {α : Type} {l : List α} {i : Nat} (d : α) (h : i < l.length) : l.getD i d = l[i] := by simp [List.getD, h]
/-- A page's bytes. -/
def Pg (p : List Int) : Prop := p.length = 256 ∧ ∀ x ∈ p, InK .u8 x
structure Dev where
  lasts : List (List Int)
  now : List (List Int)
  writes : List (Nat × List Int)
  out : List Int
  fuse : Int
  dead : Bool
  ops : Int
/-- What holds of each device. -/
structure Dev.Good (d : Dev) : Prop where
  len : d.lasts.length = d.now.length
  min : 8 ≤ d.now.length
  max : d.now.length ≤ 4096
  lasts : ∀ p ∈ d.lasts, Pg p
  now : ∀ p ∈ d.now, Pg p
  writes : ∀ x ∈ d.writes, x.1 < d.now.length ∧ Pg x.2
  out : ∀ x ∈ d.out, InK .u8 x
  fuse : InK .i64 d.fuse ∧ -1 ≤ d.fuse
  ops : (d.writes.length : Int) ≤ d.ops
/-- An op: its outcome, or none if it dies. -/
def Dev.op (d : Dev) : Dev × Option Int :=
  if d.fuse = 0 then ({ d with ops := d.ops + 1, dead := true }, none)
  else match d.out with
    | [] => ({ d with ops := d.ops + 1, fuse := if 0 < d.fuse then d.fuse - 1 else d.fuse }, some 0)
    | o :: r => ({ d with ops := d.ops + 1, fuse := if 0 < d.fuse then d.fuse - 1 else d.fuse, out := r }, some (o % 3))
def Dev.lay (d : Dev) (n : Nat) (b : List Int) : Dev := { d with now := d.now.set n b, writes := d.writes ++ [(n, b)] }
def Dev.last (d : Dev) : Dev := { d with lasts := d.now, writes := [] }
def Dev.is (d : Dev) (n : Int) : Bool := decide (0 ≤ n) && decide (n < d.now.length)
def Dev.write (d : Dev) (n : Int) (b : List Int) : Dev × Int :=
  if d.is n && decide (b.length = 256) then
    if d.dead then (d, 7) else
    match d.op with
    | (d', none) => (d'.lay n.toNat b, 7)
    | (d', some o) => (if o = 1 then d' else d'.lay n.toNat b, if o = 0 then 0 else 7)
  else (d, 1)
def Dev.read (d : Dev) (n : Int) : Dev × List Int × Int :=
  if d.is n then
    if d.dead then (d, [], 7) else
    match d.op with
    | (d', none) => (d', [], 7)
    | (d', some o) => if o = 1 then (d', [], 7) else (d', d.now.getD n.toNat [], 0)
  else (d, [], 1)
def Dev.sync (d : Dev) : Dev × Int :=
  if d.dead then (d, 7) else
  match d.op with
  | (d', none) => (d', 7)
  | (d', some o) => (if o = 1 then d' else d'.last, if o = 0 then 0 else 7)
def Dev.arm (d : Dev) (n : Int) : Dev := if d.dead then d else { d with fuse := max n (-1) }
def Dev.tell (d : Dev) (l : List Int) : Dev := { d with out := d.out ++ l }
def Dev.image (d : Dev) : List Int := d.now.flatten
/-- Is a bit set? -/
def bit (c : Int) (i : Nat) : Bool := bits .and .u8 (c.fdiv (2 ^ (min i 8))) 1 == 1
/-- A page that is half written. -/
def tear (c : Int) (b a : List Int) : List Int := (List.range 256).map fun i => if bit c (i / 64) then b.getD i 0 else a.getD i 0
def tears (choice : List Int) : Nat → List (Nat × List Int) → List (List Int) → List (List Int)
  | _, [], l => l
  | k, x :: r, l => tears choice (k + 1) r (l.set x.1 (tear (choice.getD k 15) x.2 (l.getD x.1 [])))
def fresh (l : List (List Int)) : Dev := { lasts := l, now := l, writes := [], out := [], fuse := -1, dead := false, ops := 0 }
def Dev.crash (d : Dev) (choice : List Int) : Dev := fresh (tears choice 0 d.writes d.lasts)
def Dev.new (n : Nat) : Dev := fresh (List.replicate n (List.replicate 256 0))
theorem tears_step (choice : List Int) : ∀ (ws : List (Nat × List Int)) (k : Nat) (l : List (List Int)) (x : Nat × List Int), tears choice k (ws ++ [x]) l = (tears choice k ws l).set x.1 (tear (choice.getD (k + ws.length) 15) x.2 ((tears choice k ws l).getD x.1 []))
  | [], _, _, _ => by simp [tears]
  | y :: r, k, l, x => by
    simp only [List.cons_append, tears, List.length_cons]
    rw [tears_step choice r (k + 1) _ x, show k + 1 + r.length = k + (r.length + 1) by omega]
theorem tears_len (choice : List Int) : ∀ (ws : List (Nat × List Int)) (k : Nat) (l : List (List Int)), (tears choice k ws l).length = l.length
  | [], _, _ => rfl
  | y :: r, k, l => by simp only [tears]; rw [tears_len choice r]; simp
theorem tear_pg {c : Int} {a b : List Int} (ha : Pg a) (hb : Pg b) : Pg (tear c b a) := by
  refine ⟨by simp [tear], fun x hx => ?_⟩
  obtain ⟨i, hi, rfl⟩ := List.mem_map.1 hx
  have hi := List.mem_range.1 hi
  split
  · rw [getD_at _ (by rw [hb.1]; exact hi)]; exact hb.2 _ (List.getElem_mem _)
  · rw [getD_at _ (by rw [ha.1]; exact hi)]; exact ha.2 _ (List.getElem_mem _)
theorem tears_pg (choice : List Int) : ∀ (ws : List (Nat × List Int)) (k : Nat) (l : List (List Int)), (∀ p ∈ l, Pg p) → (∀ x ∈ ws, x.1 < l.length ∧ Pg x.2) → ∀ p ∈ tears choice k ws l, Pg p
  | [], _, l, hl, _ => hl
  | y :: r, k, l, hl, hw => by
    simp only [tears]
    refine tears_pg choice r (k + 1) _ (fun p hp => ?_) (fun x hx => ?_)
    · rcases List.mem_or_eq_of_mem_set hp with h | h
      · exact hl p h
      · subst h
        refine tear_pg ?_ (hw y (by simp)).2
        rw [getD_at _ (hw y (by simp)).1]
        exact hl _ (List.getElem_mem _)
    · rw [List.length_set]; exact hw x (by simp [hx])
theorem Dev.Good.op {d : Dev} (h : d.Good) : d.op.1.Good := by
  have hf := h.fuse
  unfold Dev.op
  split
  · exact { h with ops := by have := h.ops; simp only; omega }
  · split
    · rename_i ho
      refine { h with ops := by have := h.ops; simp only; omega, fuse := ?_ }
      simp only
      split
      · have := hf.1.2; have := hf.1.1; exact ⟨⟨by simp [IntKind.min, IntKind.max, IntKind.signed, IntKind.bits] at *; omega, by simp [IntKind.min, IntKind.max, IntKind.signed, IntKind.bits] at *; omega⟩, by omega⟩
      · exact hf
    · rename_i o r ho
      refine { h with ops := by have := h.ops; simp only; omega, fuse := ?_, out := fun x hx => h.out x (by rw [ho]; simp [hx]) }
      simp only
      split
      · have := hf.1.2; have := hf.1.1; exact ⟨⟨by simp [IntKind.min, IntKind.max, IntKind.signed, IntKind.bits] at *; omega, by simp [IntKind.min, IntKind.max, IntKind.signed, IntKind.bits] at *; omega⟩, by omega⟩
      · exact hf
theorem Dev.Good.lay {d : Dev} (h : d.Good) {n : Nat} (hn : n < d.now.length) {b : List Int} (hb : Pg b) (hw : (d.writes.length : Int) < d.ops) : (d.lay n b).Good := by
  refine { h with len := ?_, min := ?_, max := ?_, now := ?_, writes := ?_, ops := ?_ }
  · simp [Dev.lay]; exact h.len
  · simp [Dev.lay]; exact h.min
  · simp [Dev.lay]; exact h.max
  · intro p hp
    rcases List.mem_or_eq_of_mem_set hp with h' | h'
    · exact h.now p h'
    · subst h'; exact hb
  · intro x hx
    rcases List.mem_append.1 hx with h' | h'
    · simp only [Dev.lay, List.length_set]; exact h.writes x h'
    · simp only [List.mem_singleton] at h'; subst h'; simp only [Dev.lay, List.length_set]; exact ⟨hn, hb⟩
  · simp only [Dev.lay, List.length_append, List.length_cons, List.length_nil]; omega
theorem Dev.Good.last {d : Dev} (h : d.Good) : d.last.Good :=
  { h with len := rfl, lasts := h.now, writes := (fun _ hx => by simp [Dev.last] at hx), ops := (by have := h.ops; simp only [Dev.last, List.length_nil]; omega) }
theorem fresh_good {l : List (List Int)} (h1 : 8 ≤ l.length) (h2 : l.length ≤ 4096) (h : ∀ p ∈ l, Pg p) : (fresh l).Good :=
  { len := rfl, min := h1, max := h2, lasts := h, now := h, writes := fun _ hx => by simp [fresh] at hx, out := fun _ hx => by simp [fresh] at hx, fuse := ⟨by simp [fresh]; exact ⟨by decide, by decide⟩, by simp [fresh]⟩, ops := by simp [fresh] }
theorem Dev.Good.crash {d : Dev} (h : d.Good) (c : List Int) : (d.crash c).Good := by
  have hm := h.min
  have hx := h.max
  have hl := h.len
  refine fresh_good (by rw [tears_len]; omega) (by rw [tears_len]; omega) (tears_pg _ _ _ _ h.lasts fun x hx => ?_)
  rw [hl]; exact h.writes x hx
theorem Dev.Good.arm {d : Dev} (h : d.Good) {n : Int} (hn : InK .i64 n) : (d.arm n).Good := by
  unfold Dev.arm
  split
  · exact h
  · refine { h with fuse := ?_ }
    simp only
    have h1 := hn.1
    have h2 := hn.2
    simp [IntKind.min, IntKind.max, IntKind.signed, IntKind.bits] at h1 h2
    exact ⟨⟨by simp [IntKind.min, IntKind.signed, IntKind.bits]; omega, by simp [IntKind.max, IntKind.signed, IntKind.bits]; omega⟩, by omega⟩
theorem Dev.Good.tell {d : Dev} (h : d.Good) {l : List Int} (hl : ∀ x ∈ l, InK .u8 x) : (d.tell l).Good :=
  { h with out := fun x hx => by exact (List.mem_append.1 hx).elim (h.out x) (hl x) }
theorem Dev.op_now (d : Dev) : d.op.1.now = d.now ∧ d.op.1.lasts = d.lasts ∧ d.op.1.writes = d.writes ∧ d.op.1.ops = d.ops + 1 := by
  unfold Dev.op
  split
  · exact ⟨rfl, rfl, rfl, rfl⟩
  · split <;> exact ⟨rfl, rfl, rfl, rfl⟩
theorem Dev.is_iff {d : Dev} {n : Int} : d.is n = true ↔ 0 ≤ n ∧ n.toNat < d.now.length := by
  unfold Dev.is; simp; omega
theorem Dev.Good.write {d : Dev} (h : d.Good) {n : Int} {b : List Int} (hb : ∀ x ∈ b, InK .u8 x) : (d.write n b).1.Good := by
  have ho := h.op
  have hk := d.op_now
  have hw := h.ops
  unfold Dev.write
  split
  · rename_i hc
    simp only [Bool.and_eq_true, decide_eq_true_eq] at hc
    obtain ⟨h1, h2⟩ := Dev.is_iff.1 hc.1
    split
    · exact h
    · split
      · rename_i d' he
        rw [he] at ho hk
        exact ho.lay (by rw [hk.1]; exact h2) ⟨hc.2, hb⟩ (by rw [hk.2.2.1, hk.2.2.2]; omega)
      · rename_i d' o he
        rw [he] at ho hk
        simp only
        split
        · exact ho
        · exact ho.lay (by rw [hk.1]; exact h2) ⟨hc.2, hb⟩ (by rw [hk.2.2.1, hk.2.2.2]; omega)
  · exact h
theorem Dev.Good.read {d : Dev} (h : d.Good) {n : Int} : (d.read n).1.Good := by
  have ho := h.op
  unfold Dev.read
  split
  · split
    · exact h
    · split
      · rename_i d' he; rw [he] at ho; exact ho
      · rename_i d' o he
        rw [he] at ho
        split <;> exact ho
  · exact h
theorem Dev.Good.sync {d : Dev} (h : d.Good) : d.sync.1.Good := by
  have ho := h.op
  unfold Dev.sync
  split
  · exact h
  · split
    · rename_i d' he; rw [he] at ho; exact ho
    · rename_i d' o he
      rw [he] at ho
      simp only
      split
      · exact ho
      · exact ho.last
/-- A page of which i sectors have been looked at. -/
def tearTo (c : Int) (i : Nat) (b a : List Int) : List Int := (List.range 256).map fun j => if j / 64 < i ∧ bit c (j / 64) = true then b.getD j 0 else a.getD j 0
theorem tearTo_zero {c : Int} {b a : List Int} (ha : a.length = 256) : tearTo c 0 b a = a := by
  refine List.ext_getElem (by simp [tearTo, ha]) fun i h1 h2 => ?_
  simp [tearTo, h2]
theorem tearTo_four {c : Int} {b a : List Int} : tearTo c 4 b a = tear c b a := by
  unfold tearTo tear
  refine List.map_congr_left fun j hj => ?_
  have := List.mem_range.1 hj
  simp [show j / 64 < 4 by omega]
theorem tearTo_no {c : Int} {i : Nat} {b a : List Int} (h : bit c i = false) : tearTo c (i + 1) b a = tearTo c i b a := by
  unfold tearTo
  refine List.map_congr_left fun j hj => ?_
  by_cases hi : j / 64 = i
  · rw [hi, h]; simp
  · congr 1
    simp only [eq_iff_iff]
    constructor
    · rintro ⟨h1, h2⟩; exact ⟨by omega, h2⟩
    · rintro ⟨h1, h2⟩; exact ⟨by omega, h2⟩
theorem tearTo_pg {c : Int} {i : Nat} {a b : List Int} (ha : Pg a) (hb : Pg b) : Pg (tearTo c i b a) := by
  refine ⟨by simp [tearTo], fun x hx => ?_⟩
  obtain ⟨j, hj, rfl⟩ := List.mem_map.1 hx
  have hj := List.mem_range.1 hj
  split
  · rw [getD_at _ (by rw [hb.1]; exact hj)]; exact hb.2 _ (List.getElem_mem _)
  · rw [getD_at _ (by rw [ha.1]; exact hj)]; exact ha.2 _ (List.getElem_mem _)
end Go.Vc
