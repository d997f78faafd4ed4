/-
  Devices: two of them; one that is to die beside one that is well.
-/
import Derived.Test.YtiblbjagfiigdaaDevSec
namespace Go.Vc
open Go.RowKit
def Duo (w : World) (lo : Nat) (K : Nat → Prop) (b1 : Nat) (d1 : Dev) (b2 : Nat) (d2 : Dev) : Prop :=
  ∃ S1 S2, DevM w S1 b1 d1 ∧ DevM w S2 b2 d2 ∧ (∀ g, S1 g → lo ≤ g ∧ ¬ K g ∧ ¬ S2 g) ∧ (∀ g, S2 g → lo ≤ g ∧ ¬ K g) ∧ ∀ g, K g → g < w.heap.size
variable {w w' : World} {lo b1 b2 : Nat} {K : Nat → Prop} {d1 d2 : Dev}
theorem Duo.swap (h : Duo w lo K b1 d1 b2 d2) : Duo w lo K b2 d2 b1 d1 := by
  obtain ⟨S1, S2, m1, m2, h1, h2, hk⟩ := h
  exact ⟨S2, S1, m2, m1, fun g hg => ⟨(h2 g hg).1, (h2 g hg).2, fun h => (h1 g h).2.2 hg⟩, fun g hg => ⟨(h1 g hg).1, (h1 g hg).2.1⟩, hk⟩
theorem Duo.fst (h : Duo w lo K b1 d1 b2 d2) : ∃ K', DevX w lo K' b1 d1 ∧ (∀ g, K g → K' g) ∧ ∀ w' d1', DevX w' lo K' b1 d1' → Upd (Chg w lo K') w w' → Duo w' lo K b1 d1' b2 d2 := by
  obtain ⟨S1, S2, m1, m2, h1, h2, hk⟩ := h
  refine ⟨fun g => K g ∨ (S2 g ∧ g < w.heap.size), ⟨⟨S1, m1, fun g hg => ⟨(h1 g hg).1, ?_⟩⟩, fun g hg => ?_⟩, fun g hg => .inl hg, fun w' d1' hx hu => ?_⟩
  · rintro (h | h)
    · exact (h1 g hg).2.1 h
    · exact (h1 g hg).2.2 h.1
  · rcases hg with h | h
    · exact hk g h
    · exact h.2
  · obtain ⟨⟨S1', m1', h1'⟩, _⟩ := hx
    have hsz := hu.size
    refine ⟨S1', _, m1', m2.lt.upd hu fun g hg hs e => e.2.1 (.inr hs), fun g hg => ⟨(h1' g hg).1, fun h => (h1' g hg).2 (.inl h), fun h => (h1' g hg).2 (.inr h)⟩, fun g hg => h2 g hg.1, fun g hg => ?_⟩
    have := hk g hg; omega
theorem Duo.keep (h : Duo w lo K b1 d1 b2 d2) {T : Nat → Prop} (hu : Upd T w w') (ht : ∀ g, T g → K g ∨ g < lo) : ∃ K', Duo w' lo K' b1 d1 b2 d2 ∧ (∀ g, K g → K' g) ∧ ∀ g, w.heap.size ≤ g → g < w'.heap.size → K' g := by
  obtain ⟨S1, S2, m1, m2, h1, h2, hk⟩ := h
  have hsz := hu.size
  refine ⟨fun g => K g ∨ (w.heap.size ≤ g ∧ g < w'.heap.size), ⟨_, _, m1.lt.upd hu fun g _ hg e => ?_, m2.lt.upd hu fun g _ hg e => ?_, fun g hg => ⟨(h1 g hg.1).1, ?_, fun h => (h1 g hg.1).2.2 h.1⟩, fun g hg => ⟨(h2 g hg.1).1, ?_⟩, ?_⟩, fun g hg => .inl hg, fun g h1 h2 => .inr ⟨h1, h2⟩⟩
  · rcases ht g e with h | h
    · exact (h1 g hg.1).2.1 h
    · have := (h1 g hg.1).1; omega
  · rcases ht g e with h | h
    · exact (h2 g hg.1).2 h
    · have := (h2 g hg.1).1; omega
  · rintro (h | h)
    · exact (h1 g hg.1).2.1 h
    · have := hg.2; omega
  · rintro (h | h)
    · exact (h2 g hg.1).2 h
    · have := hg.2; omega
  · rintro g (h | h)
    · have := hk g h; omega
    · exact h.2
theorem Duo.ext (h : Duo w lo K b1 d1 b2 d2) (hu : Ext w w') : Duo w' lo K b1 d1 b2 d2 := by
  obtain ⟨S1, S2, m1, m2, h1, h2, hk⟩ := h
  have hsz := hu.size
  exact ⟨S1, S2, m1.ext hu, m2.ext hu, h1, h2, fun g hg => by have := hk g hg; omega⟩
theorem Duo.mk' {K' : Nat → Prop} (h1 : DevX w lo K b1 d1) (h2 : DevX w lo K' b2 d2) (hd : ∀ g, ¬ K g → ¬ K' g → False) : Duo w lo (fun _ => False) b1 d1 b2 d2 := by
  obtain ⟨⟨S1, m1, h1⟩, k1⟩ := h1
  obtain ⟨⟨S2, m2, h2⟩, k2⟩ := h2
  exact ⟨S1, S2, m1, m2, fun g hg => ⟨(h1 g hg).1, id, fun h => hd g (h1 g hg).2 (h2 g h).2⟩, fun g hg => ⟨(h2 g hg).1, id⟩, fun _ h => h.elim⟩
/-- One that is to die behind n ops beside one that is well. -/
structure TwinI (d v : Dev) (n : Nat) (k : Nat) : Prop where
  out : d.out = []
  fuse : d.fuse = n - d.ops
  le : d.ops ≤ n
  dead : d.dead = false
  well : CalmD v k
  now : d.now = v.now
  ops : d.ops = v.ops
/-- Behind a deed. -/
def After (n k : Nat) (old : List (List Int)) (before : Int) (w4 : Prop) (x y : Int) (d v : Dev) : Prop :=
  (TwinI d v n (k + 1) ∧ x = y) ∨ (d.dead = true ∧ x = 7 ∧ before = n ∧ d.ops = n + 1 ∧ d.now = v.now ∧ (w4 ∨ d.now = old))
theorem TwinI.op {d v : Dev} {n k : Nat} (h : TwinI d v n k) : (d.ops < n ∧ d.op = ({ d with ops := d.ops + 1, fuse := d.fuse - 1 }, some 0)) ∨ (d.ops = n ∧ d.op = ({ d with ops := d.ops + 1, dead := true }, none)) := by
  have h1 := h.out
  have h2 := h.fuse
  have h3 := h.le
  by_cases hn : d.ops < n
  · left
    refine ⟨hn, ?_⟩
    unfold Dev.op
    rw [if_neg (by omega), h1, if_pos (by omega)]
  · right
    refine ⟨by omega, ?_⟩
    unfold Dev.op
    rw [if_pos (by omega)]
theorem TwinI.more {d v : Dev} {n k : Nat} (h : TwinI d v n k) : TwinI d v n (k + 1) :=
  { h with well := { h.well with ops := by have := h.well.ops; omega } }
theorem TwinI.write {d v : Dev} {n k : Nat} (h : TwinI d v n k) (p : Int) {b : List Int} (hb : b.length = 256) : After n k d.now d.ops True (d.write p b).2 (v.write p b).2 (d.write p b).1 (v.write p b).1 := by
  have hw := h.well
  have hops := hw.ops
  have ho := h.ops
  have hf := h.fuse
  have his : d.is p = v.is p := by unfold Dev.is; rw [h.now]
  by_cases hi : v.is p = true
  · have ev : v.write p b = (({ v with ops := v.ops + 1 } : Dev).lay p.toNat b, 0) := by
      unfold Dev.write
      rw [hi, decide_eq_true hb, if_pos (show (true && true) = true from rfl), if_neg (by rw [hw.dead]; decide), calm_op hw]
      simp only [if_neg (show ¬ (0 : Int) = 1 by decide), if_true]
    have cv : CalmD (({ v with ops := v.ops + 1 } : Dev).lay p.toNat b) (k + 1) := ⟨hw.out, hw.fuse, hw.dead, by simp only [Dev.lay]; omega, by simp [Dev.lay, hw.len]⟩
    rw [ev]
    rcases h.op with ⟨hn, hop⟩ | ⟨hn, hop⟩
    · have ed : d.write p b = (({ d with ops := d.ops + 1, fuse := d.fuse - 1 } : Dev).lay p.toNat b, 0) := by
        unfold Dev.write
        rw [his, hi, decide_eq_true hb, if_pos (show (true && true) = true from rfl), if_neg (by rw [h.dead]; decide), hop]
        simp only [if_neg (show ¬ (0 : Int) = 1 by decide), if_true]
      rw [ed]
      exact .inl ⟨⟨h.out, by simp only [Dev.lay]; omega, by simp only [Dev.lay]; omega, h.dead, cv, by simp only [Dev.lay, h.now], by simp only [Dev.lay]; omega⟩, rfl⟩
    · have ed : d.write p b = (({ d with ops := d.ops + 1, dead := true } : Dev).lay p.toNat b, 7) := by
        unfold Dev.write
        rw [his, hi, decide_eq_true hb, if_pos (show (true && true) = true from rfl), if_neg (by rw [h.dead]; decide), hop]
      rw [ed]
      exact .inr ⟨rfl, rfl, hn, by simp only [Dev.lay]; omega, by simp only [Dev.lay, h.now], .inl trivial⟩
  · have ev : v.write p b = (v, 1) := by unfold Dev.write; rw [eq_false_of_ne_true hi]; rfl
    have ed : d.write p b = (d, 1) := by unfold Dev.write; rw [his, eq_false_of_ne_true hi]; rfl
    rw [ev, ed]
    exact .inl ⟨h.more, rfl⟩
theorem TwinI.read {d v : Dev} {n k : Nat} (h : TwinI d v n k) (p : Int) : After n k d.now d.ops False (d.read p).2.2 (v.read p).2.2 (d.read p).1 (v.read p).1 := by
  have hw := h.well
  have hops := hw.ops
  have ho := h.ops
  have hf := h.fuse
  have his : d.is p = v.is p := by unfold Dev.is; rw [h.now]
  by_cases hi : v.is p = true
  · have ev : v.read p = ({ v with ops := v.ops + 1 }, v.now.getD p.toNat [], 0) := by
      unfold Dev.read
      rw [hi, if_pos rfl, if_neg (by rw [hw.dead]; decide), calm_op hw]
      simp only [if_neg (show ¬ (0 : Int) = 1 by decide)]
    have cv : CalmD ({ v with ops := v.ops + 1 } : Dev) (k + 1) := ⟨hw.out, hw.fuse, hw.dead, by simp only; omega, hw.len⟩
    rw [ev]
    rcases h.op with ⟨hn, hop⟩ | ⟨hn, hop⟩
    · have ed : d.read p = ({ d with ops := d.ops + 1, fuse := d.fuse - 1 }, d.now.getD p.toNat [], 0) := by
        unfold Dev.read
        rw [his, hi, if_pos rfl, if_neg (by rw [h.dead]; decide), hop]
        simp only [if_neg (show ¬ (0 : Int) = 1 by decide)]
      rw [ed]
      exact .inl ⟨⟨h.out, by simp only; omega, by simp only; omega, h.dead, cv, h.now, by simp only; omega⟩, rfl⟩
    · have ed : d.read p = ({ d with ops := d.ops + 1, dead := true }, [], 7) := by
        unfold Dev.read
        rw [his, hi, if_pos rfl, if_neg (by rw [h.dead]; decide), hop]
      rw [ed]
      exact .inr ⟨rfl, rfl, hn, by simp only; omega, h.now, .inr rfl⟩
  · have ev : v.read p = (v, [], 1) := by unfold Dev.read; rw [eq_false_of_ne_true hi]; rfl
    have ed : d.read p = (d, [], 1) := by unfold Dev.read; rw [his, eq_false_of_ne_true hi]; rfl
    rw [ev, ed]
    exact .inl ⟨h.more, rfl⟩
theorem TwinI.sync {d v : Dev} {n k : Nat} (h : TwinI d v n k) : After n k d.now d.ops False d.sync.2 v.sync.2 d.sync.1 v.sync.1 := by
  have hw := h.well
  have hops := hw.ops
  have ho := h.ops
  have hf := h.fuse
  have ev : v.sync = (({ v with ops := v.ops + 1 } : Dev).last, 0) := by
    unfold Dev.sync
    rw [if_neg (by rw [hw.dead]; decide), calm_op hw]
    simp only [if_neg (show ¬ (0 : Int) = 1 by decide), if_true]
  have cv : CalmD (({ v with ops := v.ops + 1 } : Dev).last) (k + 1) := ⟨hw.out, hw.fuse, hw.dead, by simp only [Dev.last]; omega, hw.len⟩
  rw [ev]
  rcases h.op with ⟨hn, hop⟩ | ⟨hn, hop⟩
  · have ed : d.sync = (({ d with ops := d.ops + 1, fuse := d.fuse - 1 } : Dev).last, 0) := by
      unfold Dev.sync
      rw [if_neg (by rw [h.dead]; decide), hop]
      simp only [if_neg (show ¬ (0 : Int) = 1 by decide), if_true]
    rw [ed]
    exact .inl ⟨⟨h.out, by simp only [Dev.last]; omega, by simp only [Dev.last]; omega, h.dead, cv, h.now, by simp only [Dev.last]; omega⟩, rfl⟩
  · have ed : d.sync = ({ d with ops := d.ops + 1, dead := true }, 7) := by
      unfold Dev.sync
      rw [if_neg (by rw [h.dead]; decide), hop]
    rw [ed]
    exact .inr ⟨rfl, rfl, hn, by simp only; omega, h.now, .inr rfl⟩
theorem sync_dead {d : Dev} (h : d.dead = true) : d.sync = (d, 7) := by unfold Dev.sync; rw [if_pos h]
theorem twin_new {n : Nat} : TwinI ((Dev.new 8).arm n) (Dev.new 8) n 0 :=
  ⟨rfl, by show max (n : Int) (-1) = n - 0; omega, by show (0 : Int) ≤ n; omega, rfl, calm_new, rfl, rfl⟩
theorem and31 (a : Int) : ∃ n : Nat, bits .and .i64 a 31 = n ∧ n ≤ 31 := by
  have h : ((BitVec.ofInt 64 a) &&& (BitVec.ofInt 64 31)).toNat ≤ 31 := by
    rw [BitVec.toNat_and]
    exact Nat.and_le_right
  refine ⟨((BitVec.ofInt 64 a) &&& (BitVec.ofInt 64 31)).toNat, ?_, h⟩
  show IntKind.wrap .i64 (((BitVec.ofInt 64 a) &&& (BitVec.ofInt 64 31)).toNat : Int) = _
  exact wrap_in ⟨by show (-9223372036854775808 : Int) ≤ _; omega, by show _ ≤ (9223372036854775807 : Int); omega⟩
end Go.Vc
