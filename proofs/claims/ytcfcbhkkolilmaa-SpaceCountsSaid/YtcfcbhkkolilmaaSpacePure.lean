/-
  Which pages are free: the plain law. A page is 0: free, 1: used, 2: own, 3: pending.
-/
import Derived.Test.YtcfcbhkkolilmaaRowW
namespace Go.Vc
open Go.RowKit
/-- The bit of a byte. -/
def bitAt (n : Int) (j : Nat) : Bool := bits .and .u8 (n.fdiv (2 ^ (min j 8))) 1 == 1
/-- A bit more. -/
def orAt (n : Int) (j : Nat) : Int := bits .or .u8 n (IntKind.wrap .u8 (1 * 2 ^ (min j 8)))
theorem orAt_fin : ∀ (n : Fin 256) (j : Fin 8), (0 ≤ orAt (n.val : Int) j.val ∧ orAt (n.val : Int) j.val ≤ 255) ∧ ∀ i : Fin 8, bitAt (orAt (n.val : Int) j.val) i.val = (decide (i.val = j.val) || bitAt (n.val : Int) i.val) := by decide +kernel
/-- A byte out of its bits. -/
def byteOf (n : Int) : Int := (List.range 8).foldl (fun a i => if bitAt n i then a + 2 ^ i else a) 0
theorem byteOf_fin : ∀ n : Fin 256, byteOf (n.val : Int) = n.val := by decide +kernel
theorem fin_of {n : Int} (h0 : 0 ≤ n) (h1 : n ≤ 255) : ∃ m : Fin 256, n = (m.val : Int) := ⟨⟨n.toNat, by omega⟩, by simp; omega⟩
theorem orAt_range {n : Int} (h0 : 0 ≤ n) (h1 : n ≤ 255) {j : Nat} (hj : j < 8) : 0 ≤ orAt n j ∧ orAt n j ≤ 255 := by
  obtain ⟨m, rfl⟩ := fin_of h0 h1
  exact (orAt_fin m ⟨j, hj⟩).1
theorem orAt_bit {n : Int} (h0 : 0 ≤ n) (h1 : n ≤ 255) {j i : Nat} (hj : j < 8) (hi : i < 8) : bitAt (orAt n j) i = (decide (i = j) || bitAt n i) := by
  obtain ⟨m, rfl⟩ := fin_of h0 h1
  exact (orAt_fin m ⟨j, hj⟩).2 ⟨i, hi⟩
theorem bitAt_zero : ∀ i : Nat, i < 8 → bitAt 0 i = false := by decide +kernel
theorem byte_ext {a b : Int} (ha0 : 0 ≤ a) (ha1 : a ≤ 255) (hb0 : 0 ≤ b) (hb1 : b ≤ 255) (h : ∀ i, i < 8 → bitAt a i = bitAt b i) : a = b := by
  obtain ⟨m, rfl⟩ := fin_of ha0 ha1
  obtain ⟨k, rfl⟩ := fin_of hb0 hb1
  rw [← byteOf_fin m, ← byteOf_fin k]
  unfold byteOf
  have h0 := h 0 (by decide); have h1 := h 1 (by decide); have h2 := h 2 (by decide); have h3 := h 3 (by decide)
  have h4 := h 4 (by decide); have h5 := h 5 (by decide); have h6 := h 6 (by decide); have h7 := h 7 (by decide)
  simp only [List.range, List.range.loop, List.foldl, h0, h1, h2, h3, h4, h5, h6, h7]
/-- The least free page. -/
def freeI : List Int → Option Nat
  | [] => none
  | x :: r => if x = 0 then some 0 else (freeI r).map (· + 1)
theorem freeI_some : ∀ {st : List Int} {i : Nat}, st[i]? = some 0 → (∀ j, j < i → st[j]? ≠ some 0) → freeI st = some i
  | [], i, h, _ => by simp at h
  | x :: r, 0, h, _ => by simp at h; simp [freeI, h]
  | x :: r, i + 1, h, hn => by
    have hx : x ≠ 0 := fun e => hn 0 (by omega) (by simp [e])
    rw [freeI, if_neg hx, freeI_some (i := i) (by simpa using h) (fun j hj => by have := hn (j + 1) (by omega); simpa using this)]
    rfl
theorem freeI_none : ∀ {st : List Int}, (∀ j, j < st.length → st[j]? ≠ some 0) → freeI st = none
  | [], _ => rfl
  | x :: r, hn => by
    have hx : x ≠ 0 := fun e => hn 0 (by simp) (by simp [e])
    rw [freeI, if_neg hx, freeI_none (fun j hj => by have := hn (j + 1) (by simp; omega); simpa using this)]
    rfl
theorem freeI_spec : ∀ {st : List Int} {i : Nat}, freeI st = some i → st[i]? = some 0
  | [], i, h => by simp [freeI] at h
  | x :: r, i, h => by
    rw [freeI] at h
    split at h
    · rename_i hx; injection h with h; subst h; simp [hx]
    · cases hr : freeI r with
      | none => rw [hr] at h; cases h
      | some j =>
        rw [hr] at h
        simp at h
        subst h
        simpa using freeI_spec hr
/-- Alloc: the states behind it, the page, the error. -/
def allocF (st : List Int) : List Int × Int × Int := match freeI st with
  | some i => (st.set i 2, (i : Int), 0)
  | none => (st, 0, 6)
def giveF (st : List Int) (page : Int) : List Int × Int :=
  if page < 2 ∨ page ≥ st.length then (st, 1) else if st.getD page.toNat 0 = 2 then (st.set page.toNat 0, 0) else if st.getD page.toNat 0 = 1 then (st.set page.toNat 3, 0) else (st, 10)
def turnV (a b x : Int) : Int := if x = 2 then a else if x = 3 then b else x
def turnF (a b : Int) (st : List Int) : List Int := st.map (turnV a b)
def countF (v : Int) (st : List Int) : Nat := st.countP (fun x => decide (x = v))
def isF (st : List Int) (page v : Int) : Bool := decide (0 ≤ page ∧ page < st.length) && decide (st.getD page.toNat 0 = v)
def OkS (st : List Int) : Prop := ∀ x ∈ st, 0 ≤ x ∧ x ≤ 3
theorem OkS.set {st : List Int} (h : OkS st) (i : Nat) {v : Int} (h0 : 0 ≤ v) (h3 : v ≤ 3) : OkS (st.set i v) := fun x hx => by
  rcases List.mem_or_eq_of_mem_set hx with h1 | rfl
  · exact h x h1
  · exact ⟨h0, h3⟩
theorem OkS.alloc {st : List Int} (h : OkS st) : OkS (allocF st).1 := by
  unfold allocF
  cases freeI st with
  | none => exact h
  | some i => exact h.set i (by decide) (by decide)
theorem OkS.give {st : List Int} (h : OkS st) (page : Int) : OkS (giveF st page).1 := by
  unfold giveF
  split
  · exact h
  split
  · exact h.set _ (by decide) (by decide)
  split
  · exact h.set _ (by decide) (by decide)
  · exact h
theorem OkS.turn {st : List Int} (h : OkS st) {a b : Int} (ha : 0 ≤ a ∧ a ≤ 3) (hb : 0 ≤ b ∧ b ≤ 3) : OkS (turnF a b st) := fun x hx => by
  obtain ⟨y, hy, rfl⟩ := List.mem_map.1 hx
  have := h y hy
  unfold turnV
  split
  · exact ha
  split
  · exact hb
  · exact this
theorem allocF_length (st : List Int) : (allocF st).1.length = st.length := by
  unfold allocF
  cases freeI st <;> simp
theorem giveF_length (st : List Int) (page : Int) : (giveF st page).1.length = st.length := by
  unfold giveF
  split
  · rfl
  split
  · simp
  split <;> simp
theorem turnF_length (a b : Int) (st : List Int) : (turnF a b st).length = st.length := by simp [turnF]
theorem countF_snoc (v : Int) (st : List Int) (x : Int) : countF v (st ++ [x]) = countF v st + if x = v then 1 else 0 := by
  unfold countF
  rw [List.countP_append]
  by_cases h : x = v <;> simp [h]
/-- The bytes whose bits are set of the pages that are used or own. -/
def BitsR (st : List Int) (n : Nat) (out : List Int) : Prop :=
  (∀ x ∈ out, 0 ≤ x ∧ x ≤ 255) ∧ ∀ i, i < 8 * out.length → bitAt (out.getD (i / 8) 0) (i % 8) = (decide (i < n) && (decide (st.getD i 0 = 1) || decide (st.getD i 0 = 2)))
theorem BitsR.unique {st : List Int} {n : Nat} {a b : List Int} (ha : BitsR st n a) (hb : BitsR st n b) (hl : a.length = b.length) : a = b := by
  apply List.ext_getElem hl
  intro j h1 h2
  have g1 := ha.1 _ (List.getElem_mem h1)
  have g2 := hb.1 _ (List.getElem_mem h2)
  refine byte_ext g1.1 g1.2 g2.1 g2.2 fun i hi => ?_
  have e1 := ha.2 (8 * j + i) (by omega)
  have e2 := hb.2 (8 * j + i) (by omega)
  rw [show (8 * j + i) / 8 = j by omega, show (8 * j + i) % 8 = i by omega, List.getD_eq_getElem?_getD, List.getElem?_eq_getElem h1] at e1
  rw [show (8 * j + i) / 8 = j by omega, show (8 * j + i) % 8 = i by omega, List.getD_eq_getElem?_getD, List.getElem?_eq_getElem h2] at e2
  exact e1.trans e2.symm
theorem BitsR.zero (st : List Int) (m : Nat) : BitsR st 0 (List.replicate m 0) := by
  refine ⟨fun x hx => by have := List.eq_of_mem_replicate hx; omega, fun i hi => ?_⟩
  simp only [List.length_replicate] at hi
  rw [List.getD_eq_getElem?_getD, List.getElem?_replicate, if_pos (by omega)]
  simp [bitAt_zero _ (show i % 8 < 8 by omega)]
theorem BitsR.skip {st : List Int} {n : Nat} {out : List Int} (h : BitsR st n out) (hn : st.getD n 0 ≠ 1 ∧ st.getD n 0 ≠ 2) : BitsR st (n + 1) out := by
  refine ⟨h.1, fun i hi => ?_⟩
  rw [h.2 i hi]
  by_cases he : i = n
  · subst he; simp only [List.getD_eq_getElem?_getD] at hn; simp [hn.1, hn.2]
  · rw [show decide (i < n + 1) = decide (i < n) by rw [decide_eq_decide]; omega]
theorem BitsR.setBit {st : List Int} {n : Nat} {out : List Int} (h : BitsR st n out) (hl : n < 8 * out.length) (hn : st.getD n 0 = 1 ∨ st.getD n 0 = 2) : BitsR st (n + 1) (out.set (n / 8) (orAt (out.getD (n / 8) 0) (n % 8))) := by
  have hj : n / 8 < out.length := by omega
  have hg : out.getD (n / 8) 0 = out[n / 8] := by rw [List.getD_eq_getElem?_getD, List.getElem?_eq_getElem hj]; rfl
  have hr := h.1 _ (List.getElem_mem hj)
  rw [← hg] at hr
  refine ⟨fun x hx => ?_, fun i hi => ?_⟩
  · rcases List.mem_or_eq_of_mem_set hx with h1 | rfl
    · exact h.1 x h1
    · exact orAt_range hr.1 hr.2 (by omega)
  · rw [List.length_set] at hi
    have hb := h.2 i hi
    by_cases he : i / 8 = n / 8
    · rw [he, List.getD_eq_getElem?_getD, List.getElem?_set_self hj, Option.getD_some, orAt_bit hr.1 hr.2 (by omega) (by omega)]
      rw [he] at hb
      rw [hb]
      by_cases hin : i = n
      · subst hin
        have : (decide (st.getD i 0 = 1) || decide (st.getD i 0 = 2)) = true := by simp only [Bool.or_eq_true, decide_eq_true_eq]; exact hn
        rw [this]; simp
      · rw [show decide (i % 8 = n % 8) = false by rw [decide_eq_false_iff_not]; omega, show decide (i < n + 1) = decide (i < n) by rw [decide_eq_decide]; omega]
        simp
    · rw [List.getD_eq_getElem?_getD, List.getElem?_set_ne (Ne.symm he), ← List.getD_eq_getElem?_getD, hb, show decide (i < n + 1) = decide (i < n) by rw [decide_eq_decide]; omega]
end Go.Vc
