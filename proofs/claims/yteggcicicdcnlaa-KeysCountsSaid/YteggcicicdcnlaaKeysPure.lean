/-
  Keys: the plain law.
-/
import Derived.Test.YteggcicicdcnlaaWords2
namespace Go.Vc
open Go.RowKit
inductive Tag | begin | register | counted | second | again | name | letter
deriving DecidableEq
/-- A parser: what it goes on with, and what it has. -/
structure PS where
  visual : Bool
  tag : Tag
  reg : Int
  key : List Int
  mot : List Int
  arg : List Int
  n0 : Int
  n1 : Int
  here : Bool
  letters : Int
/-- A command. -/
structure Cd where
  reg : Int
  count : Int
  key : List Int
  mot : List Int
  arg : List Int
deriving DecidableEq
def cd0 : Cd := ⟨0, 0, [], [], []⟩
def mots : List Int := [104, 108, 106, 107, 48, 94, 36, 119, 98, 101, 71, 123, 125, 37, 124, 110, 78, 42, 59, 44]
def finds : List Int := [102, 70, 116, 84]
def opers : List Int := [100, 99, 121, 62, 60]
def opers2 : List Int := [117, 85, 126]
def plains (v : Bool) : List Int := if v = true then [100, 120, 121, 99, 62, 60, 117, 85, 126, 74, 111, 118, 86, 112, 58] else [105, 97, 73, 65, 111, 79, 120, 88, 68, 67, 89, 112, 80, 74, 126, 117, 118, 86, 46, 58, 47, 63]
def smallK (c : Int) : Bool := decide (97 ≤ c ∧ c ≤ 122)
def nameK (c : Int) : Bool := decide (97 ≤ c ∧ c ≤ 122 ∨ 65 ≤ c ∧ c ≤ 90 ∨ 48 ≤ c ∧ c ≤ 57 ∨ c = 61 ∨ c = 34)
def longK (c : Int) : Int := if 194 ≤ c ∧ c ≤ 223 then 2 else if 224 ≤ c ∧ c ≤ 239 then 3 else if 240 ≤ c ∧ c ≤ 244 then 4 else 1
def min99 (n : Int) : Int := if 99 < n then 99 else n
def lastK (l : List Int) : Int := l.getLastD 0
/-! ### What the code's parser does -/
def motionP (s : PS) (k : Int) : PS × Int :=
  if s.here = true ∧ k = lastK s.key then ({ s with mot := [95] }, 1)
  else if k ∈ mots then ({ s with mot := [k] }, 1)
  else if k ∈ finds then ({ s with mot := [k], tag := .letter }, 0)
  else if k = 39 ∨ k = 96 then ({ s with mot := [k], tag := .name }, 0)
  else if k = 103 ∧ s.here = true then ({ s with tag := .again }, 0)
  else (s, 2)
def commandP (s : PS) (k : Int) : PS × Int :=
  if s.visual = false ∧ k ∈ opers then ({ s with key := [k], here := true, tag := .counted }, 0)
  else if k ∈ plains s.visual then ({ s with key := [k] }, 1)
  else if s.visual = false ∧ k = 18 then ({ s with key := [94, 82] }, 1)
  else if k = 114 then ({ s with key := [114], tag := .letter }, 0)
  else if k = 109 then ({ s with key := [109], tag := .name }, 0)
  else if k = 103 then ({ s with tag := .second }, 0)
  else motionP s k
def nOf (s : PS) : Int := if s.here = true then s.n1 else s.n0
def setN (s : PS) (n : Int) : PS := if s.here = true then { s with n1 := n } else { s with n0 := n }
def countedP (s : PS) (k : Int) : PS × Int :=
  if (49 ≤ k ∧ k ≤ 57) ∨ (k = 48 ∧ nOf s > 0) then ({ setN s (min99 (10 * nOf s + (k - 48))) with tag := .counted }, 0)
  else if s.here = true then motionP s k else commandP s k
def registerP (s : PS) (k : Int) : PS × Int := if nameK k = true then ({ s with reg := k, tag := .counted }, 0) else (s, 2)
def beginP (s : PS) (k : Int) : PS × Int := if k = 34 then ({ s with tag := .register }, 0) else countedP s k
def secondP (s : PS) (k : Int) : PS × Int :=
  if k = 103 then ({ s with mot := [103, 103] }, 1) else if s.visual = true then (s, 2)
  else if k ∈ opers2 then ({ s with key := [103, k], here := true, tag := .counted }, 0)
  else if k = 45 ∨ k = 43 then ({ s with key := [103, k] }, 1) else (s, 2)
def againP (s : PS) (k : Int) : PS × Int := if k = 103 then ({ s with mot := [103, 103] }, 1) else (s, 2)
def nameP (s : PS) (k : Int) : PS × Int := if smallK k = true then ({ s with arg := [k] }, 1) else (s, 2)
def letterP (s : PS) (k : Int) : PS × Int := ({ s with letters := (if s.letters = 0 then longK k else s.letters) - 1, arg := s.arg ++ [k] }, if (if s.letters = 0 then longK k else s.letters) - 1 > 0 then 0 else 1)
def stepP (s : PS) (k : Int) : PS × Int :=
  match s.tag with
  | .begin => beginP s k
  | .register => registerP s k
  | .counted => countedP s k
  | .second => secondP s k
  | .again => againP s k
  | .name => nameP s k
  | .letter => letterP s k
def fresh (v : Bool) : PS := ⟨v, .begin, 0, [], [], [], 0, 0, false, 0⟩
def countP (s : PS) : Int := if s.n0 = 0 ∨ s.n1 = 0 then s.n0 + s.n1 else min99 (s.n0 * s.n1)
def cdOf (s : PS) : Cd := ⟨s.reg, countP s, s.key, s.mot, s.arg⟩
def feedP (s : PS) (B : List Int) (k : Int) : (Cd × Int) × PS × List Int :=
  if k = 27 then ((cd0, 2), fresh s.visual, [])
  else if (stepP s k).2 = 0 then ((cd0, 0), (stepP s k).1, B ++ [k])
  else ((if (stepP s k).2 = 2 then cd0 else cdOf (stepP s k).1, (stepP s k).2), fresh s.visual, [])
/-! ### What the reference reads -/
def countG (n : Int) : List Int → Int × List Int
  | [] => (n, [])
  | x :: r => if 48 ≤ x ∧ x ≤ 57 then countG (min99 (n * 10 + (x - 48))) r else (n, x :: r)
def countR (t : List Int) : Int × List Int := if t.head? = some 48 then (0, t) else countG 0 t
def motionR : List Int → List Int × List Int × Int
  | [] => ([], [], 0)
  | c :: r =>
    if c ∈ mots then ([c], [], 1)
    else if c = 103 then (match r with | [] => ([], [], 0) | x :: _ => if x = 103 then ([103, 103], [], 1) else ([], [], 2))
    else if c ∈ finds then (match r with | [] => ([], [], 0) | x :: _ => if (r.length : Int) < longK x then ([], [], 0) else ([c], r, 1))
    else if c = 39 ∨ c = 96 then (match r with | [] => ([], [], 0) | x :: _ => if smallK x = true then ([c], r, 1) else ([], [], 2))
    else ([], [], 2)
def operR : List Int → List Int × List Int × Int
  | [] => ([], [], 0)
  | c :: r => if c ∈ opers then ([c], r, 1) else if c ≠ 103 then ([], c :: r, 2) else (match r with | [] => ([], [c], 0) | x :: q => if x ∈ opers2 then ([103, x], q, 1) else ([], c :: x :: q, 2))
def plainR (v : Bool) : List Int → List Int × List Int × Int
  | [] => ([], [], 0)
  | c :: r =>
    if c ∈ plains v then ([c], [], 1)
    else if c = 18 ∧ v = false then ([94, 82], [], 1)
    else if c = 114 then (match r with | [] => ([], [], 0) | x :: _ => if (r.length : Int) < longK x then ([], [], 0) else ([114], r, 1))
    else if c = 109 then (match r with | [] => ([], [], 0) | x :: _ => if smallK x = true then ([109], r, 1) else ([], [], 2))
    else if c = 103 ∧ v = false ∧ (r.head? = some 45 ∨ r.head? = some 43) then (103 :: r, [], 1)
    else if c = 103 ∧ r = [] then ([], [], 0)
    else ([], [], 2)
/-- Behind an operator and its count. -/
def tailR (x : Cd) (t : List Int) : Cd × Int :=
  if t = [] then (x, 0) else if t = [lastK x.key] then ({ x with mot := [95] }, 1)
  else ({ x with mot := (motionR t).1, arg := (motionR t).2.1 }, (motionR t).2.2)
def operatedR (x : Cd) (t : List Int) : Cd × Int :=
  tailR (if (countR t).1 > 0 then { x with count := min99 ((if x.count < 1 then 1 else x.count) * (countR t).1) } else x) (countR t).2
/-- Behind the count ahead. -/
def bodyR (v : Bool) (x : Cd) (t : List Int) : Cd × Int :=
  if t = [] then (x, 0)
  else if v = false ∧ (operR t).2.2 = 0 then (x, 0)
  else if v = false ∧ (operR t).2.2 = 1 then operatedR { x with key := (operR t).1 } (operR t).2.1
  else if (motionR t).2.2 = 1 then ({ x with mot := (motionR t).1, arg := (motionR t).2.1 }, 1)
  else if (plainR v t).2.2 = 1 then ({ x with key := (plainR v t).1, arg := (plainR v t).2.1 }, 1)
  else (x, if (plainR v t).2.2 < (motionR t).2.2 then (plainR v t).2.2 else (motionR t).2.2)
def readR (v : Bool) (b : List Int) : Cd × Int :=
  match b with
  | [] => (cd0, 0)
  | c :: r =>
    if c = 34 then (match r with
      | [] => (cd0, 0)
      | x :: q => if nameK x = true then bodyR v ⟨x, (countR q).1, [], [], []⟩ (countR q).2 else (cd0, 2))
    else bodyR v ⟨0, (countR b).1, [], [], []⟩ (countR b).2
def feedR (v : Bool) (B : List Int) (k : Int) : (Cd × Int) × List Int :=
  if k = 27 then ((cd0, 2), [])
  else if (readR v (B ++ [k])).2 = 0 then ((cd0, 0), B ++ [k])
  else if (readR v (B ++ [k])).2 = 2 then ((cd0, 2), [])
  else (((readR v (B ++ [k])).1, 1), [])
/-! ### They are the same -/
/-- A parser in a state that it may come to. -/
def OpK (key : List Int) : Prop := (∃ k ∈ opers, key = [k]) ∨ ∃ k ∈ opers2, key = [103, k]
def LetK (arg : List Int) (letters : Int) : Prop := (arg = [] ∧ letters = 0) ∨ ∃ a r, arg = a :: r ∧ letters = longK a - (arg.length : Int) ∧ 0 < letters
structure WF (s : PS) : Prop where
  n0 : 0 ≤ s.n0 ∧ s.n0 ≤ 99
  n1 : 0 ≤ s.n1 ∧ s.n1 ≤ 99
  nohere : s.here = false → s.n1 = 0
  op : s.here = true → OpK s.key ∧ s.visual = false
  tag : match s.tag with
    | .begin => s = fresh s.visual
    | .register => s = { fresh s.visual with tag := .register }
    | .counted => (s.here = false → s.key = []) ∧ s.mot = [] ∧ s.arg = [] ∧ s.letters = 0
    | .second => s.here = false ∧ s.key = [] ∧ s.mot = [] ∧ s.arg = [] ∧ s.letters = 0
    | .again => s.here = true ∧ s.mot = [] ∧ s.arg = [] ∧ s.letters = 0
    | .name => ((s.here = false ∧ s.key = [109] ∧ s.mot = []) ∨ ((s.here = false → s.key = []) ∧ (s.mot = [39] ∨ s.mot = [96]))) ∧ s.arg = [] ∧ s.letters = 0
    | .letter => ((s.here = false ∧ s.key = [114] ∧ s.mot = []) ∨ ((s.here = false → s.key = []) ∧ ∃ f ∈ finds, s.mot = [f])) ∧ LetK s.arg s.letters
/-- The keys that stand behind the count, and wait. -/
def waits (s : PS) : List Int :=
  match s.tag with
  | .second | .again => [103]
  | .name | .letter => (if s.mot = [] then s.key else s.mot) ++ s.arg
  | _ => []
def comb (a b : Int) : Int := if b > 0 then min99 ((if a < 1 then 1 else a) * b) else a
def cntR (n : Int) (t : List Int) : Int × List Int := if n = 0 then countR t else countG n t
/-- What is read of keys to come. -/
def contR (s : PS) (t : List Int) : Cd × Int :=
  match s.tag with
  | .begin => readR s.visual t
  | .register => readR s.visual (34 :: t)
  | .counted => if s.here = true then tailR ⟨s.reg, comb s.n0 (cntR s.n1 t).1, s.key, [], []⟩ (cntR s.n1 t).2 else bodyR s.visual ⟨s.reg, (cntR s.n0 t).1, [], [], []⟩ (cntR s.n0 t).2
  | _ => if s.here = true then tailR ⟨s.reg, comb s.n0 s.n1, s.key, [], []⟩ (waits s ++ t) else bodyR s.visual ⟨s.reg, s.n0, [], [], []⟩ (waits s ++ t)
theorem min99_id {n : Int} (h : n ≤ 99) : min99 n = n := by unfold min99; rw [if_neg (by omega)]
theorem count_comb {s : PS} (h : WF s) : countP s = comb s.n0 s.n1 := by
  have h0 := h.n0
  have h1 := h.n1
  unfold countP comb
  by_cases a : s.n1 = 0
  · rw [if_pos (.inr a), if_neg (by omega), a, Int.add_zero]
  by_cases b : s.n0 = 0
  · rw [if_pos (.inl b), if_pos (by omega), b, if_pos (by decide), Int.one_mul, Int.zero_add, min99_id h1.2]
  · rw [if_neg (by omega), if_pos (by omega), if_neg (by omega : ¬ s.n0 < 1)]
theorem count_n0 {s : PS} (h : WF s) (hh : s.here = false) : countP s = s.n0 := by
  unfold countP
  rw [h.nohere hh, if_pos (.inr rfl), Int.add_zero]
theorem plains_not : ∀ v k, k ∈ plains v → k ∉ mots ∧ k ∉ finds ∧ k ≠ 39 ∧ k ≠ 96 ∧ k ≠ 103 ∧ k ≠ 34 ∧ k ≠ 18 := by
  have h : ∀ v, (plains v).all (fun k => decide (k ∉ mots ∧ k ∉ finds ∧ k ≠ 39 ∧ k ≠ 96 ∧ k ≠ 103 ∧ k ≠ 34 ∧ k ≠ 18)) = true := by decide
  exact fun v k hk => of_decide_eq_true (List.all_eq_true.1 (h v) k hk)
theorem mots_not : ∀ k, k ∈ mots → k ∉ finds ∧ k ≠ 39 ∧ k ≠ 96 ∧ k ≠ 103 := by
  have h : mots.all (fun k => decide (k ∉ finds ∧ k ≠ 39 ∧ k ≠ 96 ∧ k ≠ 103)) = true := by decide
  exact fun k hk => of_decide_eq_true (List.all_eq_true.1 h k hk)
theorem finds_not : ∀ k, k ∈ finds → k ∉ mots ∧ k ≠ 103 ∧ k ∉ opers ∧ k ∉ opers2 ∧ k ≠ 39 ∧ k ≠ 96 ∧ (∀ v, k ∉ plains v) ∧ k ≠ 18 ∧ k ≠ 114 ∧ k ≠ 109 ∧ ¬ (48 ≤ k ∧ k ≤ 57) := by
  have h : finds.all (fun k => decide (k ∉ mots ∧ k ≠ 103 ∧ k ∉ opers ∧ k ∉ opers2 ∧ k ≠ 39 ∧ k ≠ 96 ∧ (∀ v, k ∉ plains v) ∧ k ≠ 18 ∧ k ≠ 114 ∧ k ≠ 109 ∧ ¬ (48 ≤ k ∧ k ≤ 57))) = true := by decide
  exact fun k hk => of_decide_eq_true (List.all_eq_true.1 h k hk)
theorem opers_not : ∀ k, k ∈ opers → k ∉ mots ∧ k ∉ finds ∧ k ≠ 103 ∧ k ≠ 39 ∧ k ≠ 96 ∧ ¬ (48 ≤ k ∧ k ≤ 57) := by
  have h : opers.all (fun k => decide (k ∉ mots ∧ k ∉ finds ∧ k ≠ 103 ∧ k ≠ 39 ∧ k ≠ 96 ∧ ¬ (48 ≤ k ∧ k ≤ 57))) = true := by decide
  exact fun k hk => of_decide_eq_true (List.all_eq_true.1 h k hk)
theorem op_last {key : List Int} (h : OpK key) : lastK key ∈ opers ∨ lastK key ∈ opers2 := by
  rcases h with ⟨k, hk, rfl⟩ | ⟨k, hk, rfl⟩
  · exact .inl hk
  · exact .inr hk
theorem last_not {k : Int} (h : k ∈ opers ∨ k ∈ opers2) : k ∉ finds ∧ k ≠ 103 ∧ k ≠ 39 ∧ k ≠ 96 ∧ ¬ (48 ≤ k ∧ k ≤ 57) := by
  have h1 : opers.all (fun k => decide (k ∉ finds ∧ k ≠ 103 ∧ k ≠ 39 ∧ k ≠ 96 ∧ ¬ (48 ≤ k ∧ k ≤ 57))) = true := by decide
  have h2 : opers2.all (fun k => decide (k ∉ finds ∧ k ≠ 103 ∧ k ≠ 39 ∧ k ≠ 96 ∧ ¬ (48 ≤ k ∧ k ≤ 57))) = true := by decide
  rcases h with h | h
  · exact of_decide_eq_true (List.all_eq_true.1 h1 k h)
  · exact of_decide_eq_true (List.all_eq_true.1 h2 k h)
theorem longK_pos (c : Int) : 1 ≤ longK c := by unfold longK; split; decide; split; decide; split <;> decide
theorem min99_le {n : Int} (h : 0 ≤ n) : 0 ≤ min99 n ∧ min99 n ≤ 99 := by unfold min99; split <;> omega
theorem cntR_digit {n k : Int} {t : List Int} (hn : 0 ≤ n) (h : (49 ≤ k ∧ k ≤ 57) ∨ (k = 48 ∧ n > 0)) : cntR n (k :: t) = cntR (min99 (10 * n + (k - 48))) t ∧ 0 < min99 (10 * n + (k - 48)) := by
  have hm : 0 < min99 (10 * n + (k - 48)) := by unfold min99; split <;> omega
  refine ⟨?_, hm⟩
  have hg : countG n (k :: t) = countG (min99 (10 * n + (k - 48))) t := by
    show (if 48 ≤ k ∧ k ≤ 57 then countG (min99 (n * 10 + (k - 48))) t else _) = _
    rw [if_pos (by omega), Int.mul_comm]
  unfold cntR
  rw [if_neg (by omega : ¬ min99 (10 * n + (k - 48)) = 0)]
  split
  · rename_i h0
    unfold countR
    rw [if_neg (by simp; omega), ← h0]; exact hg
  · exact hg
theorem cntR_other {n k : Int} {t : List Int} (hn : 0 ≤ n) (h : ¬ ((49 ≤ k ∧ k ≤ 57) ∨ (k = 48 ∧ n > 0))) : cntR n (k :: t) = (n, k :: t) := by
  unfold cntR countR
  split
  · rename_i h0
    split
    · rw [h0]
    · rename_i h1
      have h1 : k ≠ 48 := by simpa using h1
      show (if 48 ≤ k ∧ k ≤ 57 then _ else (0, k :: t)) = _
      rw [if_neg (by omega), h0]
  · show (if 48 ≤ k ∧ k ≤ 57 then _ else (n, k :: t)) = _
    rw [if_neg (by omega)]
theorem cntR_nil (n : Int) : cntR n [] = (n, []) := by
  unfold cntR countR
  split
  · rename_i h; rw [h]; rfl
  · rfl
/-! ### What stands where -/
theorem motionR_mot {c : Int} (r : List Int) (h : c ∈ mots) : motionR (c :: r) = ([c], [], 1) := by show (if c ∈ mots then _ else _) = _; rw [if_pos h]
theorem motionR_none {c : Int} (r : List Int) (h1 : c ∉ mots) (h2 : c ≠ 103) (h3 : c ∉ finds) (h4 : ¬ (c = 39 ∨ c = 96)) : motionR (c :: r) = ([], [], 2) := by
  show (if c ∈ mots then _ else _) = _
  rw [if_neg h1, if_neg h2, if_neg h3, if_neg h4]
theorem motionR_find {c : Int} (x : Int) (r : List Int) (h : c ∈ finds) : motionR (c :: x :: r) = if ((x :: r).length : Int) < longK x then ([], [], 0) else ([c], x :: r, 1) := by
  obtain ⟨h1, h2, _⟩ := finds_not c h
  show (if c ∈ mots then _ else _) = _
  rw [if_neg h1, if_neg h2, if_pos h]
theorem motionR_find0 {c : Int} (h : c ∈ finds) : motionR [c] = ([], [], 0) := by
  obtain ⟨h1, h2, _⟩ := finds_not c h
  show (if c ∈ mots then _ else _) = _
  rw [if_neg h1, if_neg h2, if_pos h]
theorem operR_none {c : Int} (r : List Int) (h1 : c ∉ opers) (h2 : c ≠ 103) : operR (c :: r) = ([], c :: r, 2) := by
  show (if c ∈ opers then _ else _) = _
  rw [if_neg h1, if_pos h2]
theorem operR_op {c : Int} (r : List Int) (h1 : c ∈ opers) : operR (c :: r) = ([c], r, 1) := by
  show (if c ∈ opers then _ else _) = _
  rw [if_pos h1]
theorem plainR_yes {v : Bool} {c : Int} (r : List Int) (h : c ∈ plains v) : plainR v (c :: r) = ([c], [], 1) := by
  show (if c ∈ plains v then _ else _) = _
  rw [if_pos h]
theorem plainR_none {v : Bool} {c : Int} (r : List Int) (h1 : c ∉ plains v) (h2 : ¬ (c = 18 ∧ v = false)) (h3 : c ≠ 114) (h4 : c ≠ 109) (h5 : c ≠ 103) : plainR v (c :: r) = ([], [], 2) := by
  show (if c ∈ plains v then _ else _) = _
  rw [if_neg h1, if_neg h2, if_neg h3, if_neg h4, if_neg (fun h => h5 h.1), if_neg (fun h => h5 h.1)]
/-- Where there is no operator. -/
theorem bodyR_no {v : Bool} {x : Cd} {t : List Int} (ht : t ≠ []) (h : v = false → (operR t).2.2 = 2) : bodyR v x t =
    if (motionR t).2.2 = 1 then ({ x with mot := (motionR t).1, arg := (motionR t).2.1 }, 1)
    else if (plainR v t).2.2 = 1 then ({ x with key := (plainR v t).1, arg := (plainR v t).2.1 }, 1)
    else (x, if (plainR v t).2.2 < (motionR t).2.2 then (plainR v t).2.2 else (motionR t).2.2) := by
  unfold bodyR
  rw [if_neg ht, if_neg (fun k => by have := h k.1; rw [this] at k; exact absurd k.2 (by decide)), if_neg (fun k => by have := h k.1; rw [this] at k; exact absurd k.2 (by decide))]
end Go.Vc
