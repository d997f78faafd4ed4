/-
  Expressions, in plain Lean: what a text is worth; what follows a text changes nothing.
-/
import Derived.Test.YtffhlgejfgmpiaaGreatDoorFltOps
namespace Go.Vc
open Go.RowKit
/-- A number, all NaNs as one. -/
def cls (x : Nat) : Option Nat := if nan x then none else some x
theorem cls_bits {x y : Nat} (h : cls x = cls y) : fbits x = fbits y := by
  unfold cls at h
  unfold fbits
  cases e1 : nan x <;> cases e2 : nan y <;> rw [e1, e2] at h <;> simp at h ⊢
  omega
theorem bits_cls {x y : Nat} (hx : Wd x) (hy : Wd y) (h : fbits x = fbits y) : cls x = cls y := by
  unfold fbits at h
  unfold cls
  have nx := nan_rung (x := x)
  have ny := nan_rung (x := y)
  rcases sgn_pos hx with ⟨s1, r1, b1⟩ | ⟨s1, r1, b1⟩ <;> rcases sgn_pos hy with ⟨s2, r2, b2⟩ | ⟨s2, r2, b2⟩ <;>
    cases e1 : nan x <;> cases e2 : nan y <;> rw [e1, e2] at h <;> rw [e1] at nx <;> rw [e2] at ny <;> simp only [Bool.false_eq_true, if_true, if_false, false_iff, true_iff, Nat.not_lt] at h nx ny ⊢ <;> first | rfl | exact congrArg some (by omega) | (exfalso; omega)
/-- An operation, all NaNs as one. -/
def opC (op : BinOp) (x y : Nat) : Option Nat := match floatBits op .f64 x y with
  | some r => cls r
  | none => none
theorem opC_run {P : Program} (op : BinOp) (hop : arithB op = true) (T : TypeId) (x y : Nat) (w : World) : ∃ r w', (binOp op T (.float .f64 x) (.float .f64 y)).run P w = .ok (.float .f64 r) w' ∧ Ext w w' ∧ Wd r ∧ cls r = opC op x y := by
  obtain ⟨r, w', h1, h2, h3, h4⟩ := flt_run (P := P) op hop T x y w
  refine ⟨r, w', h1, h2, h3, ?_⟩
  unfold opC
  rcases h4 with h | ⟨h, hn⟩ <;> rw [h]
  unfold cls; rw [hn]; rfl
theorem read_nan' {x : Nat} (h : nan x = true) : ∃ s f, Ieee.double.read x = .nan s f := ⟨_, _, read_nan (nan_rung.1 h)⟩
theorem op_nan {op : BinOp} (hop : arithB op = true) {x y : Nat} (h : nan x = true ∨ nan y = true) : floatBits op .f64 x y = none := by
  have hk : ∀ g : Ieee.Datum → Ieee.Datum → Option Ieee.Datum, (∀ d s f, g (.nan s f) d = none) → (∀ d s f, g d (.nan s f) = none) → (g (Ieee.double.read x) (Ieee.double.read y)).map Ieee.double.write = none := fun g g1 g2 => by
    rcases h with h | h
    · obtain ⟨s, f, e⟩ := read_nan' h
      rw [e, g1]; rfl
    · obtain ⟨s, f, e⟩ := read_nan' h
      rw [e, g2]; rfl
  cases op <;> simp only [arithB, Bool.false_eq_true] at hop <;> unfold floatBits FloatKind.format
  · unfold Ieee.Format.add
    exact hk Ieee.Datum.sum (fun d s f => by cases d <;> rfl) fun d s f => by cases d <;> rfl
  · unfold Ieee.Format.sub
    exact hk (fun a b => a.sum b.opposite) (fun d s f => by cases d <;> rfl) fun d s f => by cases d <;> rfl
  · unfold Ieee.Format.mul
    exact hk Ieee.Datum.product (fun d s f => by cases d <;> rfl) fun d s f => by cases d <;> rfl
  · unfold Ieee.Format.div
    exact hk (Ieee.Datum.quotient _) (fun d s f => by cases d <;> rfl) fun d s f => by cases d <;> rfl
def opCC (op : BinOp) (a b : Option Nat) : Option Nat := match a, b with
  | some x, some y => opC op x y
  | _, _ => none
theorem opCC_cls {op : BinOp} (hop : arithB op = true) (x y : Nat) : opCC op (cls x) (cls y) = opC op x y := by
  have hn : nan x = true ∨ nan y = true → opC op x y = none := fun h => by unfold opC; rw [op_nan hop h]
  unfold cls
  cases e1 : nan x
  · cases e2 : nan y
    · rfl
    · rw [hn (.inr e2)]; rfl
  · rw [hn (.inl e1)]; rfl
/-- What orders all numbers. -/
def keyC (a : Option Nat) : Int := match a with
  | some x => fkey x
  | none => 18446744073709551615
theorem keyC_cls (x : Nat) : keyC (cls x) = fkey x := by
  unfold cls
  cases e : nan x
  · rfl
  · unfold fkey; rw [e]; rfl
def minC (a b : Option Nat) : Option Nat := if keyC a < keyC b then a else b
def maxC (a b : Option Nat) : Option Nat := if keyC b < keyC a then a else b
def negC (a : Option Nat) : Option Nat := a.map (Op.negFloat .f64)
def absC (a : Option Nat) : Option Nat := a.map (· % 9223372036854775808)
/-- Blanks are skipped; a word is taken. -/
def skip (l : List Int) : List Int := l.dropWhile (· == 32)
def tk (w l : List Int) : Option (List Int) := if w.isPrefixOf (skip l) then some ((skip l).drop w.length) else none
abbrev Res := Option (Option Nat × Nat × List Int)
def isNum (c : Int) : Bool := c == 46 || (decide (48 ≤ c) && decide (c ≤ 57))
def isDig (c : Int) : Bool := decide (48 ≤ c) && decide (c ≤ 57)
def numV (l : List Int) : Nat := l.foldl (fun n c => n * 10 + (c - 48).toNat) 0
/-- A decimal number: its head, its tail if there is a point. -/
def headD (d : List Int) : List Int := d.takeWhile (· != 46)
def tailD (d : List Int) : List Int := d.drop ((headD d).length + 1)
def pointD (d : List Int) : Bool := decide ((headD d).length < d.length)
def figs (l : List Int) : Bool := l.all isDig && !l.isEmpty
def decOk (d : List Int) : Bool := figs (headD d) && (decide ((headD d).length ≤ 1) || (headD d).headD 0 != 48) && (!pointD d || figs (tailD d)) && decide ((headD d).length + (tailD d).length ≤ 15)
def ten (k : Nat) : Nat := floatOfInt .f64 ((10 ^ k : Nat) : Int)
def decV (M k : Nat) : Option Nat := if M = 0 then some 0 else if k = 0 then cls (floatOfInt .f64 (M : Int)) else opC .quo (floatOfInt .f64 (M : Int)) (ten k)
def decC (d : List Int) : Option (Option Nat) := if decOk d then some (decV (numV (headD d ++ tailD d)) (tailD d).length) else none
def infW : Nat := 9218868437227405312
/-- A bracket's inside, to the bracket that closes; two of them. -/
def closedP (E : List Int → Res) (l : List Int) : Res := match E l with
  | none => none
  | some (c, m, r) => match tk [41] r with
    | none => none
    | some r' => some (c, m, r')
def twoP (E : List Int → Res) (g : Option Nat → Option Nat → Option Nat) (l : List Int) : Res := match E l with
  | none => none
  | some (c1, m1, r) => match tk [44] r with
    | none => none
    | some r1 => match closedP E r1 with
      | none => none
      | some (c2, m2, r2) => some (g c1 c2, max m1 m2, r2)
def up (g : Option Nat → Option Nat) (x : Res) : Res := match x with
  | none => none
  | some (c, m, r) => some (g c, m + 1, r)
def callP (f : List Int → Res) (g : Option Nat → Option Nat) (l : List Int) : Res := match tk [40] l with
  | none => none
  | some r => up g (f r)
def numP (l : List Int) : Res := match decC ((skip l).takeWhile isNum) with
  | none => none
  | some c => some (c, 0, (skip l).drop ((skip l).takeWhile isNum).length)
def factorP (E F : List Int → Res) (l : List Int) : Res := match tk [45] l with
  | some r => up negC (F r)
  | none => match tk [40] l with
    | some r => up id (closedP E r)
    | none => match tk [109, 105, 110] l with
      | some r => callP (twoP E minC) id r
      | none => match tk [109, 97, 120] l with
        | some r => callP (twoP E maxC) id r
        | none => match tk [97, 98, 115] l with
          | some r => callP (closedP E) absC r
          | none => match tk [110, 97, 110] l with
            | some r => some (none, 0, r)
            | none => match tk [105, 110, 102] l with
              | some r => some (some infW, 0, r)
              | none => numP l
def chainP (F : List Int → Res) (a b : Int) (ga gb : Option Nat → Option Nat → Option Nat) : Nat → Option Nat → Nat → List Int → Res
  | 0, _, _, _ => none
  | n + 1, c, m, l => match tk [a] l with
    | some r => match F r with
      | none => none
      | some (c', m', r') => chainP F a b ga gb n (ga c c') (max m m') r'
    | none => match tk [b] l with
      | some r => match F r with
        | none => none
        | some (c', m', r') => chainP F a b ga gb n (gb c c') (max m m') r'
      | none => some (c, m, skip l)
/-- More rounds than a text has bytes. -/
def FU : Nat := 5000
def seqP (F : List Int → Res) (a b : Int) (ga gb : Option Nat → Option Nat → Option Nat) (l : List Int) : Res := match F l with
  | none => none
  | some (c, m, r) => chainP F a b ga gb FU c m r
def termP (F : List Int → Res) : List Int → Res := seqP F 42 47 (opCC .mul) (opCC .quo)
def exprP (F : List Int → Res) : List Int → Res := seqP (termP F) 43 45 (opCC .add) (opCC .sub)
def factN : Nat → List Int → Res
  | 0 => fun _ => none
  | n + 1 => factorP (exprP (factN n)) (factN n)
def exprN (n : Nat) : List Int → Res := exprP (factN n)
/-- What a text is worth: a number, or what is wrong. -/
def evalN (n : Nat) (l : List Int) : Option (Option Nat × Nat) := match exprN n l with
  | none => none
  | some (c, m, r) => if skip r = [] then some (c, m) else none
end Go.Vc
