/-
  Expressions, in plain Lean: what the document's reader needs to know: names without a bracket; depth; a quotient by one.
-/
import Derived.Test.YtffhlgejfgmpiaaGreatDoorCalcEv
import Derived.Test.YtffhlgejfgmpiaaGreatDoorFltRnd2
namespace Go.Vc
open Go.RowKit
def tk2 (p l : List Int) : Option (List Int) := match tk p l with
  | none => none
  | some r => tk [40] r
def tailR (l : List Int) : Res := match tk [110, 97, 110] l with
  | some r => some (none, 0, r)
  | none => match tk [105, 110, 102] l with
    | some r => some (some infW, 0, r)
    | none => numP l
def absR (E : List Int → Res) (l : List Int) : Res := match tk2 [97, 98, 115] l with
  | some r => up absC (closedP E r)
  | none => tailR l
def maxR (E : List Int → Res) (l : List Int) : Res := match tk2 [109, 97, 120] l with
  | some r => up id (twoP E maxC r)
  | none => absR E l
def minR (E : List Int → Res) (l : List Int) : Res := match tk2 [109, 105, 110] l with
  | some r => up id (twoP E minC r)
  | none => maxR E l
def factorR (E F : List Int → Res) (l : List Int) : Res := match tk [45] l with
  | some r => up negC (F r)
  | none => match tk [40] l with
    | some r => up id (closedP E r)
    | none => minR E l
theorem tk_head {p l r : List Int} (h : tk p l = some r) : skip l = p ++ r := by
  unfold tk at h
  split at h
  · rename_i hp
    obtain ⟨t, ht⟩ := List.isPrefixOf_iff_prefix.1 hp
    injection h with h
    rw [← ht, List.drop_left] at h
    rw [← ht, h]
  · cases h
theorem tk_other {x y : Int} {v l q : List Int} (h : skip l = y :: q) (hxy : x ≠ y) : tk (x :: v) l = none := by
  unfold tk
  rw [h]
  simp [List.isPrefixOf, hxy]
theorem num_other {y : Int} {l q : List Int} (h : skip l = y :: q) (hy : isNum y = false) : numP l = none := by
  unfold numP
  rw [h, List.takeWhile_cons, hy]
  rfl
theorem tailR_none {y : Int} {l q : List Int} (h : skip l = y :: q) (h1 : y ≠ 110) (h2 : y ≠ 105) (h3 : isNum y = false) : tailR l = none := by
  unfold tailR
  rw [tk_other h (Ne.symm h1), tk_other h (Ne.symm h2)]
  exact num_other h h3
theorem factorR_eq (E F : List Int → Res) (l : List Int) : factorR E F l = factorP E F l := by
  unfold factorR factorP
  cases h1 : tk [45] l with
  | some r => rfl
  | none =>
    simp only
    cases h2 : tk [40] l with
    | some r => rfl
    | none =>
      simp only
      unfold minR tk2
      cases h3 : tk [109, 105, 110] l with
      | some r =>
        simp only
        have hs := tk_head h3
        unfold callP
        cases h4 : tk [40] r with
        | some r2 => rfl
        | none =>
          simp only
          have m : tk [109, 97, 120] l = none := by unfold tk; rw [hs]; simp [List.isPrefixOf]
          have a : tk [97, 98, 115] l = none := tk_other hs (by decide)
          unfold maxR tk2
          rw [m]
          simp only
          unfold absR tk2
          rw [a]
          exact tailR_none hs (by decide) (by decide) (by decide)
      | none =>
        simp only
        unfold maxR tk2
        cases h4 : tk [109, 97, 120] l with
        | some r =>
          simp only
          have hs := tk_head h4
          unfold callP
          cases h5 : tk [40] r with
          | some r2 => rfl
          | none =>
            simp only
            have a : tk [97, 98, 115] l = none := tk_other hs (by decide)
            unfold absR tk2
            rw [a]
            exact tailR_none hs (by decide) (by decide) (by decide)
        | none =>
          simp only
          unfold absR tk2
          cases h5 : tk [97, 98, 115] l with
          | some r =>
            simp only
            have hs := tk_head h5
            unfold callP
            cases h6 : tk [40] r with
            | some r2 => rfl
            | none =>
              simp only
              exact tailR_none hs (by decide) (by decide) (by decide)
          | none => rfl
theorem chainP_max {F : List Int → Res} {a b : Int} {ga gb : Option Nat → Option Nat → Option Nat} : ∀ {n : Nat} {c : Option Nat} {m : Nat} {l : List Int} {c' : Option Nat} {m' : Nat} {r : List Int}, chainP F a b ga gb n c m l = some (c', m', r) → m ≤ m'
  | 0, _, _, _, _, _, _, h => by cases h
  | n + 1, c, m, l, c', m', r, h => by
    unfold chainP at h
    cases h1 : tk [a] l with
    | some r1 =>
      rw [h1] at h
      simp only at h
      cases h2 : F r1 with
      | none => rw [h2] at h; cases h
      | some x =>
        obtain ⟨c2, m2, r2⟩ := x
        rw [h2] at h
        have := chainP_max h
        omega
    | none =>
      rw [h1] at h
      simp only at h
      cases h3 : tk [b] l with
      | some r1 =>
        rw [h3] at h
        simp only at h
        cases h2 : F r1 with
        | none => rw [h2] at h; cases h
        | some x =>
          obtain ⟨c2, m2, r2⟩ := x
          rw [h2] at h
          have := chainP_max h
          omega
      | none =>
        rw [h3] at h
        simp only [Option.some.injEq, Prod.mk.injEq] at h
        omega
def Deep (N : Nat) (F : List Int → Res) : Prop := ∀ l c m r, F l = some (c, m, r) → m ≤ N
theorem chainP_deep {N : Nat} {F : List Int → Res} (hF : Deep N F) {a b : Int} {ga gb : Option Nat → Option Nat → Option Nat} : ∀ {n : Nat} {c : Option Nat} {m : Nat} {l : List Int} {c' : Option Nat} {m' : Nat} {r : List Int}, m ≤ N → chainP F a b ga gb n c m l = some (c', m', r) → m' ≤ N
  | 0, _, _, _, _, _, _, _, h => by cases h
  | n + 1, c, m, l, c', m', r, hm, h => by
    unfold chainP at h
    cases h1 : tk [a] l with
    | some r1 =>
      rw [h1] at h
      simp only at h
      cases h2 : F r1 with
      | none => rw [h2] at h; cases h
      | some x =>
        obtain ⟨c2, m2, r2⟩ := x
        rw [h2] at h
        have := hF _ _ _ _ h2
        exact chainP_deep hF (by omega) h
    | none =>
      rw [h1] at h
      simp only at h
      cases h3 : tk [b] l with
      | some r1 =>
        rw [h3] at h
        simp only at h
        cases h2 : F r1 with
        | none => rw [h2] at h; cases h
        | some x =>
          obtain ⟨c2, m2, r2⟩ := x
          rw [h2] at h
          have := hF _ _ _ _ h2
          exact chainP_deep hF (by omega) h
      | none =>
        rw [h3] at h
        simp only [Option.some.injEq, Prod.mk.injEq] at h
        omega
theorem seqP_deep {N : Nat} {F : List Int → Res} (hF : Deep N F) {a b : Int} {ga gb : Option Nat → Option Nat → Option Nat} : Deep N (seqP F a b ga gb) := fun l c m r h => by
  unfold seqP at h
  cases h2 : F l with
  | none => rw [h2] at h; cases h
  | some x =>
    obtain ⟨c2, m2, r2⟩ := x
    rw [h2] at h
    exact chainP_deep hF (hF _ _ _ _ h2) h
theorem exprP_deep {N : Nat} {F : List Int → Res} (hF : Deep N F) : Deep N (exprP F) := seqP_deep (seqP_deep hF)
theorem closedP_deep {N : Nat} {E : List Int → Res} (hE : Deep N E) : Deep N (closedP E) := fun l c m r h => by
  unfold closedP at h
  cases h1 : E l with
  | none => rw [h1] at h; cases h
  | some x =>
    obtain ⟨c1, m1, r1⟩ := x
    rw [h1] at h
    simp only at h
    cases h2 : tk [41] r1 with
    | none => rw [h2] at h; cases h
    | some r2 =>
      rw [h2] at h
      simp only [Option.some.injEq, Prod.mk.injEq] at h
      have := hE _ _ _ _ h1
      omega
theorem twoP_deep {N : Nat} {E : List Int → Res} (hE : Deep N E) (g : Option Nat → Option Nat → Option Nat) : Deep N (twoP E g) := fun l c m r h => by
  unfold twoP at h
  cases h1 : E l with
  | none => rw [h1] at h; cases h
  | some x =>
    obtain ⟨c1, m1, r1⟩ := x
    rw [h1] at h
    simp only at h
    cases h2 : tk [44] r1 with
    | none => rw [h2] at h; cases h
    | some r2 =>
      rw [h2] at h
      simp only at h
      cases h3 : closedP E r2 with
      | none => rw [h3] at h; cases h
      | some x =>
        obtain ⟨c3, m3, r3⟩ := x
        rw [h3] at h
        simp only [Option.some.injEq, Prod.mk.injEq] at h
        have := hE _ _ _ _ h1
        have := closedP_deep hE _ _ _ _ h3
        omega
theorem up_deep {N : Nat} {g : Option Nat → Option Nat} {x : Res} (hx : ∀ c m r, x = some (c, m, r) → m ≤ N) {c : Option Nat} {m : Nat} {r : List Int} (h : up g x = some (c, m, r)) : m ≤ N + 1 := by
  obtain ⟨c', m', h1, _, rfl⟩ := up_some h
  have := hx _ _ _ h1
  omega
theorem factN_deep : ∀ n, Deep n (factN n)
  | 0 => fun _ _ _ _ h => by cases h
  | n + 1 => fun l c m r h => by
    have hF := factN_deep n
    have hE : Deep n (exprN n) := exprP_deep hF
    rw [fact_succ, ← factorR_eq] at h
    unfold factorR at h
    split at h
    · exact up_deep (fun c m r h => hF _ _ _ _ h) h
    · split at h
      · exact up_deep (fun c m r h => closedP_deep hE _ _ _ _ h) h
      · unfold minR at h
        split at h
        · exact up_deep (fun c m r h => twoP_deep hE _ _ _ _ _ h) h
        · unfold maxR at h
          split at h
          · exact up_deep (fun c m r h => twoP_deep hE _ _ _ _ _ h) h
          · unfold absR at h
            split at h
            · exact up_deep (fun c m r h => closedP_deep hE _ _ _ _ h) h
            · unfold tailR at h
              split at h
              · simp only [Option.some.injEq, Prod.mk.injEq] at h; omega
              · split at h
                · simp only [Option.some.injEq, Prod.mk.injEq] at h; omega
                · unfold numP at h
                  split at h
                  · cases h
                  · simp only [Option.some.injEq, Prod.mk.injEq] at h; omega
theorem exprN_deep (n : Nat) : Deep n (exprN n) := exprP_deep (factN_deep n)
theorem div_eq' (x y : Nat) : floatBits .quo .f64 x y = ((Ieee.double.read x).quotient (52 + 2) (Ieee.double.read y)).map Ieee.double.write := by
  unfold floatBits FloatKind.format Ieee.Format.div
  rfl
theorem quot_num (s t : Bool) (m n : Nat) (i j : Int) (hn : n ≠ 0) (g : Nat) : (Ieee.Datum.number s m i).quotient g (.number t n j) = some (.number (s ^^ t) (2 * ((m <<< (g + n.log2 - m.log2)) / n) + (((m <<< (g + n.log2 - m.log2)) % n != 0)).toNat) (i - j - (g + n.log2 - m.log2 : Nat) - 1)) := by
  unfold Ieee.Datum.quotient
  simp only [if_neg hn]
theorem write_num (s : Bool) (m : Nat) (i : Int) : Ieee.double.write (.number s m i) = Ieee.double.nearest s m i := by
  unfold Ieee.Format.write; rfl
/-- A quotient by one. -/
theorem quo_one {B : Nat} (hB : B = 1074) {x : Nat} (h1 : 4607182418800017408 ≤ x) (h2 : x < 9218868437227405312) : floatBits .quo .f64 x 4607182418800017408 = some x := by
  rw [div_eq', read_pos hB h2, read_pos hB (t := 4607182418800017408) (by decide)]
  have hm1 : mg 4607182418800017408 = 4503599627370496 := by decide
  have he1 : ex 4607182418800017408 = 1022 := by decide
  have hmx : 4503599627370496 ≤ mg x ∧ mg x < 9007199254740992 := by
    unfold mg
    have := Nat.mod_lt x (show 0 < 4503599627370496 by decide)
    split <;> omega
  have hl1 : (4503599627370496 : Nat).log2 = 52 := by decide
  have hlx : (mg x).log2 = 52 := log_eq (by simpa using hmx.1) (by simpa using hmx.2)
  rw [hm1, he1, quot_num _ _ _ _ _ _ (by decide), hl1, hlx, Nat.shiftLeft_eq]
  have e1 : mg x * 2 ^ (52 + 2 + 52 - 52) / 4503599627370496 = mg x * 4 := by
    rw [show (52 + 2 + 52 - 52 : Nat) = 52 + 2 by decide, Nat.pow_add, show (2 ^ 52 : Nat) = 4503599627370496 by decide]
    omega
  have e2 : mg x * 2 ^ (52 + 2 + 52 - 52) % 4503599627370496 = 0 := by
    rw [show (52 + 2 + 52 - 52 : Nat) = 52 + 2 by decide, Nat.pow_add, show (2 ^ 52 : Nat) = 4503599627370496 by decide]
    omega
  rw [e1, e2]
  have e3 : (2 * (mg x * 4) + ((0 : Nat) != 0).toNat) = mg x * 2 ^ 3 := by
    have : ((0 : Nat) != 0).toNat = 0 := rfl
    rw [this]; omega
  rw [e3]
  show some (Ieee.double.write _) = _
  rw [write_num, near_eq hB _ _ _ (by omega)]
  have e4 : ((-(B : Int) + (ex x : Int)) - (-(B : Int) + ((1022 : Nat) : Int)) - ((52 + 2 + 52 - 52 : Nat) : Int) - 1 + 2 * (B : Int)).toNat = ex x + 1071 := by omega
  rw [e4, Nat.mul_assoc, ← Nat.pow_add, show 3 + (ex x + 1071) = ex x + B by omega, Nat.pow_add, ← Nat.mul_assoc]
  have e5 : mg x * 2 ^ ex x * 2 ^ B = MM x * 2 ^ B := rfl
  rw [e5, RR_MM, Nat.min_eq_left (by omega), Bool.false_xor, word_false]
end Go.Vc
