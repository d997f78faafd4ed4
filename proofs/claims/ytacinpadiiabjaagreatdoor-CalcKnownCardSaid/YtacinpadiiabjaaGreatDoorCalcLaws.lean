/-
  Expressions: the statements' first look; depth; blanks; numbers.
-/
import Derived.Test.YtacinpadiiabjaaGreatDoorCalcEval
namespace Go.Vc
open Go.RowKit
theorem cls_some {f x : Nat} (h : cls f = some x) : f = x ∧ nan f = false := by
  unfold cls at h
  cases e : nan f <;> rw [e] at h <;> simp at h
  exact ⟨h, rfl⟩
theorem order_same {f : Nat} (h : nan f = false) : (FloatKind.f64.format.order f f == some Ordering.eq) = true := by
  rw [order_eq, h, decide_eq_true rfl]; rfl
theorem evalM_some {l : List Int} {c : Option Nat} {m : Nat} (hl : l.length ≤ 4096) (h : evalN FU l = some (c, m)) : evalM l = if 32 < m then (some 0, 3) else (c, 0) := by
  unfold evalM; rw [if_neg (by omega), h]
theorem evalM_none {l : List Int} (hl : l.length ≤ 4096) (h : evalN FU l = none) : evalM l = (some 0, 11) := by
  unfold evalM; rw [if_neg (by omega), h]
theorem evalM_ok {l : List Int} (h : (evalM l).2 = 0) : ∃ m, l.length ≤ 4096 ∧ evalN FU l = some ((evalM l).1, m) ∧ m ≤ 32 := by
  unfold evalM at h ⊢
  split at h
  · simp at h
  · rename_i hl
    rw [if_neg hl]
    split at h
    · simp at h
    · rename_i c m hn
      split at h
      · simp at h
      · rename_i hm
        refine ⟨m, by omega, ?_, by omega⟩
        rw [hn]
        show some (c, m) = some ((if 32 < m then (some 0, 3) else (c, 0) : Option Nat × Int).1, m)
        rw [if_neg hm]
end Go.Vc
namespace Go.Proofs.YtacinpadiiabjaaGreatDoor
open Go.RowKit Go.Vc
variable {w : World} {R : Ending → World → Prop}
theorem awake_does (hT : Laid w) : Does Tryz.prog 9 #[] w fun e w' => e = .returned (.bool true) ∧ Ext w w' := by
  have ev : evalM (L ({ data := #[49, 32, 43, 32, 50, 32, 42, 32, 51] } : ByteArray)) = (some 4619567317775286272, 0) := by decide +kernel
  refine f9_does ((eval_does hT _).imp ?_)
  rw [ev]
  rintro e w4 ⟨f, rfl, hf, hc, x⟩
  obtain ⟨rfl, hn⟩ := cls_some hc
  refine ⟨_, _, rfl, tru rfl ⟨?_, x⟩⟩
  rw [order_same hn]
/-- Depth. -/
theorem deep_law (hT : Laid w) {a k : Int} (ha : InK .u8 a) (hk : InK .u8 k) : Does Tryz.prog 6 #[.int .u8 a, .int .u8 k] w (Holds w) := by
  refine f6_does _ _ ((awake_does hT).imp ?_)
  rintro e w11 ⟨rfl, x11⟩
  have ha0 : 0 ≤ a ∧ a ≤ 255 := ha
  have hk0 : 0 ≤ k ∧ k ≤ 255 := hk
  obtain ⟨n, hn, hn40⟩ : ∃ n : Nat, a.tmod 40 = n ∧ n < 40 := ⟨(a.tmod 40).toNat, by
    have := Int.tmod_nonneg 40 ha0.1; omega, by
    have := Int.tmod_lt_of_pos a (show (0 : Int) < 40 by decide); omega⟩
  refine ⟨_, rfl, fls rfl ⟨inI64 (by omega) (by omega), by decide, ?_⟩⟩
  rw [hn]
  refine ⟨fun s f x m wl => ∃ j : Nat, x = j ∧ m = n - j ∧ j ≤ n ∧ (L s).length ≤ 1 + 5 * j ∧ nan f = false ∧ (¬ k.tmod 3 = 1 → f = 4619567317775286272) ∧ (∀ i, j < i → factN i (L s) = some (some f, j, [])) ∧ wl = w11,
    ⟨_, 0, rfl, rfl, Nat.zero_le _, by decide, by decide, fun _ => rfl, fun i hi => ?_, rfl⟩, ?_⟩
  · obtain ⟨i, rfl⟩ : ∃ t, i = t + 1 := ⟨i - 1, by omega⟩
    have hd : decOk (L ({ data := #[55] } : ByteArray)) = true := by decide
    rw [dec_fact hd]
    have : decV (numV (headD (L ({ data := #[55] } : ByteArray)) ++ tailD (L ({ data := #[55] } : ByteArray)))) (tailD (L ({ data := #[55] } : ByteArray))).length = some 4619567317775286272 := by decide +kernel
    rw [this]
  rintro s f _ _ wl ⟨j, rfl, rfl, hj, hlen, hnan, hff, hfa, rfl⟩
  have hsl := L_len s
  refine brr (fun q => ?_) fun q => ?_
  · have q := of_decide_eq_true q
    have m40 : L ({ data := #[40] } : ByteArray) = [40] := by decide
    have m41 : L ({ data := #[41] } : ByteArray) = [41] := by decide
    have m45 : L ({ data := #[45] } : ByteArray) = [45] := by decide
    have mab : L ({ data := #[97, 98, 115, 40] } : ByteArray) = [97, 98, 115, 40] := by decide
    have z40 : ({ data := #[40] } : ByteArray).size = 1 := rfl
    have z41 : ({ data := #[41] } : ByteArray).size = 1 := rfl
    have z45 : ({ data := #[45] } : ByteArray).size = 1 := rfl
    have zab : ({ data := #[97, 98, 115, 40] } : ByteArray).size = 4 := rfl
    have szz : ∀ a b : ByteArray, (a ++ b).size = a.size + b.size := fun a b => by rw [← L_len, L_append, List.length_append, L_len, L_len]
    refine ⟨by decide, brr (fun q2 => ?_) fun q2 => brr (fun q3 => ?_) fun q3 => ?_⟩
    · have q2 : k.tmod 3 = 0 := by simpa using q2
      refine ⟨by rw [z40]; omega, by rw [szz, z40, z41]; omega, inI64 (by omega) (by omega), n - (j + 1), by omega, j + 1, by omega, rfl, by omega, ?_, hnan, hff, fun i hi => ?_, rfl⟩
      · rw [L_append, L_append, m40, m41]; simp; omega
      · obtain ⟨i, rfl⟩ : ∃ t, i = t + 1 := ⟨i - 1, by omega⟩
        rw [L_append, L_append, m40, m41]
        exact paren_fact (expr_one (hfa i (by omega)) (.inl rfl)) rfl []
    · refine ⟨by rw [z45]; omega, inI64 (by omega) (by omega), n - (j + 1), by omega, j + 1, by omega, rfl, by omega, ?_, ?_, fun h => absurd (by simpa using q3) h, fun i hi => ?_, rfl⟩
      · rw [L_append, m45]; simp; omega
      · unfold nan rung at hnan ⊢
        have e : Op.negFloat .f64 f = f ^^^ 2 ^ 63 := by
          unfold Op.negFloat
          simp [FloatKind.format, Ieee.Format.signWeight, Ieee.double]
        have h1 : (f ^^^ 2 ^ 63) % 2 ^ 63 = f % 2 ^ 63 := by rw [Nat.xor_mod_two_pow, Nat.mod_self, Nat.xor_zero]
        rw [e, show (9223372036854775808 : Nat) = 2 ^ 63 by decide, h1]
        exact hnan
      · obtain ⟨i, rfl⟩ : ∃ t, i = t + 1 := ⟨i - 1, by omega⟩
        rw [L_append, m45]
        show factN (i + 1) (45 :: L s) = _
        rw [minus_fact (hfa i (by omega))]; rfl
    · have q3 : ¬ k.tmod 3 = 1 := by simpa using q3
      have hf7 := hff q3
      refine ⟨by rw [zab]; omega, by rw [szz, zab, z41]; omega, inI64 (by omega) (by omega), n - (j + 1), by omega, j + 1, by omega, rfl, by omega, ?_, hnan, hff, fun i hi => ?_, rfl⟩
      · rw [L_append, L_append, mab, m41]; simp; omega
      · obtain ⟨i, rfl⟩ : ∃ t, i = t + 1 := ⟨i - 1, by omega⟩
        rw [L_append, L_append, mab, m41]
        have := abs_fact (expr_one (hfa i (by omega)) (.inl rfl)) rfl []
        rw [hf7] at this ⊢
        exact this
  · have q := of_decide_eq_false q
    have hjn : j = n := by omega
    subst hjn
    have hev := evalM_some (l := L s) (by omega) (fact_eval (hfa FU (by show _ < 5000; omega)))
    refine (eval_does (hT.ext x11) s).imp ?_
    rw [hev]
    rintro e w39 ⟨g, rfl, hg, hc, x39⟩
    refine ⟨_, _, rfl, brr (fun q => ?_) fun q => ?_⟩
    · have q := of_decide_eq_true q
      rw [if_pos (by omega)]
      exact ⟨rfl, Ext.then x11 x39⟩
    · have q := of_decide_eq_false q
      rw [if_neg (by omega)] at hc ⊢
      obtain ⟨rfl, hn⟩ := cls_some hc
      refine tru rfl ⟨?_, Ext.then x11 x39⟩
      rw [order_same hn]
/-- Blanks, and a pair of brackets. -/
theorem blanks_law (hT : Laid w) (s : ByteArray) {k : Int} (hk : InK .u8 k) : Does Tryz.prog 8 #[.string s, .int .u8 k] w (Holds w) := by
  refine f8_does _ _ ((awake_does hT).imp ?_)
  rintro e w13 ⟨rfl, x13⟩
  have hk0 : 0 ≤ k ∧ k ≤ 255 := hk
  obtain ⟨n, hn, hn4⟩ : ∃ n : Nat, k.tmod 4 = n ∧ n < 4 := ⟨(k.tmod 4).toNat, by
    have := Int.tmod_nonneg 4 hk0.1; omega, by
    have := Int.tmod_lt_of_pos k (show (0 : Int) < 4 by decide); omega⟩
  refine ⟨_, rfl, fls rfl (brr (fun _ => ⟨rfl, x13⟩) fun q => (eval_does (hT.ext x13) s).imp ?_)⟩
  have q := of_decide_eq_false q
  have hsl := L_len s
  rintro e w20 ⟨f20, rfl, hf20, hc20, x20⟩
  have x20 := Ext.then x13 x20
  rw [hn]
  refine ⟨_, _, rfl, fun t x m wl => ∃ j : Nat, x = j ∧ m = n - j ∧ j ≤ n ∧ (L t).length = (L s).length + 3 * j ∧ evalN FU (L t) = evalN FU (L s) ∧ wl = w20, ⟨_, 0, rfl, rfl, Nat.zero_le _, rfl, rfl, rfl⟩, ?_⟩
  rintro t _ _ wl ⟨j, rfl, rfl, hj, hlen, hev, rfl⟩
  have htl := L_len t
  have m32 : L ({ data := #[32] } : ByteArray) = [32] := by decide
  have m33 : L ({ data := #[32, 32] } : ByteArray) = [32, 32] := by decide
  have m40 : L ({ data := #[40] } : ByteArray) = [40] := by decide
  have m41 : L ({ data := #[41] } : ByteArray) = [41] := by decide
  have z32 : ({ data := #[32] } : ByteArray).size = 1 := rfl
  have z33 : ({ data := #[32, 32] } : ByteArray).size = 2 := rfl
  have z40 : ({ data := #[40] } : ByteArray).size = 1 := rfl
  have z41 : ({ data := #[41] } : ByteArray).size = 1 := rfl
  have szz : ∀ a b : ByteArray, (a ++ b).size = a.size + b.size := fun a b => by rw [← L_len, L_append, List.length_append, L_len, L_len]
  refine ⟨inI64 (by omega) (by omega), by decide, brr (fun q2 => ?_) fun q2 => ?_⟩
  · have q2 := of_decide_eq_true q2
    refine ⟨by rw [z32]; omega, by rw [szz, z32, z33]; omega, inI64 (by omega) (by omega), n - (j + 1), by omega, j + 1, by omega, rfl, by omega, ?_, ?_, rfl⟩
    · rw [L_append, L_append, m32, m33]; simp; omega
    · rw [L_append, L_append, m32, m33, eval_behind _ _ [32, 32] (by simp)]
      exact (eval_front _ _).trans hev
  · have q2 := of_decide_eq_false q2
    have hM : evalM (L t) = evalM (L s) := by
      unfold evalM
      rw [if_neg (by omega), if_neg (by omega), hev]
    refine (eval_does (hT.ext x20) t).imp ?_
    rw [hM]
    rintro e w36 ⟨f36, rfl, hf36, hc36, x36⟩
    have x36 := Ext.then x20 x36
    refine ⟨_, _, rfl, by rw [z40]; omega, by rw [szz, z40, z41]; omega, (eval_does (hT.ext x36) _).imp ?_⟩
    rintro e w43 ⟨f43, rfl, hf43, hc43, x43⟩
    have x43 := Ext.then x36 x43
    rw [L_append, L_append, m40, m41] at hc43 ⊢
    refine ⟨_, _, rfl, fls (by simp) (bits_does _ ⟨_, rfl, bits_does _ ⟨_, rfl, fls (by rw [cls_bits (hc20.trans hc36.symm)]; simp) (brr (fun _ => ⟨rfl, x43⟩) fun q3 => ?_)⟩⟩)⟩
    have q3 : (evalM (L s)).2 = 0 := by simpa using q3
    obtain ⟨m, hl, hes, hm⟩ := evalM_ok q3
    have hp := eval_paren (hev.trans hes) (by omega)
    have hpm := evalM_some (l := 40 :: (L t ++ [41])) (by simp; omega) hp
    have e0 : [40] ++ L t ++ [41] = 40 :: (L t ++ [41]) := rfl
    rw [e0, hpm] at hc43
    rw [e0, hpm]
    by_cases h32 : 32 < m + 1
    · rw [if_pos h32]
      exact tru rfl ⟨rfl, x43⟩
    · rw [if_neg h32] at hc43 ⊢
      refine fls rfl (tru rfl (bits_does _ ⟨_, rfl, bits_does _ ⟨_, rfl, ?_, x43⟩⟩))
      rw [cls_bits (hc43.trans hc20.symm)]; simp
/-- A number is one as an expression. -/
theorem numbers_law (hT : Laid w) (s : ByteArray) : Does Tryz.prog 4 #[.string s] w (Holds w) := by
  refine f4_does _ ((awake_does hT).imp ?_)
  rintro e w9 ⟨rfl, x9⟩
  have hsl := L_len s
  refine ⟨_, rfl, fls rfl (brr (fun _ => ⟨rfl, x9⟩) fun q => ?_)⟩
  have q := of_decide_eq_false q
  have hH : ∀ {w'}, Ext w w' → Holds w (.returned (.bool true)) w' := fun x => ⟨rfl, x⟩
  have main : (∀ r, L s ≠ 45 :: r) → (∀ a r, L s ≠ a :: 120 :: r) → Does Tryz.prog 13 #[.string s] w9 fun e36 w36 =>
      ∃ f36 : Nat, ∃ b36 : Bool, e36 = .returned (.tuple #[.float .f64 f36, .bool b36]) ∧ Does Tryz.prog 10 #[.string s] w36 fun e41 w41 =>
      ∃ f41 : Nat, ∃ n41 : Int, e41 = .returned (.tuple #[.float .f64 f41, .int .i64 n41]) ∧ (((({ data := #[45] } : ByteArray)).size + s.size : Nat) : Int) ≤ 9223372036854775807 ∧ Does Tryz.prog 10 #[.string ((({ data := #[45] } : ByteArray)) ++ s)] w41 fun e47 w47 =>
      ∃ f47 : Nat, ∃ n47 : Int, e47 = .returned (.tuple #[.float .f64 f47, .int .i64 n47]) ∧ Br (!b36)
      (Holds w (.returned (.bool true)) w47)
      (Br (n41 == 0)
      (Br (n47 == 0)
      (Does Tryz.prog 12 #[.float .f64 f36] w47 fun e60 w60 =>
      ∃ n60 : Int, e60 = .returned (.int .u64 n60) ∧ Does Tryz.prog 12 #[.float .f64 f41] w60 fun e62 w62 =>
      ∃ n62 : Int, e62 = .returned (.int .u64 n62) ∧ Br (n60 == n62)
      (Does Tryz.prog 12 #[.float .f64 f47] w62 fun e67 w67 =>
      ∃ n67 : Int, e67 = .returned (.int .u64 n67) ∧ Does Tryz.prog 12 #[.float .f64 (Op.negFloat .f64 f36)] w67 fun e70 w70 =>
      ∃ n70 : Int, e70 = .returned (.int .u64 n70) ∧ Holds w (.returned (.bool (n67 == n70))) w70)
      (Holds w (.returned (.bool false)) w62))
      (Holds w (.returned (.bool false)) w47))
      (Holds w (.returned (.bool false)) w47)) := fun h1 h2 => by
    refine (read_does s (by omega) h1 h2 (hT.ext x9)).imp ?_
    rintro e w36 ⟨f36, b36, rfl, hf36, x36, hm⟩
    have x36 := Ext.then x9 x36
    refine ⟨_, _, rfl, (eval_does (hT.ext x36) s).imp ?_⟩
    rintro e w41 ⟨f41, rfl, hf41, hc41, x41⟩
    have x41 := Ext.then x36 x41
    have m45 : L ({ data := #[45] } : ByteArray) = [45] := by decide
    refine ⟨_, _, rfl, by rw [show ({ data := #[45] } : ByteArray).size = 1 from rfl]; omega, (eval_does (hT.ext x41) _).imp ?_⟩
    rintro e w47 ⟨f47, rfl, hf47, hc47, x47⟩
    have x47 := Ext.then x41 x47
    rw [L_append, m45] at hc47 ⊢
    refine ⟨_, _, rfl, brr (fun _ => hH x47) fun qb => ?_⟩
    have qb : b36 = true := by simpa using qb
    rw [qb, if_pos rfl] at hm
    have key : evalN FU (L s) = some (cls f36, 0) ∧ evalN FU (45 :: L s) = some (negC (cls f36), 1) := by
      unfold readM at hm
      split at hm
      · rename_i h; rw [h, ← Option.some.inj hm]; exact ⟨by decide +kernel, by decide +kernel⟩
      · split at hm
        · rename_i h; rw [h, ← Option.some.inj hm]; exact ⟨by decide +kernel, by decide +kernel⟩
        · unfold decC at hm
          split at hm
          · rename_i hd
            rw [← Option.some.inj hm]
            exact dec_eval hd
          · cases hm
    have a1 := evalM_some (by omega) key.1
    have a2 := evalM_some (by simp; omega) key.2
    rw [if_neg (by decide)] at a1 a2
    rw [a1] at hc41 ⊢
    have e0 : [45] ++ L s = 45 :: L s := rfl
    rw [e0, a2] at hc47
    rw [e0, a2]
    obtain ⟨n1, n2⟩ := neg_wd hf36
    refine tru rfl (tru rfl (bits_does _ ⟨_, rfl, bits_does _ ⟨_, rfl, tru (by rw [cls_bits hc41]; simp) (bits_does _ ⟨_, rfl, bits_does _ ⟨_, rfl, ?_, x47⟩⟩)⟩⟩))
    rw [cls_bits (hc47.trans (cls_neg n2).symm)]; simp
  have nc : ∀ {i : Nat} {x : Int}, i < s.size → (sb s (i : Int) == x) = false → (L s)[i]? ≠ some x := fun {i x} hi hx h => by
    have hil : i < (L s).length := by omega
    rw [List.getElem?_eq_getElem hil, ← L_sb hil] at h
    rw [Option.some.inj h] at hx
    simp at hx
  have p0 : (sb s 0 == 45) = false → ∀ r, L s ≠ 45 :: r := fun h r e => by
    have hs : 0 < s.size := by rw [← hsl, e]; simp
    exact nc (i := 0) hs h (by rw [e]; rfl)
  have p1 : (sb s 1 == 120) = false → ∀ a r, L s ≠ a :: 120 :: r := fun h a r e => by
    have hs : 1 < s.size := by rw [← hsl, e]; simp
    exact nc (i := 1) hs h (by rw [e]; rfl)
  have q0 : ¬ 0 < s.size → ∀ r, L s ≠ 45 :: r := fun h r e => by rw [e] at hsl; simp at hsl; omega
  have q1 : ¬ 1 < s.size → ∀ a r, L s ≠ a :: 120 :: r := fun h a r e => by rw [e] at hsl; simp at hsl; omega
  refine brr (fun k => ⟨⟨by omega, by have := of_decide_eq_true k; omega⟩, brr (fun _ => hH x9) fun k2 => brr (fun k3 => ⟨⟨by omega, by have := of_decide_eq_true k3; omega⟩, brr (fun _ => hH x9) fun k4 => main (p0 k2) (p1 k4)⟩) fun k3 => main (p0 k2) (q1 (by have := of_decide_eq_false k3; omega))⟩) fun k => brr (fun k3 => ⟨⟨by omega, by have := of_decide_eq_true k3; omega⟩, brr (fun _ => hH x9) fun k4 => main (q0 (by have := of_decide_eq_false k; omega)) (p1 k4)⟩) fun k3 => main (q0 (by have := of_decide_eq_false k; omega)) (q1 (by have := of_decide_eq_false k3; omega))
end Go.Proofs.YtacinpadiiabjaaGreatDoor
