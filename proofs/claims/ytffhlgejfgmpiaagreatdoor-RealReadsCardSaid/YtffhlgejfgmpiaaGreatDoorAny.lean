/-
  Numbers read: base 16, whatever the digits: it ends.
-/
import Derived.Test.YtffhlgejfgmpiaaGreatDoorHex
import Derived.Lib.BufferWrite
import Derived.Lib.UnsafeStr
import Derived.Test.YtffhlgejfgmpiaaGreatDoorPow
import Derived.Test.YtffhlgejfgmpiaaGreatDoorLaidOpen3
import Derived.SizedLaws
namespace Go.Vc
open Go.RowKit
theorem u64_in (z : Int) : InK .u64 (IntKind.wrap .u64 z) := by
  have e : IntKind.wrap .u64 z = z % 18446744073709551616 := rfl
  rw [e]
  exact ⟨by show (0 : Int) ≤ _; omega, by show _ ≤ (18446744073709551615 : Int); omega⟩
theorem i64_in (z : Int) : InK .i64 (IntKind.wrap .i64 z) := by
  have e : IntKind.wrap .i64 z = if (true && decide (z % 18446744073709551616 ≥ 9223372036854775808)) = true then z % 18446744073709551616 - 18446744073709551616 else z % 18446744073709551616 := rfl
  rw [e]
  split
  · rename_i h
    simp at h
    exact inI64 (by omega) (by omega)
  · rename_i h
    simp at h
    exact inI64 (by omega) (by omega)
theorem bor_in (a b : Int) : InK .u64 (bits .or .u64 a b) := by
  show InK .u64 (IntKind.u64.wrap (((BitVec.ofInt 64 a) ||| (BitVec.ofInt 64 b)).toNat : Int))
  exact u64_in _
/-- A shift that keeps what it loses. -/
theorem shift_keep {X n : Nat} (hn : n ≤ 64) (hX : X < 2 ^ n) (h2 : 2 ≤ X) : ∃ Y : Nat, bits .or .u64 ((X : Int).fdiv (2 ^ 1)) (bits .and .u64 (X : Int) 1) = (Y : Int) ∧ Y < 2 ^ (n - 1) ∧ 2 ≤ n := by
  have hn2 : 2 ≤ n := by
    rcases Nat.lt_or_ge n 2 with h | h
    · have : 2 ^ n ≤ 2 ^ 1 := Nat.pow_le_pow_right (by decide) (by omega)
      omega
    · exact h
  have h64 : X < 18446744073709551616 := by
    have : 2 ^ n ≤ 2 ^ 64 := Nat.pow_le_pow_right (by decide) hn
    rw [show (2 : Nat) ^ 64 = 18446744073709551616 by decide] at this
    omega
  have hp : 2 ^ n = 2 ^ (n - 1) * 2 := by rw [← Nat.pow_succ, show (n - 1).succ = n by omega]
  have hp1 : 2 ^ 1 ≤ 2 ^ (n - 1) := Nat.pow_le_pow_right (by decide) (by omega)
  have f1 : (X : Int).fdiv (2 ^ 1) = ((X / 2 : Nat) : Int) := by
    show (X : Int).fdiv ((2 : Nat) : Int) = _
    rw [fd]
  have f2 : bits .and .u64 (X : Int) ((1 : Nat) : Int) = ((X % 2 : Nat) : Int) := by
    rw [band h64 (by decide), Nat.and_one_is_mod]
  have f2 : bits .and .u64 (X : Int) 1 = ((X % 2 : Nat) : Int) := f2
  refine ⟨X / 2 ||| X % 2, by rw [f1, f2, bor (by omega) (by omega)], Nat.or_lt_two_pow (by omega) (by omega), hn2⟩
end Go.Vc
namespace Go.Proofs.YtffhlgejfgmpiaaGreatDoor
open Go.RowKit Go.Vc
variable {w : World} {R : Ending → World → Prop}
theorem atofhex_any (hT : Laid w) (hT3 : Laid3 w) {s : ByteArray} {M E : Int} (hM : InK .u64 M) (neg trunc : Bool) :
    Does Tryz.prog 113 #[.string s, .pointer (some ⟨7, 0, none⟩), .int .u64 M, .int .i64 E, .bool neg, .bool trunc] w fun e w' => ∃ f v, e = .returned (.tuple #[.float .f64 f, v]) ∧ Wd f ∧ (v = .nilIface ∨ v = .iface 90 (.int .i64 1)) ∧ Ext w w' := by
  refine f113_does _ _ _ _ _ _ ?_
  unfold f113_vc
  intro wd dr
  have xd := dr.ext
  have c0 := xd.cell hT.info
  have c1 := xd.cell hT3.i1
  have c2 := xd.cell hT3.i2
  have hM0 : 0 ≤ M := hM.1
  have hM1 : M ≤ 18446744073709551615 := hM.2
  refine ⟨7, 0, rfl, 11, c1, by decide, inI64 (by decide) (by decide), 7, 0, rfl, -1023, c2, inI64 (by decide) (by decide), inI64 (by decide) (by decide), 7, 0, rfl, -1023, c2, inI64 (by decide) (by decide), 7, 0, rfl, 52, c0, inI64 (by decide) (by decide),
    fun x2 x3 k wc => (∃ X : Nat, x2 = (X : Int) ∧ X < 2 ^ 64) ∧ wd = wc,
    ⟨fun x2 x3 k wl => (∃ X : Nat, x2 = (X : Int) ∧ X < 2 ^ 64 ∧ k = 2 ^ 64 - X) ∧ wd = wl, ⟨_, ⟨M.toNat, by omega, by omega, rfl⟩, rfl⟩, ?_⟩, ?_⟩
  · rintro _ x3 _ _ ⟨⟨X, rfl, hX, rfl⟩, rfl⟩
    refine brr (fun q => ⟨7, 0, rfl, 52, c0, by decide, ?_⟩) fun q => ⟨0, ⟨X, rfl, hX⟩, rfl⟩
    have q : X ≠ 0 := fun h => by rw [h] at q; simp at q
    rw [p54, fd]
    refine brr (fun q2 => ?_) fun q2 => ⟨0, ⟨X, rfl, hX⟩, rfl⟩
    have q2 : X / 18014398509481984 = 0 := by rw [beq_iff_eq] at q2; omega
    refine ⟨by decide, 2 ^ 64 - 2 * X, by omega, ⟨2 * X, ?_, by omega, rfl⟩, rfl⟩
    rw [show (X : Int) * 2 ^ 1 = ((2 * X : Nat) : Int) by omega]
    exact w64 (by omega)
  rintro _ x3 _ _ ⟨⟨X, rfl, hX⟩, rfl⟩
  refine ⟨fun x k wc => (∃ X : Nat, x = (X : Int) ∧ X < 2 ^ 64) ∧ wd = wc, brr (fun _ => ⟨0, ?_, rfl⟩) fun _ => ⟨0, ⟨X, rfl, hX⟩, rfl⟩, ?_⟩
  · refine ⟨X ||| 1, ?_, Nat.or_lt_two_pow hX (by decide)⟩
    exact bor (b := 1) (by omega) (by decide)
  rintro _ _ _ ⟨⟨X, rfl, hX⟩, rfl⟩
  refine ⟨fun x y k wl => (∃ X : Nat, x = (X : Int) ∧ X < 2 ^ k ∧ k ≤ 64) ∧ wd = wl, ⟨64, ⟨X, rfl, hX, Nat.le_refl _⟩, rfl⟩, ?_⟩
  rintro _ x3 k _ ⟨⟨X, rfl, hX, hk⟩, rfl⟩
  refine ⟨7, 0, rfl, 52, c0, by decide, ?_⟩
  rw [p55, fd]
  refine brr (fun q => ?_) fun q => ?_
  · have q : X / 36028797018963968 ≠ 0 := fun h => by rw [h] at q; simp at q
    obtain ⟨Y, e, hY, hk2⟩ := shift_keep hk hX (by omega)
    exact ⟨by decide, k - 1, by omega, ⟨Y, e, hY, by omega⟩, rfl⟩
  refine ⟨fun x y k wc => wd = wc, ⟨fun x y k wl => (∃ X : Nat, x = (X : Int) ∧ X < 2 ^ k ∧ k ≤ 64) ∧ wd = wl, ⟨k, ⟨X, rfl, hX, hk⟩, rfl⟩, ?_⟩, ?_⟩
  · rintro _ y k _ ⟨⟨X, rfl, hX, hk⟩, rfl⟩
    refine brr (fun q => ⟨inI64 (by decide) (by decide), brr (fun q2 => ?_) fun _ => ⟨0, rfl⟩⟩) fun _ => ⟨0, rfl⟩
    have q := of_decide_eq_true q
    obtain ⟨Y, e, hY, hk2⟩ := shift_keep hk hX (by omega)
    exact ⟨by decide, k - 1, by omega, ⟨Y, e, hY, by omega⟩, rfl⟩
  rintro x y _ _ rfl
  refine ⟨by decide, fun x y k wc => wd = wc, brr (fun _ => ⟨7, 0, rfl, 52, c0, by decide, brr (fun _ => ⟨by decide, 0, rfl⟩) fun _ => ⟨0, rfl⟩⟩) fun _ => ⟨0, rfl⟩, ?_⟩
  rintro x y _ _ rfl
  refine ⟨fun y k wc => wd = wc, ⟨7, 0, rfl, 52, c0, by decide, brr (fun _ => ⟨7, 0, rfl, -1023, c2, 0, rfl⟩) fun _ => ⟨0, rfl⟩⟩, ?_⟩
  rintro y _ _ rfl
  refine ⟨fun x y v k wc => (v = .nilIface ∨ v = .iface 90 (.int .i64 1)) ∧ wd = wc, brr (fun _ => ⟨7, 0, rfl, 52, c0, by decide, inI64 (by decide) (by decide), 0, .inr rfl, rfl⟩) fun _ => ⟨0, .inl rfl, rfl⟩, ?_⟩
  rintro x y v _ _ ⟨hv, rfl⟩
  refine ⟨7, 0, rfl, 52, c0, by decide, fun w3 d3 => ?_⟩
  have x3 := d3.ext
  refine ⟨7, 0, rfl, -1023, x3.cell c2, 7, 0, rfl, 11, x3.cell c1, by decide, inI64 (by decide) (by decide), inI64 (by decide) (by decide), 7, 0, rfl, 52, x3.cell c0, by decide, ?_⟩
  refine ⟨fun x k wc => InK .u64 x ∧ Ext wd wc, brr (fun _ => ?_) fun _ => ⟨0, bor_in _ _, x3⟩, ?_⟩
  · exact fun w4 d4 => ⟨7, 0, rfl, 52, Ext.cell (Ext.then x3 d4.ext) c0, by decide, 7, 0, rfl, 11, Ext.cell (Ext.then x3 d4.ext) c1, by decide, 0, bor_in _ _, Ext.then x3 d4.ext⟩
  rintro z _ wc ⟨hz, xc⟩
  have hz0 : 0 ≤ z := hz.1
  have hz1 : z ≤ 18446744073709551615 := hz.2
  exact ⟨.inl ⟨_, rfl⟩, false, wc, info_other (hT3.ext (Ext.then xd xc)), fls rfl (frombi_does ⟨_, rfl, _, _, rfl, by unfold Wd; omega, hv, Ext.then xd xc⟩)⟩
/-- Do the underscores stand well? -/
theorem lower_any (c : Int) (h : R (.returned (.int .u8 (bits .or .u8 c 32))) w) : Does Tryz.prog 132 #[.int .u8 c] w R := by
  refine f132_does _ ?_
  unfold f132_vc
  exact h
theorem under_any (s : ByteArray) (hs : s.size ≤ 140737488355328) (h : ∀ b, R (.returned (.bool b)) w) : Does Tryz.prog 133 #[.string s] w R := by
  refine f133_does _ ?_
  unfold f133_vc
  have hx : (s.extract ((1 : Int).toNat) s.size).size ≤ s.size := by rw [ByteArray.size_extract]; omega
  refine ⟨fun t n wc => t.size ≤ s.size ∧ w = wc, brr (fun q => ?_) fun q => ⟨0, Nat.le_refl _, rfl⟩, ?_⟩
  · have q := of_decide_eq_true q
    exact ⟨⟨by omega, by omega⟩, brr (fun _ => ⟨⟨by omega, by omega⟩, 0, hx, rfl⟩) fun _ => ⟨⟨by omega, by omega⟩, brr (fun _ => ⟨⟨by omega, by omega⟩, 0, hx, rfl⟩) fun _ => ⟨0, Nat.le_refl _, rfl⟩⟩⟩
  rintro t _ _ ⟨ht, rfl⟩
  refine ⟨fun x y b n wc => (∃ k : Nat, y = (k : Int) ∧ k ≤ t.size) ∧ w = wc, brr (fun q => ?_) fun q => ⟨0, ⟨0, rfl, Nat.zero_le _⟩, rfl⟩, ?_⟩
  · have q := of_decide_eq_true q
    have z : ∀ b : Bool, ∃ nc : Nat, (∃ k : Nat, (2 : Int) = (k : Int) ∧ k ≤ t.size) ∧ w = w := fun b => ⟨0, ⟨2, rfl, by omega⟩, rfl⟩
    refine ⟨⟨by omega, by omega⟩, brr (fun _ => ⟨⟨by omega, by omega⟩, lower_any _ ⟨_, rfl, brr (fun _ => ⟨⟨by omega, by omega⟩, lower_any _ ⟨_, rfl, z true⟩⟩) fun _ => ⟨⟨by omega, by omega⟩, lower_any _ ⟨_, rfl, brr (fun _ => ⟨⟨by omega, by omega⟩, lower_any _ ⟨_, rfl, z true⟩⟩) fun _ => ⟨⟨by omega, by omega⟩, lower_any _ ⟨_, rfl, brr (fun _ => ⟨⟨by omega, by omega⟩, lower_any _ ⟨_, rfl, z true⟩⟩) fun _ => ⟨0, ⟨0, rfl, Nat.zero_le _⟩, rfl⟩⟩⟩⟩⟩⟩⟩) fun _ => ⟨0, ⟨0, rfl, Nat.zero_le _⟩, rfl⟩⟩
  rintro x3 _ b5 _ _ ⟨⟨k, rfl, hk⟩, rfl⟩
  refine ⟨fun x y n wl => (∃ k : Nat, y = (k : Int) ∧ k ≤ t.size ∧ n = t.size - k) ∧ w = wl, ⟨_, ⟨k, rfl, hk, rfl⟩, rfl⟩, ?_⟩
  rintro x _ _ _ ⟨⟨k, rfl, hk, rfl⟩, rfl⟩
  refine brr (fun q => ?_) fun q => h _
  have q := of_decide_eq_true q
  refine ⟨fun x n wc => w = wc, ⟨fun x n wc => w = wc, ⟨⟨by omega, by omega⟩, ?_⟩, ?_⟩, ?_⟩
  · have hexp : Br b5 (((0 : Int) ≤ (k : Int) ∧ (k : Int) < (t.size : Int)) ∧ Does Tryz.prog 132 #[.int .u8 (sb t (k : Int))] w fun e73 w73 =>
        ∃ n73 : Int, e73 = .returned (.int .u8 n73) ∧ Br (decide ((97 : Int) ≤ n73))
        (((0 : Int) ≤ (k : Int) ∧ (k : Int) < (t.size : Int)) ∧ Does Tryz.prog 132 #[.int .u8 (sb t (k : Int))] w73 fun e80 w80 =>
        ∃ n80 : Int, e80 = .returned (.int .u8 n80) ∧ Br (decide (n80 ≤ 102)) (∃ nc11 : Nat, w = w80) (∃ nc14 : Nat, w = w80))
        (∃ nc14 : Nat, w = w73)) (∃ nc14 : Nat, w = w) :=
      brr (fun _ => ⟨⟨by omega, by omega⟩, lower_any _ ⟨_, rfl, brr (fun _ => ⟨⟨by omega, by omega⟩, lower_any _ ⟨_, rfl, brr (fun _ => ⟨0, rfl⟩) fun _ => ⟨0, rfl⟩⟩⟩) fun _ => ⟨0, rfl⟩⟩⟩) fun _ => ⟨0, rfl⟩
    exact brr (fun _ => ⟨⟨by omega, by omega⟩, brr (fun _ => ⟨0, rfl⟩) fun _ => hexp⟩) fun _ => hexp
  · rintro y _ _ rfl
    exact ⟨⟨by omega, by omega⟩, brr (fun _ => brr (fun _ => h _) fun _ => ⟨0, rfl⟩) fun _ => brr (fun _ => h _) fun _ => ⟨0, rfl⟩⟩
  · rintro y _ _ rfl
    exact ⟨inI64 (by omega) (by omega), t.size - (k + 1), by omega, ⟨k + 1, by omega, by omega, rfl⟩, rfl⟩
end Go.Proofs.YtffhlgejfgmpiaaGreatDoor

/-
  Numbers read: a text that begins as one in base 16, whatever stands behind: it is read to an end.
-/
namespace Go.Proofs.YtffhlgejfgmpiaaGreatDoor
open Go.RowKit Go.Vc
variable {w : World} {R : Ending → World → Prop}
theorem readf_any {s : ByteArray} {neg : Bool} {q : List Int} (hs : L s = sgnL neg ++ 48 :: 120 :: 49 :: q) (hsz : s.size ≤ 140737488355328)
    (h : ∀ (M E : Int) (b : Bool) (i : Int) (ok : Bool), InK .u64 M → InK .i64 E → 0 ≤ i → i ≤ s.size → R (.returned (.tuple #[.int .u64 M, .int .i64 E, .bool neg, .bool b, .bool true, .int .i64 i, .bool ok])) w) : Does Tryz.prog 112 #[.string s] w R := by
  have hz : s.size = (sgnL neg).length + 3 + q.length := by
    have := L_len s
    rw [hs, List.length_append, List.length_cons, List.length_cons, List.length_cons] at this
    omega
  have hsl := sgn_len (neg := neg)
  have c0 : sb s (((sgnL neg).length : Nat) : Int) = 48 := (hex_at (sgnL neg) hs rfl).1
  have c1 : sb s (((sgnL neg).length + 1 : Nat) : Int) = 120 := (hex_at (sgnL neg ++ [48]) (x := 120) (r := 49 :: q) (by rw [hs]; simp) (by simp)).1
  have n0 : neg = true → sb s 0 = 45 := fun hn => by
    subst hn
    exact (hex_at (i := 0) [] (x := 45) (r := 48 :: 120 :: 49 :: q) hs rfl).1
  have u0 : InK .u64 0 := ⟨by decide, by decide⟩
  have i0 : InK .i64 0 := inI64 (by decide) (by decide)
  refine f112_does _ ?_
  unfold f112_vc
  refine fls (decide_eq_false (by omega)) ⟨fun b x n wc => neg = b ∧ x = ((sgnL neg).length : Int) ∧ w = wc, ⟨⟨by omega, by omega⟩, ?_⟩, ?_⟩
  · cases hneg : neg with
    | false =>
      have : sb s 0 = 48 := by have := c0; rw [hneg] at this; exact this
      rw [this]
      exact fls (by decide) (fls (by decide) ⟨0, rfl, rfl, rfl⟩)
    | true =>
      rw [n0 hneg]
      exact fls (by decide) (tru (by decide) ⟨by decide, 0, rfl, rfl, rfl⟩)
  rintro _ _ _ _ ⟨rfl, rfl, rfl⟩
  refine ⟨fun b x y z c n wc => b = true ∧ x = ((sgnL neg).length : Int) + 2 ∧ y = 16 ∧ z = 16 ∧ c = 112 ∧ w = wc, ⟨inI64 (by omega) (by omega), tru (decide_eq_true (by omega)) ⟨⟨by omega, by omega⟩, ?_⟩⟩, ?_⟩
  · rw [c0]
    refine tru rfl ⟨inI64 (by omega) (by omega), ⟨by omega, by omega⟩, ?_⟩
    rw [show ((sgnL neg).length : Int) + 1 = (((sgnL neg).length + 1 : Nat) : Int) by omega, c1]
    exact lower_keep (c := 120) (by decide) (.inl rfl) ⟨_, rfl, tru rfl ⟨inI64 (by omega) (by omega), 0, rfl, rfl, rfl, rfl, rfl, rfl⟩⟩
  rintro _ _ _ _ _ _ _ ⟨rfl, rfl, rfl, rfl, rfl, rfl⟩
  generalize hN : ((sgnL neg).length : Int) + 2 = st
  -- the digits
  refine ⟨fun x2 b5 x7 b9 b13 b14 x15 x16 x17 n wc => InK .u64 x2 ∧ 0 ≤ x7 ∧ x7 ≤ s.size ∧ 0 ≤ x15 ∧ x15 ≤ s.size ∧ 0 ≤ x16 ∧ x16 ≤ 16 ∧ -(s.size : Int) ≤ x17 ∧ x17 ≤ s.size ∧ w = wc,
    ⟨fun x2 b5 x7 b9 b13 b14 x15 x16 x17 n wl => InK .u64 x2 ∧ 0 ≤ x7 ∧ x7 ≤ s.size ∧ 0 ≤ x15 ∧ x15 ≤ x7 ∧ 0 ≤ x16 ∧ x16 ≤ 16 ∧ -x7 ≤ x17 ∧ x17 ≤ x7 ∧ n = (s.size - x7).toNat ∧ w = wl,
      ⟨_, u0, by omega, by omega, by omega, by omega, by omega, by omega, by omega, by omega, rfl, rfl⟩, ?_⟩, ?_⟩
  · rintro x2 b5 x7 b9 b13 b14 x15 x16 x17 _ _ ⟨h2, a1, a2, a3, a4, a5, a6, a7, a8, rfl, rfl⟩
    have out : ∃ nc51 : Nat, InK .u64 x2 ∧ 0 ≤ x7 ∧ x7 ≤ s.size ∧ 0 ≤ x15 ∧ x15 ≤ s.size ∧ 0 ≤ x16 ∧ x16 ≤ 16 ∧ -(s.size : Int) ≤ x17 ∧ x17 ≤ s.size ∧ w = w := ⟨0, h2, a1, a2, a3, by omega, a5, a6, by omega, by omega, rfl⟩
    refine brr (fun q => ?_) fun q => out
    have q := of_decide_eq_true q
    refine ⟨fun x2 b5 b9 b13 b14 x15 x16 x17 n wc => InK .u64 x2 ∧ 0 ≤ x15 ∧ x15 ≤ x7 + 1 ∧ 0 ≤ x16 ∧ x16 ≤ 16 ∧ -(x7 + 1) ≤ x17 ∧ x17 ≤ x7 + 1 ∧ w = wc, ⟨⟨by omega, by omega⟩, ?_⟩, ?_⟩
    · have leaf : ∀ {y2 y15 y16 y17 : Int}, InK .u64 y2 → 0 ≤ y15 → y15 ≤ x7 + 1 → 0 ≤ y16 → y16 ≤ 16 → -(x7 + 1) ≤ y17 → y17 ≤ x7 + 1 → ∃ nc24 : Nat, InK .u64 y2 ∧ 0 ≤ y15 ∧ y15 ≤ x7 + 1 ∧ 0 ≤ y16 ∧ y16 ≤ 16 ∧ -(x7 + 1) ≤ y17 ∧ y17 ≤ x7 + 1 ∧ w = w :=
        fun k1 k2 k3 k4 k5 k6 k7 => ⟨0, k1, k2, k3, k4, k5, k6, k7, rfl⟩
      have more : ∀ {y2 z2 : Int}, InK .u64 y2 → InK .u64 z2 → InK .i64 (x15 + 1) ∧ Br (decide (x16 < 16)) (InK .i64 (x16 + 1) ∧ ∃ nc24 : Nat, InK .u64 y2 ∧ 0 ≤ x15 + 1 ∧ x15 + 1 ≤ x7 + 1 ∧ 0 ≤ x16 + 1 ∧ x16 + 1 ≤ 16 ∧ -(x7 + 1) ≤ x17 ∧ x17 ≤ x7 + 1 ∧ w = w) (∃ nc24 : Nat, InK .u64 z2 ∧ 0 ≤ x15 + 1 ∧ x15 + 1 ≤ x7 + 1 ∧ 0 ≤ x16 ∧ x16 ≤ 16 ∧ -(x7 + 1) ≤ x17 ∧ x17 ≤ x7 + 1 ∧ w = w) :=
        fun k1 k2 => ⟨inI64 (by omega) (by omega), brr (fun m => by
          have m := of_decide_eq_true m
          exact ⟨inI64 (by omega) (by omega), leaf k1 (by omega) (by omega) (by omega) (by omega) (by omega) (by omega)⟩) fun _ => leaf k2 (by omega) (by omega) (by omega) (by omega) (by omega) (by omega)⟩
      have dig : ∀ {y2 : Int}, InK .u64 y2 → InK .i64 (x15 + 1) ∧ Br (decide (x16 < 16)) (InK .i64 (x16 + 1) ∧ ∃ nc24 : Nat, InK .u64 y2 ∧ 0 ≤ x15 + 1 ∧ x15 + 1 ≤ x7 + 1 ∧ 0 ≤ x16 + 1 ∧ x16 + 1 ≤ 16 ∧ -(x7 + 1) ≤ x17 ∧ x17 ≤ x7 + 1 ∧ w = w) (Br ((sb s x7) != 48) (∃ nc24 : Nat, InK .u64 x2 ∧ 0 ≤ x15 + 1 ∧ x15 + 1 ≤ x7 + 1 ∧ 0 ≤ x16 ∧ x16 ≤ 16 ∧ -(x7 + 1) ≤ x17 ∧ x17 ≤ x7 + 1 ∧ w = w) (∃ nc24 : Nat, InK .u64 x2 ∧ 0 ≤ x15 + 1 ∧ x15 + 1 ≤ x7 + 1 ∧ 0 ≤ x16 ∧ x16 ≤ 16 ∧ -(x7 + 1) ≤ x17 ∧ x17 ≤ x7 + 1 ∧ w = w)) :=
        fun k1 => ⟨inI64 (by omega) (by omega), brr (fun m => by
          have m := of_decide_eq_true m
          exact ⟨inI64 (by omega) (by omega), leaf k1 (by omega) (by omega) (by omega) (by omega) (by omega) (by omega)⟩) fun _ => brr (fun _ => leaf h2 (by omega) (by omega) (by omega) (by omega) (by omega) (by omega)) fun _ => leaf h2 (by omega) (by omega) (by omega) (by omega) (by omega) (by omega)⟩
      have more16 : ∀ {n : Int}, InK .i64 (x15 + 1) ∧ Br (decide (x16 < 16)) (Does Tryz.prog 132 #[.int .u8 (sb s x7)] w fun e132 w132 => ∃ n132 : Int, e132 = .returned (.int .u8 n132) ∧ InK .i64 (x16 + 1) ∧ ∃ nc24 : Nat, InK .u64 (IntKind.wrap .u64 ((IntKind.wrap .u64 (x2 * 16)) + (IntKind.wrap .u64 (IntKind.wrap .u8 ((IntKind.wrap .u8 (n132 - 97)) + 10))))) ∧ 0 ≤ x15 + 1 ∧ x15 + 1 ≤ x7 + 1 ∧ 0 ≤ x16 + 1 ∧ x16 + 1 ≤ 16 ∧ -(x7 + 1) ≤ x17 ∧ x17 ≤ x7 + 1 ∧ w = w132) (∃ nc24 : Nat, InK .u64 x2 ∧ 0 ≤ x15 + 1 ∧ x15 + 1 ≤ x7 + 1 ∧ 0 ≤ x16 ∧ x16 ≤ 16 ∧ -(x7 + 1) ≤ x17 ∧ x17 ≤ x7 + 1 ∧ w = w) :=
        fun {n} => ⟨inI64 (by omega) (by omega), brr (fun m => by
          have m := of_decide_eq_true m
          exact lower_any _ ⟨_, rfl, inI64 (by omega) (by omega), leaf (u64_in _) (by omega) (by omega) (by omega) (by omega) (by omega) (by omega)⟩) fun _ => leaf h2 (by omega) (by omega) (by omega) (by omega) (by omega) (by omega)⟩
      refine brr (fun _ => leaf h2 a3 (by omega) a5 a6 (by omega) (by omega)) fun _ => brr (fun _ => brr (fun _ => out) fun _ => leaf h2 a3 (by omega) a5 a6 (by omega) (by omega)) fun _ => ?_
      refine brr (fun _ => brr (fun _ => brr (fun _ => brr (fun _ => ⟨inI64 (by omega) (by omega), leaf h2 a3 (by omega) a5 a6 (by omega) (by omega)⟩) fun _ => dig (u64_in _)) fun _ => dig (u64_in _)) fun _ => tru rfl (lower_any _ ⟨_, rfl, brr (fun _ => lower_any _ ⟨_, rfl, brr (fun _ => more16 (n := 0)) fun _ => out⟩) fun _ => fls rfl out⟩)) fun _ => fls rfl (tru rfl (lower_any _ ⟨_, rfl, brr (fun _ => lower_any _ ⟨_, rfl, brr (fun _ => more16 (n := 0)) fun _ => out⟩) fun _ => fls rfl out⟩))
    · rintro y2 y5 y9 y13 y14 y15 y16 y17 _ _ ⟨k1, k2, k3, k4, k5, k6, k7, rfl⟩
      exact ⟨inI64 (by omega) (by omega), (s.size - (x7 + 1)).toNat, by omega, k1, by omega, by omega, k2, k3, k4, k5, k6, k7, rfl, rfl⟩
  rintro x2 b5 x7 b9 b13 b14 x15 x16 x17 _ _ ⟨h2, a1, a2, a3, a4, a5, a6, a7, a8, rfl⟩
  have no : ∀ {i : Int}, 0 ≤ i → i ≤ s.size → R (.returned (.tuple #[.int .u64 x2, .int .i64 0, .bool neg, .bool b5, .bool true, .int .i64 i, .bool false])) w := fun k1 k2 => h _ _ _ _ _ h2 i0 k1 k2
  refine brr (fun _ => no a1 a2) fun _ => ⟨fun x n wc => w = wc, brr (fun _ => ⟨0, rfl⟩) fun _ => ⟨0, rfl⟩, ?_⟩
  rintro y17 _ _ rfl
  refine ⟨fun x y n wc => w = wc, tru rfl ⟨inI64 (by omega) (by omega), 0, rfl⟩, ?_⟩
  rintro y16 z17 _ _ rfl
  refine ⟨fun x b y n wc => 0 ≤ x ∧ x ≤ s.size ∧ w = wc, brr (fun q => ?_) fun q => tru rfl (no a1 a2), ?_⟩
  · have q := of_decide_eq_true q
    refine ⟨⟨by omega, by omega⟩, lower_any _ ⟨_, rfl, brr (fun _ => ⟨inI64 (by omega) (by omega), brr (fun _ => no (by omega) (by omega)) fun q2 => ?_⟩) fun _ => tru rfl (no a1 a2)⟩⟩
    have q2 := of_decide_eq_false q2
    refine ⟨fun x y n wc => 0 ≤ x ∧ x ≤ s.size ∧ (y = 1 ∨ y = -1) ∧ w = wc, ⟨⟨by omega, by omega⟩, brr (fun _ => ⟨inI64 (by omega) (by omega), 0, by omega, by omega, .inl rfl, rfl⟩) fun _ => brr (fun _ => ⟨inI64 (by omega) (by omega), 0, by omega, by omega, .inr rfl, rfl⟩) fun _ => ⟨0, by omega, by omega, .inl rfl, rfl⟩⟩, ?_⟩
    rintro y7 y19 _ _ ⟨k1, k2, k3, rfl⟩
    refine brr (fun _ => no k1 k2) fun q3 => ?_
    have q3 := of_decide_eq_false q3
    refine ⟨⟨by omega, by omega⟩, brr (fun _ => no k1 k2) fun _ => ⟨⟨by omega, by omega⟩, brr (fun _ => no k1 k2) fun _ => ?_⟩⟩
    refine ⟨fun x b y n wc => 0 ≤ x ∧ x ≤ s.size ∧ 0 ≤ y ∧ y ≤ 100100 ∧ w = wc, ⟨fun x b y n wl => 0 ≤ x ∧ x ≤ s.size ∧ 0 ≤ y ∧ y ≤ 100100 ∧ n = (s.size - x).toNat ∧ w = wl, ⟨_, k1, k2, by omega, by omega, rfl, rfl⟩, ?_⟩, ?_⟩
    · rintro z7 c9 z20 _ _ ⟨m1, m2, m3, m4, rfl, rfl⟩
      have out : ∃ nc75 : Nat, 0 ≤ z7 ∧ z7 ≤ s.size ∧ 0 ≤ z20 ∧ z20 ≤ 100100 ∧ w = w := ⟨0, m1, m2, m3, m4, rfl⟩
      refine brr (fun q4 => ?_) fun _ => out
      have q4 := of_decide_eq_true q4
      have step : ∀ {P : Bool → Int → Nat → World → Prop}, P = (fun b y n wc => 0 ≤ y ∧ y ≤ 100100 ∧ w = wc) → ∀ (b : Bool) (y : Int) (n : Nat) (wc : World), P b y n wc → InK .i64 (z7 + 1) ∧ ∃ ml69 : Nat, ml69 < (s.size - z7).toNat ∧ 0 ≤ z7 + 1 ∧ z7 + 1 ≤ s.size ∧ 0 ≤ y ∧ y ≤ 100100 ∧ ml69 = (s.size - (z7 + 1)).toNat ∧ w = wc := fun hP b y n wc hy => by
        subst hP
        obtain ⟨r1, r2, rfl⟩ := hy
        exact ⟨inI64 (by omega) (by omega), (s.size - (z7 + 1)).toNat, by omega, by omega, by omega, r1, r2, rfl, rfl⟩
      have und : sb s z7 = 95 → ((0 : Int) ≤ z7 ∧ z7 < (s.size : Int)) ∧ Br ((sb s z7) == 95) (∃ nc70 : Nat, 0 ≤ z20 ∧ z20 ≤ 100100 ∧ w = w) (Br (decide (z20 < 10000)) (InK .i64 (z20 * 10) ∧ ((0 : Int) ≤ z7 ∧ z7 < (s.size : Int)) ∧ InK .i64 (sb s z7) ∧ InK .i64 ((z20 * 10) + (sb s z7)) ∧ InK .i64 (((z20 * 10) + (sb s z7)) - 48) ∧ ∃ nc70 : Nat, 0 ≤ ((z20 * 10) + (sb s z7)) - 48 ∧ ((z20 * 10) + (sb s z7)) - 48 ≤ 100100 ∧ w = w) (∃ nc70 : Nat, 0 ≤ z20 ∧ z20 ≤ 100100 ∧ w = w)) := fun h95 => ⟨⟨by omega, by omega⟩, tru (by rw [h95]; rfl) ⟨0, m3, m4, rfl⟩⟩
      refine ⟨⟨by omega, by omega⟩, brr (fun d1 => ⟨⟨by omega, by omega⟩, brr (fun d2 => ?_) fun d2 => ⟨⟨by omega, by omega⟩, brr (fun d3 => ?_) fun _ => out⟩⟩) fun d1 => ⟨⟨by omega, by omega⟩, brr (fun d3 => ?_) fun _ => out⟩⟩
      · have d1 := of_decide_eq_true d1
        have d2 := of_decide_eq_true d2
        refine ⟨fun b y n wc => 0 ≤ y ∧ y ≤ 100100 ∧ w = wc, ⟨⟨by omega, by omega⟩, brr (fun _ => ⟨0, m3, m4, rfl⟩) fun _ => brr (fun d4 => ?_) fun _ => ⟨0, m3, m4, rfl⟩⟩, step rfl⟩
        have d4 := of_decide_eq_true d4
        exact ⟨inI64 (by omega) (by omega), ⟨by omega, by omega⟩, inI64 (by omega) (by omega), inI64 (by omega) (by omega), inI64 (by omega) (by omega), 0, by omega, by omega, rfl⟩
      · exact ⟨fun b y n wc => 0 ≤ y ∧ y ≤ 100100 ∧ w = wc, und (by simpa using d3), step rfl⟩
      · exact ⟨fun b y n wc => 0 ≤ y ∧ y ≤ 100100 ∧ w = wc, und (by simpa using d3), step rfl⟩
    · rintro z7 c9 z20 _ _ ⟨m1, m2, m3, m4, rfl⟩
      refine ⟨?_, 0, m1, m2, rfl⟩
      rcases k3 with rfl | rfl
      · exact inI64 (by omega) (by omega)
      · exact inI64 (by omega) (by omega)
  rintro y7 b9' y17' _ _ ⟨m1, m2, rfl⟩
  refine ⟨fun x n wc => InK .i64 x ∧ w = wc, brr (fun _ => ⟨0, i64_in _, rfl⟩) fun _ => ⟨0, i0, rfl⟩, ?_⟩
  rintro y3 _ _ ⟨h3, rfl⟩
  refine brr (fun _ => ⟨⟨by omega, by omega⟩, under_any _ ?_ fun b => ⟨_, rfl, brr (fun _ => h _ _ _ _ _ h2 h3 m1 m2) fun _ => h _ _ _ _ _ h2 h3 m1 m2⟩⟩) fun _ => h _ _ _ _ _ h2 h3 m1 m2
  rw [ByteArray.size_extract]; omega
end Go.Proofs.YtffhlgejfgmpiaaGreatDoor

/-
  Numbers read: a text that is none: what tells it.
-/
namespace Go.Vc
open Go.RowKit
theorem ext_of_below {w w' : World} (h : Below w.heap.size w w') : Ext w w' := ⟨h.os, h.tape, h.output, h.size, fun k hk _ => h.block k hk⟩
end Go.Vc
namespace Go.Proofs.YtffhlgejfgmpiaaGreatDoor
open Go.RowKit Go.Vc
variable {w : World} {R : Ending → World → Prop}
theorem clone_does (s : ByteArray) (hs : s.size ≤ 140737488355328) : Does Tryz.prog 98 #[.string s] w fun e w' => ∃ t, e = .returned (.string t) ∧ Ext w w' := by
  refine f98_does _ (brr (fun q => ⟨_, rfl, Upd.refl _ _⟩) fun q => ?_)
  have q : s.size ≠ 0 := fun h => by rw [h] at q; simp at q
  refine ⟨⟨by omega, by omega, by omega, by omega⟩, fun b w9 n9 => ?_⟩
  have hM : (zerosL (.int .u8 0) ((s.size : Int)).toNat).toArray.size = s.size := by
    rw [Int.toNat_natCast]
    simp [zerosL]
    exact Nat.mul_one _
  have hg := n9.heap
  generalize (zerosL (.int .u8 0) ((s.size : Int)).toNat).toArray = M at *
  have hcp := Lib.run_copy_row_string (P := Tryz.prog) w9 50 9 3 5 b 0 s.size s.size s M 5 Tryz.underlying50 (by kernel_rfl) hg (Nat.le_refl _) (by omega)
  obtain ⟨Y, hY⟩ : ∃ Y, Y = (M.toList.take 0 ++ Lib.byteCells s.data.toList ++ M.toList.drop (0 + s.size)).toArray := ⟨_, rfl⟩
  rw [← hY] at hcp
  have hYl : Y.toList = Lib.byteCells s.data.toList := by
    rw [hY, List.toList_toArray, List.take_zero, List.nil_append, List.drop_of_length_le (by rw [Array.length_toList]; omega), List.append_nil]
  have hYs : Y.size = s.size := by rw [← Array.length_toList, hYl, Lib.byteCells_length, ← Lib.size_eq]
  have hgY : (w9.setRow b Y).heap[b]? = some (.cells Y 5 (0, 0)) := setRow_heap _ _ M _ 5 (0, 0) hg
  have hne : s.data.toList ≠ [] := fun e => q (by rw [Lib.size_eq, e]; rfl)
  have hUS := Lib.run_unsafeString_row (P := Tryz.prog) (w9.setRow b Y) 107 3 9 5 Tryz.underlying107 (by kernel_rfl) b Y.size (by unfold World.shape?; rw [hgY]) s.data.toList hne (by rw [← Lib.size_eq]; omega) (by rw [← Lib.size_eq]; omega)
    (fun j x hx => Lib.cells_of_row hgY Y.size j _ (by rw [List.take_of_length_le (by rw [Array.length_toList]; exact Nat.le_refl _), hYl]; simp [Lib.byteCells, hx]))
  rw [← Lib.size_eq] at hUS
  refine ⟨_, _, hcp, ⟨by omega, by omega⟩, b, 0, rfl, _, _, hUS, _, rfl, ?_⟩
  have hb1 : Below w.heap.size w w9 := Ext.below n9.ext
  have hb2 : Below w.heap.size w9 (w9.setRow b Y) := ⟨rfl, rfl, rfl, by simp, fun k hk => setRow_other _ _ _ _ (by rw [n9.eq]; omega)⟩
  exact ext_of_below (Lib.below_freeze (hb1.trans hb2) (p := ⟨b, 0, none⟩) (by rw [n9.eq]; exact Nat.le_refl _) _)
/-- The errors that are told. -/
structure Laid4 (w : World) : Prop where
  syn : ∃ t v, w.cell? ⟨2, 0, none⟩ = some (.iface t v)
  rng : ∃ t v, w.cell? ⟨3, 0, none⟩ = some (.iface t v)
theorem Laid4.ext {w w' : World} (h : Laid4 w) (x : Ext w w') : Laid4 w' := by
  obtain ⟨⟨t, v, h1⟩, t', v', h2⟩ := h
  exact ⟨⟨t, v, x.cell h1⟩, t', v', x.cell h2⟩
theorem syn_does (hE : Laid4 w) (f s : ByteArray) (hs : s.size ≤ 140737488355328) : Does Tryz.prog 77 #[.string f, .string s] w fun e w' => ∃ p, e = .returned (.pointer p) ∧ Ext w w' := by
  refine f77_does _ _ ?_
  unfold f77_vc
  intro wd dr
  have xd := dr.ext
  obtain ⟨t, v, hc⟩ := (hE.ext xd).syn
  refine ⟨fun w' => Ext wd w', Upd.refl _ _, (clone_does s hs).imp ?_⟩
  rintro e w7 ⟨s7, rfl, x7⟩
  refine ⟨s7, rfl, x7, .iface t v, fun w' x' => x'.cell hc, ?_⟩
  show ∀ b10 w10, NewBlk w7 b10 [.string f, .string s7, .iface t v] 115 w10 → _
  exact fun b10 w10 n10 => ⟨_, rfl, Ext.then xd (Ext.then x7 n10.ext)⟩
theorem rng_does (hE : Laid4 w) (f s : ByteArray) (hs : s.size ≤ 140737488355328) : Does Tryz.prog 78 #[.string f, .string s] w fun e w' => ∃ p, e = .returned (.pointer p) ∧ Ext w w' := by
  refine f78_does _ _ ?_
  unfold f78_vc
  intro wd dr
  have xd := dr.ext
  obtain ⟨t, v, hc⟩ := (hE.ext xd).rng
  refine ⟨fun w' => Ext wd w', Upd.refl _ _, (clone_does s hs).imp ?_⟩
  rintro e w7 ⟨s7, rfl, x7⟩
  refine ⟨s7, rfl, x7, .iface t v, fun w' x' => x'.cell hc, ?_⟩
  show ∀ b10 w10, NewBlk w7 b10 [.string f, .string s7, .iface t v] 115 w10 → _
  exact fun b10 w10 n10 => ⟨_, rfl, Ext.then xd (Ext.then x7 n10.ext)⟩
theorem eq22 (w : World) : (binOp .eql 46 (.iface 90 (.int .i64 2)) (.iface 90 (.int .i64 2))).run Tryz.prog w = .ok (.bool true) w := by kernel_rfl
theorem eq12 (w : World) : (binOp .eql 46 (.iface 90 (.int .i64 1)) (.iface 90 (.int .i64 2))).run Tryz.prog w = .ok (.bool false) w := by kernel_rfl
theorem eq11 (w : World) : (binOp .eql 46 (.iface 90 (.int .i64 1)) (.iface 90 (.int .i64 1))).run Tryz.prog w = .ok (.bool true) w := by kernel_rfl
theorem toerr_does (hE : Laid4 w) (f s : ByteArray) (a b : Int) (hs : s.size ≤ 140737488355328) {v : Value} (hv : v = .iface 90 (.int .i64 1) ∨ v = .iface 90 (.int .i64 2)) : Does Tryz.prog 53 #[.string f, .string s, .int .i64 a, .int .i64 b, v] w fun e w' => ∃ p, e = .returned (.iface 91 (.pointer p)) ∧ Ext w w' := by
  refine f53_does _ _ _ _ _ ?_
  unfold f53_vc
  rcases hv with rfl | rfl
  · refine ⟨.inr ⟨_, _, rfl⟩, false, w, eq12 w, fls rfl ⟨.inr ⟨_, _, rfl⟩, true, w, eq11 w, tru rfl ((rng_does hE f s hs).imp ?_)⟩⟩
    rintro e w' ⟨p, rfl, x⟩
    exact ⟨p, rfl, p, rfl, x⟩
  · refine ⟨.inr ⟨_, _, rfl⟩, true, w, eq22 w, tru rfl ((syn_does hE f s hs).imp ?_)⟩
    rintro e w' ⟨p, rfl, x⟩
    exact ⟨p, rfl, p, rfl, x⟩
/-- A text that begins as one in base 16: a number, or an error. -/
theorem parse_any {s : ByteArray} {neg : Bool} {q : List Int} (hs : L s = sgnL neg ++ 48 :: 120 :: 49 :: q) (hsz : s.size ≤ 140737488355328) (hT : Laid w) (hT3 : Laid3 w) (hE : Laid4 w) : Does Tryz.prog 29 #[.string s, .int .i64 64] w fun e w' => ∃ f v, e = .returned (.tuple #[.float .f64 f, v]) ∧ Wd f ∧ (v = .nilIface ∨ ∃ t u, v = .iface t u) ∧ Ext w w' := by
  have w0 : Wd 0 := by unfold Wd; decide
  have main : Does Tryz.prog 97 #[.string s] w fun e w' => ∃ f i v, e = .returned (.tuple #[.float .f64 f, .int .i64 i, v]) ∧ Wd f ∧ (v = .nilIface ∨ v = .iface 90 (.int .i64 1) ∨ v = .iface 90 (.int .i64 2)) ∧ Ext w w' := by
    refine f97_does _ ?_
    unfold f97_vc
    refine special_hex hs ⟨_, _, _, rfl, fls rfl (readf_any hs hsz fun M E b i ok hM hE' h1 h2 => ⟨_, _, _, _, _, _, _, rfl, ?_⟩)⟩
    cases ok with
    | false => exact tru rfl ⟨0, i, _, rfl, w0, .inr (.inr rfl), Upd.refl _ _⟩
    | true =>
      refine fls rfl (tru rfl ⟨⟨h1, h2⟩, (atofhex_any hT hT3 hM neg b).imp ?_⟩)
      rintro e w' ⟨f, v, rfl, hf, hv, x⟩
      exact ⟨_, _, rfl, f, i, v, rfl, hf, hv.imp id .inl, x⟩
  refine f29_does _ _ (f52_does _ _ (f76_does _ _ (fls (by decide) (main.imp ?_))))
  rintro e w' ⟨f, i, v, rfl, hf, hv, x⟩
  have err : ∀ {f : Nat} {v : Value}, Wd f → (v = .iface 90 (.int .i64 1) ∨ v = .iface 90 (.int .i64 2)) → ∃ f11 : Nat, ∃ x11 : Value, Ending.returned (.tuple #[.float .f64 f, v]) = .returned (.tuple #[.float .f64 f11, x11]) ∧ ∃ b15 : Bool, IfNil x11 b15 ∧ Br (!b15)
      (Does Tryz.prog 53 #[.string (({ data := #[80, 97, 114, 115, 101, 70, 108, 111, 97, 116] } : ByteArray)), .string s, .int .i64 0, .int .i64 64, x11] w' fun e20 w20 =>
      ∃ x20 : Value, e20 = .returned (x20) ∧ ∃ f v, Ending.returned (.tuple #[.float .f64 f11, x20]) = .returned (.tuple #[.float .f64 f, v]) ∧ Wd f ∧ (v = .nilIface ∨ ∃ t u, v = .iface t u) ∧ Ext w w20)
      (∃ f v, Ending.returned (.tuple #[.float .f64 f11, .nilIface]) = .returned (.tuple #[.float .f64 f, v]) ∧ Wd f ∧ (v = .nilIface ∨ ∃ t u, v = .iface t u) ∧ Ext w w') := fun {f v} hf hv => by
    refine ⟨f, v, rfl, false, ?_, tru rfl ((toerr_does (hE.ext x) _ s _ _ hsz hv).imp ?_)⟩
    · rcases hv with rfl | rfl <;> exact .inr ⟨⟨_, _, rfl⟩, rfl⟩
    · rintro e w20 ⟨p, rfl, x20⟩
      exact ⟨_, rfl, f, _, rfl, hf, .inr ⟨_, _, rfl⟩, Ext.then x x20⟩
  refine ⟨_, _, _, rfl, _, _, _, rfl, brr (fun _ => err w0 (.inr rfl)) fun _ => ?_⟩
  rcases hv with rfl | hv
  · exact ⟨f, .nilIface, rfl, true, .inl ⟨rfl, rfl⟩, fls rfl ⟨f, _, rfl, hf, .inl rfl, x⟩⟩
  · exact err hf hv
end Go.Proofs.YtffhlgejfgmpiaaGreatDoor

/-
  Numbers read: any text, by the program and by the document.
-/
namespace Go.Vc
open Go.RowKit
open Go.Proofs.YtffhlgejfgmpiaaGreatDoor (sgnL cls_word)
def sgnF (neg : Bool) : Nat := if neg then 13830554455654793216 else 4607182418800017408
theorem andnot63 {y : Nat} (h : y < 18446744073709551616) : bits .andNot .u64 (y : Int) 9223372036854775808 = ((y % 9223372036854775808 : Nat) : Int) := by
  show IntKind.u64.wrap (((BitVec.ofInt 64 (y : Int)) &&& ~~~(BitVec.ofInt 64 ((9223372036854775808 : Nat) : Int))).toNat : Int) = _
  have e2 : ~~~(BitVec.ofInt 64 ((9223372036854775808 : Nat) : Int)) = BitVec.ofNat 64 9223372036854775807 := by decide
  rw [e2, BitVec.ofInt_natCast, BitVec.toNat_and, BitVec.toNat_ofNat, BitVec.toNat_ofNat, Nat.mod_eq_of_lt (a := y) (by omega), Nat.mod_eq_of_lt (a := 9223372036854775807) (by decide)]
  rw [show (9223372036854775807 : Nat) = 2 ^ 63 - 1 by decide, Nat.and_two_pow_sub_one_eq_mod, show (2 : Nat) ^ 63 = 9223372036854775808 by decide, w64 (by omega)]
theorem sgW_true (r : Nat) : sgW true r = r + 9223372036854775808 := by unfold sgW; rw [if_pos rfl]
theorem sgW_false (r : Nat) : sgW false r = r := by unfold sgW; rw [if_neg (by decide)]
theorem ten_top : ∀ k, k < 16 → 0 < ten k ∧ ten k < 9218868437227405312 := by decide +kernel
/-- A sign put upon a quotient. -/
theorem dec_sign (neg : Bool) {M k : Nat} (hM : M < 1000000000000000) (hk : k < 16) {f : Nat} (hc : cls f = decV M k) : cls (sgW neg (rung f)) = decS neg M k := by
  have hr := foi_val BB_eq (N := M) (by omega)
  have ht := foi_top BB_eq (N := M) (by omega)
  rw [← hr] at ht
  have small : ∀ z, z ≤ 9218868437227405312 → cls z = some z := fun z hz => by
    unfold cls; rw [nan_pos hz]; rfl
  have sg : ∀ z, z ≤ 9218868437227405312 → cls (sgW neg z) = some (sgW neg z) := fun z hz => by
    obtain ⟨a, b, c⟩ := sgW_rung (neg := neg) (r := z) (by omega)
    have : nan (sgW neg z) = false := by unfold nan; rw [a]; exact decide_eq_false (by omega)
    unfold cls; rw [this]; rfl
  have go : ∀ z, z ≤ 9218868437227405312 → cls f = some z → f = z ∧ rung f = z := fun z hz h => by
    have hn := nan_pos hz
    have e : f = z := cls_word (h.trans (small z hz).symm) hn
    exact ⟨e, by rw [e]; exact (rung_small (by omega)).1⟩
  unfold decV at hc
  unfold decS
  by_cases h0 : M = 0
  · rw [if_pos h0] at hc ⊢
    obtain ⟨_, h2⟩ := go 0 (by decide) hc
    rw [h2, sg 0 (by decide)]
    cases neg <;> decide
  · rw [if_neg h0] at hc ⊢
    generalize floatOfInt .f64 (M : Int) = X at *
    have hneg : (if neg = true then Op.negFloat .f64 X else X) = sgW neg X := by
      cases neg with
      | true => rw [if_pos rfl, neg_sgW (by omega)]
      | false => rw [sgW_false, if_neg (by decide)]
    rw [hneg]
    by_cases hk0 : k = 0
    · rw [if_pos hk0] at hc ⊢
      obtain ⟨_, h2⟩ := go X (by omega) (hc.trans (small X (by omega)))
      rw [h2]
    · rw [if_neg hk0] at hc ⊢
      obtain ⟨t1, t2⟩ := ten_top k hk
      unfold opC at hc ⊢
      cases hq : floatBits .quo .f64 X (ten k) with
      | none =>
        exfalso
        have hB : (1074 : Nat) = 1074 := rfl
        obtain ⟨B, hB⟩ : ∃ B : Nat, B = 1074 := ⟨_, rfl⟩
        rw [div_eq', read_pos hB (by omega), read_pos hB t2, quot_num _ _ _ _ _ _ (by have := mg_pos t1; omega)] at hq
        cases hq
      | some z =>
        obtain ⟨n1, n2⟩ := quo_neg (by omega) t1 t2 hq
        rw [hq] at hc
        obtain ⟨_, h2⟩ := go z n2 (hc.trans (small z n2))
        rw [h2]
        cases neg with
        | false => rw [sgW_false, sgW_false, hq]
        | true => rw [sgW_true, sgW_true, n1]
end Go.Vc
namespace Go.Proofs.YtffhlgejfgmpiaaGreatDoor
open Go.RowKit Go.Vc
variable {w : World} {R : Ending → World → Prop}
theorem copysign_does {f : Nat} (hf : Wd f) (neg : Bool) (h : R (.returned (.float .f64 (sgW neg (rung f)))) w) : Does Tryz.prog 32 #[.float .f64 f, .float .f64 (sgnF neg)] w R := by
  refine f32_does _ _ (f64bits_does f ⟨_, rfl, f64bits_does _ ⟨_, rfl, ?_⟩⟩)
  have hm : f % 9223372036854775808 < 9223372036854775808 := Nat.mod_lt _ (by decide)
  have e : bits .or .u64 (bits .andNot .u64 (f : Int) 9223372036854775808) (bits .and .u64 ((sgnF neg : Nat) : Int) 9223372036854775808) = ((sgW neg (rung f) : Nat) : Int) := by
    rw [andnot63 hf]
    unfold rung sgW
    generalize f % 9223372036854775808 = r at *
    cases neg with
    | true =>
      have : bits .and .u64 ((sgnF true : Nat) : Int) 9223372036854775808 = 9223372036854775808 := by decide
      rw [this, or_top hm, if_pos rfl]; omega
    | false =>
      have : bits .and .u64 ((sgnF false : Nat) : Int) 9223372036854775808 = ((0 : Nat) : Int) := by decide
      rw [this, bor (by omega) (by decide), Nat.or_zero]; rfl
  rw [e]
  exact frombits_does _ ⟨_, rfl, h⟩
theorem names : L ({ data := #[110, 97, 110] } : ByteArray) = [110, 97, 110] ∧ L ({ data := #[105, 110, 102] } : ByteArray) = [105, 110, 102] ∧ L ({ data := #[45, 105, 110, 102] } : ByteArray) = [45, 105, 110, 102] ∧ L ({ data := #[45] } : ByteArray) = [45] ∧ L ({ data := #[48, 120, 49] } : ByteArray) = [48, 120, 49] := by decide
section
variable {s : ByteArray} {neg : Bool} {d : List Int} (hs : L s = sgnL neg ++ d) (hn : neg = false → ∀ r, d ≠ 45 :: r) (hsz : s.size ≤ 140737488355328) (k1 : L s ≠ [110, 97, 110]) (k2 : L s ≠ [105, 110, 102]) (k3 : L s ≠ [45, 105, 110, 102])
include hs hn
theorem strip_dash : (if ([45] : List Int).isPrefixOf (L s) then (L s).drop 1 else L s) = d := by
  rw [hs]
  cases hneg : neg with
  | true => rfl
  | false =>
    have h := hn hneg
    have : ¬ ([45] : List Int).isPrefixOf (sgnL false ++ d) = true := fun k => by
      obtain ⟨r, hr⟩ := List.isPrefixOf_iff_prefix.1 k
      exact h r hr.symm
    rw [if_neg this]; rfl
include hsz k1 k2 k3
/-- A text that is none. -/
theorem read_none (hd : decOk d = false) (hp : ([48, 120, 49] : List Int).isPrefixOf d = false) : Does Tryz.prog 9 #[.string s] w fun e w' => e = .returned (.tuple #[.float .f64 0, .bool false]) ∧ Ext w w' := by
  obtain ⟨n1, n2, n3, n4, n5⟩ := names
  refine f9_does _ ?_
  unfold f9_vc
  rw [L_eq, L_eq, L_eq, n1, n2, n3]
  refine fls (decide_eq_false k1) (fls (decide_eq_false k2) (fls (decide_eq_false k3) (trim_does _ _ fun t ht => ⟨t, rfl, ?_⟩)))
  rw [n4, List.length_singleton, strip_dash hs hn] at ht
  have hts : t.size ≤ 140737488355328 := by
    have a := L_len t
    have b := L_len s
    rw [ht] at a
    rw [hs, List.length_append] at b
    omega
  refine (decimal_does t hts).imp ?_
  rintro e w20 ⟨rfl, x20⟩
  rw [ht, hd]
  refine ⟨_, rfl, tru rfl (hasp_does _ _ ⟨_, rfl, ?_⟩)⟩
  rw [ht, n5, hp]
  exact tru rfl ⟨rfl, x20⟩
/-- A text in base 16 that no number has. -/
theorem read_bad {q : List Int} (hq : d = 48 :: 120 :: 49 :: q) (hc : ∀ x, Wd x → showS x ≠ L s) (hT : Laid w) (hT2 : Laid2 w) (hT3 : Laid3 w) (hE : Laid4 w) : Does Tryz.prog 9 #[.string s] w fun e w' => e = .returned (.tuple #[.float .f64 0, .bool false]) ∧ Ext w w' := by
  obtain ⟨n1, n2, n3, n4, n5⟩ := names
  have hd : decOk d = false := by rw [hq]; exact hex_bad _
  refine f9_does _ ?_
  unfold f9_vc
  rw [L_eq, L_eq, L_eq, n1, n2, n3]
  refine fls (decide_eq_false k1) (fls (decide_eq_false k2) (fls (decide_eq_false k3) (trim_does _ _ fun t ht => ⟨t, rfl, ?_⟩)))
  rw [n4, List.length_singleton, strip_dash hs hn] at ht
  have hts : t.size ≤ 140737488355328 := by
    have a := L_len t
    have b := L_len s
    rw [ht] at a
    rw [hs, List.length_append] at b
    omega
  refine (decimal_does t hts).imp ?_
  rintro e w20 ⟨rfl, x20⟩
  rw [ht, hd]
  refine ⟨_, rfl, tru rfl (hasp_does _ _ ⟨_, rfl, ?_⟩)⟩
  rw [ht, n5, show ([48, 120, 49] : List Int).isPrefixOf d = true by rw [hq]; rfl]
  refine fls rfl ((parse_any (hs.trans (by rw [hq])) hsz (hT.ext x20) (hT3.ext x20) (hE.ext x20)).imp ?_)
  rintro e w29 ⟨f, v, rfl, hf, hv, x29⟩
  have x29 := Ext.then x20 x29
  rcases hv with rfl | ⟨ty, u, rfl⟩
  · refine ⟨_, _, rfl, true, .inl ⟨rfl, rfl⟩, fls rfl ((decimal_does t hts).imp ?_)⟩
    rintro e w36 ⟨rfl, x36⟩
    have x36 := Ext.then x29 x36
    rw [ht, hd]
    refine ⟨_, rfl, tru rfl ((show_does (hT2.ext x36) hf).imp ?_)⟩
    rintro e w40 ⟨s40, rfl, h40, x40⟩
    have x40 := Ext.then x36 x40
    refine ⟨_, rfl, ?_⟩
    rw [L_eq, h40]
    exact tru (by rw [decide_eq_false (hc f hf)]; rfl) ⟨rfl, x40⟩
  · exact ⟨_, _, rfl, false, .inr ⟨⟨_, _, rfl⟩, rfl⟩, tru rfl ⟨rfl, x29⟩⟩
omit hsz in
/-- The document's way, up to its two readers. -/
theorem rread_gen (hp : ∀ t, L t = d → 3 < t.size → t.size < 40 → ([48, 120, 49] : List Int).isPrefixOf d = true → Does Tryz.prog 31 #[.string t] w fun e46 w46 =>
      ∃ f46 : Nat, ∃ b46 : Bool, e46 = .returned (.tuple #[.float .f64 f46, .bool b46]) ∧ Does Tryz.prog 32 #[.float .f64 f46, .float .f64 (sgnF neg)] w46 fun e51 w51 =>
      ∃ f51 : Nat, e51 = .returned (.float .f64 f51) ∧ Br (!b46)
      (R (.returned (.tuple #[.float .f64 0, .bool false])) w51)
      (Does Tryz.prog 10 #[.float .f64 f51] w51 fun e56 w56 =>
      ∃ s56 : ByteArray, e56 = .returned (.string s56) ∧ Br (!(s56.toList == s.toList))
      (R (.returned (.tuple #[.float .f64 0, .bool false])) w56)
      (R (.returned (.tuple #[.float .f64 f51, .bool true])) w56)))
    (hd : ∀ t, L t = d → ¬ (3 < t.size ∧ t.size < 40 ∧ ([48, 120, 49] : List Int).isPrefixOf d = true) → Does Tryz.prog 33 #[.string t] w fun e63 w63 =>
      ∃ f63 : Nat, ∃ b63 : Bool, e63 = .returned (.tuple #[.float .f64 f63, .bool b63]) ∧ Br (!b63)
      (R (.returned (.tuple #[.float .f64 0, .bool false])) w63)
      (Does Tryz.prog 32 #[.float .f64 f63, .float .f64 (sgnF neg)] w63 fun e70 w70 =>
      ∃ f70 : Nat, e70 = .returned (.float .f64 f70) ∧ R (.returned (.tuple #[.float .f64 f70, .bool true])) w70)) : Does Tryz.prog 12 #[.string s] w R := by
  obtain ⟨n1, n2, n3, n4, n5⟩ := names
  refine f12_does _ ?_
  unfold f12_vc
  rw [L_eq, L_eq, L_eq, n1, n2, n3]
  have hz := L_len s
  refine fls (decide_eq_false k1) (fls (decide_eq_false k2) (fls (decide_eq_false k3) ⟨fun t f n wc => L t = d ∧ f = sgnF neg ∧ w = wc, ?_, ?_⟩))
  · cases hneg : neg with
    | true =>
      rw [hneg] at hs
      have e0 : sb s 0 = 45 := (hex_at (i := 0) [] (x := 45) (r := d) hs rfl).1
      have : s.size = d.length + 1 := by rw [hs] at hz; simp [sgnL] at hz; omega
      refine tru (decide_eq_true (by omega)) ⟨⟨by omega, by omega⟩, ?_⟩
      rw [e0]
      refine tru rfl ⟨⟨by omega, by omega⟩, 0, ?_, rfl, rfl⟩
      show L (s.extract 1 s.size) = d
      rw [L_from, hs]; rfl
    | false =>
      rw [hneg] at hs
      have hs : L s = d := hs
      refine brr (fun q => ⟨⟨by omega, by have := of_decide_eq_true q; omega⟩, brr (fun q2 => ?_) fun _ => ⟨0, hs, rfl, rfl⟩⟩) fun _ => ⟨0, hs, rfl, rfl⟩
      exfalso
      cases hd : d with
      | nil =>
        have q := of_decide_eq_true q
        rw [hs, hd] at hz
        simp at hz
        omega
      | cons c r =>
        have e0 : sb s 0 = c := (hex_at (i := 0) [] (x := c) (r := r) (by rw [hs, hd]; rfl) rfl).1
        rw [e0] at q2
        have : c = 45 := by simpa using q2
        exact hn hneg r (by rw [hd, this])
  rintro t f _ _ ⟨ht, rfl, rfl⟩
  refine ⟨fun n wc => ¬ (3 < t.size ∧ t.size < 40 ∧ ([48, 120, 49] : List Int).isPrefixOf d = true) ∧ w = wc, brr (fun q1 => brr (fun q2 => ?_) fun q2 => ⟨0, fun h => of_decide_eq_false q2 (by omega), rfl⟩) fun q1 => ⟨0, fun h => of_decide_eq_false q1 (by omega), rfl⟩, ?_⟩
  · have q1 := of_decide_eq_true q1
    have q2 := of_decide_eq_true q2
    refine ⟨⟨by omega, by omega⟩, ?_⟩
    rw [L_eq, n5]
    have e : L (t.extract 0 ((3 : Int).toNat)) = d.take 3 := by
      show L (t.extract 0 3) = _
      rw [L_upto (by omega), ht]
    rw [e]
    refine brr (fun q3 => hp t ht (by omega) (by omega) ?_) fun q3 => ⟨0, fun h => of_decide_eq_false q3 ?_, rfl⟩
    · have q3 := of_decide_eq_true q3
      rw [List.isPrefixOf_iff_prefix, List.prefix_iff_eq_take]
      exact q3.symm
    · have h3 := h.2.2
      rw [List.isPrefixOf_iff_prefix, List.prefix_iff_eq_take] at h3
      exact h3.symm
  rintro _ _ ⟨hno, rfl⟩
  exact hd t ht hno
end
end Go.Proofs.YtffhlgejfgmpiaaGreatDoor

/-
  Law: any text is read as the document reads it.
-/
namespace Go.Vc
open Go.RowKit
open Go.Proofs.YtffhlgejfgmpiaaGreatDoor (sgnL)
theorem dec_first {d : List Int} (h : decOk d = true) : ∃ c q, d = c :: q ∧ 48 ≤ c ∧ c ≤ 57 := by
  obtain ⟨g1, g2, _⟩ := dec_facts h
  cases d with
  | nil => unfold headD at g2; simp at g2
  | cons c q =>
    refine ⟨c, q, rfl, ?_⟩
    have hc : headD (c :: q) = if (c != 46) = true then c :: headD q else [] := by
      unfold headD; rw [List.takeWhile_cons]
    rw [hc] at g1 g2
    split at g1
    · have := g1 c List.mem_cons_self
      unfold isDig at this
      simpa using this
    · rename_i h0
      rw [if_neg h0] at g2
      simp at g2
theorem dec_no {neg : Bool} {d : List Int} (h : decOk d = true) : sgnL neg ++ d ≠ [110, 97, 110] ∧ sgnL neg ++ d ≠ [105, 110, 102] ∧ sgnL neg ++ d ≠ [45, 105, 110, 102] ∧ (∀ r, d ≠ 45 :: r) := by
  obtain ⟨c, q, rfl, h1, h2⟩ := dec_first h
  refine ⟨fun k => ?_, fun k => ?_, fun k => ?_, fun r k => ?_⟩
  · cases neg <;> (have := (List.cons.inj k).1; omega)
  · cases neg <;> (have := (List.cons.inj k).1; omega)
  · cases neg
    · have := (List.cons.inj k).1; omega
    · have := (List.cons.inj (List.cons.inj k).2).1; omega
  · have := (List.cons.inj k).1; omega
theorem dec_small {d : List Int} (h : decOk d = true) : numV (headD d ++ tailD d) < 1000000000000000 ∧ (tailD d).length < 16 := by
  obtain ⟨g1, g2, g3, g4, g5⟩ := dec_facts h
  have h1 := Go.Proofs.YtffhlgejfgmpiaaGreatDoor.numV_lt (l := headD d ++ tailD d) fun x hx => by
    rcases List.mem_append.1 hx with hx | hx
    · exact g1 x hx
    · exact g4 x hx
  have h2 : 10 ^ (headD d ++ tailD d).length ≤ 10 ^ 15 := Nat.pow_le_pow_right (by decide) (by rw [List.length_append]; omega)
  have h3 : (10 : Nat) ^ 15 = 1000000000000000 := by decide
  omega
end Go.Vc
namespace Go.Proofs.YtffhlgejfgmpiaaGreatDoor
open Go.RowKit Go.Vc
variable {w : World} {R : Ending → World → Prop}
theorem rread_dec {s : ByteArray} {neg : Bool} {d : List Int} (hs : L s = sgnL neg ++ d) (hsz : s.size ≤ 140737488355328) (hd : decOk d = true) : Does Tryz.prog 12 #[.string s] w fun e w' => ∃ f, e = .returned (.tuple #[.float .f64 f, .bool true]) ∧ cls f = decS neg (numV (headD d ++ tailD d)) (tailD d).length ∧ Ext w w' := by
  obtain ⟨n1, n2, n3, n4⟩ := dec_no (neg := neg) hd
  rw [← hs] at n1 n2 n3
  refine rread_gen hs (fun _ => n4) n1 n2 n3 (fun t ht h3 h40 hp => ?_) fun t ht _ => ?_
  · exfalso
    obtain ⟨q, hq⟩ := List.isPrefixOf_iff_prefix.1 hp
    have := hex_bad (49 :: q)
    rw [← hq] at hd
    have e : ([48, 120, 49] ++ q : List Int) = 48 :: 120 :: 49 :: q := rfl
    rw [e, this] at hd
    cases hd
  · have hts : t.size ≤ 140737488355328 := by
      have a := L_len t
      have b := L_len s
      rw [ht] at a
      rw [hs, List.length_append] at b
      omega
    refine (rdec_all t hts).imp ?_
    rintro e w63 ⟨f, b, rfl, hf, hc, x63⟩
    rw [ht] at hc
    unfold decC at hc
    rw [if_pos hd] at hc
    cases b with
    | false => cases hc
    | true =>
      rw [if_pos rfl] at hc
      have hc := (Option.some.inj hc).symm
      obtain ⟨m1, m2⟩ := dec_small hd
      exact ⟨f, true, rfl, fls rfl (copysign_does hf neg ⟨_, rfl, _, rfl, dec_sign neg m1 m2 hc, x63⟩)⟩
/-- The document, at a text that is none. -/
theorem rread_no {s : ByteArray} {neg : Bool} {d : List Int} (hs : L s = sgnL neg ++ d) (hn : neg = false → ∀ r, d ≠ 45 :: r) (hsz : s.size ≤ 140737488355328) (k1 : L s ≠ [110, 97, 110]) (k2 : L s ≠ [105, 110, 102]) (k3 : L s ≠ [45, 105, 110, 102]) (hd : decOk d = false) (hc : ∀ x, Wd x → showS x ≠ L s) : Does Tryz.prog 12 #[.string s] w fun e w' => e = .returned (.tuple #[.float .f64 0, .bool false]) ∧ Ext w w' := by
  refine rread_gen hs hn k1 k2 k3 (fun t ht h3 h40 hp => ?_) fun t ht _ => ?_
  · refine (power_any h3 h40).imp ?_
    rintro e w46 ⟨f, b, rfl, hf, x46⟩
    have hr : rung f < 9223372036854775808 := Nat.mod_lt _ (by decide)
    refine ⟨f, b, rfl, copysign_does hf neg ⟨_, rfl, ?_⟩⟩
    cases b with
    | false => exact tru rfl ⟨rfl, x46⟩
    | true =>
      have hw := (sgW_rung (neg := neg) hr).2.2
      refine fls rfl ((rshow_does hw).imp ?_)
      rintro e w56 ⟨s56, rfl, h56, x56⟩
      refine ⟨_, rfl, ?_⟩
      rw [L_eq, h56]
      exact tru (by rw [decide_eq_false (hc _ hw)]; rfl) ⟨rfl, Ext.then x46 x56⟩
  · have hts : t.size ≤ 140737488355328 := by
      have a := L_len t
      have b := L_len s
      rw [ht] at a
      rw [hs, List.length_append] at b
      omega
    refine (rdec_all t hts).imp ?_
    rintro e w63 ⟨f, b, rfl, hf, hcc, x63⟩
    rw [ht] at hcc
    unfold decC at hcc
    rw [if_neg (by rw [hd]; simp)] at hcc
    cases b with
    | true => cases hcc
    | false => exact ⟨f, false, rfl, tru rfl ⟨rfl, x63⟩⟩
/-- The document, at what Show writes. -/
theorem rread_show {x : Nat} (hx : Wd x) {s : ByteArray} (hs : L s = showS x) (hB : ¬ ∃ neg d, L s = sgnL neg ++ d ∧ decOk d = true) : Does Tryz.prog 12 #[.string s] w fun e w' => ∃ f, e = .returned (.tuple #[.float .f64 f, .bool true]) ∧ cls f = cls x ∧ Ext w w' := by
  obtain ⟨n1, n2, n3, n4, n5⟩ := names
  cases hn : nan x with
  | true =>
    have hs : L s = [110, 97, 110] := by rw [hs]; unfold showS; rw [hn]; rfl
    refine f12_does _ ?_
    unfold f12_vc
    rw [L_eq, n1]
    exact tru (decide_eq_true hs) (nan_does fun f hf hc => ⟨f, rfl, f, rfl, by rw [hc]; unfold cls; rw [hn]; rfl, Upd.refl _ _⟩)
  | false =>
    have hr1 : rung x ≤ 9218868437227405312 := by unfold nan at hn; have := of_decide_eq_false hn; omega
    have hxp := word_parts hx
    have hs0 := hs
    have hs : L s = sgnL (sgn x) ++ showR (rung x) := by
      rw [hs]; unfold showS; rw [hn]; rfl
    generalize hneg : sgn x = neg at *
    generalize hr : rung x = r at *
    rcases Nat.lt_or_ge r 9218868437227405312 with hlt | hge
    · cases hw : wholeB r with
      | true =>
        exfalso
        rw [showR_whole hlt hw] at hs
        have hN := flr_whole (whole_iff.1 hw).1
        exact hB ⟨neg, _, hs, decL_ok hN⟩
      | false =>
        have h0 : 0 < r := by
          rcases Nat.eq_zero_or_pos r with h | h
          · rw [h, whole_zero] at hw; cases hw
          · exact h
        obtain ⟨b1, b2⟩ := nM_bounds h0
        obtain ⟨be1, be2⟩ := nE_bounds h0 hlt
        have p13 : (16 : Nat) ^ 13 = 4503599627370496 := by decide
        have hlead := lead_val (k := 13) (n := nM r - 4503599627370496) (by rw [p13]; omega)
        rw [p13, show 4503599627370496 + (nM r - 4503599627370496) = nM r by omega] at hlead
        have hdig := frN_dig (k := 13) (n := nM r - 4503599627370496) (by rw [p13]; omega)
        have hlen := frN_len 13 (nM r - 4503599627370496)
        rw [showR_hex hlt hw, hexS_mant] at hs
        generalize frN 13 (nM r - 4503599627370496) = ds at *
        have hml := mant_len ds
        have hexl := expL_len be1 be2
        have k1 : L s ≠ [110, 97, 110] := fun k => by
          rw [hs] at k
          cases neg <;> (have := (List.cons.inj k).1; omega)
        have k2 : L s ≠ [105, 110, 102] := fun k => by
          rw [hs] at k
          cases neg <;> (have := (List.cons.inj k).1; omega)
        have k3 : L s ≠ [45, 105, 110, 102] := fun k => by
          rw [hs] at k
          cases neg
          · have := (List.cons.inj k).1; omega
          · have := (List.cons.inj (List.cons.inj k).2).1; omega
        have hpre : ([48, 120, 49] : List Int).isPrefixOf (48 :: 120 :: (mantL ds ++ expL (nE r))) = true := rfl
        have hts : ∀ t : ByteArray, L t = 48 :: 120 :: (mantL ds ++ expL (nE r)) → 3 < t.size ∧ t.size < 40 := fun t ht => by
          have a := L_len t
          rw [ht, List.length_cons, List.length_cons, List.length_append] at a
          obtain ⟨sg, D, hx, hD, _⟩ := exp_text (e := nE r)
          have hxl : (expL (nE r)).length = D.length + 2 := by rw [hx]; rfl
          split at hml <;> omega
        refine rread_gen hs (fun _ q k => by have := (List.cons.inj k).1; omega) k1 k2 k3 (fun t ht h3 h40 hp => ?_) fun t ht hno => (hno ⟨(hts t ht).1, (hts t ht).2, hpre⟩).elim
        refine (power_hex ht hdig hlen hlead h0 hlt).imp ?_
        rintro e w46 ⟨rfl, x46⟩
        have hrr : rung r = r := (rung_small (by omega)).1
        refine ⟨r, true, rfl, copysign_does (by unfold Wd; omega) neg ⟨_, rfl, fls rfl ?_⟩⟩
        rw [hrr, ← hxp]
        refine (rshow_does hx).imp ?_
        rintro e w56 ⟨s56, rfl, h56, x56⟩
        refine ⟨_, rfl, ?_⟩
        rw [L_eq, h56]
        exact fls (by rw [decide_eq_true hs0.symm]; rfl) ⟨x, rfl, rfl, Ext.then x46 x56⟩
    · have : r = infW := by unfold infW; omega
      subst this
      have hsi : L s = sgnL neg ++ [105, 110, 102] := hs
      refine f12_does _ ?_
      unfold f12_vc
      rw [L_eq, L_eq, L_eq, n1, n2, n3, hsi]
      cases neg with
      | true => exact fls (by decide) (fls (by decide) (tru (by decide) (ninf_does ⟨_, rfl, _, rfl, by rw [← hxp], Upd.refl _ _⟩)))
      | false => exact fls (by decide) (tru (by decide) (inf_does ⟨_, rfl, _, rfl, by rw [hxp]; rfl, Upd.refl _ _⟩))
theorem reads_yes {s : ByteArray} {c : Option Nat} (h5 : s.size ≤ 5000) (h1 : ∀ w', Ext w w' → Does Tryz.prog 9 #[.string s] w' fun e w'' => ∃ f, e = .returned (.tuple #[.float .f64 f, .bool true]) ∧ cls f = c ∧ Ext w' w'')
    (h2 : ∀ w', Ext w w' → Does Tryz.prog 12 #[.string s] w' fun e w'' => ∃ f, e = .returned (.tuple #[.float .f64 f, .bool true]) ∧ cls f = c ∧ Ext w' w'') : Does Tryz.prog 4 #[.string s] w (Holds w) := by
  refine f4_does _ (awake_does.imp ?_)
  rintro e w9 ⟨rfl, x9⟩
  refine ⟨_, rfl, fls rfl (fls (decide_eq_false (by omega)) ((h1 _ x9).imp ?_))⟩
  rintro e w23 ⟨f, rfl, hf, x23⟩
  have x23 := Ext.then x9 x23
  refine ⟨_, _, rfl, (h2 _ x23).imp ?_⟩
  rintro e w28 ⟨g, rfl, hg, x28⟩
  refine ⟨_, _, rfl, tru rfl (bits_does f ⟨_, rfl, rbits_does g ⟨_, rfl, ?_⟩⟩)⟩
  rw [cls_bits (hf.trans hg.symm), beq_self_eq_true]
  exact ⟨rfl, Ext.then x23 x28⟩
theorem reads_no {s : ByteArray} (h1 : ∀ w', Ext w w' → Does Tryz.prog 9 #[.string s] w' fun e w'' => e = .returned (.tuple #[.float .f64 0, .bool false]) ∧ Ext w' w'')
    (h2 : ∀ w', Ext w w' → Does Tryz.prog 12 #[.string s] w' fun e w'' => e = .returned (.tuple #[.float .f64 0, .bool false]) ∧ Ext w' w'') : Does Tryz.prog 4 #[.string s] w (Holds w) := by
  refine f4_does _ (awake_does.imp ?_)
  rintro e w9 ⟨rfl, x9⟩
  refine ⟨_, rfl, fls rfl (brr (fun _ => (h1 _ x9).imp ?_) fun _ => (h1 _ x9).imp ?_)⟩
  · rintro e w23 ⟨rfl, x23⟩
    exact ⟨_, _, rfl, rfl, Ext.then x9 x23⟩
  · rintro e w23 ⟨rfl, x23⟩
    have x23 := Ext.then x9 x23
    refine ⟨_, _, rfl, (h2 _ x23).imp ?_⟩
    rintro e w28 ⟨rfl, x28⟩
    refine ⟨_, _, rfl, tru rfl (bits_does 0 ⟨_, rfl, rbits_does 0 ⟨_, rfl, ?_⟩⟩)⟩
    rw [beq_self_eq_true]
    exact ⟨rfl, Ext.then x23 x28⟩
theorem show_len {x : Nat} (hx : Wd x) : (showS x).length ≤ 5000 := by
  cases hn : nan x with
  | true => unfold showS; rw [hn, if_pos rfl]; decide
  | false =>
    have hr1 : rung x ≤ 9218868437227405312 := by unfold nan at hn; have := of_decide_eq_false hn; omega
    rw [showS_eq hn, List.length_append]
    have hsl := sgn_len (neg := sgn x)
    generalize rung x = r at *
    have : (showR r).length ≤ 30 := by
      rcases Nat.lt_or_ge r 9218868437227405312 with hlt | hge
      · cases hw : wholeB r with
        | true =>
          rw [showR_whole hlt hw]
          have hN := flr_whole (whole_iff.1 hw).1
          have := decL_len_le (n := flr BB r) (k := 15) (by decide) (by omega)
          omega
        | false =>
          have h0 : 0 < r := by
            rcases Nat.eq_zero_or_pos r with h | h
            · rw [h, whole_zero] at hw; cases hw
            · exact h
          rw [showR_hex hlt hw]
          exact hex_len h0 hlt
      · have : r = 9218868437227405312 := by omega
        unfold showR
        rw [if_pos this]; decide
    omega
theorem reads_law (hT : Laid w) (hT2 : Laid2 w) (hT3 : Laid3 w) (hE : Laid4 w) {s : ByteArray} (hsz : s.size ≤ 140737488355328) : Does Tryz.prog 4 #[.string s] w (Holds w) := by
  have hz := L_len s
  by_cases hB : ∃ neg d, L s = sgnL neg ++ d ∧ decOk d = true
  · obtain ⟨neg, d, hs, hd⟩ := hB
    obtain ⟨_, hl, _, hsl⟩ := size_of hs hd
    have h5 : s.size ≤ 5000 := by rw [hs, List.length_append] at hz; omega
    refine reads_yes h5 (fun w' x => (read_dec hs hd (hT.ext x)).imp ?_) fun w' x => rread_dec hs hsz hd
    rintro e w'' ⟨f, rfl, hf, hc, x'⟩
    exact ⟨f, rfl, hc, x'⟩
  by_cases hA : ∃ x, Wd x ∧ showS x = L s
  · obtain ⟨x, hx, hs⟩ := hA
    have h5 : s.size ≤ 5000 := by
      rw [← hz, ← hs]
      exact show_len hx
    refine reads_yes h5 (fun w' xw => (read_show hx hs.symm (hT.ext xw) (hT2.ext xw) (hT3.ext xw)).imp ?_) fun w' xw => rread_show hx hs.symm hB
    rintro e w'' ⟨f, rfl, hf, hc, x'⟩
    exact ⟨f, rfl, hc, x'⟩
  have hc : ∀ x, Wd x → showS x ≠ L s := fun x hx h => hA ⟨x, hx, h⟩
  have k1 : L s ≠ [110, 97, 110] := fun k => hc 9221120237041090561 (by unfold Wd; decide) (by rw [k]; decide)
  have k2 : L s ≠ [105, 110, 102] := fun k => hc 9218868437227405312 (by unfold Wd; decide) (by rw [k]; rfl)
  have k3 : L s ≠ [45, 105, 110, 102] := fun k => hc 18442240474082181120 (by unfold Wd; decide) (by rw [k]; rfl)
  obtain ⟨neg, d, hs, hn⟩ : ∃ neg d, L s = sgnL neg ++ d ∧ (neg = false → ∀ r, d ≠ 45 :: r) := by
    by_cases h : ∃ r, L s = 45 :: r
    · obtain ⟨r, h⟩ := h
      exact ⟨true, r, h, fun k => by cases k⟩
    · exact ⟨false, L s, rfl, fun _ r k => h ⟨r, k⟩⟩
  have hd : decOk d = false := by
    rw [Bool.eq_false_iff]
    exact fun k => hB ⟨neg, d, hs, k⟩
  refine reads_no (fun w' x => ?_) fun w' x => rread_no hs hn hsz k1 k2 k3 hd hc
  cases hp : ([48, 120, 49] : List Int).isPrefixOf d with
  | false => exact read_none hs hn hsz k1 k2 k3 hd hp
  | true =>
    obtain ⟨q, hq⟩ := List.isPrefixOf_iff_prefix.1 hp
    exact read_bad hs hn hsz k1 k2 k3 (q := q) hq.symm hc (hT.ext x) (hT2.ext x) (hT3.ext x) (hE.ext x)
end Go.Proofs.YtffhlgejfgmpiaaGreatDoor

/-
  Numbers read: the errors that are told, out of a row's condition.
-/
namespace Go.Vc
open Go.RowKit
theorem trod_face {P : Program} {w : World} {base : Nat} {sp : Nat → Bool} {fuel : Nat} {t : TypeId} {ms : Array (String × TypeId)} {cs : List Value} {n : String} {d : DataW Unit} {p : List MemPlace} (ht : P.underlying t = some (.interface ms))
    (h : DataW.trod (fun _ => ()) P w base sp false fuel t cs = some ((.iface n d : DataW Unit), p)) : ∃ u v, cs = [.iface u v] := by
  cases fuel with
  | zero => simp [DataW.trod] at h
  | succ m =>
    unfold DataW.trod at h
    rw [ht] at h
    split at h <;> simp_all
end Go.Vc
namespace Go.Proofs.YtffhlgejfgmpiaaGreatDoor
open Go.RowKit Go.Vc
theorem laid4_of {W : World} {l : List (String × DataW Unit)} (h : laidMetH Tryz.prog l W) (hp : (l.all fun x => x.2.handleName?.isNone) = true) {n1 n2 : String} {x1 x2 : DataW Unit}
    (m1 : ("strconv.ErrSyntax", (.iface n1 x1 : DataW Unit)) ∈ l) (m2 : ("strconv.ErrRange", (.iface n2 x2 : DataW Unit)) ∈ l) : Laid4 W := by
  rw [MakeChecks.laidMetH_plain _ _ _ hp] at h
  obtain ⟨ps, hv, _, _⟩ := h
  obtain ⟨g1, t1, c1, f1, p1, a1, b1, v1, d1⟩ := laid_at hv _ m1
  obtain ⟨g2, t2, c2, f2, p2, a2, b2, v2, d2⟩ := laid_at hv _ m2
  obtain rfl := Option.some.inj ((show Tryz.prog.globalNamed "strconv.ErrSyntax" = some 2 by kernel_rfl).symm.trans a1)
  obtain rfl := Option.some.inj ((show Tryz.prog.globalNamed "strconv.ErrRange" = some 3 by kernel_rfl).symm.trans a2)
  obtain rfl := Option.some.inj ((show (Tryz.prog.globals[2]?).map (·.type) = some 46 by kernel_rfl).symm.trans b1)
  obtain rfl := Option.some.inj ((show (Tryz.prog.globals[3]?).map (·.type) = some 46 by kernel_rfl).symm.trans b2)
  obtain ⟨u1, w1, e1⟩ := trod_face Tryz.underlying46 d1
  obtain ⟨u2, w2, e2⟩ := trod_face Tryz.underlying46 d2
  refine ⟨⟨u1, w1, ?_⟩, u2, w2, ?_⟩
  · rw [World.var?_cell a1 v1 0, ← Array.getElem?_toList, e1]; rfl
  · rw [World.var?_cell a2 v2 0, ← Array.getElem?_toList, e2]; rfl
theorem reach_size {s : ByteArray} (h : s.data.toList.length ≤ reachBytes) : s.size ≤ 140737488355328 := by
  have e : reachBytes < 140737488355328 := by decide
  rw [Lib.size_eq]
  omega
end Go.Proofs.YtffhlgejfgmpiaaGreatDoor
