/-
  Keys: the laws: counts.
-/
import Derived.Test.YteggcicicdcnlaaKeysLaws3
namespace Go.Vc
open Go.RowKit
theorem br_or0' {p q : Bool} {A B : Prop} (ha : (p || q) = true → A) (hb : (p || q) = false → B) : Br p A (Br q A B) := br_or0 ha hb
end Go.Vc
namespace Go.Proofs.Yteggcicicdcnlaa
open Go.RowKit Go.Vc
section
variable {w : World}
theorem ops_at {k : Nat} (hk : k < 8) : ∃ s : ByteArray, [Value.string (({ data := #[100] } : ByteArray)), .string (({ data := #[99] } : ByteArray)), .string (({ data := #[121] } : ByteArray)), .string (({ data := #[62] } : ByteArray)), .string (({ data := #[60] } : ByteArray)), .string (({ data := #[103, 117] } : ByteArray)), .string (({ data := #[103, 85] } : ByteArray)), .string (({ data := #[103, 126] } : ByteArray))][k]? = some (.string s) ∧ L s ∈ ops8 ∧ s.size ≤ 2 := by
  match k, hk with
  | 0, _ => exact ⟨_, rfl, by decide, by decide⟩
  | 1, _ => exact ⟨_, rfl, by decide, by decide⟩
  | 2, _ => exact ⟨_, rfl, by decide, by decide⟩
  | 3, _ => exact ⟨_, rfl, by decide, by decide⟩
  | 4, _ => exact ⟨_, rfl, by decide, by decide⟩
  | 5, _ => exact ⟨_, rfl, by decide, by decide⟩
  | 6, _ => exact ⟨_, rfl, by decide, by decide⟩
  | 7, _ => exact ⟨_, rfl, by decide, by decide⟩
theorem counts_law {a0 a1 a2 : Int} (h0 : InK .u16 a0) (h1 : InK .u16 a1) (h2 : InK .u8 a2) : Does Try.prog 3 #[.int .u16 a0, .int .u16 a1, .int .u8 a2] w (Holds w) := by
  have r0 : 0 ≤ a0 ∧ a0 ≤ 65535 := h0
  have r1 : 0 ≤ a1 ∧ a1 ≤ 65535 := h1
  have r2 : 0 ≤ a2 ∧ a2 ≤ 255 := h2
  obtain ⟨n, rfl⟩ := Int.eq_ofNat_of_zero_le r0.1
  obtain ⟨m, rfl⟩ := Int.eq_ofNat_of_zero_le r1.1
  obtain ⟨o, rfl⟩ := Int.eq_ofNat_of_zero_le r2.1
  apply f3_does
  unfold f3_vc
  have ex : (n : Int).tmod 300 = ((n % 300 : Nat) : Int) := rfl
  have ey : (m : Int).tmod 300 = ((m % 300 : Nat) : Int) := rfl
  have eo : (o : Int).tmod 8 = ((o % 8 : Nat) : Int) := rfl
  rw [ex, ey, eo]
  have hx : n % 300 < 300 := Nat.mod_lt _ (by decide)
  have hy : m % 300 < 300 := Nat.mod_lt _ (by decide)
  have hk : o % 8 < 8 := Nat.mod_lt _ (by decide)
  generalize n % 300 = x at hx ⊢
  generalize m % 300 = y at hy ⊢
  generalize o % 8 = k at hk ⊢
  refine awake_does.imp ?_
  rintro e w16 ⟨rfl, x16⟩
  refine ⟨_, rfl, fls rfl ((new_does false).imp ?_)⟩
  rintro e w18 ⟨g, rfl, hP, x18, hg⟩
  have X18 := x16.thn x18
  have z16 := x16.size
  obtain ⟨s32, hs32, hop, hsz⟩ := ops_at hk
  refine ⟨_, rfl, fls rfl ⟨inI64 (by omega) (by omega), by decide, inI64 (by omega) (by omega), by decide, fun b27 w27 hb27 => ⟨inI64 (by omega) (by omega), by decide, ⟨by omega, by omega⟩, b27, 0, rfl, s32, by rw [Nat.zero_add, Int.toNat_natCast]; exact hb27.cell k hs32, (number_does hx).imp ?_⟩⟩⟩
  rintro e w36 ⟨s36, rfl, h36, x36⟩
  have n36 := L_len s36
  rw [h36] at n36
  have dx := (dig_ok x hx).2.2.1
  have dy := (dig_ok y hy).2.2.1
  refine ⟨_, rfl, by omega, (number_does hy).imp ?_⟩
  rintro e w40 ⟨s40, rfl, h40, x40⟩
  have n40 := L_len s40
  rw [h40] at n40
  have X40 := X18.thn (hb27.ext.thn (x36.thn x40))
  have hP40 := hP.ext (hb27.ext.thn (x36.thn x40))
  have hlit : (({ data := #[119] } : ByteArray)).size = 1 := rfl
  have hlit2 : (({ data := #[120] } : ByteArray)).size = 1 := rfl
  have hlop : (L s32).length ≤ 2 := by rw [L_len]; exact hsz
  have hfeed := feeds_does hP40 (Keys.fresh _) (str := ((s36 ++ s32) ++ s40) ++ (({ data := #[119] } : ByteArray))) (ks := digN 4 x ++ L s32 ++ digN 4 y ++ [119]) (by rw [L_append, L_append, L_append, h36, h40]; rfl) (by simp; omega)
  rw [feeds_counts hx hy hop] at hfeed
  have pt0 : ∀ z, PT g none none z → w.heap.size ≤ z := fun z hz => by rcases hz with hz | hz | hz; omega; cases hz; cases hz
  refine ⟨_, rfl, by rw [ByteArray.size_append]; omega, by rw [ByteArray.size_append, ByteArray.size_append]; omega, FeedR.use hfeed (fun z hz => hP40.lt hz) fun b11 w11 kb ab sk sm pk ca B11 g1 g2 g3 g4 g5 g6 g7 => ?_⟩
  have X11 := own_ext X40 pt0 g5
  have m99 : ∀ {z : Nat}, z < 300 → 0 ≤ min99 z ∧ min99 z ≤ 99 := fun h => min99_le (by omega)
  have mx := m99 hx
  have my := m99 hy
  have ew : ∀ {z : Nat}, (if 99 < if (z : Int) < 1 then 1 else (z : Int) then 99 else if (z : Int) < 1 then 1 else (z : Int)) = if z = 0 then 1 else min99 z := fun {z} => by
    unfold min99
    by_cases h : z = 0
    · subst h; decide
    · rw [if_neg h, if_neg (by omega : ¬ (z : Int) < 1)]
  rw [ew, ew]
  have hmul : ∀ {a b : Int}, 1 ≤ a → a ≤ 99 → 1 ≤ b → b ≤ 99 → 1 ≤ a * b ∧ a * b ≤ 9801 := fun {a b} h1 h2 h3 h4 => by
    have e1 : a * b ≤ 99 * b := Int.mul_le_mul_of_nonneg_right h2 (by omega)
    have e2 : 1 * b ≤ a * b := Int.mul_le_mul_of_nonneg_right h1 (by omega)
    omega
  have pos : ∀ {z : Nat}, z < 300 → 1 ≤ (if z = 0 then (1 : Int) else min99 z) ∧ (if z = 0 then (1 : Int) else min99 z) ≤ 99 := fun {z} h => by
    split
    · decide
    · unfold min99; split <;> omega
  have z0 : ∀ {z : Nat}, min99 z = 0 ↔ z = 0 := fun {z} => by unfold min99; split <;> omega
  -- what the law wants
  have want : 0 < x ∨ 0 < y → (if 99 < (if x = 0 then (1 : Int) else min99 x) * (if y = 0 then (1 : Int) else min99 y) then 99 else (if x = 0 then (1 : Int) else min99 x) * (if y = 0 then (1 : Int) else min99 y)) = (if min99 x = 0 ∨ min99 y = 0 then min99 x + min99 y else min99 (min99 x * min99 y)) := fun h => by
    show min99 _ = _
    by_cases hx0 : x = 0
    · subst hx0
      have e0 : min99 ((0 : Nat) : Int) = 0 := by decide
      have hy0 : ¬ y = 0 := by omega
      have hR : (if min99 ((0 : Nat) : Int) = 0 ∨ min99 y = 0 then min99 ((0 : Nat) : Int) + min99 y else min99 (min99 ((0 : Nat) : Int) * min99 y)) = min99 y := by rw [if_pos (.inl e0), e0, Int.zero_add]
      rw [hR, if_pos rfl, if_neg hy0, Int.one_mul, min99_id my.2]
    · by_cases hy0 : y = 0
      · subst hy0
        have e0 : min99 ((0 : Nat) : Int) = 0 := by decide
        have hR : (if min99 x = 0 ∨ min99 ((0 : Nat) : Int) = 0 then min99 x + min99 ((0 : Nat) : Int) else min99 (min99 x * min99 ((0 : Nat) : Int))) = min99 x := by rw [if_pos (.inr e0), e0, Int.add_zero]
        rw [hR, if_neg hx0, if_pos rfl, Int.mul_one, min99_id mx.2]
      · rw [if_neg hx0, if_neg hy0, if_neg (by rw [z0, z0]; omega)]
  have hin := hmul (pos hx).1 (pos hx).2 (pos hy).1 (pos hy).2
  refine ⟨fun x15 _ wc => x15 = (if min99 x = 0 ∨ min99 y = 0 then min99 x + min99 y else min99 (min99 x * min99 y)) ∧ wc = w11, br_or0' (fun h => ⟨inI64 (by omega) (by omega), 0, want (by simpa using h), rfl⟩) fun h => ⟨0, ?_, rfl⟩, ?_⟩
  · have h : x = 0 ∧ y = 0 := by simp at h; omega
    rw [h.1, h.2]; decide
  rintro _ _ wc ⟨rfl, rfl⟩
  refine (number_does hx).imp ?_
  rintro e w63 ⟨s63, rfl, h63, x63⟩
  have n63 := L_len s63
  rw [h63] at n63
  have g463 := g4.ext x63
  have hfeed2 := feeds_does g463 (Keys.fresh _) (str := s63 ++ (({ data := #[120] } : ByteArray))) (ks := digN 4 x ++ [120]) (by rw [L_append, h63]; rfl) (by simp; omega)
  rw [feeds_plain hx] at hfeed2
  have l11 := B11.lt
  have z63 := x63.size
  have X63 := X11.thn x63
  have z40 := X40.size
  have pt1 : ∀ z, PT g kb ab z → w.heap.size ≤ z := fun z hz => by
    rcases (g6 z hz).1 with h | h
    · exact pt0 z h
    · omega
  refine ⟨_, rfl, by omega, FeedR.use hfeed2 (fun z hz => g463.lt hz) fun b14 w14 kb2 ab2 sk2 sm2 pk2 ca2 B14 k1 k2 k3 k4 k5 k6 k7 => ?_⟩
  have X14 := own_ext X63 pt1 k5
  have B1114 := (B11.ext x63).upd k5 fun e => (g6 _ e).2 rfl
  refine tru rfl ⟨_, B1114.cell 2 rfl, tru (by rw [L_eq, g1]; simp) ⟨_, B1114.cell 3 rfl, tru (by rw [L_eq, g2]; rfl) ⟨_, B1114.cell 1 rfl, tru (by simp) (tru rfl ⟨_, B14.cell 2 rfl, tru (by rw [L_eq, k1]; rfl) ⟨_, B14.cell 1 rfl, ?_, X14⟩⟩)⟩⟩⟩
  show Ending.returned (.bool (min99 x == min99 x)) = _
  simp
end
end Go.Proofs.Yteggcicicdcnlaa
