/-
  Letters: rows side by side, letters' bytes: the statements' functions answer true.
-/
import Derived.Test.YtgfdgopmbfljeaaUtfPure2
import Derived.Test.YtgfdgopmbfljeaaUtfLaws
namespace Go.Vc
open Go.RowKit
theorem brr {b : Bool} {A B : Prop} (h1 : b = true → A) (h2 : b = false → B) : Br b A B := ⟨h1, h2⟩
theorem fd6 (a : Int) : a.fdiv (2 ^ 6) = a / 64 := Int.fdiv_eq_ediv_of_nonneg _ (by decide)
theorem fd12 (a : Int) : a.fdiv (2 ^ 12) = a / 4096 := Int.fdiv_eq_ediv_of_nonneg _ (by decide)
theorem fd18 (a : Int) : a.fdiv (2 ^ 18) = a / 262144 := Int.fdiv_eq_ediv_of_nonneg _ (by decide)
theorem a63 {a : Int} (h0 : 0 ≤ a) (h1 : a ≤ 1114111) : bits .and .i64 a 63 = a % 64 := by
  obtain ⟨m, rfl⟩ := Int.eq_ofNat_of_zero_le h0
  have := and_mask m 6 (by omega) (by decide)
  have e : (((2 ^ 6 - 1 : Nat) : Nat) : Int) = 63 := rfl
  rw [e] at this
  rw [this]
  omega
theorem i64_tail : ∀ c : Fin 64, bits .or .i64 128 (c.val : Int) = ((128 + c.val : Nat) : Int) := by decide +kernel
theorem i64_c0 : ∀ c : Fin 32, bits .or .i64 192 (c.val : Int) = ((192 + c.val : Nat) : Int) := by decide +kernel
theorem i64_e0 : ∀ c : Fin 16, bits .or .i64 224 (c.val : Int) = ((224 + c.val : Nat) : Int) := by decide +kernel
theorem i64_f0 : ∀ c : Fin 8, bits .or .i64 240 (c.val : Int) = ((240 + c.val : Nat) : Int) := by decide +kernel
theorem i64_x : ∀ c : Fin 128, bits .xor .i64 (c.val : Int) 32 = if c.val % 64 < 32 then (c.val : Int) + 32 else (c.val : Int) - 32 := by decide +kernel
theorem fin_of {n : Nat} {y : Int} (h0 : 0 ≤ y) (h1 : y < n) : ∃ m : Fin n, y = (m.val : Int) := ⟨⟨y.toNat, by omega⟩, by simp; omega⟩
theorem orT {y : Int} (h0 : 0 ≤ y) (h1 : y < 64) : bits .or .i64 128 y = 128 + y := by obtain ⟨m, rfl⟩ := fin_of (n := 64) h0 h1; rw [i64_tail]; omega
theorem orC {y : Int} (h0 : 0 ≤ y) (h1 : y < 32) : bits .or .i64 192 y = 192 + y := by obtain ⟨m, rfl⟩ := fin_of (n := 32) h0 h1; rw [i64_c0]; omega
theorem orE {y : Int} (h0 : 0 ≤ y) (h1 : y < 16) : bits .or .i64 224 y = 224 + y := by obtain ⟨m, rfl⟩ := fin_of (n := 16) h0 h1; rw [i64_e0]; omega
theorem orF {y : Int} (h0 : 0 ≤ y) (h1 : y < 8) : bits .or .i64 240 y = 240 + y := by obtain ⟨m, rfl⟩ := fin_of (n := 8) h0 h1; rw [i64_f0]; omega
theorem uT {y : Int} (h0 : 0 ≤ y) (h1 : y < 64) : bits .or .u8 128 y = 128 + y := by obtain ⟨m, rfl⟩ := fin_of (n := 64) h0 h1; rw [u8_tail]; omega
theorem uC {y : Int} (h0 : 0 ≤ y) (h1 : y < 32) : bits .or .u8 192 y = 192 + y := by obtain ⟨m, rfl⟩ := fin_of (n := 32) h0 h1; rw [u8_c0]; omega
theorem uE {y : Int} (h0 : 0 ≤ y) (h1 : y < 16) : bits .or .u8 224 y = 224 + y := by obtain ⟨m, rfl⟩ := fin_of (n := 16) h0 h1; rw [u8_e0]; omega
theorem uF {y : Int} (h0 : 0 ≤ y) (h1 : y < 8) : bits .or .u8 240 y = 240 + y := by obtain ⟨m, rfl⟩ := fin_of (n := 8) h0 h1; rw [u8_f0]; omega
theorem wu8 {y : Int} (h0 : 0 ≤ y) (h1 : y ≤ 255) : IntKind.wrap .u8 y = y := wrap_in ⟨h0, h1⟩
def flipF (r : Int) : Int := if 97 ≤ r ∧ r ≤ 122 then r - 32 else if 65 ≤ r ∧ r ≤ 90 then r + 32 else r
theorem flipF_flipF (r : Int) : flipF (flipF r) = r := by
  unfold flipF
  repeat' split
  all_goals omega
theorem flip_xor {r : Int} (h : 97 ≤ r ∧ r ≤ 122 ∨ 65 ≤ r ∧ r ≤ 90) : bits .xor .i64 r 32 = flipF r := by
  obtain ⟨m, rfl⟩ := fin_of (n := 128) (y := r) (by omega) (by omega)
  rw [i64_x]
  unfold flipF
  repeat' split
  all_goals omega
def classF (r : Int) : Int := if r = 9 ∨ r = 10 ∨ r = 13 ∨ r = 32 then 0 else if (97 ≤ r ∧ r ≤ 122) ∨ (65 ≤ r ∧ r ≤ 90) ∨ (48 ≤ r ∧ r ≤ 57) ∨ r = 95 ∨ r > 127 then 1 else 2
end Go.Vc
namespace Go.Proofs.Ytgfdgopmbfljeaa
open Go.RowKit Go.Vc
section
variable {w : World}
theorem tail_does (r : Int) (h0 : 0 ≤ r) (h1 : r ≤ 1114111) : Does Try.prog 29 #[.int .i64 r] w fun e w' => e = .returned (.int .u8 (128 + r % 64)) ∧ w' = w := by
  apply f29_does
  refine ⟨?_, rfl⟩
  rw [a63 h0 h1, wu8 (by omega) (by omega), uT (by omega) (by omega)]
/-- Bytes that a call gives out. -/
def Gives (w : World) (xs : List Int) (e : Ending) (w' : World) : Prop := ∃ p, e = .returned (.slice p xs.length xs.length) ∧ Ints .u8 w' (fun _ => True) p xs ∧ Ext w w'
theorem gives_new {w w' : World} {b : Nat} {xs : List Int} {T : TypeId} (h : NewBlk w b (xs.map (Value.int .u8)) T w') (hk : ∀ x ∈ xs, InK .u8 x) : Gives w xs (.returned (.slice (some ⟨b, 0, none⟩) xs.length xs.length)) w' :=
  ⟨_, rfl, (h.ints xs rfl hk).any, h.ext⟩
theorem gives_nil (w : World) : Gives w [] (.returned (.slice none 0 0)) w := ⟨none, rfl, RS.nil, Upd.refl _ _⟩
theorem gives_as {w w' : World} {xs ys : List Int} {e : Ending} (h : Gives w ys e w') (he : xs = ys) : Gives w xs e w' := by rw [he]; exact h
theorem encode_does (r : Int) : Does Try.prog 19 #[.int .i64 r] w (Gives w (encF r)) := by
  apply f19_does
  refine (may_does r).imp ?_
  rintro e w5 ⟨rfl, rfl⟩
  have hin := encF_inK (r := r)
  refine ⟨_, rfl, brr (fun j => ?_) fun j => ?_⟩
  · have j : ¬ mayR r = true := by simpa using j
    exact gives_as (gives_nil _) (encF_nil.2 j)
  have j : mayR r = true := by simpa using j
  have hr := mayR_iff.1 j
  unfold encF at hin ⊢
  rw [if_pos j] at hin ⊢
  refine brr (fun j1 => ?_) fun j1 => ?_
  · have j1 := of_decide_eq_true j1
    rw [if_pos j1] at hin ⊢
    intro b w' hb
    rw [wu8 (by omega) (by omega)] at hb
    exact gives_new (xs := [r]) hb hin
  have j1 := of_decide_eq_false j1
  rw [if_neg j1] at hin ⊢
  refine brr (fun j2 => ⟨by decide, ?_⟩) fun j2 => ?_
  · have j2 := of_decide_eq_true j2
    rw [if_pos j2] at hin ⊢
    refine (tail_does r (by omega) (by omega)).imp ?_
    rintro e w6 ⟨rfl, rfl⟩
    refine ⟨_, rfl, fun b w' hb => ?_⟩
    rw [fd6, wu8 (by omega) (by omega), uC (by omega) (by omega)] at hb
    exact gives_new (xs := [192 + r / 64, 128 + r % 64]) hb hin
  have j2 := of_decide_eq_false j2
  rw [if_neg j2] at hin ⊢
  refine brr (fun j3 => ⟨by decide, by decide, ?_⟩) fun j3 => ⟨by decide, by decide, ?_⟩
  · have j3 := of_decide_eq_true j3
    rw [if_pos j3] at hin ⊢
    rw [fd6, fd12]
    refine (tail_does (r / 64) (by omega) (by omega)).imp ?_
    rintro e w6 ⟨rfl, rfl⟩
    refine ⟨_, rfl, (tail_does r (by omega) (by omega)).imp ?_⟩
    rintro e w7 ⟨rfl, rfl⟩
    refine ⟨_, rfl, fun b w' hb => ?_⟩
    rw [wu8 (by omega) (by omega), uE (by omega) (by omega)] at hb
    exact gives_new (xs := [224 + r / 4096, 128 + r / 64 % 64, 128 + r % 64]) hb hin
  have j3 := of_decide_eq_false j3
  rw [if_neg j3] at hin ⊢
  rw [fd6, fd12, fd18]
  refine (tail_does (r / 4096) (by omega) (by omega)).imp ?_
  rintro e w6 ⟨rfl, rfl⟩
  refine ⟨_, rfl, by decide, (tail_does (r / 64) (by omega) (by omega)).imp ?_⟩
  rintro e w6 ⟨rfl, rfl⟩
  refine ⟨_, rfl, (tail_does r (by omega) (by omega)).imp ?_⟩
  rintro e w7 ⟨rfl, rfl⟩
  refine ⟨_, rfl, fun b w' hb => ?_⟩
  rw [wu8 (by omega) (by omega), uF (by omega) (by omega)] at hb
  exact gives_new (xs := [240 + r / 262144, 128 + r / 4096 % 64, 128 + r / 64 % 64, 128 + r % 64]) hb hin
theorem rencode_tail {r : Int} (hm : mayR r = true) :
  Br (decide (r < 128))
  (∀ b w', NewBlk w b [.int .u8 (IntKind.wrap .u8 r)] 5 w' → Gives w (encF r) (.returned (.slice (some ⟨b, 0, none⟩) 1 1)) w')
  (Br (decide (r < 2048))
  ((0 : Int) ≤ 6 ∧ ∀ b w', NewBlk w b [.int .u8 (IntKind.wrap .u8 (bits .or .i64 192 (r.fdiv (2 ^ 6)))), .int .u8 (IntKind.wrap .u8 (bits .or .i64 128 (bits .and .i64 r 63)))] 5 w' →
  Gives w (encF r) (.returned (.slice (some ⟨b, 0, none⟩) 2 2)) w')
  (Br (decide (r < 65536))
  ((0 : Int) ≤ 12 ∧ (0 : Int) ≤ 6 ∧ ∀ b w', NewBlk w b [.int .u8 (IntKind.wrap .u8 (bits .or .i64 224 (r.fdiv (2 ^ 12)))), .int .u8 (IntKind.wrap .u8 (bits .or .i64 128 (bits .and .i64 (r.fdiv (2 ^ 6)) 63))), .int .u8 (IntKind.wrap .u8 (bits .or .i64 128 (bits .and .i64 r 63)))] 5 w' →
  Gives w (encF r) (.returned (.slice (some ⟨b, 0, none⟩) 3 3)) w')
  ((0 : Int) ≤ 18 ∧ (0 : Int) ≤ 12 ∧ (0 : Int) ≤ 6 ∧ ∀ b w', NewBlk w b [.int .u8 (IntKind.wrap .u8 (bits .or .i64 240 (r.fdiv (2 ^ 18)))), .int .u8 (IntKind.wrap .u8 (bits .or .i64 128 (bits .and .i64 (r.fdiv (2 ^ 12)) 63))), .int .u8 (IntKind.wrap .u8 (bits .or .i64 128 (bits .and .i64 (r.fdiv (2 ^ 6)) 63))), .int .u8 (IntKind.wrap .u8 (bits .or .i64 128 (bits .and .i64 r 63)))] 5 w' →
  Gives w (encF r) (.returned (.slice (some ⟨b, 0, none⟩) 4 4)) w'))) := by
  have hr := mayR_iff.1 hm
  have hin := encF_inK (r := r)
  unfold encF at hin ⊢
  rw [if_pos hm] at hin ⊢
  refine brr (fun j1 => ?_) fun j1 => ?_
  · have j1 := of_decide_eq_true j1
    rw [if_pos j1] at hin ⊢
    intro b w' hb
    rw [wu8 (by omega) (by omega)] at hb
    exact gives_new (xs := [r]) hb hin
  have j1 := of_decide_eq_false j1
  rw [if_neg j1] at hin ⊢
  refine brr (fun j2 => ⟨by decide, ?_⟩) fun j2 => ?_
  · have j2 := of_decide_eq_true j2
    rw [if_pos j2] at hin ⊢
    intro b w' hb
    rw [fd6, a63 (by omega) (by omega), orC (by omega) (by omega), orT (by omega) (by omega), wu8 (by omega) (by omega), wu8 (by omega) (by omega)] at hb
    exact gives_new (xs := [192 + r / 64, 128 + r % 64]) hb hin
  have j2 := of_decide_eq_false j2
  rw [if_neg j2] at hin ⊢
  refine brr (fun j3 => ⟨by decide, by decide, ?_⟩) fun j3 => ⟨by decide, by decide, by decide, ?_⟩
  · have j3 := of_decide_eq_true j3
    rw [if_pos j3] at hin ⊢
    intro b w' hb
    rw [fd6, fd12, a63 (by omega) (by omega), a63 (by omega) (by omega), orE (by omega) (by omega), orT (by omega) (by omega), orT (by omega) (by omega), wu8 (by omega) (by omega), wu8 (by omega) (by omega), wu8 (by omega) (by omega)] at hb
    exact gives_new (xs := [224 + r / 4096, 128 + r / 64 % 64, 128 + r % 64]) hb hin
  have j3 := of_decide_eq_false j3
  rw [if_neg j3] at hin ⊢
  intro b w' hb
  rw [fd6, fd12, fd18, a63 (by omega) (by omega), a63 (by omega) (by omega), a63 (by omega) (by omega), orF (by omega) (by omega), orT (by omega) (by omega), orT (by omega) (by omega), orT (by omega) (by omega), wu8 (by omega) (by omega), wu8 (by omega) (by omega), wu8 (by omega) (by omega), wu8 (by omega) (by omega)] at hb
  exact gives_new (xs := [240 + r / 262144, 128 + r / 4096 % 64, 128 + r / 64 % 64, 128 + r % 64]) hb hin
theorem rencode_does (r : Int) : Does Try.prog 21 #[.int .i64 r] w (Gives w (encF r)) := by
  apply f21_does
  have no : ¬ mayR r = true → Gives w (encF r) (.returned (.slice none 0 0)) w := fun h => gives_as (gives_nil _) (encF_nil.2 h)
  refine brr (fun j1 => no fun h => ?_) fun j1 => brr (fun j2 => no fun h => ?_) fun j2 => brr (fun j3 => brr (fun j4 => no fun h => ?_) fun j4 => rencode_tail ?_) fun j3 => rencode_tail ?_
  all_goals first | have h := mayR_iff.1 h | refine mayR_iff.2 ?_
  all_goals simp only [decide_eq_true_iff, decide_eq_false_iff_not] at j1
  all_goals try simp only [decide_eq_true_iff, decide_eq_false_iff_not] at j2
  all_goals try simp only [decide_eq_true_iff, decide_eq_false_iff_not] at j3
  all_goals try simp only [decide_eq_true_iff, decide_eq_false_iff_not] at j4
  all_goals omega
theorem between_does (r a b : Int) (ha : 0 ≤ a ∧ a ≤ 255) (hb : 0 ≤ b ∧ b ≤ 255) : Does Try.prog 30 #[.int .i64 r, .int .u8 a, .int .u8 b] w fun e w' => e = .returned (.bool (decide (a ≤ r ∧ r ≤ b))) ∧ w' = w := by
  apply f30_does
  refine ⟨inI64 (by omega) (by omega), brr (fun j => ⟨inI64 (by omega) (by omega), ?_, rfl⟩) fun j => ⟨?_, rfl⟩⟩
  · have j := of_decide_eq_true j
    congr 3
    exact propext ⟨fun h => ⟨j, h⟩, fun h => h.2⟩
  · have j := of_decide_eq_false j
    rw [decide_eq_false (by omega)]
local macro "clk" : tactic => `(tactic| (simp only [decide_eq_true_iff, decide_eq_false_iff_not, beq_iff_eq, beq_eq_false_iff_ne, ne_eq] at *; unfold classF; (repeat' split) <;> first | rfl | (exfalso; omega)))
theorem class_does (r : Int) : Does Try.prog 22 #[.int .i64 r] w fun e w' => e = .returned (.int .i64 (classF r)) ∧ w' = w := by
  apply f22_does
  have fin : ∀ {k : Int}, classF r = k → (Ending.returned (.int .i64 k) = .returned (.int .i64 (classF r)) ∧ w = w) := fun h => ⟨by rw [h], rfl⟩
  refine brr (fun j1 => fin (by clk)) fun j1 => brr (fun j2 => fin (by clk)) fun j2 => brr (fun j3 => fin (by clk)) fun j3 => brr (fun j4 => fin (by clk)) fun j4 => (between_does r 97 122 (by decide) (by decide)).imp ?_
  rintro e w1 ⟨rfl, rfl⟩
  refine ⟨_, rfl, brr (fun j5 => fin (by clk)) fun j5 => (between_does r 65 90 (by decide) (by decide)).imp ?_⟩
  rintro e w1 ⟨rfl, rfl⟩
  refine ⟨_, rfl, brr (fun j6 => fin (by clk)) fun j6 => (between_does r 48 57 (by decide) (by decide)).imp ?_⟩
  rintro e w1 ⟨rfl, rfl⟩
  exact ⟨_, rfl, brr (fun j7 => fin (by clk)) fun j7 => brr (fun j8 => fin (by clk)) fun j8 => brr (fun j9 => fin (by clk)) fun j9 => fin (by clk)⟩
theorem rclass_does (r : Int) : Does Try.prog 23 #[.int .i64 r] w fun e w' => e = .returned (.int .i64 (classF r)) ∧ w' = w := by
  apply f23_does
  have fin : ∀ {k : Int}, classF r = k → (Ending.returned (.int .i64 k) = .returned (.int .i64 (classF r)) ∧ w = w) := fun h => ⟨by rw [h], rfl⟩
  repeat' (refine brr (fun _ => ?_) (fun _ => ?_))
  all_goals refine fin ?_
  all_goals
    simp only [decide_eq_true_iff, decide_eq_false_iff_not, beq_iff_eq, beq_eq_false_iff_ne, ne_eq] at *
    unfold classF
    repeat' split
  all_goals first | rfl | (exfalso; omega)
theorem flip_does (r : Int) : Does Try.prog 24 #[.int .i64 r] w fun e w' => e = .returned (.int .i64 (flipF r)) ∧ w' = w := by
  apply f24_does
  refine (between_does r 97 122 (by decide) (by decide)).imp ?_
  rintro e w1 ⟨rfl, rfl⟩
  refine ⟨_, rfl, brr (fun j => ⟨?_, rfl⟩) fun j => (between_does r 65 90 (by decide) (by decide)).imp ?_⟩
  · rw [flip_xor (.inl (of_decide_eq_true j))]
  rintro e w1 ⟨rfl, rfl⟩
  refine ⟨_, rfl, brr (fun j => ⟨?_, rfl⟩) fun j' => ⟨?_, rfl⟩⟩
  · rw [flip_xor (.inr (of_decide_eq_true j))]
  · unfold flipF
    rw [if_neg (of_decide_eq_false j), if_neg (of_decide_eq_false j')]
theorem rflip_does (r : Int) : Does Try.prog 25 #[.int .i64 r] w fun e w' => e = .returned (.int .i64 (flipF r)) ∧ w' = w := by
  apply f25_does
  have fin : ∀ {k : Int}, flipF r = k → (Ending.returned (.int .i64 k) = .returned (.int .i64 (flipF r)) ∧ w = w) := fun h => ⟨by rw [h], rfl⟩
  refine brr (fun j1 => brr (fun j2 => ⟨?_, fin ?_⟩) fun j2 => brr (fun j3 => brr (fun j4 => ⟨?_, fin ?_⟩) fun j4 => fin ?_) fun j3 => fin ?_) fun j1 => brr (fun j3 => brr (fun j4 => ⟨?_, fin ?_⟩) fun j4 => fin ?_) fun j3 => fin ?_
  all_goals simp only [decide_eq_true_iff, decide_eq_false_iff_not, ge_iff_le] at *
  all_goals first | exact inI64 (by omega) (by omega) | unfold flipF
  all_goals repeat' split
  all_goals first | rfl | omega
end
section
variable {w : World} {ok ok' : Nat → Prop} {p q : Option Addr} {xs ys : List Int}
theorem joins_law (hx : Ints .u8 w ok p xs) (hy : Ints .u8 w ok' q ys) {l m : Nat} (hl : l = xs.length) (hm : m = ys.length) (c d : Nat) (hc : l ≤ c) (hd : m ≤ d) : Does Try.prog 6 #[.slice p l c, .slice q m d] w (Holds w) := by
  subst hl hm
  apply f6_does
  refine awake_does.imp ?_
  rintro e w8 ⟨rfl, x8⟩
  refine ⟨_, rfl, fls rfl (brr (fun _ => ⟨rfl, x8⟩) fun j => brr (fun _ => ⟨rfl, x8⟩) fun j' => ?_)⟩
  have j := of_decide_eq_false j
  have j' := of_decide_eq_false j'
  refine (copy_does (hx.ext x8) rfl c (by omega)).imp ?_
  rintro e w19 ⟨p19, c19, rfl, ho, x19⟩
  obtain ⟨p21, c21, w21, hr, ho', hu⟩ := append_b ho (hy.ext (Ext.thn x8 x19)) rfl d (by omega) x19.size
  have x21 : Ext w8 w21 := Own.ext_of ho hu x19 (Nat.le_refl _)
  have y21 := Ext.thn x8 x21
  have hin : ∀ x ∈ xs ++ ys, InK .u8 x := fun x hx' => by
    rcases List.mem_append.1 hx' with h | h
    · exact hx.inK _ h
    · exact hy.inK _ h
  have hz := ho'.any hin
  have hzc := ho'.cap.1
  have hzl : xs.length + ys.length = (xs ++ ys).length := by rw [List.length_append]
  refine ⟨_, _, _, rfl, p21, _, c21, w21, hr, (count_does (hx.ext y21) rfl c hc (by omega)).imp ?_⟩
  rintro e w23 ⟨rfl, x23⟩
  have y23 := Ext.thn y21 x23
  refine ⟨_, rfl, (count_does (hy.ext y23) rfl d hd (by omega)).imp ?_⟩
  rintro e w25 ⟨rfl, x25⟩
  have z25 := Ext.thn x23 x25
  have b1 := posL_len_le xs xs.length
  have b2 := posL_len_le ys ys.length
  have b3 := posL_len_le (xs ++ ys) (xs ++ ys).length
  refine ⟨_, rfl, inI64 (by omega) (by omega), (count_does (hz.ext z25) hzl c21 hzc (by omega)).imp ?_⟩
  rintro e w28 ⟨rfl, x28⟩
  have z28 := Ext.thn z25 x28
  have key : (∃ k : Nat, 1 ≤ k ∧ k ≤ 3 ∧ (posL (xs ++ ys) (xs ++ ys).length).length + k = (posL xs xs.length).length + (posL ys ys.length).length ∧ begF (xs ++ ys) (xs.length : Int) = false) ∨ ((posL (xs ++ ys) (xs ++ ys).length).length = (posL xs xs.length).length + (posL ys ys.length).length ∧ begF (xs ++ ys) (xs.length : Int) = true) := by
    have hb : begF (xs ++ ys) (xs.length : Int) = !decide (ins (xs ++ ys) xs.length) := by
      unfold begF
      rw [decide_eq_true (by omega), Int.toNat_natCast]; rfl
    by_cases h : ∃ j, Cross xs ys j
    · left
      obtain ⟨j0, h0⟩ := h
      have h1 := count_cross h0
      have h2 := sevN_le ((xs ++ ys).drop j0)
      unfold cnt at h1
      rw [hzl] at h1
      have h3 := h0.1
      have h4 := h0.2
      refine ⟨sevN ((xs ++ ys).drop j0) - 1, by omega, by omega, h1, ?_⟩
      rw [hb, decide_eq_true (ins_seam.2 ⟨j0, h0⟩)]; rfl
    · right
      have h1 := count_none h
      unfold cnt at h1
      rw [hzl] at h1
      refine ⟨h1, ?_⟩
      rw [hb, decide_eq_false (fun k => h (ins_seam.1 k))]; rfl
  refine ⟨_, rfl, fls (by rw [decide_eq_false_iff_not]; rcases key with ⟨k, h1, h2, h3, _⟩ | ⟨h3, _⟩ <;> omega) ((count_does (hz.ext z28) hzl c21 hzc (by omega)).imp ?_)⟩
  rintro e w33 ⟨rfl, x33⟩
  have z33 := Ext.thn z28 x33
  refine ⟨_, rfl, inI64 (by omega) (by omega), fls (by rw [decide_eq_false_iff_not]; rcases key with ⟨k, h1, h2, h3, _⟩ | ⟨h3, _⟩ <;> omega) ((begins_does (hz.ext z33) hzl c21 hzc (by omega) _ (inI64 (by omega) (by omega))).imp ?_)⟩
  rintro e w41 ⟨rfl, x41⟩
  have z41 := Ext.thn z33 x41
  refine ⟨_, rfl, (count_does (hz.ext z41) hzl c21 hzc (by omega)).imp ?_⟩
  rintro e w43 ⟨rfl, x43⟩
  have z43 := Ext.thn z41 x43
  refine ⟨_, rfl, fls ?_ ?_⟩
  · rcases key with ⟨k, h1, h2, h3, h4⟩ | ⟨h3, h4⟩
    · rw [h4]
      have : (((posL (xs ++ ys) (xs ++ ys).length).length : Int) == (posL xs xs.length).length + (posL ys ys.length).length) = false := by rw [beq_eq_false_iff_ne]; omega
      rw [this]; rfl
    · rw [h4]
      have : (((posL (xs ++ ys) (xs ++ ys).length).length : Int) == (posL xs xs.length).length + (posL ys ys.length).length) = true := by rw [beq_iff_eq]; omega
      rw [this]; rfl
  refine ⟨fun x n wl => ∃ i : Nat, x = i ∧ n = xs.length - i ∧ i ≤ xs.length ∧ Ext w43 wl, ⟨_, 0, rfl, rfl, Nat.zero_le _, Upd.refl _ _⟩, ?_⟩
  rintro _ nn wl ⟨i, rfl, rfl, hi, xl⟩
  refine ⟨inI64 (by omega) (by omega), brr (fun jj => ?_) fun jj => ⟨rfl, Ext.thn (Ext.thn y21 z43) xl⟩⟩
  have jj := of_decide_eq_true jj
  refine (begins_does (hz.ext (Ext.thn z43 xl)) hzl c21 hzc (by omega) _ (inI64 (by omega) (by omega))).imp ?_
  rintro e w56 ⟨rfl, x56⟩
  refine ⟨_, rfl, (begins_does (hx.ext (Ext.thn (Ext.thn y21 z43) (Ext.thn xl x56))) rfl c hc (by omega) _ (inI64 (by omega) (by omega))).imp ?_⟩
  rintro e w59 ⟨rfl, x59⟩
  refine ⟨_, rfl, fls ?_ ⟨inI64 (by omega) (by omega), _, ?_, i + 1, by omega, rfl, by omega, Ext.thn xl (Ext.thn x56 x59)⟩⟩
  · have hf := ins_far (b := ys) (show i + 3 < xs.length by omega)
    have : begF (xs ++ ys) (i : Int) = begF xs (i : Int) := by
      have e1 : decide ((0 : Int) ≤ (i : Int) ∧ (i : Int) ≤ (xs ++ ys).length) = true := decide_eq_true (by omega)
      have e2 : decide ((0 : Int) ≤ (i : Int) ∧ (i : Int) ≤ xs.length) = true := decide_eq_true (by omega)
      unfold begF
      rw [e1, e2, Int.toNat_natCast]
      simp only [hf]
    rw [this]; simp
  · omega
theorem encodes_law (hy : Ints .u8 w ok q ys) {m : Nat} (hm : m = ys.length) (d : Nat) (hd : m ≤ d) (r : Int) (hr : InK .i64 r) : Does Try.prog 7 #[.int .i64 r, .slice q m d] w (Holds w) := by
  subst hm
  apply f7_does
  refine awake_does.imp ?_
  rintro e w8 ⟨rfl, x8⟩
  refine ⟨_, rfl, fls rfl (brr (fun _ => ⟨rfl, x8⟩) fun j => ?_)⟩
  have j := of_decide_eq_false j
  refine (encode_does r).imp ?_
  rintro e w14 ⟨p14, rfl, h14, x14⟩
  have hl4 := encF_len r
  refine ⟨_, _, _, rfl, (rencode_does r).imp ?_⟩
  rintro e w17 ⟨p17, rfl, h17, x17⟩
  have h14 := h14.ext x17
  refine ⟨_, _, _, rfl, (same_does h14 h17 rfl rfl _ _ (by omega)).imp ?_⟩
  rintro e w18 ⟨rfl, x18⟩
  refine ⟨_, rfl, fls (by simp) ((class_does r).imp ?_)⟩
  rintro e w18 ⟨rfl, rfl⟩
  refine ⟨_, rfl, (rclass_does r).imp ?_⟩
  rintro e w18 ⟨rfl, rfl⟩
  refine ⟨_, rfl, fls (by simp) ((flip_does r).imp ?_)⟩
  rintro e w18 ⟨rfl, rfl⟩
  refine ⟨_, rfl, (rflip_does r).imp ?_⟩
  rintro e w18 ⟨rfl, rfl⟩
  refine ⟨_, rfl, fls (by simp) ((flip_does r).imp ?_)⟩
  rintro e w18 ⟨rfl, rfl⟩
  refine ⟨_, rfl, (flip_does _).imp ?_⟩
  rintro e w18 ⟨rfl, rfl⟩
  have y18 := Ext.thn x8 (Ext.thn x14 (Ext.thn x17 x18))
  refine ⟨_, rfl, fls (by rw [flipF_flipF]; simp) (brr (fun j0 => ?_) fun j0 => ?_)⟩
  · have hn : encF r = [] := by
      have : ((encF r).length : Int) = 0 := by simpa using j0
      exact List.length_eq_zero_iff.1 (by omega)
    have hn := encF_nil.1 hn
    rw [mayR_iff] at hn
    refine brr (fun _ => ⟨rfl, y18⟩) fun a1 => brr (fun _ => ⟨rfl, y18⟩) fun a2 => brr (fun a3 => ⟨?_, y18⟩) fun a3 => ⟨?_, y18⟩
    all_goals simp only [decide_eq_true_iff, decide_eq_false_iff_not] at a1 a2 a3
    · rw [decide_eq_true (by omega)]
    · exfalso; omega
  have hm : mayR r = true := by
    by_cases h : mayR r = true
    · exact h
    · rw [encF_nil.2 h] at j0; simp at j0
  refine (copy_does (h14.ext x18) rfl _ (by omega)).imp ?_
  rintro e w60 ⟨p60, c60, rfl, ho, x60⟩
  obtain ⟨p62, c62, w62, hr', ho', hu⟩ := append_b ho (hy.ext (Ext.thn y18 x60)) rfl d (by omega) x60.size
  have x62 : Ext w18 w62 := Own.ext_of ho hu x60 (Nat.le_refl _)
  have hin : ∀ x ∈ encF r ++ ys, InK .u8 x := fun x hx' => by
    rcases List.mem_append.1 hx' with h | h
    · exact encF_inK _ h
    · exact hy.inK _ h
  refine ⟨_, _, _, rfl, p62, _, c62, w62, hr', (next_does (ho'.any hin) (by rw [List.length_append]) c62 ho'.cap.1 (by rw [List.length_append]; omega) 0).imp ?_⟩
  rintro e w63 ⟨rfl, x63⟩
  have hn := next_enc (a := []) (d := ys) hm
  have hn : nextF (encF r ++ ys) 0 = (r, (((encF r).length : Nat) : Int)) := hn
  rw [hn]
  exact ⟨_, _, rfl, tru (by simp) ⟨by simp, Ext.thn y18 (Ext.thn x62 x63)⟩⟩
/-! ### All letters of a row -/
def encs (xs : List Int) : List Int := xs.flatMap encF
def nmay (xs : List Int) : Nat := (xs.filter fun r => mayR r).length
theorem encs_take {k : Nat} (h : k < xs.length) : encs (xs.take (k + 1)) = encs (xs.take k) ++ encF xs[k] := by
  unfold encs
  rw [List.take_succ_eq_append_getElem h, List.flatMap_append]
  simp
theorem nmay_take {k : Nat} (h : k < xs.length) : nmay (xs.take (k + 1)) = nmay (xs.take k) + if mayR xs[k] = true then 1 else 0 := by
  unfold nmay
  rw [List.take_succ_eq_append_getElem h, List.filter_append, List.length_append]
  by_cases hh : mayR xs[k] = true <;> simp [hh]
theorem encs_len (k : Nat) : (encs (xs.take k)).length ≤ 4 * k := by
  induction k with
  | zero => simp [encs]
  | succ k ih =>
    rcases Nat.lt_or_ge k xs.length with h | h
    · rw [encs_take h, List.length_append]
      have := encF_len xs[k]
      omega
    · rw [List.take_of_length_le (by omega)]
      rw [List.take_of_length_le (by omega)] at ih
      omega
theorem encs_inK (l : List Int) : ∀ x ∈ encs l, InK .u8 x := fun x hx => by
  obtain ⟨r, _, h⟩ := List.mem_flatMap.1 hx
  exact encF_inK _ h
theorem encs_split {k : Nat} (h : k < xs.length) : ∃ d, encs xs = encs (xs.take k) ++ (encF xs[k] ++ d) := by
  refine ⟨encs (xs.drop (k + 1)), ?_⟩
  conv => lhs; rw [← List.take_append_drop k xs, List.drop_eq_getElem_cons h]
  unfold encs
  rw [List.flatMap_append, List.flatMap_cons]
theorem encs_pos : ∀ k, k ≤ xs.length → ¬ ins (encs xs) (encs (xs.take k)).length ∧ (posL (encs xs) (encs (xs.take k)).length).length = nmay (xs.take k)
  | 0, _ => ⟨ins_zero _, rfl⟩
  | k + 1, h => by
    obtain ⟨h1, h2⟩ := encs_pos k (by omega)
    rw [encs_take (by omega), nmay_take (by omega), List.length_append]
    obtain ⟨d, hd⟩ := encs_split (xs := xs) (k := k) (by omega)
    by_cases hm : mayR xs[k] = true
    · have hn := nx_enc (a := encs (xs.take k)) (d := d) hm
      rw [← hd] at hn
      have h3 := ins_next h1
      have h4 := posL_next h1
      rw [hn] at h3 h4
      refine ⟨h3, ?_⟩
      rw [h4, List.length_append, h2, if_pos hm]; rfl
    · rw [encF_nil.2 hm, List.length_nil, Nat.add_zero, if_neg hm]
      exact ⟨h1, h2⟩
theorem all_law (hx : Ints .i64 w ok p xs) {l : Nat} (hl : l = xs.length) (c : Nat) (hc : l ≤ c) : Does Try.prog 8 #[.slice p l c] w (Holds w) := by
  subst hl
  apply f8_does
  refine awake_does.imp ?_
  rintro e w11 ⟨rfl, x11⟩
  refine ⟨_, rfl, fls rfl (brr (fun _ => ⟨rfl, x11⟩) fun j => ?_)⟩
  have j := of_decide_eq_false j
  have el := encs_len (xs := xs)
  refine ⟨fun p3 l3 c3 x y n wl => ∃ k : Nat, y = k ∧ n = xs.length - k ∧ k ≤ xs.length ∧ x = (nmay (xs.take k) : Nat) ∧ l3 = (encs (xs.take k)).length ∧ Own wl w11.heap.size 5 1 p3 l3 c3 ((encs (xs.take k)).map (Value.int .u8)) ∧ Ext w11 wl,
    ⟨_, 0, rfl, rfl, Nat.zero_le _, rfl, rfl, own_nil _ _ _ _, Upd.refl _ _⟩, ?_⟩
  rintro p3 _ c3 _ _ nn wl ⟨k, rfl, rfl, hk, rfl, rfl, ho, xl⟩
  have hel := el k
  have hnl : nmay (xs.take k) ≤ k := by
    unfold nmay
    have := List.length_filter_le (fun r => mayR r) (xs.take k)
    rw [List.length_take] at this
    omega
  refine brr (fun jj => ?_) fun jj => ?_
  · have jj := of_decide_eq_true jj
    have hlt : k < xs.length := by omega
    obtain ⟨b, o, hp, hcl⟩ := (hx.ext (Ext.thn x11 xl)).at k hlt
    refine ⟨⟨by omega, by omega⟩, b, o, hp, _, hcl, (encode_does _).imp ?_⟩
    rintro e w26 ⟨p26, rfl, h26, x26⟩
    have h4 := encF_len xs[k]
    obtain ⟨p', c', w', hr, ho', hu⟩ := append_b (ho.ext x26) h26 rfl (encF xs[k]).length (by omega) (by have := xl.size; have := x26.size; omega)
    have x' : Ext w11 w' := Own.ext_of (ho.ext x26) hu (Ext.thn xl x26) (Nat.le_refl _)
    have hne : (encF xs[k]).length = 0 ↔ ¬ mayR xs[k] = true := by rw [List.length_eq_zero_iff]; exact encF_nil
    have step : ∀ {y : Int}, y = (nmay (xs.take (k + 1)) : Nat) → InK .i64 ((k : Int) + 1) ∧ ∃ ml, ml < xs.length - k ∧ ∃ k' : Nat, (k : Int) + 1 = k' ∧ ml = xs.length - k' ∧ k' ≤ xs.length ∧ y = (nmay (xs.take k') : Nat) ∧ (encs (xs.take k)).length + (encF xs[k]).length = (encs (xs.take k')).length ∧ Own w' w11.heap.size 5 1 p' ((encs (xs.take k)).length + (encF xs[k]).length) c' ((encs (xs.take k')).map (Value.int .u8)) ∧ Ext w11 w' := fun hy =>
      ⟨inI64 (by omega) (by omega), _, by omega, k + 1, by omega, rfl, by omega, hy, by rw [encs_take hlt, List.length_append], by rw [encs_take hlt]; exact ho', x'⟩
    refine ⟨_, _, _, rfl, brr (fun j1 => ⟨inI64 (by omega) (by omega), p', _, c', w', hr, step ?_⟩) fun j1 => ⟨p', _, c', w', hr, step ?_⟩⟩
    · have j1 := of_decide_eq_true j1
      have : mayR xs[k] = true := by
        by_cases h : mayR xs[k] = true
        · exact h
        · have := hne.2 h; omega
      rw [nmay_take hlt, if_pos this]; omega
    · have j1 := of_decide_eq_false j1
      have : ¬ mayR xs[k] = true := hne.1 (by omega)
      rw [nmay_take hlt, if_neg this]; omega
  have jj := of_decide_eq_false jj
  obtain rfl : k = xs.length := by omega
  rw [List.take_length] at *
  have hz := ho.any (encs_inK xs)
  have hzc := ho.cap.1
  have hzn := encs_pos xs.length (Nat.le_refl _) (xs := xs)
  rw [List.take_length] at hzn
  refine (count_does hz rfl c3 hzc (by omega)).imp ?_
  rintro e w36 ⟨rfl, x36⟩
  refine ⟨_, rfl, fls (by rw [hzn.2]; simp) ?_⟩
  refine ⟨fun x y n ww => ∃ k : Nat, y = k ∧ n = xs.length - k ∧ k ≤ xs.length ∧ x = ((encs (xs.take k)).length : Nat) ∧ Ext w36 ww, ⟨_, 0, rfl, rfl, Nat.zero_le _, rfl, Upd.refl _ _⟩, ?_⟩
  rintro _ _ nn ww ⟨k, rfl, rfl, hk, rfl, xw⟩
  have hel := el k
  have z := Ext.thn x36 xw
  have y := Ext.thn (Ext.thn x11 xl) z
  refine brr (fun jj => ?_) fun jj => ?_
  · have jj := of_decide_eq_true jj
    have hlt : k < xs.length := by omega
    obtain ⟨b, o, hp, hcl⟩ := (hx.ext y).at k hlt
    refine ⟨⟨by omega, by omega⟩, b, o, hp, _, hcl, (encode_does _).imp ?_⟩
    rintro e w49 ⟨p49, rfl, h49, x49⟩
    have h4 := encF_len xs[k]
    have hne : (encF xs[k]).length = 0 ↔ ¬ mayR xs[k] = true := by rw [List.length_eq_zero_iff]; exact encF_nil
    refine ⟨_, _, _, rfl, brr (fun j1 => ?_) fun j1 => ?_⟩
    · have j1 : (encF xs[k]).length = 0 := by
        have : ((encF xs[k]).length : Int) = 0 := by simpa using j1
        omega
      exact ⟨inI64 (by omega) (by omega), _, by omega, k + 1, by omega, rfl, by omega, by rw [encs_take hlt, List.length_append, j1]; rfl, Ext.thn xw x49⟩
    have hm : mayR xs[k] = true := by
      by_cases h : mayR xs[k] = true
      · exact h
      · rw [hne.2 h] at j1; simp at j1
    obtain ⟨dd, hd⟩ := encs_split (xs := xs) (k := k) hlt
    have hq := (encs_pos k (by omega) (xs := xs)).1
    have hn := nx_enc (a := encs (xs.take k)) (d := dd) hm
    have hv := next_enc (a := encs (xs.take k)) (d := dd) hm
    have hle := congrArg List.length hd
    rw [List.length_append, List.length_append] at hle
    rw [← hd] at hn hv
    refine (next_does (hz.ext (Ext.thn z x49)) rfl c3 hzc (by omega) _).imp ?_
    rintro e w55 ⟨rfl, x55⟩
    rw [hv]
    have z55 := Ext.thn (Ext.thn z x49) x55
    obtain ⟨b', o', hp', hcl'⟩ := (hx.ext (Ext.thn (Ext.thn x11 xl) z55)).at k hlt
    refine ⟨_, _, rfl, ⟨by omega, by omega⟩, b', o', hp', _, hcl', fls (by simp) ⟨inI64 (by omega) (by omega), (last_does (hz.ext z55) rfl c3 hzc (by omega) _).imp ?_⟩⟩
    rintro e w69 ⟨rfl, x69⟩
    have hlast := lastF_prev (xs := encs xs) (i := (encs (xs.take k)).length + (encF xs[k]).length) (by omega) hq (by rw [hn])
    rw [hn] at hlast
    have hcast : (((encs (xs.take k)).length + (encF xs[k]).length : Nat) : Int) = ((encs (xs.take k)).length : Int) + ((encF xs[k]).length : Int) := by omega
    rw [hcast] at hlast
    refine ⟨_, rfl, fls (by rw [hlast]; simp) ((begins_does (hz.ext (Ext.thn z55 x69)) rfl c3 hzc (by omega) _ (inI64 (by omega) (by omega))).imp ?_)⟩
    rintro e w76 ⟨rfl, x76⟩
    have hbg : begF (encs xs) ((encs (xs.take k)).length : Int) = true := by
      unfold begF
      rw [decide_eq_true (by omega), Int.toNat_natCast, decide_eq_false hq]; rfl
    refine ⟨_, rfl, fls (by rw [hbg]; rfl) ⟨inI64 (by omega) (by omega), inI64 (by omega) (by omega), _, ?_, k + 1, by omega, rfl, by omega, ?_, Ext.thn xw (Ext.thn x49 (Ext.thn x55 (Ext.thn x69 x76)))⟩⟩
    · omega
    · rw [encs_take hlt, List.length_append]; omega
  have jj := of_decide_eq_false jj
  obtain rfl : k = xs.length := by omega
  rw [List.take_length]
  exact ⟨by simp, y⟩
end
end Go.Proofs.Ytgfdgopmbfljeaa
