/-
  Letters: what each function of the code does.
-/
import Derived.Test.YtgfdgopmbfljeaaUtfCatch
import Derived.Test.YtgfdgopmbfljeaaBytes
namespace Go.Vc
open Go.RowKit
theorem i64_31 : ∀ c : Fin 256, bits .and .i64 (c.val : Int) 31 = ((c.val % 32 : Nat) : Int) := by decide +kernel
theorem i64_15 : ∀ c : Fin 256, bits .and .i64 (c.val : Int) 15 = ((c.val % 16 : Nat) : Int) := by decide +kernel
theorem i64_7 : ∀ c : Fin 256, bits .and .i64 (c.val : Int) 7 = ((c.val % 8 : Nat) : Int) := by decide +kernel
theorem byte_fin {c : Int} (h : InK .u8 c) : ∃ m : Fin 256, c = (m.val : Int) := by
  have h0 : 0 ≤ c := h.1
  have h1 : c ≤ 255 := h.2
  exact ⟨⟨c.toNat, by omega⟩, by simp; omega⟩
theorem b31 {c : Int} (h : InK .u8 c) : bits .and .i64 c 31 = c % 32 := by obtain ⟨m, rfl⟩ := byte_fin h; rw [i64_31]; omega
theorem b15 {c : Int} (h : InK .u8 c) : bits .and .i64 c 15 = c % 16 := by obtain ⟨m, rfl⟩ := byte_fin h; rw [i64_15]; omega
theorem b7 {c : Int} (h : InK .u8 c) : bits .and .i64 c 7 = c % 8 := by obtain ⟨m, rfl⟩ := byte_fin h; rw [i64_7]; omega
theorem c31 {c : Int} (h : InK .u8 c) : bits .and .u8 c 31 = c % 32 := by obtain ⟨m, rfl⟩ := byte_fin h; rw [u8_31]; omega
theorem c15 {c : Int} (h : InK .u8 c) : bits .and .u8 c 15 = c % 16 := by obtain ⟨m, rfl⟩ := byte_fin h; rw [u8_15]; omega
theorem c7 {c : Int} (h : InK .u8 c) : bits .and .u8 c 7 = c % 8 := by obtain ⟨m, rfl⟩ := byte_fin h; rw [u8_7]; omega
theorem c63 {c : Int} (h : InK .u8 c) : bits .and .u8 c 63 = c % 64 := by obtain ⟨m, rfl⟩ := byte_fin h; rw [u8_63]; omega
theorem c192 {c : Int} (h : InK .u8 c) : (bits .and .u8 c 192 == 128) = tl c := by
  obtain ⟨m, rfl⟩ := byte_fin h
  rw [u8_192, tl, decide_eq_decide]
  omega
theorem orSix {v c : Int} (h0 : 0 ≤ v) (h1 : v < 100000000) : bits .or .i64 (v * 2 ^ 6) (c % 64) = v * 64 + c % 64 := by
  obtain ⟨m, rfl⟩ := Int.eq_ofNat_of_zero_le h0
  have h2 : 0 ≤ c % 64 := by omega
  have h3 : c % 64 < 64 := by omega
  obtain ⟨y, hy⟩ := Int.eq_ofNat_of_zero_le h2
  rw [hy, or_six m y (by omega) (by omega)]
  omega
theorem restV_snoc (r : Int) (l : List Int) (c : Int) : restV r (l ++ [c]) = restV r l * 64 + c % 64 := by unfold restV; rw [List.foldl_append]; rfl
theorem restV_bd {r : Int} (h0 : 0 ≤ r) (h1 : r < 32) : ∀ {cs : List Int}, cs.length ≤ 3 → 0 ≤ restV r cs ∧ restV r cs < 8388608
  | [], _ => by show 0 ≤ r ∧ r < 8388608; omega
  | [a], _ => by simp only [restV, List.foldl]; omega
  | [a, b], _ => by simp only [restV, List.foldl]; omega
  | [a, b, c], _ => by simp only [restV, List.foldl]; omega
  | a :: b :: c :: d :: t, h => by simp at h
theorem restV_one {r : Int} : ∀ {cs : List Int}, cs.length = 1 → restV r cs < (r + 1) * 64
  | [a], _ => by show r * 64 + a % 64 < (r + 1) * 64; omega
theorem restV_three {r : Int} : ∀ {cs : List Int}, cs.length = 3 → r * 262144 ≤ restV r cs
  | [a, b, c], _ => by simp only [restV, List.foldl]; omega
theorem headC_bd {c : Int} (h : lenC c ≠ 0) : 0 ≤ headC c ∧ headC c < 32 := by
  unfold headC
  split
  · omega
  split <;> omega
/-- Which bytes begin a letter. -/
theorem lead_ok {c : Int} {t : List Int} {v : Int} {n : Nat} (h : sev (c :: t) = some (v, n)) : 194 ≤ c ∧ c ≤ 244 := by
  obtain ⟨c', t', hb, hn, h0, hl, ht, hv, h1, h2⟩ := sev_some h
  injection hb with e1 e2
  subst e1
  subst e2
  have hc := lenC_pos h0
  simp only [List.length_cons] at hl
  by_cases ha : c < 194
  · have hn2 : lenC c = 2 := by unfold lenC; rw [if_pos (by omega)]
    have := restV_one (r := headC c) (cs := t.take (n - 1)) (by rw [List.length_take]; omega)
    have hh : headC c ≤ 1 := by unfold headC; rw [if_pos hn2]; omega
    rw [← hv] at this
    rw [hn, hn2] at h1
    unfold leastN at h1
    rw [if_pos rfl] at h1
    omega
  by_cases hb : 244 < c
  · have hn4 : lenC c = 4 := by unfold lenC; rw [if_neg (by omega), if_neg (by omega), if_pos (by omega)]
    have := restV_three (r := headC c) (cs := t.take (n - 1)) (by rw [List.length_take]; omega)
    have hh : 5 ≤ headC c := by unfold headC; rw [hn4, if_neg (by decide), if_neg (by decide)]; omega
    rw [← hv] at this
    unfold mayR at h2
    rw [Bool.and_eq_true, decide_eq_true_iff] at h2
    omega
  omega
/-- The letter, and how many bytes it has; 0, 0: there is none. -/
def sevP (b : List Int) : Int × Nat := (sev b).getD (0, 0)
theorem sevP_n (b : List Int) : (sevP b).2 = sevN b := by
  unfold sevP sevN
  cases sev b <;> rfl
theorem sevP_none {b : List Int} (h : sev b = none) : sevP b = (0, 0) := by unfold sevP; rw [h]; rfl
theorem sevP_some {b : List Int} {x : Int × Nat} (h : sev b = some x) : sevP b = x := by unfold sevP; rw [h]; rfl
end Go.Vc
namespace Go.Proofs.Ytgfdgopmbfljeaa
open Go.RowKit Go.Vc
theorem may_does {w : World} (r : Int) : Does Try.prog 28 #[.int .i64 r] w fun e w' => e = .returned (.bool (mayR r)) ∧ w' = w := by
  apply f28_does
  unfold mayR
  refine ⟨fun j => ⟨fun j1 => ⟨fun j2 => ⟨?_, rfl⟩, fun j2 => ⟨?_, rfl⟩⟩, fun j1 => ⟨?_, rfl⟩⟩, fun j => ⟨?_, rfl⟩⟩
  · have j := of_decide_eq_true j; have j1 := of_decide_eq_true j1; have j2 := of_decide_eq_true j2
    rw [decide_eq_true (p := 0 ≤ r ∧ r ≤ 1114111) (by omega), decide_eq_true (p := r < 55296 ∨ r > 57343) (by omega)]; rfl
  · have j := of_decide_eq_true j; have j1 := of_decide_eq_true j1; have j2 := of_decide_eq_false j2
    rw [decide_eq_true (p := 0 ≤ r ∧ r ≤ 1114111) (by omega), Bool.true_and]
    congr 2
    rw [decide_eq_decide]; omega
  · have j1 := of_decide_eq_false j1
    rw [decide_eq_false (p := 0 ≤ r ∧ r ≤ 1114111) (by omega)]; rfl
  · have j := of_decide_eq_false j
    rw [decide_eq_false (p := 0 ≤ r ∧ r ≤ 1114111) (by omega)]; rfl
theorem follows_does {w : World} (c : Int) (h : InK .u8 c) : Does Try.prog 33 #[.int .u8 c] w fun e w' => e = .returned (.bool (tl c)) ∧ w' = w := by
  apply f33_does
  exact ⟨by rw [c192 h], rfl⟩
theorem must_does {w : World} (b : Bool) : Does Try.prog 32 #[.bool b] w fun e w' => w' = w ∧ (b = true ∧ e = .returned (.tuple #[]) ∨ b = false ∧ e = .panicked [{ v := .iface 43 (.agg #[]), recovered := false }]) := by
  apply f32_does
  cases b
  · exact tru rfl ⟨rfl, .inr ⟨rfl, rfl⟩⟩
  · exact fls rfl ⟨rfl, .inl ⟨rfl, rfl⟩⟩
theorem call_catch : callableB Try.prog 31 = true := by kernel_rfl
section
variable {K : World → Prop} {Kp : List PanicEntry → World → Prop} {b c : Nat} {w : World}
theorem leave_ok (h : K w) : LeavesV K Kp Try.prog ({ target := .fn (.func 31) #[.pointer (some ⟨b, 0, none⟩), .pointer (some ⟨c, 0, none⟩)], args := #[] } :: []) .returning w := by
  refine ⟨by simp, call_catch, (catch_idle b c w).mono ?_⟩
  rintro e u' w' ⟨rfl, rfl, rfl⟩
  exact h
theorem leave_panic (hbc : c ≠ b) {x y : Int} (hb : w.cell? ⟨b, 0, none⟩ = some (.int .i64 x)) (hc : w.cell? ⟨c, 0, none⟩ = some (.int .i64 y)) (kb : CanStore w b 0) (kc : CanStore w c 0)
    (h : ∀ w', Upd (fun z => z = b ∨ z = c) w w' → w'.cell? ⟨b, 0, none⟩ = some (.int .i64 0) → w'.cell? ⟨c, 0, none⟩ = some (.int .i64 0) → K w') :
    LeavesV K Kp Try.prog ({ target := .fn (.func 31) #[.pointer (some ⟨b, 0, none⟩), .pointer (some ⟨c, 0, none⟩)], args := #[] } :: []) (.panicking [{ v := .iface 43 (.agg #[]), recovered := false }]) w := by
  refine ⟨by simp, call_catch, (catch_panicking b c hbc x y w hb hc kb.2 kc.2).mono ?_⟩
  rintro e u' w' ⟨rfl, rfl, rfl⟩
  have xa : Ext w (w.alloc (.cells #[] 43)) := NewBlk.ext (b := w.heap.size) (cs := []) (T := 43) ⟨rfl, rfl⟩
  have s1 : Stored (w.alloc (.cells #[] 43)) b 0 (.int .i64 0) ((w.alloc (.cells #[] 43)).setCell ⟨b, 0, none⟩ (.int .i64 0)) := ⟨rfl⟩
  have s2 : Stored ((w.alloc (.cells #[] 43)).setCell ⟨b, 0, none⟩ (.int .i64 0)) c 0 (.int .i64 0) (((w.alloc (.cells #[] 43)).setCell ⟨b, 0, none⟩ (.int .i64 0)).setCell ⟨c, 0, none⟩ (.int .i64 0)) := ⟨rfl⟩
  have kc' := s1.can (xa.can kc)
  refine h _ (Upd.trans (xa.mono fun _ _ e => e.elim) (Upd.trans (s1.upd.mono fun _ _ e => .inl e) (s2.upd.mono fun _ _ e => .inr e))) ?_ (s2.cell kc')
  rw [s2.other (.inl (Ne.symm hbc))]
  exact s1.cell (xa.can kb)
end
theorem several_does {w : World} {ok : Nat → Prop} {p : Option Addr} {xs : List Int} (hx : Ints .u8 w ok p xs) {l : Nat} (hl : l = xs.length) (c : Nat) (hc : l ≤ c) (h63 : xs.length ≤ 1000000000) :
    Does Try.prog 26 #[.slice p l c] w fun e w' => e = .returned (.tuple #[.int .i64 (sevP xs).1, .int .i64 ((sevP xs).2 : Nat)]) ∧ Ext w w' := by
  subst hl
  apply f26_does
  intro b2 w2 hb2 b3 w3 hb3
  have x2 := hb2.ext
  have x3 := hb3.ext
  have e2 := hb2.eq
  have e3 := hb3.eq
  have l2 := hb2.lt
  have hne : b3 ≠ b2 := by omega
  have x23 := Ext.thn x2 x3
  have q2 := x3.cell (hb2.cell 0 (v := .int .i64 0) rfl)
  have q3 := hb3.cell 0 (v := .int .i64 0) rfl
  have k2 := x3.can (hb2.can 0 (by simp))
  have k3 := hb3.can 0 (by simp)
  have hT : ∀ {ww : World}, Upd (fun z => z = b2 ∨ z = b3) w3 ww → Ext w ww := fun hu => Upd.then x23 hu fun i hi e => by rcases e with e | e <;> omega
  -- where it fails
  have fail : ∀ {ww : World} {u v : Int} {Kp : List PanicEntry → World → Prop}, Upd (fun z => z = b2 ∨ z = b3) w3 ww → ww.cell? ⟨b2, 0, none⟩ = some (.int .i64 u) → ww.cell? ⟨b3, 0, none⟩ = some (.int .i64 v) → CanStore ww b2 0 → CanStore ww b3 0 → sev xs = none →
      LeavesV (fun wk => ∃ n2 : Int, wk.cell? ⟨b2, 0, none⟩ = some (.int .i64 n2) ∧ ∃ n3 : Int, wk.cell? ⟨b3, 0, none⟩ = some (.int .i64 n3) ∧ (Ending.returned (.tuple #[.int .i64 n2, .int .i64 n3]) = .returned (.tuple #[.int .i64 (sevP xs).1, .int .i64 ((sevP xs).2 : Nat)]) ∧ Ext w wk)) Kp Try.prog
        ({ target := .fn (.func 31) #[.pointer (some ⟨b2, 0, none⟩), .pointer (some ⟨b3, 0, none⟩)], args := #[] } :: []) (.panicking [{ v := .iface 43 (.agg #[]), recovered := false }]) ww := by
    intro ww u v Kp hu h1 h2 c1 c2 hs
    refine leave_panic hne h1 h2 c1 c2 fun w' hu' g1 g2 => ⟨0, g1, 0, g2, ?_, hT (hu.trans hu')⟩
    rw [sevP_none hs]; rfl
  refine (must_does _).imp ?_
  rintro e w12 ⟨rfl, ⟨hb, rfl⟩ | ⟨hb, rfl⟩⟩
  case inr =>
    refine .inr ⟨_, rfl, fail (Upd.refl _ _) q2 q3 k2 k3 ?_⟩
    have hb := of_decide_eq_false hb
    have : xs = [] := List.length_eq_zero_iff.1 (by omega)
    rw [this]; rfl
  refine .inl ⟨rfl, ?_⟩
  have hb := of_decide_eq_true hb
  obtain ⟨c0, t, rfl⟩ : ∃ c0 t, xs = c0 :: t := by
    match xs, hb with
    | c0 :: t, _ => exact ⟨c0, t, rfl⟩
  have hk0 : InK .u8 c0 := hx.inK _ List.mem_cons_self
  have hk0' : 0 ≤ c0 ∧ c0 ≤ 255 := hk0
  obtain ⟨bb, oo, hp, hcell⟩ := (hx.ext x23).at 0 (by simp)
  refine ⟨fun x _ ww => (∃ r : Int, ww.cell? ⟨b2, 0, none⟩ = some (.int .i64 r) ∧ (lenC c0 ≠ 0 → r = headC c0)) ∧ ww.cell? ⟨b3, 0, none⟩ = some (.int .i64 (lenC c0 : Nat)) ∧ CanStore ww b2 0 ∧ CanStore ww b3 0 ∧ Upd (fun z => z = b2 ∨ z = b3) w12 ww ∧ (lenC c0 ≠ 0 → x = leastN (lenC c0)),
    ⟨⟨by omega, by omega⟩, bb, oo, hp, c0, hcell, inI64 (by omega) (by omega), ?_⟩, ?_⟩
  · have set2 : ∀ (v n x : Int), lenC c0 = n.toNat → 0 < n → v = headC c0 → x = leastN (lenC c0) →
        CanStore w12 b2 0 ∧ ∀ ws, Stored w12 b2 0 (.int .i64 v) ws → CanStore ws b3 0 ∧ ∀ ws_1, Stored ws b3 0 (.int .i64 n) ws_1 →
        ∃ nc11 : Nat, (∃ r : Int, ws_1.cell? ⟨b2, 0, none⟩ = some (.int .i64 r) ∧ (lenC c0 ≠ 0 → r = headC c0)) ∧ ws_1.cell? ⟨b3, 0, none⟩ = some (.int .i64 (lenC c0 : Nat)) ∧ CanStore ws_1 b2 0 ∧ CanStore ws_1 b3 0 ∧ Upd (fun z => z = b2 ∨ z = b3) w12 ws_1 ∧ (lenC c0 ≠ 0 → x = leastN (lenC c0)) := by
      intro v n x hn h0 hv hxl
      refine ⟨k2, fun ws s1 => ⟨s1.can k3, fun ws1 s2 => ⟨0, ⟨v, ?_, fun _ => hv⟩, ?_, s2.can (s1.can k2), s2.can (s1.can k3), Upd.trans (s1.upd.mono fun _ _ e => .inl e) (s2.upd.mono fun _ _ e => .inr e), fun _ => hxl⟩⟩⟩
      · rw [s2.other (.inl (Ne.symm hne))]; exact s1.cell k2
      · rw [hn, show ((n.toNat : Nat) : Int) = n by omega]; exact s2.cell (s1.can k3)
    have zero : lenC c0 = 0 → ∃ nc11 : Nat, (∃ r : Int, w12.cell? ⟨b2, 0, none⟩ = some (.int .i64 r) ∧ (lenC c0 ≠ 0 → r = headC c0)) ∧ w12.cell? ⟨b3, 0, none⟩ = some (.int .i64 (lenC c0 : Nat)) ∧ CanStore w12 b2 0 ∧ CanStore w12 b3 0 ∧ Upd (fun z => z = b2 ∨ z = b3) w12 w12 ∧ (lenC c0 ≠ 0 → (0 : Int) = leastN (lenC c0)) := fun h =>
      ⟨0, ⟨0, q2, fun h' => absurd h h'⟩, by rw [h]; exact q3, k2, k3, Upd.refl _ _, fun h' => absurd h h'⟩
    have n2 : 192 ≤ c0 → c0 < 224 → lenC c0 = 2 := fun h1 h2 => by unfold lenC; rw [if_pos ⟨h1, h2⟩]
    have n3 : 224 ≤ c0 → c0 < 240 → lenC c0 = 3 := fun h1 h2 => by unfold lenC; rw [if_neg (by omega), if_pos ⟨h1, h2⟩]
    have n4 : 240 ≤ c0 → c0 < 248 → lenC c0 = 4 := fun h1 h2 => by unfold lenC; rw [if_neg (by omega), if_neg (by omega), if_pos ⟨h1, h2⟩]
    have n0 : c0 < 192 ∨ 248 ≤ c0 → lenC c0 = 0 := fun h => by unfold lenC; rw [if_neg (by omega), if_neg (by omega), if_neg (by omega)]
    have s2' : 192 ≤ c0 → c0 < 224 → _ := fun h1 h2 => set2 (bits .and .i64 c0 31) 2 128 (n2 h1 h2) (by decide) (by rw [b31 hk0, headC, if_pos (n2 h1 h2)]) (by rw [n2 h1 h2]; rfl)
    have s3' : 224 ≤ c0 → c0 < 240 → _ := fun h1 h2 => set2 (bits .and .i64 c0 15) 3 2048 (n3 h1 h2) (by decide) (by rw [b15 hk0, headC, n3 h1 h2, if_neg (by decide), if_pos rfl]) (by rw [n3 h1 h2]; rfl)
    have s4' : 240 ≤ c0 → c0 < 248 → _ := fun h1 h2 => set2 (bits .and .i64 c0 7) 4 65536 (n4 h1 h2) (by decide) (by rw [b7 hk0, headC, n4 h1 h2, if_neg (by decide), if_neg (by decide)]) (by rw [n4 h1 h2]; rfl)
    refine ⟨fun j1 => ⟨fun j2 => s2' (of_decide_eq_true j1) (of_decide_eq_true j2), fun j2 => ⟨fun j3 => ⟨fun j4 => s3' (of_decide_eq_true j3) (of_decide_eq_true j4), fun j4 => ⟨fun j5 => ⟨fun j6 => s4' (of_decide_eq_true j5) (of_decide_eq_true j6), fun j6 => zero (n0 (.inr ?_))⟩, fun j5 => zero ?_⟩⟩, fun j3 => ⟨fun j5 => ⟨fun j6 => s4' (of_decide_eq_true j5) (of_decide_eq_true j6), fun j6 => zero (n0 (.inr ?_))⟩, fun j5 => zero ?_⟩⟩⟩,
      fun j1 => ⟨fun j3 => ⟨fun j4 => s3' (of_decide_eq_true j3) (of_decide_eq_true j4), fun j4 => ⟨fun j5 => ⟨fun j6 => s4' (of_decide_eq_true j5) (of_decide_eq_true j6), fun j6 => zero (n0 (.inr ?_))⟩, fun j5 => zero ?_⟩⟩, fun j3 => ⟨fun j5 => ⟨fun j6 => s4' (of_decide_eq_true j5) (of_decide_eq_true j6), fun j6 => zero (n0 (.inr ?_))⟩, fun j5 => zero ?_⟩⟩⟩
    · have := of_decide_eq_false j6; omega
    · have := of_decide_eq_false j5; have := of_decide_eq_false j4; have := of_decide_eq_true j1; exact absurd (of_decide_eq_true j3) (by omega)
    · have := of_decide_eq_false j6; omega
    · have := of_decide_eq_false j3; have := of_decide_eq_false j2; have := of_decide_eq_true j1; omega
    · have := of_decide_eq_false j6; omega
    · have := of_decide_eq_false j5; have := of_decide_eq_false j4; omega
    · have := of_decide_eq_false j6; omega
    · have := of_decide_eq_false j1; exact n0 (by omega)
  rintro x4 _ wc11 ⟨⟨r, hr, hrh⟩, hn, kc2, kc3, uc, hx4⟩
  refine ⟨fun _ ww => ww.cell? ⟨b2, 0, none⟩ = some (.int .i64 (headC c0)) ∧ ww.cell? ⟨b3, 0, none⟩ = some (.int .i64 (lenC c0 : Nat)) ∧ CanStore ww b2 0 ∧ CanStore ww b3 0 ∧ Upd (fun z => z = b2 ∨ z = b3) w12 ww ∧ lenC c0 ≠ 0 ∧ lenC c0 ≤ t.length + 1, ⟨_, hn, fun j1 => ⟨_, hn, (must_does _).imp ?_⟩, fun j1 => (must_does _).imp ?_⟩, ?_⟩
  · rintro e w52 ⟨rfl, ⟨hb, rfl⟩ | ⟨hb, rfl⟩⟩
    · have j1 := of_decide_eq_true j1
      have hb := of_decide_eq_true hb
      have h0 : lenC c0 ≠ 0 := by omega
      simp only [List.length_cons] at hb
      exact .inl ⟨rfl, 0, by rw [← hrh h0]; exact hr, hn, kc2, kc3, uc, h0, by omega⟩
    · have hb := of_decide_eq_false hb
      refine .inr ⟨_, rfl, fail uc hr hn kc2 kc3 ?_⟩
      simp only [List.length_cons] at hb
      rw [sev, if_pos (.inr (by omega))]
  · rintro e w52 ⟨rfl, ⟨hb, rfl⟩ | ⟨hb, rfl⟩⟩
    · cases hb
    · have j1 := of_decide_eq_false j1
      refine .inr ⟨_, rfl, fail uc hr hn kc2 kc3 ?_⟩
      rw [sev, if_pos (.inl (by omega))]
  rintro _ wc12 ⟨hr, hn, kc2, kc3, uc, h0, hlen⟩
  have hL := lenC_le c0
  have hhd := headC_bd h0
  simp only [List.length_cons] at hc
  refine ⟨fun _ ww => ww.cell? ⟨b2, 0, none⟩ = some (.int .i64 (restV (headC c0) (t.take (lenC c0 - 1)))) ∧ ww.cell? ⟨b3, 0, none⟩ = some (.int .i64 (lenC c0 : Nat)) ∧ CanStore ww b2 0 ∧ CanStore ww b3 0 ∧ Upd (fun z => z = b2 ∨ z = b3) w12 ww ∧ ∀ x ∈ t.take (lenC c0 - 1), tl x = true, ⟨_, hn, ⟨by omega, by omega⟩, ⟨by decide, by omega⟩, ?_⟩, ?_⟩
  · rw [show ((lenC c0 : Nat) : Int).toNat - (1 : Int).toNat = lenC c0 - 1 by omega]
    refine ⟨fun x n ww => ∃ k : Nat, x = k ∧ n = lenC c0 - 1 - k ∧ k ≤ lenC c0 - 1 ∧ ww.cell? ⟨b2, 0, none⟩ = some (.int .i64 (restV (headC c0) (t.take k))) ∧ ww.cell? ⟨b3, 0, none⟩ = some (.int .i64 (lenC c0 : Nat)) ∧ CanStore ww b2 0 ∧ CanStore ww b3 0 ∧ Upd (fun z => z = b2 ∨ z = b3) w12 ww ∧ ∀ x ∈ t.take k, tl x = true,
      ⟨_, 0, rfl, rfl, Nat.zero_le _, hr, hn, kc2, kc3, uc, by simp⟩, ?_⟩
    rintro _ nn ww ⟨k, rfl, rfl, hk, hr, hn, kc2, kc3, uc, hall⟩
    refine ⟨fun jj => ?_, fun jj => ?_⟩
    · have jj := of_decide_eq_true jj
      have hlt : k < t.length := by omega
      have hsub := (hx.ext (hT uc)).sub 1 (c0 :: t).length c (by simp only [List.length_cons]; omega)
      obtain ⟨b59, o59, hp59, hc59⟩ := Ints.at hsub k (by simp; omega)
      have hel : ((List.drop 1 ((c0 :: t).take (c0 :: t).length)))[k]'(by simp; omega) = t[k] := by simp
      rw [hel] at hc59
      have hkt : InK .u8 t[k] := hx.inK _ (List.mem_cons_of_mem _ (List.getElem_mem hlt))
      have hbd := restV_bd hhd.1 hhd.2 (cs := t.take k) (by rw [List.length_take]; omega)
      refine ⟨⟨by omega, by omega⟩, b59, o59, hp59, _, hc59, (must_does _).imp ?_⟩
      rintro e w64 ⟨rfl, ⟨hb, rfl⟩ | ⟨hb, rfl⟩⟩
      · rw [c192 hkt] at hb
        have hkt' : 0 ≤ t[k] % 64 ∧ t[k] % 64 < 64 := by omega
        rw [c63 hkt]
        refine .inl ⟨rfl, _, hr, by decide, inI64 (by omega) (by omega), inI64 (by omega) (by omega), kc2, fun ws hs => ⟨inI64 (by omega) (by omega), _, by omega, k + 1, by omega, rfl, by omega, ?_, ?_, hs.can kc2, hs.can kc3, Upd.trans uc (hs.upd.mono fun _ _ e => .inl e), ?_⟩⟩
        · rw [List.take_succ_eq_append_getElem hlt, restV_snoc, ← orSix hbd.1 (by omega)]
          exact hs.cell kc2
        · rw [hs.other (.inl hne)]; exact hn
        · rw [List.take_succ_eq_append_getElem hlt]
          intro y hy
          rcases List.mem_append.1 hy with hy | hy
          · exact hall y hy
          · simp at hy; rw [hy]; exact hb
      · rw [c192 hkt] at hb
        refine .inr ⟨_, rfl, fail uc hr hn kc2 kc3 ?_⟩
        rw [sev, if_neg (by omega), if_neg]
        intro hA
        have := (List.all_eq_true.1 hA) t[k] (List.mem_of_getElem? (by rw [List.getElem?_take_of_lt (show k < lenC c0 - 1 by omega)]; exact List.getElem?_eq_getElem hlt))
        rw [hb] at this
        cases this
    · have jj := of_decide_eq_false jj
      obtain rfl : k = lenC c0 - 1 := by omega
      exact ⟨0, hr, hn, kc2, kc3, uc, hall⟩
  rintro _ wc18 ⟨hr, hn, kc2, kc3, uc, hall⟩
  have hx4 := hx4 h0
  subst hx4
  have done : ∀ {wd : World} {Kp : List PanicEntry → World → Prop}, Upd (fun z => z = b2 ∨ z = b3) w12 wd → leastN (lenC c0) ≤ restV (headC c0) (t.take (lenC c0 - 1)) → mayR (restV (headC c0) (t.take (lenC c0 - 1))) = true → wd.cell? ⟨b2, 0, none⟩ = some (.int .i64 (restV (headC c0) (t.take (lenC c0 - 1)))) → wd.cell? ⟨b3, 0, none⟩ = some (.int .i64 (lenC c0 : Nat)) →
      LeavesV (fun wk => ∃ n2 : Int, wk.cell? ⟨b2, 0, none⟩ = some (.int .i64 n2) ∧ ∃ n3 : Int, wk.cell? ⟨b3, 0, none⟩ = some (.int .i64 n3) ∧ (Ending.returned (.tuple #[.int .i64 n2, .int .i64 n3]) = .returned (.tuple #[.int .i64 (sevP (c0 :: t)).1, .int .i64 ((sevP (c0 :: t)).2 : Nat)]) ∧ Ext w wk)) Kp Try.prog
        ({ target := .fn (.func 31) #[.pointer (some ⟨b2, 0, none⟩), .pointer (some ⟨b3, 0, none⟩)], args := #[] } :: []) .returning wd := by
    intro wd Kp hu h1 h2 g1 g2
    refine leave_ok ⟨_, g1, _, g2, ?_, hT hu⟩
    rw [sevP_some (sev_of h0 hlen hall h1 h2)]
  refine ⟨_, hr, fun j1 => ⟨_, hr, (may_does _).imp ?_⟩, fun j1 => (must_does _).imp ?_⟩
  · have j1 := of_decide_eq_true j1
    rintro e w77 ⟨rfl, rfl⟩
    refine ⟨_, rfl, (must_does _).imp ?_⟩
    rintro e w79 ⟨rfl, ⟨hb, rfl⟩ | ⟨hb, rfl⟩⟩
    · refine .inl ⟨rfl, fun wd hd => ?_⟩
      have xd := hd.ext
      refine ⟨fun ww => ww.cell? ⟨b3, 0, none⟩ = some (.int .i64 (lenC c0 : Nat)), xd.cell hn, _, xd.cell hr, _, fun _ h => h, xd.can kc2, fun ws s1 => ⟨?_, s1.can (xd.can kc3), fun ws' s2 => done ?_ j1 hb ?_ ?_⟩⟩
      · show ws.cell? _ = _
        rw [s1.other (.inl hne)]; exact xd.cell hn
      · exact Upd.trans uc (Upd.trans (xd.mono fun _ _ e => e.elim) (Upd.trans (s1.upd.mono fun _ _ e => .inl e) (s2.upd.mono fun _ _ e => .inr e)))
      · rw [s2.other (.inl (Ne.symm hne))]; exact s1.cell (xd.can kc2)
      · exact s2.cell (s1.can (xd.can kc3))
    · refine .inr ⟨_, rfl, fail uc hr hn kc2 kc3 ?_⟩
      rw [sev, if_neg (by omega), if_pos (List.all_eq_true.2 hall), if_neg (fun h => by rw [hb] at h; cases h.2)]
  · have j1 := of_decide_eq_false j1
    rintro e w79 ⟨rfl, ⟨hb, rfl⟩ | ⟨hb, rfl⟩⟩
    · cases hb
    · refine .inr ⟨_, rfl, fail uc hr hn kc2 kc3 ?_⟩
      rw [sev, if_neg (by omega), if_pos (List.all_eq_true.2 hall), if_neg (fun h => j1 h.1)]
end Go.Proofs.Ytgfdgopmbfljeaa
