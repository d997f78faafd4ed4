/-
  Command lines: what each function of the reference does: reading.
-/
import Derived.Test.YtdkeccgcleamcaaLineRefPure
import Derived.Test.YtdkeccgcleamcaaLocal
namespace Go.Vc
open Go.RowKit
theorem drop_at {s : ByteArray} {xs : List Int} (hs : L s = xs) {j : Nat} (h : j < xs.length) : xs.drop j = sb s j :: xs.drop (j + 1) := by
  subst hs
  rw [List.drop_eq_getElem_cons h, L_sb h]
theorem br_and' {p q : Bool} {H A B : Prop} (hH : p = true → H) (ha : p = true → q = true → A) (hb : (p && q) = false → B) : Br p (H ∧ Br q A B) B :=
  ⟨fun h => ⟨hH h, fun k => ha h k, fun k => hb (by rw [k, Bool.and_false])⟩, fun h => hb (by rw [h, Bool.false_and])⟩
theorem br_or {p q : Bool} {H A C : Prop} (hH : p = false → H) (ha : (p || q) = true → A) (hc : (p || q) = false → C) : Br p A (H ∧ Br q A C) :=
  ⟨fun h => ha (by rw [h, Bool.true_or]), fun h => ⟨hH h, fun k => ha (by rw [k, Bool.or_true]), fun k => hc (by rw [h, k]; rfl)⟩⟩
theorem br_or2 {p q r : Bool} {H H' A B : Prop} (hH : p = true → H) (hH' : p = true → H') (ha : p = true → (q || r) = true → A) (hb : p = true → (q || r) = false → B) (hc : p = false → B) : Br p (H ∧ Br q A (H' ∧ Br r A B)) B :=
  ⟨fun h => ⟨hH h, br_or (fun _ => hH' h) (ha h) (hb h)⟩, hc⟩
/-- What an address's cells are. -/
def cellsA (a : A) : List Value := [.int .u8 a.kind, .int .i64 a.n, .int .i64 a.off, .int .u8 a.mark]
def aggA (a : A) : Value := .agg #[.int .u8 a.kind, .int .i64 a.n, .int .i64 a.off, .int .u8 a.mark]
theorem ret44 {w0 ws : World} {b4 b7 : Nat} {vs : List Value} {k n o m : Int} (h7 : Blk ws b7 [.int .u8 k, .int .i64 n, .int .i64 o, .int .u8 m]) (h4 : Blk ws b4 vs) (hl : vs.length = 4) (x : Ext w0 ws) (hb : w0.heap.size ≤ b4)
    {G : Int → Int → Int → Int → World → Prop} (hG : ∀ w', Ext w0 w' → G k n o m w') :
    ∃ n1 : Int, ws.cell? ⟨b7, 0, none⟩ = some (.int .u8 n1) ∧ ∃ n2 : Int, ws.cell? ⟨b7, 1, none⟩ = some (.int .i64 n2) ∧ ∃ n3 : Int, ws.cell? ⟨b7, 2, none⟩ = some (.int .i64 n3) ∧ ∃ n4 : Int, ws.cell? ⟨b7, 3, none⟩ = some (.int .u8 n4) ∧
      CanStore ws b4 0 ∧ ∀ w1, Stored ws b4 0 (.int .u8 n1) w1 → CanStore w1 b4 1 ∧ ∀ w2, Stored w1 b4 1 (.int .i64 n2) w2 → CanStore w2 b4 2 ∧ ∀ w3, Stored w2 b4 2 (.int .i64 n3) w3 → CanStore w3 b4 3 ∧ ∀ w4, Stored w3 b4 3 (.int .u8 n4) w4 →
      ∃ m1 : Int, w4.cell? ⟨b4, 0, none⟩ = some (.int .u8 m1) ∧ ∃ m2 : Int, w4.cell? ⟨b4, 1, none⟩ = some (.int .i64 m2) ∧ ∃ m3 : Int, w4.cell? ⟨b4, 2, none⟩ = some (.int .i64 m3) ∧ ∃ m4 : Int, w4.cell? ⟨b4, 3, none⟩ = some (.int .u8 m4) ∧ G m1 m2 m3 m4 w4 :=
  ⟨_, h7.cell 0 rfl, _, h7.cell 1 rfl, _, h7.cell 2 rfl, _, h7.cell 3 rfl, h4.st4 hl fun w' B u => ⟨_, B.cell 0 rfl, _, B.cell 1 rfl, _, B.cell 2 rfl, _, B.cell 3 rfl, hG _ (x.loc hb u)⟩⟩
end Go.Vc
namespace Go.Proofs.Ytdkeccgcleamcaa
open Go.RowKit Go.Vc
section
variable {w : World} {s : ByteArray} {xs : List Int}
theorem rblanks_does (hs : L s = xs) {i : Nat} (hi : i ≤ xs.length) (hl : xs.length ≤ 1000000000) :
    Does Try.prog 23 #[.string s, .int .i64 i] w fun e w' => (∃ k : Nat, e = .returned (.int .i64 k) ∧ i ≤ k ∧ k ≤ xs.length ∧ xs.drop k = unb' (xs.drop i)) ∧ w' = w := by
  apply f23_does
  have hsz := L_len s
  rw [hs] at hsz
  refine ⟨fun x nl wl => ∃ j : Nat, x = j ∧ nl = xs.length - j ∧ i ≤ j ∧ j ≤ xs.length ∧ unb' (xs.drop j) = unb' (xs.drop i) ∧ wl = w, ⟨_, i, rfl, rfl, Nat.le_refl _, hi, rfl, rfl⟩, ?_⟩
  rintro _ _ wl ⟨j, rfl, rfl, hij, hj, he, rfl⟩
  refine brr (fun q => ?_) fun q => ?_
  · have q := of_decide_eq_true q
    have hlt : j < xs.length := by omega
    have hd := drop_at hs hlt
    refine ⟨⟨by omega, by omega⟩, brr (fun q1 => ⟨inI64 (by omega) (by omega), _, ?_, j + 1, by omega, rfl, by omega, hlt, ?_, rfl⟩) fun q1 => ⟨⟨j, rfl, hij, hj, ?_⟩, rfl⟩⟩
    · omega
    · rw [hd, show sb s j = 32 by simpa using q1, unb_blank] at he; exact he
    · rw [← he, hd, unb_other (by simpa using q1)]
  · have q := of_decide_eq_false q
    obtain rfl : j = xs.length := by omega
    refine ⟨⟨_, rfl, hij, hj, ?_⟩, rfl⟩
    rw [← he, List.drop_length]; rfl
theorem rhas_does (hl : (L s).length ≤ 1000000000) (c : Int) : Does Try.prog 25 #[.string s, .int .u8 c] w fun e w' => e = .returned (.bool (decide (c ∈ L s))) ∧ w' = w := by
  apply f25_does
  have hsz := L_len s
  refine ⟨fun x nl wl => ∃ j : Nat, x = j ∧ nl = (L s).length - j ∧ j ≤ (L s).length ∧ (c ∈ (L s).drop j ↔ c ∈ L s) ∧ wl = w, ⟨_, 0, rfl, rfl, Nat.zero_le _, by simp, rfl⟩, ?_⟩
  rintro _ _ wl ⟨j, rfl, rfl, hj, he, rfl⟩
  refine brr (fun q => ?_) fun q => ?_
  · have q := of_decide_eq_true q
    have hlt : j < (L s).length := by omega
    have hd := drop_at rfl hlt
    refine ⟨⟨by omega, by omega⟩, brr (fun q1 => ?_) fun q1 => ⟨inI64 (by omega) (by omega), _, ?_, j + 1, by omega, rfl, hlt, ?_, rfl⟩⟩
    · rw [hd, show sb s j = c by simpa using q1] at he
      rw [decide_eq_true (he.1 List.mem_cons_self)]
      exact ⟨rfl, rfl⟩
    · omega
    · rw [hd, List.mem_cons] at he
      have hne : c ≠ sb s j := fun e => by rw [e] at q1; simp at q1
      rw [← he]
      exact ⟨.inr, fun h => h.elim (fun e => absurd e hne) id⟩
  · have q := of_decide_eq_false q
    obtain rfl : j = (L s).length := by omega
    rw [List.drop_length] at he
    rw [decide_eq_false (fun h => by have := he.2 h; simp at this)]
    exact ⟨rfl, rfl⟩
theorem rsmall_does (c : Int) : Does Try.prog 26 #[.int .u8 c] w fun e w' => e = .returned (.bool (smallB c)) ∧ w' = w := by
  apply f26_does
  unfold smallB
  refine brr (fun j => ⟨?_, rfl⟩) fun j => ⟨?_, rfl⟩
  · have j := of_decide_eq_true j
    congr 3
    exact propext ⟨fun h => ⟨j, h⟩, fun h => h.2⟩
  · have j := of_decide_eq_false j
    rw [decide_eq_false (by omega)]
theorem pow9 {k : Nat} (h : k ≤ 9) : (10 : Int) ^ k ≤ 1000000000 := by
  have : (10 : Nat) ^ k ≤ 10 ^ 9 := Nat.pow_le_pow_right (by decide) h
  have e : ((10 ^ k : Nat) : Int) = (10 : Int) ^ k := by rw [Int.natCast_pow]; rfl
  rw [← e]
  have h9 : (10 : Nat) ^ 9 = 1000000000 := by decide
  omega
theorem rdigits_does (hs : L s = xs) {i : Nat} (hi : i ≤ xs.length) (hl : xs.length ≤ 1000000000) :
    Does Try.prog 37 #[.string s, .int .i64 i] w fun e w' => (match digG 0 0 (xs.drop i) with
      | none => ∃ k, e = .returned (.tuple #[.int .i64 0, .int .i64 k, .bool false])
      | some p => ∃ k : Nat, e = .returned (.tuple #[.int .i64 p.1, .int .i64 k, .bool true]) ∧ i ≤ k ∧ k ≤ xs.length ∧ xs.drop k = p.2 ∧ 0 ≤ p.1 ∧ p.1 < 1000000000) ∧ w' = w := by
  apply f37_does
  have hsz := L_len s
  rw [hs] at hsz
  refine ⟨fun x v nl wl => ∃ j : Nat, x = j ∧ nl = xs.length - j ∧ i ≤ j ∧ j ≤ xs.length ∧ digG v (j - i) (xs.drop j) = digG 0 0 (xs.drop i) ∧ j - i ≤ 9 ∧ 0 ≤ v ∧ v < (10 : Int) ^ (j - i) ∧ wl = w,
    ⟨_, i, rfl, rfl, Nat.le_refl _, hi, by rw [Nat.sub_self], by omega, by decide, by rw [Nat.sub_self]; decide, rfl⟩, ?_⟩
  rintro _ v _ wl ⟨j, rfl, rfl, hij, hj, he, h9, hv0, hv, rfl⟩
  have hp := pow9 h9
  have stop : (j < xs.length → figB (sb s j) = false) → (match digG 0 0 (xs.drop i) with
      | none => ∃ k, Ending.returned (.tuple #[.int .i64 v, .int .i64 (j : Int), .bool true]) = .returned (.tuple #[.int .i64 0, .int .i64 k, .bool false])
      | some p => ∃ k : Nat, Ending.returned (.tuple #[.int .i64 v, .int .i64 (j : Int), .bool true]) = .returned (.tuple #[.int .i64 p.1, .int .i64 k, .bool true]) ∧ i ≤ k ∧ k ≤ xs.length ∧ xs.drop k = p.2 ∧ 0 ≤ p.1 ∧ p.1 < 1000000000) ∧ wl = wl := fun hf => by
    have : digG v (j - i) (xs.drop j) = some (v, xs.drop j) := by
      rcases Nat.lt_or_ge j xs.length with hlt | hge
      · rw [drop_at hs hlt]
        unfold digG
        rw [if_neg (by rw [hf hlt]; decide)]
      · rw [List.drop_eq_nil_of_le hge]; rfl
    rw [← he, this]
    exact ⟨⟨j, rfl, hij, hj, rfl, hv0, by omega⟩, rfl⟩
  refine brr (fun q => ?_) fun q => ?_
  · have q := of_decide_eq_true q
    have hlt : j < xs.length := by omega
    have hd := drop_at hs hlt
    refine ⟨⟨by omega, by omega⟩, br_and (fun _ => ⟨by omega, by omega⟩) (fun q1 q2 => ?_) (fun q1 q2 => ?_) fun q1 => ?_⟩
    · have q1 := of_decide_eq_true q1
      have q2 := of_decide_eq_true q2
      have hf : figB (sb s j) = true := by unfold figB; exact decide_eq_true ⟨q1, q2⟩
      rw [hd, digG_cons, if_pos hf] at he
      refine ⟨inI64 (by omega) (by omega), brr (fun q3 => ?_) fun q3 => ?_⟩
      · have q3 := of_decide_eq_true q3
        rw [if_pos (by omega)] at he
        rw [← he]
        exact ⟨⟨_, rfl⟩, rfl⟩
      · have q3 := of_decide_eq_false q3
        rw [if_neg (by omega)] at he
        have hw : IntKind.wrap .u8 (sb s j - 48) = sb s j - 48 := wrap_in ⟨by show (0 : Int) ≤ _; omega, by show _ ≤ (255 : Int); omega⟩
        rw [hw]
        have hp2 : (10 : Int) ^ (j + 1 - i) = 10 ^ (j - i) * 10 := by rw [show j + 1 - i = j - i + 1 by omega, Int.pow_succ]
        refine ⟨inI64 (by omega) (by omega), ⟨by omega, by omega⟩, inI64 (by omega) (by omega), inI64 (by omega) (by omega), inI64 (by omega) (by omega), _, ?_, j + 1, by omega, rfl, by omega, hlt, ?_, by omega, by omega, ?_, rfl⟩
        · omega
        · rw [show j + 1 - i = j - i + 1 by omega]; exact he
        · rw [hp2]; omega
    · have q2 := of_decide_eq_false q2
      exact stop fun _ => by unfold figB; exact decide_eq_false (by omega)
    · have q1 := of_decide_eq_false q1
      exact stop fun _ => by unfold figB; exact decide_eq_false (by omega)
  · have q := of_decide_eq_false q
    exact stop fun h => by omega
/-- What the reference's address answers. -/
def AddrGR (w : World) (xs : List Int) (i : Nat) (e : Ending) (w' : World) : Prop :=
  Ext w w' ∧ match addrG (xs.drop i) with
    | none => ∃ a k, e = .returned (.tuple #[aggA a, .int .i64 k, .int .i64 2])
    | some none => ∃ a k, e = .returned (.tuple #[aggA a, .int .i64 k, .int .i64 0])
    | some (some (a, r)) => ∃ k : Nat, e = .returned (.tuple #[aggA a, .int .i64 k, .int .i64 1]) ∧ i ≤ k ∧ k ≤ xs.length ∧ xs.drop k = r ∧ okA a ∧ InK .i64 a.off
theorem raddress_does (hs : L s = xs) {i : Nat} (hi : i ≤ xs.length) (hl : xs.length ≤ 4096) : Does Try.prog 24 #[.string s, .int .i64 i] w (AddrGR w xs i) := by
  have hsz := L_len s
  rw [hs] at hsz
  apply f24_does
  intro b4 w4 hb4 b7 w7 hb7
  have B4 := hb4.blk.ext hb7.ext
  have e4 := hb4.eq
  have e7 := hb7.eq
  have s4 := hb4.size
  have x7 : Ext w w7 := Ext.thn hb4.ext hb7.ext
  refine hb7.blk.st4 rfl fun w1 B7 u1 => ?_
  have x1 : Ext w w1 := x7.loc (by omega) u1
  have hne : b4 ≠ b7 := by omega
  have hne' : ¬ b4 = b7 := hne
  have B4 := B4.upd u1 hne'
  clear u1
  have hb : w.heap.size ≤ b4 := by omega
  have hk : ∀ x ∈ xs, InK .u8 x := by rw [← hs]; exact L_inK s
  refine brr (fun q => ?_) fun q => ?_
  · have q := of_decide_eq_true q
    have hd : xs.drop i = [] := List.drop_eq_nil_of_le (by omega)
    refine ret44 B7 B4 rfl x1 hb fun w' x' => ⟨x', ?_⟩
    rw [hd]
    exact ⟨⟨0, 0, 0, 0⟩, _, rfl⟩
  have q := of_decide_eq_false q
  have hlt : i < xs.length := by omega
  have hd := drop_at hs hlt
  have hc8 : InK .u8 (sb s i) := hk _ (by have := List.mem_of_mem_drop (i := i) (l := xs) (a := sb s i); rw [hd] at this; exact this List.mem_cons_self)
  refine ⟨fun x _ wc => ∃ a r, ∃ k : Nat, x = k ∧ i ≤ k ∧ k ≤ xs.length ∧ xs.drop k = r ∧ headG (xs.drop i) = some (some (a, r)) ∧ okA a ∧ a.off = 0 ∧ Blk wc b7 (cellsA a) ∧ Blk wc b4 [.int .u8 0, .int .i64 0, .int .i64 0, .int .u8 0] ∧ Ext w wc, ?_, ?_⟩
  · refine ⟨⟨by omega, by omega⟩, br_and' (fun _ => ⟨by omega, by omega⟩) (fun q1 q2 => ?_) fun q1 => ?_⟩
    · have hf : figB (sb s i) = true := by unfold figB; exact decide_eq_true ⟨of_decide_eq_true q1, of_decide_eq_true q2⟩
      refine (rdigits_does hs hi (by omega)).imp ?_
      rintro e w37 ⟨hr, rfl⟩
      cases hdg : digG 0 0 (xs.drop i) with
      | none =>
        rw [hdg] at hr
        obtain ⟨k, rfl⟩ := hr
        refine ⟨_, _, _, rfl, tru rfl (ret44 B7 B4 rfl x1 hb fun w' x' => ⟨x', ?_⟩)⟩
        have : addrG (xs.drop i) = none := by
          rw [hd] at hdg ⊢
          unfold addrG headG
          simp only [hf, if_true, hdg]
        rw [this]
        exact ⟨⟨0, 0, 0, 0⟩, _, rfl⟩
      | some p =>
        rw [hdg] at hr
        obtain ⟨k, rfl, hik, hkl, hkd, h0, h1⟩ := hr
        refine ⟨_, _, _, rfl, fls rfl (B7.st4 rfl fun w2 B7' u2 => ⟨0, ⟨110, p.1, 0, 0⟩, _, k, rfl, hik, hkl, rfl, ?_, ?_, rfl, B7', B4.upd u2 hne', x1.loc (by omega) u2⟩)⟩
        · rw [hd] at hdg ⊢
          unfold headG
          simp only [hf, if_true, hdg, hkd]
        · exact ⟨by show InK .u8 110; decide, h0, h1, by show InK .u8 0; decide⟩
    · have hf : figB (sb s i) = false := by
        unfold figB
        refine decide_eq_false fun h => ?_
        rw [decide_eq_true h.1, decide_eq_true h.2] at q1
        cases q1
      refine ⟨⟨by omega, by omega⟩, br_or (fun _ => ⟨by omega, by omega⟩) (fun q2 => ?_) fun q2 => ?_⟩
      · have hx : sb s i = 46 ∨ sb s i = 36 := by simpa using q2
        refine ⟨⟨by omega, by omega⟩, B7.st (by simp) fun w2 B7' u2 => ⟨inI64 (by omega) (by omega), 0, ⟨sb s i, 0, 0, 0⟩, _, i + 1, by omega, by omega, hlt, rfl, ?_, ?_, rfl, B7', B4.upd u2 hne', x1.loc (by omega) u2⟩⟩
        · rw [hd]
          unfold headG
          simp only [hf, hx, if_true]
          rfl
        · exact ⟨hc8, by show (0 : Int) ≤ 0; decide, by show (0 : Int) < _; decide, by show InK .u8 0; decide⟩
      · have hx : ¬ (sb s i = 46 ∨ sb s i = 36) := by simpa using q2
        refine ⟨⟨by omega, by omega⟩, brr (fun q3 => ?_) fun q3 => ?_⟩
        · have q3 : sb s i = 39 := by simpa using q3
          refine ⟨inI64 (by omega) (by omega), brr (fun q4 => ?_) fun q4 => ?_⟩
          · have q4 := of_decide_eq_true q4
            refine ret44 B7 B4 rfl x1 hb fun w' x' => ⟨x', ?_⟩
            have hnil : xs.drop (i + 1) = [] := List.drop_eq_nil_of_le (by omega)
            have : addrG (xs.drop i) = none := by
              rw [hd, hnil, q3]; rfl
            rw [this]
            exact ⟨⟨0, 0, 0, 0⟩, _, rfl⟩
          · have q4 := of_decide_eq_false q4
            have hlt1 : i + 1 < xs.length := by omega
            have hd1 := drop_at hs hlt1
            have e1 : ((i : Int) + 1) = ((i + 1 : Nat) : Int) := by omega
            rw [e1]
            have hc8 : InK .u8 (sb s ((i + 1 : Nat) : Int)) := hk _ (by have := List.mem_of_mem_drop (i := i + 1) (l := xs) (a := sb s ((i + 1 : Nat) : Int)); rw [hd1] at this; exact this List.mem_cons_self)
            generalize sb s ((i + 1 : Nat) : Int) = c at *
            refine ⟨inI64 (by omega) (by omega), ⟨by omega, by omega⟩, (rsmall_does _).imp ?_⟩
            rintro e w80 ⟨rfl, rfl⟩
            refine ⟨_, rfl, brr (fun q5 => ?_) fun q5 => ?_⟩
            · have q5 : smallB c = false := by simpa using q5
              refine ret44 B7 B4 rfl x1 hb fun w' x' => ⟨x', ?_⟩
              have : addrG (xs.drop i) = none := by
                rw [hd, hd1, q3]
                unfold addrG headG
                simp [q5, show figB 39 = false by decide]
              rw [this]
              exact ⟨⟨0, 0, 0, 0⟩, _, rfl⟩
            · have q5 : smallB c = true := by simpa using q5
              refine ⟨inI64 (by omega) (by omega), ⟨by omega, by omega⟩, B7.st4 rfl fun w2 B7' u2 => ⟨inI64 (by omega) (by omega), 0, ⟨109, 0, 0, c⟩, _, i + 2, by omega, by omega, hlt1, rfl, ?_, ?_, rfl, B7', B4.upd u2 hne', x1.loc (by omega) u2⟩⟩
              · rw [hd, hd1, q3]
                unfold headG
                simp [q5, show figB 39 = false by decide]
              · exact ⟨by show InK .u8 109; decide, by show (0 : Int) ≤ 0; decide, by show (0 : Int) < _; decide, hc8⟩
        · have q3 : sb s i ≠ 39 := by simpa using q3
          refine ret44 B7 B4 rfl x1 hb fun w' x' => ⟨x', ?_⟩
          have : addrG (xs.drop i) = some none := by
            rw [hd]
            unfold addrG headG
            simp only [hf, hx, q3, if_false]
            rfl
          rw [this]
          exact ⟨⟨0, 0, 0, 0⟩, _, rfl⟩
  · rintro _ _ wc ⟨a, r, k, rfl, hik, hkl, rfl, hh, hok, hoff, C7, C4, xc⟩
    obtain ⟨ok1, ok2, ok3, ok4⟩ := hok
    refine ⟨fun x nl wl => ∃ j : Nat, ∃ off, x = j ∧ nl = xs.length - j ∧ k ≤ j ∧ j ≤ xs.length ∧ offG off (xs.drop j) = offG 0 (xs.drop k) ∧ Blk wl b7 (cellsA { a with off := off }) ∧ Blk wl b4 [.int .u8 0, .int .i64 0, .int .i64 0, .int .u8 0] ∧ Ext w wl ∧
        -1000000000 * ((j - k : Nat) : Int) ≤ off ∧ off ≤ 1000000000 * ((j - k : Nat) : Int), ⟨_, k, 0, rfl, rfl, Nat.le_refl _, hkl, rfl, by rw [← hoff]; exact C7, C4, xc, by omega, by omega⟩, ?_⟩
    rintro _ _ wl ⟨j, off, rfl, rfl, hkj, hjl, hoe, D7, D4, xl, o1, o2⟩
    have done : offG off (xs.drop j) = some (off, xs.drop j) → ∀ w', Ext w w' → AddrGR w xs i (.returned (.tuple #[.agg #[.int .u8 a.kind, .int .i64 a.n, .int .i64 off, .int .u8 a.mark], .int .i64 j, .int .i64 1])) w' := fun ho w' x' => by
      refine ⟨x', ?_⟩
      rw [ho] at hoe
      have : addrG (xs.drop i) = some (some ({ a with off := off }, xs.drop j)) := by unfold addrG; rw [hh]; simp only [← hoe]
      rw [this]
      exact ⟨j, rfl, by omega, hjl, rfl, ⟨ok1, ok2, ok3, ok4⟩, inI64 (by show _ ≤ off; omega) (by show off ≤ _; omega)⟩
    refine br_or2 (fun q => ?_) (fun q => ?_) (fun q q1 => ?_) (fun q q1 => ?_) fun q => ?_
    · have q := of_decide_eq_true q
      exact ⟨by omega, by omega⟩
    · have q := of_decide_eq_true q
      exact ⟨by omega, by omega⟩
    · have q := of_decide_eq_true q
      have hlt : j < xs.length := by omega
      have hdj := drop_at hs hlt
      have hx : sb s j = 43 ∨ sb s j = 45 := by simpa using q1
      have e1 : ((j : Int) + 1) = ((j + 1 : Nat) : Int) := by omega
      rw [e1]
      refine ⟨inI64 (by omega) (by omega), (rdigits_does hs (i := j + 1) (by omega) (by omega)).imp ?_⟩
      rintro e w37 ⟨hr, rfl⟩
      cases hdg : digG 0 0 (xs.drop (j + 1)) with
      | none =>
        rw [hdg] at hr
        obtain ⟨k', rfl⟩ := hr
        refine ⟨_, _, _, rfl, tru rfl (ret44 D7 D4 rfl xl hb fun w' x' => ⟨x', ?_⟩)⟩
        have : addrG (xs.drop i) = none := by
          unfold addrG; rw [hh]
          simp only [← hoe, hdj, offG_bad hx hdg]
        rw [this]
        exact ⟨{ a with off := off }, _, rfl⟩
      | some p =>
        rw [hdg] at hr
        obtain ⟨k', rfl, hik', hkl', hkd', h0, h1⟩ := hr
        rw [hdj, offG_step hx hdg] at hoe
        have hlen : (p.2.length = (xs.drop (j + 1)).length) ↔ k' = j + 1 := by
          rw [← hkd', List.length_drop, List.length_drop]; omega
        have fin : ∀ o' : Int, o' = (if sb s j = 45 then off - (if p.2.length = (xs.drop (j + 1)).length then 1 else p.1) else off + (if p.2.length = (xs.drop (j + 1)).length then 1 else p.1)) → off - 1000000000 ≤ o' → o' ≤ off + 1000000000 →
            CanStore w37 b7 2 ∧ ∀ ws, Stored w37 b7 2 (.int .i64 o') ws → ∃ ml, ml < xs.length - j ∧ ∃ j' : Nat, ∃ off, (k' : Int) = j' ∧ ml = xs.length - j' ∧ k ≤ j' ∧ j' ≤ xs.length ∧ offG off (xs.drop j') = offG 0 (xs.drop k) ∧ Blk ws b7 (cellsA { a with off := off }) ∧ Blk ws b4 [.int .u8 0, .int .i64 0, .int .i64 0, .int .u8 0] ∧ Ext w ws ∧
              -1000000000 * ((j' - k : Nat) : Int) ≤ off ∧ off ≤ 1000000000 * ((j' - k : Nat) : Int) := fun o' ho' b1 b2 =>
          D7.st (by simp [cellsA]) fun w2 D7' u2 => ⟨_, by omega, k', o', rfl, rfl, by omega, hkl', by rw [hkd', ho']; exact hoe, D7', D4.upd u2 hne', xl.loc (by omega) u2, by omega, by omega⟩
        refine ⟨_, _, _, rfl, fls rfl ⟨inI64 (by omega) (by omega), brr (fun q2 => ?_) fun q2 => ?_⟩⟩
        · have q2 : k' = j + 1 := by have : (k' : Int) = ((j + 1 : Nat) : Int) := by simpa using q2
                                     omega
          refine ⟨⟨by omega, by omega⟩, brr (fun q3 => ?_) fun q3 => ?_⟩
          · have q3 : sb s j = 45 := by simpa using q3
            exact ⟨by decide, _, D7.cell 2 rfl, inI64 (by show _ ≤ off + _; omega) (by show off + _ ≤ _; omega), fin _ (by rw [if_pos q3, if_pos (hlen.2 q2)]; show off + _ = _; omega) (by show _ ≤ off + _; omega) (by show off + _ ≤ _; omega)⟩
          · have q3 : sb s j ≠ 45 := by simpa using q3
            exact ⟨_, D7.cell 2 rfl, inI64 (by show _ ≤ off + _; omega) (by show off + _ ≤ _; omega), fin _ (by rw [if_neg q3, if_pos (hlen.2 q2)]) (by show _ ≤ off + _; omega) (by show off + _ ≤ _; omega)⟩
        · have q2 : k' ≠ j + 1 := by
            intro e
            subst e
            simp at q2
          have hn := fun h => q2 (hlen.1 h)
          refine ⟨⟨by omega, by omega⟩, brr (fun q3 => ?_) fun q3 => ?_⟩
          · have q3 : sb s j = 45 := by simpa using q3
            exact ⟨inI64 (by omega) (by omega), _, D7.cell 2 rfl, inI64 (by show _ ≤ off + _; omega) (by show off + _ ≤ _; omega), fin _ (by rw [if_pos q3, if_neg hn]; show off + _ = _; omega) (by show _ ≤ off + _; omega) (by show off + _ ≤ _; omega)⟩
          · have q3 : sb s j ≠ 45 := by simpa using q3
            exact ⟨_, D7.cell 2 rfl, inI64 (by show _ ≤ off + _; omega) (by show off + _ ≤ _; omega), fin _ (by rw [if_neg q3, if_neg hn]) (by show _ ≤ off + _; omega) (by show off + _ ≤ _; omega)⟩
    · have q := of_decide_eq_true q
      have hlt : j < xs.length := by omega
      have hdj := drop_at hs hlt
      have hx : ¬ (sb s j = 43 ∨ sb s j = 45) := by simpa using q1
      exact ret44 D7 D4 rfl xl hb (done (by rw [hdj, offG_end hx]))
    · have q := of_decide_eq_false q
      have hnil : xs.drop j = [] := List.drop_eq_nil_of_le (by omega)
      exact ret44 D7 D4 rfl xl hb (done (by rw [hnil, offG_nil]))
end
end Go.Proofs.Ytdkeccgcleamcaa
