/-
  Expressions: the document's reader, function by function: factors.
-/
import Derived.Test.YtacinpadiiabjaaGreatDoorRefRun
namespace Go.Vc
theorem pair_inv {E : List Int → Res} {l : List Int} {c1 c2 : Option Nat} {k : Nat} {r : List Int} (h : pairP E l = some (c1, c2, k, r)) : ∃ m1 r0 r1 m2 r2, E l = some (c1, m1, r0) ∧ tk [44] r0 = some r1 ∧ E r1 = some (c2, m2, r2) ∧ tk [41] r2 = some r ∧ k = max m1 m2 := by
  unfold pairP at h
  cases h1 : E l with
  | none => rw [h1] at h; cases h
  | some x =>
    obtain ⟨d1, m1, r0⟩ := x
    rw [h1] at h
    simp only at h
    cases h2 : tk [44] r0 with
    | none => rw [h2] at h; cases h
    | some r1 =>
      rw [h2] at h
      simp only at h
      unfold closedP at h
      cases h3 : E r1 with
      | none => rw [h3] at h; cases h
      | some y =>
        obtain ⟨d2, m2, r2⟩ := y
        rw [h3] at h
        simp only at h
        cases h4 : tk [41] r2 with
        | none => rw [h4] at h; cases h
        | some r3 =>
          rw [h4] at h
          simp only [Option.some.injEq, Prod.mk.injEq] at h
          obtain ⟨rfl, rfl, rfl, rfl⟩ := h
          exact ⟨m1, r0, r1, m2, r2, rfl, h2, h3, h4, rfl⟩
theorem closed_inv {E : List Int → Res} {l : List Int} {c : Option Nat} {k : Nat} {r : List Int} (h : closedP E l = some (c, k, r)) : ∃ r0, E l = some (c, k, r0) ∧ tk [41] r0 = some r := by
  unfold closedP at h
  cases h1 : E l with
  | none => rw [h1] at h; cases h
  | some x =>
    obtain ⟨d1, m1, r0⟩ := x
    rw [h1] at h
    simp only at h
    cases h2 : tk [41] r0 with
    | none => rw [h2] at h; cases h
    | some r1 =>
      rw [h2] at h
      simp only [Option.some.injEq, Prod.mk.injEq] at h
      obtain ⟨rfl, rfl, rfl⟩ := h
      exact ⟨r0, rfl, h2⟩
theorem map_inv {g : Option Nat → Option Nat} {x : Res} {c : Option Nat} {k : Nat} {r : List Int} (h : mapR g x = some (c, k, r)) : ∃ c0, x = some (c0, k, r) := by
  unfold mapR at h
  cases x with
  | none => cases h
  | some y =>
    obtain ⟨c0, k0, r0⟩ := y
    simp only [Option.some.injEq, Prod.mk.injEq] at h
    obtain ⟨_, rfl, rfl⟩ := h
    exact ⟨c0, rfl⟩
end Go.Vc
namespace Go.Proofs.YtacinpadiiabjaaGreatDoor
open Go.RowKit Go.Vc
/-- A number without its sign. -/
theorem abs_does {w : World} {R : Ending → World → Prop} {f : Nat} (hf : Wd f) (h : R (.returned (.float .f64 (f % 9223372036854775808))) w) : Does Tryz.prog 48 #[.float .f64 f] w R := by
  refine f48_does _ (f64bits_does f ⟨_, rfl, ?_⟩)
  have e : bits .andNot .u64 (f : Int) 9223372036854775808 = ((f % 9223372036854775808 : Nat) : Int) := by
    show IntKind.u64.wrap (((BitVec.ofInt 64 (f : Int)) &&& ~~~(BitVec.ofInt 64 ((9223372036854775808 : Nat) : Int))).toNat : Int) = _
    have e2 : ~~~(BitVec.ofInt 64 ((9223372036854775808 : Nat) : Int)) = BitVec.ofNat 64 (2 ^ 63 - 1) := by decide
    rw [e2, BitVec.ofInt_natCast, BitVec.toNat_and, BitVec.toNat_ofNat, BitVec.toNat_ofNat, Nat.mod_eq_of_lt (a := f) (by unfold Wd at hf; omega), Nat.mod_eq_of_lt (a := 2 ^ 63 - 1) (by decide), Nat.and_two_pow_sub_one_eq_mod, wrap_in ⟨by show (0 : Int) ≤ _; omega, by show _ ≤ (18446744073709551615 : Int); have := Nat.mod_lt f (show 0 < 2 ^ 63 by decide); omega⟩]
  rw [e]
  exact frombits_does _ ⟨_, rfl, h⟩
section
variable {w0 : World} {b : Nat} {s : ByteArray} (hsz : s.size ≤ 4096)
theorem RQ.pass {x : Res} {d : Int} {e : Ending} {w' : World} (h : RQ w0 b s x d e w') : ∃ f : Nat, e = .returned (.float .f64 f) ∧ RQ w0 b s x d (.returned (.float .f64 f)) w' := by
  obtain ⟨f, a', bad, rfl, h⟩ := h
  exact ⟨f, rfl, f, a', bad, rfl, h⟩
include hsz in
theorem close_step {w : World} {a : Nat} {d e : Int} (h : RS w0 b s w a d e) {G : World → Prop} (h1 : ∀ r a' w', tk [41] (rest s a) = some r → rest s a' = r → RS w0 b s w' a' d e → G w') (h0 : tk [41] (rest s a) = none → ∀ a' w', RS w0 b s w' a' d (if e = 0 then 11 else e) → G w') :
    Does Tryz.prog 59 #[.pointer (some ⟨b, 0, none⟩), .string { data := #[41] }] w fun e21 w21 => ∃ b21 : Bool, e21 = .returned (.bool b21) ∧ Br (!b21)
      (Does Tryz.prog 111 #[.pointer (some ⟨b, 0, none⟩), .int .i64 11] w21 fun e24 w24 => ∃ f24 : Nat, e24 = .returned (.float .f64 f24) ∧ G w24) (G w21) :=
  isnt_step hsz _ (by decide) rfl h h1 fun t a' w' _ st => rfail_does (G := fun _ w => G w) st fun w'' st' => h0 t a' w'' st'
/-- What a pair comes to. -/
def RP (w0 : World) (b : Nat) (s : ByteArray) (x : Option (Option Nat × Option Nat × Nat × List Int)) (d : Int) (e : Ending) (w' : World) : Prop :=
  ∃ f1 f2 a' bad, e = .returned (.tuple #[.float .f64 f1, .float .f64 f2]) ∧ Wd f1 ∧ Wd f2 ∧ RS w0 b s w' a' d bad ∧ ((∃ c1 c2 k r, x = some (c1, c2, k, r) ∧ d + (k : Int) ≤ 32 ∧ bad = 0 ∧ cls f1 = c1 ∧ cls f2 = c2 ∧ rest s a' = r) ∨ (bad ≠ 0 ∧ ∀ c1 c2 k r, x = some (c1, c2, k, r) → 32 < d + (k : Int) ∧ bad = 3))
section
variable {n : Nat} {E : List Int → Res} (hE : RDoes w0 b s 35 n E) (hS : Short E)
include hsz hE hS
theorem rpair_does {w : World} {a : Nat} {d : Int} (h : RS w0 b s w a d 0) (hc : RC s n a d) : Does Tryz.prog 166 #[.pointer (some ⟨b, 0, none⟩)] w (RP w0 b s (pairP E (rest s a)) d) := by
  refine f166_does _ ((hE w a d h hc).imp ?_)
  rintro e w7 ⟨f7, a7, bad7, rfl, hf7, st7, v7⟩
  generalize hY : pairP E (rest s a) = Y
  have cont : ∀ {w9 : World} {a9 : Nat} {bad9 : Int}, RS w0 b s w9 a9 d bad9 →
      ((bad9 = 0 ∧ ∃ c k r r1, E (rest s a) = some (c, k, r) ∧ tk [44] r = some r1 ∧ rest s a9 = r1 ∧ d + (k : Int) ≤ 32 ∧ cls f7 = c) ∨ (bad9 ≠ 0 ∧ ∀ c1 c2 k r, Y = some (c1, c2, k, r) → 32 < d + (k : Int) ∧ bad9 = 3)) →
      ∃ b14 o14, (some ⟨b, 0, none⟩ : Option Addr) = some ⟨b14, o14, none⟩ ∧ ∃ n16 : Int, w9.cell? ⟨b14, o14 + 3, none⟩ = some (.int .i64 n16) ∧ Br (n16 == 0)
      (Does Tryz.prog 35 #[.pointer (some ⟨b, 0, none⟩)] w9 fun e19 w19 =>
      ∃ f19 : Nat, e19 = .returned (.float .f64 f19) ∧ Does Tryz.prog 59 #[.pointer (some ⟨b, 0, none⟩), .string (({ data := #[41] } : ByteArray))] w19 fun e21 w21 =>
      ∃ b21 : Bool, e21 = .returned (.bool b21) ∧ Br (!b21)
      (Does Tryz.prog 111 #[.pointer (some ⟨b, 0, none⟩), .int .i64 11] w21 fun e24 w24 =>
      ∃ f24 : Nat, e24 = .returned (.float .f64 f24) ∧ RP w0 b s Y d (.returned (.tuple #[.float .f64 f7, .float .f64 f19])) w24)
      (RP w0 b s Y d (.returned (.tuple #[.float .f64 f7, .float .f64 f19])) w21))
      (Does Tryz.prog 59 #[.pointer (some ⟨b, 0, none⟩), .string (({ data := #[41] } : ByteArray))] w9 fun e21 w21 =>
      ∃ b21 : Bool, e21 = .returned (.bool b21) ∧ Br (!b21)
      (Does Tryz.prog 111 #[.pointer (some ⟨b, 0, none⟩), .int .i64 11] w21 fun e24 w24 =>
      ∃ f24 : Nat, e24 = .returned (.float .f64 f24) ∧ RP w0 b s Y d (.returned (.tuple #[.float .f64 f7, .float .f64 0])) w24)
      (RP w0 b s Y d (.returned (.tuple #[.float .f64 f7, .float .f64 0])) w21)) := fun {w9 a9 bad9} st9 hv => by
    refine ⟨b, 0, rfl, _, st9.blk.cell 3 rfl, ?_⟩
    rcases hv with ⟨rfl, c, k, r, r1, hx, ht, hr9, hk, hc7⟩ | ⟨hb, hv⟩
    · have hsh := hS _ _ _ _ hx
      have htl := tk_len ht
      refine tru rfl ((hE w9 a9 d st9 ⟨by rw [hr9]; have := hc.1; omega, hc.2⟩).imp ?_)
      rintro e w19 ⟨f19, a19, bad19, rfl, hf19, st19, v19⟩
      rw [hr9] at v19
      refine ⟨f19, rfl, ?_⟩
      rcases v19 with ⟨c2, k2, r2, hx2, hk2, rfl, hc2, hra2⟩ | v19
      · refine close_step hsz st19 (fun r3 a' w' t3 hr3 st' => ?_) fun t3 a' w' st' => ?_
        · rw [hra2] at t3
          refine ⟨f7, f19, a', 0, rfl, hf7, hf19, st', .inl ⟨c, c2, max k k2, r3, ?_, by omega, rfl, hc7, hc2, hr3⟩⟩
          rw [← hY]; unfold pairP; rw [hx]; simp only [ht]; unfold closedP; rw [hx2]; simp only [t3]
        · rw [hra2] at t3
          refine ⟨f7, f19, a', 11, rfl, hf7, hf19, st', .inr ⟨by decide, fun c1 c2' k' r' e => ?_⟩⟩
          rw [← hY] at e
          obtain ⟨m1, q0, q1, m2, q2, g1, g2, g3, g4, _⟩ := pair_inv e
          rw [hx] at g1
          simp only [Option.some.injEq, Prod.mk.injEq] at g1
          obtain ⟨_, _, rfl⟩ := g1
          rw [ht] at g2
          obtain rfl := Option.some.inj g2
          rw [hx2] at g3
          simp only [Option.some.injEq, Prod.mk.injEq] at g3
          obtain ⟨_, _, rfl⟩ := g3
          rw [t3] at g4; cases g4
      · have fin : ∀ a' w', RS w0 b s w' a' d bad19 → RP w0 b s Y d (.returned (.tuple #[.float .f64 f7, .float .f64 f19])) w' := fun a' w' st' => by
          refine ⟨f7, f19, a', bad19, rfl, hf7, hf19, st', .inr ⟨v19.1, fun c1 c2' k' r' e => ?_⟩⟩
          rw [← hY] at e
          obtain ⟨m1, q0, q1, m2, q2, g1, g2, g3, g4, g5⟩ := pair_inv e
          rw [hx] at g1
          simp only [Option.some.injEq, Prod.mk.injEq] at g1
          obtain ⟨_, _, rfl⟩ := g1
          rw [ht] at g2
          obtain rfl := Option.some.inj g2
          have := v19.2 _ _ _ g3
          exact ⟨by omega, this.2⟩
        exact close_step hsz st19 (fun r3 a' w' _ _ st' => fin a' w' st') fun _ a' w' st' => fin a' w' (by rw [if_neg v19.1] at st'; exact st')
    · have fin : ∀ a' w', RS w0 b s w' a' d bad9 → RP w0 b s Y d (.returned (.tuple #[.float .f64 f7, .float .f64 0])) w' := fun a' w' st' =>
        ⟨f7, 0, a', bad9, rfl, hf7, wd_zero, st', .inr ⟨hb, hv⟩⟩
      exact fls (by simpa using hb) (close_step hsz st9 (fun r3 a' w' _ _ st' => fin a' w' st') fun _ a' w' st' => fin a' w' (by rw [if_neg hb] at st'; exact st'))
  have old : RBad (E (rest s a)) d bad7 → bad7 ≠ 0 ∧ ∀ c1 c2 k r, Y = some (c1, c2, k, r) → 32 < d + (k : Int) ∧ bad7 = 3 := fun v => ⟨v.1, fun c1 c2' k' r' e => by
    rw [← hY] at e
    obtain ⟨m1, q0, q1, m2, q2, g1, g2, g3, g4, g5⟩ := pair_inv e
    have := v.2 _ _ _ g1
    exact ⟨by omega, this.2⟩⟩
  refine ⟨f7, rfl, isnt_step hsz _ (lp := [44]) (by decide) rfl st7 (fun r1 a9 w9 t9 hr9 st9 => cont st9 ?_) fun t9 a9 w9 hr9 st9 => rfail_does (G := fun _ w => _) st9 fun w12 st12 => cont st12 ?_⟩
  · rcases v7 with ⟨c, k, r, hx, hk, rfl, hfc, hra⟩ | v7
    · rw [hra] at t9
      exact .inl ⟨rfl, c, k, r, r1, hx, t9, hr9, hk, hfc⟩
    · exact .inr (old v7)
  · rcases v7 with ⟨c, k, r, hx, hk, rfl, hfc, hra⟩ | v7
    · rw [hra] at t9
      refine .inr ⟨by decide, fun c1 c2' k' r' e => ?_⟩
      rw [← hY] at e
      obtain ⟨m1, q0, q1, m2, q2, g1, g2, g3, g4, g5⟩ := pair_inv e
      rw [hx] at g1
      simp only [Option.some.injEq, Prod.mk.injEq] at g1
      obtain ⟨_, _, rfl⟩ := g1
      rw [t9] at g2; cases g2
    · rw [if_neg v7.1]
      exact .inr (old v7)
end
/-- Too deep. -/
theorem top_step {x : Res} {w : World} {a : Nat} {d : Int} (h : RS w0 b s w a d 0) (hd : 32 < d) :
    Does Tryz.prog 111 #[.pointer (some ⟨b, 0, none⟩), .int .i64 3] w fun e16 w16 => ∃ f16 : Nat, e16 = .returned (.float .f64 f16) ∧ RQ w0 b s x d (.returned (.float .f64 f16)) w16 :=
  rfail_does (G := fun f w => RQ w0 b s x d (.returned (.float .f64 f)) w) h fun w' st => ⟨0, a, 3, rfl, wd_zero, st, .inr ⟨by decide, fun c k r _ => ⟨by omega, rfl⟩⟩⟩
theorem two_bad {x : Option (Option Nat × Option Nat × Nat × List Int)} {d bad : Int} (g : Option Nat → Option Nat → Option Nat) : (bad ≠ 0 ∧ ∀ c1 c2 k r, x = some (c1, c2, k, r) → 32 < d + (k : Int) ∧ bad = 3) → RBad (match x with
    | none => none
    | some (c1, c2, k, r) => some (g c1 c2, k, r)) d bad := fun h => ⟨h.1, fun c k r e => by
  cases x with
  | none => cases e
  | some x =>
    obtain ⟨c1, c2, k0, r0⟩ := x
    simp only [Option.some.injEq, Prod.mk.injEq] at e
    obtain ⟨_, rfl, rfl⟩ := e
    exact h.2 _ _ _ _ rfl⟩
section
variable {n : Nat} {E F : List Int → Res} (hE : RDoes w0 b s 35 n E) (hF : RDoes w0 b s 86 n F) (hS : Short E) {w : World} {a : Nat} {d : Int} (h : RS w0 b s w a d 0) (hl : (rest s a).length < n) (hd : -1099511627776 ≤ d)
include h hl hd
include hF in
theorem within_minus : Does Tryz.prog 144 #[.pointer (some ⟨b, 0, none⟩), .int .u8 45] w (RQ w0 b s (mapR negC (F (rest s a))) d) := by
  refine f144_does _ _ ⟨b, 0, rfl, _, h.blk.cell 2 rfl, brr (fun q => top_step h (of_decide_eq_true q)) fun q => tru rfl ((hF w a d h ⟨hl, hd, by have := of_decide_eq_false q; omega⟩).imp ?_)⟩
  rintro e w' ⟨f, a', bad, rfl, hf, st, v⟩
  obtain ⟨n1, n2⟩ := neg_wd hf
  refine ⟨f, rfl, _, a', bad, rfl, n1, st, ?_⟩
  rcases v with ⟨c, k, r, hx, hk, rfl, rfl, hra⟩ | v
  · exact .inl ⟨_, k, r, by rw [hx]; rfl, hk, rfl, cls_neg n2, hra⟩
  · refine .inr (v.to fun c' k' r' e => ?_)
    obtain ⟨c0, e⟩ := map_inv e
    exact ⟨c0, k', r', e, Nat.le_refl _⟩
include hsz hE
include hS in
theorem within_min : Does Tryz.prog 144 #[.pointer (some ⟨b, 0, none⟩), .int .u8 109] w (RQ w0 b s (twoP E minC (rest s a)) d) := by
  refine f144_does _ _ ⟨b, 0, rfl, _, h.blk.cell 2 rfl, brr (fun q => top_step h (of_decide_eq_true q)) fun q => fls rfl (tru rfl ((rpair_does hsz hE hS h ⟨hl, hd, by have := of_decide_eq_false q; omega⟩).imp ?_))⟩
  rw [two_pair]
  rintro e w' ⟨f1, f2, a', bad, rfl, h1, h2, st, v⟩
  refine ⟨f1, f2, rfl, rcompare_does h1 h2 ⟨_, rfl, ?_⟩⟩
  have hkk : (fcmp f1 f2 < 0) ↔ keyC (cls f1) < keyC (cls f2) := by
    rw [fcmp_key h1 h2, keyC_cls, keyC_cls]; unfold cmpK; (repeat' split) <;> omega
  rcases v with ⟨c1, c2, k, r, hx, hk, rfl, rfl, rfl, hra⟩ | v
  · rw [hx]
    refine brr (fun q => ⟨f1, a', 0, rfl, h1, st, .inl ⟨_, k, r, rfl, hk, rfl, ?_, hra⟩⟩) fun q => ⟨f2, a', 0, rfl, h2, st, .inl ⟨_, k, r, rfl, hk, rfl, ?_, hra⟩⟩
    · unfold minC; rw [if_pos (hkk.1 (of_decide_eq_true q))]
    · unfold minC; rw [if_neg fun e => of_decide_eq_false q (hkk.2 e)]
  · exact brr (fun q => ⟨f1, a', bad, rfl, h1, st, .inr (two_bad _ v)⟩) fun q => ⟨f2, a', bad, rfl, h2, st, .inr (two_bad _ v)⟩
include hS in
theorem within_max : Does Tryz.prog 144 #[.pointer (some ⟨b, 0, none⟩), .int .u8 77] w (RQ w0 b s (twoP E maxC (rest s a)) d) := by
  refine f144_does _ _ ⟨b, 0, rfl, _, h.blk.cell 2 rfl, brr (fun q => top_step h (of_decide_eq_true q)) fun q => fls rfl (fls rfl (tru rfl ((rpair_does hsz hE hS h ⟨hl, hd, by have := of_decide_eq_false q; omega⟩).imp ?_)))⟩
  rw [two_pair]
  rintro e w' ⟨f1, f2, a', bad, rfl, h1, h2, st, v⟩
  refine ⟨f1, f2, rfl, rcompare_does h1 h2 ⟨_, rfl, ?_⟩⟩
  have hkk : (fcmp f1 f2 > 0) ↔ keyC (cls f2) < keyC (cls f1) := by
    rw [fcmp_key h1 h2, keyC_cls, keyC_cls]; unfold cmpK; (repeat' split) <;> omega
  rcases v with ⟨c1, c2, k, r, hx, hk, rfl, rfl, rfl, hra⟩ | v
  · rw [hx]
    refine brr (fun q => ⟨f1, a', 0, rfl, h1, st, .inl ⟨_, k, r, rfl, hk, rfl, ?_, hra⟩⟩) fun q => ⟨f2, a', 0, rfl, h2, st, .inl ⟨_, k, r, rfl, hk, rfl, ?_, hra⟩⟩
    · unfold maxC; rw [if_pos (hkk.1 (of_decide_eq_true q))]
    · unfold maxC; rw [if_neg fun e => of_decide_eq_false q (hkk.2 e)]
  · exact brr (fun q => ⟨f1, a', bad, rfl, h1, st, .inr (two_bad _ v)⟩) fun q => ⟨f2, a', bad, rfl, h2, st, .inr (two_bad _ v)⟩
/-- An inside, to the bracket. -/
theorem inside_step (hd2 : d ≤ 32) {x : Res} {R : Nat → World → Prop} (hx : ∀ c k r, x = some (c, k, r) → ∃ c0, closedP E (rest s a) = some (c0, k, r))
    (hR : ∀ f w', Wd f → ((∃ a', RS w0 b s w' a' d 0 ∧ ∃ k r, closedP E (rest s a) = some (cls f, k, r) ∧ d + (k : Int) ≤ 32 ∧ rest s a' = r) ∨ ∃ a' bad, RS w0 b s w' a' d bad ∧ RBad x d bad) → R f w')
    (hR0 : ∀ f w', Wd f → (∃ a', RS w0 b s w' a' d 11) → closedP E (rest s a) = none → RQ w0 b s x d (.returned (.float .f64 0)) w') :
    Does Tryz.prog 35 #[.pointer (some ⟨b, 0, none⟩)] w fun e50 w50 =>
    ∃ f50 : Nat, e50 = .returned (.float .f64 f50) ∧ Does Tryz.prog 59 #[.pointer (some ⟨b, 0, none⟩), .string (({ data := #[41] } : ByteArray))] w50 fun e52 w52 =>
    ∃ b52 : Bool, e52 = .returned (.bool b52) ∧ Br (!b52)
    (Does Tryz.prog 111 #[.pointer (some ⟨b, 0, none⟩), .int .i64 11] w52 fun e55 w55 =>
    ∃ f55 : Nat, e55 = .returned (.float .f64 f55) ∧ RQ w0 b s x d (.returned (.float .f64 f55)) w55)
    (R f50 w52) := by
  refine (hE w a d h ⟨hl, hd, hd2⟩).imp ?_
  rintro e w50 ⟨f, a', bad, rfl, hf, st, v⟩
  refine ⟨f, rfl, ?_⟩
  rcases v with ⟨c, k, r, hx1, hk, rfl, rfl, hra⟩ | v
  · refine isnt_step hsz _ (lp := [41]) (by decide) rfl st (fun r3 a3 w3 t3 hr3 st3 => ?_) fun t3 a3 w3 hr3 st3 => rfail_does (G := fun f w => RQ w0 b s x d (.returned (.float .f64 f)) w) st3 fun w4 st4 => hR0 f w4 hf ⟨a3, st4⟩ ?_
    · rw [hra] at t3
      exact hR f w3 hf (.inl ⟨a3, st3, k, r3, by unfold closedP; rw [hx1]; simp only [t3], hk, hr3⟩)
    · rw [hra] at t3
      unfold closedP; rw [hx1]; simp only [t3]
  · have vv : RBad x d bad := v.to fun c' k' r' e => by
      obtain ⟨c0, e⟩ := hx _ _ _ e
      obtain ⟨r0, g1, _⟩ := closed_inv e
      exact ⟨c0, k', r0, g1, Nat.le_refl _⟩
    refine isnt_step hsz _ (lp := [41]) (by decide) rfl st (fun r3 a3 w3 t3 hr3 st3 => hR f w3 hf (.inr ⟨a3, bad, st3, vv⟩)) fun t3 a3 w3 hr3 st3 => rfail_does (G := fun f w => RQ w0 b s x d (.returned (.float .f64 f)) w) st3 fun w4 st4 => ?_
    rw [if_neg vv.1] at st4
    exact ⟨0, a3, bad, rfl, wd_zero, st4, .inr vv⟩
theorem within_paren : Does Tryz.prog 144 #[.pointer (some ⟨b, 0, none⟩), .int .u8 40] w (RQ w0 b s (closedP E (rest s a)) d) := by
  refine f144_does _ _ ⟨b, 0, rfl, _, h.blk.cell 2 rfl, brr (fun q => top_step h (of_decide_eq_true q)) fun q => fls rfl (fls rfl (fls rfl (inside_step hsz hE h hl hd (by have := of_decide_eq_false q; omega) (x := closedP E (rest s a)) (R := fun f w => _) (fun c k r e => ⟨c, e⟩) (fun f w' hf hv => fls rfl ?_) fun f w' hf ⟨a', st⟩ e => ⟨0, a', 11, rfl, wd_zero, st, .inr ⟨by decide, fun c k r e2 => by rw [e] at e2; cases e2⟩⟩)))⟩
  rcases hv with ⟨a', st, k, r, hx, hk, hra⟩ | ⟨a', bad, st, v⟩
  · exact ⟨f, a', 0, rfl, hf, st, .inl ⟨_, k, r, hx, hk, rfl, rfl, hra⟩⟩
  · exact ⟨f, a', bad, rfl, hf, st, .inr v⟩
theorem within_abs : Does Tryz.prog 144 #[.pointer (some ⟨b, 0, none⟩), .int .u8 97] w (RQ w0 b s (mapR absC (closedP E (rest s a))) d) := by
  refine f144_does _ _ ⟨b, 0, rfl, _, h.blk.cell 2 rfl, brr (fun q => top_step h (of_decide_eq_true q)) fun q => fls rfl (fls rfl (fls rfl (inside_step hsz hE h hl hd (by have := of_decide_eq_false q; omega) (x := mapR absC (closedP E (rest s a))) (R := fun f w => _) (fun c k r e => map_inv e) (fun f w' hf hv => tru rfl (abs_does hf ⟨_, rfl, ?_⟩)) fun f w' hf ⟨a', st⟩ e => ⟨0, a', 11, rfl, wd_zero, st, .inr ⟨by decide, fun c k r e2 => by rw [e] at e2; cases e2⟩⟩)))⟩
  have hw : Wd (f % 9223372036854775808) := by unfold Wd; omega
  rcases hv with ⟨a', st, k, r, hx, hk, hra⟩ | ⟨a', bad, st, v⟩
  · exact ⟨_, a', 0, rfl, hw, st, .inl ⟨_, k, r, by rw [hx]; rfl, hk, rfl, cls_abs f, hra⟩⟩
  · exact ⟨_, a', bad, rfl, hw, st, .inr v⟩
end
/-- One factor deeper. -/
theorem rdeeper_does {kind : Int} {x : Res} {w : World} {a : Nat} {d : Int} (h : RS w0 b s w a d 0) (h1 : -1099511627776 ≤ d) (h2 : d ≤ 32) (hg : ∀ w', RS w0 b s w' a (d + 1) 0 → Does Tryz.prog 144 #[.pointer (some ⟨b, 0, none⟩), .int .u8 kind] w' (RQ w0 b s x (d + 1))) :
    Does Tryz.prog 107 #[.pointer (some ⟨b, 0, none⟩), .int .u8 kind] w (RQ w0 b s (up id x) d) := by
  refine f107_does _ _ ⟨b, 0, rfl, _, h.blk.cell 2 rfl, inI64 (by omega) (by omega), b, 0, rfl, h.blk.can 2 (by simp), fun ws hs => (hg ws (h.dp hs)).imp ?_⟩
  rintro e w15 ⟨f, a', bad, rfl, hf, st, v⟩
  refine ⟨f, rfl, b, 0, rfl, _, st.blk.cell 2 rfl, inI64 (by omega) (by omega), b, 0, rfl, st.blk.can 2 (by simp), fun ws2 hs2 => ⟨f, a', bad, rfl, hf, ?_, ?_⟩⟩
  · have := st.dp hs2
    rw [show d + 1 - 1 = d by omega] at this
    exact this
  · rcases v with ⟨c, k, r, rfl, hk, rfl, hc, hra⟩ | v
    · exact .inl ⟨c, k + 1, r, rfl, by omega, rfl, hc, hra⟩
    · refine .inr ⟨v.1, fun c k r e => ?_⟩
      obtain ⟨c', k', g1, _, rfl⟩ := up_some e
      have := v.2 _ _ _ g1
      exact ⟨by omega, this.2⟩
end
end Go.Proofs.YtacinpadiiabjaaGreatDoor
