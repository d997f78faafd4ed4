/-
  Numbers read: a decimal number's value.
-/
import Derived.Test.YtffhlgejfgmpiaaGreatDoorReadFlt
namespace Go.Proofs.YtffhlgejfgmpiaaGreatDoor
open Go.RowKit Go.Vc
variable {w : World} {R : Ending → World → Prop}
/-- The tables that are read. -/
structure Laid (w : World) : Prop where
  opt : w.cell? ⟨6, 0, none⟩ = some (.bool true)
  info : w.cell? ⟨7, 0, none⟩ = some (.int .u64 52)
  pow : ∃ p l c, w.cell? ⟨12, 0, none⟩ = some (.slice p l c) ∧ 16 ≤ l ∧ ∀ k, k < 16 → ∃ b o, p = some ⟨b, o, none⟩ ∧ w.cell? ⟨b, o + k, none⟩ = some (.float .f64 (ten k))
theorem Laid.ext {w w' : World} (h : Laid w) (x : Ext w w') : Laid w' := by
  obtain ⟨h1, h2, p, l, c, h3, h4, h5⟩ := h
  exact ⟨x.cell h1, x.cell h2, p, l, c, x.cell h3, h4, fun k hk => by
    obtain ⟨b, o, e, hc⟩ := h5 k hk
    exact ⟨b, o, e, x.cell hc⟩⟩
section
variable {s : ByteArray} {neg : Bool} {d : List Int} (hs : L s = sgnL neg ++ d) (hd : decOk d = true)
include hs hd
theorem special_does (h : R (.returned (.tuple #[.float .f64 0, .int .i64 0, .bool false])) w) : Does Tryz.prog 111 #[.string s] w R := by
  refine f111_does _ ?_
  unfold f111_vc
  obtain ⟨hsz, hdl, hd0, hsl⟩ := size_of hs hd
  obtain ⟨f1, f2⟩ := first_dig hs hd
  refine fls (by rw [beq_eq_false_iff_ne]; omega) ⟨⟨by omega, by omega⟩, ?_⟩
  cases hneg : neg with
  | false =>
    have e0 : sb s 0 = d[0] := char_at hs hd0 (by rw [hneg]; rfl)
    have n : ∀ a : Int, a < 48 ∨ 57 < a → (d[0] == a) = false := fun a ha => by rw [beq_eq_false_iff_ne]; omega
    rw [e0]
    exact fls (n _ (by decide)) (fls (n _ (by decide)) (fls (n _ (by decide)) (fls (n _ (by decide)) (fls (n _ (by decide)) (fls (n _ (by decide)) h)))))
  | true =>
    rw [first_neg hs hneg]
    have hl1 : (sgnL neg).length = 1 := by rw [hneg]; rfl
    refine fls (by decide) (tru (by decide) ⟨⟨by omega, by omega⟩, tru (by decide) ⟨⟨by omega, by omega⟩, ?_⟩⟩)
    have hL : L (s.extract ((1 : Int).toNat) s.size) = sgnL false ++ d := by
      show L (s.extract 1 s.size) = _
      rw [L_from, hs, hneg]; rfl
    have hsz2 := L_len (s.extract ((1 : Int).toNat) s.size)
    rw [hL] at hsz2
    have hsz3 : (s.extract ((1 : Int).toNat) s.size).size = d.length := by rw [← hsz2]; simp [sgnL]
    have e1 : sb (s.extract ((1 : Int).toNat) s.size) 0 = d[0] := char_at hL hd0 rfl
    have eI : sb ({ data := #[105, 110, 102, 105, 110, 105, 116, 121] } : ByteArray) 0 = 105 := by decide
    refine f129_does _ _ ⟨fun i n wl => i = 0 ∧ wl = w, ⟨0, rfl, rfl⟩, ?_⟩
    rintro _ n wl ⟨rfl, rfl⟩
    rw [e1, eI, hsz3]
    have hmin : (0 : Int) < (if (d.length : Int) < (({ data := #[105, 110, 102, 105, 110, 105, 116, 121] } : ByteArray).size : Int) then (d.length : Int) else (({ data := #[105, 110, 102, 105, 110, 105, 116, 121] } : ByteArray).size : Int)) := by
      split
      · omega
      · decide
    refine tru (decide_eq_true hmin) ⟨⟨by omega, by omega⟩, fls (decide_eq_false (by omega)) ⟨⟨by omega, by decide⟩, tru (by rw [bne_iff_ne]; omega) ?_⟩⟩
    exact ⟨_, rfl, fls (by decide) (fls (by decide) (fls (by decide) h))⟩
end
theorem frombi_does {n : Int} (h : R (.returned (.float .f64 n.toNat)) w) : Does Tryz.prog 121 #[.int .u64 n] w R := by
  refine .inr ⟨by kernel_rfl, .float .f64 n.toNat, w, ?_, h⟩
  rw [run_callFunc_extern Tryz.func121 (by kernel_rfl) (by kernel_rfl) (by kernel_rfl) (e := Extern.MathFloatBits.float64frombits) (by kernel_rfl)]
  rfl
theorem u2f {n : Int} (w : World) : (convert 27 22 (.int .u64 n)).run Tryz.prog w = .ok (.float .f64 (floatOfInt .f64 n)) w := run_convert_int_float w _ _ _ _ _ (by kernel_rfl) Tryz.underlying22
theorem foi_wd (n : Int) : Wd (floatOfInt .f64 n) := wd_of_wf (floatOfInt_wf .f64 n)
theorem neg_wd {x : Nat} (hx : Wd x) : Wd (Op.negFloat .f64 x) ∧ nan (Op.negFloat .f64 x) = nan x := by
  have e : Op.negFloat .f64 x = x ^^^ 2 ^ 63 := by
    unfold Op.negFloat
    simp [FloatKind.format, Ieee.Format.signWeight, Ieee.double]
  have h1 : (x ^^^ 2 ^ 63) % 2 ^ 63 = x % 2 ^ 63 := by rw [Nat.xor_mod_two_pow, Nat.mod_self, Nat.xor_zero]
  have h2 : x ^^^ 2 ^ 63 < 2 ^ 64 := Nat.xor_lt_two_pow (by unfold Wd at hx; simpa using hx) (by decide)
  rw [e]
  refine ⟨by unfold Wd; simpa using h2, ?_⟩
  unfold nan rung
  rw [show (9223372036854775808 : Nat) = 2 ^ 63 by decide, h1]
def sgF (neg : Bool) (x : Nat) : Nat := if neg then Op.negFloat .f64 x else x
theorem exact_does (hT : Laid w) (neg : Bool) {M k : Nat} (hM : M < 1000000000000000) (hk : k < 16) : Does Tryz.prog 122 #[.int .u64 (M : Int), .int .i64 (-(k : Int)), .bool neg] w fun e w' => ∃ f, e = .returned (.tuple #[.float .f64 f, .bool true]) ∧ Wd f ∧ cls f = (if k = 0 then cls (sgF neg (floatOfInt .f64 (M : Int))) else opC .quo (sgF neg (floatOfInt .f64 (M : Int))) (ten k)) ∧ Ext w w' := by
  refine f122_does _ _ _ ⟨_, hT.info, by omega, fls ?_ ⟨_, w, u2f w, ?_⟩⟩
  · have : ((M : Int)).fdiv (2 ^ (min ((52 : Int).toNat) 64)) = 0 := by
      show ((M : Int)).fdiv 4503599627370496 = 0
      rw [Int.fdiv_eq_ediv_of_nonneg _ (by decide)]
      omega
    rw [this]; rfl
  obtain ⟨p, l, c, hp, hl, hc⟩ := hT.pow
  obtain ⟨b, o, e, hcell⟩ := hc k hk
  have go : ∀ x, Wd x → Br (-(k : Int) == 0) (∃ f, Ending.returned (.tuple #[.float .f64 x, .bool true]) = .returned (.tuple #[.float .f64 f, .bool true]) ∧ Wd f ∧ cls f = (if k = 0 then cls x else opC .quo x (ten k)) ∧ Ext w w) True := fun x hx => ⟨fun q => ⟨x, rfl, hx, by
      have : k = 0 := by have : -(k : Int) = 0 := by simpa using q
                         omega
      rw [if_pos this], Upd.refl _ _⟩, fun _ => trivial⟩
  have fin : ∀ x, Wd x → k ≠ 0 → ∃ (p58 : Option Addr) (l58 c58 : Nat), w.cell? ⟨12, 0, none⟩ = some (.slice p58 l58 c58) ∧ InK .i64 (0 - -(k : Int)) ∧ ((0 : Int) ≤ (0 - -(k : Int)) ∧ (0 - -(k : Int)) < (l58 : Int)) ∧ ∃ b61 o61, p58 = some ⟨b61, o61, none⟩ ∧ ∃ f62 : Nat, w.cell? ⟨b61, o61 + (0 - -(k : Int)).toNat, none⟩ = some (.float .f64 f62) ∧ ∃ f63 : Nat, ∃ w63, (binOp .quo 22 (.float .f64 x) (.float .f64 f62)).run Tryz.prog w = .ok (.float .f64 f63) w63 ∧
      ∃ f, Ending.returned (.tuple #[.float .f64 f63, .bool true]) = .returned (.tuple #[.float .f64 f, .bool true]) ∧ Wd f ∧ cls f = (if k = 0 then cls x else opC .quo x (ten k)) ∧ Ext w w63 := fun x hx h0 => by
    obtain ⟨r, w', h1, h2, h3, h4⟩ := opC_run (P := Tryz.prog) .quo rfl 22 x (ten k) w
    exact ⟨p, l, c, hp, inI64 (by omega) (by omega), ⟨by omega, by omega⟩, b, o, e, _, by rw [show (0 - -(k : Int)).toNat = k by omega]; exact hcell, r, w', h1, r, rfl, h3, by rw [if_neg h0]; exact h4, h2⟩
  have hx1 := foi_wd (M : Int)
  have hx2 := (neg_wd hx1).1
  generalize floatOfInt .f64 (M : Int) = F at *
  obtain ⟨x, hxe, hx⟩ : ∃ x, x = sgF neg F ∧ Wd x := ⟨_, rfl, by
    unfold sgF
    cases neg
    · rw [if_neg (by decide)]; exact hx1
    · rw [if_pos rfl]; exact hx2⟩
  rw [← hxe]
  have go := go x hx
  have fin := fin x hx
  generalize hG : (if k = 0 then cls x else opC .quo x (ten k)) = G at *
  cases neg with
  | true =>
    refine tru rfl ?_
    rw [show Op.negFloat .f64 F = x by rw [hxe]; unfold sgF; rw [if_pos rfl]]
    refine brr (fun q => go.1 q) fun q => ?_
    have h0 : k ≠ 0 := fun h => by subst h; simp at q
    exact fls (decide_eq_false (by omega)) (tru (decide_eq_true (by omega)) (tru (decide_eq_true (by omega)) (fin h0)))
  | false =>
    refine fls rfl ?_
    rw [show F = x by rw [hxe]; unfold sgF; rw [if_neg (by decide)]]
    refine brr (fun q => go.1 q) fun q => ?_
    have h0 : k ≠ 0 := fun h => by subst h; simp at q
    exact fls (decide_eq_false (by omega)) (tru (decide_eq_true (by omega)) (tru (decide_eq_true (by omega)) (fin h0)))
theorem numV_lt : ∀ {l : List Int}, (∀ x ∈ l, isDig x = true) → numV l < 10 ^ l.length := by
  have key : ∀ (l : List Int), (∀ x ∈ l, isDig x = true) → ∀ a n, a < 10 ^ n → l.foldl (fun n c => n * 10 + (c - 48).toNat) a < 10 ^ (n + l.length) := fun l => by
    induction l with
    | nil => intro _ a n h; simpa using h
    | cons x r ih =>
      intro hx a n ha
      have h1 := hx x List.mem_cons_self
      unfold isDig at h1
      simp only [Bool.and_eq_true, decide_eq_true_eq] at h1
      have := ih (fun y hy => hx y (List.mem_cons_of_mem _ hy)) (a * 10 + (x - 48).toNat) (n + 1) (by rw [Nat.pow_succ]; omega)
      rw [List.foldl_cons, List.length_cons, show n + (r.length + 1) = n + 1 + r.length by omega]
      exact this
  intro l hl
  have := key l hl 0 0 (by decide)
  rw [Nat.zero_add] at this
  exact this
section
variable {s : ByteArray} {neg : Bool} {d : List Int} (hs : L s = sgnL neg ++ d) (hd : decOk d = true)
include hs hd
/-- A decimal number's value. -/
theorem parse_does (hT : Laid w) : Does Tryz.prog 29 #[.string s, .int .i64 64] w fun e w' => ∃ f, e = .returned (.tuple #[.float .f64 f, .nilIface]) ∧ Wd f ∧ cls f = decS neg (numV (headD d ++ tailD d)) (tailD d).length ∧ Ext w w' := by
  obtain ⟨hsz, hdl, hd0, hsl⟩ := size_of hs hd
  obtain ⟨g1, g2, g3, g4, g5⟩ := dec_facts hd
  have hM : numV (headD d ++ tailD d) < 1000000000000000 := by
    have h1 := numV_lt (l := headD d ++ tailD d) fun x hx => by
      rcases List.mem_append.1 hx with hx | hx
      · exact g1 x hx
      · exact g4 x hx
    have h2 : 10 ^ (headD d ++ tailD d).length ≤ 10 ^ 15 := Nat.pow_le_pow_right (by decide) (by rw [List.length_append]; omega)
    have h3 : (10 : Nat) ^ 15 = 1000000000000000 := by decide
    omega
  have main : Does Tryz.prog 97 #[.string s] w fun e w' => ∃ f, e = .returned (.tuple #[.float .f64 f, .int .i64 s.size, .nilIface]) ∧ Wd f ∧ cls f = decS neg (numV (headD d ++ tailD d)) (tailD d).length ∧ Ext w w' := by
    refine f97_does _ ?_
    unfold f97_vc
    refine special_does hs hd ⟨_, _, _, rfl, fls rfl (readf_does hs hd ⟨_, _, _, _, _, _, _, rfl, fls rfl (fls rfl ⟨_, hT.opt, tru rfl (f120_does _ ?_)⟩)⟩)⟩
    have body : ∀ n66 : Int, n66 = (if neg then 1 else 0) → (0 : Int) ≤ 63 ∧ Br (((numV (headD d ++ tailD d) : Nat) : Int) == 0)
        (Does Tryz.prog 121 #[.int .u64 (bits .or .u64 (IntKind.wrap .u64 (n66 * 2 ^ 63)) 0)] w fun e72 w72 => ∃ f72 : Nat, e72 = .returned (.float .f64 f72) ∧ ∃ f, Ending.returned (.tuple #[.float .f64 f72, .int .i64 s.size, .nilIface]) = .returned (.tuple #[.float .f64 f, .int .i64 s.size, .nilIface]) ∧ Wd f ∧ cls f = decS neg (numV (headD d ++ tailD d)) (tailD d).length ∧ Ext w w72) True := fun n66 hn => ⟨by decide, fun q => by
      have q : numV (headD d ++ tailD d) = 0 := by
        have : ((numV (headD d ++ tailD d) : Nat) : Int) = 0 := by simpa using q
        omega
      have e : (bits .or .u64 (IntKind.wrap .u64 (n66 * 2 ^ 63)) 0).toNat = if neg then 9223372036854775808 else 0 := by
        rw [hn]; cases neg <;> decide
      refine frombi_does ⟨_, rfl, _, rfl, ?_, ?_, Upd.refl _ _⟩
      · rw [e]; unfold Wd; cases neg <;> decide
      · rw [e]
        unfold decS
        rw [if_pos q]
        cases neg <;> decide, fun _ => trivial⟩
    have rest : (numV (headD d ++ tailD d) ≠ 0) → ∀ {R' : Ending → World → Prop} {B1 B2 B3 : Prop}, (∀ {X : Prop}, Does Tryz.prog 122 #[.int .u64 ((numV (headD d ++ tailD d) : Nat) : Int), .int .i64 (-((tailD d).length : Int)), .bool neg] w R' → Br (decide (-((tailD d).length : Int) > 310)) B1 (Br (decide (-((tailD d).length : Int) < (-345))) B2 (Br (!false) (Does Tryz.prog 122 #[.int .u64 ((numV (headD d ++ tailD d) : Nat) : Int), .int .i64 (-((tailD d).length : Int)), .bool neg] w R') B3))) := fun h0 {R'} {B1 B2 B3} {X} hx =>
      fls (decide_eq_false (by omega)) (fls (decide_eq_false (by omega)) (tru rfl hx))
    have tail : numV (headD d ++ tailD d) ≠ 0 → Does Tryz.prog 122 #[.int .u64 ((numV (headD d ++ tailD d) : Nat) : Int), .int .i64 (-((tailD d).length : Int)), .bool neg] w fun e w' => ∃ f, e = .returned (.tuple #[.float .f64 f, .bool true]) ∧ Wd f ∧ cls f = decS neg (numV (headD d ++ tailD d)) (tailD d).length ∧ Ext w w' := fun h0 => by
      refine (exact_does hT neg hM (by omega)).imp ?_
      rintro e w' ⟨f, rfl, h1, h2, h3⟩
      refine ⟨f, rfl, h1, ?_, h3⟩
      rw [h2]
      unfold decS sgF
      rw [if_neg h0]
    have fin : ∀ n66 : Int, n66 = (if neg then 1 else 0) → _ := fun n66 hn => (body n66 hn).2.1
    cases hneg : neg with
    | true =>
      rw [hneg] at body tail
      refine tru rfl ⟨_, rfl, by decide, brr (fun q => (body 1 rfl).2.1 q) fun q => ?_⟩
      have h0 : numV (headD d ++ tailD d) ≠ 0 := fun e => by rw [e] at q; simp at q
      rw [if_neg h0]
      refine fls (decide_eq_false (by omega)) (fls (decide_eq_false (by omega)) (tru rfl ((tail h0).imp ?_)))
      rintro e w93 ⟨f, rfl, h1, h2, h3⟩
      exact ⟨_, _, rfl, tru rfl ⟨f, rfl, h1, h2, h3⟩⟩
    | false =>
      rw [hneg] at body tail
      refine fls rfl ⟨_, rfl, by decide, brr (fun q => (body 0 rfl).2.1 q) fun q => ?_⟩
      have h0 : numV (headD d ++ tailD d) ≠ 0 := fun e => by rw [e] at q; simp at q
      rw [if_neg h0]
      refine fls (decide_eq_false (by omega)) (fls (decide_eq_false (by omega)) (tru rfl ((tail h0).imp ?_)))
      rintro e w93 ⟨f, rfl, h1, h2, h3⟩
      exact ⟨_, _, rfl, tru rfl ⟨f, rfl, h1, h2, h3⟩⟩
  refine f29_does _ _ (f52_does _ _ (f76_does _ _ (fls (by decide) (main.imp ?_))))
  rintro e w' ⟨f, rfl, h1, h2, h3⟩
  exact ⟨_, _, _, rfl, _, _, _, rfl, fls (by simp) ⟨_, _, rfl, true, .inl ⟨rfl, rfl⟩, fls rfl ⟨f, rfl, h1, h2, h3⟩⟩⟩
end
/-- What a text is read as: a number with a point, no number in another form. -/
def readM (l : List Int) : Option (Option Nat) :=
  if l = [110, 97, 110] then some none else if l = [105, 110, 102] then some (some infW) else decC l
theorem nan_does (h : ∀ f, Wd f → cls f = none → R (.returned (.float .f64 f)) w) : Does Tryz.prog 24 #[] w R := by
  refine f24_does ?_
  refine .inr ⟨by kernel_rfl, .float .f64 9221120237041090561, w, ?_, ⟨_, rfl, h _ (by unfold Wd; decide) (by decide)⟩⟩
  rw [run_callFunc_extern Tryz.func47 (by kernel_rfl) (by kernel_rfl) (by kernel_rfl) (e := Extern.MathFloatBits.float64frombits) (by kernel_rfl)]
  rfl
theorem inf_does (h : R (.returned (.float .f64 infW)) w) : Does Tryz.prog 25 #[.int .i64 1] w R := by
  refine f25_does _ (tru (by decide) ?_)
  refine .inr ⟨by kernel_rfl, .float .f64 infW, w, ?_, ⟨_, rfl, h⟩⟩
  rw [run_callFunc_extern Tryz.func47 (by kernel_rfl) (by kernel_rfl) (by kernel_rfl) (e := Extern.MathFloatBits.float64frombits) (by kernel_rfl)]
  rfl
theorem read_does (s : ByteArray) (hs : s.size ≤ 140737488355328) (h1 : ∀ r, L s ≠ 45 :: r) (h2 : ∀ a r, L s ≠ a :: 120 :: r) (hT : Laid w) : Does Tryz.prog 9 #[.string s] w fun e w' => ∃ f b, e = .returned (.tuple #[.float .f64 f, .bool b]) ∧ Wd f ∧ Ext w w' ∧ readM (L s) = if b then some (cls f) else none := by
  refine f9_does _ ?_
  unfold f9_vc
  rw [L_eq, L_eq, L_eq]
  have n1 : L ({ data := #[110, 97, 110] } : ByteArray) = [110, 97, 110] := by decide
  have n2 : L ({ data := #[105, 110, 102] } : ByteArray) = [105, 110, 102] := by decide
  have n3 : L ({ data := #[45, 105, 110, 102] } : ByteArray) = [45, 105, 110, 102] := by decide
  rw [n1, n2, n3]
  unfold readM
  refine brr (fun q => ?_) fun q => brr (fun q2 => ?_) fun q2 => fls (decide_eq_false (h1 _)) (trim_does _ _ fun t ht => ⟨t, rfl, ?_⟩)
  · rw [if_pos (of_decide_eq_true q)]
    exact nan_does fun f hf hc => ⟨f, rfl, f, true, rfl, hf, Upd.refl _ _, by rw [hc]; rfl⟩
  · rw [if_neg (of_decide_eq_false q), if_pos (of_decide_eq_true q2)]
    exact inf_does ⟨infW, rfl, infW, true, rfl, by unfold Wd; decide, Upd.refl _ _, by decide⟩
  · rw [if_neg (of_decide_eq_false q), if_neg (of_decide_eq_false q2)]
    have n4 : L ({ data := #[45] } : ByteArray) = [45] := by decide
    have ht : L t = L s := by
      rw [ht, n4, if_neg]
      intro k
      obtain ⟨r, hr⟩ := List.isPrefixOf_iff_prefix.1 k
      exact h1 r hr.symm
    have hts : t.size = s.size := by rw [← L_len, ← L_len, ht]
    refine (decimal_does t (by omega)).imp ?_
    rintro e w20 ⟨rfl, x20⟩
    rw [ht]
    refine ⟨_, rfl, ?_⟩
    cases hd : decOk (L s) with
    | false =>
      refine tru rfl (hasp_does _ _ ⟨_, rfl, ?_⟩)
      have n5 : L ({ data := #[48, 120, 49] } : ByteArray) = [48, 120, 49] := by decide
      rw [ht, n5]
      refine tru ?_ ⟨0, false, rfl, by unfold Wd; decide, x20, by unfold decC; rw [hd]; rfl⟩
      rw [Bool.not_eq_true', Bool.eq_false_iff]
      intro k
      obtain ⟨r, hr⟩ := List.isPrefixOf_iff_prefix.1 k
      exact h2 48 (49 :: r) hr.symm
    | true =>
      refine fls rfl ((parse_does (neg := false) (d := L s) rfl hd (hT.ext x20)).imp ?_)
      rintro e w29 ⟨f, rfl, f1, f2, x29⟩
      have x29 := Ext.then x20 x29
      refine ⟨_, _, rfl, true, .inl ⟨rfl, rfl⟩, fls rfl ((decimal_does t (by omega)).imp ?_)⟩
      rintro e w36 ⟨rfl, x36⟩
      rw [ht, hd]
      refine ⟨_, rfl, fls rfl ⟨f, true, rfl, f1, Ext.then x29 x36, ?_⟩⟩
      unfold decC
      rw [if_pos hd, ← decS_false, ← f2]; rfl
end Go.Proofs.YtffhlgejfgmpiaaGreatDoor
