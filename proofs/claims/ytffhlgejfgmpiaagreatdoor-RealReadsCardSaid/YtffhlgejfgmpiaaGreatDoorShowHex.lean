/-
  Numbers shown: digits in base 16; zeros ahead and behind.
-/
import Derived.Test.YtffhlgejfgmpiaaGreatDoorReadStr
import Derived.Test.YtffhlgejfgmpiaaGreatDoorShowNum
namespace Go.Vc
theorem and15 {n : Nat} (h : n < 18446744073709551616) : bits .and .u64 (n : Int) 15 = ((n % 16 : Nat) : Int) := by
  show IntKind.u64.wrap (((BitVec.ofInt 64 (n : Int)) &&& (BitVec.ofInt 64 ((15 : Nat) : Int))).toNat : Int) = _
  rw [BitVec.toNat_and, BitVec.ofInt_natCast, BitVec.ofInt_natCast, BitVec.toNat_ofNat, BitVec.toNat_ofNat, Nat.mod_eq_of_lt (a := n) (by omega), Nat.mod_eq_of_lt (a := 15) (by decide)]
  have e := Nat.and_two_pow_sub_one_eq_mod n 4
  rw [show (2 ^ 4 - 1 : Nat) = 15 by decide, show (2 ^ 4 : Nat) = 16 by decide] at e
  rw [e, w64 (by omega)]
/-- Cells that end at a place. -/
def Tl (w : World) (b e : Nat) (S : List Int) : Prop := ∀ j (h : j < S.length), w.cell? ⟨b, e - S.length + j, none⟩ = some (.int .u8 S[j])
theorem Tl.put {w w' : World} {b e i : Nat} {S : List Int} {x : Int} (h : Tl w b e S) (hi : i + 1 + S.length = e) (hc : CanStore w b i) (hs : Stored w b i (.int .u8 x) w') : Tl w' b e (x :: S) := fun j hj => by
  cases j with
  | zero =>
    rw [List.length_cons, show e - (S.length + 1) + 0 = i by omega, hs.cell hc]; rfl
  | succ j =>
    have hj' : j < S.length := by simpa using hj
    have := h j hj'
    rw [List.length_cons, show e - (S.length + 1) + (j + 1) = e - S.length + j by omega, hs.other (.inr (by omega)), this]
    rfl
theorem Tl.ext {w w' : World} {b e : Nat} {S : List Int} (h : Tl w b e S) (x : Ext w w') : Tl w' b e S := fun j hj => x.cell (h j hj)
end Go.Vc
namespace Go.Proofs.YtffhlgejfgmpiaaGreatDoor
open Go.RowKit Go.Vc
variable {w : World} {R : Ending → World → Prop}
theorem tz16_does (hT : Laid2 w) (h : R (.returned (.int .i64 4)) w) : Does Tryz.prog 85 #[.int .u64 16] w R := by
  refine f85_does _ (f101_does (fls (by decide) ⟨by decide, by decide, 4, ?_, inI64 (by decide) (by decide), _, rfl, h⟩))
  have e : (0 + ((IntKind.wrap .u64 ((bits .and .u64 16 (IntKind.wrap .u64 (0 - 16))) * 285870213051353865)).fdiv (2 ^ 58)).toNat : Nat) = 15 := by decide
  rw [e]
  exact hT.db
theorem hex_dig : ∀ d, d < 16 → sb ({ data := #[48, 49, 50, 51, 52, 53, 54, 55, 56, 57, 97, 98, 99, 100, 101, 102, 103, 104, 105, 106, 107, 108, 109, 110, 111, 112, 113, 114, 115, 116, 117, 118, 119, 120, 121, 122] } : ByteArray) ((d : Nat) : Int) = hexc d := by decide +kernel
theorem hexc_inK {d : Nat} (h : d < 16) : InK .u8 (hexc d) := by
  unfold hexc
  split
  · exact ⟨by show (0 : Int) ≤ _; omega, by show _ ≤ (255 : Int); omega⟩
  · exact ⟨by show (0 : Int) ≤ _; omega, by show _ ≤ (255 : Int); omega⟩
theorem hexL_inK : ∀ n, ∀ x ∈ hexL n, InK .u8 x := by
  intro n
  induction n using Nat.strongRecOn with
  | ind n ih =>
    intro x hx
    by_cases h : n < 16
    · rw [hexL_small h] at hx
      simp only [List.mem_singleton] at hx
      rw [hx]; exact hexc_inK h
    · rw [hexL_big h] at hx
      rcases List.mem_append.1 hx with hx | hx
      · exact ih (n / 16) (by omega) x hx
      · simp only [List.mem_singleton] at hx
        rw [hx]; exact hexc_inK (Nat.mod_lt _ (by decide))
theorem fmtb_does (hT : Laid2 w) {F : Nat} (hF : F < 4503599627370496) : Does Tryz.prog 61 #[.slice none 0 0, .int .u64 (F : Int), .int .i64 16, .bool false, .bool false] w fun e w' => ∃ s, e = .returned (.tuple #[.slice none 0 0, .string s]) ∧ L s = hexL F ∧ Ext w w' := by
  refine f61_does _ _ _ _ _ _ _ (fls rfl (fls rfl (fls rfl fun b w12 n12 => fls rfl (f84_does _ ⟨by decide, true, by congr 1, tru rfl ?_⟩))))
  have e16 : IntKind.wrap .u64 16 = 16 := by decide
  have e4 : (min (IntKind.wrap .u64 4).toNat 64) = 4 := by decide
  have p4 : (2 : Int) ^ 4 = ((16 : Nat) : Int) := by decide
  have e15 : IntKind.wrap .u64 (16 - 1) = 15 := by decide
  rw [e16]
  refine tz16_does (hT.ext n12.ext) ⟨_, rfl, ?_⟩
  rw [e4, p4, e15]
  have hge : w.heap.size ≤ b := by rw [n12.eq]; exact Nat.le_refl _
  refine ⟨fun x k n wl => ∃ (q : Nat) (S : List Int), q = n ∧ x = (q : Int) ∧ q ≤ F ∧ k = ((65 - S.length : Nat) : Int) ∧ S.length + (hexL q).length ≤ 13 ∧ hexL F = hexL q ++ S ∧ Tl wl b 65 S ∧ (∀ j, j < 65 → CanStore wl b j) ∧ Ext w wl,
    ⟨_, F, [], rfl, rfl, Nat.le_refl _, rfl, by have := (hexL_len (k := 13) (by decide) (show F < 16 ^ 13 from hF)).1; simpa using this, by rw [List.append_nil], fun j hj => by simp at hj, fun j hj => n12.can j (by simpa using hj), n12.ext⟩, ?_⟩
  rintro _ _ _ wl ⟨q, S, rfl, rfl, hqF, rfl, hlen, hS, hT65, hcan, xl⟩
  have p13 : (16 : Nat) ^ 13 = 4503599627370496 := by decide
  have hq1 : 1 ≤ (hexL q).length := (hexL_len (k := 13) (by decide) (by omega)).2
  have hin : ∀ {d : Nat}, (((65 - S.length : Nat) : Int) - 1).toNat = 65 - S.length - 1 := fun {d} => by omega
  refine brr (fun c => ?_) fun c => ?_
  · have c : ¬ q < 16 := by have := of_decide_eq_true c; omega
    rw [and15 (by omega), hex_dig _ (Nat.mod_lt _ (by decide)), fd]
    have hb := hexL_big c
    refine ⟨inI64 (by omega) (by omega), ⟨by omega, ?_⟩, ⟨by omega, by omega⟩, by rw [Nat.zero_add]; exact hcan _ (by omega), fun ws hs => ⟨by decide, q / 16, by omega, q / 16, hexc (q % 16) :: S, rfl, rfl, by omega, ?_, ?_, ?_, ?_, fun j hj => hs.can (hcan j hj), ?_⟩⟩
    · show ((q % 16 : Nat) : Int) < 36
      omega
    · rw [List.length_cons]; omega
    · rw [hb, List.length_append, List.length_singleton] at hlen
      rw [List.length_cons]; omega
    · rw [hS, hb, List.append_assoc]; rfl
    · rw [Nat.zero_add, hin (d := 0)] at hs
      exact hT65.put (by omega) (hcan _ (by omega)) hs
    · exact Ext.loc xl hge hs.upd
  · have c : q < 16 := by have := of_decide_eq_false c; omega
    rw [hex_dig _ c]
    have hb := hexL_small c
    refine ⟨inI64 (by omega) (by omega), ⟨by omega, ?_⟩, ⟨by omega, by omega⟩, by rw [Nat.zero_add]; exact hcan _ (by omega), fun ws hs => fls rfl (fls rfl ⟨⟨by omega, by omega⟩, ?_⟩)⟩
    · show ((q : Nat) : Int) < 36
      omega
    · rw [Nat.zero_add, hin (d := 0)] at hs
      rw [hin (d := 0)]
      have hT2 := hT65.put (by omega) (hcan _ (by omega)) hs
      have hL : hexL F = hexc q :: S := by rw [hS, hb]; rfl
      have hlF : (hexL F).length = S.length + 1 := by rw [hL]; rfl
      have e2 : subp (some ⟨b, 0, none⟩) (65 - S.length - 1) 65 1 = some ⟨b, 65 - S.length - 1, none⟩ := by
        unfold subp
        rw [if_neg (by omega)]
        simp only [Option.map_some, add_plain', Nat.mul_one, Nat.zero_add]
      have hI : Ints .u8 ws (fun _ => True) (some ⟨b, 65 - S.length - 1, none⟩) (hexL F) := fun i hi => by
        refine ⟨b, _, rfl, trivial, ?_, hexL_inK F _ (List.getElem_mem hi)⟩
        have hi2 : i < (hexc q :: S).length := by rw [← hL]; exact hi
        have := hT2 i hi2
        rw [List.length_cons, show 65 - (S.length + 1) + i = 65 - S.length - 1 + i by omega] at this
        rw [Nat.mul_one, this]
        congr 2
        simp only [hL]
      rw [e2]
      exact ⟨_, _, conv_str Tryz.underlying50 Tryz.underlying5 Tryz.underlying9 hI (by omega) _, _, rfl, L_nums (hexL_inK F), Ext.loc xl hge hs.upd⟩
theorem formatu_does (hT : Laid2 w) {F : Nat} (hF : F < 4503599627370496) : Does Tryz.prog 43 #[.int .u64 (F : Int), .int .i64 16] w fun e w' => ∃ s, e = .returned (.string s) ∧ L s = hexL F ∧ Ext w w' := by
  refine f43_does _ _ (f64_does _ _ (fls rfl ((fmtb_does hT hF).imp ?_)))
  rintro e w' ⟨s, rfl, hs, x⟩
  exact ⟨_, _, _, s, rfl, s, rfl, s, rfl, hs, x⟩
theorem mul1 : ∀ n : Nat, n < 14 → (IntKind.wrap .u64 ((IntKind.wrap .u64 ((IntKind.wrap .u64 (((1 : Int).fdiv (2 ^ 32)) * ((n : Int).fdiv (2 ^ 32)))) + ((IntKind.wrap .u64 ((IntKind.wrap .u64 (((1 : Int).fdiv (2 ^ 32)) * (bits .and .u64 (n : Int) 4294967295))) + ((IntKind.wrap .u64 ((bits .and .u64 1 4294967295) * (bits .and .u64 (n : Int) 4294967295))).fdiv (2 ^ 32)))).fdiv (2 ^ 32)))) + ((IntKind.wrap .u64 ((bits .and .u64 (IntKind.wrap .u64 ((IntKind.wrap .u64 (((1 : Int).fdiv (2 ^ 32)) * (bits .and .u64 (n : Int) 4294967295))) + ((IntKind.wrap .u64 ((bits .and .u64 1 4294967295) * (bits .and .u64 (n : Int) 4294967295))).fdiv (2 ^ 32)))) 4294967295) + (IntKind.wrap .u64 ((bits .and .u64 1 4294967295) * ((n : Int).fdiv (2 ^ 32)))))).fdiv (2 ^ 32)))) = 0 ∧ IntKind.wrap .u64 (1 * (n : Int)) = n := by decide +kernel
theorem hasp_lit (a b : ByteArray) (h : R (.returned (.bool ((L b).isPrefixOf (L a)))) w) : Does Tryz.prog 28 #[.string a, .string b] w R := hasp_does _ _ h
theorem zeros_pre : (L ({ data := #[48] } : ByteArray)).isPrefixOf (L txt128_32_32) = false ∧ (L ({ data := #[48] } : ByteArray)).isPrefixOf (L txt128_45_45) = false ∧ (L ({ data := #[48] } : ByteArray)).isPrefixOf (L txt64_48_48) = true ∧ txt64_48_48.size = 64 := by decide +kernel
theorem zeros_take : ∀ n, n < 14 → (txt64_48_48.extract 0 n).data.toList.map (fun b => (b.toNat : Int)) = List.replicate n 48 := by decide +kernel
theorem repeat_does {n : Nat} (hn : n < 14) (h : ∀ s, L s = List.replicate n 48 → R (.returned (.string s)) w) : Does Tryz.prog 45 #[.string { data := #[48] }, .int .i64 (n : Int)] w R := by
  refine f45_does _ _ ?_
  unfold f45_vc
  have s1 : ((({ data := #[48] } : ByteArray).size : Nat) : Int) = 1 := by decide
  have b48 : sb ({ data := #[48] } : ByteArray) 0 = 48 := by decide
  obtain ⟨z1, z2, z3, z4⟩ := zeros_pre
  rw [s1, b48]
  refine brr (fun q => ?_) fun q => brr (fun q2 => ?_) fun q2 => fls (decide_eq_false (by omega)) ?_
  · have q : n = 0 := by have : (n : Int) = 0 := by simpa using q
                         omega
    subst q
    exact h _ (by decide)
  · have q : n = 1 := by have : (n : Int) = 1 := by simpa using q2
                         omega
    subst q
    exact h _ (by decide)
  · have w1 : IntKind.wrap .u64 1 = 1 := by decide
    rw [w1, w64 (by omega)]
    obtain ⟨m1, m2⟩ := mul1 n hn
    refine f69_does _ _ (f92_does _ _ ⟨by decide, by decide, by decide, by decide, by decide, _, _, rfl, _, _, rfl, ?_⟩)
    rw [m1, m2]
    refine fls (by decide) (fls (decide_eq_false (by omega)) ⟨inI64 (by omega) (by omega), fls (by decide) ⟨fun _ _ => False, ⟨⟨by decide, by decide⟩, fls (by decide) (fls (by decide) (tru (by decide) (tru (decide_eq_true (by omega)) (hasp_lit _ _ ⟨_, rfl, ?_⟩))))⟩, fun _ _ k => k.elim⟩⟩)
    rw [z1]
    refine fls rfl (tru (decide_eq_true (by omega)) (hasp_lit _ _ ⟨_, rfl, ?_⟩))
    rw [z2]
    refine fls rfl (tru (decide_eq_true (by omega)) (hasp_lit _ _ ⟨_, rfl, ?_⟩))
    rw [z3]
    refine tru rfl ⟨⟨by omega, by rw [z4]; omega⟩, h _ ?_⟩
    rw [Int.toNat_natCast]
    exact zeros_take n hn
theorem trimb_does (s : ByteArray) (hs : s.size ≤ 1000000) (h : ∀ t, L t = trimZ (L s) → R (.returned (.string t)) w) : Does Tryz.prog 65 #[.string s, .int .u8 48] w R := by
  refine f65_does _ _ ⟨fun t n wl => n = t.size ∧ t.size ≤ 1000000 ∧ trimZ (L t) = trimZ (L s) ∧ wl = w, ⟨_, rfl, hs, rfl, rfl⟩, ?_⟩
  rintro t _ wl ⟨rfl, ht, htz, rfl⟩
  have hl := L_len t
  refine brr (fun q => ?_) fun q => ?_
  · have q := of_decide_eq_true q
    obtain ⟨l0, c, hlc⟩ : ∃ l0 c, L t = l0 ++ [c] := by
      rcases List.eq_nil_or_concat (L t) with e | ⟨l0, c, e⟩
      · rw [e] at hl; simp at hl; omega
      · exact ⟨l0, c, by rw [e, List.concat_eq_append]⟩
    have hl0 : l0.length + 1 = t.size := by rw [← hl, hlc]; simp
    have hc : sb t ((t.size : Int) - 1) = c := by
      rw [show (t.size : Int) - 1 = ((l0.length : Nat) : Int) by omega, L_sb (by omega)]
      simp [hlc]
    rw [hc]
    refine ⟨inI64 (by omega) (by omega), ⟨by omega, by omega⟩, brr (fun q2 => ?_) fun q2 => h _ ?_⟩
    · have q2 : c = 48 := by simpa using q2
      have hL : L (t.extract 0 ((t.size : Int) - 1).toNat) = l0 := by
        rw [show ((t.size : Int) - 1).toNat = l0.length by omega, L_upto (by omega), hlc]; simp
      have hsz : (t.extract 0 ((t.size : Int) - 1).toNat).size = l0.length := by rw [← L_len, hL]
      refine ⟨inI64 (by omega) (by omega), ⟨by omega, by omega⟩, l0.length, by omega, hsz.symm, by omega, ?_, rfl⟩
      rw [hL, ← htz, hlc, trimZ_snoc, if_pos q2]
    · have q2 : c ≠ 48 := by simpa using q2
      rw [← htz, hlc, trimZ_snoc, if_neg q2]
  · have q := of_decide_eq_false q
    refine h _ ?_
    have : L t = [] := List.length_eq_zero_iff.1 (by omega)
    rw [← htz, this]; rfl
end Go.Proofs.YtffhlgejfgmpiaaGreatDoor
