/-
  Numbers shown: whole numbers in base 10.
-/
import Derived.Test.YtffhlgejfgmpiaaGreatDoorShowPure
import Derived.Test.YtffhlgejfgmpiaaGreatDoorFltCalls
import Derived.Test.YtffhlgejfgmpiaaGreatDoorLocal
namespace Go.Vc
theorem w32 {n : Nat} (h : n < 4294967296) : IntKind.wrap .u32 (n : Int) = n := wrap_in ⟨by show (0 : Int) ≤ _; omega, by show _ ≤ (4294967295 : Int); omega⟩
theorem w64 {n : Nat} (h : n < 18446744073709551616) : IntKind.wrap .u64 (n : Int) = n := wrap_in ⟨by show (0 : Int) ≤ _; omega, by show _ ≤ (18446744073709551615 : Int); omega⟩
theorem w8 {n : Nat} (h : n < 256) : IntKind.wrap .u8 (n : Int) = n := wrap_in ⟨by show (0 : Int) ≤ _; omega, by show _ ≤ (255 : Int); omega⟩
theorem fd (a b : Nat) : ((a : Int)).fdiv ((b : Nat) : Int) = ((a / b : Nat) : Int) := by
  rw [Int.fdiv_eq_ediv_of_nonneg _ (by omega)]; rfl
/-- Cells that may be stored into. -/
def Cn (w : World) (b o l : Nat) : Prop := ∀ j, j < l → CanStore w b (o + j)
theorem Cn.ext {w w' : World} {b o l : Nat} (h : Cn w b o l) (x : Ext w w') : Cn w' b o l := fun j hj => x.can (h j hj)
theorem Cn.store {w w' : World} {b o l b' i : Nat} {v : Value} (h : Cn w b o l) (hs : Stored w b' i v w') : Cn w' b o l := fun j hj => hs.can (h j hj)
/-- From a place on they hold a number's digits. -/
def Dg (w : World) (b o l N K : Nat) : Prop := ∀ j, K ≤ j → j < l → w.cell? ⟨b, o + j, none⟩ = some (.int .u8 (48 + ((N / 10 ^ (l - 1 - j) % 10 : Nat) : Int)))
theorem Dg.ext {w w' : World} {b o l N K : Nat} (h : Dg w b o l N K) (x : Ext w w') : Dg w' b o l N K := fun j h1 h2 => x.cell (h j h1 h2)
theorem Dg.put {w w' : World} {b o l N k : Nat} {v : Value} (h : Dg w b o l N (k + 1)) (hc : Cn w b o l) (hk : k < l) (hs : Stored w b (o + k) v w') (hv : v = .int .u8 (48 + ((N / 10 ^ (l - 1 - k) % 10 : Nat) : Int))) : Dg w' b o l N k := fun j h1 h2 => by
  by_cases e : j = k
  · subst e; rw [hs.cell (hc j h2), hv]
  · rw [hs.other (.inr (by omega))]; exact h j (by omega) h2
theorem dgv {N l K t : Nat} (h : t + 1 ≤ K) (hK : K ≤ l) : N / 10 ^ (l - 1 - (K - 1 - t)) % 10 = N / 10 ^ (l - K) / 10 ^ t % 10 := by
  rw [Nat.div_div_eq_div_mul, ← Nat.pow_add, show l - 1 - (K - 1 - t) = l - K + t by omega]
end Go.Vc
namespace Go.Proofs.YtffhlgejfgmpiaaGreatDoor
open Go.RowKit Go.Vc
variable {w : World} {R : Ending → World → Prop}
theorem smalls_size : (txt200_48_57).size = 200 := by decide +kernel
theorem smalls : ∀ y, y < 100 → sb txt200_48_57 ((2 * y : Nat) : Int) = 48 + ((y / 10 : Nat) : Int) ∧ sb txt200_48_57 ((2 * y + 1 : Nat) : Int) = 48 + ((y % 10 : Nat) : Int) := by decide +kernel
theorem digits10 : ∀ y, y < 10 → (({ data := #[48, 49, 50, 51, 52, 53, 54, 55, 56, 57, 97, 98, 99, 100, 101, 102, 103, 104, 105, 106, 107, 108, 109, 110, 111, 112, 113, 114, 115, 116, 117, 118, 119, 120, 121, 122] } : ByteArray).extract y (y + 1)).data.toList.map (fun b => (b.toNat : Int)) = [48 + (y : Int)] := by decide +kernel
theorem smalls2 : ∀ y, y < 100 → (txt200_48_57.extract (y * 2) (y * 2 + 2)).data.toList.map (fun b => (b.toNat : Int)) = [48 + ((y / 10 : Nat) : Int), 48 + ((y % 10 : Nat) : Int)] := by decide +kernel
theorem small_does {n : Nat} (hn : n < 100) (h : ∀ s, L s = decL n → R (.returned (.string s)) w) : Does Tryz.prog 58 #[.int .i64 (n : Int)] w R := by
  refine f58_does _ (brr (fun q => ?_) fun q => ?_)
  · have q : n < 10 := by have := of_decide_eq_true q; omega
    refine ⟨inI64 (by omega) (by omega), ⟨by omega, ?_⟩, ⟨by omega, by omega⟩, h _ ?_⟩
    · show (n : Int) + 1 ≤ 36
      omega
    · rw [decL_small q, Int.toNat_natCast, show ((n : Int) + 1).toNat = n + 1 by omega]
      exact digits10 n q
  · have q : ¬ n < 10 := by have := of_decide_eq_false q; omega
    refine ⟨inI64 (by omega) (by omega), inI64 (by omega) (by omega), inI64 (by omega) (by omega), ⟨by omega, ?_⟩, ⟨by omega, by omega⟩, h _ ?_⟩
    · rw [smalls_size]; omega
    · rw [show ((n : Int) * 2).toNat = n * 2 by omega, show ((n : Int) * 2 + 2).toNat = n * 2 + 2 by omega]
      rw [decL_big q, decL_small (by omega)]
      exact smalls2 n hn
/-- The tables that are read. -/
structure Laid2 (w : World) : Prop where
  p10 : ∀ k, k < 20 → w.cell? ⟨1, k, none⟩ = some (.int .u64 ((10 ^ k : Nat) : Int))
  db : w.cell? ⟨9, 15, none⟩ = some (.int .u8 4)
theorem Laid2.ext {w w' : World} (h : Laid2 w) (x : Ext w w') : Laid2 w' := ⟨fun k hk => x.cell (h.p10 k hk), x.cell h.db⟩
theorem len8_size : (txt256_0_8).size = 256 := by decide +kernel
theorem len8 : ∀ i, i < 256 → ∃ v : Nat, v ≤ 8 ∧ sb txt256_0_8 ((i : Nat) : Int) = (v : Int) ∧ i < 2 ^ v ∧ (v = 0 ∨ 2 ^ (v - 1) ≤ i) := by
  have key : ∀ i, i < 256 → let v := (sb txt256_0_8 ((i : Nat) : Int)).toNat; v ≤ 8 ∧ sb txt256_0_8 ((i : Nat) : Int) = (v : Int) ∧ i < 2 ^ v ∧ (v = 0 ∨ 2 ^ (v - 1) ≤ i) := by decide +kernel
  exact fun i hi => ⟨_, key i hi⟩
/-- So many bits a number has. -/
def LenOk (N n : Nat) : Prop := N < 2 ^ n ∧ (n = 0 ∨ 2 ^ (n - 1) ≤ N) ∧ n ≤ 64
theorem len_fin {N c i v : Nat} (hi : i = N / 2 ^ c) (hc : c = 0 ∨ 2 ^ c ≤ N) (hv : v ≤ 8) (hc2 : c ≤ 56) (h1 : i < 2 ^ v) (h2 : v = 0 ∨ 2 ^ (v - 1) ≤ i) : LenOk N (c + v) := by
  subst hi
  have h3 : N < 2 ^ (c + v) := by
    rw [Nat.pow_add, Nat.mul_comm]
    exact (Nat.div_lt_iff_lt_mul (Nat.two_pow_pos c)).1 h1
  refine ⟨h3, ?_, by omega⟩
  rcases h2 with rfl | h2
  · rcases hc with rfl | hc
    · exact .inl rfl
    · exfalso
      rw [Nat.add_zero] at h3
      omega
  · rcases Nat.eq_zero_or_pos v with rfl | hp
    · rcases hc with rfl | hc
      · exact .inl rfl
      · rw [Nat.add_zero] at h3; omega
    · right
      rw [show c + v - 1 = v - 1 + c by omega, Nat.pow_add]
      exact (Nat.le_div_iff_mul_le (Nat.two_pow_pos c)).1 h2
theorem len64_does {N : Nat} (hN : N < 18446744073709551616) (h : ∀ n : Nat, LenOk N n → R (.returned (.int .i64 (n : Int))) w) : Does Tryz.prog 82 #[.int .u64 (N : Int)] w R := by
  refine f82_does _ ?_
  unfold f82_vc
  have p32 : (2 : Int) ^ 32 = ((4294967296 : Nat) : Int) := by decide
  have p16 : (2 : Int) ^ 16 = ((65536 : Nat) : Int) := by decide
  have p8 : (2 : Int) ^ 8 = ((256 : Nat) : Int) := by decide
  rw [p32, p16, p8]
  simp only [fd]
  have leaf : ∀ (c : Nat) (x a : Int) (i : Nat), x = IntKind.wrap .u8 (i : Int) → a = (c : Int) → i < 256 → i = N / 2 ^ c → (c = 0 ∨ 2 ^ c ≤ N) → c ≤ 56 →
      ((0 : Int) ≤ x ∧ x < (txt256_0_8.size : Int)) ∧ InK .i64 (sb txt256_0_8 x) ∧ InK .i64 (a + sb txt256_0_8 x) ∧ R (.returned (.int .i64 (a + sb txt256_0_8 x))) w := fun c x a i hx ha hi hi2 hc hc2 => by
    obtain ⟨v, v1, v2, v3, v4⟩ := len8 i hi
    rw [w8 hi] at hx
    subst hx; subst ha
    rw [len8_size, v2]
    refine ⟨⟨by omega, by omega⟩, inI64 (by omega) (by omega), inI64 (by omega) (by omega), ?_⟩
    have := h (c + v) (len_fin hi2 hc v1 hc2 v3 v4)
    rw [show ((c + v : Nat) : Int) = (c : Int) + v by omega] at this
    exact this
  refine brr (fun q => ⟨by decide, brr (fun q2 => ⟨by decide, by decide, brr (fun q3 => ⟨by decide, by decide, leaf 56 _ _ _ rfl rfl ?_ ?_ (.inr ?_) (by decide)⟩) fun q3 => leaf 48 _ _ _ rfl rfl ?_ ?_ (.inr ?_) (by decide)⟩) fun q2 => brr (fun q3 => ⟨by decide, by decide, leaf 40 _ _ _ rfl rfl ?_ ?_ (.inr ?_) (by decide)⟩) fun q3 => leaf 32 _ _ _ rfl rfl ?_ ?_ (.inr ?_) (by decide)⟩)
    fun q => brr (fun q2 => ⟨by decide, by decide, brr (fun q3 => ⟨by decide, by decide, leaf 24 _ _ _ rfl rfl ?_ ?_ (.inr ?_) (by decide)⟩) fun q3 => leaf 16 _ _ _ rfl rfl ?_ ?_ (.inr ?_) (by decide)⟩) fun q2 => brr (fun q3 => ⟨by decide, by decide, leaf 8 _ _ _ rfl rfl ?_ ?_ (.inr ?_) (by decide)⟩) fun q3 => leaf 0 _ _ _ rfl rfl ?_ ?_ (.inl rfl) (by decide)
  all_goals (try have q := of_decide_eq_true q); (try have q := of_decide_eq_false q); (try have q2 := of_decide_eq_true q2); (try have q2 := of_decide_eq_false q2); (try have q3 := of_decide_eq_true q3); (try have q3 := of_decide_eq_false q3); first | omega | (simp only [Nat.reducePow]; omega) | (simp only [Nat.reducePow] <;> omega) | simp only [Nat.reducePow]
theorem log_tab : ∀ n, n ≤ 64 → 1 ≤ n → n * 78913 / 262144 ≤ 19 ∧ (n * 78913 / 262144 = 0 ∨ 10 ^ (n * 78913 / 262144 - 1) ≤ 2 ^ (n - 1)) ∧ 2 ^ n ≤ 10 ^ (n * 78913 / 262144 + 1) := by decide +kernel
theorem numdig_does (hT : Laid2 w) {N : Nat} (h0 : 1 ≤ N) (hN : N < 18446744073709551616) (h : ∀ d : Nat, 1 ≤ d → d ≤ 20 → N < 10 ^ d → 10 ^ (d - 1) ≤ N → R (.returned (.int .i64 (d : Int))) w) : Does Tryz.prog 59 #[.int .u64 (N : Int)] w R := by
  refine f59_does _ (len64_does hN fun n ⟨n1, n2, n3⟩ => ⟨_, rfl, f81_does _ ⟨inI64 (by omega) (by omega), by decide, ⟨_, rfl, ?_⟩⟩⟩)
  have p18 : (2 : Int) ^ 18 = ((262144 : Nat) : Int) := by decide
  rw [p18, show ((n : Int) * 78913) = ((n * 78913 : Nat) : Int) by omega, fd]
  have hn1 : 1 ≤ n := by
    rcases Nat.eq_zero_or_pos n with rfl | hp
    · simp at n1; omega
    · exact hp
  obtain ⟨t1, t2, t3⟩ := log_tab n n3 hn1
  have n2 : 2 ^ (n - 1) ≤ N := by
    rcases n2 with n2 | n2
    · omega
    · exact n2
  generalize n * 78913 / 262144 = t at *
  refine ⟨⟨by omega, by omega⟩, ((10 ^ t : Nat) : Int), ?_, f83_does _ ?_⟩
  · rw [Nat.zero_add, Int.toNat_natCast]
    exact hT.p10 t (by omega)
  · refine brr (fun q => ⟨1, rfl, inI64 (by omega) (by omega), ?_⟩) fun q => ⟨0, rfl, inI64 (by omega) (by omega), ?_⟩
    · have q := of_decide_eq_true q
      have := h (t + 1) (by omega) (by omega) (by omega) (by rw [Nat.add_sub_cancel]; omega)
      rw [show ((t + 1 : Nat) : Int) = (t : Int) + 1 by omega] at this
      exact this
    · have q := of_decide_eq_false q
      have ht : 1 ≤ t := by
        rcases Nat.eq_zero_or_pos t with rfl | hp
        · simp at q; omega
        · exact hp
      have := h t ht (by omega) (by omega) (by omega)
      rw [show (t : Int) = (t : Int) + 0 by omega] at this
      exact this
section
variable {p0 : Option Addr} {b o l N : Nat} (hp : p0 = some ⟨b, o, none⟩) (hl : l ≤ 24)
include hp hl
/-- Two digits. -/
theorem pair_step {E d1 d2 : Int} {y K : Nat} {wd : World} (hE : E = (y : Int)) (hy : y = N / 10 ^ (l - K) % 100) (hK : 2 ≤ K) (hKl : K ≤ l) (h1 : d1 = (K : Int) - 1) (h2 : d2 = (K : Int) - 2) (hc : Cn wd b o l) (hd : Dg wd b o l N K) {G : World → Prop}
    (k : ∀ w', Cn w' b o l → Dg w' b o l N (K - 2) → Upd (fun z => z = b) wd w' → G w') :
    InK .i64 d1 ∧ InK .i64 d2 ∧ ((0 : Int) ≤ (IntKind.wrap .u32 ((IntKind.wrap .u32 (E * 2)) + 1)) ∧ (IntKind.wrap .u32 ((IntKind.wrap .u32 (E * 2)) + 1)) < (txt200_48_57.size : Int)) ∧ ((0 : Int) ≤ (IntKind.wrap .u32 (E * 2)) ∧ (IntKind.wrap .u32 (E * 2)) < (txt200_48_57.size : Int)) ∧ ((0 : Int) ≤ d1 ∧ d1 < (l : Int)) ∧
    ∃ b1 o1, p0 = some ⟨b1, o1, none⟩ ∧ CanStore wd b1 (o1 + d1.toNat) ∧ ∀ ws, Stored wd b1 (o1 + d1.toNat) (.int .u8 (sb txt200_48_57 (IntKind.wrap .u32 ((IntKind.wrap .u32 (E * 2)) + 1)))) ws →
    ((0 : Int) ≤ d2 ∧ d2 < (l : Int)) ∧ ∃ b2 o2, p0 = some ⟨b2, o2, none⟩ ∧ CanStore ws b2 (o2 + d2.toNat) ∧ ∀ ws1, Stored ws b2 (o2 + d2.toNat) (.int .u8 (sb txt200_48_57 (IntKind.wrap .u32 (E * 2)))) ws1 → G ws1 := by
  have hy100 : y < 100 := by omega
  subst hE
  have e1 : IntKind.wrap .u32 ((y : Int) * 2) = ((2 * y : Nat) : Int) := by
    rw [show (y : Int) * 2 = ((2 * y : Nat) : Int) by omega]; exact w32 (by omega)
  have e2 : IntKind.wrap .u32 (((2 * y : Nat) : Int) + 1) = ((2 * y + 1 : Nat) : Int) := by
    rw [show ((2 * y : Nat) : Int) + 1 = ((2 * y + 1 : Nat) : Int) by omega]; exact w32 (by omega)
  obtain ⟨s0, s1⟩ := smalls y hy100
  rw [e1, e2, s0, s1, smalls_size]
  have t1 : d1.toNat = K - 1 := by omega
  have t2 : d2.toNat = K - 2 := by omega
  rw [t1, t2]
  have v0 := dgv (N := N) (l := l) (K := K) (t := 0) (by omega) hKl
  have v1 := dgv (N := N) (l := l) (K := K) (t := 1) (by omega) hKl
  rw [Nat.pow_zero, Nat.div_one, Nat.sub_zero] at v0
  rw [Nat.pow_one, show K - 1 - 1 = K - 2 by omega] at v1
  refine ⟨inI64 (by omega) (by omega), inI64 (by omega) (by omega), ⟨by omega, by omega⟩, ⟨by omega, by omega⟩, ⟨by omega, by omega⟩, b, o, hp, hc _ (by omega), fun ws hs => ⟨⟨by omega, by omega⟩, b, o, hp, (hc.store hs) _ (by omega), fun ws1 hs1 => k ws1 ((hc.store hs).store hs1) ?_ (Upd.trans hs.upd hs1.upd)⟩⟩
  have hd1 : Dg ws b o l N (K - 1) := by
    refine Dg.put (k := K - 1) (by rw [show K - 1 + 1 = K by omega]; exact hd) hc (by omega) hs ?_
    rw [v0, hy]
    congr 2
    omega
  refine Dg.put (k := K - 2) (by rw [show K - 2 + 1 = K - 1 by omega]; exact hd1) (hc.store hs) (by omega) hs1 ?_
  rw [v1, hy]
  congr 2
  omega
/-- The last digit. -/
theorem last_step {X : Int} {K : Nat} {wd : World} {y : Nat} (hX : X = (y : Int)) (hy : y = N / 10 ^ (l - K)) (hN : N < 10 ^ l) (hK : K < 2) (hKl : K ≤ l) {d : Int} (hd1 : d = (K : Int)) (hc : Cn wd b o l) (hd : Dg wd b o l N K) {G : World → Prop}
    (k : ∀ w', Dg w' b o l N 0 → Upd (fun z => z = b) wd w' → G w') :
    Br (decide (d > 0)) (((0 : Int) ≤ 0 ∧ 0 < (l : Int)) ∧ ∃ b1 o1, p0 = some ⟨b1, o1, none⟩ ∧ CanStore wd b1 (o1 + (0 : Int).toNat) ∧ ∀ ws, Stored wd b1 (o1 + (0 : Int).toNat) (.int .u8 (IntKind.wrap .u8 (IntKind.wrap .u32 (48 + X)))) ws → G ws) (G wd) := by
  subst hX
  refine brr (fun q => ?_) fun q => ?_
  · have q := of_decide_eq_true q
    have hK1 : K = 1 := by omega
    subst hK1
    have hy10 : y < 10 := by
      rw [hy, Nat.div_lt_iff_lt_mul (Nat.pow_pos (by decide)), ← Nat.pow_succ', show (l - 1).succ = l by omega]; exact hN
    have e1 : IntKind.wrap .u32 (48 + (y : Int)) = ((48 + y : Nat) : Int) := by
      rw [show 48 + (y : Int) = ((48 + y : Nat) : Int) by omega]; exact w32 (by omega)
    rw [e1, w8 (by omega)]
    refine ⟨⟨by decide, by omega⟩, b, o, hp, hc 0 (by omega), fun ws hs => k ws (Dg.put (k := 0) hd hc (by omega) hs ?_) hs.upd⟩
    rw [show l - 1 - 0 = l - 1 by omega, ← hy, Nat.mod_eq_of_lt hy10]
    congr 1
  · have q := of_decide_eq_false q
    have hK0 : K = 0 := by omega
    subst hK0
    exact k wd hd (Upd.refl _ _)
end
theorem fb10_does {p0 : Option Addr} {b o l c N : Nat} (hp : p0 = some ⟨b, o, none⟩) (hl : l ≤ 24) (hN : N < 10 ^ l) (hN2 : N < 18446744073709551616) (hc : Cn w b o l) : Does Tryz.prog 60 #[.slice p0 l c, .int .u64 (N : Int)] w fun e w' => e = .returned (.tuple #[]) ∧ Upd (fun z => z = b) w w' ∧ Dg w' b o l N 0 := by
  refine f60_does _ _ _ _ ⟨fun x k n wl => ∃ K : Nat, K = n ∧ k = (K : Int) ∧ K ≤ l ∧ x = ((N / 10 ^ (l - K) : Nat) : Int) ∧ Cn wl b o l ∧ Dg wl b o l N K ∧ Upd (fun z => z = b) w wl, ⟨_, l, rfl, rfl, Nat.le_refl _, by rw [Nat.sub_self, Nat.pow_zero, Nat.div_one], hc, fun j h1 h2 => by omega, Upd.refl _ _⟩, ?_⟩
  rintro _ _ _ wl ⟨K, rfl, rfl, hKl, rfl, hcl, hdl, ul⟩
  have hq : N / 10 ^ (l - K) < 10 ^ K := by
    rw [Nat.div_lt_iff_lt_mul (Nat.pow_pos (by decide)), ← Nat.pow_add, show K + (l - K) = l by omega]; exact hN
  have hq2 : N / 10 ^ (l - K) ≤ N := Nat.div_le_self _ _
  have nx : ∀ t, t ≤ K → N / 10 ^ (l - (K - t)) = N / 10 ^ (l - K) / 10 ^ t := fun t ht => by
    rw [Nat.div_div_eq_div_mul, ← Nat.pow_add, show l - (K - t) = l - K + t by omega]
  generalize hqq : N / 10 ^ (l - K) = q at *
  have fin : ∀ {wd : World} {w' : World}, Upd (fun z => z = b) w wd → Dg w' b o l N 0 → Upd (fun z => z = b) wd w' → Ending.returned (.tuple #[]) = .returned (.tuple #[]) ∧ Upd (fun z => z = b) w w' ∧ Dg w' b o l N 0 := fun u d u2 => ⟨rfl, Upd.trans u u2, d⟩
  refine brr (fun c8 => ?_) fun c8 => ?_
  · have c8 := of_decide_eq_true c8
    have e8 : IntKind.wrap .u32 ((q : Int).tmod 100000000) = ((q % 100000000 : Nat) : Int) := w32 (n := q % 100000000) (by omega)
    refine ⟨by decide, by decide, by decide, by decide, by decide, by decide, by decide, by decide, fun wd7 hd7 => ?_⟩
    rw [e8]
    have a1 : (((q % 100000000 : Nat) : Int).tmod 10000).tmod 100 = ((q % 100 : Nat) : Int) := by
      show ((q % 100000000 % 10000 % 100 : Nat) : Int) = _
      congr 1; omega
    have a2 : IntKind.wrap .u32 ((((q % 100000000 : Nat) : Int).tmod 10000).tdiv 100) = ((q / 100 % 100 : Nat) : Int) := by
      show IntKind.wrap .u32 ((q % 100000000 % 10000 / 100 : Nat) : Int) = _
      rw [w32 (by omega)]; congr 1; omega
    have a3 : (IntKind.wrap .u32 (((q % 100000000 : Nat) : Int).tdiv 10000)).tmod 100 = ((q / 10000 % 100 : Nat) : Int) := by
      have : IntKind.wrap .u32 (((q % 100000000 : Nat) : Int).tdiv 10000) = ((q % 100000000 / 10000 : Nat) : Int) := w32 (n := q % 100000000 / 10000) (by omega)
      rw [this]
      show ((q % 100000000 / 10000 % 100 : Nat) : Int) = _
      congr 1; omega
    have a4 : IntKind.wrap .u32 ((IntKind.wrap .u32 (((q % 100000000 : Nat) : Int).tdiv 10000)).tdiv 100) = ((q / 1000000 % 100 : Nat) : Int) := by
      have : IntKind.wrap .u32 (((q % 100000000 : Nat) : Int).tdiv 10000) = ((q % 100000000 / 10000 : Nat) : Int) := w32 (n := q % 100000000 / 10000) (by omega)
      rw [this]
      show IntKind.wrap .u32 ((q % 100000000 / 10000 / 100 : Nat) : Int) = _
      rw [w32 (by omega)]; congr 1; omega
    refine pair_step hp hl a1 (by rw [hqq]) (by omega) hKl rfl rfl (hcl.ext hd7.ext) (hdl.ext hd7.ext) fun w1 c1 d1 u1 wd8 hd8 => ?_
    refine pair_step hp hl a2 (by rw [nx 2 (by omega)]) (by omega) (by omega) (by omega) (by omega) (c1.ext hd8.ext) (d1.ext hd8.ext) fun w2 c2 d2 u2 wd9 hd9 => ?_
    refine pair_step hp hl a3 (by rw [show K - 2 - 2 = K - 4 by omega, nx 4 (by omega)]) (by omega) (by omega) (by omega) (by omega) (c2.ext hd9.ext) (d2.ext hd9.ext) fun w3 c3 d3 u3 wd10 hd10 => ?_
    refine pair_step hp hl a4 (by rw [show K - 2 - 2 - 2 = K - 6 by omega, nx 6 (by omega)]) (by omega) (by omega) (by omega) (by omega) (c3.ext hd10.ext) (d3.ext hd10.ext) fun w4 c4 d4 u4 => ?_
    refine ⟨inI64 (by omega) (by omega), _, ?_, K - 8, rfl, by omega, by omega, ?_, c4, by rw [show K - 8 = K - 2 - 2 - 2 - 2 by omega]; exact d4, ?_⟩
    · omega
    · rw [nx 8 (by omega)]
      exact w64 (n := q / 100000000) (by omega)
    · exact Upd.trans (Upd.trans (Upd.trans (Upd.trans (Ext.then ul hd7.ext) (Ext.then u1 hd8.ext)) (Ext.then u2 hd9.ext)) (Ext.then u3 hd10.ext)) u4
  · have c8 := of_decide_eq_false c8
    have hq7 : q < 10000000 := by
      have := Nat.pow_le_pow_right (n := 10) (by decide) (show K ≤ 7 by omega)
      have e : (10 : Nat) ^ 7 = 10000000 := by decide
      omega
    have e32 : IntKind.wrap .u32 (q : Int) = (q : Int) := w32 (by omega)
    rw [e32]
    have m1 : ((q : Int).tmod 100) = ((q % 100 : Nat) : Int) := rfl
    have m2 : IntKind.wrap .u32 ((q : Int).tdiv 100) = ((q / 100 : Nat) : Int) := w32 (n := q / 100) (by omega)
    have m3 : IntKind.wrap .u32 ((q : Int).tdiv 10000) = ((q / 10000 : Nat) : Int) := w32 (n := q / 10000) (by omega)
    refine brr (fun c4 => ?_) fun c4 => ?_
    · have c4 := of_decide_eq_true c4
      have a1 : ((q : Int).tmod 10000).tmod 100 = ((q % 100 : Nat) : Int) := by
        show ((q % 10000 % 100 : Nat) : Int) = _
        congr 1; omega
      have a2 : IntKind.wrap .u32 (((q : Int).tmod 10000).tdiv 100) = ((q / 100 % 100 : Nat) : Int) := by
        show IntKind.wrap .u32 ((q % 10000 / 100 : Nat) : Int) = _
        rw [w32 (by omega)]; congr 1; omega
      refine ⟨by decide, by decide, by decide, by decide, fun wd7 hd7 => ?_⟩
      refine pair_step hp hl a1 (by rw [hqq]) (by omega) hKl rfl rfl (hcl.ext hd7.ext) (hdl.ext hd7.ext) fun w1 c1 d1 u1 wd8 hd8 => ?_
      refine pair_step hp hl a2 (by rw [nx 2 (by omega)]) (by omega) (by omega) (by omega) (by omega) (c1.ext hd8.ext) (d1.ext hd8.ext) fun w2 c2 d2 u2 => ?_
      have uu : Upd (fun z => z = b) w w2 := Upd.trans (Upd.trans (Ext.then ul hd7.ext) (Ext.then u1 hd8.ext)) u2
      rw [m3, show K - 2 - 2 = K - 4 by omega] at *
      have n4 := nx 4 (by omega)
      refine ⟨inI64 (by omega) (by omega), brr (fun c2' => ?_) fun c2' => ?_⟩
      · have c2' := of_decide_eq_true c2'
        have a3 : (((q / 10000 : Nat) : Int)).tmod 100 = ((q / 10000 % 100 : Nat) : Int) := rfl
        have a4 : IntKind.wrap .u32 ((((q / 10000 : Nat) : Int)).tdiv 100) = ((q / 10000 / 100 : Nat) : Int) := w32 (n := q / 10000 / 100) (by omega)
        refine ⟨by decide, by decide, fun wd9 hd9 => pair_step hp hl a3 (by rw [n4]) (by omega) (by omega) (by omega) (by omega) (c2.ext hd9.ext) (d2.ext hd9.ext) fun w3 c3 d3 u3 => ⟨inI64 (by omega) (by omega), last_step hp hl a4 (K := K - 4 - 2) (by rw [show K - 4 - 2 = K - 6 by omega, nx 6 (by omega)]; omega) hN (by omega) (by omega) (by omega) c3 d3 fun w4 d4 u4 => fin (Upd.trans (Ext.then uu hd9.ext) u3) d4 u4⟩⟩
      · have c2' := of_decide_eq_false c2'
        exact last_step hp hl rfl (K := K - 4) (by rw [n4]) hN (by omega) (by omega) (by omega) c2 d2 fun w4 d4 u4 => fin uu d4 u4
    · have c4 := of_decide_eq_false c4
      refine brr (fun c2' => ?_) fun c2' => ?_
      · have c2' := of_decide_eq_true c2'
        refine ⟨by decide, by decide, fun wd9 hd9 => pair_step hp hl m1 (by rw [hqq]) (by omega) (by omega) (by omega) (by omega) (hcl.ext hd9.ext) (hdl.ext hd9.ext) fun w3 c3 d3 u3 => ⟨inI64 (by omega) (by omega), last_step hp hl m2 (K := K - 2) (by rw [nx 2 (by omega)]) hN (by omega) (by omega) (by omega) c3 d3 fun w4 d4 u4 => fin (Upd.trans (Ext.then ul hd9.ext) u3) d4 u4⟩⟩
      · have c2' := of_decide_eq_false c2'
        exact last_step hp hl rfl hqq.symm hN (by omega) hKl rfl hcl hdl fun w4 d4 u4 => fin ul d4 u4
theorem dg_ints {b o l N : Nat} (hd : Dg w b o l N 0) (hl : (decL N).length = l) : Ints .u8 w (fun _ => True) (some ⟨b, o, none⟩) (decL N) := fun i hi => by
  refine ⟨b, o, rfl, trivial, ?_, ?_⟩
  · have := hd i (Nat.zero_le _) (by omega)
    rw [Nat.mul_one, this, decL_get N i hi, hl]
  · have := decL_dig N _ (List.getElem_mem hi)
    exact ⟨by show (0 : Int) ≤ _; omega, by show _ ≤ (255 : Int); omega⟩
theorem decL_inK (N : Nat) : ∀ x ∈ decL N, InK .u8 x := fun x hx => by
  have := decL_dig N x hx
  exact ⟨by show (0 : Int) ≤ _; omega, by show _ ≤ (255 : Int); omega⟩
theorem fmti_does (hT : Laid2 w) {N : Nat} (hN : N < 9223372036854775808) : Does Tryz.prog 41 #[.int .i64 (N : Int), .int .i64 10] w fun e w' => ∃ s, e = .returned (.string s) ∧ L s = decL N ∧ Ext w w' := by
  refine f41_does _ _ (tru rfl (tru (decide_eq_true (by omega)) (brr (fun q => ?_) fun q => ?_)))
  · have q := of_decide_eq_true q
    exact small_does (by omega) fun s hs => ⟨s, rfl, s, rfl, hs, Upd.refl _ _⟩
  · have q := of_decide_eq_false q
    intro b w5 n5
    have hw : IntKind.wrap .u64 (N : Int) = (N : Int) := w64 (by omega)
    have hge : w.heap.size ≤ b := by rw [n5.eq]; exact Nat.le_refl _
    rw [hw]
    refine fls (decide_eq_false (by omega)) (numdig_does (hT.ext n5.ext) (by omega) (by omega) fun d d1 d2 d3 d4 => ⟨_, rfl, inI64 (by omega) (by omega), ⟨by omega, by omega⟩, ⟨by decide, by omega⟩, ?_⟩)
    have e1 : (1 + (d : Int)).toNat - (1 : Int).toNat = d := by
      show (1 + (d : Int)).toNat - 1 = d
      omega
    have e2 : subp (some ⟨b, 0, none⟩) ((1 : Int).toNat) 24 1 = some ⟨b, 1, none⟩ := by
      unfold subp
      rw [if_neg (by decide)]
      simp only [Option.map_some, add_plain']
      rfl
    rw [e1, e2]
    refine (fb10_does rfl (by omega) d3 (by omega) fun j hj => n5.can (1 + j) (by simp; omega)).imp ?_
    rintro e w32 ⟨rfl, u, hd⟩
    have hlen := decL_uniq d3 (.inr d4) d1
    refine ⟨rfl, fls (decide_eq_false (by omega)) ⟨inI64 (by omega) (by omega), ⟨by omega, by omega⟩, ⟨by decide, by omega⟩, _, _, conv_str Tryz.underlying50 Tryz.underlying5 Tryz.underlying9 (dg_ints hd hlen) hlen.symm _, _, rfl, L_nums (decL_inK N), Ext.loc n5.ext hge u⟩⟩
theorem itoa_does (hT : Laid2 w) {N : Nat} (hN : N < 9223372036854775808) : Does Tryz.prog 46 #[.int .i64 (N : Int)] w fun e w' => ∃ s, e = .returned (.string s) ∧ L s = decL N ∧ Ext w w' := by
  refine f46_does _ (f74_does _ ((fmti_does hT hN).imp ?_))
  rintro e w' ⟨s, rfl, hs, x⟩
  exact ⟨s, rfl, s, rfl, s, rfl, hs, x⟩
theorem formati_does (hT : Laid2 w) {N : Nat} (hN : N < 9223372036854775808) : Does Tryz.prog 22 #[.int .i64 (N : Int), .int .i64 10] w fun e w' => ∃ s, e = .returned (.string s) ∧ L s = decL N ∧ Ext w w' := by
  refine f22_does _ _ ((fmti_does hT hN).imp ?_)
  rintro e w' ⟨s, rfl, hs, x⟩
  exact ⟨s, rfl, s, rfl, hs, x⟩
end Go.Proofs.YtffhlgejfgmpiaaGreatDoor
