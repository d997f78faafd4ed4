/-
  Devices: the statements' functions answer true: each op takes one outcome.
-/
import Derived.Test.YtiblbjagfiigdaaDevX
namespace Go.Vc
theorem op_some {d : Dev} {o : Int} {r : List Int} (hf : d.fuse = -1) (ho : d.out = o :: r) : d.op = ({ d with ops := d.ops + 1, out := r }, some (o % 3)) := by
  cases d; dsimp only at hf ho; subst hf ho; rfl
theorem op_nil {d : Dev} (hf : d.fuse = -1) (ho : d.out = []) : d.op = ({ d with ops := d.ops + 1 }, some 0) := by
  cases d; dsimp only at hf ho; subst hf ho; rfl
/-- A device whose outcomes are taken one by one. -/
structure OutI (d : Dev) (xs : List Int) (i q : Nat) (want : List Int) : Prop where
  out : d.out = xs.drop i
  fuse : d.fuse = -1
  dead : d.dead = false
  ops : d.ops = i
  len : d.now.length = 8
  now : d.now[q]? = some want
theorem is_of {d : Dev} {q : Nat} (hl : d.now.length = 8) (hq : q < 8) : d.is q = true := Dev.is_iff.2 ⟨by omega, by rw [hl]; simpa using hq⟩
theorem OutI.write {d : Dev} {xs : List Int} {i q : Nat} {want b : List Int} (h : OutI d xs i q want) (hq : q < 8) (hb : b.length = 256) (hi : i < xs.length) :
    (d.write q b).2 = (if xs[i] % 3 = 0 then 0 else 7) ∧ OutI (d.write q b).1 xs (i + 1) q (if xs[i] % 3 = 1 then want else b) := by
  have ho : d.out = xs[i] :: xs.drop (i + 1) := by rw [h.out, List.getElem_cons_drop]
  have hop := op_some h.fuse ho
  have he : d.write q b = (if xs[i] % 3 = 1 then { d with ops := d.ops + 1, out := xs.drop (i + 1) } else ({ d with ops := d.ops + 1, out := xs.drop (i + 1) } : Dev).lay q b, if xs[i] % 3 = 0 then 0 else 7) := by
    unfold Dev.write
    rw [is_of h.len hq, decide_eq_true hb, if_pos (show (true && true) = true from rfl), if_neg (by rw [h.dead]; decide), hop]
    simp only [Int.toNat_natCast]
  rw [he]
  refine ⟨rfl, ?_⟩
  have hops := h.ops
  simp only
  split
  · exact ⟨rfl, h.fuse, h.dead, by simp only; omega, h.len, h.now⟩
  · refine ⟨rfl, h.fuse, h.dead, by simp only [Dev.lay]; omega, by simp [Dev.lay, h.len], ?_⟩
    simp only [Dev.lay]
    rw [List.getElem?_set_self (by rw [h.len]; exact hq)]
theorem OutI.read {d : Dev} {xs : List Int} {i q : Nat} {want : List Int} (h : OutI d xs i q want) (hq : q < 8) (hi : i < xs.length) :
    (d.read q).2 = (if xs[i] % 3 = 1 then ([], 7) else (want, 0)) ∧ OutI (d.read q).1 xs (i + 1) q want := by
  have ho : d.out = xs[i] :: xs.drop (i + 1) := by rw [h.out, List.getElem_cons_drop]
  have hop := op_some h.fuse ho
  have hw : d.now.getD q [] = want := by rw [List.getD_eq_getElem?_getD, h.now]; rfl
  have he : d.read q = if xs[i] % 3 = 1 then ({ d with ops := d.ops + 1, out := xs.drop (i + 1) }, [], 7) else ({ d with ops := d.ops + 1, out := xs.drop (i + 1) }, want, 0) := by
    unfold Dev.read
    rw [is_of h.len hq, if_pos rfl, if_neg (by rw [h.dead]; decide), hop]
    simp only [Int.toNat_natCast, hw]
  rw [he]
  have hops := h.ops
  split
  · exact ⟨rfl, rfl, h.fuse, h.dead, by simp only; omega, h.len, h.now⟩
  · exact ⟨rfl, rfl, h.fuse, h.dead, by simp only; omega, h.len, h.now⟩
theorem OutI.last {d : Dev} {xs : List Int} {q : Nat} {want : List Int} (h : OutI d xs xs.length q want) (hq : q < 8) : (d.read q).2 = (want, 0) ∧ (d.read q).1.ops = xs.length + 1 := by
  have ho : d.out = [] := by rw [h.out, List.drop_length]
  have hop := op_nil h.fuse ho
  have hw : d.now.getD q [] = want := by rw [List.getD_eq_getElem?_getD, h.now]; rfl
  have he : d.read q = ({ d with ops := d.ops + 1 }, want, 0) := by
    unfold Dev.read
    rw [is_of h.len hq, if_pos rfl, if_neg (by rw [h.dead]; decide), hop]
    simp only [Int.toNat_natCast, hw, if_neg (show ¬ (0 : Int) = 1 by decide)]
  rw [he]
  have hops := h.ops
  exact ⟨rfl, by simp only; omega⟩
def zeroL : List Int := List.replicate 256 0
theorem OutI.first {xs : List Int} {q : Nat} (hq : q < 8) : OutI ((Dev.new 8).tell xs) xs 0 q zeroL :=
  ⟨by show [] ++ xs = xs.drop 0; simp, rfl, rfl, rfl, by show (List.replicate 8 (List.replicate 256 (0 : Int))).length = 8; rw [List.length_replicate], by
    show (List.replicate 8 zeroL)[q]? = some zeroL
    rw [List.getElem?_replicate, if_pos hq]⟩
end Go.Vc
namespace Go.Proofs.Ytiblbjagfiigdaa
open Go.RowKit Go.Vc
variable {w : World}
theorem bool_eq {p q : Prop} [Decidable p] [Decidable q] (h : p ↔ q) : (decide p == decide q) = true := by
  rw [show decide p = decide q from decide_eq_decide.2 h]; simp
theorem outcomes_law {ok : Nat → Prop} {p0 : Option Addr} {xs : List Int} (hx : Ints .u8 w ok p0 xs) {l : Nat} (hl : l = xs.length) (c : Nat) (a : Int) (_ha : (Lit.int .i64 a).wf = true) : Does Try.prog 3 #[.slice p0 l c, .int .i64 a] w (Holds w) := by
  subst hl
  refine f3_does _ _ _ _ (awake_does.imp ?_)
  rintro e w15 ⟨rfl, x15⟩
  refine ⟨_, rfl, fls rfl (brr (fun _ => ⟨rfl, x15⟩) fun hlen => ?_)⟩
  have hlen : xs.length ≤ 100 := by have := of_decide_eq_false hlen; omega
  have t1 := Int.lt_tmod_of_pos a (b := 8) (by omega)
  have t2 := Int.tmod_lt_of_pos a (b := 8) (by omega)
  have t3 : 0 ≤ ((a.tmod 8) + 8).tmod 8 := Int.tmod_nonneg _ (by omega)
  have t4 : ((a.tmod 8) + 8).tmod 8 < 8 := Int.tmod_lt_of_pos _ (by omega)
  refine ⟨by decide, inI64 (by omega) (by omega), by decide, newX (by decide) (by decide) fun b w25 M25 x25 => ?_⟩
  obtain ⟨q, hq⟩ := Int.eq_ofNat_of_zero_le t3
  rw [hq] at t4 ⊢
  have hq8 : q < 8 := by omega
  clear t1 t2 t3 hq
  have e8 : (8 : Int).toNat = 8 := rfl
  rw [e8] at M25
  have ho0 : (Dev.new 8).out.length = 0 := rfl
  refine ⟨_, _, rfl, fls rfl ((tellX M25 x25.size (hx.ext (x15.thn x25)) rfl c (by rw [ho0]; omega)).imp ?_)⟩
  rintro e w32 ⟨rfl, M32, u32⟩
  have x32 := Upd.chg x25 (Nat.le_refl _) u32
  refine ⟨rfl, by decide, fun b33 w33 N33 => ?_⟩
  obtain ⟨K33, M33, _, n33⟩ := M32.keep N33.ext fun _ => False.elim
  have h256 : ((256 : Int).toNat) = 256 := rfl
  rw [zeros_map, h256] at N33
  have I33 := Ints.ok (N33.ints zeroL rfl fun x hx => by rw [(List.mem_replicate.1 hx).2]; exact ⟨by decide, by decide⟩) (ok' := K33) fun g hg e => n33 g (by rw [e, N33.eq]; exact Nat.le_refl _) hg
  have F0 := OutI.first (xs := xs) hq8
  generalize (Dev.new 8).tell xs = d0 at *
  have hz : zeroL.length = 256 := List.length_replicate
  generalize zeroL = z at *
  refine ⟨fun p7 l7 c7 x n wl => ∃ (i : Nat) (K : Nat → Prop) (d : Dev) (want : List Int), x = i ∧ i ≤ xs.length ∧ n = xs.length - i ∧ OutI d xs i q want ∧ DevX wl w15.heap.size K b d ∧ Ints .u8 wl K p7 want ∧ l7 = want.length ∧ want.length = 256 ∧ Ext w15 wl,
    ⟨_, 0, K33, d0, z, rfl, Nat.zero_le _, rfl, F0, M33, I33, by rw [hz]; rfl, hz, x32.thn N33.ext⟩, ?_⟩
  rintro p7 l7 c7 x n wl ⟨i, K, d, want, rfl, hi, rfl, F, M, I, rfl, hwant, hu⟩
  have hops := F.ops
  refine brr (fun hc => ?_) fun hc => ?_
  · have hc : i < xs.length := by have := of_decide_eq_true hc; omega
    refine ⟨inI64 (by omega) (by omega), (page_does _ _).imp ?_⟩
    rintro e w43 ⟨p43, rfl, I43, x43⟩
    have hpg := pageL_pg (IntKind.wrap .u8 ((i : Int) + 1)) 0
    generalize pageL (IntKind.wrap .u8 ((i : Int) + 1)) 0 = pg at *
    obtain ⟨K43, M43, k43, n43⟩ := M.keep x43 fun _ => False.elim
    have I43 := Ints.ok I43.mid (ok' := K43) fun g _ h => n43 g h.1 h.2
    have J43 := Ints.ok (I.ext x43) (ok' := K43) fun g _ h => k43 g h
    have y43 := hu.thn x43
    obtain ⟨g, o, hp0, hcell⟩ := (hx.ext (x15.thn y43)).at i hc
    have hk := hx.inK _ (List.getElem_mem hc)
    have ht : xs[i].tmod 3 = xs[i] % 3 := Int.tmod_eq_emod_of_nonneg hk.1
    have hm : xs[i] % 3 = 0 ∨ xs[i] % 3 = 1 ∨ xs[i] % 3 = 2 := by omega
    refine ⟨_, _, _, rfl, ⟨by omega, by omega⟩, g, o, hp0, xs[i], by rw [Int.toNat_natCast]; exact hcell, by decide, by decide, ?_⟩
    rw [ht]
    generalize hm' : xs[i] % 3 = m at *
    refine brr (fun hd => ?_) fun hd => ?_
    · obtain ⟨hw1, F'⟩ := F.write (b := pg) hq8 hpg.1 hc
      rw [hm'] at hw1 F'
      refine (writeX M43 y43.size (by omega) (n := q) I43 hpg.1.symm 256).imp ?_
      rintro e w55 ⟨rfl, M55, u55⟩
      have y55 := Upd.chg y43 (Nat.le_refl _) u55
      rw [hw1]
      refine ⟨_, rfl, fls ?_ (brr (fun h1 => ?_) fun h1 => ?_)⟩
      · rcases hm with rfl | rfl | rfl <;> rfl
      · have h1 : m ≠ 1 := by simpa using h1
        rw [if_neg h1] at F'
        exact ⟨inI64 (by omega) (by omega), xs.length - (i + 1), by omega, i + 1, K43, _, pg, by omega, hc, rfl, F', M55, I43.held u55, hpg.1.symm, hpg.1, y55⟩
      · have h1 : m = 1 := by simpa using h1
        rw [if_pos h1] at F'
        exact ⟨inI64 (by omega) (by omega), xs.length - (i + 1), by omega, i + 1, K43, _, want, by omega, hc, rfl, F', M55, J43.held u55, rfl, hwant, y55⟩
    · obtain ⟨hr1, F'⟩ := F.read hq8 hc
      rw [hm'] at hr1
      refine (readX M43 (by omega) (n := q)).imp ?_
      rintro e w67 ⟨p67, c67, rfl, I67, hc67, M67, u67⟩
      have y67 := Upd.chg y43 (Nat.le_refl _) u67
      rw [hr1] at I67 ⊢
      have step : ∀ w', Ext w67 w' → InK .i64 ((i : Int) + 1) ∧ ∃ ml12, ml12 < xs.length - i ∧ ∃ (i_1 : Nat) (K : Nat → Prop) (d : Dev) (want_1 : List Int), (i : Int) + 1 = i_1 ∧ i_1 ≤ xs.length ∧ ml12 = xs.length - i_1 ∧ OutI d xs i_1 q want_1 ∧ DevX w' w15.heap.size K b d ∧ Ints .u8 w' K p7 want_1 ∧ want.length = want_1.length ∧ want_1.length = 256 ∧ Ext w15 w' := fun w' x' =>
        ⟨inI64 (by omega) (by omega), xs.length - (i + 1), by omega, i + 1, K43, _, want, by omega, hc, rfl, F', M67.ext x', (J43.held u67).ext x', rfl, hwant, y67.thn x'⟩
      refine ⟨_, _, _, _, rfl, fls ?_ (brr (fun h1 => ?_) fun h1 => step _ (Upd.refl _ _))⟩
      · rcases hm with rfl | rfl | rfl <;> rfl
      · have h1 : m ≠ 1 := fun e => by simp [e] at h1
        rw [if_neg h1] at I67 ⊢
        refine (same_does I67 (J43.held u67) rfl rfl _ _ (by simp only; omega)).imp ?_
        rintro e w81 ⟨rfl, x81⟩
        refine ⟨_, rfl, fls (by simp) (step _ x81)⟩
  · have hc : i = xs.length := by have := of_decide_eq_false hc; omega
    subst hc
    obtain ⟨hr1, hop1⟩ := F.last hq8
    refine (readX M (by omega) (n := q)).imp ?_
    rintro e w88 ⟨p88, c88, rfl, I88, hc88, M88, u88⟩
    have y88 := Upd.chg hu (Nat.le_refl _) u88
    rw [hr1] at I88 ⊢
    refine ⟨_, _, _, _, rfl, tru rfl ((same_does I88 (I.held u88) rfl rfl _ _ (by simp only; omega)).imp ?_)⟩
    rintro e w96 ⟨rfl, x96⟩
    refine ⟨_, rfl, tru (by simp) (opsX (M88.ext x96) ⟨_, rfl, inI64 (by omega) (by omega), ?_, (x15.thn y88).thn x96⟩)⟩
    rw [hop1]; simp
end Go.Proofs.Ytiblbjagfiigdaa
