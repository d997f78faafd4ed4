/-
  States: numbers in bytes.
-/
import Derived.Test.YtlenmnffdbgkkaaStatePure
import Derived.Test.YtlenmnffdbgkkaaRowW
import Derived.Test.YtlenmnffdbgkkaaBytes
import Derived.Test.YtlenmnffdbgkkaaLocal
namespace Go.Vc
open Go.RowKit
theorem wrap_u8 (z : Int) : IntKind.wrap .u8 z = z % 256 := rfl
theorem fdiv_two (z : Int) (k : Nat) : z.fdiv (2 ^ k) = z / 2 ^ k := Int.fdiv_eq_ediv_of_nonneg _ (Int.pow_nonneg (by decide))
theorem or_byte (m y : Nat) (hy : y < 256) : m * 256 ||| y = m * 256 + y := by
  have := Nat.shiftLeft_add_eq_or_of_lt (i := 8) (b := y) (by omega) m
  rw [Nat.shiftLeft_eq] at this
  exact this.symm
theorem or_u64 {x c : Int} (hx : 0 ≤ x ∧ x < 4294967296) (hc : 0 ≤ c ∧ c ≤ 255) : bits .or .u64 (IntKind.wrap .u64 (x * 2 ^ 8)) (IntKind.wrap .u64 c) = x * 256 + c := by
  obtain ⟨m, rfl⟩ := Int.eq_ofNat_of_zero_le hx.1
  obtain ⟨y, rfl⟩ := Int.eq_ofNat_of_zero_le hc.1
  have e1 : IntKind.wrap .u64 ((m : Int) * 2 ^ 8) = ((m * 256 : Nat) : Int) := by
    rw [wrap_in ⟨by show (0 : Int) ≤ _; omega, by show _ ≤ (18446744073709551615 : Int); omega⟩]; omega
  have e2 : IntKind.wrap .u64 ((y : Nat) : Int) = ((y : Nat) : Int) := wrap_in ⟨by show (0 : Int) ≤ _; omega, by show _ ≤ (18446744073709551615 : Int); omega⟩
  rw [e1, e2]
  have ex : (BitVec.ofInt 64 ((m * 256 : Nat) : Int)).toNat = m * 256 := by rw [BitVec.ofInt_natCast, BitVec.toNat_ofNat]; exact Nat.mod_eq_of_lt (by omega)
  have ey : (BitVec.ofInt 64 (y : Int)).toNat = y := by rw [BitVec.ofInt_natCast, BitVec.toNat_ofNat]; exact Nat.mod_eq_of_lt (by omega)
  show IntKind.wrap .u64 (((BitVec.ofInt 64 ((m * 256 : Nat) : Int)) ||| (BitVec.ofInt 64 (y : Int))).toNat : Int) = _
  rw [BitVec.toNat_or, ex, ey, or_byte m y (by omega), wrap_in ⟨by show (0 : Int) ≤ _; omega, by show _ ≤ (18446744073709551615 : Int); omega⟩]
  omega
theorem or_i64 {x c : Int} (hx : 0 ≤ x ∧ x < 4294967296) (hc : 0 ≤ c ∧ c ≤ 255) : bits .or .i64 (x * 2 ^ 8) c = x * 256 + c := by
  obtain ⟨m, rfl⟩ := Int.eq_ofNat_of_zero_le hx.1
  obtain ⟨y, rfl⟩ := Int.eq_ofNat_of_zero_le hc.1
  have e1 : ((m : Int) * 2 ^ 8) = ((m * 256 : Nat) : Int) := by omega
  rw [e1]
  have ex : (BitVec.ofInt 64 ((m * 256 : Nat) : Int)).toNat = m * 256 := by rw [BitVec.ofInt_natCast, BitVec.toNat_ofNat]; exact Nat.mod_eq_of_lt (by omega)
  have ey : (BitVec.ofInt 64 (y : Int)).toNat = y := by rw [BitVec.ofInt_natCast, BitVec.toNat_ofNat]; exact Nat.mod_eq_of_lt (by omega)
  show IntKind.wrap .i64 (((BitVec.ofInt 64 ((m * 256 : Nat) : Int)) ||| (BitVec.ofInt 64 (y : Int))).toNat : Int) = _
  rw [BitVec.toNat_or, ex, ey, or_byte m y (by omega), wrap_in ⟨by show (-9223372036854775808 : Int) ≤ _; omega, by show _ ≤ (9223372036854775807 : Int); omega⟩]
  omega
theorem getN_snoc (b : List Int) (c : Int) : getN (b ++ [c]) = getN b * 256 + c := by unfold getN; rw [List.foldl_append]; rfl
theorem getN_lt {b : List Int} (h : FB b) (hl : b.length ≤ 3) : 0 ≤ getN b ∧ getN b < 16777216 := by
  match b, hl with
  | [], _ => decide
  | [a], _ =>
    have h1 := h a (by simp)
    show 0 ≤ 0 * 256 + a ∧ 0 * 256 + a < _
    omega
  | [a, b], _ =>
    have h1 := h a (by simp)
    have h2 := h b (by simp)
    show 0 ≤ (0 * 256 + a) * 256 + b ∧ (0 * 256 + a) * 256 + b < _
    omega
  | [a, b, c], _ =>
    have h1 := h a (by simp)
    have h2 := h b (by simp)
    have h3 := h c (by simp)
    show 0 ≤ ((0 * 256 + a) * 256 + b) * 256 + c ∧ ((0 * 256 + a) * 256 + b) * 256 + c < _
    omega
end Go.Vc
namespace Go.Proofs.Ytlenmnffdbgkkaa
open Go.RowKit Go.Vc
section
variable {w : World}
theorem lies_does (p : Option Addr) (c : Nat) : Does Try.prog 55 #[.slice p 4 c, .int .i64 0, .int .i64 4] w fun e w' => e = .returned (.bool true) ∧ w' = w := by
  apply f55_does
  refine tru (by decide) (tru (by decide) (tru (by decide) (tru (by decide) ⟨by decide, rfl, rfl⟩)))
theorem place_does (n : Int) : Does Try.prog 45 #[.int .i64 n] w fun e w' => e = .returned (.bool (decide (placeOk n))) ∧ w' = w := by
  apply f45_does
  refine brr (fun q => ⟨?_, rfl⟩) fun q => ⟨?_, rfl⟩
  · have q := of_decide_eq_true q
    rw [show decide (placeOk n) = decide (n ≤ 1048576) from decide_eq_decide.2 ⟨fun h => h.2, fun h => ⟨q, h⟩⟩]
  · have q := of_decide_eq_false q
    rw [show decide (placeOk n) = false from decide_eq_false fun h => q h.1]
theorem good_does (n : Int) : Does Try.prog 37 #[.int .i64 n] w fun e w' => e = .returned (.bool (decide (placeOk n))) ∧ w' = w := by
  apply f37_does
  refine brr (fun q => ⟨?_, rfl⟩) fun q => ⟨?_, rfl⟩
  · have q := of_decide_eq_true q
    rw [show decide (placeOk n) = decide (n ≤ 1048576) from decide_eq_decide.2 ⟨fun h => h.2, fun h => ⟨q, h⟩⟩]
  · have q := of_decide_eq_false q
    rw [show decide (placeOk n) = false from decide_eq_false fun h => q h.1]
theorem putN_u8 (n : Int) : ∀ x ∈ putN n, InK .u8 x := fun x hx => putN_in n x hx
theorem rput_does (n : Int) : Does Try.prog 36 #[.int .i64 n] w fun e w' => ∃ p, e = .returned (.slice p 4 4) ∧ Ints .u8 w' (fun g => w.heap.size ≤ g) p (putN n) ∧ Ext w w' := by
  apply f36_does
  refine ⟨by decide, by decide, by decide, fun b w1 hb => ⟨_, rfl, ?_, hb.ext⟩⟩
  have hI := hb.ints (k := .u8) (putN n) (by
    rw [fdiv_two, fdiv_two, fdiv_two, wrap_u8, wrap_u8, wrap_u8, wrap_u8]; rfl) (putN_u8 n)
  exact Ints.ok hI fun z _ hz => by rw [hz, hb.eq]; exact Nat.le_refl _
/-- The bytes, the last ones of them written. -/
def halfN (n : Int) (k : Nat) : List Int := ([0, 0, 0, 0] : List Int).take (4 - k) ++ (putN n).drop (4 - k)
def shrN (n : Int) (k : Nat) : Int := match k with | 0 => n | 1 => n / 256 | 2 => n / 65536 | 3 => n / 16777216 | _ => n / 4294967296
theorem put_does {b : Nat} {ok : Nat → Prop} (hz : Ints .u8 w ok (some ⟨b, 0, none⟩) [0, 0, 0, 0]) {n : Int} (hn : Fits32 n) (c : Nat) :
    Does Try.prog 46 #[.slice (some ⟨b, 0, none⟩) 4 c, .int .i64 0, .int .i64 4, .int .i64 n] w fun e w' => ∃ p c', e = .returned (.tuple #[.slice p 4 c', .bool true]) ∧ Ints .u8 w' (fun g => w.heap.size ≤ g) p (putN n) ∧ Ext w w' := by
  obtain ⟨hn0, hn1⟩ := hn
  apply f46_does
  refine ⟨fun _ wc => wc = w, (lies_does _ _).imp ?_, ?_⟩
  · rintro e w15 ⟨rfl, rfl⟩
    refine ⟨_, rfl, fls rfl (fls (decide_eq_false (by omega)) (fls (decide_eq_false (by omega)) (tru (by decide) ⟨by decide, by decide, fls ?_ ⟨0, rfl⟩⟩)))⟩
    have : n.fdiv (2 ^ min ((8 : Int) * 4).toNat 64) = 0 := by
      rw [show min ((8 : Int) * 4).toNat 64 = 32 from rfl, fdiv_two]
      omega
    rw [this]; rfl
  rintro _ wc rfl
  obtain ⟨p, c', w37, hr, ho, hu⟩ := append_b (own_nil wc wc.heap.size 5 1) (xs := []) hz (l2 := 4) rfl c (by decide) (Nat.le_refl _)
  have hrow : Row w37 (fun g => wc.heap.size ≤ g) 1 p 4 c' ((halfN n 0).map (Value.int .u8)) := ho.row
  have X : Ext wc w37 := hu.mono fun k _ ⟨a, e, _⟩ => by cases e
  obtain ⟨g, o, rfl, hg, _⟩ := hrow.can (j := 0) (show 0 < 4 by decide)
  refine ⟨some ⟨g, o, none⟩, _, c', w37, hr, by decide, fun x3 x11 nl wl => ∃ k : Nat, k ≤ 4 ∧ x11 = 3 - (k : Int) ∧ nl = 4 - k ∧ x3 = shrN n k ∧ Row wl (fun g => wc.heap.size ≤ g) 1 (some ⟨g, o, none⟩) 4 c' ((halfN n k).map (Value.int .u8)) ∧ Ext wc wl, ⟨_, 0, by decide, rfl, rfl, rfl, hrow, X⟩, ?_⟩
  rintro _ _ _ wl ⟨k, hk, rfl, rfl, rfl, hrow, X⟩
  refine brr (fun q => ?_) fun q => ?_
  · have q := of_decide_eq_true q
    have hk3 : k < 4 := by omega
    have hj : 3 - k < ((halfN n k).map (Value.int .u8)).length := by
      rw [List.length_map]
      match k, hk3 with
      | 0, _ => exact (by decide : 3 < 4)
      | 1, _ => exact (by decide : 2 < 4)
      | 2, _ => exact (by decide : 1 < 4)
      | 3, _ => exact (by decide : 0 < 4)
    have ej : ((0 : Int) + (3 - (k : Int))).toNat = 3 - k := by omega
    obtain ⟨g', o', e, hg', hcan, _⟩ := hrow.can hj
    injection e with e
    injection e with e1 e2
    subst e1 e2
    refine ⟨inI64 (by omega) (by omega), ⟨by omega, by show _ < ((4 : Nat) : Int); omega⟩, g, o, rfl, by rw [ej]; exact hcan, fun ws hs => ⟨by decide, inI64 (by omega) (by omega), _, ?_, k + 1, by omega, by omega, rfl, ?_, ?_, X.loc hg hs.upd⟩⟩
    · omega
    · rw [fdiv_two]
      match k, hk3 with
      | 0, _ => rfl
      | 1, _ => show n / 256 / 256 = n / 65536; omega
      | 2, _ => show n / 65536 / 256 = n / 16777216; omega
      | 3, _ => show n / 16777216 / 256 = n / 4294967296; omega
    · rw [ej] at hs
      have := hrow.set hj hs
      rw [wrap_u8] at this
      match k, hk3 with
      | 0, _ => exact this
      | 1, _ => exact this
      | 2, _ => exact this
      | 3, _ => exact this
  · have q := of_decide_eq_false q
    obtain rfl : k = 4 := by omega
    exact ⟨_, _, rfl, (hrow.ints (putN_u8 n)).2, X⟩
/-- One more byte of a number. -/
theorem get1_does {bx bs bi : Nat} {xs : List Int} {j : Nat} {p : Option Addr} {ok : Nat → Prop} {c : Nat} (hj : j < 4) (hl : xs.length = 4) (hx : Ints .u8 w ok p xs) (hX : Blk w bx [.int .u64 (getN (xs.take j))]) (hS : w.cell? ⟨bs, 0, none⟩ = some (.slice p 4 c)) (hI : Blk w bi [.int .i64 (j : Int)]) (h1 : bx ≠ bi) :
    Does Try.prog 61 #[.pointer (some ⟨bx, 0, none⟩), .pointer (some ⟨bs, 0, none⟩), .pointer (some ⟨bi, 0, none⟩)] w fun e w' => e = .returned (.tuple #[]) ∧ Blk w' bx [.int .u64 (getN (xs.take (j + 1)))] ∧ Blk w' bi [.int .i64 ((j + 1 : Nat) : Int)] ∧ Upd (fun z => z = bx ∨ z = bi) w w' := by
  apply f61_does
  intro wd hd
  have hjx : j < xs.length := by omega
  have hin := hx.inK
  have hfb : FB xs := fun x h => hin x h
  have hg := getN_lt (b := xs.take j) (fun x h => hfb x (List.mem_of_mem_take h)) (by rw [List.length_take]; omega)
  obtain ⟨b, o, rfl, hc⟩ := (hx.ext hd.ext).at j hjx
  refine ⟨bx, 0, rfl, _, (hX.ext hd.ext).cell 0 rfl, by decide, bs, 0, rfl, _, _, _, hd.ext.cell hS, bi, 0, rfl, _, (hI.ext hd.ext).cell 0 rfl, ⟨by omega, by show _ < ((4 : Nat) : Int); omega⟩, b, o, rfl, xs[j], by rw [Int.toNat_natCast]; exact hc, bx, 0, rfl, (hX.ext hd.ext).st (Nat.zero_lt_succ _) fun ws Bs us => ?_⟩
  have hI2 := (hI.ext hd.ext).upd us (Ne.symm h1)
  refine ⟨bi, 0, rfl, _, hI2.cell 0 rfl, inI64 (by omega) (by omega), bi, 0, rfl, hI2.st (Nat.zero_lt_succ _) fun ws1 Bs1 us1 => ⟨rfl, ?_, Bs1, ?_⟩⟩
  · have := Bs.upd us1 h1
    rw [or_u64 ⟨hg.1, by omega⟩ (hfb _ (List.getElem_mem hjx)), ← getN_snoc, ← List.take_succ_eq_append_getElem hjx] at this
    exact this
  · exact Upd.then (Upd.then (hd.ext.mono fun _ _ e => e.elim) us fun _ _ e => .inl e) us1 fun _ _ e => .inr e
theorem get_does {xs : List Int} {p : Option Addr} {ok : Nat → Prop} (c : Nat) (hl : xs.length = 4) (hx : Ints .u8 w ok p xs) :
    Does Try.prog 59 #[.slice p 4 c, .int .i64 0, .int .i64 4] w fun e w' => e = .returned (.tuple #[.int .i64 (getN xs), .bool true]) ∧ Ext w w' := by
  apply f59_does
  intro b3 w3 hb3 b4 w4 hb4
  have e3 := hb3.eq
  have e4 := hb4.eq
  have z3 := hb3.size
  have z4 := hb4.size
  have S4 := (hb3.blk.ext hb4.ext).cell 0 rfl
  refine ⟨_, _, _, S4, _, hb4.blk.cell 0 rfl, (lies_does _ _).imp ?_⟩
  rintro e w13 ⟨rfl, rfl⟩
  refine ⟨_, rfl, fls rfl fun b8 w8 hb8 => hb8.blk.st (by decide) fun w9 B8 u8 => ?_⟩
  have e8 := hb8.eq
  have X8 : Ext w13 w9 := hb8.ext.loc (by omega) u8
  have X : Ext w w9 := (hb3.ext.thn hb4.ext).thn X8
  have z8 := X8.size
  have B4 : Blk w9 b4 [.int .i64 ((0 : Nat) : Int)] := hb4.blk.ext X8
  have B8 : Blk w9 b8 [.int .u64 (getN (xs.take 0))] := B8
  refine ⟨fun x17 nl wl => ∃ j : Nat, x17 = j ∧ nl = 4 - j ∧ j ≤ 4 ∧ Blk wl b8 [.int .u64 (getN (xs.take j))] ∧ Blk wl b4 [.int .i64 (j : Int)] ∧ Ext w wl ∧ wl.cell? ⟨b3, 0, none⟩ = some (.slice p 4 c), ⟨_, 0, rfl, rfl, by decide, B8, B4, X, X8.cell S4⟩, ?_⟩
  rintro _ _ wl ⟨j, rfl, rfl, hj, B8, B4, X, S⟩
  refine brr (fun q => ?_) fun q => ?_
  · have q := of_decide_eq_true q
    refine (get1_does (by omega) hl (hx.ext X) B8 S B4 (by omega)).imp ?_
    rintro e w20 ⟨rfl, B8', B4', u⟩
    refine ⟨rfl, inI64 (by omega) (by omega), _, ?_, j + 1, rfl, rfl, by omega, B8', B4', ?_, u.cell (by omega) S⟩
    · omega
    · exact Upd.then X u fun z hz e => by omega
  · have q := of_decide_eq_false q
    obtain rfl : j = 4 := by omega
    have e4' : xs.take 4 = xs := List.take_of_length_le (by omega)
    rw [e4'] at B8
    have hg := getN4 (fun x h => hx.inK x h) hl
    exact ⟨_, B8.cell 0 rfl, fls (decide_eq_false (by omega)) ⟨_, B8.cell 0 rfl, inI64 (by omega) (by omega), rfl, X⟩⟩
end
end Go.Proofs.Ytlenmnffdbgkkaa
