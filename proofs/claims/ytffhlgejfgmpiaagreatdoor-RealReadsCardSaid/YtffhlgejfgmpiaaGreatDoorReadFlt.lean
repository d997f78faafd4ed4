/-
  Numbers read: decimal digits with a point.
-/
import Derived.Test.YtffhlgejfgmpiaaGreatDoorReadStr
namespace Go.Vc
open Go.RowKit
theorem numV_snoc (l : List Int) (c : Int) : numV (l ++ [c]) = numV l * 10 + (c - 48).toNat := by unfold numV; rw [List.foldl_append]; rfl
theorem dec_split (d : List Int) : d = headD d ++ d.drop (headD d).length := by
  conv => lhs; rw [← List.take_append_drop (headD d).length d]
  congr 1
  exact (List.prefix_iff_eq_take.1 (List.takeWhile_prefix _)).symm
theorem dec_facts {d : List Int} (h : decOk d = true) : (∀ x ∈ headD d, isDig x = true) ∧ 0 < (headD d).length ∧ ((headD d).length ≤ 1 ∨ (headD d).headD 0 ≠ 48) ∧ (∀ x ∈ tailD d, isDig x = true) ∧ (headD d).length + (tailD d).length ≤ 15 := by
  unfold decOk at h
  simp only [Bool.and_eq_true, Bool.or_eq_true, decide_eq_true_eq, bne_iff_ne, Bool.not_eq_true'] at h
  obtain ⟨⟨⟨h1, h2⟩, h3⟩, h4⟩ := h
  unfold figs at h1
  simp only [Bool.and_eq_true, List.all_eq_true, Bool.not_eq_true', List.isEmpty_eq_false_iff] at h1
  refine ⟨h1.1, List.length_pos_iff.2 h1.2, h2, fun x hx => ?_, h4⟩
  rcases h3 with h3 | h3
  · have : ¬ (headD d).length < d.length := of_decide_eq_false h3
    have : tailD d = [] := by unfold tailD; rw [List.drop_of_length_le (by omega)]
    rw [this] at hx; cases hx
  · unfold figs at h3
    simp only [Bool.and_eq_true, List.all_eq_true] at h3
    exact h3.1 x hx
theorem dec_char {d : List Int} (h : decOk d = true) {j : Nat} (hj : j < d.length) : (j = (headD d).length ∧ d[j] = 46) ∨ (j ≠ (headD d).length ∧ 48 ≤ d[j] ∧ d[j] ≤ 57) := by
  obtain ⟨h1, h0, _, h2, _⟩ := dec_facts h
  have hs := dec_split d
  have dg : ∀ x, isDig x = true → 48 ≤ x ∧ x ≤ 57 := fun x hx => by unfold isDig at hx; simpa using hx
  rcases Nat.lt_trichotomy j (headD d).length with hlt | rfl | hgt
  · right
    have e : d[j] = (headD d)[j] := by
      have : d[j]? = (headD d)[j]? := by
        conv => lhs; rw [hs]
        rw [List.getElem?_append_left hlt]
      rw [List.getElem?_eq_getElem hj, List.getElem?_eq_getElem hlt] at this
      exact Option.some.inj this
    rw [e]
    exact ⟨by omega, dg _ (h1 _ (List.getElem_mem hlt))⟩
  · left
    have e : d.drop (headD d).length = d[(headD d).length] :: d.drop ((headD d).length + 1) := List.drop_eq_getElem_cons hj
    exact ⟨rfl, drop_head e⟩
  · right
    have e : (tailD d)[j - (headD d).length - 1]? = some d[j] := by
      unfold tailD
      rw [List.getElem?_drop, show (headD d).length + 1 + (j - (headD d).length - 1) = j by omega, List.getElem?_eq_getElem hj]
    exact ⟨by omega, dg _ (h2 _ (List.mem_of_getElem? e))⟩
def digs (d : List Int) (j : Nat) : List Int := (d.take j).filter (· != 46)
theorem digs_dot {d : List Int} {j : Nat} (hj : j < d.length) (h : d[j] = 46) : digs d (j + 1) = digs d j := by
  unfold digs
  rw [List.take_succ_eq_append_getElem hj, List.filter_append, h]
  simp
theorem digs_dig {d : List Int} {j : Nat} (hj : j < d.length) (h : d[j] ≠ 46) : digs d (j + 1) = digs d j ++ [d[j]] := by
  unfold digs
  rw [List.take_succ_eq_append_getElem hj, List.filter_append]
  simp [h]
theorem digs_all {d : List Int} (h : decOk d = true) : digs d d.length = headD d ++ tailD d := by
  obtain ⟨h1, h0, _, h2, _⟩ := dec_facts h
  have ne : ∀ l : List Int, (∀ x ∈ l, isDig x = true) → l.filter (· != 46) = l := fun l hl => by
    rw [List.filter_eq_self]
    intro x hx
    have := hl x hx
    unfold isDig at this
    simp only [Bool.and_eq_true, decide_eq_true_eq] at this
    rw [bne_iff_ne]; omega
  unfold digs
  rw [List.take_length]
  conv => lhs; rw [dec_split d]
  rw [List.filter_append, ne _ h1]
  congr 1
  cases hq : d.drop (headD d).length with
  | nil =>
    have : tailD d = [] := by unfold tailD; rw [← List.drop_drop, hq]; rfl
    rw [this]; rfl
  | cons y q =>
    have hy := drop_head hq
    have ht : tailD d = q := by unfold tailD; rw [← List.drop_drop, hq]; rfl
    rw [hy]
    rw [ht] at h2 ⊢
    show List.filter (· != 46) (46 :: q) = q
    rw [List.filter_cons_of_neg (by decide), ne _ h2]
theorem digs_len {d : List Int} (h : decOk d = true) (j : Nat) : (digs d j).length ≤ 15 := by
  have h1 : (digs d j).length ≤ (digs d d.length).length := by
    unfold digs
    rw [List.take_length]
    exact ((List.take_sublist j d).filter _).length_le
  rw [digs_all h, List.length_append] at h1
  have := (dec_facts h).2.2.2.2
  omega
/-- The state of a reader of digits, behind j bytes. -/
structure RfSt (d : List Int) (w : World) (nd : Nat) (dp : Int) (j : Nat) (x2 : Int) (b5 b9 b13 b14 : Bool) (x15 x16 x17 : Int) (wc : World) : Prop where
  m : x2 = numV (digs d j)
  lt : numV (digs d j) < 10 ^ (digs d j).length
  e5 : b5 = false
  e9 : b9 = false
  e13 : b13 = decide ((headD d).length < j)
  e14 : b14 = decide (0 < j)
  e15 : x15 = nd
  e16 : x16 = nd
  e17 : dp = x17
  nle : nd ≤ (digs d j).length
  zero : nd = 0 → numV (digs d j) = 0
  dot : (headD d).length < j → dp = (nd : Int) - ((j : Int) - (headD d).length - 1)
  low : -(j : Int) ≤ dp
  high : dp ≤ 15
  world : wc = w
def decS (neg : Bool) (M k : Nat) : Option Nat :=
  if M = 0 then some (if neg then 9223372036854775808 else 0) else
  if k = 0 then cls (if neg then Op.negFloat .f64 (floatOfInt .f64 (M : Int)) else floatOfInt .f64 (M : Int)) else opC .quo (if neg then Op.negFloat .f64 (floatOfInt .f64 (M : Int)) else floatOfInt .f64 (M : Int)) (ten k)
theorem decS_false (M k : Nat) : decS false M k = decV M k := by
  unfold decS decV
  simp only [Bool.false_eq_true, if_false]
end Go.Vc
namespace Go.Proofs.YtffhlgejfgmpiaaGreatDoor
open Go.RowKit Go.Vc
variable {w : World} {R : Ending → World → Prop}
def sgnL (neg : Bool) : List Int := if neg then [45] else []
section
variable {s : ByteArray} {neg : Bool} {d : List Int} (hs : L s = sgnL neg ++ d) (hd : decOk d = true)
include hs hd
theorem size_of : s.size = (sgnL neg).length + d.length ∧ d.length ≤ 16 ∧ 0 < d.length ∧ (sgnL neg).length ≤ 1 := by
  have h1 := L_len s
  have h2 := dec_facts hd
  have h3 : (tailD d).length = d.length - ((headD d).length + 1) := by unfold tailD; rw [List.length_drop]
  have h4 : (headD d).length ≤ d.length := List.IsPrefix.length_le (List.takeWhile_prefix _)
  rw [hs, List.length_append] at h1
  have h5 : (sgnL neg).length ≤ 1 := by cases neg <;> decide
  omega
omit hd in
theorem char_at {j : Nat} (hj : j < d.length) {i : Int} (hi : i = ((sgnL neg).length : Int) + j) : sb s i = d[j] := by
  subst hi
  have hl : (sgnL neg).length + j < (L s).length := by rw [hs, List.length_append]; omega
  have h1 := L_sb hl
  have h2 : (L s)[(sgnL neg).length + j] = d[j] := by
    have : (L s)[(sgnL neg).length + j]? = d[j]? := by
      rw [hs, List.getElem?_append_right (by omega), show (sgnL neg).length + j - (sgnL neg).length = j by omega]
    rw [List.getElem?_eq_getElem hl, List.getElem?_eq_getElem hj] at this
    exact Option.some.inj this
  rw [← h2, ← h1]
  congr 1
omit hd in
theorem first_neg (h : neg = true) : sb s 0 = 45 := by
  subst h
  have hl : 0 < (L s).length := by rw [hs]; simp [sgnL]
  have h1 := L_sb hl
  have h2 : (L s)[0] = 45 := by
    have : (L s)[0]? = some 45 := by rw [hs]; rfl
    rw [List.getElem?_eq_getElem hl] at this
    exact Option.some.inj this
  rw [← h2, ← h1]; rfl
theorem first_dig : 48 ≤ d[0]'((size_of hs hd).2.2.1) ∧ d[0]'((size_of hs hd).2.2.1) ≤ 57 := by
  have h0 := (dec_facts hd).2.1
  rcases dec_char hd (size_of hs hd).2.2.1 with ⟨h, _⟩ | ⟨_, h⟩
  · omega
  · exact h
theorem readf_does (h : R (.returned (.tuple #[.int .u64 (numV (headD d ++ tailD d)), .int .i64 (if numV (headD d ++ tailD d) = 0 then 0 else -((tailD d).length : Int)), .bool neg, .bool false, .bool false, .int .i64 s.size, .bool true])) w) : Does Tryz.prog 112 #[.string s] w R := by
  refine f112_does _ ?_
  obtain ⟨hsz, hdl, hd0, hsl⟩ := size_of hs hd
  have hch := fun (j : Nat) (hj : j < d.length) (i : Int) (hi : i = ((sgnL neg).length : Int) + j) => char_at hs hj hi
  obtain ⟨f1, f2⟩ := first_dig hs hd
  have htl : (tailD d).length = d.length - ((headD d).length + 1) := by unfold tailD; rw [List.length_drop]
  have hhl : (headD d).length ≤ d.length := List.IsPrefix.length_le (List.takeWhile_prefix _)
  obtain ⟨_, hh0, hz, _, h15⟩ := dec_facts hd
  have hdl15 : d.length ≤ 16 := hdl
  refine fls (decide_eq_false (by omega)) ⟨fun b i n wc => neg = b ∧ i = ((sgnL neg).length : Int) ∧ wc = w, ⟨⟨by omega, by omega⟩, ?_⟩, ?_⟩
  · cases hneg : neg with
    | true =>
      rw [first_neg hs hneg]
      exact fls (by decide) (tru (by decide) ⟨inI64 (by omega) (by omega), 0, rfl, rfl, rfl⟩)
    | false =>
      have e0 : sb s 0 = d[0] := hch 0 hd0 0 (by rw [hneg]; rfl)
      rw [e0]
      exact fls (by rw [beq_eq_false_iff_ne]; omega) (fls (by rw [beq_eq_false_iff_ne]; omega) ⟨0, rfl, rfl, rfl⟩)
  rintro _ _ nc wc ⟨rfl, rfl, rfl⟩
  refine ⟨fun b6 i x10 x11 x12 n wc' => b6 = false ∧ i = ((sgnL neg).length : Int) ∧ x10 = 10 ∧ x11 = 19 ∧ x12 = 101 ∧ wc' = wc, ?_, ?_⟩
  · have fin : ∀ w', w' = wc → ∃ nc18 : Nat, false = false ∧ ((sgnL neg).length : Int) = ((sgnL neg).length : Int) ∧ (10 : Int) = 10 ∧ (19 : Int) = 19 ∧ (101 : Int) = 101 ∧ w' = wc := fun w' e => ⟨0, rfl, rfl, rfl, rfl, rfl, e⟩
    refine ⟨inI64 (by omega) (by omega), brr (fun q => ⟨⟨by omega, by omega⟩, brr (fun q2 => ?_) fun _ => fin _ rfl⟩) fun _ => fin _ rfl⟩
    have q := of_decide_eq_true q
    rw [hch 0 hd0 _ (by omega)] at q2
    have q2 : d[0] = 48 := by simpa using q2
    have hd1 : 1 < d.length := by omega
    refine ⟨inI64 (by omega) (by omega), ⟨by omega, by omega⟩, f132_does _ ⟨_, rfl, fls ?_ (fin _ rfl)⟩⟩
    have h1 : (headD d).length = 1 := by
      rcases hz with hz | hz
      · omega
      · exfalso
        apply hz
        have : d[0]? = (headD d)[0]? := by
          conv => lhs; rw [dec_split d]
          rw [List.getElem?_append_left hh0]
        rw [List.getElem?_eq_getElem hd0, q2] at this
        cases hq : headD d with
        | nil => rw [hq] at hh0; simp at hh0
        | cons x r => rw [hq] at this; simp at this ⊢; exact this.symm
    rw [hch 1 hd1 _ (by omega)]
    rcases dec_char hd hd1 with ⟨_, e⟩ | ⟨e, _⟩
    · rw [e]; decide
    · omega
  rintro _ _ _ _ _ nc18 w18 ⟨rfl, rfl, rfl, rfl, rfl, rfl⟩
  refine ⟨fun x2 b5 i b9 b13 b14 x15 x16 x17 n wc' => i = (s.size : Int) ∧ ∃ nd dp, RfSt d w18 nd dp d.length x2 b5 b9 b13 b14 x15 x16 x17 wc', ?_, ?_⟩
  · refine ⟨fun x2 b5 i b9 b13 b14 x15 x16 x17 n wl => ∃ j : Nat, i = ((sgnL neg).length : Int) + j ∧ n = d.length - j ∧ j ≤ d.length ∧ ∃ nd dp, RfSt d w18 nd dp j x2 b5 b9 b13 b14 x15 x16 x17 wl,
      ⟨_, 0, by simp, rfl, Nat.zero_le _, 0, 0, ⟨rfl, by show numV [] < 10 ^ 0; decide, rfl, rfl, by simp, rfl, rfl, rfl, rfl, Nat.zero_le _, fun _ => rfl, fun h => by omega, by omega, by omega, rfl⟩⟩, ?_⟩
    rintro x2 b5 _ b9 b13 b14 x15 x16 x17 _ wl ⟨j, rfl, rfl, hj, nd, dp, st⟩
    obtain ⟨rfl, hlt, rfl, rfl, rfl, rfl, rfl, rfl, rfl, hnle, hzero, hdot, hlow, hhigh, rfl⟩ := st
    have hdl := digs_len hd j
    refine brr (fun q => ?_) fun q => ?_
    · have q := of_decide_eq_true q
      have hj : j < d.length := by omega
      rw [hch j hj _ rfl]
      refine ⟨fun x2 b5 b9 b13 b14 x15 x16 x17 n wc' => ∃ nd dp, RfSt d wl nd dp (j + 1) x2 b5 b9 b13 b14 x15 x16 x17 wc', ⟨⟨by omega, by omega⟩, ?_⟩, ?_⟩
      · rcases dec_char hd hj with ⟨ej, ec⟩ | ⟨ej, c1, c2⟩
        · rw [ec]
          refine fls (by decide) (tru (by decide) (fls (decide_eq_false (by omega)) ⟨0, nd, nd, ?_⟩))
          rw [← digs_dot hj ec] at hlt hnle hzero
          have hD15 := digs_len hd (j + 1)
          refine ⟨by rw [digs_dot hj ec], hlt, rfl, rfl, ?_, ?_, rfl, rfl, rfl, hnle, hzero, fun _ => by omega, by omega, by omega, rfl⟩
          · exact (decide_eq_true (by omega)).symm
          · rw [decide_eq_true (by omega), decide_eq_true (by omega)]
        · have hne : d[j] ≠ 46 := by omega
          have hD := digs_dig hj hne
          have hDl : (digs d (j + 1)).length = (digs d j).length + 1 := by rw [hD]; simp
          have hD15 := digs_len hd (j + 1)
          have hDv : numV (digs d (j + 1)) = numV (digs d j) * 10 + (d[j] - 48).toNat := by rw [hD, numV_snoc]
          have hp : 10 ^ (digs d (j + 1)).length = 10 ^ (digs d j).length * 10 := by rw [hDl, Nat.pow_succ]
          have hmax : 10 ^ (digs d j).length ≤ 10 ^ 15 := Nat.pow_le_pow_right (by decide) hdl
          have e13 : decide ((headD d).length < j) = decide ((headD d).length < j + 1) := by rw [Bool.eq_iff_iff, decide_eq_true_eq, decide_eq_true_eq]; omega
          have e14 : true = decide (0 < j + 1) := (decide_eq_true (by omega)).symm
          have hlt' : numV (digs d (j + 1)) < 10 ^ (digs d (j + 1)).length := by rw [hDv, hp]; omega
          have gen : ∃ nd' dp', RfSt d wl nd' dp' (j + 1) (IntKind.wrap .u64 ((IntKind.wrap .u64 ((numV (digs d j) : Int) * 10)) + (IntKind.wrap .u64 (IntKind.wrap .u8 (d[j] - 48))))) false false (decide ((headD d).length < j)) true ((nd : Int) + 1) ((nd : Int) + 1) dp wl := by
            have w1 : IntKind.wrap .u8 (d[j] - 48) = d[j] - 48 := wrap_in ⟨by show (0 : Int) ≤ _; omega, by show _ ≤ (255 : Int); omega⟩
            have w2 : IntKind.wrap .u64 (d[j] - 48) = d[j] - 48 := wrap_in ⟨by show (0 : Int) ≤ _; omega, by show _ ≤ (18446744073709551615 : Int); omega⟩
            have w3 : IntKind.wrap .u64 ((numV (digs d j) : Int) * 10) = (numV (digs d j) : Int) * 10 := wrap_in ⟨by show (0 : Int) ≤ _; omega, by show _ ≤ (18446744073709551615 : Int); omega⟩
            have w4 : IntKind.wrap .u64 ((numV (digs d j) : Int) * 10 + (d[j] - 48)) = (numV (digs d j) : Int) * 10 + (d[j] - 48) := wrap_in ⟨by show (0 : Int) ≤ _; omega, by show _ ≤ (18446744073709551615 : Int); omega⟩
            refine ⟨nd + 1, dp, ?_, hlt', rfl, rfl, e13, e14, by omega, by omega, rfl, by omega, fun e => by omega, fun hh => ?_, by omega, hhigh, rfl⟩
            · rw [w1, w2, w3, w4, hDv]; omega
            · have := hdot (by omega); omega
          have not24 : decide ((nd : Int) < 19) = true := decide_eq_true (by omega)
          have n95 : (true == (d[j] == 95)) = false := by rw [show (d[j] == 95) = false by rw [beq_eq_false_iff_ne]; omega]; rfl
          have n46 : (true == (d[j] == 46)) = false := by rw [show (d[j] == 46) = false by rw [beq_eq_false_iff_ne]; omega]; rfl
          refine fls n95 (fls n46 (tru (decide_eq_true (by omega)) (tru (by rw [decide_eq_true (by omega)]; rfl) ?_)))
          refine brr (fun z => brr (fun z2 => ⟨inI64 (by omega) (by omega), 0, nd, dp - 1, ?_⟩) fun _ => ⟨inI64 (by omega) (by omega), tru not24 ⟨inI64 (by omega) (by omega), 0, gen⟩⟩) fun _ => ⟨inI64 (by omega) (by omega), tru not24 ⟨inI64 (by omega) (by omega), 0, gen⟩⟩
          have z : d[j] = 48 := by simpa using z
          have z2 : nd = 0 := by have : (nd : Int) = 0 := by simpa using z2
                                 omega
          have hm0 := hzero z2
          have hv : numV (digs d (j + 1)) = 0 := by rw [hDv, hm0, z]; rfl
          refine ⟨by rw [hv, hm0], hlt', rfl, rfl, e13, e14, rfl, rfl, rfl, by omega, fun _ => hv, fun hh => ?_, by omega, by omega, rfl⟩
          have := hdot (by omega); omega
      · rintro x2 b5 b9 b13 b14 x15 x16 x17 _ wc' ⟨nd', dp', st⟩
        have := st.world
        exact ⟨inI64 (by omega) (by omega), d.length - (j + 1), by omega, j + 1, by omega, rfl, by omega, nd', dp', st⟩
    · have q := of_decide_eq_false q
      have : j = d.length := by omega
      subst this
      exact ⟨0, by omega, nd, dp, ⟨rfl, hlt, rfl, rfl, rfl, rfl, rfl, rfl, rfl, hnle, hzero, hdot, hlow, hhigh, rfl⟩⟩
  · rintro x2 b5 _ b9 b13 b14 x15 x16 x17 _ wc' ⟨rfl, nd, dp, st⟩
    obtain ⟨rfl, hlt, rfl, rfl, rfl, rfl, rfl, rfl, rfl, hnle, hzero, hdot, hlow, hhigh, rfl⟩ := st
    have hdl := digs_len hd d.length
    rw [digs_all hd] at *
    rw [decide_eq_true hd0]
    refine fls rfl ⟨fun x n wc => x = (nd : Int) - (tailD d).length ∧ wc = wc', ?_, ?_⟩
    · refine brr (fun q => ⟨0, ?_, rfl⟩) fun q => ⟨0, ?_, rfl⟩
      · have : ¬ (headD d).length < d.length := by simpa using q
        omega
      · have : (headD d).length < d.length := by simpa using q
        have := hdot this
        omega
    rintro _ _ wc2 ⟨rfl, rfl⟩
    refine ⟨fun a b n wc => a = (nd : Int) ∧ b = (nd : Int) - (tailD d).length ∧ wc = wc2, fls (by decide) ⟨0, rfl, rfl, rfl⟩, ?_⟩
    rintro _ _ _ wc3 ⟨rfl, rfl, rfl⟩
    refine ⟨fun i b x n wc => i = (s.size : Int) ∧ b = false ∧ x = (nd : Int) - (tailD d).length ∧ wc = wc3, fls (decide_eq_false (by omega)) (fls (by decide) ⟨0, rfl, rfl, rfl, rfl⟩), ?_⟩
    rintro _ _ _ _ wc4 ⟨rfl, rfl, rfl, rfl⟩
    refine ⟨fun x n wc => x = (if numV (headD d ++ tailD d) = 0 then 0 else -((tailD d).length : Int)) ∧ wc = wc4, brr (fun q => ?_) fun q => ⟨0, ?_, rfl⟩, ?_⟩
    · have : numV (headD d ++ tailD d) ≠ 0 := fun e => by rw [e] at q; simp at q
      first
        | exact ⟨inI64 (by omega) (by omega), 0, by rw [if_neg this]; omega, rfl⟩
        | exact ⟨0, by rw [if_neg this, wrap_in (inI64 (by omega) (by omega))]; omega, rfl⟩
    · have : numV (headD d ++ tailD d) = 0 := by
        have : ((numV (headD d ++ tailD d) : Nat) : Int) = 0 := by simpa using q
        omega
      rw [if_pos this]
    rintro _ _ wc5 ⟨rfl, rfl⟩
    exact fls rfl h
end
end Go.Proofs.YtffhlgejfgmpiaaGreatDoor
