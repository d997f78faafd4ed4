/-
  Command lines: the last law.
-/
import Derived.Test.YtdkeccgcleamcaaLineKnown
namespace Go.Vc
open Go.RowKit
/-- A number's digits. -/
def digD (n : Nat) : List Int := if n < 10 then [48 + (n : Int)] else digD (n / 10) ++ [48 + ((n % 10 : Nat) : Int)]
termination_by n
theorem digD_small {n : Nat} (h : n < 10) : digD n = [48 + (n : Int)] := by rw [digD, if_pos h]
theorem digD_big {n : Nat} (h : ¬ n < 10) : digD n = digD (n / 10) ++ [48 + ((n % 10 : Nat) : Int)] := by
  conv => lhs; rw [digD]
  rw [if_neg h]
theorem digD_fig : ∀ (n : Nat), ∀ c ∈ digD n, figB c = true
  | n, c, h => by
    by_cases hn : n < 10
    · rw [digD_small hn] at h
      rw [List.mem_singleton.1 h]
      exact decide_eq_true (by omega)
    · rw [digD_big hn] at h
      rcases List.mem_append.1 h with h | h
      · exact digD_fig (n / 10) c h
      · rw [List.mem_singleton.1 h]
        exact decide_eq_true (by omega)
termination_by n => n
theorem digD_val : ∀ (n : Nat), valF (digD n) = n
  | n => by
    by_cases hn : n < 10
    · rw [digD_small hn]
      show 10 * 0 + (48 + (n : Int) - 48) = n
      omega
    · rw [digD_big hn, valF_snoc, digD_val (n / 10)]
      omega
termination_by n => n
theorem digD_len : ∀ (k n : Nat), n < 10 ^ (k + 1) → 0 < (digD n).length ∧ (digD n).length ≤ k + 1
  | 0, n, h => by rw [digD_small (by simpa using h)]; simp
  | k + 1, n, h => by
    by_cases hn : n < 10
    · rw [digD_small hn]; simp
    · obtain ⟨h1, h2⟩ := digD_len k (n / 10) (by rw [Nat.div_lt_iff_lt_mul (by decide)]; rw [Nat.pow_succ] at h; exact h)
      rw [digD_big hn]
      simp; omega
/-- Does no digit stand here? -/
def nofig : List Int → Prop
  | [] => True
  | x :: _ => figB x = false
theorem while_pre {ds rest : List Int} {n : Nat} (hd : ∀ c ∈ ds, figB c = true) (hr : nofig rest) (hn : ds.length ≤ n) : whileF figB n (ds ++ rest) = ds := by
  unfold whileF
  induction ds generalizing n with
  | nil =>
    cases rest with
    | nil => simp
    | cons x t =>
      cases n with
      | zero => rfl
      | succ n => rw [List.nil_append, List.take_succ_cons, List.takeWhile_cons, show figB x = false from hr]; rfl
  | cons d r ih =>
    cases n with
    | zero => simp at hn
    | succ n =>
      rw [List.cons_append, List.take_succ_cons, List.takeWhile_cons, hd d List.mem_cons_self, if_pos rfl, ih (fun c hc => hd c (List.mem_cons_of_mem _ hc)) (by simpa using hn)]
theorem num_pre {n : Nat} (hn : n < 1000000000) {rest : List Int} (hr : nofig rest) (m : Int) : numF m (digD n ++ rest) = n ∧ numR (digD n ++ rest) = rest := by
  obtain ⟨h1, h2⟩ := digD_len 8 n hn
  have hw := while_pre (digD_fig n) hr h2
  unfold numF numR
  rw [hw, if_neg (fun e => by rw [e] at h1; simp at h1), digD_val, List.drop_left]
  exact ⟨rfl, rfl⟩
theorem num_none {rest : List Int} (hr : nofig rest) (m : Int) : numF m rest = m ∧ numR rest = rest := by
  have hw : whileF figB 9 rest = [] := by have := while_pre (ds := []) (n := 9) (by simp) hr (by simp); simpa using this
  unfold numF numR
  rw [hw, if_pos rfl]
  exact ⟨rfl, rfl⟩
/-- A text that adds so much to an address. -/
def Adds (T : List Int) (sum : Int) : Prop := ∀ rest, nofig rest → nofig (T ++ rest) ∧ ∀ off, offF off (T ++ rest) = offF (off + sum) rest
theorem Adds.nil : Adds [] 0 := fun rest h => ⟨h, fun off => by rw [Int.add_zero]; rfl⟩
theorem Adds.plus {T : List Int} {s : Int} (h : Adds T s) : Adds (T ++ [43]) (s + 1) := fun rest hr => by
  obtain ⟨h1, h2⟩ := h (43 :: rest) (by show figB 43 = false; decide)
  rw [List.append_assoc]
  refine ⟨h1, fun off => ?_⟩
  obtain ⟨k1, k2⟩ := num_none hr 1
  show offF off (T ++ 43 :: rest) = _
  rw [h2, offF_plus rfl, List.tail_cons, k1, k2, Int.add_assoc]
theorem Adds.minus {T : List Int} {s : Int} (h : Adds T s) : Adds (T ++ [45]) (s - 1) := fun rest hr => by
  obtain ⟨h1, h2⟩ := h (45 :: rest) (by show figB 45 = false; decide)
  rw [List.append_assoc]
  refine ⟨h1, fun off => ?_⟩
  obtain ⟨k1, k2⟩ := num_none hr 1
  show offF off (T ++ 45 :: rest) = _
  rw [h2, offF_minus (by simp [tk]) rfl, List.tail_cons, k1, k2]
  congr 1; omega
theorem Adds.plusN {T : List Int} {s : Int} (h : Adds T s) {n : Nat} (hn : n < 1000000000) : Adds (T ++ [43] ++ digD n) (s + n) := fun rest hr => by
  obtain ⟨h1, h2⟩ := h (43 :: (digD n ++ rest)) (by show figB 43 = false; decide)
  rw [List.append_assoc, List.append_assoc]
  refine ⟨h1, fun off => ?_⟩
  obtain ⟨k1, k2⟩ := num_pre hn hr 1
  show offF off (T ++ 43 :: (digD n ++ rest)) = _
  rw [h2, offF_plus rfl, List.tail_cons, k1, k2, Int.add_assoc]
theorem Adds.minusN {T : List Int} {s : Int} (h : Adds T s) {n : Nat} (hn : n < 1000000000) : Adds (T ++ [45] ++ digD n) (s - n) := fun rest hr => by
  obtain ⟨h1, h2⟩ := h (45 :: (digD n ++ rest)) (by show figB 45 = false; decide)
  rw [List.append_assoc, List.append_assoc]
  refine ⟨h1, fun off => ?_⟩
  obtain ⟨k1, k2⟩ := num_pre hn hr 1
  show offF off (T ++ 45 :: (digD n ++ rest)) = _
  rw [h2, offF_minus (by simp [tk]) rfl, List.tail_cons, k1, k2]
  congr 1; omega
theorem parse_adds {n : Nat} {T : List Int} {sum : Int} (hn : n < 1000000000) (h : Adds T sum) (hl : (digD n ++ T ++ [100]).length ≤ 4096) :
    parseC (digD n ++ T ++ [100]) = ⟨[⟨110, n, sum, 0⟩], [100], false, []⟩ ∧ parseN (digD n ++ T ++ [100]) = 0 := by
  obtain ⟨h1, h2⟩ := h [100] (by show figB 100 = false; decide)
  obtain ⟨k1, k2⟩ := num_pre hn h1 0
  obtain ⟨d, ds, hd⟩ : ∃ d ds, digD n = d :: ds := by
    obtain ⟨l1, _⟩ := digD_len 8 n hn
    cases hD : digD n with
    | nil => rw [hD] at l1; simp at l1
    | cons d ds => exact ⟨d, ds, rfl⟩
  have hf : figB d = true := digD_fig n d (by rw [hd]; exact List.mem_cons_self)
  have hf' := of_decide_eq_true hf
  have happ : digD n ++ T ++ [100] = digD n ++ (T ++ [100]) := List.append_assoc _ _ _
  have hu : unb' (digD n ++ (T ++ [100])) = digD n ++ (T ++ [100]) := by rw [hd]; exact unb_other (by omega)
  have haddr : addrF (digD n ++ (T ++ [100])) = some (some (⟨110, n, sum, 0⟩, [100])) := by
    have hh : headF (digD n ++ (T ++ [100])) = some (some (⟨110, n, 0, 0⟩, T ++ [100])) := by
      have : headF (digD n ++ (T ++ [100])) = some (some (⟨110, numF 0 (digD n ++ (T ++ [100])), 0, 0⟩, numR (digD n ++ (T ++ [100])))) := by
        rw [hd]
        unfold headF
        simp only [List.cons_append, hf, if_true]
      rw [this, k1, k2]
    have he : offF 0 (T ++ [100]) = (sum, [100]) := by rw [h2, Int.zero_add]; exact offF_end (by decide) (by decide)
    unfold addrF
    rw [hh]
    simp only [he]
  have hreach : reachF (digD n ++ (T ++ [100])) = some ([⟨110, n, sum, 0⟩], [100]) := by
    unfold reachF
    rw [if_neg (by rw [hd]; simp [tk]; omega), haddr]
    rfl
  have hall : allF (digD n ++ T ++ [100]) = some ⟨[⟨110, n, sum, 0⟩], [100], false, []⟩ := by
    rw [happ]
    unfold allF
    rw [hu, hreach]
    rfl
  unfold parseC parseN
  rw [if_neg (by omega), if_neg (by omega), hall]
  exact ⟨rfl, rfl⟩
theorem L_mk (xs : List Int) (a : Array UInt8) (h : a.toList.map (fun b => (b.toNat : Int)) = xs) : L (ByteArray.mk a) = xs := h
end Go.Vc
namespace Go.Proofs.Ytdkeccgcleamcaa
open Go.RowKit Go.Vc
section
variable {w : World}
theorem bytes1 {w w1 : World} {b : Nat} {x : Int} (hb : NewBlk w b [.int .u8 x] 5 w1) (hx : InK .u8 x) {w2 : World} (x2 : Ext w1 w2) :
    (convert 78 9 (.slice (some ⟨b, 0, none⟩) 1 1)).run Try.prog w2 = .ok (.string (strOfNums [x])) w2 :=
  conv_str Try.underlying78 Try.underlying5 Try.underlying9 ((hb.ints (k := .u8) [x] rfl (by simpa using hx)).ext x2) rfl 1
theorem digits_does : ∀ (n : Nat) (w : World), n < 1000000000 → Does Try.prog 20 #[.int .i64 n] w fun e w' => Ext w w' ∧ ∃ s, e = .returned (.string s) ∧ L s = digD n
  | n, w, hn => by
    apply f20_does
    refine brr (fun q => ?_) fun q => ?_
    · have q := of_decide_eq_true q
      have hw : IntKind.wrap .u8 (48 + (n : Int)) = 48 + (n : Int) := wrap_in ⟨by show (0 : Int) ≤ _; omega, by show _ ≤ (255 : Int); omega⟩
      have hk : InK .u8 (48 + (n : Int)) := ⟨by show (0 : Int) ≤ _; omega, by show _ ≤ (255 : Int); omega⟩
      rw [hw]
      refine ⟨inI64 (by omega) (by omega), fun b8 w8 hb8 => ⟨_, _, bytes1 hb8 hk (Upd.refl _ _), hb8.ext, _, rfl, ?_⟩⟩
      rw [L_nums (by simpa using hk), digD_small (by omega)]
    · have q := of_decide_eq_false q
      intro wd hd
      have e1 : (n : Int).tdiv 10 = ((n / 10 : Nat) : Int) := by rw [Int.tdiv_eq_ediv_of_nonneg (by omega)]; omega
      have e2 : (n : Int).tmod 10 = ((n % 10 : Nat) : Int) := by rw [Int.tmod_eq_emod_of_nonneg (by omega)]; omega
      have hw : IntKind.wrap .u8 (48 + ((n % 10 : Nat) : Int)) = 48 + ((n % 10 : Nat) : Int) := wrap_in ⟨by show (0 : Int) ≤ _; omega, by show _ ≤ (255 : Int); omega⟩
      have hk : InK .u8 (48 + ((n % 10 : Nat) : Int)) := ⟨by show (0 : Int) ≤ _; omega, by show _ ≤ (255 : Int); omega⟩
      have hl : ∀ {s : ByteArray}, L s = digD (n / 10) → s.size ≤ 10 := fun {s} h => by
        rw [← L_len, h]
        have := (digD_len 8 (n / 10) (by omega)).2
        omega
      have h1s : ∀ {y : Int}, (strOfNums [y]).size = 1 := fun {y} => rfl
      have fin : ∀ {s : ByteArray}, L s = digD (n / 10) → L (s ++ strOfNums [48 + ((n % 10 : Nat) : Int)]) = digD n := fun {s} h => by
        rw [L_append, h, L_nums (by simpa using hk), digD_big (n := n) (by omega)]
      rw [e1, e2, hw]
      refine ⟨fun _ => True, trivial, by decide, inI64 (by omega) (by omega), by decide, inI64 (by omega) (by omega), ?_, fun b17 w17 hb17 => ⟨trivial, ?_, ?_⟩⟩
      · refine (digits_does (n / 10) wd (by omega)).imp ?_
        rintro e w12 ⟨x12, s12, rfl, h12⟩
        have := hl h12
        refine ⟨_, rfl, trivial, fun b17 w17 hb17 => ⟨trivial, _, _, bytes1 hb17 hk (Upd.refl _ _), trivial, ?_, Ext.thn (Ext.thn hd.ext x12) hb17.ext, _, rfl, fin h12⟩⟩
        rw [h1s]; omega
      · refine (digits_does (n / 10) w17 (by omega)).imp ?_
        rintro e w12 ⟨x12, s12, rfl, h12⟩
        have := hl h12
        refine ⟨_, rfl, trivial, _, _, bytes1 hb17 hk x12, trivial, ?_, Ext.thn (Ext.thn hd.ext hb17.ext) x12, _, rfl, fin h12⟩
        rw [h1s]; omega
      · refine ⟨_, _, bytes1 hb17 hk (Upd.refl _ _), trivial, (digits_does (n / 10) w17 (by omega)).imp ?_⟩
        rintro e w12 ⟨x12, s12, rfl, h12⟩
        have := hl h12
        refine ⟨_, rfl, trivial, ?_, Ext.thn (Ext.thn hd.ext hb17.ext) x12, _, rfl, fin h12⟩
        rw [h1s]; omega
termination_by n => n
theorem offsets_law {ok : Nat → Prop} {p : Option Addr} {ks : List Int} (a : Int) (ha : InK .u16 a) (hk : Ints .i8 w ok p ks) (c : Nat) : Does Try.prog 7 #[.int .u16 a, .slice p ks.length c] w (Holds w) := by
  obtain ⟨n, rfl⟩ : ∃ n : Nat, a = n := ⟨a.toNat, by have : 0 ≤ a := ha.1; omega⟩
  have hn : n ≤ 65535 := by have : (n : Int) ≤ 65535 := ha.2; omega
  apply f7_does
  refine awake_does.imp ?_
  rintro e w15 ⟨rfl, x15⟩
  refine ⟨_, rfl, fls rfl (brr (fun _ => ⟨rfl, x15⟩) fun q => ?_)⟩
  have q := of_decide_eq_false q
  refine ⟨inI64 (by omega) (by omega), (digits_does n w15 (by omega)).imp ?_⟩
  rintro e w22 ⟨x22, s22, rfl, h22⟩
  have X22 := Ext.thn x15 x22
  have hdl := (digD_len 8 n (by omega)).2
  refine ⟨_, rfl, fun s sum x nl wl => ∃ i : Nat, ∃ T, x = i ∧ nl = ks.length - i ∧ i ≤ ks.length ∧ L s = digD n ++ T ∧ Adds T sum ∧ T.length ≤ 4 * i ∧ -128 * (i : Int) ≤ sum ∧ sum ≤ 128 * (i : Int) ∧ Ext w wl,
    ⟨_, 0, [], rfl, rfl, Nat.zero_le _, by rw [h22, List.append_nil], Adds.nil, by simp, by simp, by simp, X22⟩, ?_⟩
  rintro s sum _ _ wl ⟨i, T, rfl, rfl, hi, hs, hA, hT, b1, b2, xl⟩
  have hsz : s.size ≤ 9 + 4 * i := by rw [← L_len, hs, List.length_append]; omega
  refine brr (fun q1 => ?_) fun q1 => ?_
  · have q1 := of_decide_eq_true q1
    have hlt : i < ks.length := by omega
    obtain ⟨b, o, hp, hc⟩ := (hk.ext xl).at i hlt
    have hkk : InK .i8 ks[i] := hk.inK _ (List.getElem_mem hlt)
    have k1 : -128 ≤ ks[i] := hkk.1
    have k2 : ks[i] ≤ 127 := hkk.2
    refine ⟨⟨by omega, by omega⟩, b, o, hp, _, hc, inI64 (by omega) (by omega), inI64 (by omega) (by omega), ?_⟩
    have e43 : L (ByteArray.mk #[43]) = [43] := rfl
    have e45 : L (ByteArray.mk #[45]) = [45] := rfl
    have z43 : (ByteArray.mk #[43]).size = 1 := rfl
    have z45 : (ByteArray.mk #[45]).size = 1 := rfl
    -- one part more
    have go : ∀ {s' : ByteArray} {T' : List Int} {wv : World}, Ext w wv → L s' = digD n ++ (T ++ T') → Adds (T ++ T') (sum + ks[i]) → T'.length ≤ 4 → InK .i64 ((i : Int) + 1) ∧ ∃ ml, ml < ks.length - i ∧
        ∃ i' : Nat, ∃ T, ((i : Int) + 1) = i' ∧ ml = ks.length - i' ∧ i' ≤ ks.length ∧ L s' = digD n ++ T ∧ Adds T (sum + ks[i]) ∧ T.length ≤ 4 * i' ∧ -128 * (i' : Int) ≤ sum + ks[i] ∧ sum + ks[i] ≤ 128 * (i' : Int) ∧ Ext w wv :=
      fun x' hs' hA' hT' => ⟨inI64 (by omega) (by omega), _, by omega, i + 1, T ++ _, by omega, rfl, hlt, hs', hA', by rw [List.length_append]; omega, by omega, by omega, x'⟩
    have dl : ∀ {m : Nat}, m ≤ 128 → (digD m).length ≤ 3 := fun {m} hm => (digD_len 2 m (by omega)).2
    have neg : ks[i] < 0 → ((s.size + (ByteArray.mk #[45]).size : Nat) : Int) ≤ 9223372036854775807 ∧ InK .i64 (0 - ks[i]) ∧ Does Try.prog 20 #[.int .i64 (0 - ks[i])] wl fun e w' => ∃ s69 : ByteArray, e = .returned (.string s69) ∧ (((s ++ ByteArray.mk #[45]).size + s69.size : Nat) : Int) ≤ 9223372036854775807 ∧ InK .i64 ((i : Int) + 1) ∧ ∃ ml, ml < ks.length - i ∧
        ∃ i' : Nat, ∃ T, ((i : Int) + 1) = i' ∧ ml = ks.length - i' ∧ i' ≤ ks.length ∧ L ((s ++ ByteArray.mk #[45]) ++ s69) = digD n ++ T ∧ Adds T (sum + ks[i]) ∧ T.length ≤ 4 * i' ∧ -128 * (i' : Int) ≤ sum + ks[i] ∧ sum + ks[i] ≤ 128 * (i' : Int) ∧ Ext w w' := by
      intro hneg
      obtain ⟨m, hm⟩ : ∃ m : Nat, 0 - ks[i] = m := ⟨(0 - ks[i]).toNat, by omega⟩
      rw [hm]
      refine ⟨by rw [z45]; omega, inI64 (by omega) (by omega), (digits_does m wl (by omega)).imp ?_⟩
      rintro e w69 ⟨x69, s69, rfl, h69⟩
      have h69l : s69.size ≤ 3 := by rw [← L_len, h69]; exact dl (by omega)
      have hz : (s ++ ByteArray.mk #[45]).size = s.size + 1 := by rw [ByteArray.size_append]; rfl
      refine ⟨_, rfl, by rw [hz]; omega, go (T' := [45] ++ digD m) (Ext.thn xl x69) ?_ ?_ ?_⟩
      · rw [L_append, L_append, hs, h69, e45]; simp
      · have := hA.minusN (n := m) (by omega)
        rw [show sum - (m : Int) = sum + ks[i] by omega, List.append_assoc] at this
        exact this
      · have := dl (m := m) (by omega)
        simp; omega
    have pos : ¬ ks[i] < 0 → ((s.size + (ByteArray.mk #[43]).size : Nat) : Int) ≤ 9223372036854775807 ∧ Does Try.prog 20 #[.int .i64 ks[i]] wl fun e w' => ∃ s69 : ByteArray, e = .returned (.string s69) ∧ (((s ++ ByteArray.mk #[43]).size + s69.size : Nat) : Int) ≤ 9223372036854775807 ∧ InK .i64 ((i : Int) + 1) ∧ ∃ ml, ml < ks.length - i ∧
        ∃ i' : Nat, ∃ T, ((i : Int) + 1) = i' ∧ ml = ks.length - i' ∧ i' ≤ ks.length ∧ L ((s ++ ByteArray.mk #[43]) ++ s69) = digD n ++ T ∧ Adds T (sum + ks[i]) ∧ T.length ≤ 4 * i' ∧ -128 * (i' : Int) ≤ sum + ks[i] ∧ sum + ks[i] ≤ 128 * (i' : Int) ∧ Ext w w' := by
      intro hneg
      obtain ⟨m, hm⟩ : ∃ m : Nat, ks[i] = m := ⟨(ks[i]).toNat, by omega⟩
      refine ⟨by rw [z43]; omega, ?_⟩
      conv => enter [3]; rw [hm]
      refine (digits_does m wl (by omega)).imp ?_
      rintro e w69 ⟨x69, s69, rfl, h69⟩
      have h69l : s69.size ≤ 3 := by rw [← L_len, h69]; exact dl (by omega)
      have hz : (s ++ ByteArray.mk #[43]).size = s.size + 1 := by rw [ByteArray.size_append]; rfl
      refine ⟨_, rfl, by rw [hz]; omega, go (T' := [43] ++ digD m) (Ext.thn xl x69) ?_ ?_ ?_⟩
      · rw [L_append, L_append, hs, h69, e43]; simp
      · have := hA.plusN (n := m) (by omega)
        rw [← hm, List.append_assoc] at this
        exact this
      · have := dl (m := m) (by omega)
        simp; omega
    have one : ks[i] = 1 → (((s.size + (ByteArray.mk #[43]).size : Nat) : Int) ≤ 9223372036854775807 ∧ InK .i64 ((i : Int) + 1) ∧ ∃ ml, ml < ks.length - i ∧
        ∃ i' : Nat, ∃ T, ((i : Int) + 1) = i' ∧ ml = ks.length - i' ∧ i' ≤ ks.length ∧ L (s ++ ByteArray.mk #[43]) = digD n ++ T ∧ Adds T (sum + ks[i]) ∧ T.length ≤ 4 * i' ∧ -128 * (i' : Int) ≤ sum + ks[i] ∧ sum + ks[i] ≤ 128 * (i' : Int) ∧ Ext w wl) := fun h =>
      ⟨by rw [z43]; omega, go (T' := [43]) xl (by rw [L_append, hs, e43]; simp) (by have := hA.plus; rw [h]; exact this) (by simp)⟩
    have mone : ks[i] = -1 → (((s.size + (ByteArray.mk #[45]).size : Nat) : Int) ≤ 9223372036854775807 ∧ InK .i64 ((i : Int) + 1) ∧ ∃ ml, ml < ks.length - i ∧
        ∃ i' : Nat, ∃ T, ((i : Int) + 1) = i' ∧ ml = ks.length - i' ∧ i' ≤ ks.length ∧ L (s ++ ByteArray.mk #[45]) = digD n ++ T ∧ Adds T (sum + ks[i]) ∧ T.length ≤ 4 * i' ∧ -128 * (i' : Int) ≤ sum + ks[i] ∧ sum + ks[i] ≤ 128 * (i' : Int) ∧ Ext w wl) := fun h =>
      ⟨by rw [z45]; omega, go (T' := [45]) xl (by rw [L_append, hs, e45]; simp) (by have := hA.minus; rw [h]; exact this) (by simp)⟩
    refine brr (fun q2 => ⟨by decide, brr (fun q3 => ?_) fun q3 => brr (fun q4 => ⟨by decide, brr (fun q5 => ?_) fun q5 => brr (fun q6 => ?_) fun q6 => ?_⟩) fun q4 => brr (fun q6 => ?_) fun q6 => ?_⟩) fun q2 => brr (fun q4 => ⟨by decide, brr (fun q5 => ?_) fun q5 => brr (fun q6 => ?_) fun q6 => ?_⟩) fun q4 => brr (fun q6 => ?_) fun q6 => ?_
    · exact one (by simpa using q2)
    · exact mone (by simpa using q4)
    · exact neg (of_decide_eq_true q6)
    · exact pos (of_decide_eq_false q6)
    · exact neg (of_decide_eq_true q6)
    · exact pos (of_decide_eq_false q6)
    · exact mone (by simpa using q4)
    · exact neg (of_decide_eq_true q6)
    · exact pos (of_decide_eq_false q6)
    · exact neg (of_decide_eq_true q6)
    · exact pos (of_decide_eq_false q6)
  · have q1 := of_decide_eq_false q1
    obtain rfl : i = ks.length := by omega
    have hL : L (s ++ ByteArray.mk #[100]) = digD n ++ T ++ [100] := by rw [L_append, hs]; rfl
    obtain ⟨hC, hN⟩ := parse_adds (n := n) (by omega) hA (by simp; omega)
    rw [← hL] at hC hN
    refine ⟨by show ((s.size + 1 : Nat) : Int) ≤ _; omega, parse_st _ hC hN fun p1 c1 s1 t1 b1 w1 x1 B1 n1 m1 A1 k1 => ?_⟩
    have X1 := Ext.thn xl x1
    obtain ⟨g, o, hp, h1, h2, h3, h4⟩ := A1.cell4 0 (by simp)
    refine fls rfl ⟨_, _, _, B1.cell 0 rfl, fls rfl ⟨_, _, _, B1.cell 0 rfl, ⟨by simp, by simp⟩, g, o, hp, _, h2, inI64 (by omega) (by omega), fls (by simp) ⟨_, _, _, B1.cell 0 rfl, ⟨by simp, by simp⟩, g, o, hp, _, h3, fls (by simp) ⟨_, B1.cell 1 rfl, ?_⟩⟩⟩⟩
    rw [L_eq, n1]
    refine fls rfl ⟨_, _, _, B1.cell 0 rfl, _, B1.cell 1 rfl, _, B1.cell 2 rfl, _, B1.cell 3 rfl, (resolve_does A1 k1 (mks_nil _) ⟨?_, by decide, by decide, by simp, by simp⟩ 0).imp ?_⟩
    · intro x hx
      rw [List.mem_singleton.1 hx]
      have hbg : big = 1099511627776 := rfl
      simp only; omega
    rintro e w111 ⟨x111, rfl⟩
    have X := Ext.thn X1 x111
    have hnum : numP ⟨110, n, sum, 0⟩ 1 70000 [] = if (n : Int) + sum < 1 ∨ (n : Int) + sum > 70000 then (0, 1) else ((n : Int) + sum, 0) := by
      unfold numP lineR headN
      simp
    refine ⟨_, _, _, rfl, inI64 (by omega) (by omega), inI64 (by omega) (by omega), brr (fun q2 => ?_) fun q2 => brr (fun q3 => ?_) fun q3 => ?_⟩
    · have q2 := of_decide_eq_true q2
      have hr : resolveF [⟨110, n, sum, 0⟩] 1 70000 [] = (0, 0, 1) := by
        simp [resolveF, hnum, q2, badStep]
      rw [hr]
      exact ⟨rfl, X⟩
    · have q3 := of_decide_eq_true q3
      have hr : resolveF [⟨110, n, sum, 0⟩] 1 70000 [] = (0, 0, 1) := by
        simp [resolveF, hnum, q3, badStep]
      rw [hr]
      exact ⟨rfl, X⟩
    · have q2 := of_decide_eq_false q2
      have q3 := of_decide_eq_false q3
      have hr : resolveF [⟨110, n, sum, 0⟩] 1 70000 [] = ((n : Int) + sum, (n : Int) + sum, 0) := by
        have : ¬ ((n : Int) + sum < 1 ∨ (n : Int) + sum > 70000) := by omega
        simp [resolveF, hnum, this, badStep]
      rw [hr]
      refine tru rfl (tru (by simp) ⟨?_, X⟩)
      simp
end
end Go.Proofs.Ytdkeccgcleamcaa
