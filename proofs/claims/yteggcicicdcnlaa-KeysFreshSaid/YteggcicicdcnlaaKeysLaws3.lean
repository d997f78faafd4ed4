/-
  Keys: the laws: as new; counts.
-/
import Derived.Test.YteggcicicdcnlaaKeysLaws2
namespace Go.Vc
open Go.RowKit
/-! ### Counts -/
/-- A number in decimal digits; of 0 none. -/
def digN : Nat → Nat → List Int
  | 0, _ => []
  | f + 1, x => if x = 0 then [] else digN f (x / 10) ++ [48 + ((x % 10 : Nat) : Int)]
def digD (n : Int) (t : List Int) : Int := t.foldl (fun n k => min99 (10 * n + (k - 48))) n
def digOk : Int → List Int → Bool
  | _, [] => true
  | n, k :: t => decide ((49 ≤ k ∧ k ≤ 57) ∨ (k = 48 ∧ n > 0)) && digOk (min99 (10 * n + (k - 48))) t
theorem dig_ok : ∀ x, x < 300 → digOk 0 (digN 4 x) = true ∧ digD 0 (digN 4 x) = min99 x ∧ (digN 4 x).length ≤ 3 ∧ (digN 4 x = [] ↔ x = 0) := by decide +kernel
theorem feeds_digits : ∀ (t : List Int) (r : Cd × Int) (s : PS) (B : List Int), s.tag = .counted ∨ s.tag = .begin → digOk (nOf s) t = true →
    feedsP r s B t = (if t = [] then r else (cd0, 0), if t = [] then s else { setN s (digD (nOf s) t) with tag := .counted }, B ++ t)
  | [], r, s, B, _, _ => by simp [feedsP]
  | k :: t, r, s, B, ht, hd => by
    unfold digOk at hd
    rw [Bool.and_eq_true] at hd
    have hk := of_decide_eq_true hd.1
    have hst : stepP s k = ({ setN s (min99 (10 * nOf s + (k - 48))) with tag := .counted }, 0) := by
      unfold stepP
      rcases ht with ht | ht
      · rw [ht]; show countedP s k = _
        unfold countedP; rw [if_pos hk]
      · rw [ht]; show beginP s k = _
        unfold beginP; rw [if_neg (by omega)]
        unfold countedP; rw [if_pos hk]
    have hf : feedP s B k = ((cd0, 0), { setN s (min99 (10 * nOf s + (k - 48))) with tag := .counted }, B ++ [k]) := by
      unfold feedP
      rw [if_neg (by omega), hst]
      rfl
    have hn : nOf { setN s (min99 (10 * nOf s + (k - 48))) with tag := .counted } = min99 (10 * nOf s + (k - 48)) := by
      unfold nOf setN
      by_cases h : s.here = true
      · simp [h]
      · have h : s.here = false := by simpa using h
        simp [h]
    have hset : ∀ m, setN { setN s (min99 (10 * nOf s + (k - 48))) with tag := .counted } m = { setN s m with tag := .counted } := fun m => by
      unfold setN
      by_cases h : s.here = true
      · simp [h]
      · have h : s.here = false := by simpa using h
        simp [h]
    show feedsP (feedP s B k).1 (feedP s B k).2.1 (feedP s B k).2.2 t = _
    rw [hf]
    show feedsP (cd0, 0) { setN s (min99 (10 * nOf s + (k - 48))) with tag := .counted } (B ++ [k]) t = _
    rw [feeds_digits t _ _ _ (.inl rfl) (by rw [hn]; exact hd.2), hn, hset]
    by_cases h : t = []
    · subst h; simp [digD]
    · rw [if_neg h, if_neg h]
      simp [digD]
theorem feedsP_append : ∀ (t u : List Int) (r : Cd × Int) (s : PS) (B : List Int), feedsP r s B (t ++ u) = feedsP (feedsP r s B t).1 (feedsP r s B t).2.1 (feedsP r s B t).2.2 u
  | [], u, r, s, B => rfl
  | k :: t, u, r, s, B => feedsP_append t u _ _ _
/-- An operator's name, as the eight of the law. -/
def ops8 : List (List Int) := [[100], [99], [121], [62], [60], [103, 117], [103, 85], [103, 126]]
theorem feeds_op : ∀ op ∈ ops8, ∀ (tag : Tag) (m : Int) (r : Cd × Int) (B : List Int), tag = .counted ∨ tag = .begin → 
    feedsP r ⟨false, tag, 0, [], [], [], m, 0, false, 0⟩ B op = ((cd0, 0), ⟨false, .counted, 0, op, [], [], m, 0, true, 0⟩, B ++ op) := by
  intro op hop tag m r B ht
  simp only [ops8, List.mem_cons, List.not_mem_nil, or_false] at hop
  rcases hop with rfl | rfl | rfl | rfl | rfl | rfl | rfl | rfl <;> rcases ht with rfl | rfl <;> first | rfl | (simp [feedsP, feedP, stepP, beginP, countedP, commandP, secondP, nOf, opers, plains, opers2])
theorem feeds_w : ∀ op ∈ ops8, ∀ (m n : Int) (r : Cd × Int) (B : List Int), feedsP r ⟨false, .counted, 0, op, [], [], m, n, true, 0⟩ B [119] = ((⟨0, if m = 0 ∨ n = 0 then m + n else min99 (m * n), op, [119], []⟩, 1), fresh false, []) := by
  intro op hop m n r B
  simp only [ops8, List.mem_cons, List.not_mem_nil, or_false] at hop
  rcases hop with rfl | rfl | rfl | rfl | rfl | rfl | rfl | rfl <;> rfl
theorem feeds_x (tag : Tag) (m : Int) (r : Cd × Int) (B : List Int) (ht : tag = .counted ∨ tag = .begin) : feedsP r ⟨false, tag, 0, [], [], [], m, 0, false, 0⟩ B [120] = ((⟨0, if m = 0 ∨ (0 : Int) = 0 then m + 0 else min99 (m * 0), [120], [], []⟩, 1), fresh false, []) := by
  rcases ht with rfl | rfl <;> rfl
/-- What the law's keys come to. -/
theorem feeds_counts {x y : Nat} (hx : x < 300) (hy : y < 300) {op : List Int} (hop : op ∈ ops8) :
    feedsP (cd0, 0) (fresh false) [] (digN 4 x ++ op ++ digN 4 y ++ [119]) = ((⟨0, if min99 x = 0 ∨ min99 y = 0 then min99 x + min99 y else min99 (min99 x * min99 y), op, [119], []⟩, 1), fresh false, []) := by
  obtain ⟨a1, a2, _, a4⟩ := dig_ok x hx
  obtain ⟨b1, b2, _, b4⟩ := dig_ok y hy
  rw [feedsP_append, feedsP_append, feedsP_append, feeds_digits (digN 4 x) (cd0, 0) (fresh false) [] (.inr rfl) a1]
  have h1 : ∃ tag, (tag = .counted ∨ tag = .begin) ∧ (if digN 4 x = [] then fresh false else { setN (fresh false) (digD (nOf (fresh false)) (digN 4 x)) with tag := .counted }) = ⟨false, tag, 0, [], [], [], min99 x, 0, false, 0⟩ := by
    by_cases h : digN 4 x = []
    · rw [if_pos h, a4.1 h]
      exact ⟨.begin, .inr rfl, rfl⟩
    · rw [if_neg h]
      refine ⟨.counted, .inl rfl, ?_⟩
      rw [← a2]; rfl
  obtain ⟨tag, ht, h1⟩ := h1
  simp only [h1]
  rw [feeds_op op hop tag _ _ _ ht]
  simp only
  rw [feeds_digits (digN 4 y) _ ⟨false, .counted, 0, op, [], [], min99 x, 0, true, 0⟩ _ (.inl rfl) b1]
  have h2 : (if digN 4 y = [] then (⟨false, .counted, 0, op, [], [], min99 x, 0, true, 0⟩ : PS) else { setN ⟨false, .counted, 0, op, [], [], min99 x, 0, true, 0⟩ (digD (nOf ⟨false, .counted, 0, op, [], [], min99 x, 0, true, 0⟩) (digN 4 y)) with tag := .counted }) = ⟨false, .counted, 0, op, [], [], min99 x, min99 y, true, 0⟩ := by
    by_cases h : digN 4 y = []
    · rw [if_pos h, b4.1 h]; rfl
    · rw [if_neg h, ← b2]; rfl
  simp only [h2]
  rw [feeds_w op hop]
theorem feeds_plain {x : Nat} (hx : x < 300) : feedsP (cd0, 0) (fresh false) [] (digN 4 x ++ [120]) = ((⟨0, min99 x, [120], [], []⟩, 1), fresh false, []) := by
  obtain ⟨a1, a2, _, a4⟩ := dig_ok x hx
  rw [feedsP_append, feeds_digits (digN 4 x) (cd0, 0) (fresh false) [] (.inr rfl) a1]
  have h1 : ∃ tag, (tag = .counted ∨ tag = .begin) ∧ (if digN 4 x = [] then fresh false else { setN (fresh false) (digD (nOf (fresh false)) (digN 4 x)) with tag := .counted }) = ⟨false, tag, 0, [], [], [], min99 x, 0, false, 0⟩ := by
    by_cases h : digN 4 x = []
    · rw [if_pos h, a4.1 h]
      exact ⟨.begin, .inr rfl, rfl⟩
    · rw [if_neg h]
      refine ⟨.counted, .inl rfl, ?_⟩
      rw [← a2]; rfl
  obtain ⟨tag, ht, h1⟩ := h1
  simp only [h1]
  rw [feeds_x tag _ _ _ ht, if_pos (.inr rfl), Int.add_zero]
end Go.Vc
namespace Go.Proofs.Yteggcicicdcnlaa
open Go.RowKit Go.Vc
section
variable {w : World} {ok ok2 : Nat → Prop} {p p2 : Option Addr} {xs ys : List Int} {l c l2 c2 : Nat}
theorem freshlaw (v : Bool) (hx : Ints .u8 w ok p xs) (hl : l = xs.length) (hy : Ints .u8 w ok2 p2 ys) (hl2 : l2 = ys.length) : Does Try.prog 6 #[.bool v, .slice p l c, .slice p2 l2 c2] w (Holds w) := by
  apply f6_does
  refine awake_does.imp ?_
  rintro e w17 ⟨rfl, x17⟩
  refine ⟨_, rfl, fls rfl (brr (fun q => ⟨rfl, x17⟩) fun q => brr (fun q' => ⟨rfl, x17⟩) fun q' => (new_does v).imp ?_)⟩
  have q := of_decide_eq_false q
  have q' := of_decide_eq_false q'
  rintro e w28 ⟨g, rfl, hP, x28, hg⟩
  have X28 := x17.thn x28
  refine ⟨_, rfl, (new_does v).imp ?_⟩
  rintro e w30 ⟨m, rfl, hQ, x30, hm⟩
  have X30 := X28.thn x30
  have hP30 := hP.ext x30
  have gl := hP.lt (.inl rfl : PT g none none g)
  have z17 := x17.size
  have z28 := x28.size
  refine ⟨_, rfl, fls rfl (fls rfl ?_)⟩
  -- the first keys, of the first parser alone
  refine ⟨fun x9 nl wl => ∃ (j : Nat) (s : PS) (B : List Int) (kb ab : Option Nat), x9 = j ∧ nl = xs.length - j ∧ j ≤ xs.length ∧ Keys s B ∧ s.visual = v ∧ B.length ≤ j ∧ Ps wl g s B kb ab ∧ Ps wl m (fresh v) [] none none ∧ Ext w wl ∧ (∀ z, PT g kb ab z → w.heap.size ≤ z ∧ z ≠ m) ∧ m < wl.heap.size,
    ⟨_, 0, fresh v, [], none, none, rfl, rfl, Nat.zero_le _, Keys.fresh _, rfl, Nat.le_refl _, hP30, hQ, X30, fun z hz => ?_, hQ.lt (.inl rfl)⟩, ?_⟩
  · rcases hz with hz | hz | hz
    · omega
    · cases hz
    · cases hz
  rintro _ _ wl ⟨j, s, B, kb, ab, rfl, rfl, hj, hk, hv, hB, hPs, hQs, X, hpt, hml⟩
  refine brr (fun q1 => ?_) fun q1 => (reset_does hPs).imp ?_
  · have q1 := of_decide_eq_true q1
    have hlt : j < xs.length := by omega
    have hkk := hx.inK xs[j] (List.getElem_mem hlt)
    obtain ⟨f1, f2, f3, f4⟩ := feed_same hk xs[j]
    refine (hx.ext X).rd hl rfl hlt (FeedR.use (feed_does hPs hk.wf hkk (by omega)) (fun z hz => hPs.lt hz) fun b8 w8 kb' ab' sk sm pk ca B8 h1 h2 h3 h4 h5 h6 h7 => ?_)
    have zl := X.size
    have z8 := h5.size
    have next : InK .i64 ((j : Int) + 1) ∧ ∃ ml, ml < xs.length - j ∧ ∃ (j' : Nat) (s : PS) (B : List Int) (kb ab : Option Nat), ((j : Int) + 1) = j' ∧ ml = xs.length - j' ∧ j' ≤ xs.length ∧ Keys s B ∧ s.visual = v ∧ B.length ≤ j' ∧ Ps w8 g s B kb ab ∧ Ps w8 m (fresh v) [] none none ∧ Ext w w8 ∧ (∀ z, PT g kb ab z → w.heap.size ≤ z ∧ z ≠ m) ∧ m < w8.heap.size := by
      refine ⟨inI64 (by omega) (by omega), _, ?_, j + 1, (feedP s B xs[j]).2.1, (feedP s B xs[j]).2.2, kb', ab', by omega, rfl, hlt, f3, by rw [f4, hv], by have := feedP_len s B xs[j]; omega, h4, hQs.upd h5 fun z e hz => ?_, own_ext X (fun z hz => (hpt z hz).1) h5, fun z hz => ?_, by omega⟩
      · omega
      · rcases hz with hz | hz | hz
        · exact (hpt z e).2 hz
        · cases hz
        · cases hz
      · rcases (h6 z hz).1 with h | h
        · exact hpt z h
        · exact ⟨by omega, by omega⟩
    refine brr (fun q2 => (pending_does h4).imp ?_) fun q2 => next
    rintro e w56 ⟨x56, rfl, hx56, rfl⟩
    refine ⟨_, rfl, fls ?_ next⟩
    rw [L_eq, hx56, feedP_nil s B xs[j] (by simpa using q2)]; rfl
  rintro e w60 ⟨rfl, h60, u60⟩
  rw [hv] at h60
  have X60 : Ext w w60 := Upd.then X u60 fun z hz e => by have := (hpt z (.inl e)).1; omega
  have hgm : g ≠ m := (hpt g (.inl rfl)).2
  have hQ60 := hQs.upd u60 fun z e hz => by
    rcases hz with hz | hz | hz
    · have e : z = g := e
      omega
    · cases hz
    · cases hz
  have hg60 := (hpt g (.inl rfl)).1
  have z60 := u60.size
  -- and the ones behind: of both
  refine ⟨rfl, fun x12 nl wl => ∃ (j : Nat) (s : PS) (B : List Int) (kb ab kb2 ab2 : Option Nat), x12 = j ∧ nl = ys.length - j ∧ j ≤ ys.length ∧ Keys s B ∧ B.length ≤ j ∧ Ps wl g s B kb ab ∧ Ps wl m s B kb2 ab2 ∧ Ext w wl ∧ (∀ z, PT g kb ab z → w.heap.size ≤ z ∧ ¬ PT m kb2 ab2 z) ∧ (∀ z, PT m kb2 ab2 z → w.heap.size ≤ z),
    ⟨_, 0, fresh v, [], none, none, none, none, rfl, rfl, Nat.zero_le _, Keys.fresh _, Nat.le_refl _, h60, hQ60, X60, fun z hz => ?_, fun z hz => ?_⟩, ?_⟩
  · rcases hz with hz | hz | hz
    · refine ⟨by omega, fun e => ?_⟩
      rcases e with e | e | e
      · omega
      · cases e
      · cases e
    · cases hz
    · cases hz
  · rcases hz with hz | hz | hz
    · omega
    · cases hz
    · cases hz
  rintro _ _ wl ⟨j, s, B, kb, ab, kb2, ab2, rfl, rfl, hj, hk, hB, hPs, hQs, X, hpt, hqt⟩
  refine brr (fun q1 => ?_) fun q1 => ⟨rfl, X⟩
  have q1 := of_decide_eq_true q1
  have hlt : j < ys.length := by omega
  have hkk := hy.inK ys[j] (List.getElem_mem hlt)
  obtain ⟨f1, f2, f3, f4⟩ := feed_same hk ys[j]
  refine (hy.ext X).rd hl2 rfl hlt (FeedR.use (feed_does hPs hk.wf hkk (by omega)) (fun z hz => hPs.lt hz) fun b13 w13 kb' ab' sk sm pk ca B13 h1 h2 h3 h4 h5 h6 h7 => ?_)
  have zl := X.size
  have z13 := h5.size
  have X13 := own_ext X (fun z hz => (hpt z hz).1) h5
  have hQ13 := hQs.upd h5 fun z e hz => (hpt z e).2 hz
  have hpt13 : ∀ z, PT g kb' ab' z → w.heap.size ≤ z ∧ ¬ PT m kb2 ab2 z := fun z hz => by
    rcases (h6 z hz).1 with h | h
    · exact hpt z h
    · exact ⟨by omega, fun e => by have := hQs.lt e; omega⟩
  have l13 := B13.lt
  refine (hy.ext X13).rd hl2 rfl hlt (FeedR.use (feed_does hQ13 hk.wf hkk (by omega)) (fun z hz => hQ13.lt hz) fun b15 w15 kb2' ab2' sk2 sm2 pk2 ca2 B15 g1 g2 g3 g4 g5 g6 g7 => ?_)
  have X15 := own_ext X13 hqt g5
  have h415 := h4.upd g5 fun z e hz => (hpt13 z hz).2 e
  have z15 := g5.size
  have B1315 := B13.upd g5 fun e => by have := hQs.lt e; omega
  have I15 : Ints .u8 w15 (fun _ => True) pk (feedP s B ys[j]).1.1.arg := by
    have a1 : Ints .u8 w13 (fun z => ¬ PT m kb2 ab2 z) pk (feedP s B ys[j]).1.1.arg := Ints.ok h3 fun z _ hz e => by
      rcases hz.1 with h | h
      · exact (hpt z h).2 e
      · have := hQs.lt e; omega
    exact (a1.upd g5 fun z hz e => hz e).any
  intro wd hwd
  refine ⟨fun wz => Ext w15 wz, hwd.ext, brr (fun q2 => by simp at q2) fun q2 => ?_⟩
  refine ⟨_, (B1315.ext hwd.ext).cell 0 rfl, _, (B1315.ext hwd.ext).cell 1 rfl, _, (B1315.ext hwd.ext).cell 2 rfl, _, (B1315.ext hwd.ext).cell 3 rfl, _, _, _, (B1315.ext hwd.ext).cell 4 rfl, (model_does (x := (feedP s B ys[j]).1.1) (o1 := fun _ => True) ⟨sk, sm, pk, ca, rfl, h1, h2, I15.ext hwd.ext⟩).imp ?_⟩
  rintro e w53 ⟨⟨vm, rfl, hvm⟩, x53⟩
  obtain ⟨sk3, sm3, pk3, ca3, rfl, k1, k2, k3⟩ := hvm
  have X53 := hwd.ext.thn x53
  refine ⟨_, _, _, _, _, _, _, rfl, X53, _, fun wz x => (B15.ext x).cell 0 rfl, _, fun wz x => (B15.ext x).cell 1 rfl, _, fun wz x => (B15.ext x).cell 2 rfl, _, fun wz x => (B15.ext x).cell 3 rfl, _, _, _, fun wz x => (B15.ext x).cell 4 rfl,
    (model_does (x := (feedP s B ys[j]).1.1) ⟨sk2, sm2, pk2, ca2, rfl, g1, g2, g3.ext X53⟩).imp ?_⟩
  rintro e w92 ⟨⟨vm, rfl, hvm⟩, x92⟩
  obtain ⟨sk4, sm4, pk4, ca4, rfl, n1, n2, n3⟩ := hvm
  have X92 := X53.thn x92
  refine ⟨_, _, _, _, _, _, _, rfl, (rsame_does (x := (feedP s B ys[j]).1.1) (y := (feedP s B ys[j]).1.1) ⟨sk3, sm3, pk3, ca3, rfl, k1, k2, k3.ext x92⟩ ⟨sk4, sm4, pk4, ca4, rfl, n1, n2, n3⟩).imp ?_⟩
  rintro e w93 ⟨rfl, x93⟩
  have X93 := X92.thn x93
  rw [decide_eq_true rfl]
  refine ⟨_, rfl, fls rfl ⟨inI64 (by omega) (by omega), _, ?_, j + 1, (feedP s B ys[j]).2.1, (feedP s B ys[j]).2.2, kb', ab', kb2', ab2', by omega, rfl, hlt, f3, by have := feedP_len s B ys[j]; omega, h415.ext X93, g4.ext X93, X15.thn X93, fun z hz => ⟨(hpt13 z hz).1, fun e => ?_⟩, fun z hz => ?_⟩⟩
  · omega
  · rcases (g6 z e).1 with h | h
    · exact (hpt13 z hz).2 h
    · have := h4.lt hz; omega
  · rcases (g6 z hz).1 with h | h
    · exact hqt z h
    · have := X13.size; omega
theorem number_does {x : Nat} (hx : x < 300) : Does Try.prog 10 #[.int .i64 x] w fun e w' => ∃ s, e = .returned (.string s) ∧ L s = digN 4 x ∧ Ext w w' := by
  apply f10_does
  refine ⟨fun x0 s nl wl => ∃ f y : Nat, x0 = y ∧ nl = y ∧ y < 10 ^ f ∧ f ≤ 4 ∧ y < 300 ∧ digN f y ++ L s = digN 4 x ∧ Ext w wl ∧ s.size ≤ 4 - f, ⟨_, 4, x, rfl, rfl, by omega, Nat.le_refl _, hx, by rw [show L ({ data := #[] } : ByteArray) = [] from rfl, List.append_nil], Upd.refl _ _, by decide⟩, ?_⟩
  rintro _ s nl wl ⟨f, y, rfl, hnl, hf, hf4, hy, he, X, hsz⟩
  refine brr (fun q => ?_) fun q => ?_
  · have q := of_decide_eq_true q
    cases f with
    | zero => simp at hf; omega
    | succ f =>
      have e1 : (y : Int).tmod 10 = ((y % 10 : Nat) : Int) := rfl
      have e2 : (y : Int).tdiv 10 = ((y / 10 : Nat) : Int) := rfl
      have hw : IntKind.wrap .u8 (48 + ((y % 10 : Nat) : Int)) = 48 + ((y % 10 : Nat) : Int) := wrap_in ⟨by show (0 : Int) ≤ _; omega, by show _ ≤ (255 : Int); omega⟩
      rw [e1, e2, hw]
      refine ⟨by decide, inI64 (by omega) (by omega), fun b10 w10 hb10 => one_str hb10 ⟨by show (0 : Int) ≤ _; omega, by show _ ≤ (255 : Int); omega⟩ fun t ht => ⟨?_, by decide, inI64 (by omega) (by omega), _, ?_, f, y / 10, rfl, rfl, ?_, by omega, by omega, ?_, X.thn hb10.ext, ?_⟩⟩
      · have := L_len t
        rw [ht] at this
        simp at this
        omega
      · omega
      · rw [Nat.pow_succ] at hf; omega
      · rw [← he, L_append, ht]
        show _ = (if y = 0 then _ else _) ++ _
        rw [if_neg (by omega), List.append_assoc]
      · have := L_len t
        rw [ht] at this
        rw [ByteArray.size_append]
        simp at this
        omega
  · have q := of_decide_eq_false q
    obtain rfl : y = 0 := by omega
    refine ⟨s, rfl, ?_, X⟩
    rw [← he]
    cases f <;> rfl
end
end Go.Proofs.Yteggcicicdcnlaa
