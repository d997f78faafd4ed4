/-
  States: what each function of the code does: Encode.
-/
import Derived.Test.YtlenmnffdbgkkaaStateWrite
import Derived.Test.YtlenmnffdbgkkaaHistCalls2
namespace Go.Vc
open Go.RowKit
/-! ### How long texts are -/
def sumE : List E → Nat
  | [] => 0
  | e :: r => e.old.length + e.new.length + sumE r
def sumN : List Nd → Nat
  | [] => 0
  | n :: r => sumE n.es + sumN r
theorem sumE_snoc : ∀ (l : List E) (e : E), sumE (l ++ [e]) = sumE l + (e.old.length + e.new.length)
  | [], e => by simp [sumE]
  | x :: r, e => by
    have := sumE_snoc r e
    show x.old.length + x.new.length + sumE (r ++ [e]) = x.old.length + x.new.length + sumE r + _
    omega
theorem sumN_snoc : ∀ (l : List Nd) (n : Nd), sumN (l ++ [n]) = sumN l + sumE n.es
  | [], n => by simp [sumN]
  | x :: r, n => by
    have := sumN_snoc r n
    show sumE x.es + sumN (r ++ [n]) = sumE x.es + sumN r + _
    omega
theorem sumE_le : ∀ l : List E, sumE l ≤ (l.flatMap encE).length
  | [] => Nat.le_refl _
  | e :: r => by
    have := sumE_le r
    rw [List.flatMap_cons, List.length_append]
    have : (encE e).length = 12 + e.old.length + e.new.length := by unfold encE; simp only [List.length_append, putN_len]; omega
    show e.old.length + e.new.length + sumE r ≤ _
    omega
theorem sumN_le : ∀ l : List Nd, sumN l ≤ (l.flatMap encN).length
  | [] => Nat.le_refl _
  | n :: r => by
    have h1 := sumN_le r
    have h2 := sumE_le n.es
    rw [List.flatMap_cons, List.length_append]
    have : (encN n).length = 12 + (n.es.flatMap encE).length := by unfold encN; simp only [List.length_append, putN_len]
    show sumE n.es + sumN r ≤ _
    omega
theorem sum_long {ns : List Nd} {cur : Int} {ms : List (Int × Int)} (hl : loadOk ns cur) : sumN ns ≤ (encS ns cur ms).length := by
  obtain ⟨h1, h2, h3, h4, h5⟩ := hl
  cases ns with
  | nil => simp at h1
  | cons n r =>
    have h0 := h5 0 (by simp)
    have he : n.es = [] := by
      unfold mayN at h0
      rw [if_pos (show ((0 : Nat) : Int) = 0 from rfl)] at h0
      exact h0.2.1
    have := sumN_le r
    unfold encS
    simp only [List.length_append]
    show sumE n.es + sumN r ≤ _
    rw [he]
    show 0 + sumN r ≤ _
    have e1 : ((n :: r).drop 1) = r := rfl
    rw [e1]
    omega
def cap2 (n : Nat) : Int := if (2097152 : Int) < n then 2097152 else n
theorem cap2_add (n a b : Nat) : (if 2097152 < (cap2 n + (a : Int)) + (b : Int) then 2097152 else (cap2 n + (a : Int)) + (b : Int)) = cap2 (n + (a + b)) := by unfold cap2; split <;> split <;> split <;> omega
theorem cap2_le (n : Nat) : 0 ≤ cap2 n ∧ cap2 n ≤ 2097152 := by unfold cap2; split <;> omega
end Go.Vc
namespace Go.Proofs.Ytlenmnffdbgkkaa
open Go.RowKit Go.Vc
section
variable {w : World}
/-- What writing tells. -/
def EncR (w : World) (ns : List Nd) (cur : Int) (ms : List (Int × Int)) (e : Ending) (w' : World) : Prop :=
  (∃ p c, e = .returned (.tuple #[.slice p (encOut ns cur ms).length c, .int .i64 (encCode ns cur ms)]) ∧ (encOut ns cur ms).length ≤ c ∧ Ints .u8 w' (fun z => w.heap.size ≤ z) p (encOut ns cur ms)) ∧ Ext w w'
theorem encr_bad {ns : List Nd} {cur : Int} {ms : List (Int × Int)} {w' : World} {n : Int} (h : encCode ns cur ms = n) (hn : n ≠ 0) (x : Ext w w') : EncR w ns cur ms (.returned (.tuple #[.slice none 0 0, .int .i64 n])) w' := by
  have : encOut ns cur ms = [] := by unfold encOut; rw [h, if_neg hn]
  exact ⟨⟨none, 0, by rw [this, h]; rfl, by rw [this]; exact Nat.le_refl _, by rw [this]; exact RS.nil⟩, x⟩
theorem encode_does {A : Nat → Prop} {b cur : Nat} {ns : List Nd} (h : Hs w A b ns cur) (hl : loadOk ns cur) (hm : Mods ns) {ms : List (Int × Int)} {ok : Nat → Prop} {pm : Option Addr} (hk : Mks w ok pm ms) {l : Nat} (hlm : l = ms.length) (c : Nat) (hs : ms.length ≤ 1000000000)
    (hT : writeOk ns ms → (encS ns cur ms).length ≤ 100000000) : Does Try.prog 10 #[.pointer (some ⟨b, 0, none⟩), .slice pm l c] w (EncR w ns cur ms) := by
  subst hlm
  have hl' := hl
  obtain ⟨hn1, hn6, hc0, hc1, hokl⟩ := hl'
  have hn : 0 < ns.length := hn1
  apply f10_does
  refine fls rfl ((count_does h hn).imp ?_)
  rintro e w21 ⟨rfl, rfl⟩
  refine ⟨_, rfl, fls (by rw [beq_eq_false_iff_ne]; omega) ((marked_does hk rfl c hs).imp ?_)⟩
  rintro e w26 ⟨rfl, x26⟩
  have z26 := x26.size
  refine ⟨_, rfl, brr (fun q => ?_) fun q => ?_⟩
  · exact encr_bad (by unfold encCode; rw [if_pos fun k => not_dec q k.2]) (by decide) x26
  have hmk := yes_dec q
  refine (nodes_does (h.ext x26) hn hn6 hm).imp ?_
  rintro e w30 ⟨p30, c30, rfl, o30, x30⟩
  have X30 := x26.thn x30
  have hN : Nodes w30 (fun g => w26.heap.size ≤ g ∧ g < w30.heap.size) p30 ns := OwnL.nodes o30
  -- the places, and how long the texts are
  refine ⟨_, _, _, rfl, fun x7 x33 nl wl => ∃ k : Nat, x33 = k ∧ nl = ns.length - k ∧ k ≤ ns.length ∧ x7 = cap2 (sumN (ns.take k)) ∧ (∀ n ∈ ns.take k, nodeOk n) ∧ Ext w30 wl, ⟨_, 0, rfl, rfl, Nat.zero_le _, rfl, by simp, Upd.refl _ _⟩, ?_⟩
  rintro _ _ _ wl ⟨k, rfl, rfl, hkn, rfl, hall, X⟩
  have Xl := X30.thn X
  refine brr (fun q1 => ?_) fun q1 => ?_
  · have q1 := of_decide_eq_true q1
    have hkl : k < ns.length := by omega
    have hmo := hm _ (List.getElem_mem hkl)
    obtain ⟨b1, o1, p1, c1, hp, hb1, a1, a2, a3, i1, i2, i3, hE⟩ := (hN.ext X).at k hkl
    refine ⟨⟨by omega, by omega⟩, b1, o1, hp, _, a1, _, _, _, a2, _, a3, fun b9 w9 hb9 => hb9.blk.st3 rfl fun w10 B9 u9 => ?_⟩
    have e9 := hb9.eq
    have X10 : Ext wl w10 := hb9.ext.loc (by omega) u9
    refine ⟨_, B9.cell 0 rfl, _, _, _, B9.cell 1 rfl, _, B9.cell 2 rfl, (placed_does (n := ns[k]) (hE.ext X10) _ hmo.1).imp ?_⟩
    rintro e w38 ⟨rfl, x38⟩
    have X38 := X10.thn x38
    refine ⟨_, rfl, brr (fun q2 => ?_) fun q2 => ?_⟩
    · exact encr_bad (by unfold encCode; rw [if_pos fun j => not_dec q2 (j.1 _ (List.getElem_mem hkl))]) (by decide) (Xl.thn X38)
    have hnk := yes_dec q2
    refine ⟨_, _, _, (B9.ext x38).cell 1 rfl, fun y x43 nl wq => ∃ j : Nat, x43 = j ∧ nl = ns[k].es.length - j ∧ j ≤ ns[k].es.length ∧ y = cap2 (sumN (ns.take k) + sumE (ns[k].es.take j)) ∧ Ext wl wq, ⟨_, 0, rfl, rfl, Nat.zero_le _, rfl, X38⟩, ?_⟩
    rintro _ _ _ wq ⟨j, rfl, rfl, hj, rfl, Xq⟩
    refine brr (fun q3 => ?_) fun q3 => ?_
    · have q3 := of_decide_eq_true q3
      have hjl : j < ns[k].es.length := by omega
      have hme := hmo.2 _ (List.getElem_mem hjl)
      have hml := hmo.1
      obtain ⟨b2, o2, p2, c2, p3, c3, hp2, hbo2, d1, d2, d3, hin, g1, d4, g2, d5⟩ := (hE.ext Xq).at j hjl
      refine ⟨⟨by omega, by omega⟩, b2, o2, hp2, _, d1, _, _, _, d2, _, _, _, d3, fun b11 w11 hb11 => hb11.blk.st3 rfl fun w12 B11 u11 => ?_⟩
      have e11 := hb11.eq
      have X12 : Ext wq w12 := hb11.ext.loc (by omega) u11
      have hcap := cap2_le (sumN (ns.take k) + sumE (ns[k].es.take j))
      refine ⟨_, _, _, B11.cell 1 rfl, inI64 (by omega) (by omega), _, _, _, B11.cell 2 rfl, inI64 (by omega) (by omega), inI64 (by omega) (by omega), _, ?_, j + 1, by omega, rfl, hjl, ?_, Xq.thn X12⟩
      · omega
      · rw [cap2_add, List.take_succ_eq_append_getElem hjl, sumE_snoc, Nat.add_assoc]
    · have q3 := of_decide_eq_false q3
      obtain rfl : j = ns[k].es.length := by omega
      refine ⟨inI64 (by omega) (by omega), _, ?_, k + 1, by omega, rfl, hkl, ?_, ?_, X.thn Xq⟩
      · omega
      · rw [List.take_succ_eq_append_getElem hkl, sumN_snoc, List.take_length]
      · rw [List.take_succ_eq_append_getElem hkl]
        intro n hn
        rcases List.mem_append.1 hn with hn | hn
        · exact hall n hn
        · rw [List.mem_singleton.1 hn]; exact hnk
  have q1 := of_decide_eq_false q1
  obtain rfl : k = ns.length := by omega
  rw [List.take_length] at hall ⊢
  have hw : writeOk ns ms := ⟨hall, hmk⟩
  have hT := hT hw
  have hfit := fits_of hl hm hw
  have hsum := sum_long (ms := ms) hl
  refine brr (fun q2 => ?_) fun q2 b62 w62 hb62 => ?_
  · have q2 := of_decide_eq_true q2
    refine encr_bad ?_ (by decide) Xl
    unfold encCode
    rw [if_neg fun k => k hw, if_pos]
    unfold cap2 at q2
    split at q2 <;> omega
  have e62 := hb62.eq
  have z30 := X30.size
  have z62 := hb62.size
  have hmlen := marksOk_len ms 96 hmk (by decide)
  have W0 : Wr w62 b62 none [] := ⟨none, 0, hb62.blk, own_nil _ _ _ _, rfl, fun e => (by cases e), fun x hx => by cases hx⟩
  have hEl : (encS ns cur ms).length = 9 + ((ns.drop 1).flatMap encN).length + (ms.flatMap encM).length := by
    unfold encS; simp only [List.length_append, putN_len, List.length_cons]; omega
  refine (num_does W0 (n := (ns.length : Int)) ⟨by omega, by omega⟩ (by simp)).imp ?_
  rintro e w66 ⟨rfl, r1, g1, g2, g3⟩
  have X62 := Xl.thn hb62.ext
  have zl := Xl.size
  have big : ∀ {z rb}, (∀ z, WT b62 rb z → WT b62 none z ∨ w62.heap.size ≤ z) → WT b62 rb z → w30.heap.size ≤ z := fun hh hz => by
    have := X.size
    rcases hh _ hz with h | h
    · rcases h with h | h
      · omega
      · cases h
    · omega
  have g3' : ∀ z, WT b62 r1 z → WT b62 none z ∨ w62.heap.size ≤ z := g3
  have X66 : Ext w21 w66 := Upd.then X62 g2 fun z hz e => by
    rcases e with e | e
    · omega
    · cases e
  refine ⟨rfl, (current_does (h.ext X66) hn).imp ?_⟩
  rintro e w69 ⟨rfl, rfl⟩
  refine ⟨_, rfl, (num_does g1 hfit.cur (by simp [putN_len])).imp ?_⟩
  rintro e w70 ⟨rfl, r2, k1, k2, k3⟩
  have k3' : ∀ z, WT b62 r2 z → WT b62 none z ∨ w62.heap.size ≤ z := fun z hz => by
    rcases k3 z hz with h | h
    · exact g3' z h
    · exact .inr (Nat.le_trans g2.size h)
  have X70 : Ext w21 w70 := Upd.then X66 k2 fun z hz e => by have := big g3' e; omega
  have k2' : Ext w30 w70 := Upd.then (Upd.then (X.thn hb62.ext) g2 fun z hz e => by
    have := X.size
    rcases e with e | e
    · omega
    · cases e) k2 fun z hz e => by have := big g3' e; omega
  have hsub : ∀ {wq}, Ext w30 wq → Nodes wq (fun g => w26.heap.size ≤ g ∧ g < w30.heap.size) (subp p30 ((1 : Int).toNat) c30 3) (ns.drop 1) := fun x => by
    have := (hN.ext x).sub 1 ns.length c30 (OwnL.cap o30)
    rwa [List.take_length] at this
  have hdl : ns.length - ((1 : Int).toNat) = (ns.drop 1).length := by rw [List.length_drop]; rfl
  -- the nodes
  refine ⟨rfl, ⟨by decide, by omega⟩, fun x74 nl wl => ∃ (k : Nat) (rk : Option Nat), x74 = k ∧ nl = (ns.drop 1).length - k ∧ k ≤ (ns.drop 1).length ∧ Wr wl b62 rk (putN ns.length ++ putN cur ++ ((ns.drop 1).take k).flatMap encN) ∧ (∀ z, WT b62 rk z → WT b62 none z ∨ w62.heap.size ≤ z) ∧ Ext w21 wl ∧ Ext w30 wl ∧ w62.heap.size ≤ wl.heap.size,
    ⟨_, 0, r2, rfl, rfl, Nat.zero_le _, by simpa using k1, k3', X70, k2', Nat.le_trans g2.size k2.size⟩, ?_⟩
  rintro _ _ wk ⟨k, rk, rfl, rfl, hkn, hW, hP, Xk, Xk30, zk62⟩
  have wkb : ∀ {z}, WT b62 rk z → w30.heap.size ≤ z := fun hz => big hP hz
  rw [hdl]
  refine brr (fun q3 => ?_) fun q3 => ?_
  · have q3 := of_decide_eq_true q3
    have hkl : k < (ns.drop 1).length := by omega
    obtain ⟨b1, o1, p1, c1, hp, hb1, a1, a2, a3, i1, i2, i3, hE⟩ := (hsub Xk30).at k hkl
    refine ⟨⟨by omega, by omega⟩, b1, o1, hp, _, a1, _, _, _, a2, _, a3, fun b14 w14 hb14 => hb14.blk.st3 rfl fun w15 B14 u14 => ?_⟩
    have e14 := hb14.eq
    have X15 : Ext wk w15 := hb14.ext.loc (by omega) u14
    have zk := Xk30.size
    have htot := flat_take_le encN (ns.drop 1) (k + 1)
    rw [take_flat encN hkl, List.length_append] at htot
    refine ⟨_, B14.cell 0 rfl, _, _, _, B14.cell 1 rfl, _, B14.cell 2 rfl, (nodew_does (hW.ext X15) (n := (ns.drop 1)[k]) (hE.ext X15) (fun z hz => ⟨by have := X15.size; omega, fun e => by have := wkb e; omega⟩) _ (hfit.nodes _ (List.getElem_mem hkl)) (by simp only [List.length_append, putN_len]; omega)).imp ?_⟩
    rintro e w80 ⟨rfl, r3, m1, m2, m3⟩
    refine ⟨rfl, inI64 (by omega) (by omega), _, ?_, k + 1, r3, by omega, rfl, hkl, ?_, fun z hz => ?_, Upd.then (Xk.thn X15) m2 fun z hz e => by have := wkb e; omega, Upd.then (Xk30.thn X15) m2 fun z hz e => by have := wkb e; omega, Nat.le_trans zk62 (Nat.le_trans X15.size m2.size)⟩
    · omega
    · rw [take_flat encN hkl, ← List.append_assoc]; exact m1
    · rcases m3 z hz with h | h
      · exact hP z h
      · exact .inr (by have := X15.size; omega)
  have q3 := of_decide_eq_false q3
  obtain rfl : k = (ns.drop 1).length := by omega
  rw [List.take_length] at hW
  -- how many marks
  obtain ⟨p86, c86, hcell⟩ : ∃ p c, wk.cell? ⟨b62, 0, none⟩ = some (.slice p (putN ns.length ++ putN cur ++ (ns.drop 1).flatMap encN).length c) := by
    obtain ⟨p, c, h1, _⟩ := hW
    exact ⟨p, c, h1.cell 0 rfl⟩
  refine ⟨p86, _, c86, hcell, fun b90 w90 hb90 => ?_⟩
  have hwrap : IntKind.wrap .u8 ((ms.length : Int)) = (ms.length : Int) := wrap_in ⟨by show (0 : Int) ≤ _; omega, by show _ ≤ (255 : Int); omega⟩
  rw [hwrap] at hb90
  have hI90 := hb90.ints (k := .u8) [(ms.length : Int)] rfl (by intro x hx; rw [List.mem_singleton.1 hx]; exact ⟨by show (0 : Int) ≤ _; omega, by show _ ≤ (255 : Int); omega⟩)
  obtain ⟨q, lq, cq, e1, q', l', c'', w91, hr91, hc91, hk91⟩ := wr_app (hW.ext hb90.ext) hI90 (l2 := 1) rfl 1 (by simp only [List.length_append, putN_len, List.length_singleton]; omega)
  have e1' := hb90.ext.cell hcell
  rw [e1'] at e1
  injection e1 with e1
  injection e1 with e2 e3 e4
  subst e2 e3 e4
  refine ⟨q', l', c'', w91, hr91, hc91, fun ws hst => ?_⟩
  obtain ⟨r5, n1, n2, n3⟩ := hk91 ws hst
  have z90 := hb90.ext.size
  have hP5 : ∀ z, WT b62 r5 z → WT b62 none z ∨ w62.heap.size ≤ z := fun z hz => by
    rcases n3 z hz with h | h
    · exact hP z h
    · exact .inr (by omega)
  have X5 : Ext w21 ws := Upd.then (Xk.thn hb90.ext) n2 fun z hz e => by have := wkb e; omega
  have zs5 := n2.size
  -- the marks
  refine ⟨fun x96 nl wl => ∃ (k : Nat) (rk : Option Nat), x96 = k ∧ nl = ms.length - k ∧ k ≤ ms.length ∧ Wr wl b62 rk (putN ns.length ++ putN cur ++ (ns.drop 1).flatMap encN ++ [(ms.length : Int)] ++ (ms.take k).flatMap encM) ∧ (∀ z, WT b62 rk z → WT b62 none z ∨ w62.heap.size ≤ z) ∧ Ext w21 wl ∧ w62.heap.size ≤ wl.heap.size,
    ⟨_, 0, r5, rfl, rfl, Nat.zero_le _, by simpa using n1, hP5, X5, by omega⟩, ?_⟩
  rintro _ _ wm ⟨k, rm, rfl, rfl, hkm, hWm, hPm, Xm, zm⟩
  have wmb : ∀ {z}, WT b62 rm z → w30.heap.size ≤ z := fun hz => big hPm hz
  have z3021 := X30.size
  refine brr (fun q4 => ?_) fun q4 => ?_
  · have q4 := of_decide_eq_true q4
    have hkl : k < ms.length := by omega
    obtain ⟨b98, o98, hp, hb98, h1, h2, h3, h4⟩ := (hk.ext Xm).at k hkl
    refine ⟨⟨by omega, by omega⟩, b98, o98, hp, _, h1, _, h2, fun b16 w16 hb16 => hb16.blk.st2 rfl fun w17 B16 u16 wd hd => ?_⟩
    have e16 := hb16.eq
    have X17 : Ext wm wd := (hb16.ext.loc (by omega) u16).thn hd.ext
    have Bd := B16.ext hd.ext
    have hWd := hWm.ext X17
    have hfl : (putN ns.length ++ putN cur ++ (ns.drop 1).flatMap encN ++ [(ms.length : Int)] ++ (ms.take k).flatMap encM).length = 9 + ((ns.drop 1).flatMap encN).length + ((ms.take k).flatMap encM).length := by
      simp only [List.length_append, putN_len, List.length_singleton]; omega
    have htot := flat_take_le encM ms (k + 1)
    rw [take_flat encM hkl, List.length_append, show (encM ms[k]).length = 5 from rfl] at htot
    obtain ⟨p104, c104, hcd⟩ : ∃ p c, wd.cell? ⟨b62, 0, none⟩ = some (.slice p (putN ns.length ++ putN cur ++ (ns.drop 1).flatMap encN ++ [(ms.length : Int)] ++ (ms.take k).flatMap encM).length c) := by
      obtain ⟨p, c, h1, _⟩ := hWd
      exact ⟨p, c, h1.cell 0 rfl⟩
    refine ⟨fun wz => Ext wd wz, Upd.refl _ _, p104, _, c104, fun wz hz => hz.cell hcd, _, Bd.cell 0 rfl, fun b107 w107 hb107 => ⟨hb107.ext, ?_⟩⟩
    have hI107 := hb107.ints (k := .u8) [ms[k].1] rfl (by intro x hx; rw [List.mem_singleton.1 hx]; exact h3)
    obtain ⟨q, lq, cq, e1, q', l', c'', w108, hr108, hc108, hk108⟩ := wr_app (hWd.ext hb107.ext) hI107 (l2 := 1) rfl 1 (by rw [hfl, List.length_singleton]; omega)
    have e1' := hb107.ext.cell hcd
    rw [e1'] at e1
    injection e1 with e1
    injection e1 with e2 e3 e4
    subst e2 e3 e4
    refine ⟨q', l', c'', w108, hr108, hc108, fun ws1 hst1 => ?_⟩
    obtain ⟨r6, y1, y2, y3⟩ := hk108 ws1 hst1
    have nb16 : ¬ WT b62 rm b16 := fun e => by have := hWm.lt e; omega
    have B16' := (Bd.ext hb107.ext).upd y2 nb16
    have hmk' := (marksOk_at ms 96 hmk _ (List.getElem_mem hkl)).1
    refine ⟨_, B16'.cell 1 rfl, (num_does y1 (n := ms[k].2) ⟨hmk'.1, by have := hmk'.2; omega⟩ (by rw [List.length_append, hfl, List.length_singleton]; omega)).imp ?_⟩
    rintro e w114 ⟨rfl, r7, v1, v2, v3⟩
    have zd := X17.size
    have z107 := hb107.ext.size
    have zy := y2.size
    refine ⟨rfl, inI64 (by omega) (by omega), _, ?_, k + 1, r7, by omega, rfl, hkl, ?_, fun z hz => ?_, ?_, by have := v2.size; omega⟩
    · omega
    · rw [take_flat encM hkl, ← List.append_assoc, show encM ms[k] = [ms[k].1] ++ putN ms[k].2 from rfl, ← List.append_assoc]; exact v1
    · rcases v3 z hz with h | h
      · rcases y3 z h with h | h
        · exact hPm z h
        · exact .inr (by omega)
      · exact .inr (by omega)
    · refine Upd.then (Upd.then ((Xm.thn X17).thn hb107.ext) y2 fun z hz e => by have := wmb e; omega) v2 fun z hz e => ?_
      rcases y3 z e with h | h
      · have := wmb h; omega
      · omega
  have q4 := of_decide_eq_false q4
  obtain rfl : k = ms.length := by omega
  rw [List.take_length] at hWm
  have hout : putN ns.length ++ putN cur ++ (ns.drop 1).flatMap encN ++ [(ms.length : Int)] ++ ms.flatMap encM = encS ns cur ms := by
    unfold encS
    rw [List.append_assoc _ [(ms.length : Int)]]; rfl
  rw [hout] at hWm
  obtain ⟨p, c, M1, M2, M3, M4, M5⟩ := hWm
  refine ⟨_, _, _, M1.cell 0 rfl, brr (fun q5 => ?_) fun q5 => ⟨_, _, _, M1.cell 0 rfl, ?_⟩⟩
  · have q5 := of_decide_eq_true q5
    exact encr_bad (by unfold encCode; rw [if_neg fun k => k hw, if_pos (by omega)]) (by decide) Xm
  · have q5 := of_decide_eq_false q5
    have hcode : encCode ns cur ms = 0 := by unfold encCode; rw [if_neg fun k => k hw, if_neg (by omega)]
    have hout' : encOut ns cur ms = encS ns cur ms := by unfold encOut; rw [if_pos hcode]
    refine ⟨⟨p, c, by rw [hcode, hout'], by rw [hout']; exact M2.cap.1, ?_⟩, Xm⟩
    rw [hout']
    have hI := (M2.any M5)
    intro i hi
    obtain ⟨b', o', e1, _, e3⟩ := hI i hi
    refine ⟨b', o', e1, ?_, e3⟩
    have := wmb (.inr (by rw [← M3, e1]; rfl) : WT b62 rm b')
    omega
end
end Go.Proofs.Ytlenmnffdbgkkaa
