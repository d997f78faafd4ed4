/-
  Expressions: the document's reader: factors, whole texts.
-/
import Derived.Test.YtacinpadiiabjaaGreatDoorRefRun2
import Derived.Test.YtacinpadiiabjaaGreatDoorCalcLaws
namespace Go.Vc
theorem tk2_len {p l r : List Int} (h : tk2 p l = some r) : r.length + p.length < l.length := by
  unfold tk2 at h
  cases h1 : tk p l with
  | none => rw [h1] at h; cases h
  | some q =>
    rw [h1] at h
    have a := tk_len h1
    have b := tk_len h
    simp only [List.length_cons, List.length_nil] at b
    omega
end Go.Vc
namespace Go.Proofs.YtacinpadiiabjaaGreatDoor
open Go.RowKit Go.Vc
section
variable {w0 : World} {b : Nat} {s : ByteArray} (hsz : s.size ≤ 4096)
include hsz in
/-- Factors. -/
theorem rfact_does : ∀ n, RDoes w0 b s 86 n (factN n)
  | 0 => fun w a d h hc => by have := hc.1; omega
  | n + 1 => fun w a d h hc => by
    have hF := rfact_does n
    have hS := factN_short n
    have hE : RDoes w0 b s 35 n (exprN n) := rsum_does hsz hF hS
    have hSE : Short (exprN n) := exprP_short hS
    obtain ⟨c1, c2, c3⟩ := hc
    have c2' : -1099511627776 ≤ d + 1 := by omega
    have cond : ∀ {r : List Int} {a' : Nat} {p : List Int}, tk p (rest s a) = some r → 1 ≤ p.length → rest s a' = r → (rest s a').length < n := fun ht hp hr => by
      have := tk_len ht
      rw [hr]; omega
    have cond2 : ∀ {r : List Int} {a' : Nat} {p : List Int}, tk2 p (rest s a) = some r → rest s a' = r → (rest s a').length < n := fun ht hr => by
      have := tk2_len ht
      rw [hr]; omega
    rw [fact_succ, ← factorR_eq]
    refine f86_does _ ⟨b, 0, rfl, _, h.blk.cell 3 rfl, fls rfl (is_step hsz _ (lp := [45]) (by decide) (l := rest s a) rfl h (fun r a1 w1 t1 hr1 st1 => ?_) fun t1 a1 w1 hr1 st1 => ?_)⟩
    · have e : factorR (exprN n) (factN n) (rest s a) = up id (mapR negC (factN n r)) := by unfold factorR; rw [t1, ← up_map]
      rw [e, ← hr1]
      exact (rdeeper_does st1 c2 c3 fun w' st' => within_minus hF st' (cond t1 (by simp) hr1) c2').imp fun e w' q => q.pass
    refine is_step hsz _ (lp := [40]) (by decide) (l := rest s a) (by rw [hr1, skip_skip]) st1 (fun r a2 w2 t2 hr2 st2 => ?_) fun t2 a2 w2 hr2 st2 => ?_
    · have e : factorR (exprN n) (factN n) (rest s a) = up id (closedP (exprN n) r) := by unfold factorR; rw [t1]; simp only [t2]
      rw [e, ← hr2]
      exact (rdeeper_does st2 c2 c3 fun w' st' => within_paren hsz hE st' (cond t2 (by simp) hr2) c2').imp fun e w' q => q.pass
    refine rcall_step hsz _ (lp := [109, 105, 110]) (by decide) (l := rest s a) (by rw [hr2, skip_skip]) st2 (fun r a3 w3 t3 hr3 st3 => ?_) fun t3 w3 st3 => ?_
    · have e : factorR (exprN n) (factN n) (rest s a) = up id (twoP (exprN n) minC r) := by unfold factorR minR; rw [t1]; simp only [t2]; rw [t3]
      rw [e, ← hr3]
      exact (rdeeper_does st3 c2 c3 fun w' st' => within_min hsz hE hSE st' (cond2 t3 hr3) c2').imp fun e w' q => q.pass
    refine rcall_step hsz _ (lp := [109, 97, 120]) (by decide) (l := rest s a) (by rw [hr2, skip_skip]) st3 (fun r a4 w4 t4 hr4 st4 => ?_) fun t4 w4 st4 => ?_
    · have e : factorR (exprN n) (factN n) (rest s a) = up id (twoP (exprN n) maxC r) := by unfold factorR minR maxR; rw [t1]; simp only [t2]; rw [t3]; simp only [t4]
      rw [e, ← hr4]
      exact (rdeeper_does st4 c2 c3 fun w' st' => within_max hsz hE hSE st' (cond2 t4 hr4) c2').imp fun e w' q => q.pass
    refine rcall_step hsz _ (lp := [97, 98, 115]) (by decide) (l := rest s a) (by rw [hr2, skip_skip]) st4 (fun r a5 w5 t5 hr5 st5 => ?_) fun t5 w5 st5 => ?_
    · have e : factorR (exprN n) (factN n) (rest s a) = up id (mapR absC (closedP (exprN n) r)) := by unfold factorR minR maxR absR; rw [t1]; simp only [t2]; rw [t3]; simp only [t4]; rw [t5, ← up_map]
      rw [e, ← hr5]
      exact (rdeeper_does st5 c2 c3 fun w' st' => within_abs hsz hE st' (cond2 t5 hr5) c2').imp fun e w' q => q.pass
    have et : factorR (exprN n) (factN n) (rest s a) = tailR (rest s a) := by unfold factorR minR maxR absR; rw [t1]; simp only [t2]; rw [t3]; simp only [t4]; rw [t5]
    rw [et]
    have d0 : d + ((0 : Nat) : Int) ≤ 32 := by omega
    refine is_step hsz _ (lp := [110, 97, 110]) (by decide) (l := rest s a) (by rw [hr2, skip_skip]) st5 (fun r a6 w6 t6 hr6 st6 => ?_) fun t6 a6 w6 hr6 st6 => ?_
    · have e : tailR (rest s a) = some (none, 0, r) := by unfold tailR; rw [t6]
      rw [e]
      exact nan_does fun f hf hc => ⟨f, rfl, f, a6, 0, rfl, hf, st6, .inl ⟨_, _, _, rfl, d0, rfl, hc, hr6⟩⟩
    refine is_step hsz _ (lp := [105, 110, 102]) (by decide) (l := rest s a) (by rw [hr6, skip_skip]) st6 (fun r a7 w7 t7 hr7 st7 => ?_) fun t7 a7 w7 hr7 st7 => ?_
    · have e : tailR (rest s a) = some (some infW, 0, r) := by unfold tailR; rw [t6]; simp only [t7]
      rw [e]
      exact inf_does ⟨infW, rfl, infW, a7, 0, rfl, by unfold Wd; decide, st7, .inl ⟨_, _, _, rfl, d0, rfl, by decide, hr7⟩⟩
    have e : tailR (rest s a) = numP (rest s a7) := by
      unfold tailR; rw [t6]; simp only [t7]
      rw [hr7]; unfold numP; rw [skip_skip]
    rw [e]
    have hsk : skip (rest s a7) = rest s a7 := by rw [hr7, skip_skip]
    have hal := st7.le
    have hrl := rest_len (s := s) a7
    refine ⟨b, 0, rfl, _, st7.blk.cell 1 rfl, fun n wl => ∃ j, n = s.size - (a7 + j) ∧ (∀ x ∈ (rest s a7).take j, isNum x = true) ∧ j ≤ (rest s a7).length ∧ RS w0 b s wl (a7 + j) d 0, ⟨_, 0, rfl, fun x hx => by simp at hx, Nat.zero_le _, st7⟩, ?_⟩
    rintro _ wl ⟨j, rfl, hall, hjl, hst⟩
    intro wd hd
    have hst := hst.move hd.ext
    have hle := hst.le
    have go : a7 + j < s.size → isNum (sb s ((a7 + j : Nat) : Int)) = true → ∀ {w1 : World}, RS w0 b s w1 (a7 + j) d 0 → ∃ b83 o83, (some ⟨b, 0, none⟩ : Option Addr) = some ⟨b83, o83, none⟩ ∧ ∃ n85 : Int, w1.cell? ⟨b83, o83 + 1, none⟩ = some (.int .i64 n85) ∧ InK .i64 (n85 + 1) ∧ ∃ b87 o87, (some ⟨b, 0, none⟩ : Option Addr) = some ⟨b87, o87, none⟩ ∧ CanStore w1 b87 (o87 + 1) ∧ ∀ ws, Stored w1 b87 (o87 + 1) (.int .i64 (n85 + 1)) ws →
        ∃ ml2, ml2 < s.size - (a7 + j) ∧ ∃ j', ml2 = s.size - (a7 + j') ∧ (∀ x ∈ (rest s a7).take j', isNum x = true) ∧ j' ≤ (rest s a7).length ∧ RS w0 b s ws (a7 + j') d 0 := fun hlt hn {w1} st1 => by
      refine ⟨b, 0, rfl, _, st1.blk.cell 1 rfl, inI64 (by omega) (by omega), b, 0, rfl, st1.blk.can 1 (by simp), fun ws hs => ⟨s.size - (a7 + (j + 1)), by omega, j + 1, rfl, fun x hx => ?_, by omega, st1.at (a' := a7 + (j + 1)) (by rw [show ((a7 + (j + 1) : Nat) : Int) = ((a7 + j : Nat) : Int) + 1 by omega]; exact hs) (by omega)⟩⟩
      have hjl : j < (rest s a7).length := by omega
      rw [List.take_succ_eq_append_getElem hjl] at hx
      rcases List.mem_append.1 hx with hx | hx
      · exact hall x hx
      · have : (rest s a7)[j] = sb s ((a7 + j : Nat) : Int) := by
          have h1 := rest_cons hlt
          rw [rest_add, List.drop_eq_getElem_cons hjl] at h1
          exact (List.cons.inj h1).1
        simp only [List.mem_singleton] at hx
        rw [hx, this]; exact hn
    have stop : (∀ x r, rest s (a7 + j) = x :: r → isNum x = false) → ∀ {w1 : World}, RS w0 b s w1 (a7 + j) d 0 → ∀ wd20, Drew w1 wd20 →
        ∃ b91 o91, (some ⟨b, 0, none⟩ : Option Addr) = some ⟨b91, o91, none⟩ ∧ ∃ s93 : ByteArray, wd20.cell? ⟨b91, o91, none⟩ = some (.string s93) ∧ ∃ b96 o96, (some ⟨b, 0, none⟩ : Option Addr) = some ⟨b96, o96, none⟩ ∧ ∃ n98 : Int, wd20.cell? ⟨b96, o96 + 1, none⟩ = some (.int .i64 n98) ∧ ((0 : Int) ≤ n98 ∧ n98 ≤ (s93.size : Int)) ∧ ((0 : Int) ≤ (a7 : Int) ∧ (a7 : Int) ≤ n98) ∧ Does Tryz.prog 110 #[.string (s93.extract (((a7 : Int)).toNat) ((n98).toNat))] wd20 fun e100 w100 =>
        ∃ f100 : Nat, ∃ b100 : Bool, e100 = .returned (.tuple #[.float .f64 f100, .bool b100]) ∧ Br (!b100)
        (Does Tryz.prog 111 #[.pointer (some ⟨b, 0, none⟩), .int .i64 11] w100 fun e106 w106 =>
        ∃ f106 : Nat, e106 = .returned (.float .f64 f106) ∧ RQ w0 b s (numP (rest s a7)) d (.returned (.float .f64 f106)) w106)
        (RQ w0 b s (numP (rest s a7)) d (.returned (.float .f64 f100)) w100) := fun hstop {w1} st1 wd20 hd20 => by
      have st1 := st1.move hd20.ext
      have htw : (rest s a7).takeWhile isNum = (rest s a7).take j := by
        have hsplit : rest s a7 = (rest s a7).take j ++ rest s (a7 + j) := by rw [rest_add, List.take_append_drop]
        conv => lhs; rw [hsplit]
        have tw : ∀ q r : List Int, (∀ x ∈ q, isNum x = true) → (q ++ r).takeWhile isNum = q ++ r.takeWhile isNum := fun q r => by
          induction q with
          | nil => intro _; rfl
          | cons y t ih => intro hy; rw [List.cons_append, List.takeWhile_cons, if_pos (hy y List.mem_cons_self), ih fun x hx => hy x (List.mem_cons_of_mem _ hx)]; rfl
        rw [tw _ _ hall]
        cases hr : rest s (a7 + j) with
        | nil => simp
        | cons x r => rw [List.takeWhile_cons, hstop x r hr]; simp
      have hnum : numP (rest s a7) = match decC ((rest s a7).take j) with
        | none => none
        | some c => some (c, 0, (rest s a7).drop j) := by
        unfold numP
        rw [hsk, htw, List.length_take, Nat.min_eq_left hjl]
        cases decC ((rest s a7).take j) <;> rfl
      refine ⟨b, 0, rfl, s, st1.blk.cell 0 rfl, b, 0, rfl, _, st1.blk.cell 1 rfl, ⟨by omega, by omega⟩, ⟨by omega, by omega⟩, ?_⟩
      rw [Int.toNat_natCast, Int.toNat_natCast]
      have hL : L (s.extract a7 (a7 + j)) = (rest s a7).take j := by
        rw [L_sub hle, ← List.take_drop]; rfl
      have hsz2 : (s.extract a7 (a7 + j)).size ≤ 1000000 := by rw [← L_len, hL, List.length_take]; omega
      refine (rdec_does _ hsz2 (by rw [hL]; exact hall)).imp ?_
      rintro e w100 ⟨f, bo, rfl, hf, hm, x100⟩
      have st1 := st1.move x100
      rw [hL] at hm
      refine ⟨f, bo, rfl, ?_⟩
      cases bo with
      | true =>
        rw [if_pos rfl] at hm
        rw [hnum, hm]
        exact fls rfl ⟨f, a7 + j, 0, rfl, hf, st1, .inl ⟨_, _, _, rfl, d0, rfl, rfl, rest_add _ _⟩⟩
      | false =>
        rw [if_neg (by simp)] at hm
        rw [hnum, hm]
        exact tru rfl (rfail_does (G := fun f w => RQ w0 b s none d (.returned (.float .f64 f)) w) st1 fun w' st' => ⟨0, _, 11, rfl, wd_zero, st', .inr ⟨by decide, fun c k r e => by cases e⟩⟩)
    refine ⟨fun z => z = wd, rfl, b, 0, rfl, _, hst.blk.cell 1 rfl, b, 0, rfl, _, hst.blk.cell 0 rfl, brr (fun q => ?_) fun q => stop ?_ hst⟩
    · have q := of_decide_eq_true q
      have hlt : a7 + j < s.size := by omega
      have hrc := rest_cons hlt
      refine ⟨b, 0, rfl, _, hst.blk.cell 0 rfl, b, 0, rfl, _, hst.blk.cell 1 rfl, ⟨by omega, by omega⟩, digit_does _ ⟨_, rfl, rfl, brr (fun q2 => go hlt ?_ hst) fun q2 => ⟨b, 0, rfl, s, fun z e => by rw [e]; exact hst.blk.cell 0 rfl, b, 0, rfl, _, fun z e => by rw [e]; exact hst.blk.cell 1 rfl, ⟨by omega, by omega⟩, brr (fun q3 => go hlt ?_ hst) fun q3 => stop ?_ hst⟩⟩⟩
      · unfold isNum; unfold isDig at q2; rw [q2, Bool.or_true]
      · exact (isNum_iff _).2 (.inl (by simpa using q3))
      · intro x r hr
        rw [hrc] at hr
        obtain ⟨rfl, _⟩ := List.cons.inj hr
        unfold isNum; unfold isDig at q2; rw [q2, Bool.or_false]; exact q3
    · have q := of_decide_eq_false q
      intro x r hr
      rw [rest_end (by omega)] at hr; cases hr
end
variable {w : World}
theorem rread_does {b : Nat} {s : ByteArray} (hsz : s.size ≤ 4096) {d : Int} (h1 : -1099511627776 ≤ d) (h2 : d ≤ 32) (hb : Blk w b [.string s, .int .i64 0, .int .i64 d, .int .i64 0]) : Does Tryz.prog 35 #[.pointer (some ⟨b, 0, none⟩)] w (RQ w b s (exprN FU (L s)) d) := by
  have st0 : RS w b s w 0 d 0 := ⟨hb, Nat.zero_le _, Upd.refl _ _⟩
  have hl := L_len s
  exact rsum_does hsz (rfact_does hsz FU) (factN_short FU) w 0 d st0 ⟨by show (L s).length < 5000; omega, h1, h2⟩
theorem shape_does {s : ByteArray} (hsz : s.size ≤ 4096) : Does Tryz.prog 34 #[.string s] w fun e w' => e = .returned (.bool (evalN FU (L s)).isSome) ∧ Ext w w' := by
  refine f34_does _ fun b w6 n6 => ?_
  have hge : w.heap.size ≤ b := by rw [n6.eq]; exact Nat.le_refl _
  refine (rread_does hsz (by decide) (by decide) n6.blk).imp ?_
  rintro e w8 ⟨f, a', bad, rfl, hf, st, v⟩
  refine ⟨f, rfl, (rblank_does hsz st).imp ?_⟩
  rintro e w10 ⟨rfl, a2, hr2, st2⟩
  refine ⟨rfl, _, st2.blk.cell 3 rfl, ?_⟩
  have x : Ext w w10 := Ext.loc n6.ext hge st2.ext
  rcases v with ⟨c, k, r, hx, hk, rfl, hc, hra⟩ | v
  · refine tru rfl ⟨_, st2.blk.cell 1 rfl, ?_, x⟩
    have hend : ((a2 : Int) == (s.size : Int)) = decide (skip r = []) := by
      have h1 := rest_len (s := s) a2
      have h2 := st2.le
      rw [← hra, ← hr2, Bool.eq_iff_iff, beq_iff_eq, decide_eq_true_eq]
      constructor
      · intro h; exact rest_end (by omega)
      · intro h; rw [h] at h1; simp at h1; omega
    rw [hend]
    unfold evalN
    rw [hx]
    simp only
    by_cases hsk : skip r = []
    · rw [if_pos hsk, decide_eq_true hsk]; rfl
    · rw [if_neg hsk, decide_eq_false hsk]; rfl
  · refine fls (by simpa using v.1) ⟨?_, x⟩
    have : exprN FU (L s) = none := by
      cases hx : exprN FU (L s) with
      | none => rfl
      | some y =>
        obtain ⟨c, k, r⟩ := y
        have h1 := v.2 _ _ _ hx
        have h2 : k ≤ 5000 := exprN_deep FU _ _ _ _ hx
        omega
    unfold evalN
    rw [this]; rfl
/-- The document's value of a text. -/
theorem reval_does (s : ByteArray) : Does Tryz.prog 15 #[.string s] w fun e w' => ∃ f, e = .returned (.tuple #[.float .f64 f, .int .i64 (evalM (L s)).2]) ∧ Wd f ∧ cls f = (evalM (L s)).1 ∧ Ext w w' := by
  refine f15_does _ ?_
  have hl := L_len s
  have z0 : cls 0 = some 0 := by decide
  unfold evalM
  refine brr (fun q => ?_) fun q => ?_
  · have q := of_decide_eq_true q
    rw [if_pos (by omega)]
    exact ⟨0, rfl, wd_zero, z0, Upd.refl _ _⟩
  have q := of_decide_eq_false q
  rw [if_neg (by omega)]
  refine (shape_does (by omega)).imp ?_
  rintro e w10 ⟨rfl, x10⟩
  refine ⟨_, rfl, ?_⟩
  cases hv : evalN FU (L s) with
  | none => exact tru rfl ⟨0, rfl, wd_zero, z0, x10⟩
  | some y =>
    obtain ⟨c, m⟩ := y
    obtain ⟨r, hx, hr⟩ := eval_expr hv
    refine fls rfl fun b w14 n14 => ?_
    have hge : w10.heap.size ≤ b := by rw [n14.eq]; exact Nat.le_refl _
    refine (rread_does (by omega) (by decide) (by decide) n14.blk).imp ?_
    rintro e w16 ⟨f, a', bad, rfl, hf, st, v⟩
    have x16 : Ext w w16 := Ext.then x10 (Ext.loc n14.ext hge st.ext)
    refine ⟨f, rfl, _, st.blk.cell 3 rfl, ?_⟩
    rw [hx] at v
    rcases v with ⟨c', k, r', hx', hk, rfl, hc, hra⟩ | v
    · simp only [Option.some.injEq, Prod.mk.injEq] at hx'
      obtain ⟨rfl, rfl, rfl⟩ := hx'
      refine fls rfl ?_
      simp only
      rw [if_neg (by omega)]
      exact ⟨f, rfl, hf, hc, x16⟩
    · obtain ⟨h1, h2⟩ := v.2 _ _ _ rfl
      subst h2
      refine tru rfl fun wd hd => ⟨_, (st.move hd.ext).blk.cell 3 rfl, ?_⟩
      simp only
      rw [if_pos (by omega)]
      exact ⟨0, rfl, wd_zero, z0, Ext.then x16 hd.ext⟩
/-- Any text: its value, or what is wrong with it. -/
theorem evals_law (hT : Laid w) (s : ByteArray) : Does Tryz.prog 7 #[.string s] w (Holds w) := by
  refine f7_does _ ((awake_does hT).imp ?_)
  rintro e w9 ⟨rfl, x9⟩
  have hsl := L_len s
  refine ⟨_, rfl, fls rfl (brr (fun q => ?_) fun q => ?_)⟩
  · have q := of_decide_eq_true q
    refine (eval_does (hT.ext x9) s).imp ?_
    rintro e w16 ⟨f, rfl, _, _, x16⟩
    refine ⟨_, _, rfl, ?_⟩
    unfold evalM
    rw [if_pos (by omega)]
    exact ⟨rfl, Ext.then x9 x16⟩
  · refine (eval_does (hT.ext x9) s).imp ?_
    rintro e w23 ⟨f, rfl, hf, hc, x23⟩
    refine ⟨_, _, rfl, (reval_does s).imp ?_⟩
    rintro e w28 ⟨g, rfl, hg, hcg, x28⟩
    refine ⟨_, _, rfl, tru (by simp) (bits_does _ ⟨_, rfl, rbits_does _ ⟨_, rfl, ?_, Ext.then (Ext.then x9 x23) x28⟩⟩)⟩
    rw [cls_bits (hc.trans hcg.symm)]; simp
end Go.Proofs.YtacinpadiiabjaaGreatDoor
