/-
  Expressions: the document's reader, function by function: blanks, words, chains.
-/
import Derived.Test.YtacinpadiiabjaaGreatDoorRefDec
import Derived.Test.YtacinpadiiabjaaGreatDoorCalcRun2
namespace Go.Proofs.YtacinpadiiabjaaGreatDoor
open Go.RowKit Go.Vc
theorem wd_zero : Wd 0 := by unfold Wd; decide
/-- A reader's cells. -/
structure RS (w0 : World) (b : Nat) (s : ByteArray) (w : World) (a : Nat) (d e : Int) : Prop where
  blk : Blk w b [.string s, .int .i64 (a : Int), .int .i64 d, .int .i64 e]
  le : a ≤ s.size
  ext : Upd (fun z => z = b) w0 w
/-- It has failed: either there is no expression, or it is too deep. -/
def RBad (x : Res) (d bad : Int) : Prop := bad ≠ 0 ∧ ∀ c k r, x = some (c, k, r) → 32 < d + (k : Int) ∧ bad = 3
theorem RBad.to {x y : Res} {d bad : Int} (h : RBad x d bad) (hy : ∀ c' k' r', y = some (c', k', r') → ∃ c k r, x = some (c, k, r) ∧ k ≤ k') : RBad y d bad :=
  ⟨h.1, fun c' k' r' e => by
    obtain ⟨c, k, r, hx, hk⟩ := hy c' k' r' e
    have := h.2 c k r hx
    exact ⟨by omega, this.2⟩⟩
/-- What reading comes to. -/
def RQ (w0 : World) (b : Nat) (s : ByteArray) (x : Res) (d : Int) (e : Ending) (w' : World) : Prop :=
  ∃ f a' bad, e = .returned (.float .f64 f) ∧ Wd f ∧ RS w0 b s w' a' d bad ∧ ((∃ c k r, x = some (c, k, r) ∧ d + (k : Int) ≤ 32 ∧ bad = 0 ∧ cls f = c ∧ rest s a' = r) ∨ RBad x d bad)
def RC (s : ByteArray) (n a : Nat) (d : Int) : Prop := (rest s a).length < n ∧ -1099511627776 ≤ d ∧ d ≤ 32
def RDoes (w0 : World) (b : Nat) (s : ByteArray) (g : FuncId) (n : Nat) (F : List Int → Res) : Prop :=
  ∀ w a d, RS w0 b s w a d 0 → RC s n a d → Does Tryz.prog g #[.pointer (some ⟨b, 0, none⟩)] w (RQ w0 b s (F (rest s a)) d)
section
variable {w0 : World} {b : Nat} {s : ByteArray} (hsz : s.size ≤ 4096)
theorem RS.move {w w' : World} {a : Nat} {d e : Int} (h : RS w0 b s w a d e) (x : Ext w w') : RS w0 b s w' a d e := ⟨h.blk.ext x, h.le, Ext.then h.ext x⟩
theorem RS.at {w ws : World} {a a' : Nat} {d e : Int} (h : RS w0 b s w a d e) (hs : Stored w b 1 (.int .i64 (a' : Int)) ws) (ha : a' ≤ s.size) : RS w0 b s ws a' d e :=
  ⟨h.blk.store hs, ha, Upd.trans h.ext hs.upd⟩
theorem RS.dp {w ws : World} {a : Nat} {d e d' : Int} (h : RS w0 b s w a d e) (hs : Stored w b 2 (.int .i64 d') ws) : RS w0 b s ws a d' e :=
  ⟨h.blk.store hs, h.le, Upd.trans h.ext hs.upd⟩
theorem RS.bd {w ws : World} {a : Nat} {d e e' : Int} (h : RS w0 b s w a d e) (hs : Stored w b 3 (.int .i64 e') ws) : RS w0 b s ws a d e' :=
  ⟨h.blk.store hs, h.le, Upd.trans h.ext hs.upd⟩
theorem rfail_does {w : World} {a : Nat} {d e n : Int} (h : RS w0 b s w a d e) {G : Nat → World → Prop} (k : ∀ w', RS w0 b s w' a d (if e = 0 then n else e) → G 0 w') :
    Does Tryz.prog 111 #[.pointer (some ⟨b, 0, none⟩), .int .i64 n] w fun e' w' => ∃ f : Nat, e' = .returned (.float .f64 f) ∧ G f w' := by
  refine f111_does _ _ ⟨b, 0, rfl, _, h.blk.cell 3 rfl, brr (fun q => ⟨b, 0, rfl, h.blk.can 3 (by simp), fun ws hs => ⟨0, rfl, k _ ?_⟩⟩) fun q => ⟨0, rfl, k _ ?_⟩⟩
  · have q : e = 0 := by simpa using q
    rw [if_pos q]; exact h.bd hs
  · have q : e ≠ 0 := by simpa using q
    rw [if_neg q]; exact h
include hsz in
theorem rblank_does {w : World} {a : Nat} {d e : Int} (h : RS w0 b s w a d e) : Does Tryz.prog 57 #[.pointer (some ⟨b, 0, none⟩)] w fun en w' => en = .returned (.tuple #[]) ∧ ∃ a', rest s a' = skip (rest s a) ∧ RS w0 b s w' a' d e := by
  refine f57_does _ ⟨fun n wl => ∃ k, n = s.size - k ∧ skip (rest s k) = skip (rest s a) ∧ RS w0 b s wl k d e, ⟨_, a, rfl, rfl, h⟩, ?_⟩
  rintro _ wl ⟨k, rfl, hk, hst⟩
  intro wd hd
  have hst := hst.move hd.ext
  refine ⟨b, 0, rfl, _, hst.blk.cell 1 rfl, b, 0, rfl, _, hst.blk.cell 0 rfl, brr (fun q => ?_) fun q => ?_⟩
  · have q := of_decide_eq_true q
    have hlt : k < s.size := by omega
    have hc := rest_cons hlt
    refine ⟨b, 0, rfl, _, hst.blk.cell 0 rfl, b, 0, rfl, _, hst.blk.cell 1 rfl, ⟨by omega, by omega⟩, brr (fun q2 => ?_) fun q2 => ?_⟩
    · have q2 : sb s (k : Int) = 32 := by simpa using q2
      refine ⟨b, 0, rfl, _, hst.blk.cell 1 rfl, inI64 (by omega) (by omega), b, 0, rfl, hst.blk.can 1 (by simp), fun ws hs => ⟨s.size - (k + 1), by omega, k + 1, rfl, ?_, hst.at (a' := k + 1) hs (by omega)⟩⟩
      rw [← hk, hc, q2]; rfl
    · have q2 : sb s (k : Int) ≠ 32 := by simpa using q2
      refine ⟨rfl, k, ?_, hst⟩
      rw [← hk, hc, skip_keep q2]
  · have q := of_decide_eq_false q
    refine ⟨rfl, k, ?_, hst⟩
    rw [← hk, rest_end (by omega)]; rfl
include hsz in
theorem ris_does (p : ByteArray) {w : World} {a : Nat} {d e : Int} (h : RS w0 b s w a d e) : Does Tryz.prog 59 #[.pointer (some ⟨b, 0, none⟩), .string p] w fun en w' => ∃ a', RS w0 b s w' a' d e ∧
    ((∃ r, tk (L p) (rest s a) = some r ∧ rest s a' = r ∧ en = .returned (.bool true)) ∨ (tk (L p) (rest s a) = none ∧ rest s a' = skip (rest s a) ∧ en = .returned (.bool false))) := by
  refine f59_does _ _ ((rblank_does hsz h).imp ?_)
  rintro en w6 ⟨rfl, k, hk, hst⟩
  refine ⟨rfl, fun wd hd => ?_⟩
  have hst := hst.move hd.ext
  have hle := hst.le
  have hpl := L_len p
  have hrl := rest_len (s := s) k
  have no : (L p).isPrefixOf (skip (rest s a)) = false → ∃ a', RS w0 b s wd a' d e ∧
    ((∃ r, tk (L p) (rest s a) = some r ∧ rest s a' = r ∧ Ending.returned (.bool false) = .returned (.bool true)) ∨ (tk (L p) (rest s a) = none ∧ rest s a' = skip (rest s a) ∧ Ending.returned (.bool false) = .returned (.bool false))) := fun q =>
    ⟨k, hst, .inr ⟨by unfold tk; rw [q]; rfl, hk, rfl⟩⟩
  refine ⟨b, 0, rfl, _, hst.blk.cell 0 rfl, b, 0, rfl, _, hst.blk.cell 1 rfl, inI64 (by omega) (by omega), brr (fun q => no ?_) fun q => ?_⟩
  · have q := of_decide_eq_true q
    rw [Bool.eq_false_iff]
    intro c
    have := List.IsPrefix.length_le (List.isPrefixOf_iff_prefix.1 c)
    rw [← hk] at this
    omega
  · have q := of_decide_eq_false q
    refine ⟨b, 0, rfl, _, hst.blk.cell 0 rfl, b, 0, rfl, _, hst.blk.cell 1 rfl, b, 0, rfl, _, hst.blk.cell 1 rfl, inI64 (by omega) (by omega), ⟨by omega, by omega⟩, ⟨by omega, by omega⟩, ?_⟩
    rw [Int.toNat_natCast, show ((k : Int) + (p.size : Int)).toNat = k + p.size by omega, L_eq, L_sub (by omega), ← List.take_drop]
    have e1 : (L s).drop k = rest s k := rfl
    rw [e1, hk]
    refine brr (fun q2 => no ?_) fun q2 => ?_
    · have q2 : List.take p.size (skip (rest s a)) ≠ L p := by simpa using q2
      rw [Bool.eq_false_iff]
      intro c
      have := List.prefix_iff_eq_take.1 (List.isPrefixOf_iff_prefix.1 c)
      rw [hpl] at this
      exact q2 this.symm
    · have q2 : List.take p.size (skip (rest s a)) = L p := by simpa using q2
      have q3 : (L p).isPrefixOf (skip (rest s a)) = true := List.isPrefixOf_iff_prefix.2 (List.prefix_iff_eq_take.2 (by rw [hpl]; exact q2.symm))
      refine ⟨b, 0, rfl, _, hst.blk.cell 1 rfl, inI64 (by omega) (by omega), b, 0, rfl, hst.blk.can 1 (by simp), fun ws hs => ⟨k + p.size, hst.at (a' := k + p.size) (by rw [show ((k + p.size : Nat) : Int) = (k : Int) + (p.size : Int) by omega]; exact hs) (by omega), .inl ⟨_, by unfold tk; rw [q3]; rfl, ?_, rfl⟩⟩⟩
      rw [rest_add, hk, hpl]
include hsz in
theorem is_step (p : ByteArray) {lp : List Int} (hp : L p = lp) {w : World} {a : Nat} {d e : Int} {l : List Int} (hl : skip (rest s a) = skip l) (h : RS w0 b s w a d e) {A B : World → Prop}
    (h1 : ∀ r a' w', tk lp l = some r → rest s a' = r → RS w0 b s w' a' d e → A w') (h0 : tk lp l = none → ∀ a' w', rest s a' = skip l → RS w0 b s w' a' d e → B w') :
    Does Tryz.prog 59 #[.pointer (some ⟨b, 0, none⟩), .string p] w fun en w' => ∃ b5 : Bool, en = .returned (.bool b5) ∧ Br b5 (A w') (B w') := by
  subst hp
  refine (ris_does hsz p h).imp ?_
  rintro en w' ⟨a', hst, ⟨r, t, hr, rfl⟩ | ⟨t, hr, rfl⟩⟩
  · exact ⟨true, rfl, tru rfl (h1 r a' w' (by rw [← tk_inv hl]; exact t) hr hst)⟩
  · exact ⟨false, rfl, fls rfl (h0 (by rw [← tk_inv hl]; exact t) a' w' (by rw [hr, hl]) hst)⟩
include hsz in
theorem isnt_step (p : ByteArray) {lp : List Int} (hp : L p = lp) {w : World} {a : Nat} {d e : Int} {l : List Int} (hl : skip (rest s a) = skip l) (h : RS w0 b s w a d e) {A B : World → Prop}
    (h1 : ∀ r a' w', tk lp l = some r → rest s a' = r → RS w0 b s w' a' d e → A w') (h0 : tk lp l = none → ∀ a' w', rest s a' = skip l → RS w0 b s w' a' d e → B w') :
    Does Tryz.prog 59 #[.pointer (some ⟨b, 0, none⟩), .string p] w fun en w' => ∃ b5 : Bool, en = .returned (.bool b5) ∧ Br (!b5) (B w') (A w') := by
  refine (is_step hsz p hp hl h h1 h0).imp ?_
  rintro en w' ⟨b5, rfl, hb⟩
  refine ⟨b5, rfl, ?_⟩
  cases b5
  · exact tru rfl (hb.2 rfl)
  · exact fls rfl (hb.1 rfl)
/-- A chain of parts. -/
theorem rseq_gen (hsz : s.size ≤ 4096) {g : FuncId} {n : Nat} {F : List Int → Res} (hF : RDoes w0 b s g n F) (hS : Short F) {pa pb : ByteArray} {ca cb : Int} (ha : L pa = [ca]) (hbb : L pb = [cb]) {op1 op2 : BinOp} (ho1 : arithB op1 = true) (ho2 : arithB op2 = true) {w : World} {a : Nat} {d : Int} (h : RS w0 b s w a d 0) (hc : RC s n a d) :
    Does Tryz.prog g #[.pointer (some ⟨b, 0, none⟩)] w fun e5 w5 =>
    ∃ f5 : Nat, e5 = .returned (.float .f64 f5) ∧ ∃ I2 : Nat → Nat → World → Prop, (∃ nl2, I2 f5 nl2 w5) ∧ ∀ f3 : Nat, ∀ (nl2 : Nat) (wl2 : World), I2 f3 nl2 wl2 →
    ∃ b7 o7, (some ⟨b, 0, none⟩ : Option Addr) = some ⟨b7, o7, none⟩ ∧ ∃ n9 : Int, wl2.cell? ⟨b7, o7 + 3, none⟩ = some (.int .i64 n9) ∧ Br (n9 == 0)
    (Does Tryz.prog 59 #[.pointer (some ⟨b, 0, none⟩), .string pa] wl2 fun e14 w14 =>
    ∃ b14 : Bool, e14 = .returned (.bool b14) ∧ Br b14
    (Does Tryz.prog g #[.pointer (some ⟨b, 0, none⟩)] w14 fun e17 w17 =>
    ∃ f17 : Nat, e17 = .returned (.float .f64 f17) ∧ ∃ f18 : Nat, ∃ w18, (binOp op1 23 (.float .f64 f3) (.float .f64 f17)).run Tryz.prog w17 = .ok (.float .f64 f18) w18 ∧ ∃ ml2, ml2 < nl2 ∧ I2 f18 ml2 w18)
    (Does Tryz.prog 59 #[.pointer (some ⟨b, 0, none⟩), .string pb] w14 fun e21 w21 =>
    ∃ b21 : Bool, e21 = .returned (.bool b21) ∧ Br b21
    (Does Tryz.prog g #[.pointer (some ⟨b, 0, none⟩)] w21 fun e24 w24 =>
    ∃ f24 : Nat, e24 = .returned (.float .f64 f24) ∧ ∃ f25 : Nat, ∃ w25, (binOp op2 23 (.float .f64 f3) (.float .f64 f24)).run Tryz.prog w24 = .ok (.float .f64 f25) w25 ∧ ∃ ml2, ml2 < nl2 ∧ I2 f25 ml2 w25)
    (RQ w0 b s (seqP F ca cb (opCC op1) (opCC op2) (rest s a)) d (.returned (.float .f64 f3)) w21)))
    (RQ w0 b s (seqP F ca cb (opCC op1) (opCC op2) (rest s a)) d (.returned (.float .f64 0)) wl2) := by
  refine (hF w a d h hc).imp ?_
  rintro e w7 ⟨f, a', bad, rfl, hf, hst, hv⟩
  have hrl := rest_len (s := s) a
  generalize hY : seqP F ca cb (opCC op1) (opCC op2) (rest s a) = Y
  refine ⟨f, rfl, fun f3 n3 wl => ∃ (a3 : Nat) (bad : Int), RS w0 b s wl a3 d bad ∧ ((bad = 0 ∧ ∃ (c3 : Option Nat) (k3 fu : Nat), n3 = (rest s a3).length + 1 ∧ Wd f3 ∧ cls f3 = c3 ∧ d + (k3 : Int) ≤ 32 ∧ (rest s a3).length < fu ∧ (rest s a3).length < n ∧ Y = chainP F ca cb (opCC op1) (opCC op2) fu c3 k3 (rest s a3)) ∨ (n3 = 0 ∧ RBad Y d bad)), ?_, ?_⟩
  · rcases hv with ⟨c, k, r, hx, hk, rfl, hfc, hra⟩ | hv
    · have hsh := hS _ _ _ _ hx
      exact ⟨_, a', 0, hst, .inl ⟨rfl, c, k, FU, rfl, hf, hfc, hk, by rw [hra]; show _ < 5000; omega, by rw [hra]; have := hc.1; omega, by rw [hra, ← hY]; unfold seqP; rw [hx]⟩⟩
    · refine ⟨0, a', bad, hst, .inr ⟨rfl, hv.to fun c' k' r' e => ?_⟩⟩
      rw [← hY] at e
      unfold seqP at e
      cases hx : F (rest s a) with
      | none => rw [hx] at e; cases e
      | some x =>
        obtain ⟨c, k, r⟩ := x
        rw [hx] at e
        exact ⟨c, k, r, rfl, chainP_max e⟩
  · rintro f3 n3 wl ⟨a3, bad, hst3, ⟨rfl, c3, k3, fu, rfl, hf3, hc3, hk3, hfu, hn3, heq⟩ | ⟨rfl, hv⟩⟩
    · refine ⟨b, 0, rfl, _, hst3.blk.cell 3 rfl, tru rfl ?_⟩
      obtain ⟨fu, rfl⟩ : ∃ t, fu = t + 1 := ⟨fu - 1, by omega⟩
      have step : ∀ {op : BinOp}, arithB op = true → ∀ {r1 : List Int} {a4 : Nat} {w4 : World}, r1.length < (rest s a3).length → rest s a4 = r1 → RS w0 b s w4 a4 d 0 →
          (∀ c' k' r', F r1 = some (c', k', r') → Y = chainP F ca cb (opCC op1) (opCC op2) fu (opCC op c3 c') (max k3 k') r') →
          (F r1 = none → Y = none) →
          Does Tryz.prog g #[.pointer (some ⟨b, 0, none⟩)] w4 fun e13 w13 =>
            ∃ f13 : Nat, e13 = .returned (.float .f64 f13) ∧ ∃ f16 : Nat, ∃ w16, (binOp op 23 (.float .f64 f3) (.float .f64 f13)).run Tryz.prog w13 = .ok (.float .f64 f16) w16 ∧ ∃ ml3, ml3 < (rest s a3).length + 1 ∧ ∃ (a3 : Nat) (bad : Int), RS w0 b s w16 a3 d bad ∧ ((bad = 0 ∧ ∃ (c3 : Option Nat) (k3 fu : Nat), ml3 = (rest s a3).length + 1 ∧ Wd f16 ∧ cls f16 = c3 ∧ d + (k3 : Int) ≤ 32 ∧ (rest s a3).length < fu ∧ (rest s a3).length < n ∧ Y = chainP F ca cb (opCC op1) (opCC op2) fu c3 k3 (rest s a3)) ∨ (ml3 = 0 ∧ RBad Y d bad)) := fun {op} hop {r1 a4 w4} hr1 hr4 hst4 hsome hnone => by
        refine (hF w4 a4 d hst4 ⟨by rw [hr4]; omega, hc.2⟩).imp ?_
        rintro e w13 ⟨f13, a5, bad, rfl, hf13, hst5, hv⟩
        rw [hr4] at hv
        obtain ⟨f16, w16, hr, x16, hf16, hc16⟩ := opC_run (P := Tryz.prog) op hop 23 f3 f13 w13
        refine ⟨f13, rfl, f16, w16, hr, ?_⟩
        rcases hv with ⟨c, k, r, hx, hk, rfl, hfc, hra⟩ | hv
        · have hsh := hS _ _ _ _ hx
          refine ⟨(rest s a5).length + 1, by rw [hra]; omega, a5, 0, hst5.move x16, .inl ⟨rfl, _, max k3 k, fu, rfl, hf16, rfl, by omega, by rw [hra]; omega, by rw [hra]; omega, ?_⟩⟩
          rw [hsome _ _ _ hx, hra, hc16, ← hfc, ← hc3, opCC_cls hop]
        · refine ⟨0, by omega, a5, bad, hst5.move x16, .inr ⟨rfl, hv.to fun c' k' r' e => ?_⟩⟩
          cases hx : F r1 with
          | none => rw [hnone hx] at e; cases e
          | some x =>
            obtain ⟨c, k, r⟩ := x
            rw [hsome _ _ _ hx] at e
            have := chainP_max e
            exact ⟨c, k, r, rfl, by omega⟩
      refine is_step hsz pa ha rfl hst3 (fun r1 a4 w4 ht hr4 hst4 => ?_) fun ht a4 w4 hr4 hst4 => ?_
      · refine step ho1 (by have := tk_len ht; simp at this; omega) hr4 hst4 (fun c' k' r' hx => ?_) fun hx => ?_
        · rw [heq, chain_a ht hx]
        · rw [heq]; unfold chainP; rw [ht]; simp only [hx]
      · refine is_step hsz pb hbb (l := rest s a3) (by rw [hr4, skip_skip]) hst4 (fun r1 a5 w5 ht2 hr5 hst5 => ?_) fun ht2 a5 w5 hr5 hst5 => ?_
        · refine step ho2 (by have := tk_len ht2; simp at this; omega) hr5 hst5 (fun c' k' r' hx => ?_) fun hx => ?_
          · rw [heq, chain_b ht ht2 hx]
          · rw [heq]; unfold chainP; rw [ht]; simp only; rw [ht2]; simp only [hx]
        · rw [heq, chain_stop ht ht2]
          exact ⟨f3, a5, 0, rfl, hf3, hst5, .inl ⟨_, _, _, rfl, hk3, rfl, hc3, hr5⟩⟩
    · refine ⟨b, 0, rfl, _, hst3.blk.cell 3 rfl, fls (by simpa using hv.1) ⟨0, a3, bad, rfl, wd_zero, hst3, .inr hv⟩⟩
section
variable {n : Nat} {F : List Int → Res} (hF : RDoes w0 b s 86 n F) (hS : Short F)
include hsz hF hS
theorem rprod_does : RDoes w0 b s 58 n (termP F) := fun w a d h hc =>
  f58_does _ (rseq_gen hsz hF hS (pa := { data := #[42] }) (pb := { data := #[47] }) (by decide) (by decide) rfl rfl h hc)
theorem rsum_does : RDoes w0 b s 35 n (exprP F) := fun w a d h hc =>
  f35_does _ (rseq_gen hsz (rprod_does hsz hF hS) (seqP_short hS) (pa := { data := #[43] }) (pb := { data := #[45] }) (by decide) (by decide) rfl rfl h hc)
end
include hsz in
theorem rcall_step (p : ByteArray) {lp : List Int} (hp : L p = lp) {w : World} {a : Nat} {d e : Int} {l : List Int} (hl : skip (rest s a) = skip l) (h : RS w0 b s w a d e) {A B : World → Prop}
    (h1 : ∀ r a' w', tk2 lp l = some r → rest s a' = r → RS w0 b s w' a' d e → A w') (h0 : tk2 lp l = none → ∀ w', RS w0 b s w' a d e → B w') :
    Does Tryz.prog 108 #[.pointer (some ⟨b, 0, none⟩), .string p] w fun en w' => ∃ b5 : Bool, en = .returned (.bool b5) ∧ Br b5 (A w') (B w') := by
  have e40 : L ({ data := #[40] } : ByteArray) = [40] := by decide
  have back : ∀ {a' : Nat} {w' : World}, tk2 lp l = none → RS w0 b s w' a' d e → CanStore w' b 1 ∧ ∀ ws, Stored w' b 1 (.int .i64 (a : Int)) ws → ∃ b5 : Bool, Ending.returned (.bool false) = .returned (.bool b5) ∧ Br b5 (A ws) (B ws) := fun ht hst =>
    ⟨hst.blk.can 1 (by simp), fun ws hs => ⟨false, rfl, fls rfl (h0 ht ws (hst.at hs h.le))⟩⟩
  refine f108_does _ _ ⟨b, 0, rfl, _, h.blk.cell 1 rfl, is_step hsz p hp hl h (fun r a1 w1 t1 hr1 st1 => ?_) fun t1 a1 w1 hr1 st1 => ?_⟩
  · refine is_step hsz _ e40 rfl st1 (fun r2 a2 w2 t2 hr2 st2 => ⟨true, rfl, tru rfl (h1 r2 a2 w2 ?_ hr2 st2)⟩) fun t2 a2 w2 hr2 st2 => ⟨b, 0, rfl, back ?_ st2⟩
    · unfold tk2; rw [t1, ← hr1]; exact t2
    · unfold tk2; rw [t1, ← hr1]; exact t2
  · exact ⟨b, 0, rfl, back (by unfold tk2; rw [t1]) st1⟩
end
end Go.Proofs.YtacinpadiiabjaaGreatDoor
