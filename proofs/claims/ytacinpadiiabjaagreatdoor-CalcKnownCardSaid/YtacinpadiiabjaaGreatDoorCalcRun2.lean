/-
  Expressions: what each function of the code does: terms, factors, whole texts.
-/
import Derived.Test.YtacinpadiiabjaaGreatDoorCalcRun
namespace Go.Vc
def mapR (g : Option Nat → Option Nat) (x : Res) : Res := match x with
  | none => none
  | some (c, k, r) => some (g c, k, r)
theorem up_map (g : Option Nat → Option Nat) (x : Res) : up g x = up id (mapR g x) := by
  cases x with
  | none => rfl
  | some x => rfl
def pairP (E : List Int → Res) (l : List Int) : Option (Option Nat × Option Nat × Nat × List Int) := match E l with
  | none => none
  | some (c1, m1, r) => match tk [44] r with
    | none => none
    | some r1 => match closedP E r1 with
      | none => none
      | some (c2, m2, r2) => some (c1, c2, max m1 m2, r2)
theorem two_pair (E : List Int → Res) (g : Option Nat → Option Nat → Option Nat) (l : List Int) : twoP E g l = match pairP E l with
    | none => none
    | some (c1, c2, k, r) => some (g c1 c2, k, r) := by
  unfold twoP pairP
  cases E l with
  | none => rfl
  | some x =>
    obtain ⟨c1, m1, r⟩ := x
    simp only
    cases tk [44] r with
    | none => rfl
    | some r1 =>
      simp only
      cases closedP E r1 with
      | none => rfl
      | some y => rfl
theorem cls_neg {x : Nat} (h : nan (Op.negFloat .f64 x) = nan x) : cls (Op.negFloat .f64 x) = negC (cls x) := by
  unfold cls negC
  rw [h]
  cases nan x <;> rfl
theorem cls_abs (x : Nat) : cls (x % 9223372036854775808) = absC (cls x) := by
  have h : nan (x % 9223372036854775808) = nan x := by unfold nan rung; rw [Nat.mod_mod]
  unfold cls absC
  rw [h]
  cases nan x <;> rfl
end Go.Vc
namespace Go.Proofs.YtacinpadiiabjaaGreatDoor
open Go.RowKit Go.Vc
section
variable {w0 : World} {b : Nat} {s : ByteArray} (hsz : s.size ≤ 4096) (hT : ∀ w, Upd (fun z => z = b) w0 w → Laid w)
theorem QR.pass {x : Res} {d m : Nat} {e : Ending} {w' : World} (h : QR w0 b s x d m e w') : (∃ f : Nat, e = .returned (.float .f64 f) ∧ QR w0 b s x d m (.returned (.float .f64 f)) w') ∨ (∃ ch, e = .panicked ch ∧ QR w0 b s x d m (.panicked ch) w') := by
  cases x with
  | none =>
    obtain ⟨rfl, h⟩ := h
    exact .inr ⟨_, rfl, rfl, h⟩
  | some x =>
    obtain ⟨f, a', rfl, h⟩ := h
    exact .inl ⟨f, rfl, f, a', rfl, h⟩
include hsz in
theorem take_step (p : ByteArray) {lp : List Int} (hp : L p = lp) {w : World} {a d m : Nat} {l : List Int} (hl : skip (rest s a) = skip l) (h : St w0 b s w a d m) {A B : World → Prop}
    (h1 : ∀ r a' w', tk lp l = some r → rest s a' = r → St w0 b s w' a' d m → A w') (h0 : tk lp l = none → ∀ a' w', rest s a' = skip l → St w0 b s w' a' d m → B w') :
    Does Tryz.prog 61 #[.pointer (some ⟨b, 0, none⟩), .string p] w fun e w' => ∃ b5 : Bool, e = .returned (.bool b5) ∧ Br b5 (A w') (B w') := by
  subst hp
  refine (takes_does hsz p h).imp ?_
  rintro e w' ⟨a', hst, ⟨r, t, hr, rfl⟩ | ⟨t, hr, rfl⟩⟩
  · exact ⟨true, rfl, tru rfl (h1 r a' w' (by rw [← tk_inv hl]; exact t) hr hst)⟩
  · exact ⟨false, rfl, fls rfl (h0 (by rw [← tk_inv hl]; exact t) a' w' (by rw [hr, hl]) hst)⟩
def Cond (s : ByteArray) (n a d : Nat) : Prop := (rest s a).length < n ∧ d + (rest s a).length ≤ 6000
def DoesF' (w0 : World) (b : Nat) (s : ByteArray) (g : FuncId) (n : Nat) (F : List Int → Res) : Prop :=
  ∀ w a d m, St w0 b s w a d m → Cond s n a d → Does Tryz.prog g #[.pointer (some ⟨b, 0, none⟩)] w (QR w0 b s (F (rest s a)) d m)
/-- A chain of parts. -/
theorem seq_gen (hsz : s.size ≤ 4096) {g : FuncId} {n : Nat} {F : List Int → Res} (hF : DoesF' w0 b s g n F) (hS : Short F) {pa pb : ByteArray} {ca cb : Int} (ha : L pa = [ca]) (hbb : L pb = [cb]) {op1 op2 : BinOp} (ho1 : arithB op1 = true) (ho2 : arithB op2 = true) {w : World} {a d m : Nat} (h : St w0 b s w a d m) (hc : Cond s n a d) :
    Does Tryz.prog g #[.pointer (some ⟨b, 0, none⟩)] w fun e7 w7 =>
    (∃ f7 : Nat, e7 = .returned (.float .f64 f7) ∧ ∃ I3 : Nat → Nat → World → Prop, (∃ nl3, I3 f7 nl3 w7) ∧ ∀ f3 : Nat, ∀ (nl3 : Nat) (wl3 : World), I3 f3 nl3 wl3 →
    Does Tryz.prog 61 #[.pointer (some ⟨b, 0, none⟩), .string pa] wl3 fun e11 w11 =>
    ∃ b11 : Bool, e11 = .returned (.bool b11) ∧ Br b11
    (Does Tryz.prog g #[.pointer (some ⟨b, 0, none⟩)] w11 fun e13 w13 =>
    (∃ f13 : Nat, e13 = .returned (.float .f64 f13) ∧ ∃ f16 : Nat, ∃ w16, (binOp op1 23 (.float .f64 f3) (.float .f64 f13)).run Tryz.prog w13 = .ok (.float .f64 f16) w16 ∧ ∃ ml3, ml3 < nl3 ∧ I3 f16 ml3 w16) ∨ (∃ ch13, e13 = .panicked ch13 ∧ QR w0 b s (seqP F ca cb (opCC op1) (opCC op2) (rest s a)) d m (.panicked ch13) w13))
    (Does Tryz.prog 61 #[.pointer (some ⟨b, 0, none⟩), .string pb] w11 fun e19 w19 =>
    ∃ b19 : Bool, e19 = .returned (.bool b19) ∧ Br b19
    (Does Tryz.prog g #[.pointer (some ⟨b, 0, none⟩)] w19 fun e21 w21 =>
    (∃ f21 : Nat, e21 = .returned (.float .f64 f21) ∧ ∃ f24 : Nat, ∃ w24, (binOp op2 23 (.float .f64 f3) (.float .f64 f21)).run Tryz.prog w21 = .ok (.float .f64 f24) w24 ∧ ∃ ml3, ml3 < nl3 ∧ I3 f24 ml3 w24) ∨ (∃ ch21, e21 = .panicked ch21 ∧ QR w0 b s (seqP F ca cb (opCC op1) (opCC op2) (rest s a)) d m (.panicked ch21) w21))
    (QR w0 b s (seqP F ca cb (opCC op1) (opCC op2) (rest s a)) d m (.returned (.float .f64 f3)) w19))) ∨ (∃ ch7, e7 = .panicked ch7 ∧ QR w0 b s (seqP F ca cb (opCC op1) (opCC op2) (rest s a)) d m (.panicked ch7) w7) := by
  refine (hF w a d m h hc).imp ?_
  intro e w7 hq
  cases hx : F (rest s a) with
  | none =>
    rw [hx] at hq
    obtain ⟨rfl, hq⟩ := hq
    have hn : seqP F ca cb (opCC op1) (opCC op2) (rest s a) = none := by unfold seqP; rw [hx]
    rw [hn]
    exact .inr ⟨_, rfl, rfl, hq⟩
  | some x =>
    obtain ⟨c, k, r⟩ := x
    rw [hx] at hq
    obtain ⟨f, a', rfl, hf, hfc, hra, hst⟩ := hq
    have hseq : seqP F ca cb (opCC op1) (opCC op2) (rest s a) = chainP F ca cb (opCC op1) (opCC op2) FU c k r := by unfold seqP; rw [hx]
    have hsh := hS _ _ _ _ hx
    have hrl := rest_len (s := s) a
    refine .inl ⟨f, rfl, fun f3 n3 wl => ∃ (a3 : Nat) (c3 : Option Nat) (k3 fu : Nat), n3 = (rest s a3).length ∧ St w0 b s wl a3 d (max m (d + k3)) ∧ Wd f3 ∧ cls f3 = c3 ∧ (rest s a3).length < fu ∧ (rest s a3).length < n ∧ d + (rest s a3).length ≤ 6000 ∧ seqP F ca cb (opCC op1) (opCC op2) (rest s a) = chainP F ca cb (opCC op1) (opCC op2) fu c3 k3 (rest s a3),
      ⟨_, a', c, k, FU, rfl, hst, hf, hfc, by rw [hra]; show _ < 5000; omega, by rw [hra]; have := hc.1; omega, by rw [hra]; have := hc.2; omega, by rw [hra]; exact hseq⟩, ?_⟩
    rintro f3 _ wl ⟨a3, c3, k3, fu, rfl, hst3, hf3, hc3, hfu, hn3, hd3, heq⟩
    obtain ⟨fu, rfl⟩ : ∃ t, fu = t + 1 := ⟨fu - 1, by omega⟩
    have step : ∀ {op : BinOp}, arithB op = true → ∀ {r1 : List Int} {a4 : Nat} {w4 : World}, r1.length < (rest s a3).length → rest s a4 = r1 → St w0 b s w4 a4 d (max m (d + k3)) →
        (∀ c' k' r', F r1 = some (c', k', r') → seqP F ca cb (opCC op1) (opCC op2) (rest s a) = chainP F ca cb (opCC op1) (opCC op2) fu (opCC op c3 c') (max k3 k') r') →
        (F r1 = none → seqP F ca cb (opCC op1) (opCC op2) (rest s a) = none) →
        Does Tryz.prog g #[.pointer (some ⟨b, 0, none⟩)] w4 fun e13 w13 =>
          (∃ f13 : Nat, e13 = .returned (.float .f64 f13) ∧ ∃ f16 : Nat, ∃ w16, (binOp op 23 (.float .f64 f3) (.float .f64 f13)).run Tryz.prog w13 = .ok (.float .f64 f16) w16 ∧ ∃ ml3, ml3 < (rest s a3).length ∧ ∃ (a3' : Nat) (c3' : Option Nat) (k3' fu' : Nat), ml3 = (rest s a3').length ∧ St w0 b s w16 a3' d (max m (d + k3')) ∧ Wd f16 ∧ cls f16 = c3' ∧ (rest s a3').length < fu' ∧ (rest s a3').length < n ∧ d + (rest s a3').length ≤ 6000 ∧ seqP F ca cb (opCC op1) (opCC op2) (rest s a) = chainP F ca cb (opCC op1) (opCC op2) fu' c3' k3' (rest s a3')) ∨
          (∃ ch13, e13 = .panicked ch13 ∧ QR w0 b s (seqP F ca cb (opCC op1) (opCC op2) (rest s a)) d m (.panicked ch13) w13) := fun {op} hop {r1 a4 w4} hr1 hr4 hst4 hsome hnone => by
      refine (hF w4 a4 d _ hst4 ⟨by rw [hr4]; omega, by rw [hr4]; omega⟩).imp ?_
      intro e w13 hq
      rw [hr4] at hq
      cases hx : F r1 with
      | none =>
        rw [hx] at hq
        obtain ⟨rfl, hq⟩ := hq
        rw [hnone hx]
        exact .inr ⟨_, rfl, rfl, hq⟩
      | some x =>
        obtain ⟨c', k', r'⟩ := x
        rw [hx] at hq
        obtain ⟨f13, a5, rfl, hf13, hc13, hra5, hst5⟩ := hq
        have hsh := hS _ _ _ _ hx
        obtain ⟨f16, w16, hr, x16, hf16, hc16⟩ := opC_run (P := Tryz.prog) op hop 23 f3 f13 w13
        refine .inl ⟨f13, rfl, f16, w16, hr, (rest s a5).length, by rw [hra5]; omega, a5, _, max k3 k', fu, rfl, ?_, hf16, rfl, by rw [hra5]; omega, by rw [hra5]; omega, by rw [hra5]; omega, ?_⟩
        · have := hst5.move x16
          rw [show max (max m (d + k3)) (d + k') = max m (d + max k3 k') by omega] at this
          exact this
        · rw [hsome _ _ _ hx, hra5, hc16, ← hc13, ← hc3, opCC_cls hop]
    refine take_step hsz pa ha rfl hst3 (fun r1 a4 w4 ht hr4 hst4 => ?_) fun ht a4 w4 hr4 hst4 => ?_
    · refine step ho1 (by have := tk_len ht; simp at this; omega) hr4 hst4 (fun c' k' r' hx => ?_) fun hx => ?_
      · rw [heq, chain_a ht hx]
      · rw [heq]; unfold chainP; rw [ht]; simp only [hx]
    · refine take_step hsz pb hbb (l := rest s a3) (by rw [hr4, skip_skip]) hst4 (fun r1 a5 w5 ht2 hr5 hst5 => ?_) fun ht2 a5 w5 hr5 hst5 => ?_
      · refine step ho2 (by have := tk_len ht2; simp at this; omega) hr5 hst5 (fun c' k' r' hx => ?_) fun hx => ?_
        · rw [heq, chain_b ht ht2 hx]
        · rw [heq]; unfold chainP; rw [ht]; simp only; rw [ht2]; simp only [hx]
      · rw [heq, chain_stop ht ht2]
        exact ⟨f3, a5, rfl, hf3, hc3, hr5, hst5⟩
section
variable {n : Nat} {F : List Int → Res} (hF : DoesF' w0 b s 87 n F) (hS : Short F)
include hsz hF hS
theorem term_does : DoesF' w0 b s 60 n (termP F) := fun w a d m h hc =>
  f60_does _ (seq_gen hsz hF hS (pa := { data := #[42] }) (pb := { data := #[47] }) (by decide) (by decide) rfl rfl h hc)
theorem expr_does : DoesF' w0 b s 37 n (exprP F) := fun w a d m h hc =>
  f37_does _ (seq_gen hsz (term_does hsz hF hS) (seqP_short hS) (pa := { data := #[43] }) (pb := { data := #[45] }) (by decide) (by decide) rfl rfl h hc)
end
/-- Something within one factor more. -/
theorem within_does {g : FuncId} {x : Res} {w : World} {a d m : Nat} (h : St w0 b s w a d m) (hd : d ≤ 6000) (hg : ∀ w', St w0 b s w' a (d + 1) (max m (d + 1)) → Does Tryz.prog g #[.pointer (some ⟨b, 0, none⟩)] w' (QR w0 b s x (d + 1) (max m (d + 1)))) :
    Does Tryz.prog 112 #[.pointer (some ⟨b, 0, none⟩), .func (.func g) #[.pointer (some ⟨b, 0, none⟩)] #[]] w (QR w0 b s (up id x) d m) := by
  refine f112_does _ _ _ _ ⟨b, 0, rfl, _, h.blk.cell 2 rfl, inI64 (by omega) (by omega), b, 0, rfl, h.blk.can 2 (by simp), fun ws hs wd hd2 => ?_⟩
  have B1 : Blk ws b [.string s, .int .i64 (a : Int), .int .i64 ((d : Int) + 1), .int .i64 (m : Int)] := h.blk.store hs
  have B2 := B1.ext hd2.ext
  refine ⟨fun z => z = wd, rfl, b, 0, rfl, _, fun z e => by rw [e]; exact B2.cell 3 rfl, b, 0, rfl, _, fun z e => by rw [e]; exact B2.cell 2 rfl, b, 0, rfl, B2.can 3 (by simp), fun ws1 hs1 => ?_⟩
  have B3 : Blk ws1 b [.string s, .int .i64 (a : Int), .int .i64 ((d : Int) + 1), .int .i64 (if (m : Int) < (d : Int) + 1 then (d : Int) + 1 else (m : Int))] := B2.store hs1
  have e1 : (if (m : Int) < (d : Int) + 1 then (d : Int) + 1 else (m : Int)) = ((max m (d + 1) : Nat) : Int) := by split <;> omega
  rw [e1, show (d : Int) + 1 = ((d + 1 : Nat) : Int) by omega] at B3
  have hst : St w0 b s ws1 a (d + 1) (max m (d + 1)) := ⟨B3, h.le, Upd.trans (Ext.then (Upd.trans h.ext hs.upd) hd2.ext) hs1.upd, by omega⟩
  show Does Tryz.prog g #[.pointer (some ⟨b, 0, none⟩)] ws1 _
  refine (hg ws1 hst).imp ?_
  intro e w26 hq
  cases x with
  | none =>
    obtain ⟨rfl, hq⟩ := hq
    exact .inr ⟨_, rfl, rfl, hq⟩
  | some x =>
    obtain ⟨c, k, r⟩ := x
    obtain ⟨f, a', rfl, hf, hfc, hra, hst⟩ := hq
    refine .inl ⟨f, rfl, b, 0, rfl, _, hst.blk.cell 2 rfl, inI64 (by omega) (by omega), b, 0, rfl, hst.blk.can 2 (by simp), fun ws2 hs2 => ⟨f, a', rfl, hf, hfc, hra, ?_⟩⟩
    have B4 : Blk ws2 b [.string s, .int .i64 (a' : Int), .int .i64 (((d + 1 : Nat) : Int) - 1), .int .i64 ((max (max m (d + 1)) (d + 1 + k) : Nat) : Int)] := hst.blk.store hs2
    rw [show (((d + 1 : Nat) : Int) - 1) = (d : Int) by omega, show max (max m (d + 1)) (d + 1 + k) = max m (d + (k + 1)) by omega] at B4
    exact ⟨B4, hst.le, Upd.trans hst.ext hs2.upd, by have := h.dm; omega⟩
include hsz in
theorem call_does {g : FuncId} {f : List Int → Res} {w : World} {a d m : Nat} (h : St w0 b s w a d m) (hd : d ≤ 6000) (hg : ∀ r a' w', tk [40] (rest s a) = some r → rest s a' = r → St w0 b s w' a' (d + 1) (max m (d + 1)) → Does Tryz.prog g #[.pointer (some ⟨b, 0, none⟩)] w' (QR w0 b s (f r) (d + 1) (max m (d + 1)))) :
    Does Tryz.prog 115 #[.pointer (some ⟨b, 0, none⟩), .func (.func g) #[.pointer (some ⟨b, 0, none⟩)] #[]] w (QR w0 b s (callP f id (rest s a)) d m) := by
  refine f115_does _ _ _ _ ((takes_does hsz { data := #[40] } h).imp ?_)
  have e40 : L ({ data := #[40] } : ByteArray) = [40] := by decide
  rw [e40]
  rintro e w' ⟨a', hst, ⟨r, t, hr, rfl⟩ | ⟨t, hr, rfl⟩⟩
  · have e : callP f id (rest s a) = up id (f r) := by unfold callP; rw [t]
    rw [e]
    refine ⟨_, rfl, must_does (fun _ => .inl ⟨rfl, (within_does hst hd fun w'' hst' => hg r a' w'' t hr hst').imp ?_⟩) fun q => by cases q⟩
    intro e w10 hq
    exact hq.pass
  · have e : callP f id (rest s a) = none := by unfold callP; rw [t]
    rw [e]
    exact ⟨_, rfl, must_does (fun q => by cases q) fun _ => .inr ⟨_, rfl, rfl, hst.ext⟩⟩
section
variable {n : Nat} {E : List Int → Res} (hE : DoesF' w0 b s 37 n E)
include hsz hE
theorem closed_does : DoesF' w0 b s 114 n (closedP E) := fun w a d m h hc => by
  refine f114_does _ ((hE w a d m h hc).imp ?_)
  intro e w5 hq
  cases hx : E (rest s a) with
  | none =>
    rw [hx] at hq
    obtain ⟨rfl, hq⟩ := hq
    have : closedP E (rest s a) = none := by unfold closedP; rw [hx]
    rw [this]
    exact .inr ⟨_, rfl, rfl, hq⟩
  | some x =>
    obtain ⟨c, k, r⟩ := x
    rw [hx] at hq
    obtain ⟨f, a', rfl, hf, hfc, hra, hst⟩ := hq
    refine .inl ⟨f, rfl, (takes_does hsz { data := #[41] } hst).imp ?_⟩
    have e41 : L ({ data := #[41] } : ByteArray) = [41] := by decide
    rw [e41, hra]
    rintro e w' ⟨a2, hst2, ⟨r2, t, hr, rfl⟩ | ⟨t, hr, rfl⟩⟩
    · have e : closedP E (rest s a) = some (c, k, r2) := by unfold closedP; rw [hx]; simp only [t]
      rw [e]
      exact ⟨_, rfl, must_does (fun _ => .inl ⟨rfl, f, a2, rfl, hf, hfc, hr, hst2⟩) fun q => by cases q⟩
    · have e : closedP E (rest s a) = none := by unfold closedP; rw [hx]; simp only [t]
      rw [e]
      exact ⟨_, rfl, must_does (fun q => by cases q) fun _ => .inr ⟨_, rfl, rfl, hst2.ext⟩⟩
/-- Two expressions. -/
theorem two_does (hS : Short E) {w : World} {a d m : Nat} (h : St w0 b s w a d m) (hc : Cond s n a d) : Does Tryz.prog 146 #[.pointer (some ⟨b, 0, none⟩)] w fun e w' => (pairP E (rest s a) = none ∧ e = thrown ∧ Upd (fun z => z = b) w0 w') ∨
    ∃ c1 c2 k r f1 f2 a', pairP E (rest s a) = some (c1, c2, k, r) ∧ e = .returned (.tuple #[.float .f64 f1, .float .f64 f2]) ∧ Wd f1 ∧ Wd f2 ∧ cls f1 = c1 ∧ cls f2 = c2 ∧ rest s a' = r ∧ St w0 b s w' a' d (max m (d + k)) := by
  refine f146_does _ ((hE w a d m h hc).imp ?_)
  intro e w6 hq
  cases hx : E (rest s a) with
  | none =>
    rw [hx] at hq
    obtain ⟨rfl, hq⟩ := hq
    exact .inr ⟨_, rfl, .inl ⟨by unfold pairP; rw [hx], rfl, hq⟩⟩
  | some x =>
    obtain ⟨c, k, r⟩ := x
    rw [hx] at hq
    obtain ⟨f, a', rfl, hf, hfc, hra, hst⟩ := hq
    have hsh := hS _ _ _ _ hx
    refine .inl ⟨f, rfl, (takes_does hsz { data := #[44] } hst).imp ?_⟩
    have e44 : L ({ data := #[44] } : ByteArray) = [44] := by decide
    rw [e44, hra]
    rintro e w' ⟨a2, hst2, ⟨r2, t, hr, rfl⟩ | ⟨t, hr, rfl⟩⟩
    · have hlen := tk_len t
      refine ⟨_, rfl, must_does (fun _ => .inl ⟨rfl, (closed_does hsz hE w' a2 d _ hst2 ⟨by rw [hr]; have := hc.1; omega, by rw [hr]; have := hc.2; omega⟩).imp ?_⟩) fun q => by cases q⟩
      intro e w12 hq
      rw [hr] at hq
      cases hx2 : closedP E r2 with
      | none =>
        rw [hx2] at hq
        obtain ⟨rfl, hq⟩ := hq
        exact .inr ⟨_, rfl, .inl ⟨by unfold pairP; rw [hx]; simp only [t]; rw [hx2], rfl, hq⟩⟩
      | some y =>
        obtain ⟨c2, k2, r3⟩ := y
        rw [hx2] at hq
        obtain ⟨f2, a3, rfl, hf2, hfc2, hra2, hst3⟩ := hq
        rw [show max (max m (d + k)) (d + k2) = max m (d + max k k2) by omega] at hst3
        exact .inl ⟨f2, rfl, .inr ⟨c, c2, max k k2, r3, f, f2, a3, by unfold pairP; rw [hx]; simp only [t]; rw [hx2], rfl, hf, hf2, hfc, hfc2, hra2, hst3⟩⟩
    · exact ⟨_, rfl, must_does (fun q => by cases q) fun _ => .inr ⟨_, rfl, .inl ⟨by unfold pairP; rw [hx]; simp only [t], rfl, hst2.ext⟩⟩⟩
theorem least_does (hS : Short E) : DoesF' w0 b s 116 n (twoP E minC) := fun w a d m h hc => by
  refine f116_does _ ((two_does hsz hE hS h hc).imp ?_)
  rw [two_pair]
  rintro e w7 (⟨hp, rfl, hx⟩ | ⟨c1, c2, k, r, f1, f2, a', hp, rfl, h1, h2, rfl, rfl, hr, hst⟩)
  · rw [hp]; exact .inr ⟨_, rfl, rfl, hx⟩
  · rw [hp]
    refine .inl ⟨f1, f2, rfl, compare_does h1 h2 ⟨_, rfl, ?_⟩⟩
    rw [fcmp_key h1 h2]
    have hk : (cmpK (fkey f1) (fkey f2) < 0) ↔ keyC (cls f1) < keyC (cls f2) := by
      rw [keyC_cls, keyC_cls]; unfold cmpK; (repeat' split) <;> omega
    refine brr (fun q => ⟨f1, a', rfl, h1, ?_, hr, hst⟩) fun q => ⟨f2, a', rfl, h2, ?_, hr, hst⟩
    · unfold minC; rw [if_pos (hk.1 (of_decide_eq_true q))]
    · unfold minC; rw [if_neg fun e => of_decide_eq_false q (hk.2 e)]
theorem greatest_does (hS : Short E) : DoesF' w0 b s 117 n (twoP E maxC) := fun w a d m h hc => by
  refine f117_does _ ((two_does hsz hE hS h hc).imp ?_)
  rw [two_pair]
  rintro e w7 (⟨hp, rfl, hx⟩ | ⟨c1, c2, k, r, f1, f2, a', hp, rfl, h1, h2, rfl, rfl, hr, hst⟩)
  · rw [hp]; exact .inr ⟨_, rfl, rfl, hx⟩
  · rw [hp]
    refine .inl ⟨f1, f2, rfl, compare_does h1 h2 ⟨_, rfl, ?_⟩⟩
    rw [fcmp_key h1 h2]
    have hk : (cmpK (fkey f1) (fkey f2) > 0) ↔ keyC (cls f2) < keyC (cls f1) := by
      rw [keyC_cls, keyC_cls]; unfold cmpK; (repeat' split) <;> omega
    refine brr (fun q => ⟨f1, a', rfl, h1, ?_, hr, hst⟩) fun q => ⟨f2, a', rfl, h2, ?_, hr, hst⟩
    · unfold maxC; rw [if_pos (hk.1 (of_decide_eq_true q))]
    · unfold maxC; rw [if_neg fun e => of_decide_eq_false q (hk.2 e)]
theorem bare_does : DoesF' w0 b s 118 n (fun l => mapR absC (closedP E l)) := fun w a d m h hc => by
  show Does Tryz.prog 118 #[.pointer (some ⟨b, 0, none⟩)] w (QR w0 b s (mapR absC (closedP E (rest s a))) d m)
  refine f118_does _ ((closed_does hsz hE w a d m h hc).imp ?_)
  intro e w4 hq
  cases hx : closedP E (rest s a) with
  | none =>
    rw [hx] at hq
    obtain ⟨rfl, hq⟩ := hq
    exact .inr ⟨_, rfl, rfl, hq⟩
  | some x =>
    obtain ⟨c, k, r⟩ := x
    rw [hx] at hq
    obtain ⟨f, a', rfl, hf, rfl, hra, hst⟩ := hq
    refine .inl ⟨f, rfl, f48_does _ (f64bits_does f ⟨_, rfl, ?_⟩)⟩
    have e : bits .andNot .u64 (f : Int) 9223372036854775808 = ((f % 9223372036854775808 : Nat) : Int) := by
      show IntKind.u64.wrap (((BitVec.ofInt 64 (f : Int)) &&& ~~~(BitVec.ofInt 64 ((9223372036854775808 : Nat) : Int))).toNat : Int) = _
      have e2 : ~~~(BitVec.ofInt 64 ((9223372036854775808 : Nat) : Int)) = BitVec.ofNat 64 (2 ^ 63 - 1) := by decide
      rw [e2, BitVec.ofInt_natCast, BitVec.toNat_and, BitVec.toNat_ofNat, BitVec.toNat_ofNat, Nat.mod_eq_of_lt (a := f) (by unfold Wd at hf; omega), Nat.mod_eq_of_lt (a := 2 ^ 63 - 1) (by decide), Nat.and_two_pow_sub_one_eq_mod, wrap_in ⟨by show (0 : Int) ≤ _; omega, by show _ ≤ (18446744073709551615 : Int); have := Nat.mod_lt f (show 0 < 2 ^ 63 by decide); omega⟩]
    rw [e]
    exact frombits_does _ ⟨_, rfl, _, rfl, _, a', rfl, by unfold Wd; omega, cls_abs f, hra, hst⟩
end
theorem minus_does {n : Nat} {F : List Int → Res} (hF : DoesF' w0 b s 87 n F) : DoesF' w0 b s 113 n (fun l => mapR negC (F l)) := fun w a d m h hc => by
  show Does Tryz.prog 113 #[.pointer (some ⟨b, 0, none⟩)] w (QR w0 b s (mapR negC (F (rest s a))) d m)
  refine f113_does _ ((hF w a d m h hc).imp ?_)
  intro e w4 hq
  cases hx : F (rest s a) with
  | none =>
    rw [hx] at hq
    obtain ⟨rfl, hq⟩ := hq
    exact .inr ⟨_, rfl, rfl, hq⟩
  | some x =>
    obtain ⟨c, k, r⟩ := x
    rw [hx] at hq
    obtain ⟨f, a', rfl, hf, rfl, hra, hst⟩ := hq
    obtain ⟨n1, n2⟩ := neg_wd hf
    exact .inl ⟨f, rfl, _, a', rfl, n1, cls_neg n2, hra, hst⟩
include hsz hT in
/-- Factors. -/
theorem fact_does : ∀ n, DoesF' w0 b s 87 n (factN n)
  | 0 => fun w a d m h hc => by have := hc.1; omega
  | n + 1 => fun w a d m h hc => by
    have hF := fact_does n
    have hS := factN_short n
    have hE : DoesF' w0 b s 37 n (exprN n) := expr_does hsz hF hS
    have hSE : Short (exprN n) := exprP_short hS
    obtain ⟨c1, c2⟩ := hc
    have cond : ∀ {r : List Int} {a' : Nat} {k : Nat} {p : List Int}, tk p (rest s a) = some r → 1 ≤ p.length → rest s a' = r → Cond s n a' (d + 1) := fun ht hp hr => by
      have := tk_len ht
      exact ⟨by rw [hr]; omega, by rw [hr]; omega⟩
    have cond2 : ∀ {r r2 : List Int} {a' : Nat} {p : List Int}, tk p (rest s a) = some r → tk [40] r = some r2 → rest s a' = r2 → Cond s n a' (d + 1) := fun ht ht2 hr => by
      have := tk_len ht
      have := tk_len ht2
      simp only [List.length_cons, List.length_nil] at this
      exact ⟨by rw [hr]; omega, by rw [hr]; omega⟩
    rw [fact_succ]
    refine f87_does _ (take_step hsz _ (lp := [45]) (by decide) (l := rest s a) rfl h (fun r a1 w1 t1 hr1 st1 => ?_) fun t1 a1 w1 hr1 st1 => ?_)
    · have e : factorP (exprN n) (factN n) (rest s a) = up id (mapR negC (factN n r)) := by unfold factorP; rw [t1, ← up_map]
      rw [e]
      refine (within_does st1 (by omega) fun w' st' => ?_).imp fun e w' q => q.pass
      have := minus_does hF w' a1 (d + 1) _ st' (cond (k := 0) t1 (by simp) hr1)
      rw [hr1] at this
      exact this
    refine take_step hsz _ (lp := [40]) (by decide) (l := rest s a) (by rw [hr1, skip_skip]) st1 (fun r a2 w2 t2 hr2 st2 => ?_) fun t2 a2 w2 hr2 st2 => ?_
    · have e : factorP (exprN n) (factN n) (rest s a) = up id (closedP (exprN n) r) := by unfold factorP; rw [t1]; simp only [t2]
      rw [e]
      refine (within_does st2 (by omega) fun w' st' => ?_).imp fun e w' q => q.pass
      have := closed_does hsz hE w' a2 (d + 1) _ st' (cond (k := 0) t2 (by simp) hr2)
      rw [hr2] at this
      exact this
    refine take_step hsz _ (lp := [109, 105, 110]) (by decide) (l := rest s a) (by rw [hr2, skip_skip]) st2 (fun r a3 w3 t3 hr3 st3 => ?_) fun t3 a3 w3 hr3 st3 => ?_
    · have e : factorP (exprN n) (factN n) (rest s a) = callP (twoP (exprN n) minC) id (rest s a3) := by unfold factorP; rw [t1]; simp only [t2]; rw [t3, hr3]
      rw [e]
      refine (call_does hsz st3 (by omega) fun r2 a' w' t' hr' st' => ?_).imp fun e w' q => q.pass
      rw [hr3] at t'
      have := least_does hsz hE hSE w' a' (d + 1) _ st' (cond2 t3 t' hr')
      rw [hr'] at this
      exact this
    refine take_step hsz _ (lp := [109, 97, 120]) (by decide) (l := rest s a) (by rw [hr3, skip_skip]) st3 (fun r a4 w4 t4 hr4 st4 => ?_) fun t4 a4 w4 hr4 st4 => ?_
    · have e : factorP (exprN n) (factN n) (rest s a) = callP (twoP (exprN n) maxC) id (rest s a4) := by unfold factorP; rw [t1]; simp only [t2]; rw [t3]; simp only [t4]; rw [hr4]
      rw [e]
      refine (call_does hsz st4 (by omega) fun r2 a' w' t' hr' st' => ?_).imp fun e w' q => q.pass
      rw [hr4] at t'
      have := greatest_does hsz hE hSE w' a' (d + 1) _ st' (cond2 t4 t' hr')
      rw [hr'] at this
      exact this
    refine take_step hsz _ (lp := [97, 98, 115]) (by decide) (l := rest s a) (by rw [hr4, skip_skip]) st4 (fun r a5 w5 t5 hr5 st5 => ?_) fun t5 a5 w5 hr5 st5 => ?_
    · have e : factorP (exprN n) (factN n) (rest s a) = callP (fun l => mapR absC (closedP (exprN n) l)) id (rest s a5) := by
        have : callP (closedP (exprN n)) absC r = callP (fun l => mapR absC (closedP (exprN n) l)) id r := by unfold callP; cases tk [40] r with
          | none => rfl
          | some q => exact up_map _ _
        unfold factorP; rw [t1]; simp only [t2]; rw [t3]; simp only [t4]; rw [t5, hr5]; exact this
      rw [e]
      refine (call_does hsz st5 (by omega) fun r2 a' w' t' hr' st' => ?_).imp fun e w' q => q.pass
      rw [hr5] at t'
      have := bare_does hsz hE w' a' (d + 1) _ st' (cond2 t5 t' hr')
      rw [hr'] at this
      exact this
    refine take_step hsz _ (lp := [110, 97, 110]) (by decide) (l := rest s a) (by rw [hr5, skip_skip]) st5 (fun r a6 w6 t6 hr6 st6 => ?_) fun t6 a6 w6 hr6 st6 => ?_
    · have e : factorP (exprN n) (factN n) (rest s a) = some (none, 0, r) := by unfold factorP; rw [t1]; simp only [t2]; rw [t3]; simp only [t4]; rw [t5]; simp only [t6]
      rw [e]
      exact nan_does fun f hf hc => ⟨f, rfl, f, a6, rfl, hf, hc, hr6, by rw [Nat.add_zero, Nat.max_eq_left st6.dm]; exact st6⟩
    refine take_step hsz _ (lp := [105, 110, 102]) (by decide) (l := rest s a) (by rw [hr6, skip_skip]) st6 (fun r a7 w7 t7 hr7 st7 => ?_) fun t7 a7 w7 hr7 st7 => ?_
    · have e : factorP (exprN n) (factN n) (rest s a) = some (some infW, 0, r) := by unfold factorP; rw [t1]; simp only [t2]; rw [t3]; simp only [t4]; rw [t5]; simp only [t6]; rw [t7]
      rw [e]
      exact inf_does ⟨infW, rfl, infW, a7, rfl, by unfold Wd; decide, by decide, hr7, by rw [Nat.add_zero, Nat.max_eq_left st7.dm]; exact st7⟩
    have e : factorP (exprN n) (factN n) (rest s a) = numP (rest s a7) := by
      unfold factorP; rw [t1]; simp only [t2]; rw [t3]; simp only [t4]; rw [t5]; simp only [t6]; rw [t7, hr7]
      unfold numP; rw [skip_skip]
    rw [e]
    exact (number_does hsz hT st7 (by rw [hr7, skip_skip])).imp fun e w' q => q.pass
end
end Go.Proofs.YtacinpadiiabjaaGreatDoor
