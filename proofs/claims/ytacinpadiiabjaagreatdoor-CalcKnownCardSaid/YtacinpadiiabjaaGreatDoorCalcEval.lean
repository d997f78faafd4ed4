/-
  Expressions: what Eval does.
-/
import Derived.Test.YtacinpadiiabjaaGreatDoorCalcCatch
namespace Go.Vc
/-- What a text is worth, or what is wrong with it. -/
def evalM (l : List Int) : Option Nat × Int :=
  if 4096 < l.length then (some 0, 3) else match evalN FU l with
  | none => (some 0, 11)
  | some (c, m) => if 32 < m then (some 0, 3) else (c, 0)
end Go.Vc
namespace Go.Proofs.YtacinpadiiabjaaGreatDoor
open Go.RowKit Go.Vc
variable {w : World}
theorem St.rebase {w0 : World} {b : Nat} {s : ByteArray} {a d m : Nat} (h : St w0 b s w a d m) : St w b s w a d m := ⟨h.blk, h.le, Upd.refl _ _, h.dm⟩
theorem rdall_does {b : Nat} {s : ByteArray} (hsz : s.size ≤ 4096) (hb : Blk w b [.string s, .int .i64 0, .int .i64 0, .int .i64 0]) (hT : ∀ w', Upd (fun z => z = b) w w' → Laid w') : Does Tryz.prog 17 #[.pointer (some ⟨b, 0, none⟩)] w fun e w' => Upd (fun z => z = b) w w' ∧
    ((evalN FU (L s) = none ∧ ∃ f : Nat, e = .returned (.tuple #[.float .f64 f, .bool false])) ∨
      ∃ c k f, evalN FU (L s) = some (c, k) ∧ e = .returned (.tuple #[.float .f64 f, .bool true]) ∧ Wd f ∧ cls f = c ∧ w'.cell? ⟨b, 3, none⟩ = some (.int .i64 ((k : Nat) : Int))) := by
  refine f17_does _ fun b2 w2 n2 b3 w3 n3 => ?_
  have x3 : Ext w w3 := Ext.then n2.ext n3.ext
  have hne2 : b2 ≠ b := by have := hb.lt; have := n2.eq; omega
  have hne3 : b3 ≠ b := by have := hb.lt; have := n3.eq; have := n2.size; omega
  have h32 : b3 ≠ b2 := by have := n2.lt; have := n3.eq; omega
  have hge2 : w.heap.size ≤ b2 := by rw [n2.eq]; exact Nat.le_refl _
  have hge3 : w.heap.size ≤ b3 := by have := n3.eq; have := n2.size; omega
  have U3 : Upd (fun z => z = b) w w3 := x3.mono fun _ _ e => e.elim
  have st0 : St w3 b s w3 0 0 0 := ⟨hb.ext x3, Nat.zero_le _, Upd.refl _ _, Nat.le_refl _⟩
  have hT3 : ∀ w', Upd (fun z => z = b) w3 w' → Laid w' := fun w' u => hT w' (Upd.trans U3 u)
  have hr0 : rest s 0 = L s := rfl
  have c2 : CanStore w3 b2 0 := n3.ext.can (n2.can 0 (by simp))
  have c3 : CanStore w3 b3 0 := n3.can 0 (by simp)
  have hE : DoesF' w3 b s 37 FU (exprN FU) := expr_does hsz (fact_does hsz hT3 FU) (factN_short FU)
  have hl := L_len s
  refine (hE w3 0 0 0 st0 ⟨by rw [hr0, hl]; show _ < 5000; omega, by rw [hr0, hl]; omega⟩).imp ?_
  rw [hr0]
  intro e w6 hq
  cases hx : exprN FU (L s) with
  | none =>
    rw [hx] at hq
    obtain ⟨rfl, u⟩ := hq
    refine .inr ⟨_, rfl, leave_panic h32 (u.can hne2 c2) (u.can hne3 c3) fun w' u' h1 h2 => ⟨_, h1, _, h2, ?_, .inl ⟨by unfold evalN; rw [hx], _, rfl⟩⟩⟩
    exact Upd.then (Upd.trans U3 u) u' fun g hg e => by rcases e with e | e <;> omega
  | some x =>
    obtain ⟨c, k, r⟩ := x
    rw [hx] at hq
    obtain ⟨f, a', rfl, hf, hfc, hra, hst⟩ := hq
    have u := hst.ext
    have c2 := u.can hne2 c2
    have c3 := u.can hne3 c3
    refine .inl ⟨f, rfl, c2, fun ws hs => ?_⟩
    have us := hs.upd
    have st1 : St ws b s ws a' 0 (max 0 (0 + k)) := ⟨hst.blk.upd us fun e => hne2 e.symm, hst.le, Upd.refl _ _, Nat.zero_le _⟩
    refine (blanks_does hsz st1).imp ?_
    rintro e w8 ⟨rfl, a2, hra2, st2⟩
    refine ⟨rfl, fun wd hd => ?_⟩
    have st2 := st2.move hd.ext
    have u2 := st2.ext
    have hc2 : wd.cell? ⟨b2, 0, none⟩ = some (.float .f64 f) := u2.cell hne2 (hs.cell c2)
    have k2 : CanStore wd b2 0 := u2.can hne2 (hs.can c2)
    have k3 : CanStore wd b3 0 := u2.can hne3 (hs.can c3)
    have e1 := st2.blk.cell 1 rfl
    have e0 := st2.blk.cell 0 rfl
    refine ⟨fun z => z = wd ∨ Stored wd b2 0 (.float .f64 f) z, .inl rfl, f, ?_, b, 0, rfl, (a2 : Int), ?_, b, 0, rfl, s, ?_, k2, fun ws1 hs1 => ⟨.inr hs1, hs1.can k3, fun ws2 hs2 => leave_ok ?_⟩⟩
    · rintro z (rfl | h)
      · exact hc2
      · exact h.cell k2
    · rintro z (rfl | h)
      · exact e1
      · exact (h.upd.cell (fun e => hne2 e.symm) e1)
    · rintro z (rfl | h)
      · exact e0
      · exact (h.upd.cell (fun e => hne2 e.symm) e0)
    have hend : ((a2 : Int) == (s.size : Int)) = decide (skip r = []) := by
      have h1 := rest_len (s := s) a2
      have h2 := st2.le
      rw [← hra, ← hra2, Bool.eq_iff_iff, beq_iff_eq, decide_eq_true_eq]
      constructor
      · intro h; exact rest_end (by omega)
      · intro h; rw [h] at h1; simp at h1; omega
    refine ⟨f, (hs2.other (.inl (Ne.symm h32))).trans (hs1.cell k2), _, hs2.cell (hs1.can k3), ?_⟩
    rw [hend]
    have UU : Upd (fun z => z = b) w ws2 := by
      refine Upd.then (Upd.then (Upd.trans (Upd.then (Upd.trans U3 u) us fun g hg e => ?_) u2) hs1.upd fun g hg e => ?_) hs2.upd fun g hg e => ?_
      · omega
      · omega
      · omega
    have hm : ws2.cell? ⟨b, 3, none⟩ = some (.int .i64 ((k : Nat) : Int)) := by
      have := st2.blk.cell 3 rfl
      have := hs2.upd.cell (fun e => hne3 e.symm) (hs1.upd.cell (fun e => hne2 e.symm) this)
      rw [this, show max 0 (0 + k) = k by omega]
    refine ⟨UU, ?_⟩
    by_cases hsk : skip r = []
    · right
      rw [decide_eq_true hsk]
      exact ⟨c, k, f, expr_eval hx hsk, rfl, hf, hfc, hm⟩
    · left
      rw [decide_eq_false hsk]
      exact ⟨by unfold evalN; rw [hx]; simp only; rw [if_neg hsk], f, rfl⟩
/-- A text's value. -/
theorem eval_does (hT : Laid w) (s : ByteArray) : Does Tryz.prog 10 #[.string s] w fun e w' => ∃ f, e = .returned (.tuple #[.float .f64 f, .int .i64 (evalM (L s)).2]) ∧ Wd f ∧ cls f = (evalM (L s)).1 ∧ Ext w w' := by
  refine f10_does _ ?_
  have hl := L_len s
  have z0 : cls 0 = some 0 := by decide
  have w0' : Wd 0 := by unfold Wd; decide
  unfold evalM
  refine brr (fun q => ?_) fun q => ?_
  · have q := of_decide_eq_true q
    rw [if_pos (by omega)]
    exact ⟨0, rfl, w0', z0, Upd.refl _ _⟩
  have q := of_decide_eq_false q
  rw [if_neg (by omega)]
  intro b w1 n1
  have hge : w.heap.size ≤ b := by rw [n1.eq]; exact Nat.le_refl _
  refine (rdall_does (by omega) n1.blk fun w' u => hT.ext (Ext.loc n1.ext hge u)).imp ?_
  rintro e w15 ⟨u, ⟨hn, f, rfl⟩ | ⟨c, k, f, hn, rfl, hf, hfc, hk⟩⟩
  · rw [hn]
    exact ⟨_, _, rfl, tru rfl ⟨0, rfl, w0', z0, Ext.loc n1.ext hge u⟩⟩
  · rw [hn]
    refine ⟨_, _, rfl, fls rfl ⟨_, hk, brr (fun q => ?_) fun q => ?_⟩⟩
    · have q := of_decide_eq_true q
      simp only
      rw [if_pos (by omega)]
      exact ⟨0, rfl, w0', z0, Ext.loc n1.ext hge u⟩
    · have q := of_decide_eq_false q
      simp only
      rw [if_neg (by omega)]
      exact ⟨f, rfl, hf, hfc, Ext.loc n1.ext hge u⟩
end Go.Proofs.YtacinpadiiabjaaGreatDoor
