/-
  Expressions: what each function of the code does: the reader's first steps.
-/
import Derived.Test.YtacinpadiiabjaaGreatDoorReadNum
import Derived.Test.YtacinpadiiabjaaGreatDoorLocal
namespace Go.Proofs.YtacinpadiiabjaaGreatDoor
open Go.RowKit Go.Vc
def thrown : Ending := .panicked [{ v := .iface 60 (.agg #[]), recovered := false }]
/-- A reader's cells. -/
structure St (w0 : World) (b : Nat) (s : ByteArray) (w : World) (at_ d m : Nat) : Prop where
  blk : Blk w b [.string s, .int .i64 (at_ : Int), .int .i64 (d : Int), .int .i64 (m : Int)]
  le : at_ ≤ s.size
  ext : Upd (fun z => z = b) w0 w
  dm : d ≤ m
def rest (s : ByteArray) (at_ : Nat) : List Int := (L s).drop at_
theorem rest_cons {s : ByteArray} {a : Nat} (h : a < s.size) : rest s a = sb s (a : Int) :: rest s (a + 1) := by
  have h' : a < (L s).length := by rw [L_len]; exact h
  unfold rest
  rw [List.drop_eq_getElem_cons h', L_sb h']
theorem rest_end {s : ByteArray} {a : Nat} (h : s.size ≤ a) : rest s a = [] := by
  unfold rest; rw [List.drop_of_length_le (by rw [L_len]; exact h)]
theorem rest_len {s : ByteArray} (a : Nat) : (rest s a).length = s.size - a := by unfold rest; rw [List.length_drop, L_len]
theorem rest_add {s : ByteArray} (a k : Nat) : rest s (a + k) = (rest s a).drop k := by unfold rest; rw [List.drop_drop]
theorem skip_keep {x : Int} {r : List Int} (h : x ≠ 32) : skip (x :: r) = x :: r := by
  have : (x == 32) = false := by simpa using h
  unfold skip; rw [List.dropWhile_cons, this]; rfl
section
variable {w0 : World} {b : Nat} {s : ByteArray} (hsz : s.size ≤ 4096)
theorem St.move {w w' : World} {a d m : Nat} (h : St w0 b s w a d m) (x : Ext w w') : St w0 b s w' a d m := ⟨h.blk.ext x, h.le, Ext.then h.ext x, h.dm⟩
theorem St.at {w ws : World} {a d m a' : Nat} (h : St w0 b s w a d m) (hs : Stored w b 1 (.int .i64 (a' : Int)) ws) (ha : a' ≤ s.size) : St w0 b s ws a' d m :=
  ⟨h.blk.store hs, ha, Upd.trans h.ext hs.upd, h.dm⟩
include hsz in
theorem blanks_does {w : World} {a d m : Nat} (h : St w0 b s w a d m) : Does Tryz.prog 38 #[.pointer (some ⟨b, 0, none⟩)] w fun e w' => e = .returned (.tuple #[]) ∧ ∃ a', rest s a' = skip (rest s a) ∧ St w0 b s w' a' d m := by
  refine f38_does _ ⟨fun n wl => ∃ k, n = s.size - k ∧ skip (rest s k) = skip (rest s a) ∧ St w0 b s wl k d m, ⟨_, a, rfl, rfl, h⟩, ?_⟩
  rintro _ wl ⟨k, rfl, hk, hst⟩
  intro wd hd
  have hst := hst.move hd.ext
  refine ⟨b, 0, rfl, _, hst.blk.cell 1 rfl, b, 0, rfl, _, hst.blk.cell 0 rfl, brr (fun q => ?_) fun q => ?_⟩
  · have q := of_decide_eq_true q
    have hlt : k < s.size := by omega
    have hc := rest_cons hlt
    refine ⟨b, 0, rfl, _, hst.blk.cell 0 rfl, b, 0, rfl, _, hst.blk.cell 1 rfl, ⟨by omega, by omega⟩, brr (fun q2 => ?_) fun q2 => ?_⟩
    · have q2 : sb s (k : Int) = 32 := by simpa using q2
      refine ⟨b, 0, rfl, _, hst.blk.cell 1 rfl, inI64 (by omega) (by omega), b, 0, rfl, hst.blk.can 1 (by simp), fun ws hs => ⟨s.size - (k + 1), by omega, k + 1, rfl, ?_, hst.at (a' := k + 1) hs (by omega)⟩⟩
      rw [← hk, hc, q2]; rfl
    · have q2 : sb s (k : Int) ≠ 32 := by simpa using q2
      refine ⟨rfl, k, ?_, hst⟩
      rw [← hk, hc, skip_keep q2]
  · have q := of_decide_eq_false q
    refine ⟨rfl, k, ?_, hst⟩
    rw [← hk, rest_end (by omega)]; rfl
include hsz in
theorem takes_does (p : ByteArray) {w : World} {a d m : Nat} (h : St w0 b s w a d m) : Does Tryz.prog 61 #[.pointer (some ⟨b, 0, none⟩), .string p] w fun e w' => ∃ a', St w0 b s w' a' d m ∧
    ((∃ r, tk (L p) (rest s a) = some r ∧ rest s a' = r ∧ e = .returned (.bool true)) ∨ (tk (L p) (rest s a) = none ∧ rest s a' = skip (rest s a) ∧ e = .returned (.bool false))) := by
  refine f61_does _ _ ((blanks_does hsz h).imp ?_)
  rintro e w6 ⟨rfl, k, hk, hst⟩
  refine ⟨rfl, fun wd hd => ?_⟩
  have hst := hst.move hd.ext
  have hle := hst.le
  have hpl := L_len p
  have hrl := rest_len (s := s) k
  refine ⟨b, 0, rfl, _, hst.blk.cell 0 rfl, b, 0, rfl, _, hst.blk.cell 1 rfl, ⟨by omega, by omega⟩, hasp_does _ _ ⟨_, rfl, ?_⟩⟩
  rw [Int.toNat_natCast, L_from]
  have e1 : (L s).drop k = rest s k := rfl
  rw [e1, hk]
  refine brr (fun q => ?_) fun q => ?_
  · have q : (L p).isPrefixOf (skip (rest s a)) = false := by simpa using q
    exact ⟨k, hst, .inr ⟨by unfold tk; rw [q]; rfl, hk, rfl⟩⟩
  · have q : (L p).isPrefixOf (skip (rest s a)) = true := by simpa using q
    have hpre := List.IsPrefix.length_le (List.isPrefixOf_iff_prefix.1 q)
    rw [← hk] at hpre
    refine ⟨b, 0, rfl, _, hst.blk.cell 1 rfl, inI64 (by omega) (by omega), b, 0, rfl, hst.blk.can 1 (by simp), fun ws hs => ⟨k + p.size, hst.at (a' := k + p.size) (by rw [show ((k + p.size : Nat) : Int) = (k : Int) + (p.size : Int) by omega]; exact hs) (by omega), .inl ⟨_, by unfold tk; rw [q]; rfl, ?_, rfl⟩⟩⟩
    rw [rest_add, hk, hpl]
/-- What reading comes to. -/
def QR (w0 : World) (b : Nat) (s : ByteArray) (x : Res) (d m : Nat) (e : Ending) (w' : World) : Prop :=
  match x with
  | none => e = thrown ∧ Upd (fun z => z = b) w0 w'
  | some (c, k, r) => ∃ f a', e = .returned (.float .f64 f) ∧ Wd f ∧ cls f = c ∧ rest s a' = r ∧ St w0 b s w' a' d (max m (d + k))
theorem must_does {w : World} {c : Bool} {R : Ending → World → Prop} (h1 : c = true → R (.returned (.tuple #[])) w) (h2 : c = false → R thrown w) : Does Tryz.prog 145 #[.bool c] w R := by
  refine f145_does _ (brr (fun q => ?_) fun q => ?_)
  · exact h2 (by simpa using q)
  · exact h1 (by simpa using q)
theorem isNum_iff (c : Int) : isNum c = true ↔ c = 46 ∨ (48 ≤ c ∧ c ≤ 57) := by unfold isNum; simp
include hsz in
theorem number_does (hT : ∀ w, Upd (fun z => z = b) w0 w → Laid w) {w : World} {a d m : Nat} (h : St w0 b s w a d m) (hsk : skip (rest s a) = rest s a) : Does Tryz.prog 119 #[.pointer (some ⟨b, 0, none⟩)] w (QR w0 b s (numP (rest s a)) d m) := by
  refine f119_does _ ⟨b, 0, rfl, _, h.blk.cell 1 rfl, fun n wl => ∃ j, n = s.size - (a + j) ∧ (∀ x ∈ (rest s a).take j, isNum x = true) ∧ j ≤ (rest s a).length ∧ St w0 b s wl (a + j) d m, ⟨_, 0, rfl, fun x hx => by simp at hx, Nat.zero_le _, h⟩, ?_⟩
  rintro _ wl ⟨j, rfl, hall, hjl, hst⟩
  intro wd hd
  have hst := hst.move hd.ext
  have hle := hst.le
  have hal := h.le
  have hrl := rest_len (s := s) a
  have C1 : ∀ z, z = wd → z.cell? ⟨b, 0 + 1, none⟩ = some (.int .i64 ((a + j : Nat) : Int)) := fun z e => by rw [e]; exact hst.blk.cell 1 rfl
  have C0 : ∀ z, z = wd → z.cell? ⟨b, 0, none⟩ = some (.string s) := fun z e => by rw [e]; exact hst.blk.cell 0 rfl
  have go : a + j < s.size → isNum (sb s ((a + j : Nat) : Int)) = true → ∃ b57 o57, some (⟨b, 0, none⟩ : Addr) = some ⟨b57, o57, none⟩ ∧ ∃ n59 : Int, wd.cell? ⟨b57, o57 + 1, none⟩ = some (.int .i64 n59) ∧ InK .i64 (n59 + 1) ∧ ∃ b61 o61, some (⟨b, 0, none⟩ : Addr) = some ⟨b61, o61, none⟩ ∧ CanStore wd b61 (o61 + 1) ∧ ∀ ws, Stored wd b61 (o61 + 1) (.int .i64 (n59 + 1)) ws →
      ∃ ml2, ml2 < s.size - (a + j) ∧ ∃ j', ml2 = s.size - (a + j') ∧ (∀ x ∈ (rest s a).take j', isNum x = true) ∧ j' ≤ (rest s a).length ∧ St w0 b s ws (a + j') d m := fun hlt hn => by
    refine ⟨b, 0, rfl, _, C1 _ rfl, inI64 (by omega) (by omega), b, 0, rfl, hst.blk.can 1 (by simp), fun ws hs => ⟨s.size - (a + (j + 1)), by omega, j + 1, rfl, fun x hx => ?_, by omega, hst.at (a' := a + (j + 1)) (by rw [show ((a + (j + 1) : Nat) : Int) = ((a + j : Nat) : Int) + 1 by omega]; exact hs) (by omega)⟩⟩
    have hjl : j < (rest s a).length := by omega
    rw [List.take_succ_eq_append_getElem hjl] at hx
    rcases List.mem_append.1 hx with hx | hx
    · exact hall x hx
    · have : (rest s a)[j] = sb s ((a + j : Nat) : Int) := by
        have h1 := rest_cons hlt
        rw [rest_add, List.drop_eq_getElem_cons hjl] at h1
        exact (List.cons.inj h1).1
      simp only [List.mem_singleton] at hx
      rw [hx, this]; exact hn
  have stop : (∀ x r, rest s (a + j) = x :: r → isNum x = false) → ∃ b64 o64, some (⟨b, 0, none⟩ : Addr) = some ⟨b64, o64, none⟩ ∧ ∃ n66 : Int, wd.cell? ⟨b64, o64 + 1, none⟩ = some (.int .i64 n66) ∧ Does Tryz.prog 145 #[.bool (decide (n66 > (a : Int)))] wd fun e69 w69 =>
      (e69 = .returned (.tuple #[]) ∧ ∀ wd5, Drew w69 wd5 →
      ∃ S5 : World → Prop, S5 wd5 ∧ ∃ b72 o72, some (⟨b, 0, none⟩ : Addr) = some ⟨b72, o72, none⟩ ∧ ∃ s74 : ByteArray, (∀ w, S5 w → w.cell? ⟨b72, o72, none⟩ = some (.string s74)) ∧ ∃ b77 o77, some (⟨b, 0, none⟩ : Addr) = some ⟨b77, o77, none⟩ ∧ ∃ n79 : Int, (∀ w, S5 w → w.cell? ⟨b77, o77 + 1, none⟩ = some (.int .i64 n79)) ∧ ((0 : Int) ≤ n79 ∧ n79 ≤ (s74.size : Int)) ∧ ((0 : Int) ≤ (a : Int) ∧ (a : Int) ≤ n79) ∧ Does Tryz.prog 13 #[.string (s74.extract (((a : Int)).toNat) ((n79).toNat))] wd5 fun e81 w81 =>
      ∃ f81 : Nat, ∃ b81 : Bool, e81 = .returned (.tuple #[.float .f64 f81, .bool b81]) ∧ Does Tryz.prog 145 #[.bool b81] w81 fun e85 w85 =>
      (e85 = .returned (.tuple #[]) ∧ QR w0 b s (numP (rest s a)) d m (.returned (.float .f64 f81)) w85) ∨ (∃ ch85, e85 = .panicked ch85 ∧ QR w0 b s (numP (rest s a)) d m (.panicked ch85) w85)) ∨ (∃ ch69, e69 = .panicked ch69 ∧ QR w0 b s (numP (rest s a)) d m (.panicked ch69) w69) := fun hstop => by
    have htw : (rest s a).takeWhile isNum = (rest s a).take j := by
      have hsplit : rest s a = (rest s a).take j ++ rest s (a + j) := by rw [rest_add, List.take_append_drop]
      conv => lhs; rw [hsplit]
      have tw : ∀ q r : List Int, (∀ x ∈ q, isNum x = true) → (q ++ r).takeWhile isNum = q ++ r.takeWhile isNum := fun q r => by
        induction q with
        | nil => intro _; rfl
        | cons y t ih => intro hy; rw [List.cons_append, List.takeWhile_cons, if_pos (hy y List.mem_cons_self), ih fun x hx => hy x (List.mem_cons_of_mem _ hx)]; rfl
      rw [tw _ _ hall]
      cases hr : rest s (a + j) with
      | nil => simp
      | cons x r => rw [List.takeWhile_cons, hstop x r hr]; simp
    have hnum : numP (rest s a) = match decC ((rest s a).take j) with
      | none => none
      | some c => some (c, 0, (rest s a).drop j) := by
      unfold numP
      rw [hsk, htw, List.length_take, Nat.min_eq_left hjl]
      cases decC ((rest s a).take j) <;> rfl
    refine ⟨b, 0, rfl, _, C1 _ rfl, must_does (fun q => .inl ⟨rfl, fun wd5 hd5 => ?_⟩) fun q => .inr ⟨_, rfl, ?_⟩⟩
    · have q := of_decide_eq_true q
      have hst := hst.move hd5.ext
      refine ⟨fun z => z = wd5, rfl, b, 0, rfl, s, fun z e => by rw [e]; exact hst.blk.cell 0 rfl, b, 0, rfl, _, fun z e => by rw [e]; exact hst.blk.cell 1 rfl, ⟨by omega, by omega⟩, ⟨by omega, by omega⟩, ?_⟩
      rw [Int.toNat_natCast, Int.toNat_natCast]
      have hL : L (s.extract a (a + j)) = (rest s a).take j := by
        rw [L_sub hle, ← List.take_drop]; rfl
      have hsz2 : (s.extract a (a + j)).size ≤ 1000000 := by rw [← L_len, hL, List.length_take]; omega
      refine (read_does (s.extract a (a + j)) hsz2 (fun r hr => ?_) (fun x r hr => ?_) (hT _ hst.ext)).imp ?_
      · rw [hL] at hr
        have := hall 45 (by rw [hr]; exact List.mem_cons_self)
        exact absurd this (by decide)
      · rw [hL] at hr
        have := hall 120 (by rw [hr]; exact List.mem_cons_of_mem _ List.mem_cons_self)
        exact absurd this (by decide)
      rintro e w81 ⟨f, bo, rfl, hf, x81, hm⟩
      have hst := hst.move x81
      have hM : readM ((rest s a).take j) = decC ((rest s a).take j) := by
        unfold readM
        have a1 : (rest s a).take j ≠ [110, 97, 110] := fun e => absurd (hall 110 (by rw [e]; simp)) (by decide)
        have a2 : (rest s a).take j ≠ [105, 110, 102] := fun e => absurd (hall 105 (by rw [e]; simp)) (by decide)
        rw [if_neg a1, if_neg a2]
      rw [hL, hM] at hm
      refine ⟨f, bo, rfl, must_does (fun q => .inl ⟨rfl, ?_⟩) fun q => .inr ⟨_, rfl, ?_⟩⟩
      · rw [q, if_pos rfl] at hm
        rw [hnum, hm]
        refine ⟨f, a + j, rfl, hf, rfl, ?_, ?_⟩
        · rw [rest_add]
        · rw [Nat.add_zero, Nat.max_eq_left hst.dm]; exact hst
      · rw [q, if_neg (by simp)] at hm
        rw [hnum, hm]
        exact ⟨rfl, hst.ext⟩
    · have q := of_decide_eq_false q
      have hj0 : j = 0 := by omega
      rw [hnum, hj0, List.take_zero, decC_nil]
      exact ⟨rfl, hst.ext⟩
  refine ⟨fun z => z = wd, rfl, b, 0, rfl, _, C1, b, 0, rfl, s, C0, brr (fun q => ?_) fun q => ?_⟩
  · have q := of_decide_eq_true q
    have hlt : a + j < s.size := by omega
    have hrc := rest_cons hlt
    refine ⟨b, 0, rfl, s, C0, b, 0, rfl, _, C1, ⟨by omega, by omega⟩, brr (fun q2 => ?_) fun q2 => ⟨b, 0, rfl, s, C0, b, 0, rfl, _, C1, ⟨by omega, by omega⟩, brr (fun q3 => ⟨b, 0, rfl, s, C0, b, 0, rfl, _, C1, ⟨by omega, by omega⟩, brr (fun q4 => ?_) fun q4 => ?_⟩) fun q3 => ?_⟩⟩
    · exact go hlt ((isNum_iff _).2 (.inl (by simpa using q2)))
    · exact go hlt ((isNum_iff _).2 (.inr ⟨by have := of_decide_eq_true q3; omega, of_decide_eq_true q4⟩))
    · refine stop fun x r hr => ?_
      rw [hrc] at hr
      obtain ⟨rfl, _⟩ := List.cons.inj hr
      rw [Bool.eq_false_iff]
      intro k
      have q2 : sb s ((a + j : Nat) : Int) ≠ 46 := by simpa using q2
      have := of_decide_eq_false q4
      rcases (isNum_iff _).1 k with k | k
      · exact q2 k
      · exact this k.2
    · refine stop fun x r hr => ?_
      rw [hrc] at hr
      obtain ⟨rfl, _⟩ := List.cons.inj hr
      rw [Bool.eq_false_iff]
      intro k
      have q2 : sb s ((a + j : Nat) : Int) ≠ 46 := by simpa using q2
      have := of_decide_eq_false q3
      rcases (isNum_iff _).1 k with k | k
      · exact q2 k
      · exact this k.1
  · have q := of_decide_eq_false q
    exact stop fun x r hr => by rw [rest_end (by omega)] at hr; cases hr
end
end Go.Proofs.YtacinpadiiabjaaGreatDoor
