/-
  Keys: what each function of the code does.
-/
import Derived.Test.YteggcicicdcnlaaKeysWords
import Derived.Lib.Bytealg
namespace Go.Vc
open Go.RowKit
theorem indexByte_iff (l : List UInt8) (c : UInt8) : 0 ≤ Lib.indexByte l c ↔ c ∈ l := by
  induction l with
  | nil => simp [Lib.indexByte]
  | cons b l ih =>
    have hge := Lib.indexByte_ge l c
    unfold Lib.indexByte
    by_cases hb : b = c
    · subst hb; simp
    · have hb' : (b == c) = false := by simpa using hb
      rw [hb']
      simp only [Bool.false_eq_true, if_false, List.mem_cons]
      have hcb : c ≠ b := fun e => hb e.symm
      by_cases hm : Lib.indexByte l c = -1
      · simp only [hm, beq_self_eq_true, if_true]
        rw [hm] at ih
        constructor
        · intro h; omega
        · rintro (h | h)
          · exact absurd h hcb
          · have := ih.2 h; omega
      · have : (Lib.indexByte l c == -1) = false := by simpa using hm
        simp only [this, Bool.false_eq_true, if_false]
        constructor
        · intro h; exact .inr (ih.1 (by omega))
        · rintro (h | h)
          · exact absurd h hcb
          · have := ih.2 h; omega
theorem mem_L {s : ByteArray} {c : Int} (hc : InK .u8 c) : c.toNat.toUInt8 ∈ s.data.toList ↔ c ∈ L s := by
  have h0 : 0 ≤ c := hc.1
  have h1 : c ≤ 255 := hc.2
  unfold L
  rw [List.mem_map]
  constructor
  · intro h
    refine ⟨_, h, ?_⟩
    simp
    omega
  · rintro ⟨b, hb, e⟩
    have : c.toNat.toUInt8 = b := by
      apply UInt8.toNat_inj.1
      simp
      omega
    rw [this]; exact hb
theorem min99_eq (n : Int) : (if 99 < n then 99 else n) = min99 n := rfl
end Go.Vc
namespace Go.Proofs.Yteggcicicdcnlaa
open Go.RowKit Go.Vc
section
variable {w : World}
theorem between_does (k a b : Int) : Does Try.prog 32 #[.int .u8 k, .int .u8 a, .int .u8 b] w fun e w' => e = .returned (.bool (decide (a ≤ k ∧ k ≤ b))) ∧ w' = w := by
  apply f32_does
  refine brr (fun j => ⟨?_, rfl⟩) fun j => ⟨?_, rfl⟩
  · have j := of_decide_eq_true j
    congr 3
    exact propext ⟨fun h => ⟨j, h⟩, fun h => h.2⟩
  · have j := of_decide_eq_false j
    rw [decide_eq_false (by omega)]
theorem idx3_does (s : ByteArray) (c : Int) : Does Try.prog 45 #[.string s, .int .u8 c] w fun e w' => e = .returned (.int .i64 (Lib.indexByte s.data.toList c.toNat.toUInt8)) ∧ w' = w := by
  refine .inr ⟨by kernel_rfl, _, w, ?_, rfl, rfl⟩
  rw [run_callFunc_extern Try.func45 (by kernel_rfl) (by kernel_rfl) (by kernel_rfl) (e := Extern.BytealgIndexByte.indexByte) (by kernel_rfl), Lib.run_indexByteString]
  rfl
theorem idx_does (s : ByteArray) {c : Int} (hc : InK .u8 c) : Does Try.prog 36 #[.string s, .int .u8 c] w fun e w' => ∃ n : Int, e = .returned (.int .i64 n) ∧ decide (n ≥ 0) = decide (c ∈ L s) ∧ w' = w := by
  apply f36_does
  refine Does.imp (R := fun e w' => ∃ n : Int, e = .returned (.int .i64 n) ∧ decide (n ≥ 0) = decide (c ∈ L s) ∧ w' = w) ?_ ?_
  · apply f43_does
    refine (idx3_does s c).imp ?_
    rintro e w' ⟨rfl, rfl⟩
    refine ⟨_, rfl, _, rfl, ?_, rfl⟩
    congr 1
    rw [← mem_L hc, ← indexByte_iff]
  · rintro e w' ⟨n, rfl, h, rfl⟩
    exact ⟨_, rfl, n, rfl, h, rfl⟩
theorem long_does (c : Int) : Does Try.prog 44 #[.int .u8 c] w fun e w' => e = .returned (.int .i64 (longK c)) ∧ w' = w := by
  apply f44_does
  unfold longK
  refine (between_does c 194 223).imp ?_
  rintro e w5 ⟨rfl, rfl⟩
  refine ⟨_, rfl, brr (fun q => ?_) fun q => ?_⟩
  · rw [if_pos (of_decide_eq_true q)]; exact ⟨rfl, rfl⟩
  rw [if_neg (of_decide_eq_false q)]
  refine (between_does c 224 239).imp ?_
  rintro e w8 ⟨rfl, rfl⟩
  refine ⟨_, rfl, brr (fun q => ?_) fun q => ?_⟩
  · rw [if_pos (of_decide_eq_true q)]; exact ⟨rfl, rfl⟩
  rw [if_neg (of_decide_eq_false q)]
  refine (between_does c 240 244).imp ?_
  rintro e w11 ⟨rfl, rfl⟩
  refine ⟨_, rfl, brr (fun q => ?_) fun q => ?_⟩
  · rw [if_pos (of_decide_eq_true q)]; exact ⟨rfl, rfl⟩
  · rw [if_neg (of_decide_eq_false q)]; exact ⟨rfl, rfl⟩
end
/-- What a parser's numbers keep. -/
structure Rg (s : PS) : Prop where
  n0 : 0 ≤ s.n0 ∧ s.n0 ≤ 99
  n1 : 0 ≤ s.n1 ∧ s.n1 ≤ 99
  op : s.here = true → s.key ≠ [] ∧ s.key.length ≤ 2
theorem rg_of {s : PS} (h : WF s) : Rg s := ⟨h.n0, h.n1, fun hh => by
  rcases (h.op hh).1 with ⟨k, _, e⟩ | ⟨k, _, e⟩ <;> rw [e] <;> exact ⟨by simp, by simp⟩⟩
section
variable {w : World} {g : Nat} {s : PS} {B : List Int} {kb ab : Option Nat}
theorem upd_pt {w' : World} (u : Upd (fun z => z = g) w w') : Upd (PT g kb ab) w w' := u.mono fun _ _ e => .inl e
theorem goon_does (h : Ps w g s B kb ab) (t : Tag) : Does Try.prog 26 #[.pointer (some ⟨g, 0, none⟩), fnV g t] w (StepR w g B kb ab ({ s with tag := t }, 0)) := by
  obtain ⟨pk, lk, ck, sk, sm, pa, la, ca, h⟩ := h
  apply f26_does
  exact ⟨g, 0, rfl, h.st (s' := { s with tag := t }) (by decide) rfl rfl h.hsk h.hsm fun w' h' u => ⟨rfl, ab, ⟨_, _, _, _, _, _, _, _, h'⟩, upd_pt u, .inl rfl⟩⟩
/-- A store, then another state. -/
theorem goon_after {w1 : World} (u : Upd (fun z => z = g) w w1) (h : Ps w1 g s B kb ab) (t : Tag) : Does Try.prog 26 #[.pointer (some ⟨g, 0, none⟩), fnV g t] w1 (StepR w g B kb ab ({ s with tag := t }, 0)) :=
  (goon_does h t).imp fun _ _ h => h.after u fun _ _ e => .inl e
theorem moves_does (h : Ps w g s B kb ab) (x : ByteArray) : Does Try.prog 35 #[.pointer (some ⟨g, 0, none⟩), .string x] w (StepR w g B kb ab ({ s with mot := L x }, 1)) := by
  obtain ⟨pk, lk, ck, sk, sm, pa, la, ca, h⟩ := h
  apply f35_does
  exact ⟨g, 0, rfl, h.st (s' := { s with mot := L x }) (by decide) rfl rfl h.hsk rfl fun w' h' u => ⟨rfl, ab, ⟨_, _, _, _, _, _, _, _, h'⟩, upd_pt u, .inl rfl⟩⟩
theorem plain_does (h : Ps w g s B kb ab) (x : ByteArray) : Does Try.prog 41 #[.pointer (some ⟨g, 0, none⟩), .string x] w (StepR w g B kb ab ({ s with key := L x }, 1)) := by
  obtain ⟨pk, lk, ck, sk, sm, pa, la, ca, h⟩ := h
  apply f41_does
  exact ⟨g, 0, rfl, h.st (s' := { s with key := L x }) (by decide) rfl rfl rfl h.hsm fun w' h' u => ⟨rfl, ab, ⟨_, _, _, _, _, _, _, _, h'⟩, upd_pt u, .inl rfl⟩⟩
theorem operator_does (h : Ps w g s B kb ab) (x : ByteArray) : Does Try.prog 40 #[.pointer (some ⟨g, 0, none⟩), .string x] w (StepR w g B kb ab ({ s with key := L x, here := true, tag := .counted }, 0)) := by
  obtain ⟨pk, lk, ck, sk, sm, pa, la, ca, h⟩ := h
  apply f40_does
  refine ⟨g, 0, rfl, h.st (s' := { s with key := L x }) (by decide) rfl rfl rfl h.hsm fun w1 h1 u1 => ⟨g, 0, rfl, h1.st (s' := { s with key := L x, here := true }) (by decide) rfl rfl rfl h1.hsm fun w2 h2 u2 => ?_⟩⟩
  refine (goon_after (Upd.trans u1 u2) ⟨_, _, _, _, _, _, _, _, h2⟩ .counted).imp ?_
  rintro e w' ⟨rfl, hr⟩
  exact ⟨_, rfl, rfl, hr⟩
/-- Handed on. -/
theorem on_does {f : FuncId} {args : Array Value} {p : PS × Int} (h : Does Try.prog f args w (StepR w g B kb ab p)) {w0 : World} (u : Upd (PT g kb ab) w0 w) : Does Try.prog f args w fun e w' => ∃ n : Int, e = .returned (.int .i64 n) ∧ StepR w0 g B kb ab p (.returned (.int .i64 n)) w' :=
  h.imp fun e w' h => ⟨p.2, h.1, (by rw [← h.1]; exact h.after u fun _ _ e => e)⟩
theorem pt_ext {w' : World} (x : Ext w w') : Upd (PT g kb ab) w w' := x.mono fun _ _ e => e.elim
theorem motion_does (h : Ps w g s B kb ab) (hr : Rg s) {k : Int} (hk : InK .u8 k) : Does Try.prog 33 #[.pointer (some ⟨g, 0, none⟩), .int .u8 k] w (StepR w g B kb ab (motionP s k)) := by
  apply f33_does
  intro b7 w7 hb7
  have hI := hb7.ints (k := .u8) [k] rfl (by simpa using hk)
  refine ⟨_, w7, conv_str Try.underlying27 Try.underlying5 Try.underlying9 hI rfl 1, fun wd hd => ?_⟩
  have hL : L (strOfNums [k]) = [k] := L_nums (by simpa using hk)
  have X := Ext.thn hb7.ext hd.ext
  have H := h.ext X
  have Xu : Upd (PT g kb ab) w wd := pt_ext X
  obtain ⟨pk, lk, ck, sk, sm, pa, la, ca, M⟩ := H
  have H : Ps wd g s B kb ab := ⟨_, _, _, _, _, _, _, _, M⟩
  have hmk : ∀ (s0 : PS), L (strOfNums [k]) = ({ s0 with mot := [k] } : PS).mot := fun _ => hL
  -- the motions by themselves
  have rest : ¬ (s.here = true ∧ k = lastK s.key) → ∀ {w' : World}, w' = wd → Does Try.prog 36 #[.string (({ data := #[104, 108, 106, 107, 48, 94, 36, 119, 98, 101, 71, 123, 125, 37, 124, 110, 78, 42, 59, 44] } : ByteArray)), .int .u8 k] w' fun e36 w36 =>
      ∃ n36 : Int, e36 = .returned (.int .i64 n36) ∧ Br (decide (n36 ≥ 0))
      (Does Try.prog 35 #[.pointer (some ⟨g, 0, none⟩), .string (strOfNums [k])] w36 fun e40 w40 => ∃ n40 : Int, e40 = .returned (.int .i64 n40) ∧ StepR w g B kb ab (motionP s k) (.returned (.int .i64 n40)) w40)
      (Does Try.prog 36 #[.string (({ data := #[102, 70, 116, 84] } : ByteArray)), .int .u8 k] w36 fun e43 w43 => ∃ n43 : Int, e43 = .returned (.int .i64 n43) ∧ Br (decide (n43 ≥ 0))
      (∃ b47 o47, (some ⟨g, 0, none⟩ : Option Addr) = some ⟨b47, o47, none⟩ ∧ CanStore w43 b47 (o47 + 7) ∧ ∀ ws, Stored w43 b47 (o47 + 7) (.string (strOfNums [k])) ws → Does Try.prog 26 #[.pointer (some ⟨g, 0, none⟩), .func (.func 37) #[.pointer (some ⟨g, 0, none⟩)] #[]] ws fun e53 w53 => ∃ n53 : Int, e53 = .returned (.int .i64 n53) ∧ StepR w g B kb ab (motionP s k) (.returned (.int .i64 n53)) w53)
      (Br (k == 39)
      (∃ b63 o63, (some ⟨g, 0, none⟩ : Option Addr) = some ⟨b63, o63, none⟩ ∧ CanStore w43 b63 (o63 + 7) ∧ ∀ ws_1, Stored w43 b63 (o63 + 7) (.string (strOfNums [k])) ws_1 → Does Try.prog 26 #[.pointer (some ⟨g, 0, none⟩), .func (.func 38) #[.pointer (some ⟨g, 0, none⟩)] #[]] ws_1 fun e69 w69 => ∃ n69 : Int, e69 = .returned (.int .i64 n69) ∧ StepR w g B kb ab (motionP s k) (.returned (.int .i64 n69)) w69)
      (Br (k == 96)
      (∃ b63 o63, (some ⟨g, 0, none⟩ : Option Addr) = some ⟨b63, o63, none⟩ ∧ CanStore w43 b63 (o63 + 7) ∧ ∀ ws_1, Stored w43 b63 (o63 + 7) (.string (strOfNums [k])) ws_1 → Does Try.prog 26 #[.pointer (some ⟨g, 0, none⟩), .func (.func 38) #[.pointer (some ⟨g, 0, none⟩)] #[]] ws_1 fun e69 w69 => ∃ n69 : Int, e69 = .returned (.int .i64 n69) ∧ StepR w g B kb ab (motionP s k) (.returned (.int .i64 n69)) w69)
      (Br (k == 103)
      (∃ b75 o75, (some ⟨g, 0, none⟩ : Option Addr) = some ⟨b75, o75, none⟩ ∧ ∃ n77 : Int, w43.cell? ⟨b75, o75 + 11, none⟩ = some (.int .i64 n77) ∧ Br (decide (n77 > 0))
      (Does Try.prog 26 #[.pointer (some ⟨g, 0, none⟩), .func (.func 39) #[.pointer (some ⟨g, 0, none⟩)] #[]] w43 fun e83 w83 => ∃ n83 : Int, e83 = .returned (.int .i64 n83) ∧ StepR w g B kb ab (motionP s k) (.returned (.int .i64 n83)) w83)
      (StepR w g B kb ab (motionP s k) (.returned (.int .i64 2)) w43))
      (StepR w g B kb ab (motionP s k) (.returned (.int .i64 2)) w43))))) := by
    rintro hno _ rfl
    unfold motionP
    rw [if_neg hno]
    refine (idx_does _ hk).imp ?_
    rintro e w36 ⟨n, rfl, hn, rfl⟩
    refine ⟨_, rfl, ?_⟩
    rw [hn]
    refine brr (fun q => ?_) fun q => ?_
    · have q : k ∈ mots := of_decide_eq_true q
      rw [if_pos q]
      have := moves_does H (strOfNums [k])
      rw [hL] at this
      exact on_does this Xu
    have q : k ∉ mots := of_decide_eq_false q
    rw [if_neg q]
    refine (idx_does _ hk).imp ?_
    rintro e w43 ⟨n, rfl, hn, rfl⟩
    refine ⟨_, rfl, ?_⟩
    rw [hn]
    refine brr (fun q1 => ?_) fun q1 => ?_
    · have q1 : k ∈ finds := of_decide_eq_true q1
      rw [if_pos q1]
      exact ⟨g, 0, rfl, M.st (s' := { s with mot := [k] }) (by decide) rfl rfl M.hsk hL fun w1 h1 u1 => (goon_does ⟨_, _, _, _, _, _, _, _, h1⟩ .letter).imp fun e w' h => ⟨_, h.1, by rw [← h.1]; exact (h.after u1 fun _ _ e => .inl e).after Xu fun _ _ e => e⟩⟩
    have q1 : k ∉ finds := of_decide_eq_false q1
    rw [if_neg q1]
    refine brr (fun q2 => ?_) fun q2 => brr (fun q3 => ?_) fun q3 => ?_
    · have q2 : k = 39 := by simpa using q2
      rw [if_pos (.inl q2)]
      exact ⟨g, 0, rfl, M.st (s' := { s with mot := [k] }) (by decide) rfl rfl M.hsk hL fun w1 h1 u1 => (goon_does ⟨_, _, _, _, _, _, _, _, h1⟩ .name).imp fun e w' h => ⟨_, h.1, by rw [← h.1]; exact (h.after u1 fun _ _ e => .inl e).after Xu fun _ _ e => e⟩⟩
    · have q3 : k = 96 := by simpa using q3
      rw [if_pos (.inr q3)]
      exact ⟨g, 0, rfl, M.st (s' := { s with mot := [k] }) (by decide) rfl rfl M.hsk hL fun w1 h1 u1 => (goon_does ⟨_, _, _, _, _, _, _, _, h1⟩ .name).imp fun e w' h => ⟨_, h.1, by rw [← h.1]; exact (h.after u1 fun _ _ e => .inl e).after Xu fun _ _ e => e⟩⟩
    have q2 : k ≠ 39 := by simpa using q2
    have q3 : k ≠ 96 := by simpa using q3
    rw [if_neg (by omega)]
    have none : ¬ (k = 103 ∧ s.here = true) → StepR w g B kb ab (if k = 103 ∧ s.here = true then ({ s with tag := .again }, 0) else (s, 2)) (.returned (.int .i64 2)) w43 := fun hn => by
      rw [if_neg hn]; exact ⟨rfl, ab, H, Xu, .inl rfl⟩
    refine brr (fun q4 => ?_) fun q4 => ?_
    · have q4 : k = 103 := by simpa using q4
      refine ⟨g, 0, rfl, _, M.blk.cell 11 rfl, ?_⟩
      by_cases hh : s.here = true
      · refine tru (by rw [hh]; rfl) ?_
        rw [if_pos ⟨q4, hh⟩]
        have := goon_does H .again
        exact this.imp fun e w' h => ⟨_, h.1, by rw [← h.1]; exact h.after Xu fun _ _ e => e⟩
      · exact fls (by rw [show s.here = false by simpa using hh]; rfl) (none fun e => hh e.2)
    · have q4 : k ≠ 103 := by simpa using q4
      exact none fun e => q4 e.1
  refine ⟨g, 0, rfl, _, M.blk.cell 11 rfl, ?_⟩
  cases hh : s.here with
  | false => exact fls rfl (rest (fun e => by rw [hh] at e; cases e.1) rfl)
  | true =>
    refine tru rfl ⟨g, 0, rfl, _, M.blk.cell 6 rfl, g, 0, rfl, _, M.blk.cell 6 rfl, ?_⟩
    obtain ⟨o1, o2⟩ := hr.op hh
    have hsz := L_len sk
    rw [M.hsk] at hsz
    have hpos : 0 < s.key.length := List.length_pos_iff.2 o1
    have e1 : ((sk.size : Int) - 1) = ((s.key.length - 1 : Nat) : Int) := by omega
    have hlast : sb sk ((s.key.length - 1 : Nat) : Int) = lastK s.key := by
      have := L_sb (s := sk) (i := s.key.length - 1) (by rw [M.hsk]; omega)
      rw [this]
      simp only [M.hsk]
      unfold lastK
      rw [List.getLastD_eq_getLast?, List.getLast?_eq_getElem?, List.getElem?_eq_getElem (by omega)]
      rfl
    rw [e1, hlast]
    refine ⟨inI64 (by omega) (by omega), ⟨by omega, by omega⟩, brr (fun q => ?_) fun q => ?_⟩
    · have q : k = lastK s.key := by simpa using q
      have := moves_does H ({ data := #[95] } : ByteArray)
      have hp : motionP s k = ({ s with mot := [95] }, 1) := by unfold motionP; rw [if_pos ⟨hh, q⟩]
      rw [hp]
      exact on_does this Xu
    · have q : k ≠ lastK s.key := by simpa using q
      exact rest (fun e => q e.2) rfl
theorem command_does (h : Ps w g s B kb ab) (hr : Rg s) (hh : s.here = false) {k : Int} (hk : InK .u8 k) : Does Try.prog 34 #[.pointer (some ⟨g, 0, none⟩), .int .u8 k] w (StepR w g B kb ab (commandP s k)) := by
  apply f34_does
  have H := h
  obtain ⟨pk, lk, ck, sk, sm, pa, la, ca, M⟩ := h
  have hpl : ∀ x : ByteArray, L x = [k] → ∀ {wv : World}, Ext w wv → k ∈ plains s.visual → ¬ (s.visual = false ∧ k ∈ opers) → Does Try.prog 41 #[.pointer (some ⟨g, 0, none⟩), .string x] wv fun e w' => ∃ n : Int, e = .returned (.int .i64 n) ∧ StepR w g B kb ab (commandP s k) (.returned (.int .i64 n)) w' := fun x hx wv xv h1 h2 => by
    have := plain_does (H.ext xv) x
    rw [hx] at this
    have hp : commandP s k = ({ s with key := [k] }, 1) := by unfold commandP; rw [if_neg h2, if_pos h1]
    rw [hp]
    exact on_does this (pt_ext xv)
  have str1 : ∀ {wv w1 : World} {b : Nat}, NewBlk wv b [.int .u8 k] 5 w1 → (convert 27 9 (.slice (some ⟨b, 0, none⟩) 1 1)).run Try.prog w1 = .ok (.string (strOfNums [k])) w1 := fun hb =>
    conv_str Try.underlying27 Try.underlying5 Try.underlying9 (hb.ints (k := .u8) [k] rfl (by simpa using hk)) rfl 1
  have hL : L (strOfNums [k]) = [k] := L_nums (by simpa using hk)
  -- behind the plain ones
  have tail : ¬ (s.visual = false ∧ k ∈ opers) → k ∉ plains s.visual → ¬ (s.visual = false ∧ k = 18) →
      Br (k == 114)
        (∃ b52 o52, (some ⟨g, 0, none⟩ : Option Addr) = some ⟨b52, o52, none⟩ ∧ CanStore w b52 (o52 + 6) ∧ ∀ ws, Stored w b52 (o52 + 6) (.string (({ data := #[114] } : ByteArray))) ws → Does Try.prog 26 #[.pointer (some ⟨g, 0, none⟩), .func (.func 37) #[.pointer (some ⟨g, 0, none⟩)] #[]] ws fun e58 w58 => ∃ n58 : Int, e58 = .returned (.int .i64 n58) ∧ StepR w g B kb ab (commandP s k) (.returned (.int .i64 n58)) w58)
        (Br (k == 109)
        (∃ b63 o63, (some ⟨g, 0, none⟩ : Option Addr) = some ⟨b63, o63, none⟩ ∧ CanStore w b63 (o63 + 6) ∧ ∀ ws, Stored w b63 (o63 + 6) (.string (({ data := #[109] } : ByteArray))) ws → Does Try.prog 26 #[.pointer (some ⟨g, 0, none⟩), .func (.func 38) #[.pointer (some ⟨g, 0, none⟩)] #[]] ws fun e69 w69 => ∃ n69 : Int, e69 = .returned (.int .i64 n69) ∧ StepR w g B kb ab (commandP s k) (.returned (.int .i64 n69)) w69)
        (Br (k == 103)
        (Does Try.prog 26 #[.pointer (some ⟨g, 0, none⟩), .func (.func 42) #[.pointer (some ⟨g, 0, none⟩)] #[]] w fun e76 w76 => ∃ n76 : Int, e76 = .returned (.int .i64 n76) ∧ StepR w g B kb ab (commandP s k) (.returned (.int .i64 n76)) w76)
        (Does Try.prog 33 #[.pointer (some ⟨g, 0, none⟩), .int .u8 k] w fun e79 w79 => ∃ n79 : Int, e79 = .returned (.int .i64 n79) ∧ StepR w g B kb ab (commandP s k) (.returned (.int .i64 n79)) w79))) := by
    intro t1 t2 t3
    unfold commandP
    rw [if_neg t1, if_neg t2, if_neg t3]
    refine brr (fun q => ?_) fun q => brr (fun q1 => ?_) fun q1 => brr (fun q2 => ?_) fun q2 => ?_
    · have q : k = 114 := by simpa using q
      rw [if_pos q]
      exact ⟨g, 0, rfl, M.st (s' := { s with key := [114] }) (by decide) rfl rfl rfl M.hsm fun w1 h1 u1 => (goon_does ⟨_, _, _, _, _, _, _, _, h1⟩ .letter).imp fun e w' h => ⟨_, h.1, by rw [← h.1]; exact h.after u1 fun _ _ e => .inl e⟩⟩
    · have q : k ≠ 114 := by simpa using q
      have q1 : k = 109 := by simpa using q1
      rw [if_neg q, if_pos q1]
      exact ⟨g, 0, rfl, M.st (s' := { s with key := [109] }) (by decide) rfl rfl rfl M.hsm fun w1 h1 u1 => (goon_does ⟨_, _, _, _, _, _, _, _, h1⟩ .name).imp fun e w' h => ⟨_, h.1, by rw [← h.1]; exact h.after u1 fun _ _ e => .inl e⟩⟩
    · have q : k ≠ 114 := by simpa using q
      have q1 : k ≠ 109 := by simpa using q1
      have q2 : k = 103 := by simpa using q2
      rw [if_neg q, if_neg q1, if_pos q2]
      exact on_does (goon_does H .second) (Upd.refl _ _)
    · have q : k ≠ 114 := by simpa using q
      have q1 : k ≠ 109 := by simpa using q1
      have q2 : k ≠ 103 := by simpa using q2
      rw [if_neg q, if_neg q1, if_neg q2]
      exact on_does (motion_does H hr hk) (Upd.refl _ _)
  refine ⟨fun x _ wc => L x = plains s.visual ∧ wc = w, ⟨g, 0, rfl, _, M.blk.cell 1 rfl, brr (fun q => ⟨0, by rw [q]; rfl, rfl⟩) fun q => ⟨0, by rw [q]; rfl, rfl⟩⟩, ?_⟩
  rintro x _ wc ⟨hx, rfl⟩
  refine ⟨g, 0, rfl, _, M.blk.cell 1 rfl, ?_⟩
  cases hv : s.visual with
  | true =>
    rw [hv] at hx tail hpl
    have t1 : ¬ (true = false ∧ k ∈ opers) := fun e => by cases e.1
    refine fls rfl ((idx_does _ hk).imp ?_)
    rintro e w29 ⟨n, rfl, hn, rfl⟩
    refine ⟨_, rfl, ?_⟩
    rw [hn, hx]
    refine brr (fun q b33 w33 hb33 => ?_) fun q => ?_
    · exact ⟨_, _, str1 hb33, hpl _ hL hb33.ext (of_decide_eq_true q) t1⟩
    · refine ⟨g, 0, rfl, true, by rw [← hv]; exact M.blk.cell 1 rfl, fls rfl ?_⟩
      exact tail t1 (of_decide_eq_false q) fun e => by cases e.1
  | false =>
    rw [hv] at hx tail hpl
    refine tru rfl ((idx_does _ hk).imp ?_)
    rintro e w18 ⟨n, rfl, hn, rfl⟩
    refine ⟨_, rfl, ?_⟩
    rw [hn]
    refine brr (fun q b23 w23 hb23 => ?_) fun q => ?_
    · have q : k ∈ opers := of_decide_eq_true q
      refine ⟨_, _, str1 hb23, ?_⟩
      have := operator_does (H.ext hb23.ext) (strOfNums [k])
      rw [hL] at this
      have hp : commandP s k = ({ s with key := [k], here := true, tag := .counted }, 0) := by unfold commandP; rw [if_pos ⟨hv, q⟩]
      rw [hp]
      exact on_does this (pt_ext hb23.ext)
    have q : k ∉ opers := of_decide_eq_false q
    have t1 : ¬ (false = false ∧ k ∈ opers) := fun e => q e.2
    refine (idx_does _ hk).imp ?_
    rintro e w29 ⟨n, rfl, hn, rfl⟩
    refine ⟨_, rfl, ?_⟩
    rw [hn, hx]
    refine brr (fun q b33 w33 hb33 => ?_) fun q => ?_
    · exact ⟨_, _, str1 hb33, hpl _ hL hb33.ext (of_decide_eq_true q) t1⟩
    · have q : k ∉ plains false := of_decide_eq_false q
      refine ⟨g, 0, rfl, false, by rw [← hv]; exact M.blk.cell 1 rfl, tru rfl (brr (fun q1 => ?_) fun q1 => ?_)⟩
      · have q1 : k = 18 := by simpa using q1
        have := plain_does H ({ data := #[94, 82] } : ByteArray)
        have hp : commandP s k = ({ s with key := [94, 82] }, 1) := by unfold commandP; rw [hv, if_neg t1, if_neg q, if_pos ⟨rfl, q1⟩]
        rw [hp]
        exact on_does this (Upd.refl _ _)
      · have q1 : k ≠ 18 := by simpa using q1
        exact tail t1 q fun e => q1 e.2
end
end Go.Proofs.Yteggcicicdcnlaa
