/-
  Command lines: what each function of the code does: reading.
-/
import Derived.Test.YtdkeccgcleamcaaLineWords
import Derived.Test.YtdkeccgcleamcaaV
namespace Go.Vc
open Go.RowKit
theorem doesV_fn {P : Program} {g : FuncId} {a : Value} {w : World} {R : Ending → World → Prop} (h : Does P g #[a] w R) : DoesV P (.func g) #[] #[a] #[] w R := h
end Go.Vc
namespace Go.Proofs.Ytdkeccgcleamcaa
open Go.RowKit Go.Vc
theorem slA : SlT Try.prog 23 55 4 32 := ⟨Try.underlying23, _, _, rfl, rfl, rfl, rfl, rfl, by decide⟩
/-- What a spoilt line throws. -/
def thrown : Ending := .panicked [{ v := .iface 58 (.agg #[]), recovered := false }]
section
variable {w : World} {b : Nat} {xs : List Int}
theorem must_does (c : Bool) : Does Try.prog 28 #[.bool c] w fun e w' => w' = w ∧ (c = true ∧ e = .returned (.tuple #[]) ∨ c = false ∧ e = thrown) := by
  apply f28_does
  cases c
  · exact tru rfl ⟨rfl, .inr ⟨rfl, rfl⟩⟩
  · exact fls rfl ⟨rfl, .inl ⟨rfl, rfl⟩⟩
theorem blank_does (c : Int) : Does Try.prog 40 #[.int .u8 c] w fun e w' => e = .returned (.bool (blankB c)) ∧ w' = w := by
  apply f40_does
  exact ⟨rfl, rfl⟩
theorem figure_does (c : Int) : Does Try.prog 43 #[.int .u8 c] w fun e w' => e = .returned (.bool (figB c)) ∧ w' = w := by
  apply f43_does
  unfold figB
  refine brr (fun j => ⟨?_, rfl⟩) fun j => ⟨?_, rfl⟩
  · have j := of_decide_eq_true j
    congr 3
    exact propext ⟨fun h => ⟨j, h⟩, fun h => h.2⟩
  · have j := of_decide_eq_false j
    rw [decide_eq_false (by omega)]
theorem small_does (c : Int) : Does Try.prog 42 #[.int .u8 c] w fun e w' => e = .returned (.bool (smallB c)) ∧ w' = w := by
  apply f42_does
  unfold smallB
  refine brr (fun j => ⟨?_, rfl⟩) fun j => ⟨?_, rfl⟩
  · have j := of_decide_eq_true j
    congr 3
    exact propext ⟨fun h => ⟨j, h⟩, fun h => h.2⟩
  · have j := of_decide_eq_false j
    rw [decide_eq_false (by omega)]
theorem takes_does (h : Txt w b xs) (hc : CanStore w b 0) (c : Int) : Does Try.prog 29 #[.pointer (some ⟨b, 0, none⟩), .int .u8 c] w fun e w' => e = .returned (.bool (tk c xs)) ∧ Adv NoT w w' b (tkR c xs) := by
  apply f29_does
  have hh := h
  obtain ⟨s, rfl, hcell⟩ := h
  unfold tkR
  refine ⟨b, 0, rfl, _, hcell, brr (fun j => ?_) fun j => ?_⟩
  · rw [L_eq, L_nil] at j
    have j := of_decide_eq_true j
    rw [j] at hh ⊢
    exact ⟨rfl, Adv.refl hh⟩
  rw [L_eq, L_nil] at j
  have j := of_decide_eq_false j
  obtain ⟨x, t, hx⟩ : ∃ x t, L s = x :: t := by
    cases hL : L s with
    | nil => exact absurd hL j
    | cons x t => exact ⟨x, t, rfl⟩
  have h0 : 0 < (L s).length := by rw [hx]; simp
  have e0 : sb s 0 = x := by
    have := L_sb (i := 0) h0
    simp only [hx, List.getElem_cons_zero] at this
    exact this
  have hsz := L_len s
  refine ⟨b, 0, rfl, _, hcell, ⟨by omega, by omega⟩, brr (fun j => ?_) fun j => ?_⟩
  · rw [e0] at j
    have : tk c (L s) = false := by rw [hx]; simpa [tk] using j
    rw [this, if_neg Bool.false_ne_true]
    exact ⟨rfl, Adv.refl hh⟩
  · rw [e0] at j
    have : tk c (L s) = true := by rw [hx]; simpa [tk] using j
    rw [this, if_pos rfl]
    refine ⟨b, 0, rfl, _, hcell, ⟨by omega, by omega⟩, b, 0, rfl, hc, fun ws hs => ⟨rfl, Adv.store hc hs ?_⟩⟩
    show L (s.extract 1 s.size) = _
    rw [L_from, hx]; rfl
theorem while_does (h : Txt w b xs) (hc : CanStore w b 0) (n : Nat) (hn : n ≤ 1000000000) {g : FuncId} {f : Int → Bool} (hf : ∀ (w : World) (c : Int), Does Try.prog g #[.int .u8 c] w fun e w' => e = .returned (.bool (f c)) ∧ w' = w) :
    Does Try.prog 39 #[.pointer (some ⟨b, 0, none⟩), .int .i64 (n : Int), .func (.func g) #[] #[]] w fun e w' => ∃ s, e = .returned (.string s) ∧ L s = whileF f n xs ∧ Adv NoT w w' b (xs.drop (whileF f n xs).length) := by
  apply f39_does
  obtain ⟨s, rfl, hcell⟩ := h
  have hsz := L_len s
  refine ⟨fun x nl wl => ∃ i : Nat, x = i ∧ nl = n - i ∧ i ≤ n ∧ i ≤ (L s).length ∧ (∀ (j : Nat) (h : j < (L s).length), j < i → f (L s)[j] = true) ∧ wl = w, ⟨_, 0, rfl, rfl, Nat.zero_le _, Nat.zero_le _, fun j _ h => by omega, rfl⟩, ?_⟩
  rintro _ _ wl ⟨i, rfl, rfl, hin, hil, hall, rfl⟩
  have fin : (i = n ∨ i = (L s).length ∨ ∃ h : i < (L s).length, f (L s)[i] = false) → ∃ b34 o34, (some ⟨b, 0, none⟩ : Option Addr) = some ⟨b34, o34, none⟩ ∧ ∃ s36 : ByteArray, wl.cell? ⟨b34, o34, none⟩ = some (.string s36) ∧ ((0 : Int) ≤ (i : Int) ∧ (i : Int) ≤ (s36.size : Int)) ∧ ∃ b41 o41, (some ⟨b, 0, none⟩ : Option Addr) = some ⟨b41, o41, none⟩ ∧ ∃ s43 : ByteArray, wl.cell? ⟨b41, o41, none⟩ = some (.string s43) ∧ ((0 : Int) ≤ (i : Int) ∧ (i : Int) ≤ (s43.size : Int)) ∧ ∃ b46 o46, (some ⟨b, 0, none⟩ : Option Addr) = some ⟨b46, o46, none⟩ ∧ CanStore wl b46 o46 ∧ ∀ ws, Stored wl b46 o46 (.string (s43.extract (((i : Int)).toNat) s43.size)) ws →
      (∃ s1, Ending.returned (.string (s36.extract 0 (((i : Int)).toNat))) = .returned (.string s1) ∧ L s1 = whileF f n (L s) ∧ Adv NoT wl ws b ((L s).drop (whileF f n (L s)).length)) := fun hh => by
    have e := span_eq hin hil hall hh
    refine ⟨b, 0, rfl, s, hcell, ⟨by omega, by omega⟩, b, 0, rfl, s, hcell, ⟨by omega, by omega⟩, b, 0, rfl, hc, fun ws hs => ⟨_, rfl, ?_, Adv.store hc hs ?_⟩⟩
    · rw [Int.toNat_natCast, L_upto (by omega)]; exact e.symm
    · rw [Int.toNat_natCast, L_from]
      unfold whileF
      rw [e, List.length_take, Nat.min_eq_left hil]
  refine brr (fun j => ⟨b, 0, rfl, s, hcell, brr (fun j1 => ⟨b, 0, rfl, s, hcell, ⟨by omega, of_decide_eq_true j1⟩, doesV_fn ((hf wl _).imp ?_)⟩) fun j1 => ?_⟩) fun j => ?_
  · have j := of_decide_eq_true j
    have j1 := of_decide_eq_true j1
    have hlt : i < (L s).length := by omega
    rintro e w29 ⟨rfl, rfl⟩
    rw [L_sb hlt]
    refine ⟨_, rfl, brr (fun q => ⟨inI64 (by omega) (by omega), _, by omega, i + 1, by omega, rfl, by omega, hlt, fun z hz hzi => ?_, rfl⟩) fun q => fin (.inr (.inr ⟨hlt, q⟩))⟩
    rcases Nat.lt_or_ge z i with h' | h'
    · exact hall z hz h'
    · obtain rfl : z = i := by omega
      exact q
  · have j1 := of_decide_eq_false j1
    exact fin (.inr (.inl (by omega)))
  · have j := of_decide_eq_false j
    exact fin (.inl (by omega))
/-- Without blanks ahead. -/
def unb (xs : List Int) : List Int := xs.drop (whileF blankB xs.length xs).length
theorem blanks_does (h : Txt w b xs) (hc : CanStore w b 0) (hl : xs.length ≤ 1000000000) : Does Try.prog 34 #[.pointer (some ⟨b, 0, none⟩)] w fun e w' => e = .returned (.tuple #[]) ∧ Adv NoT w w' b (unb xs) := by
  apply f34_does
  have hh := h
  obtain ⟨s, hs, hcell⟩ := h
  refine ⟨b, 0, rfl, s, hcell, ?_⟩
  have e : (s.size : Int) = (xs.length : Nat) := by rw [← L_len, hs]
  rw [e]
  refine (while_does hh hc xs.length hl fun _ c => blank_does c).imp ?_
  rintro e w8 ⟨s8, rfl, _, ha⟩
  exact ⟨_, rfl, rfl, ha⟩
theorem number_does (h : Txt w b xs) (hc : CanStore w b 0) (n : Int) : Does Try.prog 44 #[.pointer (some ⟨b, 0, none⟩), .int .i64 n] w fun e w' => e = .returned (.int .i64 (numF n xs)) ∧ Adv NoT w w' b (numR xs) := by
  apply f44_does
  refine (while_does h hc 9 (by decide) fun _ c => figure_does c).imp ?_
  rintro e w8 ⟨s8, rfl, hs8, ha⟩
  obtain ⟨c9, w9, hr, x9, hI⟩ := conv_bytes Try.underlying9 Try.underlying78 Try.underlying5 w8 s8
  have ha9 : Adv NoT w w9 b (numR xs) := ha.trans (Adv.of_ext ha.txt x9)
  have hlen := (whileF_len figB 9 xs).1
  have hsz := L_len s8
  rw [hs8] at hI hsz
  have hall : ∀ c ∈ whileF figB 9 xs, figB c = true := while_all
  refine ⟨_, rfl, _, _, _, w9, hr, fun x1 x11 nl wl => ∃ k : Nat, x11 = k ∧ nl = (whileF figB 9 xs).length - k ∧ k ≤ (whileF figB 9 xs).length ∧ x1 = (if k = 0 then n else valF ((whileF figB 9 xs).take k)) ∧ wl = w9, ⟨_, 0, rfl, rfl, Nat.zero_le _, rfl, rfl⟩, ?_⟩
  rintro _ _ _ wl ⟨k, rfl, rfl, hk, rfl, rfl⟩
  refine brr (fun j => ?_) fun j => ?_
  · have j := of_decide_eq_true j
    have hlt : k < (whileF figB 9 xs).length := by omega
    obtain ⟨bb, o, hp, hcl⟩ := hI.at k hlt
    have hd := of_decide_eq_true (hall _ (List.getElem_mem hlt))
    have hv := valF_bd (l := (whileF figB 9 xs).take k) (fun c hc => hall c (List.mem_of_mem_take hc)) (by rw [List.length_take]; omega)
    have hw : IntKind.wrap .u8 ((whileF figB 9 xs)[k] - 48) = (whileF figB 9 xs)[k] - 48 := wrap_in ⟨by show (0 : Int) ≤ _; omega, by show _ ≤ (255 : Int); omega⟩
    have hsn := valF_snoc ((whileF figB 9 xs).take k) (whileF figB 9 xs)[k]
    rw [← List.take_succ_eq_append_getElem hlt] at hsn
    refine ⟨⟨by omega, by omega⟩, bb, o, hp, _, hcl, brr (fun q => ?_) fun q => ?_⟩
    · obtain rfl : k = 0 := by have : (k : Int) = 0 := by simpa using q
                               omega
      rw [hw]
      refine ⟨inI64 (by omega) (by omega), inI64 (by omega) (by omega), inI64 (by omega) (by omega), inI64 (by omega) (by omega), _, by omega, 1, rfl, rfl, hlt, ?_, rfl⟩
      rw [if_neg (by decide), hsn]
      rfl
    · have q : k ≠ 0 := by
        intro e
        subst e
        simp at q
      rw [if_neg q, hw]
      refine ⟨inI64 (by omega) (by omega), inI64 (by omega) (by omega), inI64 (by omega) (by omega), inI64 (by omega) (by omega), _, by omega, k + 1, by omega, rfl, hlt, ?_, rfl⟩
      rw [if_neg (by omega), hsn]
  · have j := of_decide_eq_false j
    obtain rfl : k = (whileF figB 9 xs).length := by omega
    refine ⟨?_, ha9⟩
    unfold numF
    rw [List.take_length]
    by_cases h0 : whileF figB 9 xs = []
    · rw [if_pos h0, if_pos (by rw [h0]; rfl)]
    · rw [if_neg h0, if_neg (fun e => h0 (List.length_eq_zero_iff.1 e))]
end
end Go.Proofs.Ytdkeccgcleamcaa
