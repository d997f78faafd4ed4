/-
  Which pages are free: what each function of the code does, fourth part: the bits.
-/
import Derived.Test.YtcfcbhkkolilmaaSpaceCalls3
namespace Go.Proofs.Ytcfcbhkkolilmaa
open Go.RowKit Go.Vc
theorem tdiv8 (i : Nat) : (i : Int).tdiv 8 = ((i / 8 : Nat) : Int) := by rw [Int.tdiv_eq_ediv_of_nonneg (by omega)]; omega
theorem tmod8 (i : Nat) : (i : Int).tmod 8 = ((i % 8 : Nat) : Int) := by rw [Int.tmod_eq_emod_of_nonneg (by omega)]; omega
theorem wrap8 (i : Nat) : IntKind.wrap .u64 ((i % 8 : Nat) : Int) = ((i % 8 : Nat) : Int) := wrap_in ⟨by show (0 : Int) ≤ _; omega, by show _ ≤ (18446744073709551615 : Int); omega⟩
/-- The bit of a row of bytes. -/
def bitL (xs : List Int) (i : Nat) : Bool := bitAt (xs.getD (i / 8) 0) (i % 8)
theorem getD_of {xs : List Int} {i : Nat} (h : i < xs.length) : xs.getD i 0 = xs[i] := by rw [List.getD_eq_getElem?_getD, List.getElem?_eq_getElem h]; rfl
theorem bit_does {w : World} {ok : Nat → Prop} {p : Option Addr} {xs : List Int} (hx : Ints .u8 w ok p xs) {l : Nat} (hl : l = xs.length) (c : Nat) (i : Nat) (hi : i < 8 * xs.length) (hs : xs.length ≤ 1000000) :
    Does Try.prog 39 #[.slice p l c, .int .i64 i] w fun e w' => e = .returned (.bool (bitL xs i)) ∧ w' = w := by
  subst hl
  apply f39_does
  obtain ⟨b, o, hp, hc⟩ := hx.at (i / 8) (by omega)
  unfold f39_vc
  rw [tdiv8, tmod8, Int.toNat_natCast, Int.toNat_natCast]
  refine ⟨by decide, inI64 (by omega) (by omega), ⟨by omega, by omega⟩, b, o, hp, _, hc, by decide, by omega, ?_, rfl⟩
  unfold bitL bitAt
  rw [getD_of (by omega)]
section
variable {w : World} {O : Nat → Prop} {g : Nat} {p : Option Addr} {c : Nat} {st : List Int}
theorem bits_does (h : Sp .u8 w O g p c st) (hO : ∀ z, O z → z < w.heap.size) : Does Try.prog 14 #[.pointer (some ⟨g, 0, none⟩)] w fun e w' => ∃ (q : Option Addr) (d : Nat) (out : List Int), e = .returned (.slice q out.length d) ∧ out.length = (st.length + 7) / 8 ∧ BitsR st st.length out ∧
    Ints .u8 w' (fun z => w.heap.size ≤ z ∧ z < w'.heap.size) q out ∧ Ext w w' := by
  apply f14_does
  refine (made_does h).imp ?_
  rintro e w7 ⟨rfl, rfl⟩
  have h4 := h.2.2.2.1
  have h3 := h.2.2.1
  have hcc := h.2.2.2.2.1
  have hdiv : ((st.length : Int) + 7).tdiv 8 = (((st.length + 7) / 8 : Nat) : Int) := tdiv8 (st.length + 7)
  refine ⟨_, rfl, fls rfl ⟨g, 0, rfl, _, _, _, hcc, ?_⟩⟩
  rw [hdiv]
  refine ⟨inI64 (by omega) (by omega), by decide, inI64 (by omega) (by omega), ⟨by omega, by omega, by omega, by omega⟩, fun b16 w16 n16 => ?_⟩
  rw [Int.toNat_natCast, zerosL_int] at n16
  rw [Int.toNat_natCast]
  generalize hm : (st.length + 7) / 8 = m at *
  have e16 := n16.eq
  have s16 := n16.size
  have hS := h.ext n16.ext
  have r16 := (n16.row (l := m) (sz := 1) (by simp) (by simp only [maxLen]; omega))
  refine ⟨g, 0, rfl, _, _, _, n16.ext.cell hcc, fun i n wl => ∃ (j : Nat) (out : List Int), i = j ∧ n = st.length - j ∧ j ≤ st.length ∧ out.length = m ∧ BitsR st j out ∧ Row wl (fun z => z = b16) 1 (some ⟨b16, 0, none⟩) m m (out.map (Value.int .u8)) ∧ Upd (fun z => z = b16) w16 wl,
    ⟨_, 0, List.replicate m 0, rfl, rfl, Nat.zero_le _, by simp, BitsR.zero st m, r16, Upd.refl _ _⟩, ?_⟩
  rintro _ n wl ⟨j, out, rfl, rfl, hj, hlo, hb, hr, hu⟩
  have hSl := hS.upd hu fun z hz e => by have := hO z hz; omega
  refine ⟨fun jj => ?_, fun jj => ?_⟩
  · have jj := of_decide_eq_true jj
    have hlt : j < st.length := by omega
    obtain ⟨b, o, e, ho, hne, hcan, hc⟩ := hSl.at hlt
    have hj8 : j / 8 < out.length := by omega
    have one : (st[j] = 1 ∨ st[j] = 2) → ∀ wd8, Drew wl wd8 → (8 : Int) ≠ 0 ∧ InK .i64 ((j : Int).tdiv 8) ∧ ((0 : Int) ≤ ((j : Int).tdiv 8) ∧ ((j : Int).tdiv 8) < (m : Int)) ∧ ∃ b36 o36, (some ⟨b16, 0, none⟩ : Option Addr) = some ⟨b36, o36, none⟩ ∧ ∃ n37 : Int, wd8.cell? ⟨b36, o36 + ((j : Int).tdiv 8).toNat, none⟩ = some (.int .u8 n37) ∧
        (8 : Int) ≠ 0 ∧ (0 : Int) ≤ ((j : Int).tmod 8) ∧ ((0 : Int) ≤ ((j : Int).tdiv 8) ∧ ((j : Int).tdiv 8) < (m : Int)) ∧ ∃ b42 o42, (some ⟨b16, 0, none⟩ : Option Addr) = some ⟨b42, o42, none⟩ ∧ CanStore wd8 b42 (o42 + ((j : Int).tdiv 8).toNat) ∧ ∀ ws, Stored wd8 b42 (o42 + ((j : Int).tdiv 8).toNat) (.int .u8 (bits .or .u8 n37 (IntKind.wrap .u8 (1 * 2 ^ (min ((j : Int).tmod 8).toNat 8))))) ws →
          InK .i64 ((j : Int) + 1) ∧ ∃ ml5, ml5 < st.length - j ∧ ∃ (j' : Nat) (out : List Int), (j : Int) + 1 = j' ∧ ml5 = st.length - j' ∧ j' ≤ st.length ∧ out.length = m ∧ BitsR st j' out ∧ Row ws (fun z => z = b16) 1 (some ⟨b16, 0, none⟩) m m (out.map (Value.int .u8)) ∧ Upd (fun z => z = b16) w16 ws := by
      intro hv wd hd
      have hrd := hr.ext hd.ext
      obtain ⟨b', o', e', _, hcan', hcell'⟩ := hrd.can (j := j / 8) (by simpa using hj8)
      injection e' with e'
      injection e' with e1 e2
      subst e1; subst e2
      rw [tdiv8, tmod8, Int.toNat_natCast, Int.toNat_natCast]
      refine ⟨by decide, inI64 (by omega) (by omega), ⟨by omega, by omega⟩, b16, 0, rfl, _, hcell' (.int .u8 out[j / 8]) (by simp [hj8]), by decide, by omega, ⟨by omega, by omega⟩, b16, 0, rfl, hcan', fun ws s => ⟨inI64 (by omega) (by omega), _, by omega, j + 1, out.set (j / 8) (orAt (out.getD (j / 8) 0) (j % 8)), by omega, rfl, hlt, by simp [hlo], ?_, ?_, ?_⟩⟩
      · exact hb.setBit (by omega) (by rw [getD_of hlt]; exact hv)
      · rw [List.map_set, getD_of hj8]
        exact hrd.set (by simpa using hj8) s
      · exact (Ext.then hu hd.ext).trans s.upd
    refine ⟨⟨by omega, by omega⟩, b, o, e, _, hc, fun z => ?_, fun z => ?_⟩
    · have z : st[j] = 1 := by simpa using z
      exact one (.inl z)
    have z : st[j] ≠ 1 := by simpa using z
    refine ⟨fun z2 => ?_, fun z2 => ?_⟩
    · have z2 : st[j] = 2 := by simpa using z2
      exact one (.inr z2)
    have z2 : st[j] ≠ 2 := by simpa using z2
    exact ⟨inI64 (by omega) (by omega), _, by omega, j + 1, out, by omega, rfl, hlt, hlo, hb.skip (by rw [getD_of hlt]; exact ⟨z, z2⟩), hr, hu⟩
  · have jj := of_decide_eq_false jj
    obtain rfl : j = st.length := by omega
    have su := hu.size
    obtain ⟨_, hi⟩ := hr.ints (fun x hx => ⟨(hb.1 x hx).1, (hb.1 x hx).2⟩)
    refine ⟨some ⟨b16, 0, none⟩, m, out, by rw [hlo], hlo, hb, hi.ok fun z hz e => ?_, Upd.then n16.ext hu fun i hi e => by omega⟩
    have e : z = b16 := e
    exact ⟨by omega, hz⟩
theorem rbits_does (h : Sp .i64 w O g p c st) (hO : ∀ z, O z → z < w.heap.size) : Does Try.prog 31 #[.pointer (some ⟨g, 0, none⟩)] w fun e w' => ∃ (q : Option Addr) (d : Nat) (out : List Int), e = .returned (.slice q out.length d) ∧ out.length = (st.length + 7) / 8 ∧ BitsR st st.length out ∧
    Ints .u8 w' (fun z => w.heap.size ≤ z ∧ z < w'.heap.size) q out ∧ Ext w w' := by
  apply f31_does
  have h4 := h.2.2.2.1
  have h3 := h.2.2.1
  have hcc := h.2.2.2.2.1
  have hdiv : ((st.length : Int) + 7).tdiv 8 = (((st.length + 7) / 8 : Nat) : Int) := tdiv8 (st.length + 7)
  refine ⟨g, 0, rfl, _, _, _, hcc, ?_⟩
  rw [hdiv]
  refine ⟨inI64 (by omega) (by omega), by decide, inI64 (by omega) (by omega), ⟨by omega, by omega, by omega, by omega⟩, fun b16 w16 n16 => ?_⟩
  rw [Int.toNat_natCast, zerosL_int] at n16
  rw [Int.toNat_natCast]
  generalize hm : (st.length + 7) / 8 = m at *
  have e16 := n16.eq
  have s16 := n16.size
  have hS := h.ext n16.ext
  have r16 := (n16.row (l := m) (sz := 1) (by simp) (by simp only [maxLen]; omega))
  refine ⟨fun i n wl => ∃ (j : Nat) (out : List Int), i = j ∧ n = st.length - j ∧ j ≤ st.length ∧ out.length = m ∧ BitsR st j out ∧ Row wl (fun z => z = b16) 1 (some ⟨b16, 0, none⟩) m m (out.map (Value.int .u8)) ∧ Upd (fun z => z = b16) w16 wl,
    ⟨_, 0, List.replicate m 0, rfl, rfl, Nat.zero_le _, by simp, BitsR.zero st m, r16, Upd.refl _ _⟩, ?_⟩
  rintro _ n wl ⟨j, out, rfl, rfl, hj, hlo, hb, hr, hu⟩
  have hSl := hS.upd hu fun z hz e => by have := hO z hz; omega
  have hcl := hSl.2.2.2.2.1
  refine ⟨g, 0, rfl, _, _, _, hcl, fun jj => ?_, fun jj => ?_⟩
  · have jj := of_decide_eq_true jj
    have hlt : j < st.length := by omega
    obtain ⟨b, o, e, ho, hne, hcan, hc⟩ := hSl.at hlt
    have hj8 : j / 8 < out.length := by omega
    have one : (st[j] = 1 ∨ st[j] = 2) → (8 : Int) ≠ 0 ∧ InK .i64 ((j : Int).tdiv 8) ∧ ((0 : Int) ≤ ((j : Int).tdiv 8) ∧ ((j : Int).tdiv 8) < (m : Int)) ∧ ∃ b36 o36, (some ⟨b16, 0, none⟩ : Option Addr) = some ⟨b36, o36, none⟩ ∧ ∃ n37 : Int, wl.cell? ⟨b36, o36 + ((j : Int).tdiv 8).toNat, none⟩ = some (.int .u8 n37) ∧
        (8 : Int) ≠ 0 ∧ (0 : Int) ≤ IntKind.wrap .u64 ((j : Int).tmod 8) ∧ ((0 : Int) ≤ ((j : Int).tdiv 8) ∧ ((j : Int).tdiv 8) < (m : Int)) ∧ ∃ b42 o42, (some ⟨b16, 0, none⟩ : Option Addr) = some ⟨b42, o42, none⟩ ∧ CanStore wl b42 (o42 + ((j : Int).tdiv 8).toNat) ∧ ∀ ws, Stored wl b42 (o42 + ((j : Int).tdiv 8).toNat) (.int .u8 (bits .or .u8 n37 (IntKind.wrap .u8 (1 * 2 ^ (min (IntKind.wrap .u64 ((j : Int).tmod 8)).toNat 8))))) ws →
          InK .i64 ((j : Int) + 1) ∧ ∃ ml5, ml5 < st.length - j ∧ ∃ (j' : Nat) (out : List Int), (j : Int) + 1 = j' ∧ ml5 = st.length - j' ∧ j' ≤ st.length ∧ out.length = m ∧ BitsR st j' out ∧ Row ws (fun z => z = b16) 1 (some ⟨b16, 0, none⟩) m m (out.map (Value.int .u8)) ∧ Upd (fun z => z = b16) w16 ws := by
      intro hv
      obtain ⟨b', o', e', _, hcan', hcell'⟩ := hr.can (j := j / 8) (by simpa using hj8)
      injection e' with e'
      injection e' with e1 e2
      subst e1; subst e2
      rw [tdiv8, tmod8, wrap8, Int.toNat_natCast, Int.toNat_natCast]
      refine ⟨by decide, inI64 (by omega) (by omega), ⟨by omega, by omega⟩, b16, 0, rfl, _, hcell' (.int .u8 out[j / 8]) (by simp [hj8]), by decide, by omega, ⟨by omega, by omega⟩, b16, 0, rfl, hcan', fun ws s => ⟨inI64 (by omega) (by omega), _, by omega, j + 1, out.set (j / 8) (orAt (out.getD (j / 8) 0) (j % 8)), by omega, rfl, hlt, by simp [hlo], ?_, ?_, ?_⟩⟩
      · exact hb.setBit (by omega) (by rw [getD_of hlt]; exact hv)
      · rw [List.map_set, getD_of hj8]
        exact hr.set (by simpa using hj8) s
      · exact hu.trans s.upd
    refine ⟨g, 0, rfl, _, _, _, hcl, ⟨by omega, by omega⟩, b, o, e, _, hc, fun z => ?_, fun z => ?_⟩
    · have z : st[j] = 1 := by simpa using z
      exact one (.inl z)
    have z : st[j] ≠ 1 := by simpa using z
    refine ⟨g, 0, rfl, _, _, _, hcl, ⟨by omega, by omega⟩, b, o, e, _, hc, fun z2 => ?_, fun z2 => ?_⟩
    · have z2 : st[j] = 2 := by simpa using z2
      exact one (.inr z2)
    have z2 : st[j] ≠ 2 := by simpa using z2
    exact ⟨inI64 (by omega) (by omega), _, by omega, j + 1, out, by omega, rfl, hlt, hlo, hb.skip (by rw [getD_of hlt]; exact ⟨z, z2⟩), hr, hu⟩
  · have jj := of_decide_eq_false jj
    obtain rfl : j = st.length := by omega
    have su := hu.size
    obtain ⟨_, hi⟩ := hr.ints (fun x hx => ⟨(hb.1 x hx).1, (hb.1 x hx).2⟩)
    refine ⟨some ⟨b16, 0, none⟩, m, out, by rw [hlo], hlo, hb, hi.ok fun z hz e => ?_, Upd.then n16.ext hu fun i hi e => by omega⟩
    have e : z = b16 := e
    exact ⟨by omega, hz⟩
end
end Go.Proofs.Ytcfcbhkkolilmaa
