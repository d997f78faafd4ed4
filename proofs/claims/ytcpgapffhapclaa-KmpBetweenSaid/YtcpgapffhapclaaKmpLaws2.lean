/-
  Patterns in bytes: the statements' functions answer true, second part.
-/
import Derived.Test.YtcpgapffhapclaaKmpLaws
namespace Go.Proofs.Ytcpgapffhapclaa
open Go.RowKit Go.Vc
theorem endsE_all (ps t : List Int) (hp : 0 < ps.length) : endsE ps t 0 t.length = (occs ps t).map (fun (a : Nat) => (a : Int) + ps.length) := by
  unfold endsE
  congr 1
  rw [List.filter_eq_self]
  intro a _
  simp; omega
theorem between_law {w : World} {ok ok' : Nat → Prop} {p q : Option Addr} {ps xs : List Int} (hp : Ints .u8 w ok p ps) (hx : Ints .u8 w ok' q xs) {l m : Nat} (hl : l = ps.length) (hm : m = xs.length) (c d : Nat) (hlc : l ≤ c) (hmd : m ≤ d) :
    Does Try.prog 5 #[.slice p l c, .slice q m d] w (Holds w) := by
  subst hl hm
  apply f5_does
  refine awake_does.imp ?_
  rintro e w11 ⟨rfl, x11⟩
  refine ⟨_, rfl, fls rfl ⟨fun _ => ⟨rfl, x11⟩, fun h => ⟨fun _ => ⟨rfl, x11⟩, fun h2 => ⟨fun _ => ⟨rfl, x11⟩, fun h3 => ?_⟩⟩⟩⟩
  have h : ps.length ≠ 0 := by simpa using h
  have h2 := of_decide_eq_false h2
  have h3 := of_decide_eq_false h3
  have hp := Ints.ok hp (fun k hk _ => (hk : k < w.heap.size))
  have hx := Ints.ok hx (fun k hk _ => (hk : k < w.heap.size))
  refine (new_some (hp.ext x11) rfl c (by omega) (by omega)).imp ?_
  rintro e w28 ⟨x28, g, rfl, hf⟩
  have y28 := Ext.thn x11 x28
  have s11 := x11.size
  have hgl := hf.1
  refine ⟨_, _, rfl, fls rfl (fls rfl ((feed_does hf (fun k hk => hk.2) (hx.ext y28) (fun k hk e => by omega) rfl d (by simp; omega)).imp ?_))⟩
  rintro e w39 ⟨p39, l39, c39, rfl, r39, hf39, u39⟩
  have y39 : Ext w w39 := Upd.then y28 u39 fun i hi h => by omega
  rw [List.nil_append, List.length_nil, endsE_all ps xs (by omega)] at r39
  have hocc : ∀ a ∈ occs ps xs, a + ps.length ≤ xs.length := fun a ha => (occN_mem.1 ha).2.le.2
  obtain ⟨hl39, i39⟩ := r39.ints (fun z hz => by
    obtain ⟨a, ha, rfl⟩ := List.mem_map.1 hz
    have := hocc a ha
    exact inI64 (by omega) (by omega))
  rw [List.length_map] at hl39
  subst hl39
  have hsorted := occs_sorted ps xs xs.length
  generalize hA : occs ps xs = A at *
  have hsorted : A.Pairwise (· < ·) := by rw [← hA]; exact hsorted
  have hAlen : A.length ≤ xs.length := by
    rw [← hA]; unfold occs occN
    refine Nat.le_trans (List.length_filter_le _ _) ?_
    simp
  -- the finder's answers
  have first_at : ∀ n, n ≤ A.length → ∀ f : Int, (∀ z ∈ A.take n, ¬ f ≤ (z : Int)) → (∀ (hn : n < A.length), f ≤ (A[n] : Int)) → firstE ps xs f = (match A[n]? with | some a => (a : Int) | none => -1) := fun n hn f hf1 hf2 => by
    by_cases hlt : n < A.length
    · rw [List.getElem?_eq_getElem hlt]
      refine firstE_of (ys := A.take n) (r := A.drop (n + 1)) ?_ hf1 (hf2 hlt)
      rw [hA]
      rw [← List.drop_eq_getElem_cons hlt, List.take_append_drop]
    · rw [List.getElem?_eq_none (by omega)]
      refine firstE_of_none ?_
      rw [hA]
      rwa [List.take_of_length_le (by omega)] at hf1
  have last_at : ∀ n, n ≤ A.length → ∀ f : Int, (∀ z ∈ A.take n, (z : Int) < f) → (∀ z ∈ A.drop n, f ≤ (z : Int)) → lastE ps xs f = lastN (A.take n) := fun n hn f hf1 hf2 =>
    lastE_of (by rw [hA, List.take_append_drop]) hf1 hf2
  refine ⟨_, _, _, rfl, (first_does (hx.ext y39) (hp.ext y39) rfl rfl d c hlc (by omega) (by omega) 0).imp ?_⟩
  rintro e w42 ⟨rfl, x42⟩
  have y42 := Ext.thn y39 x42
  refine ⟨_, rfl, fun i at_ n wl => ∃ k : Nat, i = k ∧ n = A.length - k ∧ k ≤ A.length ∧ at_ = (match A[k]? with | some a => (a : Int) | none => -1) ∧ Ext w39 wl,
    ⟨_, 0, rfl, rfl, Nat.zero_le _, first_at 0 (Nat.zero_le _) 0 (by simp) (fun _ => by omega), x42⟩, ?_⟩
  rintro _ _ n wl ⟨k, rfl, rfl, hk, rfl, hw⟩
  have ew := Ext.thn y39 hw
  refine ⟨fun j => ?_, fun j => ?_⟩
  · have j := of_decide_eq_true j
    have hlt : k < A.length := by
      by_cases hlt : k < A.length
      · exact hlt
      · rw [List.getElem?_eq_none (by omega)] at j; exact absurd j (by decide)
    rw [List.getElem?_eq_getElem hlt] at j ⊢
    have hak := hocc A[k] (List.getElem_mem hlt)
    obtain ⟨b, o, hpp, hcc⟩ := (i39.ext hw).at k (by simpa using hlt)
    refine fls (by simp; omega) ⟨⟨by omega, by omega⟩, b, o, hpp, _, hcc, inI64 (by simp only; omega) (by simp only; omega), fls (by simp) ⟨inI64 (by omega) (by omega), inI64 (by simp only; omega) (by simp only; omega), (first_does (hx.ext ew) (hp.ext ew) rfl rfl d c hlc (by omega) (by omega) _).imp ?_⟩⟩
    rintro e w49 ⟨rfl, x49⟩
    refine ⟨_, rfl, A.length - (k + 1), by omega, k + 1, by omega, rfl, hlt, first_at (k + 1) hlt _ (fun z hz => ?_) (fun hn => ?_), Ext.thn hw x49⟩
    · obtain ⟨i, hi, rfl⟩ := List.getElem_of_mem hz
      rw [List.length_take] at hi
      rw [List.getElem_take]
      have : A[i] ≤ A[k] := by
        by_cases he : i = k
        · subst he; exact Nat.le_refl _
        · exact Nat.le_of_lt (List.pairwise_iff_getElem.1 hsorted i k (by omega) hlt (by omega))
      show ¬ ((A[k] : Int) + 1 ≤ (A[i] : Int))
      omega
    · have := List.pairwise_iff_getElem.1 hsorted k (k + 1) hlt hn (by omega)
      show (A[k] : Int) + 1 ≤ (A[k + 1] : Int)
      omega
  · have j := of_decide_eq_false j
    have hkl : k = A.length := by
      by_cases hlt : k < A.length
      · rw [List.getElem?_eq_getElem hlt] at j; exact absurd (by simp only; omega) j
      · omega
    subst hkl
    refine fls (by simp) ((last_does (hx.ext ew) (hp.ext ew) rfl rfl d c hlc (by omega) (by omega) _).imp ?_)
    rintro e w75 ⟨rfl, x75⟩
    refine ⟨_, rfl, fun i at_ n wl => ∃ k : Nat, i = k ∧ k = n ∧ k ≤ A.length ∧ at_ = lastN (A.take k) ∧ Ext w39 wl,
      ⟨_, A.length, rfl, rfl, Nat.le_refl _, last_at A.length (Nat.le_refl _) _ (fun z hz => by rw [List.take_length] at hz; have := hocc z hz; omega) (by simp), Ext.thn hw x75⟩, ?_⟩
    rintro _ _ n wl' ⟨k, rfl, rfl, hk, rfl, hw'⟩
    have ew' := Ext.thn y39 hw'
    cases k with
    | zero =>
      refine fls (by simp [lastN]) ⟨rfl, ew'⟩
    | succ k =>
      have hlt : k < A.length := hk
      have htk : A.take (k + 1) = A.take k ++ [A[k]] := List.take_succ_eq_append_getElem hlt
      rw [htk, lastN_snoc]
      have hak := hocc A[k] (List.getElem_mem hlt)
      obtain ⟨b, o, hpp, hcc⟩ := (i39.ext hw').at k (by simpa using hlt)
      rw [show (((k + 1 : Nat) : Int) - 1) = (k : Int) by omega]
      refine tru (by simp) ⟨inI64 (by omega) (by omega), fls (by simp) ⟨⟨by omega, by omega⟩, b, o, hpp, _, hcc, inI64 (by omega) (by omega), fls (by simp) ((last_does (hx.ext ew') (hp.ext ew') rfl rfl d c hlc (by omega) (by omega) _).imp ?_)⟩⟩
      rintro e w81 ⟨rfl, x81⟩
      refine ⟨_, rfl, k, by omega, k, rfl, rfl, by omega, last_at k (by omega) _ (fun z hz => ?_) (fun z hz => ?_), Ext.thn hw' x81⟩
      · obtain ⟨i, hi, rfl⟩ := List.getElem_of_mem hz
        rw [List.length_take] at hi
        rw [List.getElem_take]
        have := List.pairwise_iff_getElem.1 hsorted i k (by omega) hlt (by omega)
        omega
      · obtain ⟨i, hi, rfl⟩ := List.getElem_of_mem hz
        rw [List.length_drop] at hi
        rw [List.getElem_drop]
        have : A[k] ≤ A[k + i] := by
          by_cases he : i = 0
          · subst he; exact Nat.le_refl _
          · exact Nat.le_of_lt (List.pairwise_iff_getElem.1 hsorted k (k + i) hlt (by omega) (by omega))
        omega
theorem feeds_law {w : World} {ok ok' ok2 : Nat → Prop} {p q r : Option Addr} {ps xs ns : List Int} (hp : Ints .u8 w ok p ps) (hx : Ints .u8 w ok' q xs) (hn : Ints .u8 w ok2 r ns) {l m n : Nat} (hl : l = ps.length) (hm : m = xs.length) (hnn : n = ns.length) (c d f : Nat)
    (hlc : l ≤ c) (hmd : m ≤ d) : Does Try.prog 6 #[.slice p l c, .slice q m d, .slice r n f] w (Holds w) := by
  subst hl hm hnn
  apply f6_does
  refine awake_does.imp ?_
  rintro e w13 ⟨rfl, x13⟩
  refine ⟨_, rfl, fls rfl ⟨fun _ => ⟨rfl, x13⟩, fun h => ⟨fun _ => ⟨rfl, x13⟩, fun h2 => ⟨fun _ => ⟨rfl, x13⟩, fun h3 => ?_⟩⟩⟩⟩
  have h := of_decide_eq_false h
  have h2 := of_decide_eq_false h2
  have h3 := of_decide_eq_false h3
  have hp := Ints.ok hp (fun k hk _ => (hk : k < w.heap.size))
  have hx := Ints.ok hx (fun k hk _ => (hk : k < w.heap.size))
  have hn := Ints.ok hn (fun k hk _ => (hk : k < w.heap.size))
  refine (new_does (hp.ext x13) rfl c (by omega)).imp ?_
  rintro e w30 ⟨x30, hne⟩
  have y30 := Ext.thn x13 x30
  have s13 := x13.size
  rcases hne with ⟨hz, rfl⟩ | ⟨⟨hz, hz2⟩, g, rfl, hf⟩
  · exact ⟨_, _, rfl, tru (by rw [show ps.length = 0 by omega]; rfl) (tru rfl ⟨rfl, y30⟩)⟩
  have hgl := hf.1
  refine ⟨_, _, rfl, fls (by rw [beq_eq_false_iff_ne]; omega) (fls rfl (fls rfl ?_))⟩
  have hT : ∀ {v}, Upd (fun k => k = g) w30 v → Ext w v := fun hu => Upd.then y30 hu fun i hi h => by omega
  refine ⟨fun a i n wl => ∃ (b j : Nat), a = b ∧ i = j ∧ n = ns.length + 1 - j ∧ j ≤ ns.length + 1 ∧ b ≤ xs.length ∧ Fnd wl (fun k => w13.heap.size ≤ k ∧ k < w30.heap.size) g ps (xs.take b) ∧ Upd (fun k => k = g) w30 wl,
    ⟨_, 0, 0, rfl, rfl, rfl, Nat.zero_le _, Nat.zero_le _, hf, Upd.refl _ _⟩, ?_⟩
  rintro _ _ n wl ⟨b, j, rfl, rfl, rfl, hj, hb, hf, hu⟩
  have ew := hT hu
  have su := hu.size
  -- one part
  have part : ∀ (t : Nat) (v0 : Int), b + t ≤ xs.length → v0 = (b : Int) + t → j ≤ ns.length → ∀ (lo hi : Nat), lo = b → hi = b + t →
      Does Try.prog 17 #[.pointer (some ⟨g, 0, none⟩), .slice (subp q lo d 1) (hi - lo) (d - lo)] wl fun e77 w77 => ∃ (p77 : Option Addr) (l77 c77 : Nat), e77 = .returned (.slice p77 l77 c77) ∧ InK .i64 v0 ∧ ((0 : Int) ≤ v0 ∧ v0 ≤ (d : Int)) ∧
        Does Try.prog 18 #[.slice (subp q 0 d 1) (hi - 0) (d - 0), .slice p ps.length c, .int .i64 b] w77 fun e86 w86 => ∃ (p86 : Option Addr) (l86 c86 : Nat), e86 = .returned (.slice p86 l86 c86) ∧ Does Try.prog 9 #[.slice p77 l77 c77, .slice p86 l86 c86] w86 fun e87 w87 =>
          ∃ b87 : Bool, e87 = .returned (.bool b87) ∧ Br (!b87) (Holds w (.returned (.bool false)) w87) (Does Try.prog 19 #[.pointer (some ⟨g, 0, none⟩)] w87 fun e91 w91 => ∃ n91 : Int, e91 = .returned (.int .i64 n91) ∧ InK .i64 v0 ∧ Br (n91 != v0) (Holds w (.returned (.bool false)) w91)
            (InK .i64 v0 ∧ InK .i64 ((j : Int) + 1) ∧ ∃ ml12, ml12 < ns.length + 1 - j ∧ ∃ (b' j' : Nat), v0 = b' ∧ (j : Int) + 1 = j' ∧ ml12 = ns.length + 1 - j' ∧ j' ≤ ns.length + 1 ∧ b' ≤ xs.length ∧ Fnd w91 (fun k => w13.heap.size ≤ k ∧ k < w30.heap.size) g ps (xs.take b') ∧ Upd (fun k => k = g) w30 w91)) := by
    rintro t v0 ht rfl hjn lo hi rfl rfl
    have htl : (xs.take lo).length = lo := by rw [List.length_take]; omega
    have htl2 : (xs.take (lo + t)).length = lo + t := by rw [List.length_take]; omega
    have hcat : xs.take lo ++ (xs.take (lo + t)).drop lo = xs.take (lo + t) := by
      have := List.take_append_drop lo (xs.take (lo + t))
      rwa [List.take_take, Nat.min_eq_left (by omega)] at this
    refine (feed_does hf (fun k hk => by omega) ((hx.ext ew).sub lo (lo + t) d (by omega)) (fun k hk e => by omega) (by simp; omega) _ (by simp; omega)).imp ?_
    rintro e w77 ⟨p77, l77, c77, rfl, r77, hf77, u77⟩
    rw [hcat] at r77 hf77
    rw [htl] at r77
    have hu77 := hu.trans u77
    have e77 := hT hu77
    obtain ⟨hl77, i77⟩ := r77.ints (ends_inK (by omega) (by omega))
    refine ⟨_, _, _, rfl, inI64 (by omega) (by omega), ⟨by omega, by omega⟩, (rends_does (xs := xs.take (lo + t)) ((hx.ext e77).sub 0 (lo + t) d (by omega)) (hp.ext e77) (by omega) rfl _ c (by omega) (by omega) (by omega) lo rfl).imp ?_⟩
    rintro e w86 ⟨p86, l86, c86, rfl, r86, x86⟩
    obtain ⟨hl86, i86⟩ := r86.ints (ends_inK (by omega) (by omega))
    refine ⟨_, _, _, rfl, (ints_does (i77.ext x86) i86 hl77 hl86 _ _ ?_).imp ?_⟩
    · have : (endsE ps (xs.take (lo + t)) lo (xs.take (lo + t)).length).length ≤ (xs.take (lo + t)).length := by
        unfold endsE occN
        rw [List.length_map]
        refine Nat.le_trans (List.length_filter_le _ _) (Nat.le_trans (List.length_filter_le _ _) ?_)
        simp
      omega
    rintro e w87 ⟨rfl, x87⟩
    have x877 := Ext.thn x86 x87
    refine ⟨_, rfl, fls (by simp) ((at_does (hf77.ext x877)).imp ?_)⟩
    rintro e w91 ⟨rfl, rfl⟩
    refine ⟨_, rfl, inI64 (by omega) (by omega), fls (by simp [htl2]) ⟨inI64 (by omega) (by omega), inI64 (by omega) (by omega), _, ?_, lo + t, j + 1, by omega, by omega, rfl, by omega, ht, hf77.ext x877, Ext.then hu77 x877⟩⟩
    omega
  refine ⟨fun jj => ?_, fun jj => ?_⟩
  · have jj := of_decide_eq_true jj
    refine ⟨inI64 (by omega) (by omega), fun j2 => ?_, fun j2 => ?_⟩
    · have j2 := of_decide_eq_true j2
      have hlt : j < ns.length := by omega
      obtain ⟨bb, o, hpp, hcc⟩ := (hn.ext ew).at j hlt
      have hk := hn.inK _ (List.getElem_mem hlt)
      have hk : 0 ≤ ns[j] ∧ ns[j] ≤ 255 := hk
      have ht1 := Int.tmod_nonneg 7 hk.1
      have ht2 := Int.tmod_lt_of_pos ns[j] (show (0 : Int) < 7 by decide)
      obtain ⟨t, ht⟩ : ∃ t : Nat, (if (xs.length : Int) - (b : Int) < ns[j].tmod 7 then (xs.length : Int) - (b : Int) else ns[j].tmod 7) = t := by
        refine ⟨(if (xs.length : Int) - (b : Int) < ns[j].tmod 7 then (xs.length : Int) - (b : Int) else ns[j].tmod 7).toNat, ?_⟩
        split <;> omega
      have ht3 : b + t ≤ xs.length := by split at ht <;> omega
      refine ⟨⟨by omega, by omega⟩, bb, o, hpp, _, hcc, inI64 (by omega) (by omega), by decide, ?_⟩
      rw [ht]
      exact ⟨inI64 (by omega) (by omega), ⟨by omega, by omega⟩, ⟨by omega, by omega⟩, part t _ ht3 rfl (by omega) _ _ (by omega) (by omega)⟩
    · have j2 := of_decide_eq_false j2
      exact ⟨inI64 (by omega) (by omega), ⟨by omega, by omega⟩, ⟨by omega, by omega⟩, part (xs.length - b) _ (by omega) (by omega) (by omega) _ _ (by omega) (by omega)⟩
  · have jj := of_decide_eq_false jj
    refine (reset_does hf).imp ?_
    rintro e w101 ⟨rfl, hf1, u1⟩
    have hu1 := hu.trans u1
    have e1 := hT hu1
    have s1 := hu1.size
    refine ⟨rfl, (at_does hf1).imp ?_⟩
    rintro e w103 ⟨rfl, rfl⟩
    refine ⟨_, rfl, tru (by simp) ((feed_does hf1 (fun k hk => by omega) (hx.ext e1) (fun k hk e => by omega) rfl d (by simp; omega)).imp ?_)⟩
    rintro e w108 ⟨p77, l77, c77, rfl, r77, hf77, u77⟩
    have e77 := hT (hu1.trans u77)
    rw [List.nil_append, List.length_nil] at r77
    obtain ⟨hl77, i77⟩ := r77.ints (ends_inK (by omega) (by omega))
    refine ⟨_, _, _, rfl, (rends_does (hx.ext e77) (hp.ext e77) rfl rfl d c hmd (by omega) (by omega) 0 rfl).imp ?_⟩
    rintro e w111 ⟨p86, l86, c86, rfl, r86, x86⟩
    obtain ⟨hl86, i86⟩ := r86.ints (ends_inK (by omega) (by omega))
    refine ⟨_, _, _, rfl, (ints_does (i77.ext x86) i86 hl77 hl86 _ _ ?_).imp ?_⟩
    · have : (endsE ps xs 0 xs.length).length ≤ xs.length := by
        unfold endsE occN
        rw [List.length_map]
        refine Nat.le_trans (List.length_filter_le _ _) (Nat.le_trans (List.length_filter_le _ _) ?_)
        simp
      omega
    rintro e w112 ⟨rfl, x112⟩
    exact ⟨_, rfl, by simp, Ext.thn (Ext.thn e77 x86) x112⟩
end Go.Proofs.Ytcpgapffhapclaa
