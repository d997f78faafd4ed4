/-
  Command lines: what each function does: substitutions.
-/
import Derived.Test.YtdkeccgcleamcaaLineLaws
import Derived.Test.YtdkeccgcleamcaaBytes
namespace Go.Vc
open Go.RowKit
/-- A part: up to a stroke. -/
def partA (acc : List Int) : List Int → Option (List Int × List Int × Bool)
  | [] => some (acc, [], false)
  | [x] => if x = 47 then some (acc, [], true) else if x = 92 then none else some (acc ++ [x], [], false)
  | x :: c :: r =>
    if x = 47 then some (acc, c :: r, true)
    else if x = 92 then partA (acc ++ [if c = 110 then 10 else c]) r
    else partA (acc ++ [x]) (c :: r)
theorem partA_nil (acc : List Int) : partA acc [] = some (acc, [], false) := by unfold partA; rfl
theorem partA_end (acc t : List Int) : partA acc (47 :: t) = some (acc, t, true) := by cases t <;> (unfold partA; rw [if_pos rfl])
theorem partA_bad (acc : List Int) : partA acc [92] = none := by unfold partA; rw [if_neg (by decide), if_pos rfl]
theorem partA_esc (acc : List Int) (c : Int) (r : List Int) : partA acc (92 :: c :: r) = partA (acc ++ [if c = 110 then 10 else c]) r := by
  conv => lhs; unfold partA
  rw [if_neg (by decide), if_pos rfl]
theorem partA_go (acc : List Int) {x : Int} (t : List Int) (h1 : x ≠ 47) (h2 : x ≠ 92) : partA acc (x :: t) = partA (acc ++ [x]) t := by
  cases t with
  | nil => rw [partA_nil]; unfold partA; rw [if_neg h1, if_neg h2]
  | cons c r =>
    conv => lhs; unfold partA
    rw [if_neg h1, if_neg h2]
theorem partA_false : ∀ (m : Nat) {acc xs o r : List Int}, xs.length ≤ m → partA acc xs = some (o, r, false) → r = []
  | m, acc, [], o, r, _, h => by rw [partA_nil] at h; injection h with h; injection h with h1 h; injection h with h2 _; exact h2.symm
  | 0, acc, x :: t, o, r, hm, h => by simp at hm
  | m + 1, acc, x :: t, o, r, hm, h => by
    have hm : t.length ≤ m := by simpa using hm
    by_cases h1 : x = 47
    · subst h1; rw [partA_end] at h; injection h with h; injection h with _ h; injection h with _ h; cases h
    by_cases h2 : x = 92
    · subst h2
      cases t with
      | nil => rw [partA_bad] at h; cases h
      | cons c q => rw [partA_esc] at h; exact partA_false m (by simp at hm; omega) h
    · rw [partA_go _ _ h1 h2] at h; exact partA_false m hm h
/-- A substitution. -/
def substF (xs : List Int) : Option (List Int × List Int × Bool) :=
  match xs with
  | [] => none
  | x :: t => if x ≠ 47 then none else
    match partA [] t with
    | none => none
    | some (p, r, g) => if g = false ∨ p = [] then none else
      match partA [] r with
      | none => none
      | some (q, r2, g2) => if (if g2 = true then tkR 103 r2 else r2) = [] then some (p, q, g2 && tk 103 r2) else none
end Go.Vc
namespace Go.Proofs.Ytdkeccgcleamcaa
open Go.RowKit Go.Vc
theorem scatch_panicking (b2 b3 b4 b5 : Nat) (w : World) (P : World → Prop) (h2 : CanStore w b2 0) (h3 : CanStore w b3 0) (h4 : CanStore w b4 0) (h5 : CanStore w b5 0)
    (hP : ∀ w0 w1 w2 w3 w4, Ext w w0 → Stored w0 b2 0 (.string { data := #[] }) w1 → Stored w1 b3 0 (.string { data := #[] }) w2 → Stored w2 b4 0 (.bool false) w3 → Stored w3 b5 0 (.bool false) w4 → P w4) :
    CallsDIn Fence.wide 0 Try.prog 27 #[.pointer (some ⟨b2, 0, none⟩), .pointer (some ⟨b3, 0, none⟩), .pointer (some ⟨b4, 0, none⟩), .pointer (some ⟨b5, 0, none⟩)] (.panicking [{ v := .iface 58 (.agg #[]), recovered := false }]) w fun e u' w' =>
      e = .returned (.tuple #[]) ∧ u' = .panicking [{ v := .iface 58 (.agg #[]), recovered := true }] ∧ P w' := by
  have xa : Ext w (w.alloc (.cells #[] 58)) := NewBlk.ext (b := w.heap.size) (cs := []) (T := 58) ⟨rfl, rfl⟩
  have h2 := xa.can h2
  have h3 := xa.can h3
  have h4 := xa.can h4
  have h5 := xa.can h5
  refine callsDIn_of_wpSIn Try.func27 rfl trivial fun c₀ cs hu => ?_
  apply wpSIn_seq
  apply wpSIn_region
  simp [wpOpsSIn, go_sem, recoverD, hu, Exit.thenS]
  apply wpSIn_seq
  apply wpSIn_region
  simp [wpOpsSIn, go_sem, Exit.thenS]
  refine wpSIn_cond (t := true) (by simp [Act.eval, Array.replicate]) ?_
  simp only [if_true]
  apply wpSIn_seq
  apply wpSIn_seq
  apply wpSIn_region
  simp [wpOpsSIn, go_sem, Exit.thenS, assert_bad]
  generalize w.alloc (.cells #[] 58) = wa at *
  apply wpSIn_seq
  apply wpSIn_region
  simp [wpOpsSIn, go_sem, Exit.thenS]
  refine wpSIn_cond (t := false) (by simp [Act.eval, Array.replicate]) ?_
  simp only [Bool.false_eq_true, if_false]
  refine wpSIn_of_wpIn rfl (wpIn_skip ?_)
  simp only [Exit.thenS]
  have s1 : Stored wa b2 0 (.string { data := #[] }) (wa.setCell ⟨b2, 0, none⟩ (.string { data := #[] })) := ⟨rfl⟩
  have h3 := s1.can h3
  have h4 := s1.can h4
  have h5 := s1.can h5
  obtain ⟨⟨u2, g2⟩, f2⟩ := h2
  generalize hw1 : wa.setCell ⟨b2, 0, none⟩ (.string { data := #[] }) = w1 at *
  have s2 : Stored w1 b3 0 (.string { data := #[] }) (w1.setCell ⟨b3, 0, none⟩ (.string { data := #[] })) := ⟨rfl⟩
  have h4 := s2.can h4
  have h5 := s2.can h5
  obtain ⟨⟨u3, g3⟩, f3⟩ := h3
  generalize hw2 : w1.setCell ⟨b3, 0, none⟩ (.string { data := #[] }) = w2 at *
  have s3 : Stored w2 b4 0 (.bool false) (w2.setCell ⟨b4, 0, none⟩ (.bool false)) := ⟨rfl⟩
  have h5 := s3.can h5
  obtain ⟨⟨u4, g4⟩, f4⟩ := h4
  generalize hw3 : w2.setCell ⟨b4, 0, none⟩ (.bool false) = w3 at *
  have s4 : Stored w3 b5 0 (.bool false) (w3.setCell ⟨b5, 0, none⟩ (.bool false)) := ⟨rfl⟩
  obtain ⟨⟨u5, g5⟩, f5⟩ := h5
  generalize hw4 : w3.setCell ⟨b5, 0, none⟩ (.bool false) = w4 at *
  have fin := hP _ _ _ _ _ xa s1 s2 s3 s4
  apply wpSIn_region
  simp [wpOpsSIn, go_sem, bodyPostS, results, g2, f2, hw1, g3, f3, hw2, g4, f4, hw3, g5, f5, hw4, fin]
theorem scatch_idle (b2 b3 b4 b5 : Nat) (w : World) :
    CallsDIn Fence.wide 0 Try.prog 27 #[.pointer (some ⟨b2, 0, none⟩), .pointer (some ⟨b3, 0, none⟩), .pointer (some ⟨b4, 0, none⟩), .pointer (some ⟨b5, 0, none⟩)] .returning w fun e u' w' => e = .returned (.tuple #[]) ∧ u' = .returning ∧ w' = w := by
  refine callsDIn_of_wpSIn Try.func27 rfl trivial fun c₀ cs hu => ?_
  apply wpSIn_seq
  apply wpSIn_region
  simp [wpOpsSIn, go_sem, recoverD, hu, Exit.thenS]
  apply wpSIn_seq
  apply wpSIn_region
  simp [wpOpsSIn, go_sem, Exit.thenS]
  refine wpSIn_cond (t := false) (by simp [Act.eval, Array.replicate]) ?_
  simp only [Bool.false_eq_true, if_false]
  refine wpSIn_of_wpIn rfl (wpIn_skip ?_)
  cases c₀
  simp_all [bodyPostS, results]
theorem call_scatch : callableB Try.prog 27 = true := by kernel_rfl
section
variable {K : World → Prop} {Kp : List PanicEntry → World → Prop} {b2 b3 b4 b5 : Nat} {w : World}
theorem sleave_ok (h : K w) : LeavesV K Kp Try.prog ({ target := .fn (.func 27) #[.pointer (some ⟨b2, 0, none⟩), .pointer (some ⟨b3, 0, none⟩), .pointer (some ⟨b4, 0, none⟩), .pointer (some ⟨b5, 0, none⟩)], args := #[] } :: []) .returning w := by
  refine ⟨by simp, call_scatch, (scatch_idle b2 b3 b4 b5 w).mono ?_⟩
  rintro e u' w' ⟨rfl, rfl, rfl⟩
  exact h
theorem sleave_panic (B2 : ∃ v, Blk w b2 [v]) (B3 : ∃ v, Blk w b3 [v]) (B4 : ∃ v, Blk w b4 [v]) (B5 : ∃ v, Blk w b5 [v]) (h23 : b2 < b3) (h34 : b3 < b4) (h45 : b4 < b5)
    (h : ∀ w', Upd (fun z => b2 ≤ z) w w' → Blk w' b2 [.string { data := #[] }] → Blk w' b3 [.string { data := #[] }] → Blk w' b4 [.bool false] → Blk w' b5 [.bool false] → K w') :
    LeavesV K Kp Try.prog ({ target := .fn (.func 27) #[.pointer (some ⟨b2, 0, none⟩), .pointer (some ⟨b3, 0, none⟩), .pointer (some ⟨b4, 0, none⟩), .pointer (some ⟨b5, 0, none⟩)], args := #[] } :: []) (.panicking [{ v := .iface 58 (.agg #[]), recovered := false }]) w := by
  obtain ⟨v2, B2⟩ := B2
  obtain ⟨v3, B3⟩ := B3
  obtain ⟨v4, B4⟩ := B4
  obtain ⟨v5, B5⟩ := B5
  refine ⟨by simp, call_scatch, (scatch_panicking b2 b3 b4 b5 w K (B2.can 0 (by simp)) (B3.can 0 (by simp)) (B4.can 0 (by simp)) (B5.can 0 (by simp)) fun w0 w1 w2 w3 w4 x0 s1 s2 s3 s4 => ?_).mono ?_⟩
  · have u1 := s1.upd
    have u2 := s2.upd
    have u3 := s3.upd
    have u4 := s4.upd
    refine h _ (Upd.trans (Upd.trans (Upd.trans (Upd.trans (x0.mono fun _ _ e => e.elim) (u1.mono fun _ _ e => by show b2 ≤ _; omega)) (u2.mono fun _ _ e => by show b2 ≤ _; omega)) (u3.mono fun _ _ e => by show b2 ≤ _; omega)) (u4.mono fun _ _ e => by show b2 ≤ _; omega)) ?_ ?_ ?_ ?_
    · exact ((((B2.ext x0).store s1).upd u2 (by omega)).upd u3 (by omega)).upd u4 (by omega)
    · exact ((((B3.ext x0).upd u1 (by omega)).store s2).upd u3 (by omega)).upd u4 (by omega)
    · exact ((((B4.ext x0).upd u1 (by omega)).upd u2 (by omega)).store s3).upd u4 (by omega)
    · exact ((((B5.ext x0).upd u1 (by omega)).upd u2 (by omega)).upd u3 (by omega)).store s4
  · rintro e u' w' ⟨rfl, rfl, hk⟩
    exact hk
end
section
variable {w : World} {s : ByteArray} {xs : List Int}
/-- One more byte. -/
theorem append_1 {w : World} {base b : Nat} {p : Option Addr} {l c : Nat} {acc : List Int} {x : Int} {w1 : World} (ho : Own w base 5 1 p l c (acc.map (Value.int .u8))) (hb : NewBlk w b [.int .u8 x] 5 w1) (hx : InK .u8 x) (hl : acc.length ≤ 1000000) (hbase : base ≤ w.heap.size) :
    ∃ p' c' w', (Builtin.append_ #[78, 78] 78 #[.slice p l c, .slice (some ⟨b, 0, none⟩) 1 1]).run Try.prog w1 = .ok (.slice p' (l + 1) c') w' ∧ Own w' base 5 1 p' (l + 1) c' ((acc ++ [x]).map (Value.int .u8)) ∧ Upd (fun k => base ≤ k) w w' := by
  have hl' := ho.len
  rw [List.length_map] at hl'
  subst hl'
  have ho1 := ho.ext hb.ext
  have hI := hb.ints (k := .u8) [x] rfl (by simpa using hx)
  obtain ⟨p', c', w', hr, ho', hu⟩ := append_b ho1 hI (l2 := 1) rfl 1 (by simp; omega) (by have := hb.ext.size; omega)
  exact ⟨p', c', w', hr, ho', Upd.then (hb.ext.mono fun _ _ e => e.elim) hu fun g _ ⟨a, ha, e⟩ => by have := (ho1.base ha).1; show base ≤ g; omega⟩
theorem adv_base {base b : Nat} {w' : World} {t : List Int} (h : Adv (fun g => base ≤ g) w w' b t) (hb : w.heap.size ≤ base) : Adv NoT w w' b t :=
  ⟨h.txt, h.upd.mono fun k hk e => e.imp id fun e => by have e : base ≤ k := e; omega, h.oth, h.can⟩
theorem part_does {b : Nat} (h : Txt w b xs) (hc : CanStore w b 0) (hk : ∀ x ∈ xs, InK .u8 x) (hl : xs.length ≤ 5000) : Does Try.prog 30 #[.pointer (some ⟨b, 0, none⟩)] w fun e w' =>
    match partA [] xs with
    | none => e = thrown ∧ Upd (fun k => k = b) w w'
    | some (o, r, g) => ∃ s, e = .returned (.tuple #[.string s, .bool g]) ∧ L s = o ∧ Adv NoT w w' b r ∧ (∀ x ∈ r, InK .u8 x) ∧ r.length ≤ xs.length := by
  have hbw := h.lt
  apply f30_does
  refine ⟨fun p l c nl wl => ∃ acc t, nl = t.length ∧ partA acc t = partA [] xs ∧ Own wl w.heap.size 5 1 p l c (acc.map (Value.int .u8)) ∧ (∀ x ∈ acc, InK .u8 x) ∧ (∀ x ∈ t, InK .u8 x) ∧ Adv (fun g => w.heap.size ≤ g) w wl b t ∧ acc.length + t.length ≤ xs.length,
    ⟨_, [], xs, rfl, rfl, own_nil _ _ _ _, by simp, hk, Adv.refl h, by simp⟩, ?_⟩
  rintro p l c _ wl ⟨acc, t, rfl, hpa, ho, hka, hkt, ad, hlen⟩
  have hbs := ad.upd.size
  have can0 : ∀ {wl t}, Adv (fun g => w.heap.size ≤ g) w wl b t → CanStore wl b 0 := fun ad => ad.can 0 hc
  have hla := ho.len
  rw [List.length_map] at hla
  obtain ⟨s9, hs9, hcell⟩ := ad.txt
  have hsz := L_len s9
  rw [hs9] at hsz
  refine ⟨b, 0, rfl, s9, hcell, ?_⟩
  rw [L_eq, hs9, L_nil]
  refine brr (fun q => ?_) fun q => ?_
  · have q : t ≠ [] := by simpa using q
    obtain ⟨x, t', rfl⟩ : ∃ x t', t = x :: t' := by
      cases t with
      | nil => exact absurd rfl q
      | cons x t' => exact ⟨x, t', rfl⟩
    refine (takes_does ad.txt (can0 ad) 47).imp ?_
    rintro e w12 ⟨rfl, a12⟩
    have A12 := ad.trans a12.any
    have ho12 := ho.upd a12.upd fun a ha e => by have := (ho.base ha).1; rcases e with e | e; omega; exact e
    refine ⟨_, rfl, brr (fun q1 => ?_) fun q1 => ?_⟩
    · have hx : x = 47 := by simpa [tk] using q1
      subst hx
      rw [tkR_yes q1, List.tail_cons] at A12
      refine ⟨_, w12, conv_str Try.underlying78 Try.underlying5 Try.underlying9 (ho12.any hka) hla c, ?_⟩
      rw [← hpa, partA_end]
      exact ⟨_, rfl, L_nums hka, adv_base A12 (Nat.le_refl _), fun x hx => hkt x (List.mem_cons_of_mem _ hx), by simp at hlen; omega⟩
    · have hx : x ≠ 47 := by simpa [tk] using q1
      rw [tkR_no (by rw [q1]; decide)] at A12
      obtain ⟨s18, hs18, hcell18⟩ := A12.txt
      have hsz18 := L_len s18
      rw [hs18] at hsz18
      simp only [List.length_cons] at hsz18
      have e0 : sb s18 0 = x := by
        have := L_sb (s := s18) (i := 0) (by rw [hs18]; simp)
        simp only [hs18, List.getElem_cons_zero] at this
        exact this
      have hxk := hkt x List.mem_cons_self
      refine ⟨b, 0, rfl, s18, hcell18, ⟨by omega, by omega⟩, b, 0, rfl, s18, hcell18, ⟨by omega, by omega⟩, b, 0, rfl, can0 A12, fun ws hs => ?_⟩
      have As := A12.trans (Adv.store (T := fun g => w.heap.size ≤ g) (t := t') (can0 A12) hs (by show L (s18.extract 1 s18.size) = _; rw [L_from, hs18]; rfl))
      have hos := ho12.upd hs.upd fun a ha e => by have := (ho12.base ha).1; have e : a.block = b := e; omega
      rw [e0]
      refine ⟨fun y _ wc => ∃ r, partA (acc ++ [y]) r = partA [] xs ∧ InK .u8 y ∧ (∀ x ∈ r, InK .u8 x) ∧ Adv (fun g => w.heap.size ≤ g) w wc b r ∧ r.length ≤ t'.length ∧ Own wc w.heap.size 5 1 p l c (acc.map (Value.int .u8)), ?_, ?_⟩
      · refine brr (fun q2 => ?_) fun q2 => ?_
        · have hx2 : x = 92 := by simpa using q2
          subst hx2
          obtain ⟨s33, hs33, hcell33⟩ := As.txt
          have hsz33 := L_len s33
          rw [hs33] at hsz33
          refine ⟨b, 0, rfl, s33, hcell33, ?_⟩
          rw [L_eq, hs33, L_nil]
          refine (must_does _).imp ?_
          rintro e w35 ⟨rfl, ⟨hf, rfl⟩ | ⟨hf, rfl⟩⟩
          · have hf : t' ≠ [] := by simpa using hf
            obtain ⟨c', r, rfl⟩ : ∃ x r, t' = x :: r := by
              cases t' with
              | nil => exact absurd rfl hf
              | cons x t' => exact ⟨x, t', rfl⟩
            simp only [List.length_cons] at hsz33
            have e1 : sb s33 0 = c' := by
              have := L_sb (s := s33) (i := 0) (by rw [hs33]; simp)
              simp only [hs33, List.getElem_cons_zero] at this
              exact this
            rw [partA_esc] at hpa
            have hck := hkt c' (by simp)
            have hrk : ∀ x ∈ r, InK .u8 x := fun x hx => hkt x (by simp [hx])
            refine .inl ⟨rfl, b, 0, rfl, s33, hcell33, ⟨by omega, by omega⟩, b, 0, rfl, s33, hcell33, ⟨by omega, by omega⟩, b, 0, rfl, can0 As, fun ws1 hs1 => ?_⟩
            have As1 := As.trans (Adv.store (T := fun g => w.heap.size ≤ g) (t := r) (can0 As) hs1 (by show L (s33.extract 1 s33.size) = _; rw [L_from, hs33]; rfl))
            have hos1 := hos.upd hs1.upd fun a ha e => by have := (hos.base ha).1; have e : a.block = b := e; omega
            rw [e1]
            refine brr (fun q3 => ?_) fun q3 => ?_
            · have q3 : c' = 110 := by simpa using q3
              rw [if_pos q3] at hpa
              exact ⟨0, r, hpa, by decide, hrk, As1, by simp, hos1⟩
            · have q3 : c' ≠ 110 := by simpa using q3
              rw [if_neg q3] at hpa
              exact ⟨0, r, hpa, hck, hrk, As1, by simp, hos1⟩
          · have hf : t' = [] := by simpa using hf
            subst hf
            rw [partA_bad] at hpa
            refine .inr ⟨_, rfl, ?_⟩
            rw [← hpa]
            exact ⟨rfl, As.upd.mono fun k hk e => e.elim id fun e => by have e : w.heap.size ≤ k := e; omega⟩
        · have hx2 : x ≠ 92 := by simpa using q2
          rw [partA_go _ _ hx hx2] at hpa
          exact ⟨0, t', hpa, hxk, fun x hx => hkt x (List.mem_cons_of_mem _ hx), As, Nat.le_refl _, hos⟩
      · rintro y _ wc ⟨r, hpr, hyk, hrk, Ar, hrl, hor⟩ b53 w53 hb53
        simp only [List.length_cons] at hlen
        obtain ⟨p', c', w54, hr, ho', hu⟩ := append_1 hor hb53 hyk (by omega) Ar.upd.size
        refine ⟨p', _, c', w54, hr, r.length, by simp; omega, acc ++ [y], r, rfl, hpr, ho', fun z hz => ?_, hrk, Ar.trans ⟨?_, hu.mono fun k _ e => .inr e, fun j _ => World.cell?_of_block (a := ⟨b, j, none⟩) (hu.block b Ar.txt.lt (by omega)), fun j hj => hu.can (by omega) hj⟩, by simp; omega⟩
        · rcases List.mem_append.1 hz with hz | hz
          · exact hka z hz
          · rw [List.mem_singleton.1 hz]; exact hyk
        · obtain ⟨s0, t1, t2⟩ := Ar.txt
          exact ⟨s0, t1, hu.cell (by omega) t2⟩
  · have q : t = [] := by simpa using q
    subst q
    refine ⟨_, wl, conv_str Try.underlying78 Try.underlying5 Try.underlying9 (ho.any hka) hla c, ?_⟩
    rw [← hpa, partA_nil]
    exact ⟨_, rfl, L_nums hka, adv_base ad (Nat.le_refl _), hkt, by simp⟩
theorem rpart_does (hs : L s = xs) {i : Nat} (hi : i ≤ xs.length) (hl : xs.length ≤ 5000) : Does Try.prog 31 #[.string s, .int .i64 i] w fun e w' => Ext w w' ∧
    match partA [] (xs.drop i) with
    | none => ∃ s k, e = .returned (.tuple #[.string s, .int .i64 k, .bool false])
    | some (o, r, g) => ∃ s, ∃ k : Nat, e = .returned (.tuple #[.string s, .int .i64 k, .bool true]) ∧ L s = o ∧ k ≤ xs.length ∧ xs.drop k = if g = true then 47 :: r else [] := by
  have hsz := L_len s
  rw [hs] at hsz
  apply f31_does
  have hk : ∀ x ∈ xs, InK .u8 x := by rw [← hs]; exact L_inK s
  have hsk : ∀ j : Nat, j < xs.length → InK .u8 (sb s j) := fun j hj => hk _ (by have h1 := drop_at hs hj; exact List.mem_of_mem_drop (i := j) (by rw [h1]; exact List.mem_cons_self))
  refine ⟨fun x p l c nl wl => ∃ j : Nat, ∃ acc, x = j ∧ nl = xs.length - j ∧ j ≤ xs.length ∧ partA acc (xs.drop j) = partA [] (xs.drop i) ∧ Own wl w.heap.size 5 1 p l c (acc.map (Value.int .u8)) ∧ (∀ x ∈ acc, InK .u8 x) ∧ acc.length ≤ j ∧ Ext w wl,
    ⟨_, i, [], rfl, rfl, hi, rfl, own_nil _ _ _ _, by simp, Nat.zero_le _, Upd.refl _ _⟩, ?_⟩
  rintro _ p l c _ wl ⟨j, acc, rfl, rfl, hj, hpa, ho, hka, hal, x⟩
  have hla := ho.len
  rw [List.length_map] at hla
  have step : ∀ {y : Int} {j' : Nat} {b w38}, NewBlk wl b [.int .u8 y] 5 w38 → InK .u8 y → j < j' → j' ≤ xs.length → partA (acc ++ [y]) (xs.drop j') = partA [] (xs.drop i) →
      ∃ (p' : Option Addr) (l' c' : Nat) (w' : World), (Builtin.append_ #[78, 78] 78 #[.slice p l c, .slice (some ⟨b, 0, none⟩) 1 1]).run Try.prog w38 = .ok (.slice p' l' c') w' ∧ InK .i64 (j' : Int) ∧
        ∃ ml, ml < xs.length - j ∧ ∃ j'' : Nat, ∃ acc, (j' : Int) = j'' ∧ ml = xs.length - j'' ∧ j'' ≤ xs.length ∧ partA acc (xs.drop j'') = partA [] (xs.drop i) ∧ Own w' w.heap.size 5 1 p' l' c' (acc.map (Value.int .u8)) ∧ (∀ x ∈ acc, InK .u8 x) ∧ acc.length ≤ j'' ∧ Ext w w' := by
    intro y j' b w38 hb hy hjj hj' hp
    obtain ⟨p', c', w', hr, ho', hu⟩ := append_1 ho hb hy (by omega) x.size
    refine ⟨p', _, c', w', hr, inI64 (by omega) (by omega), _, ?_, j', acc ++ [y], rfl, rfl, hj', hp, ho', fun z hz => ?_, by simp; omega, Upd.then x hu fun g hg e => by have e : w.heap.size ≤ g := e; omega⟩
    · omega
    · rcases List.mem_append.1 hz with hz | hz
      · exact hka z hz
      · rw [List.mem_singleton.1 hz]; exact hy
  refine brr (fun q => ?_) fun q => ?_
  · have q := of_decide_eq_true q
    have hlt : j < xs.length := by omega
    have hd := drop_at hs hlt
    have hjk := hsk j hlt
    refine ⟨⟨by omega, by omega⟩, brr (fun q1 => ?_) fun q1 => ?_⟩
    · have q1 : sb s j ≠ 47 := by simpa using q1
      refine ⟨⟨by omega, by omega⟩, brr (fun q2 => ?_) fun q2 => ?_⟩
      · have q2 : sb s j = 92 := by simpa using q2
        have e1 : ((j : Int) + 1) = ((j + 1 : Nat) : Int) := by omega
        rw [e1]
        refine ⟨inI64 (by omega) (by omega), brr (fun q3 => ?_) fun q3 => ?_⟩
        · have q3 := of_decide_eq_true q3
          refine ⟨x, ?_⟩
          rw [← hpa, hd, q2, List.drop_eq_nil_of_le (by omega : xs.length ≤ j + 1), partA_bad]
          exact ⟨_, _, rfl⟩
        · have q3 := of_decide_eq_false q3
          have hlt1 : j + 1 < xs.length := by omega
          have hd1 := drop_at hs hlt1
          have hjk1 := hsk (j + 1) hlt1
          rw [hd, hd1, q2, partA_esc] at hpa
          have e2 : (((j + 1 : Nat) : Int) + 1) = ((j + 2 : Nat) : Int) := by omega
          rw [e2]
          generalize sb s ((j + 1 : Nat) : Int) = c1 at *
          refine ⟨⟨by omega, by omega⟩, brr (fun q4 b38 w38 hb38 => ?_) fun q4 b38 w38 hb38 => ?_⟩
          · have q4 : c1 = 110 := by simpa using q4
            rw [if_pos q4] at hpa
            exact step hb38 (by decide) (by omega) hlt1 hpa
          · have q4 : c1 ≠ 110 := by simpa using q4
            rw [if_neg q4] at hpa
            exact step hb38 hjk1 (by omega) hlt1 hpa
      · have q2 : sb s j ≠ 92 := by simpa using q2
        rw [hd, partA_go _ _ q1 q2] at hpa
        intro b38 w38 hb38
        have e1 : ((j : Int) + 1) = ((j + 1 : Nat) : Int) := by omega
        rw [e1]
        exact step hb38 hjk (by omega) hlt hpa
    · have q1 : sb s j = 47 := by simpa using q1
      refine ⟨_, wl, conv_str Try.underlying78 Try.underlying5 Try.underlying9 (ho.any hka) hla c, x, ?_⟩
      rw [hd, q1, partA_end] at hpa
      rw [← hpa]
      exact ⟨_, j, rfl, L_nums hka, hj, by rw [hd, q1]; rfl⟩
  · have q := of_decide_eq_false q
    refine ⟨_, wl, conv_str Try.underlying78 Try.underlying5 Try.underlying9 (ho.any hka) hla c, x, ?_⟩
    rw [List.drop_eq_nil_of_le (by omega : xs.length ≤ j), partA_nil] at hpa
    rw [← hpa]
    exact ⟨_, j, rfl, L_nums hka, hj, by rw [List.drop_eq_nil_of_le (by omega : xs.length ≤ j)]; rfl⟩
end
end Go.Proofs.Ytdkeccgcleamcaa
namespace Go.Vc
open Go.RowKit
/-- What a substitution's parts are told to be. -/
def SubstT (xs : List Int) (s1 s2 : ByteArray) (all ok : Bool) : Prop :=
  match substF xs with
  | none => L s1 = [] ∧ L s2 = [] ∧ all = false ∧ ok = false
  | some (p, q, a) => L s1 = p ∧ L s2 = q ∧ all = a ∧ ok = true
theorem SubstT.unique {xs : List Int} {s1 s2 t1 t2 : ByteArray} {a b o k : Bool} (h : SubstT xs s1 s2 a o) (h' : SubstT xs t1 t2 b k) : L s1 = L t1 ∧ L s2 = L t2 ∧ a = b ∧ o = k := by
  unfold SubstT at *
  split at h
  · rename_i e
    rw [e] at h'
    exact ⟨h.1.trans h'.1.symm, h.2.1.trans h'.2.1.symm, h.2.2.1.trans h'.2.2.1.symm, h.2.2.2.trans h'.2.2.2.symm⟩
  · rename_i e
    rw [e] at h'
    exact ⟨h.1.trans h'.1.symm, h.2.1.trans h'.2.1.symm, h.2.2.1.trans h'.2.2.1.symm, h.2.2.2.trans h'.2.2.2.symm⟩
theorem substF_ne {xs p q : List Int} {a : Bool} (h : substF xs = some (p, q, a)) : p ≠ [] := by
  unfold substF at h
  split at h
  · cases h
  · split at h
    · cases h
    · split at h
      · cases h
      · split at h
        · cases h
        · rename_i h1
          split at h
          · cases h
          · rename_i q' r2 g2 _
            by_cases hq : (if g2 = true then tkR 103 r2 else r2) = []
            · rw [if_pos hq] at h
              injection h with h; injection h with h _; subst h
              exact fun e => h1 (.inr e)
            · rw [if_neg hq] at h; cases h
end Go.Vc
namespace Go.Proofs.Ytdkeccgcleamcaa
open Go.RowKit Go.Vc
section
variable {w : World} {s : ByteArray} {xs : List Int}
theorem rsubst_does (hs : L s = xs) (hl : xs.length ≤ 5000) : Does Try.prog 15 #[.string s] w fun e w' => Ext w w' ∧ ∃ s1 s2 all ok, e = .returned (.tuple #[.string s1, .string s2, .bool all, .bool ok]) ∧ SubstT xs s1 s2 all ok := by
  have hsz := L_len s
  rw [hs] at hsz
  apply f15_does
  have no : ∀ {w' : World}, Ext w w' → substF xs = none → Ext w w' ∧ ∃ s1 s2 all ok, Ending.returned (.tuple #[.string { data := #[] }, .string { data := #[] }, .bool false, .bool false]) = .returned (.tuple #[.string s1, .string s2, .bool all, .bool ok]) ∧ SubstT xs s1 s2 all ok := fun x h =>
    ⟨x, _, _, _, _, rfl, by unfold SubstT; rw [h]; exact ⟨L_nil, L_nil, rfl, rfl⟩⟩
  refine brr (fun q => ?_) fun q => ?_
  · have q : (s.size : Int) = 0 := by simpa using q
    exact no (Upd.refl _ _) (by rw [List.length_eq_zero_iff.1 (by omega : xs.length = 0)]; rfl)
  have q : (s.size : Int) ≠ 0 := by simpa using q
  have hlt : 0 < xs.length := by omega
  have hd := drop_at hs hlt
  rw [List.drop_zero, Nat.zero_add] at hd
  refine ⟨⟨by omega, by omega⟩, brr (fun q1 => ?_) fun q1 => ?_⟩
  · have q1 : sb s 0 ≠ 47 := by simpa using q1
    refine no (Upd.refl _ _) ?_
    rw [hd]
    unfold substF
    exact if_pos q1
  have q1 : sb s ((0 : Nat) : Int) = 47 := by simpa using q1
  rw [q1] at hd
  have hF : substF xs = match partA [] (xs.drop 1) with
      | none => none
      | some (p, r, g) => if g = false ∨ p = [] then none else
        match partA [] r with
        | none => none
        | some (q, r2, g2) => if (if g2 = true then tkR 103 r2 else r2) = [] then some (p, q, g2 && tk 103 r2) else none := by
    exact (congrArg substF hd).trans rfl
  refine (rpart_does hs (i := 1) (by omega) hl).imp ?_
  rintro e w21 ⟨x21, hr⟩
  cases hp : partA [] (xs.drop 1) with
  | none =>
    rw [hp] at hr hF
    obtain ⟨s0, k, rfl⟩ := hr
    exact ⟨_, _, _, rfl, tru rfl (no x21 hF)⟩
  | some t =>
    obtain ⟨p, r, g⟩ := t
    rw [hp] at hr hF
    obtain ⟨s1, k, rfl, hs1, hkl, hdk⟩ := hr
    simp only at hF
    refine ⟨_, _, _, rfl, fls rfl ?_⟩
    rw [L_eq, hs1, L_nil]
    refine brr (fun q2 => ?_) fun q2 => ?_
    · have q2 := of_decide_eq_true q2
      exact no x21 (by rw [hF, if_pos (.inr q2)])
    have q2 := of_decide_eq_false q2
    refine brr (fun q3 => ?_) fun q3 => ?_
    · have q3 := of_decide_eq_true q3
      refine no x21 (by rw [hF, if_pos (.inl ?_)])
      rw [List.drop_eq_nil_of_le (by omega)] at hdk
      cases g with
      | false => rfl
      | true => cases hdk
    have q3 := of_decide_eq_false q3
    have hg : g = true := by
      cases g with
      | true => rfl
      | false =>
        rw [drop_at hs (by omega)] at hdk
        cases hdk
    subst hg
    rw [if_neg (by rintro (h | h); cases h; exact q2 h)] at hF
    have hr1 : xs.drop (k + 1) = r := by
      rw [drop_at hs (by omega), if_pos rfl] at hdk
      injection hdk
    have e1 : ((k : Int) + 1) = ((k + 1 : Nat) : Int) := by omega
    rw [e1]
    refine ⟨inI64 (by omega) (by omega), (rpart_does hs (i := k + 1) (by omega) hl).imp ?_⟩
    rintro e w41 ⟨x41, hr⟩
    have X := Ext.thn x21 x41
    rw [hr1] at hr
    cases hp2 : partA [] r with
    | none =>
      rw [hp2] at hr hF
      obtain ⟨s0, k, rfl⟩ := hr
      exact ⟨_, _, _, rfl, tru rfl (no X hF)⟩
    | some t =>
      obtain ⟨p2, r2, g2⟩ := t
      rw [hp2] at hr hF
      obtain ⟨s2, k2, rfl, hs2, hkl2, hdk2⟩ := hr
      simp only at hF
      have hmin : (if (s.size : Int) < (k2 : Int) then (s.size : Int) else (k2 : Int)) = ((k2 : Nat) : Int) := by rw [if_neg (by omega)]
      refine ⟨_, _, _, rfl, fls rfl ?_⟩
      simp only [hmin, Int.toNat_natCast]
      have hrest : L (s.extract k2 s.size) = if g2 = true then 47 :: r2 else [] := by rw [L_from, hs, hdk2]
      have hnil : g2 = false → r2 = [] := fun h => by subst h; exact partA_false _ (Nat.le_refl _) hp2
      refine ⟨⟨by omega, by omega⟩, ?_⟩
      simp only [L_eq, hrest]
      have e47 : L ({ data := #[47] } : ByteArray) = [47] := rfl
      have e4703 : L ({ data := #[47, 103] } : ByteArray) = [47, 103] := rfl
      simp only [L_nil, e47, e4703]
      have yes : ∀ {b : Bool}, (if g2 = true then tkR 103 r2 else r2) = [] → (g2 && tk 103 r2) = b → Ext w w41 ∧ ∃ t1 t2 all ok, Ending.returned (.tuple #[.string s1, .string s2, .bool b, .bool true]) = .returned (.tuple #[.string t1, .string t2, .bool all, .bool ok]) ∧ SubstT xs t1 t2 all ok := fun {b} h hb =>
        ⟨X, _, _, _, _, rfl, by unfold SubstT; rw [hF, if_pos h]; exact ⟨hs1, hs2, hb.symm, rfl⟩⟩
      cases g2 with
      | false =>
        have := hnil rfl
        subst this
        refine fls rfl (yes rfl (by decide))
      | true =>
        simp only [if_true]
        refine tru (by simp) ?_
        cases r2 with
        | nil => exact fls (by simp) (yes rfl (by decide))
        | cons y q =>
          refine tru (by simp) ?_
          refine brr (fun q4 => ?_) fun q4 => ?_
          · have q4 := not_dec q4
            refine no X ?_
            rw [hF, if_neg]
            intro h
            rw [if_pos rfl] at h
            by_cases hy : tk 103 (y :: q) = true
            · rw [tkR_yes hy] at h
              have : y = 103 := by simpa [tk] using hy
              rw [List.tail_cons] at h
              exact q4 (by rw [this, h])
            · rw [tkR_no hy] at h; cases h
          · have q4 := yes_dec q4
            injection q4 with _ q4
            injection q4 with q4 q5
            subst q4 q5
            exact yes (by rw [if_pos rfl, tkR_yes (by decide)]; rfl) (by decide)
end
end Go.Proofs.Ytdkeccgcleamcaa
namespace Go.Vc
open Go.RowKit
/-- The results of a substitution that is being read. -/
structure SF (w wl : World) (b2 b3 b4 b5 b10 : Nat) (s2 s3 : ByteArray) (v4 v5 : Bool) : Prop where
  ext : Ext w wl
  B2 : Blk wl b2 [.string s2]
  B3 : Blk wl b3 [.string s3]
  B4 : Blk wl b4 [.bool v4]
  B5 : Blk wl b5 [.bool v5]
  h2 : w.heap.size ≤ b2
  h3 : b2 < b3
  h4 : b3 < b4
  h5 : b4 < b5
  h10 : b5 < b10
section
variable {w wl w' : World} {b2 b3 b4 b5 b10 : Nat} {s2 s3 : ByteArray} {v4 v5 : Bool}
theorem SF.upd {T : Nat → Prop} (h : SF w wl b2 b3 b4 b5 b10 s2 s3 v4 v5) (u : Upd T wl w') (hT : ∀ g, T g → g = b10) : SF w w' b2 b3 b4 b5 b10 s2 s3 v4 v5 := by
  obtain ⟨x, B2, B3, B4, B5, h2, h3, h4, h5, h10⟩ := h
  have hz := x.size
  exact ⟨Upd.then x u fun g hg e => by have := hT g e; omega, B2.upd u fun e => by have := hT _ e; omega, B3.upd u fun e => by have := hT _ e; omega, B4.upd u fun e => by have := hT _ e; omega, B5.upd u fun e => by have := hT _ e; omega, h2, h3, h4, h5, h10⟩
theorem SF.adv {t : List Int} (h : SF w wl b2 b3 b4 b5 b10 s2 s3 v4 v5) (a : Adv NoT wl w' b10 t) : SF w w' b2 b3 b4 b5 b10 s2 s3 v4 v5 := h.upd a.upd fun _ e => e.elim id fun e => e.elim
theorem SF.ext' (h : SF w wl b2 b3 b4 b5 b10 s2 s3 v4 v5) (x : Ext wl w') : SF w w' b2 b3 b4 b5 b10 s2 s3 v4 v5 := h.upd x fun _ e => e.elim
theorem SF.st2 (h : SF w wl b2 b3 b4 b5 b10 s2 s3 v4 v5) {x : ByteArray} {G : World → Prop} (k : ∀ w', SF w w' b2 b3 b4 b5 b10 x s3 v4 v5 → Upd (fun z => z = b2) wl w' → G w') : CanStore wl b2 0 ∧ ∀ ws, Stored wl b2 0 (.string x) ws → G ws := by
  obtain ⟨x, B2, B3, B4, B5, h2, h3, h4, h5, h10⟩ := h
  exact B2.st (by simp) fun w' B u => k w' ⟨x.loc (by omega) u, B, B3.upd u (by omega), B4.upd u (by omega), B5.upd u (by omega), h2, h3, h4, h5, h10⟩ u
theorem SF.st3 (h : SF w wl b2 b3 b4 b5 b10 s2 s3 v4 v5) {x : ByteArray} {G : World → Prop} (k : ∀ w', SF w w' b2 b3 b4 b5 b10 s2 x v4 v5 → Upd (fun z => z = b3) wl w' → G w') : CanStore wl b3 0 ∧ ∀ ws, Stored wl b3 0 (.string x) ws → G ws := by
  obtain ⟨x, B2, B3, B4, B5, h2, h3, h4, h5, h10⟩ := h
  exact B3.st (by simp) fun w' B u => k w' ⟨x.loc (by omega) u, B2.upd u (by omega), B, B4.upd u (by omega), B5.upd u (by omega), h2, h3, h4, h5, h10⟩ u
theorem SF.st4 (h : SF w wl b2 b3 b4 b5 b10 s2 s3 v4 v5) {x : Bool} {G : World → Prop} (k : ∀ w', SF w w' b2 b3 b4 b5 b10 s2 s3 x v5 → Upd (fun z => z = b4) wl w' → G w') : CanStore wl b4 0 ∧ ∀ ws, Stored wl b4 0 (.bool x) ws → G ws := by
  obtain ⟨x, B2, B3, B4, B5, h2, h3, h4, h5, h10⟩ := h
  exact B4.st (by simp) fun w' B u => k w' ⟨x.loc (by omega) u, B2.upd u (by omega), B3.upd u (by omega), B, B5.upd u (by omega), h2, h3, h4, h5, h10⟩ u
theorem SF.st5 (h : SF w wl b2 b3 b4 b5 b10 s2 s3 v4 v5) {x : Bool} {G : World → Prop} (k : ∀ w', SF w w' b2 b3 b4 b5 b10 s2 s3 v4 x → Upd (fun z => z = b5) wl w' → G w') : CanStore wl b5 0 ∧ ∀ ws, Stored wl b5 0 (.bool x) ws → G ws := by
  obtain ⟨x, B2, B3, B4, B5, h2, h3, h4, h5, h10⟩ := h
  exact B5.st (by simp) fun w' B u => k w' ⟨x.loc (by omega) u, B2.upd u (by omega), B3.upd u (by omega), B4.upd u (by omega), B, h2, h3, h4, h5, h10⟩ u
/-- The reader's text stands. -/
theorem Txt.keep {w w' : World} {b c : Nat} {t : List Int} (h : Txt w b t) (u : Upd (fun z => z = c) w w') (hne : b ≠ c) : Txt w' b t := by obtain ⟨s, h1, h2⟩ := h; exact ⟨s, h1, u.cell hne h2⟩
end
end Go.Vc
namespace Go.Proofs.Ytdkeccgcleamcaa
open Go.RowKit Go.Vc
section
variable {w : World} {s : ByteArray} {xs : List Int}
theorem sf_panic {wl : World} {b2 b3 b4 b5 b10 : Nat} {s2 s3 : ByteArray} {v4 v5 : Bool} (h : SF w wl b2 b3 b4 b5 b10 s2 s3 v4 v5) (hn : substF xs = none) {Kp : List PanicEntry → World → Prop} :
    LeavesV (fun wk => ∃ s2 : ByteArray, wk.cell? ⟨b2, 0, none⟩ = some (.string s2) ∧ ∃ s3 : ByteArray, wk.cell? ⟨b3, 0, none⟩ = some (.string s3) ∧ ∃ b4_1 : Bool, wk.cell? ⟨b4, 0, none⟩ = some (.bool b4_1) ∧ ∃ b5_1 : Bool, wk.cell? ⟨b5, 0, none⟩ = some (.bool b5_1) ∧
      (Ext w wk ∧ ∃ t1 t2 all ok, Ending.returned (.tuple #[.string s2, .string s3, .bool b4_1, .bool b5_1]) = .returned (.tuple #[.string t1, .string t2, .bool all, .bool ok]) ∧ SubstT xs t1 t2 all ok)) Kp Try.prog
      ({ target := .fn (.func 27) #[.pointer (some ⟨b2, 0, none⟩), .pointer (some ⟨b3, 0, none⟩), .pointer (some ⟨b4, 0, none⟩), .pointer (some ⟨b5, 0, none⟩)], args := #[] } :: []) (.panicking [{ v := .iface 58 (.agg #[]), recovered := false }]) wl := by
  obtain ⟨x, B2, B3, B4, B5, h2, h3, h4, h5, h10⟩ := h
  refine sleave_panic ⟨_, B2⟩ ⟨_, B3⟩ ⟨_, B4⟩ ⟨_, B5⟩ h3 h4 h5 fun w' u C2 C3 C4 C5 => ⟨_, C2.cell 0 rfl, _, C3.cell 0 rfl, _, C4.cell 0 rfl, _, C5.cell 0 rfl, Upd.then x u fun g hg e => by have e : b2 ≤ g := e; omega, _, _, _, _, rfl, ?_⟩
  unfold SubstT
  rw [hn]
  exact ⟨L_nil, L_nil, rfl, rfl⟩
theorem subst_does (hs : L s = xs) (hl : xs.length ≤ 5000) : Does Try.prog 14 #[.string s] w fun e w' => Ext w w' ∧ ∃ s1 s2 all ok, e = .returned (.tuple #[.string s1, .string s2, .bool all, .bool ok]) ∧ SubstT xs s1 s2 all ok := by
  apply f14_does
  intro b2 w2 hb2 b3 w3 hb3 b4 w4 hb4 b5 w5 hb5 b10 w10 hb10
  have e2 := hb2.eq
  have e3 := hb3.eq
  have e4 := hb4.eq
  have e5 := hb5.eq
  have e10 := hb10.eq
  have z2 := hb2.size
  have z3 := hb3.size
  have z4 := hb4.size
  have z5 := hb5.size
  have F0 : SF w w10 b2 b3 b4 b5 b10 { data := #[] } { data := #[] } false false :=
    ⟨Ext.thn (Ext.thn (Ext.thn (Ext.thn hb2.ext hb3.ext) hb4.ext) hb5.ext) hb10.ext, (((hb2.blk.ext hb3.ext).ext hb4.ext).ext hb5.ext).ext hb10.ext, ((hb3.blk.ext hb4.ext).ext hb5.ext).ext hb10.ext, (hb4.blk.ext hb5.ext).ext hb10.ext, hb5.blk.ext hb10.ext, by omega, by omega, by omega, by omega, by omega⟩
  have T0 : Txt w10 b10 xs := ⟨s, hs, hb10.cell 0 rfl⟩
  have c0 : CanStore w10 b10 0 := hb10.can 0 (by simp)
  have hk : ∀ x ∈ xs, InK .u8 x := by rw [← hs]; exact L_inK s
  refine (takes_does T0 c0 47).imp ?_
  rintro e w12 ⟨rfl, a12⟩
  have F12 := F0.adv a12
  refine ⟨_, rfl, (must_does _).imp ?_⟩
  rintro e w13 ⟨rfl, ⟨hf, rfl⟩ | ⟨hf, rfl⟩⟩
  rotate_left
  · refine .inr ⟨_, rfl, sf_panic F12 ?_⟩
    cases xs with
    | nil => rfl
    | cons x t => exact if_pos (by simpa [tk] using hf)
  obtain ⟨t, rfl⟩ : ∃ t, xs = 47 :: t := by
    cases xs with
    | nil => cases hf
    | cons x t =>
      have : x = 47 := by simpa [tk] using hf
      exact ⟨t, by rw [this]⟩
  rw [tkR_yes hf, List.tail_cons] at a12
  have hF : substF (47 :: t) = match partA [] t with
      | none => none
      | some (p, r, g) => if g = false ∨ p = [] then none else
        match partA [] r with
        | none => none
        | some (q, r2, g2) => if (if g2 = true then tkR 103 r2 else r2) = [] then some (p, q, g2 && tk 103 r2) else none := rfl
  have hk : ∀ x ∈ t, InK .u8 x := fun x hx => hk x (List.mem_cons_of_mem _ hx)
  simp only [List.length_cons] at hl
  refine .inl ⟨rfl, (part_does a12.txt (a12.can 0 c0) hk (by omega)).imp ?_⟩
  rintro e w16 hr
  cases hp : partA [] t with
  | none =>
    rw [hp] at hr hF
    obtain ⟨rfl, u16⟩ := hr
    exact .inr ⟨_, rfl, sf_panic (F12.upd u16 fun g e => e) hF⟩
  | some pr =>
    obtain ⟨p, r, g⟩ := pr
    rw [hp] at hr hF
    simp only at hF
    obtain ⟨s16, rfl, hs16, a16, hkr, hrl⟩ := hr
    have F16 := F12.adv a16
    have c16 := a16.can 0 (a12.can 0 c0)
    refine .inl ⟨_, _, rfl, F16.st2 fun w17 F17 u17 => F17.st5 fun w18 F18 u18 => ?_⟩
    have n2 : b10 ≠ b2 := by have := F18.h10; omega
    have n5 : b10 ≠ b5 := by have := F18.h10; omega
    have n3 : b10 ≠ b3 := by have := F18.h10; omega
    have n4 : b10 ≠ b4 := by have := F18.h10; omega
    have T18 := (a16.txt.keep u17 n2).keep u18 n5
    have c18 := u18.can n5 (u17.can n2 c16)
    refine ⟨fun _ wc => (g = true ∧ p ≠ []) ∧ wc = w18, ⟨_, F18.B5.cell 0 rfl, brr (fun q => ?_) fun q => ?_⟩, ?_⟩
    · refine ⟨_, F18.B2.cell 0 rfl, ?_⟩
      rw [L_eq, hs16, L_nil]
      refine (must_does _).imp ?_
      rintro e w24 ⟨rfl, ⟨hf, rfl⟩ | ⟨hf, rfl⟩⟩
      · exact .inl ⟨rfl, 0, ⟨q, by simpa using hf⟩, rfl⟩
      · exact .inr ⟨_, rfl, sf_panic F18 (by rw [hF, if_pos (.inr (by simpa using hf))])⟩
    · refine (must_does _).imp ?_
      rintro e w24 ⟨rfl, ⟨hf, rfl⟩ | ⟨hf, rfl⟩⟩
      · cases hf
      · exact .inr ⟨_, rfl, sf_panic F18 (by rw [hF, if_pos (.inl q)])⟩
    · rintro _ wc ⟨⟨rfl, hp0⟩, rfl⟩
      rw [if_neg (by rintro (h | h); cases h; exact hp0 h)] at hF
      refine (part_does T18 c18 hkr (by omega)).imp ?_
      rintro e w27 hr
      cases hp2 : partA [] r with
      | none =>
        rw [hp2] at hr hF
        obtain ⟨rfl, u27⟩ := hr
        exact .inr ⟨_, rfl, sf_panic (F18.upd u27 fun g e => e) hF⟩
      | some pr2 =>
        obtain ⟨q, r2, g2⟩ := pr2
        rw [hp2] at hr hF
        simp only at hF
        obtain ⟨s27, rfl, hs27, a27, _, _⟩ := hr
        have F27 := F18.adv a27
        refine .inl ⟨_, _, rfl, F27.st3 fun w28 F28 u28 => F28.st5 fun w29 F29 u29 => ?_⟩
        have T29 := (a27.txt.keep u28 n3).keep u29 n5
        have c29 := u29.can n5 (u28.can n3 (a27.can 0 c18))
        refine ⟨fun _ wc => SF w wc b2 b3 b4 b5 b10 s16 s27 (g2 && tk 103 r2) g2 ∧ Txt wc b10 (if g2 = true then tkR 103 r2 else r2), ⟨_, F29.B5.cell 0 rfl, brr (fun q => ?_) fun q => ?_⟩, ?_⟩
        · subst q
          refine (takes_does T29 c29 103).imp ?_
          rintro e w32 ⟨rfl, a32⟩
          exact ⟨_, rfl, (F29.adv a32).st4 fun w33 F33 u33 => ⟨0, by rw [Bool.true_and]; exact F33, by rw [if_pos rfl]; exact a32.txt.keep u33 n4⟩⟩
        · subst q
          exact ⟨0, by rw [Bool.false_and]; exact F29, by rw [if_neg (by decide)]; exact T29⟩
        · rintro _ wc9 ⟨F9, s36, hs36, hc36⟩
          refine ⟨s36, hc36, ?_⟩
          rw [L_eq, hs36, L_nil]
          refine (must_does _).imp ?_
          rintro e w38 ⟨rfl, ⟨hf, rfl⟩ | ⟨hf, rfl⟩⟩
          · have hf := of_decide_eq_true hf
            rw [if_pos hf] at hF
            refine .inl ⟨rfl, fun wd hd => ?_⟩
            have Fd := F9.ext' hd.ext
            refine ⟨fun v => v.cell? ⟨b3, 0, none⟩ = some (.string s27) ∧ v.cell? ⟨b4, 0, none⟩ = some (.bool (g2 && tk 103 r2)), ⟨Fd.B3.cell 0 rfl, Fd.B4.cell 0 rfl⟩, _, Fd.B2.cell 0 rfl, _, fun v hv => hv.1, _, fun v hv => hv.2, Fd.st2 fun w1 F1 _ => ⟨⟨F1.B3.cell 0 rfl, F1.B4.cell 0 rfl⟩, F1.st3 fun w2 F2 _ => ⟨⟨F2.B3.cell 0 rfl, F2.B4.cell 0 rfl⟩, F2.st4 fun w3 F3 _ => F3.st5 fun w4 F4 _ => sleave_ok ?_⟩⟩⟩
            refine ⟨_, F4.B2.cell 0 rfl, _, F4.B3.cell 0 rfl, _, F4.B4.cell 0 rfl, _, F4.B5.cell 0 rfl, F4.ext, _, _, _, _, rfl, ?_⟩
            unfold SubstT
            rw [hF]
            exact ⟨hs16, hs27, rfl, rfl⟩
          · have hf := of_decide_eq_false hf
            exact .inr ⟨_, rfl, sf_panic F9 (by rw [hF, if_neg hf])⟩
theorem substs_law (s : ByteArray) : Does Try.prog 5 #[.string s] w (Holds w) := by
  have hsz := L_len s
  apply f5_does
  refine awake_does.imp ?_
  rintro e w9 ⟨rfl, x9⟩
  refine ⟨_, rfl, fls rfl (brr (fun _ => ⟨rfl, x9⟩) fun q => ?_)⟩
  have q := of_decide_eq_false q
  refine (subst_does rfl (by omega)).imp ?_
  rintro e w18 ⟨x18, s1, s2, all, ok, rfl, h1⟩
  refine ⟨_, _, _, _, rfl, (rsubst_does rfl (by omega)).imp ?_⟩
  rintro e w25 ⟨x25, t1, t2, all', ok', rfl, h2⟩
  have X := Ext.thn (Ext.thn x9 x18) x25
  obtain ⟨u1, u2, rfl, rfl⟩ := h1.unique h2
  refine ⟨_, _, _, _, rfl, tru (by simp) (tru (by rw [L_eq]; exact decide_eq_true u1) (tru (by rw [L_eq]; exact decide_eq_true u2) (tru (by simp) (brr (fun _ => ⟨rfl, X⟩) fun q1 => ⟨?_, X⟩))))⟩
  have q1 : ok = true := by simpa using q1
  subst q1
  have : 0 < s1.size := by
    unfold SubstT at h1
    split at h1
    · cases h1.2.2.2
    · rename_i p qq a he
      have := substF_ne he
      rw [← L_len, h1.1]
      exact List.length_pos_iff.2 this
  rw [decide_eq_true (by omega)]
end
end Go.Proofs.Ytdkeccgcleamcaa
