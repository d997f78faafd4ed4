/-
  Command lines: what each function of the code does: addresses, ranges, names, whole lines.
-/
import Derived.Test.YtdkeccgcleamcaaLineCalls
namespace Go.Proofs.Ytdkeccgcleamcaa
open Go.RowKit Go.Vc
section
variable {w : World} {b base : Nat} {xs : List Int} {al : List A} {name : List Int} {bang : Bool} {arg : List Int}
theorem inKA {a : A} {n : Int} (h0 : 0 ≤ n ∧ n < 1000000000) (ho : -4000000000000 ≤ a.off ∧ a.off ≤ 4000000000000) : InK .i64 n ∧ InK .i64 a.off := ⟨inI64 (by omega) (by omega), inI64 (by omega) (by omega)⟩
/-- An address's head that may stand. -/
def okA (a : A) : Prop := InK .u8 a.kind ∧ 0 ≤ a.n ∧ a.n < 1000000000 ∧ InK .u8 a.mark
theorem head_ok {a : A} {r : List Int} (hk : ∀ x ∈ xs, InK .u8 x) (h : headF xs = some (some (a, r))) : okA a ∧ a.off = 0 ∧ r.length ≤ xs.length ∧ ∀ x ∈ r, x ∈ xs := by
  unfold headF at h
  split at h
  · cases h
  · rename_i x t
    split at h
    · injection h with h; injection h with h; injection h with h1 h2
      subst h1 h2
      have := numF_bd (n := 0) (xs := x :: t) (by decide)
      exact ⟨⟨by show InK .u8 110; decide, this.1, this.2, by show InK .u8 0; decide⟩, rfl, numR_len _, fun z hz => List.mem_of_mem_drop hz⟩
    split at h
    · injection h with h; injection h with h; injection h with h1 h2
      subst h1 h2
      exact ⟨⟨by decide, by decide, by decide, by decide⟩, rfl, by simp, fun z hz => List.mem_cons_of_mem _ hz⟩
    split at h
    · injection h with h; injection h with h; injection h with h1 h2
      subst h1 h2
      exact ⟨⟨by decide, by decide, by decide, by decide⟩, rfl, by simp, fun z hz => List.mem_cons_of_mem _ hz⟩
    split at h
    · split at h
      · cases h
      · rename_i c r'
        split at h
        · injection h with h; injection h with h; injection h with h1 h2
          subst h1 h2
          exact ⟨⟨by show InK .u8 109; decide, by show (0 : Int) ≤ 0; decide, by show (0 : Int) < _; decide, hk _ (by simp)⟩, rfl, by simp; omega, fun z hz => by simp [hz]⟩
        · cases h
    · cases h
theorem offF_bd : ∀ (m : Nat) (off : Int) (xs : List Int), xs.length ≤ m → -1000000000 * (m : Int) + off ≤ (offF off xs).1 ∧ (offF off xs).1 ≤ 1000000000 * (m : Int) + off ∧ (offF off xs).2.length ≤ xs.length ∧ ∀ x ∈ (offF off xs).2, x ∈ xs
  | m, off, xs, hm => by
    by_cases h1 : tk 43 xs = true
    · have hl := tk_len h1
      have hr := numR_len xs.tail
      have hn := numF_bd (n := 1) (xs := xs.tail) (by decide)
      rw [offF_plus h1]
      obtain ⟨g1, g2, g3, g4⟩ := offF_bd (m - 1) (off + numF 1 xs.tail) (numR xs.tail) (by omega)
      refine ⟨by omega, by omega, by omega, fun x hx => List.mem_of_mem_tail (List.mem_of_mem_drop (g4 x hx))⟩
    by_cases h2 : tk 45 xs = true
    · have hl := tk_len h2
      have hr := numR_len xs.tail
      have hn := numF_bd (n := 1) (xs := xs.tail) (by decide)
      rw [offF_minus h1 h2]
      obtain ⟨g1, g2, g3, g4⟩ := offF_bd (m - 1) (off - numF 1 xs.tail) (numR xs.tail) (by omega)
      refine ⟨by omega, by omega, by omega, fun x hx => List.mem_of_mem_tail (List.mem_of_mem_drop (g4 x hx))⟩
    · rw [offF_end h1 h2]
      exact ⟨by simp; omega, by simp; omega, Nat.le_refl _, fun x hx => hx⟩
termination_by m off xs => xs.length
/-- What address answers. -/
def AddrR (w : World) (b base : Nat) (xs : List Int) (al : List A) (name : List Int) (bang : Bool) (arg : List Int) (e : Ending) (w' : World) : Prop :=
  Upd (RFr b base) w w' ∧ match addrF xs with
    | none => e = thrown
    | some none => e = .returned (.bool false) ∧ Rd 55 w' b base xs al name bang arg
    | some (some (a, r)) => e = .returned (.bool true) ∧ Rd 55 w' b base r (al ++ [a]) name bang arg
theorem tkR_no {c : Int} (h : ¬ tk c xs = true) : tkR c xs = xs := by unfold tkR; rw [if_neg h]
theorem tkR_yes {c : Int} (h : tk c xs = true) : tkR c xs = xs.tail := by unfold tkR; rw [if_pos h]
theorem address_does (h : Rd 55 w b base xs al name bang arg) (hk : ∀ x ∈ xs, InK .u8 x) (hl : xs.length ≤ 4096) (has : al.length ≤ 10) :
    Does Try.prog 41 #[.pointer (some ⟨b, 0, none⟩)] w (AddrR w b base xs al name bang arg) := by
  apply f41_does
  intro b3 w3 hb3
  have e3 := hb3.eq
  have hb := h.lt
  have hle := h.le
  have hbw := h.txt.lt
  have hne : b3 ≠ b := by omega
  have hT : ∀ g, g < w.heap.size → ¬ (g = b3) := fun g hg e => by omega
  have hTb : ∀ g, g = b3 → base ≤ g := fun g e => by omega
  have a3 : Adv (fun g => g = b3) w w3 b xs := Adv.of_ext h.txt hb3.ext
  -- what is known of the local address
  let Loc : World → A → Prop := fun wl a => wl.cell? ⟨b3, 0, none⟩ = some (.int .u8 a.kind) ∧ wl.cell? ⟨b3, 1, none⟩ = some (.int .i64 a.n) ∧ wl.cell? ⟨b3, 2, none⟩ = some (.int .i64 a.off) ∧ wl.cell? ⟨b3, 3, none⟩ = some (.int .u8 a.mark) ∧ ∀ j, j < 4 → CanStore wl b3 j
  have loc_adv : ∀ {wl wl' : World} {a : A} {t : List Int}, Loc wl a → Adv NoT wl wl' b t → Loc wl' a := fun {wl wl' a t} ⟨l0, l1, l2, l3, l4⟩ ad => by
    have hn : ¬ (b3 = b ∨ NoT b3) := fun e => e.elim hne id
    exact ⟨ad.upd.cell hn l0, ad.upd.cell hn l1, ad.upd.cell hn l2, ad.upd.cell hn l3, fun j hj => ad.upd.can hn (l4 j hj)⟩
  have loc_ext : ∀ {wl wl' : World} {a : A}, Loc wl a → Ext wl wl' → Loc wl' a := fun {wl wl' a} ⟨l0, l1, l2, l3, l4⟩ x => ⟨x.cell l0, x.cell l1, x.cell l2, x.cell l3, fun j hj => x.can (l4 j hj)⟩
  have loc0 : Loc w3 ⟨0, 0, 0, 0⟩ := ⟨hb3.cell 0 rfl, hb3.cell 1 rfl, hb3.cell 2 rfl, hb3.cell 3 rfl, fun j hj => hb3.can j (by simpa using hj)⟩
  have store4 : ∀ {wl : World} {t : List Int} {a0 : A} (k n o m : Int) {G : World → Prop}, Adv (fun g => g = b3) w wl b t → Loc wl a0 → (∀ w2, Adv (fun g => g = b3) w w2 b t → Loc w2 ⟨k, n, o, m⟩ → G w2) →
      CanStore wl b3 0 ∧ ∀ ws, Stored wl b3 0 (.int .u8 k) ws → CanStore ws b3 1 ∧ ∀ ws1, Stored ws b3 1 (.int .i64 n) ws1 → CanStore ws1 b3 2 ∧ ∀ ws2, Stored ws1 b3 2 (.int .i64 o) ws2 → CanStore ws2 b3 3 ∧ ∀ ws3, Stored ws2 b3 3 (.int .u8 m) ws3 → G ws3 := by
    intro wl t a0 k n o m G ad ⟨_, _, _, _, l4⟩ hG
    refine ⟨l4 0 (by omega), fun v0 s0 => ⟨s0.can (l4 1 (by omega)), fun v1 s1 => ⟨s1.can (s0.can (l4 2 (by omega))), fun v2 s2 => ⟨s2.can (s1.can (s0.can (l4 3 (by omega)))), fun v3 s3 => hG v3 ?_ ?_⟩⟩⟩⟩
    · have x0 := ad.trans (Adv.aside ad.txt s0 hne rfl)
      have x1 := x0.trans (Adv.aside x0.txt s1 hne rfl)
      have x2 := x1.trans (Adv.aside x1.txt s2 hne rfl)
      exact x2.trans (Adv.aside x2.txt s3 hne rfl)
    · have n1 : (1 : Nat) ≠ 0 := by decide
      exact ⟨(s3.other (.inr (by decide))).trans ((s2.other (.inr (by decide))).trans ((s1.other (.inr (by decide))).trans (s0.cell (l4 0 (by omega))))), (s3.other (.inr (by decide))).trans ((s2.other (.inr (by decide))).trans (s1.cell (s0.can (l4 1 (by omega))))),
        (s3.other (.inr (by decide))).trans (s2.cell (s1.can (s0.can (l4 2 (by omega))))), s3.cell (s2.can (s1.can (s0.can (l4 3 (by omega))))), fun j hj => s3.can (s2.can (s1.can (s0.can (l4 j hj))))⟩
  have store1 : ∀ {wl : World} {t : List Int} {a0 : A} (k : Int) {G : World → Prop}, Adv (fun g => g = b3) w wl b t → Loc wl a0 → (∀ w2, Adv (fun g => g = b3) w w2 b t → Loc w2 { a0 with kind := k } → G w2) → CanStore wl b3 0 ∧ ∀ ws, Stored wl b3 0 (.int .u8 k) ws → G ws := by
    intro wl t a0 k G ad ⟨_, l1, l2, l3, l4⟩ hG
    refine ⟨l4 0 (by omega), fun v0 s0 => hG v0 (ad.trans (Adv.aside ad.txt s0 hne rfl)) ⟨s0.cell (l4 0 (by omega)), (s0.other (.inr (by decide))).trans l1, (s0.other (.inr (by decide))).trans l2, (s0.other (.inr (by decide))).trans l3, fun j hj => s0.can (l4 j hj)⟩⟩
  have can0 : ∀ {wl : World} {t : List Int}, Adv (fun g => g = b3) w wl b t → CanStore wl b 0 := fun ad => ad.can 0 (h.can 0 (by decide))
  -- where there is none, where it is spoilt
  have absent : ∀ {wl : World}, headF xs = some none → Adv (fun g => g = b3) w wl b xs → AddrR w b base xs al name bang arg (.returned (.bool false)) wl := fun {wl} hh ad => by
    refine ⟨ad.fr hTb, ?_⟩
    unfold addrF
    rw [hh]
    exact ⟨rfl, h.adv ad hT⟩
  have spoilt : ∀ {wl : World} {t : List Int}, headF xs = none → Adv (fun g => g = b3) w wl b t → AddrR w b base xs al name bang arg thrown wl := fun {wl t} hh ad => by
    refine ⟨ad.fr hTb, ?_⟩
    unfold addrF
    rw [hh]
  have notake : ∀ {c : Int} {x : Int} {t : List Int}, xs = x :: t → tk c xs = (x == c) := fun hx => by rw [hx]; rfl
  refine ⟨fun _ wl => ∃ a r, headF xs = some (some (a, r)) ∧ Adv (fun g => g = b3) w wl b r ∧ Loc wl a, ?_, ?_⟩
  · obtain ⟨s, hs, hcell⟩ := a3.txt
    have hsz := L_len s
    rw [hs] at hsz
    refine ⟨b, 0, rfl, s, hcell, ?_⟩
    rw [L_eq, hs, L_nil]
    cases hxs : xs with
    | nil =>
      refine fls (by simp) ?_
      have hT0 : ∀ c, tk c xs = false := fun c => by rw [hxs]; rfl
      have hh : headF xs = some none := by rw [hxs]; rfl
      refine (takes_does a3.txt (can0 a3) 46).imp ?_
      rintro e w23 ⟨rfl, ad⟩
      rw [tkR_no (by rw [hT0]; decide)] at ad
      have A23 := a3.trans ad.any
      refine ⟨_, rfl, fls (hT0 _) ((takes_does A23.txt (can0 A23) 36).imp ?_)⟩
      rintro e w27 ⟨rfl, ad⟩
      rw [tkR_no (by rw [hT0]; decide)] at ad
      have A27 := A23.trans ad.any
      refine ⟨_, rfl, fls (hT0 _) ((takes_does A27.txt (can0 A27) 39).imp ?_)⟩
      rintro e w31 ⟨rfl, ad⟩
      rw [tkR_no (by rw [hT0]; decide)] at ad
      refine ⟨_, rfl, fls (hT0 _) ?_⟩
      rw [← hxs]
      exact absent hh (A27.trans ad.any)
    | cons x t =>
      have hl0 : 0 < xs.length := by rw [hxs]; simp
      have e0 : sb s 0 = x := by
        have := L_sb (s := s) (i := 0) (by rw [hs]; exact hl0)
        simp only [hs, hxs, List.getElem_cons_zero] at this
        exact this
      refine tru (by simp) ⟨b, 0, rfl, s, hcell, ⟨by omega, by omega⟩, (figure_does _).imp ?_⟩
      rintro e w16 ⟨rfl, rfl⟩
      rw [e0]
      refine ⟨_, rfl, brr (fun q => ?_) fun q => ?_⟩
      · -- a number
        have hh : headF xs = some (some (⟨110, numF 0 xs, 0, 0⟩, numR xs)) := by rw [hxs]; unfold headF; simp only [q, if_true]
        refine (number_does a3.txt (can0 a3) 0).imp ?_
        rintro e w19 ⟨rfl, ad⟩
        rw [← hxs]
        refine ⟨_, rfl, store4 110 _ 0 0 (a3.trans ad.any) (loc_adv loc0 ad) fun w2 ad2 lc => ⟨0, _, _, hh, ad2, lc⟩⟩
      refine (takes_does a3.txt (can0 a3) 46).imp ?_
      rintro e w23 ⟨rfl, ad⟩
      rw [notake hxs]
      refine ⟨_, rfl, brr (fun q1 => ?_) fun q1 => ?_⟩
      · have q1 : x = 46 := by simpa using q1
        have hh : headF xs = some (some (⟨46, 0, 0, 0⟩, t)) := by rw [hxs]; unfold headF; simp only [q, q1, if_true]; rfl
        rw [tkR_yes (by rw [notake hxs, q1]; rfl), show xs.tail = t by rw [hxs]; rfl] at ad
        exact store1 46 (a3.trans ad.any) (loc_adv loc0 ad) fun w2 ad2 lc => ⟨0, _, _, by rw [← hxs]; exact hh, ad2, lc⟩
      have q1 : x ≠ 46 := by simpa using q1
      rw [tkR_no (by rw [notake hxs]; simpa using q1)] at ad
      have A23 := a3.trans ad.any
      have L23 := loc_adv loc0 ad
      refine (takes_does A23.txt (can0 A23) 36).imp ?_
      rintro e w27 ⟨rfl, ad⟩
      rw [notake hxs]
      refine ⟨_, rfl, brr (fun q2 => ?_) fun q2 => ?_⟩
      · have q2 : x = 36 := by simpa using q2
        have hh : headF xs = some (some (⟨36, 0, 0, 0⟩, t)) := by rw [hxs]; unfold headF; simp only [q, q2, if_true]; rfl
        rw [tkR_yes (by rw [notake hxs, q2]; rfl), show xs.tail = t by rw [hxs]; rfl] at ad
        exact store1 36 (A23.trans ad.any) (loc_adv L23 ad) fun w2 ad2 lc => ⟨0, _, _, by rw [← hxs]; exact hh, ad2, lc⟩
      have q2 : x ≠ 36 := by simpa using q2
      rw [tkR_no (by rw [notake hxs]; simpa using q2)] at ad
      have A27 := A23.trans ad.any
      have L27 := loc_adv L23 ad
      refine (takes_does A27.txt (can0 A27) 39).imp ?_
      rintro e w31 ⟨rfl, ad⟩
      rw [notake hxs]
      refine ⟨_, rfl, brr (fun q3 => ?_) fun q3 => ?_⟩
      · have q3 : x = 39 := by simpa using q3
        rw [tkR_yes (by rw [notake hxs, q3]; rfl)] at ad
        have ht : xs.tail = t := by rw [hxs]; rfl
        rw [ht] at ad
        have A31 := A27.trans ad.any
        have L31 := loc_adv L27 ad
        obtain ⟨s3, hs3, hcell3⟩ := A31.txt
        have hsz3 := L_len s3
        rw [hs3] at hsz3
        refine ⟨b, 0, rfl, s3, hcell3, ?_⟩
        rw [L_eq, hs3, L_nil]
        cases hxt : t with
        | nil =>
          have hh : headF xs = none := by rw [hxs, hxt]; unfold headF; simp only [q, q1, q2, q3, if_true]; rfl
          refine fls (by simp) ((must_does false).imp ?_)
          rintro e w45 ⟨rfl, ⟨hf, _⟩ | ⟨_, rfl⟩⟩
          · cases hf
          · refine .inr ⟨_, rfl, ?_⟩
            have := spoilt hh A31
            rw [hxs, hxt] at this
            exact this
        | cons c r =>
          have e1 : sb s3 0 = c := by
            have := L_sb (s := s3) (i := 0) (by rw [hs3, hxt]; simp)
            simp only [hs3, hxt, List.getElem_cons_zero] at this
            exact this
          have hl3 : 0 < s3.size := by rw [← hsz3, hxt]; simp
          refine tru (by simp) ⟨b, 0, rfl, s3, hcell3, ⟨by omega, by omega⟩, (small_does _).imp ?_⟩
          rintro e w43 ⟨rfl, rfl⟩
          rw [e1]
          refine ⟨_, rfl, (must_does _).imp ?_⟩
          rintro e w45 ⟨rfl, ⟨hf, rfl⟩ | ⟨hf, rfl⟩⟩
          · have hh : headF xs = some (some (⟨109, 0, 0, c⟩, r)) := by rw [hxs, hxt]; unfold headF; simp only [q, q1, q2, q3, if_true]; simp [hf, show figB 39 = false by decide]
            refine .inl ⟨rfl, b, 0, rfl, s3, hcell3, ⟨by omega, by omega⟩, ?_⟩
            rw [e1]
            refine store4 109 0 0 c A31 L31 fun w2 ad2 lc => ?_
            obtain ⟨s5, hs5, hcell5⟩ := ad2.txt
            have hsz5 := L_len s5
            rw [hs5, hxt] at hsz5
            have hp5 : 0 < s5.size := by rw [← hsz5]; simp
            refine ⟨b, 0, rfl, s5, hcell5, ⟨by omega, by omega⟩, b, 0, rfl, can0 ad2, fun ws10 hs10 => ⟨0, _, _, by rw [← hxt, ← hxs]; exact hh, ad2.trans (Adv.store (can0 ad2) hs10 ?_), ?_⟩⟩
            · show L (s5.extract 1 s5.size) = r
              rw [L_from, hs5, hxt]; rfl
            · obtain ⟨l0, l1, l2, l3, l4⟩ := lc
              have us := hs10.upd
              exact ⟨us.cell hne l0, us.cell hne l1, us.cell hne l2, us.cell hne l3, fun j hj => us.can hne (l4 j hj)⟩
          · have hh : headF xs = none := by rw [hxs, hxt]; unfold headF; simp only [q, q1, q2, q3, if_true]; simp [hf, show figB 39 = false by decide]
            refine .inr ⟨_, rfl, ?_⟩
            have := spoilt hh A31
            rw [hxs, hxt] at this
            exact this
      have q3 : x ≠ 39 := by simpa using q3
      rw [tkR_no (by rw [notake hxs]; simpa using q3)] at ad
      have hh : headF xs = some none := by rw [hxs]; unfold headF; simp only [q, q1, q2, q3]; rfl
      have := absent hh (A27.trans ad.any)
      rw [hxs] at this
      exact this
  · -- signs and numbers
    rintro _ wc ⟨a, r, hh, ad, lc⟩
    obtain ⟨⟨ok1, ok2, ok3, ok4⟩, hoff, hrl, hrm⟩ := head_ok hk hh
    refine ⟨fun nl wl => ∃ off t, nl = t.length ∧ offF off t = offF 0 r ∧ Adv (fun g => g = b3) w wl b t ∧ Loc wl { a with off := off } ∧ t.length ≤ r.length ∧ -1000000000 * ((r.length - t.length : Nat) : Int) ≤ off ∧ off ≤ 1000000000 * ((r.length - t.length : Nat) : Int),
      ⟨_, 0, r, rfl, rfl, ad, by rw [← hoff]; exact lc, Nat.le_refl _, by simp, by simp⟩, ?_⟩
    rintro _ wl ⟨off, t, rfl, hoe, adl, lcl, htl, hb1, hb2⟩
    refine (takes_does adl.txt (can0 adl) 43).imp ?_
    rintro e w74 ⟨rfl, a74⟩
    have A74 := adl.trans a74.any
    have L74 := loc_adv lcl a74
    have hn := numF_bd (n := 1) (xs := t.tail) (by decide)
    have hnr := numR_len t.tail
    have stor : ∀ {wv : World} {t2 : List Int} {o2 : Int} {G : World → Prop}, Adv (fun g => g = b3) w wv b t2 → Loc wv { a with off := off } → (∀ w2, Adv (fun g => g = b3) w w2 b t2 → Loc w2 { a with off := o2 } → G w2) → CanStore wv b3 2 ∧ ∀ ws, Stored wv b3 2 (.int .i64 o2) ws → G ws := by
      intro wv t2 o2 G av ⟨l0, l1, l2, l3, l4⟩ hG
      exact ⟨l4 2 (by omega), fun ws hs => hG ws (av.trans (Adv.aside av.txt hs hne rfl)) ⟨(hs.other (.inr (by decide))).trans l0, (hs.other (.inr (by decide))).trans l1, hs.cell (l4 2 (by omega)), (hs.other (.inr (by decide))).trans l3, fun j hj => hs.can (l4 j hj)⟩⟩
    refine ⟨_, rfl, brr (fun q wd hd => ?_) fun q => ?_⟩
    · have hlt := tk_len q
      rw [tkR_yes q] at A74
      have Ad := A74.trans (Adv.of_ext A74.txt hd.ext)
      have Ld := loc_ext L74 hd.ext
      refine ⟨fun v => v.cell? ⟨b3, 2, none⟩ = some (.int .i64 off), Ld.2.2.1, off, fun v hv => hv, (number_does Ad.txt (can0 Ad) 1).imp ?_⟩
      rintro e w78 ⟨rfl, a78⟩
      have L78 := loc_adv Ld a78
      refine ⟨_, rfl, L78.2.2.1, inI64 (by omega) (by omega), stor (Ad.trans a78.any) L78 fun w2 ad2 lc2 => ⟨_, by omega, off + numF 1 t.tail, numR t.tail, rfl, by rw [← hoe, offF_plus q], ad2, lc2, by omega, by omega, by omega⟩⟩
    have qn : ¬ tk 43 t = true := by rw [q]; decide
    rw [tkR_no qn] at A74
    refine (takes_does A74.txt (can0 A74) 45).imp ?_
    rintro e w83 ⟨rfl, a83⟩
    have A83 := A74.trans a83.any
    have L83 := loc_adv L74 a83
    refine ⟨_, rfl, brr (fun q2 wd hd => ?_) fun q2 wd hd => ?_⟩
    · have hlt := tk_len q2
      rw [tkR_yes q2] at A83
      have Ad := A83.trans (Adv.of_ext A83.txt hd.ext)
      have Ld := loc_ext L83 hd.ext
      refine ⟨fun v => v.cell? ⟨b3, 2, none⟩ = some (.int .i64 off), Ld.2.2.1, off, fun v hv => hv, (number_does Ad.txt (can0 Ad) 1).imp ?_⟩
      rintro e w87 ⟨rfl, a87⟩
      have L87 := loc_adv Ld a87
      refine ⟨_, rfl, L87.2.2.1, inI64 (by omega) (by omega), stor (Ad.trans a87.any) L87 fun w2 ad2 lc2 => ⟨_, by omega, off - numF 1 t.tail, numR t.tail, rfl, by rw [← hoe, offF_minus qn q2], ad2, lc2, by omega, by omega, by omega⟩⟩
    have q2n : ¬ tk 45 t = true := by rw [q2]; decide
    rw [tkR_no q2n] at A83
    have Ad := A83.trans (Adv.of_ext A83.txt hd.ext)
    have Ld := loc_ext L83 hd.ext
    have hend := offF_end (off := off) qn q2n
    rw [hoe] at hend
    have R := h.adv Ad hT
    obtain ⟨p, c, hc1, ho⟩ := R.row
    refine ⟨fun v => Ext wd v, Upd.refl _ _, b, 0, rfl, _, _, _, fun v hv => hv.cell hc1, _, Ld.1, _, Ld.2.1, _, Ld.2.2.1, _, Ld.2.2.2.1, fun b67 w67 hb67 => ⟨hb67.ext, ?_⟩⟩
    have hoi : InK .i64 off := inI64 (by omega) (by omega)
    obtain ⟨p', c', w68, hr, ho', hu, _⟩ := OwnL.append AddrV.stable AddrV.widens slA 23 (ho.ext AddrV.stable AddrV.widens hb67.ext) (b := b67) (vs := [.int .u8 a.kind, .int .i64 a.n, .int .i64 off, .int .u8 a.mark]) rfl (fun j u hj => hb67.cell j hj) (by simp [Value.oneCell']) (x := { a with off := off })
      ⟨rfl, ok1, (inI64 (by omega) (by omega) : InK .i64 a.n), hoi, ok4⟩ (by simp only [maxLen]; omega) (by omega) (by have := R.le; have := hb67.ext.size; omega)
    have hnb : ¬ ∃ z, p = some z ∧ z.block = b := fun ⟨z, hz, e⟩ => by have := (ho.base hz).1; omega
    have R67 := R.ext hb67.ext
    have k1 := hu.can hnb (R67.can 1 (by decide))
    refine ⟨p', _, c', w68, hr, b, 0, rfl, k1, fun ws hs => ?_⟩
    have hfr : Upd (RFr b base) w ws := by
      refine Upd.then (Upd.then (Ext.then (Ad.fr hTb) hb67.ext) hu fun g hg ⟨z, hz, e⟩ => ?_) hs.upd fun g _ e => .inl e
      exact .inr (by have := (ho.base hz).1; omega)
    refine ⟨hfr, ?_⟩
    unfold addrF
    rw [hh]
    simp only [hend]
    refine ⟨trivial, ?_⟩
    obtain ⟨s2, n1, n2⟩ := R67.nm
    obtain ⟨s4, m1, m2⟩ := R67.ar
    obtain ⟨s0, t1, t2⟩ := R67.txt
    have hlen : (al ++ [({ a with off := off } : A)]).length = al.length + 1 := by simp
    have hob : ∀ z, p' = some z → z.block ≠ b := fun z hz e => by have := (ho'.base hz).1; omega
    refine ⟨⟨s0, t1, (hs.other (.inr (by decide))).trans (hu.cell hnb t2)⟩, ⟨p', c', by rw [hlen]; exact hs.cell k1, ?_⟩, ⟨s2, n1, (hs.other (.inr (by decide))).trans (hu.cell hnb n2)⟩, (hs.other (.inr (by decide))).trans (hu.cell hnb R67.bg), ⟨s4, m1, (hs.other (.inr (by decide))).trans (hu.cell hnb m2)⟩, fun j hj => hs.can (hu.can hnb (R67.can j hj)), hb, by have := R67.le; have := hu.size; have := hs.upd.size; omega⟩
    rw [hlen]
    exact ho'.upd AddrV.stable AddrV.widens hs.upd fun g hg _ e => by have e : g = b := e; omega
end
end Go.Proofs.Ytdkeccgcleamcaa
