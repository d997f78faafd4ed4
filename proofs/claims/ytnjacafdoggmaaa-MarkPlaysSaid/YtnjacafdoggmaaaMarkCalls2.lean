/-
  Marks: lists of them, second part.
-/
import Derived.Test.YtnjacafdoggmaaaMarkLoad
namespace Go.Proofs.Ytnjacafdoggmaaa
open Go.RowKit Go.Vc
theorem slM : SlT Try.prog 41 40 2 16 := ⟨Try.underlying41, _, _, rfl, rfl, rfl, rfl, rfl, by decide⟩
theorem own_snoc {w w1 : World} {base : Nat} {p : Option Addr} {l c : Nat} {ms : List (Int × Int)} {b : Nat} {n a : Int} (ho : OwnL MkV w base 40 2 p l c ms) (hb1 : base ≤ w.heap.size)
    (hn : InK .u8 n) (ha : InK .i64 a) (hb : NewBlk w b [.int .u8 n, .int .i64 a] 40 w1) (hlen : ms.length ≤ 1000000) :
    ∃ p' c' w2, (Builtin.append_ #[41, 41] 41 #[.slice p l c, .slice (some ⟨b, 0, none⟩) 1 1]).run Try.prog w1 = .ok (.slice p' (l + 1) c') w2 ∧ OwnL MkV w2 base 40 2 p' (l + 1) c' (ms ++ [(n, a)]) ∧ Upd (fun k => ∃ a, p = some a ∧ a.block = k) w1 w2 := by
  have hl := (ho.rs MkV.widens (by decide)).1
  have x1 := hb.ext
  have z := x1.size
  obtain ⟨p', c', w2, hr, ho', hu, _⟩ := OwnL.append MkV.stable MkV.widens slM 41 (ho.ext MkV.stable MkV.widens x1) (b := b) (vs := [.int .u8 n, .int .i64 a]) rfl (fun j u hj => hb.cell j hj) (by simp [Value.oneCell']) (x := (n, a)) ⟨rfl, hn, ha⟩
    (by simp only [maxLen]; omega) (by omega) (by omega)
  exact ⟨p', c', w2, hr, ho', hu⟩
theorem own_mks {w : World} {base : Nat} {p : Option Addr} {l c : Nat} {ms : List (Int × Int)} (ho : OwnL MkV w base 40 2 p l c ms) : l = ms.length ∧ Mks w (fun g => base ≤ g ∧ g < w.heap.size) p ms := ho.rs MkV.widens (by decide)
/-! ### The plain law -/
/-- The marks that are set, by their names. -/
def allG : Nat → List Int → List (Int × Int)
  | _, [] => []
  | off, x :: r => (if 0 < x then [(97 + (off : Int), x - 1)] else []) ++ allG (off + 1) r
theorem allG_names : ∀ {xs : List Int} {off : Nat}, ∀ m ∈ allG off xs, 97 + (off : Int) ≤ m.1
  | [], _, m, h => by cases h
  | x :: r, off, m, h => by
    simp only [allG, List.mem_append] at h
    rcases h with h | h
    · split at h
      · simp at h; subst h; exact Int.le_refl _
      · cases h
    · have := allG_names m h; omega
theorem allG_snoc : ∀ {xs : List Int} {off : Nat} {x : Int}, allG off (xs ++ [x]) = allG off xs ++ if 0 < x then [(97 + ((off + xs.length : Nat) : Int), x - 1)] else []
  | [], off, x => by simp [allG]
  | y :: r, off, x => by
    rw [List.cons_append, allG, allG_snoc, allG, List.append_assoc]
    congr 3
    simp only [List.length_cons, show off + 1 + r.length = off + (r.length + 1) by omega]
theorem allG_len : ∀ {xs : List Int} {off : Nat}, (allG off xs).length ≤ xs.length
  | [], _ => Nat.le_refl _
  | x :: r, off => by
    have := allG_len (xs := r) (off := off + 1)
    rw [allG, List.length_append, List.length_cons]
    split <;> simp <;> omega
theorem allG_zeros : ∀ {n : Nat} {off : Nat}, allG off (List.replicate n 0) = []
  | 0, _ => rfl
  | n + 1, off => by rw [List.replicate_succ, allG, allG_zeros]; rfl
theorem allG_pos : ∀ {xs : List Int} {off : Nat}, OkX xs → ∀ m ∈ allG off xs, 0 ≤ m.2 ∧ m.2 ≤ 1048576 ∧ m.1 ≤ 97 + ((off + xs.length : Nat) : Int)
  | [], _, _, m, h => by cases h
  | x :: r, off, hx, m, h => by
    simp only [allG, List.mem_append] at h
    rcases h with h | h
    · split at h
      · rename_i hp
        have := hx x List.mem_cons_self
        simp at h; subst h
        simp only [List.length_cons]
        refine ⟨?_, ?_, ?_⟩ <;> (try simp only) <;> omega
      · cases h
    · have := allG_pos (fun y hy => hx y (List.mem_cons_of_mem _ hy)) m h
      simp only [List.length_cons]
      omega
/-- A mark is set among others, as the document says. -/
def loopM (n a : Int) : List (Int × Int) → Bool → List (Int × Int)
  | [], put => if put then [] else [(n, a)]
  | m :: r, put => (if put = false ∧ n ≤ m.1 then [(n, a)] else []) ++ (if m.1 = n then [] else [m]) ++ loopM n a r (put || decide (n ≤ m.1))
theorem loopM_true {n a : Int} : ∀ {l : List (Int × Int)}, (∀ m ∈ l, m.1 ≠ n) → loopM n a l true = l
  | [], _ => rfl
  | m :: r, h => by
    rw [loopM, if_neg (by simp), if_neg (h m List.mem_cons_self), Bool.true_or, loopM_true (fun m' h' => h m' (List.mem_cons_of_mem _ h'))]
    rfl
theorem loopM_gt {n a : Int} : ∀ {l : List (Int × Int)}, (∀ m ∈ l, n < m.1) → loopM n a l false = (n, a) :: l
  | [], _ => rfl
  | m :: r, h => by
    have h1 := h m List.mem_cons_self
    rw [loopM, if_pos ⟨rfl, by omega⟩, if_neg (by omega), decide_eq_true (by omega), Bool.or_true, loopM_true (fun m' h' => by have := h m' (List.mem_cons_of_mem _ h'); omega)]
    rfl
theorem loopM_lt {n a : Int} : ∀ {l : List (Int × Int)}, (∀ m ∈ l, m.1 < n) → loopM n a l false = l ++ [(n, a)]
  | [], _ => rfl
  | m :: r, h => by
    have h1 := h m List.mem_cons_self
    rw [loopM, if_neg (by omega), if_neg (by omega), decide_eq_false (by omega), Bool.or_false, loopM_lt (fun m' h' => h m' (List.mem_cons_of_mem _ h'))]
    rfl
theorem allG_set : ∀ {xs : List Int} {off k : Nat} {a : Int}, k < xs.length → 0 ≤ a → allG off (xs.set k (a + 1)) = loopM (97 + ((off + k : Nat) : Int)) a (allG off xs) false
  | [], _, _, _, h, _ => by simp at h
  | x :: r, off, 0, a, _, ha => by
    have hg : ∀ m ∈ allG (off + 1) r, 97 + ((off + 0 : Nat) : Int) < m.1 := fun m hm => by have := allG_names m hm; omega
    rw [List.set_cons_zero, allG, if_pos (by omega), allG, show a + 1 - 1 = a by omega]
    by_cases hx : 0 < x
    · rw [if_pos hx, List.singleton_append, List.singleton_append, loopM, if_pos ⟨rfl, by simp⟩, if_pos (by simp), decide_eq_true (by simp), Bool.or_true, loopM_true (fun m hm => by have := hg m hm; omega)]
      rfl
    · rw [if_neg hx, List.nil_append, loopM_gt hg]
      rfl
  | x :: r, off, k + 1, a, h, ha => by
    have ih := allG_set (xs := r) (off := off + 1) (k := k) (a := a) (by simpa using h) ha
    rw [List.set_cons_succ, allG, ih, allG, show off + 1 + k = off + (k + 1) by omega]
    by_cases hx : 0 < x
    · rw [if_pos hx, List.singleton_append, List.singleton_append, loopM, if_neg (by omega), if_neg (by omega), decide_eq_false (by omega), Bool.or_false]
      rfl
    · rw [if_neg hx]; rfl
def capP (a : Int) (e : E) : Int := if 1048576 < placeE a e then 1048576 else placeE a e
theorem capP_ok {e : E} (he : 0 ≤ e.at_) {a : Int} (h : 0 ≤ a ∧ a ≤ 1048576) : 0 ≤ capP a e ∧ capP a e ≤ 1048576 := by
  have := placeE_pos he h.1
  unfold capP
  split <;> omega
theorem allG_map {e : E} (he : 0 ≤ e.at_) : ∀ {xs : List Int} {off : Nat}, OkX xs → allG off (xs.map (shiftX e)) = (allG off xs).map fun m => (m.1, capP m.2 e)
  | [], _, _ => rfl
  | x :: r, off, hx => by
    have ih := allG_map he (xs := r) (off := off + 1) (fun y hy => hx y (List.mem_cons_of_mem _ hy))
    rw [List.map_cons, allG, allG, ih, List.map_append]
    congr 1
    unfold shiftX
    by_cases hp : 0 < x
    · have h2 := placeE_pos he (a := x - 1) (by omega)
      rw [if_pos hp, if_pos hp, if_pos (by split <;> omega)]
      simp only [List.map_cons, List.map_nil, capP]
      congr 2
      omega
    · rw [if_neg hp, if_neg hp]; rfl
theorem allG_shift {es : List E} (he : ∀ e ∈ es, OkE e) {xs : List Int} {off : Nat} (hx : OkX xs) : allG off (shiftL es xs) = (allG off xs).map fun m => (m.1, es.foldl capP m.2) := by
  induction es generalizing xs with
  | nil => show allG off xs = (allG off xs).map fun m => (m.1, m.2); simp
  | cons e r ih =>
    have he0 := (he e List.mem_cons_self).1
    show allG off (shiftL r (xs.map (shiftX e))) = _
    rw [ih (fun e' h' => he e' (List.mem_cons_of_mem _ h')) (hx.map he0), allG_map he0 hx, List.map_map]
    rfl
theorem mayM_iff {n a : Int} : mayM n a = true ↔ (97 ≤ n ∧ n ≤ 122) ∧ 0 ≤ a ∧ a ≤ 1048576 := by
  unfold mayM
  rw [Bool.and_eq_true, decide_eq_true_iff, decide_eq_true_iff]
theorem setX_all {xs : List Int} (hl : xs.length = 26) {m : Int × Int} (h : mayM m.1 m.2 = true) : allG 0 (setX xs m) = loopM m.1 m.2 (allG 0 xs) false := by
  have h := mayM_iff.1 h
  unfold setX
  rw [allG_set (by omega) h.2.1]
  congr 1
  omega
theorem foldX_len {ms : List (Int × Int)} {xs : List Int} : (ms.foldl setX xs).length = xs.length := by
  induction ms generalizing xs with
  | nil => rfl
  | cons m r ih => exact ih.trans (by simp [setX])
theorem load_all {ms : List (Int × Int)} (h : MayL ms) : allG 0 (loadX ms) = ms := by
  have key : ∀ k, (hle : k ≤ ms.length) → allG 0 ((ms.take k).foldl setX zeros26) = ms.take k ∧ ∀ m ∈ ms.take k, ∀ (hk : 0 < k), m.1 ≤ (ms[k - 1]'(by omega)).1 := by
    intro k
    induction k with
    | zero => intro _; exact ⟨allG_zeros, fun m hm => by simp at hm⟩
    | succ k ih =>
      intro hk
      have hlt : k < ms.length := by omega
      obtain ⟨ih1, ih2⟩ := ih (by omega)
      have hm := h k hlt
      have hbound : ∀ m ∈ ms.take k, m.1 < ms[k].1 := fun m hmem => by
        have h0 : 0 < k := by
          rcases Nat.eq_zero_or_pos k with rfl | h0
          · simp at hmem
          · exact h0
        have := ih2 m hmem h0
        have := hm.2 h0
        omega
      rw [List.take_succ_eq_append_getElem hlt, List.foldl_append]
      refine ⟨?_, fun m hmem _ => ?_⟩
      · show allG 0 (setX ((ms.take k).foldl setX zeros26) ms[k]) = _
        rw [setX_all (by rw [foldX_len]; rfl) hm.1, ih1, loopM_lt hbound]
      · simp only [List.mem_append, List.mem_singleton] at hmem
        simp only [Nat.add_sub_cancel]
        rcases hmem with hmem | rfl
        · have := hbound m hmem; omega
        · exact Int.le_refl _
  have := (key ms.length (Nat.le_refl _)).1
  rwa [List.take_length] at this
/-! ### The functions -/
theorem good_does {w : World} (a : Int) : Does Try.prog 25 #[.int .i64 a] w fun e w' => e = .returned (.bool (decide (0 ≤ a ∧ a ≤ 1048576))) ∧ w' = w := by
  apply f25_does
  refine ⟨fun j => ⟨?_, rfl⟩, fun j => ⟨?_, rfl⟩⟩
  · have j := of_decide_eq_true j
    rw [show decide (a ≤ 1048576) = decide (0 ≤ a ∧ a ≤ 1048576) by rw [decide_eq_decide]; omega]
  · have j := of_decide_eq_false j
    rw [decide_eq_false (by omega)]
theorem may_does {w : World} {ok : Nat → Prop} {p : Option Addr} {ms : List (Int × Int)} (hm : Mks w ok p ms) {l : Nat} (hl : l = ms.length) (c : Nat) (h63 : ms.length ≤ 9223372036854775807) :
    Does Try.prog 17 #[.slice p l c] w fun e w' => Ext w w' ∧ ∃ b, e = .returned (.bool b) ∧ (b = true ↔ MayL ms) := by
  subst hl
  apply f17_does
  refine ⟨fun x n wl => ∃ k : Nat, x = k ∧ n = ms.length - k ∧ k ≤ ms.length ∧ MayL (ms.take k) ∧ Ext w wl, ⟨_, 0, rfl, rfl, Nat.zero_le _, fun i hi => by simp at hi, Upd.refl _ _⟩, ?_⟩
  rintro _ n wl ⟨k, rfl, rfl, hk, hmay, xl⟩
  refine ⟨fun jj => ?_, fun jj => ?_⟩
  · have jj := of_decide_eq_true jj
    have hlt : k < ms.length := by omega
    intro wd hd
    have y := Ext.thn xl hd.ext
    obtain ⟨b, o, hp, _, a1, a2, k1, k2⟩ := (hm.ext y).at k hlt
    have no : ¬ mayM ms[k].1 ms[k].2 = true → Ext w wd ∧ ∃ b, Ending.returned (.bool false) = .returned (.bool b) ∧ (b = true ↔ MayL ms) := fun h => ⟨y, false, rfl, ⟨fun e => (by cases e), fun h' => absurd (h' k hlt).1 h⟩⟩
    refine ⟨fun w' => w' = wd, rfl, ⟨by omega, by omega⟩, b, o, hp, _, a1, fun c1 => no fun h => ?_, fun c1 => ⟨⟨by omega, by omega⟩, b, o, hp, _, a1, fun c2 => no fun h => ?_, fun c2 => ⟨⟨by omega, by omega⟩, b, o, hp, _, a2, (good_does _).imp ?_⟩⟩⟩
    · have := mayM_iff.1 h; have c1 := of_decide_eq_true c1; omega
    · have := mayM_iff.1 h; have c2 := of_decide_eq_true c2; omega
    have c1 := of_decide_eq_false c1
    have c2 := of_decide_eq_false c2
    rintro e w30 ⟨rfl, rfl⟩
    refine ⟨_, rfl, rfl, fun c3 => no fun h => ?_, fun c3 => ?_⟩
    · have := mayM_iff.1 h
      rw [decide_eq_true this.2] at c3
      cases c3
    have c3 : 0 ≤ ms[k].2 ∧ ms[k].2 ≤ 1048576 := by simpa using c3
    have hmm : mayM ms[k].1 ms[k].2 = true := mayM_iff.2 ⟨by omega, c3⟩
    have fin : (0 < k → ms[k - 1].1 < ms[k].1) → InK .i64 ((k : Int) + 1) ∧ ∃ ml2, ml2 < ms.length - k ∧ ∃ k' : Nat, (k : Int) + 1 = k' ∧ ml2 = ms.length - k' ∧ k' ≤ ms.length ∧ MayL (ms.take k') ∧ Ext w w30 := fun hr =>
      ⟨inI64 (by omega) (by omega), _, by omega, k + 1, by omega, rfl, hlt, hmay.snoc hlt hmm hr, y⟩
    refine ⟨fun c4 => ?_, fun c4 => fin fun h0 => ?_⟩
    · have c4 := of_decide_eq_true c4
      have hk1 : ((k : Int) - 1).toNat = k - 1 := by omega
      obtain ⟨b', o', hp', _, d1, d2, _, _⟩ := (hm.ext y).at (k - 1) (by omega)
      rw [hk1]
      refine ⟨⟨by omega, by omega⟩, b, o, hp, _, fun w' e => by rw [e]; exact a1, inI64 (by omega) (by omega), ⟨by omega, by omega⟩, b', o', hp', _, fun w' e => by rw [e]; exact d1, fun c5 => ?_, fun c5 => fin fun _ => ?_⟩
      · have c5 := of_decide_eq_true c5
        exact ⟨y, false, rfl, ⟨fun e => (by cases e), fun h' => (by have := (h' k hlt).2 (by omega); omega)⟩⟩
      · have c5 := of_decide_eq_false c5
        omega
    · have c4 := of_decide_eq_false c4
      omega
  · have jj := of_decide_eq_false jj
    obtain rfl : k = ms.length := by omega
    rw [List.take_length] at hmay
    exact ⟨xl, true, rfl, ⟨fun _ => hmay, fun _ => rfl⟩⟩
theorem samem_does {w : World} {ok ok' : Nat → Prop} {p q : Option Addr} {xs ys : List (Int × Int)} (hx : Mks w ok p xs) (hy : Mks w ok' q ys) {l m : Nat} (hl : l = xs.length) (hm : m = ys.length) (c d : Nat) (hs : xs.length ≤ 9223372036854775807) :
    Does Try.prog 18 #[.slice p l c, .slice q m d] w fun e w' => e = .returned (.bool (decide (xs = ys))) ∧ Ext w w' := by
  subst hl hm
  apply f18_does
  by_cases hlen : xs.length = ys.length
  case neg =>
    refine tru (by simp; omega) ⟨?_, Upd.refl _ _⟩
    rw [decide_eq_false (fun h => hlen (by rw [h]))]
  refine fls (by simp [hlen]) ?_
  refine ⟨fun i n wl => ∃ k : Nat, i = k ∧ n = xs.length - k ∧ k ≤ xs.length ∧ xs.take k = ys.take k ∧ Ext w wl, ⟨_, 0, rfl, rfl, Nat.zero_le _, rfl, Upd.refl _ _⟩, ?_⟩
  rintro _ n wl ⟨k, rfl, rfl, hk, heq, hw⟩
  refine ⟨fun h => ?_, fun h => ?_⟩
  · have h := of_decide_eq_true h
    have hlt : k < xs.length := by omega
    have hlt' : k < ys.length := by omega
    intro wd hd
    have hwd := Ext.thn hw hd.ext
    obtain ⟨b, o, hp, _, a1, a2, _, _⟩ := (hx.ext hwd).at k hlt
    obtain ⟨b', o', hp', _, b1, b2, _, _⟩ := (hy.ext hwd).at k hlt'
    refine ⟨⟨by omega, by omega⟩, b, o, hp, _, a1, _, a2, ⟨by omega, by omega⟩, b', o', hp', _, b1, _, b2, fun h => ?_, fun h => ?_⟩
    · refine ⟨?_, hwd⟩
      rw [decide_eq_false]
      intro e
      subst e
      simp at h
    · have he : xs[k] = ys[k] := by
        simp at h
        exact Prod.ext h.1 h.2
      refine ⟨inI64 (by omega) (by omega), _, by omega, k + 1, by omega, rfl, hlt, ?_, hwd⟩
      rw [List.take_succ_eq_append_getElem hlt, List.take_succ_eq_append_getElem hlt', heq, he]
  · have h := of_decide_eq_false h
    have : k = xs.length := by omega
    subst this
    refine ⟨?_, hw⟩
    rw [decide_eq_true]
    rw [List.take_length] at heq
    rw [heq, hlen, List.take_length]
theorem mk_of_blk {w w' : World} {b : Nat} {xs : List Int} {T : TypeId} (hb : NewBlk w b (.bool true :: xs.map (Value.int .i64)) T w') (hl : xs.length = 26) (hx : OkX xs) : Mk w' b xs := by
  refine ⟨hl, hx, hb.cell 0 rfl, fun j hj => hb.cell _ ?_, fun j hj => hb.can _ ?_⟩
  · rw [Nat.zero_add, Nat.add_comm, List.getElem?_cons_succ, List.getElem?_map, List.getD_eq_getElem?_getD, List.getElem?_eq_getElem (by omega)]
    rfl
  · simp only [List.length_cons, List.length_map]
    omega
theorem clone_does {w : World} {g : Nat} {xs : List Int} (h : Mk w g xs) : Does Try.prog 16 #[.pointer (some ⟨g, 0, none⟩)] w fun e w' => ∃ g', e = .returned (.pointer (some ⟨g', 0, none⟩)) ∧ Mk w' g' xs ∧ w.heap.size ≤ g' ∧ Ext w w' := by
  apply f16_does
  obtain ⟨x0, x1, x2, x3, x4, x5, x6, x7, x8, x9, x10, x11, x12, x13, x14, x15, x16, x17, x18, x19, x20, x21, x22, x23, x24, x25, rfl⟩ : ∃ x0 x1 x2 x3 x4 x5 x6 x7 x8 x9 x10 x11 x12 x13 x14 x15 x16 x17 x18 x19 x20 x21 x22 x23 x24 x25, xs = [x0, x1, x2, x3, x4, x5, x6, x7, x8, x9, x10, x11, x12, x13, x14, x15, x16, x17, x18, x19, x20, x21, x22, x23, x24, x25] := by
    match xs, h.len with
    | [x0, x1, x2, x3, x4, x5, x6, x7, x8, x9, x10, x11, x12, x13, x14, x15, x16, x17, x18, x19, x20, x21, x22, x23, x24, x25], _ => exact ⟨_, _, _, _, _, _, _, _, _, _, _, _, _, _, _, _, _, _, _, _, _, _, _, _, _, _, rfl⟩
  refine fls rfl ⟨g, 0, rfl, _, h.made, fls rfl ⟨g, 0, rfl, _, h.made, _, h.cell 0 (by decide), _, h.cell 1 (by decide), _, h.cell 2 (by decide), _, h.cell 3 (by decide), _, h.cell 4 (by decide), _, h.cell 5 (by decide), _, h.cell 6 (by decide), _, h.cell 7 (by decide), _, h.cell 8 (by decide), _, h.cell 9 (by decide), _, h.cell 10 (by decide), _, h.cell 11 (by decide), _, h.cell 12 (by decide), _, h.cell 13 (by decide), _, h.cell 14 (by decide), _, h.cell 15 (by decide), _, h.cell 16 (by decide), _, h.cell 17 (by decide), _, h.cell 18 (by decide), _, h.cell 19 (by decide), _, h.cell 20 (by decide), _, h.cell 21 (by decide), _, h.cell 22 (by decide), _, h.cell 23 (by decide), _, h.cell 24 (by decide), _, h.cell 25 (by decide), fun b3 w3 hb => ?_⟩⟩
  refine ⟨hb.can 0 (by simp), fun ws0 s0 => ?_⟩
  have hb := hb.store s0
  refine ⟨hb.can 1 (by simp), fun ws1 s1 => ?_⟩
  have hb := hb.store s1
  refine ⟨hb.can 2 (by simp), fun ws2 s2 => ?_⟩
  have hb := hb.store s2
  refine ⟨hb.can 3 (by simp), fun ws3 s3 => ?_⟩
  have hb := hb.store s3
  refine ⟨hb.can 4 (by simp), fun ws4 s4 => ?_⟩
  have hb := hb.store s4
  refine ⟨hb.can 5 (by simp), fun ws5 s5 => ?_⟩
  have hb := hb.store s5
  refine ⟨hb.can 6 (by simp), fun ws6 s6 => ?_⟩
  have hb := hb.store s6
  refine ⟨hb.can 7 (by simp), fun ws7 s7 => ?_⟩
  have hb := hb.store s7
  refine ⟨hb.can 8 (by simp), fun ws8 s8 => ?_⟩
  have hb := hb.store s8
  refine ⟨hb.can 9 (by simp), fun ws9 s9 => ?_⟩
  have hb := hb.store s9
  refine ⟨hb.can 10 (by simp), fun ws10 s10 => ?_⟩
  have hb := hb.store s10
  refine ⟨hb.can 11 (by simp), fun ws11 s11 => ?_⟩
  have hb := hb.store s11
  refine ⟨hb.can 12 (by simp), fun ws12 s12 => ?_⟩
  have hb := hb.store s12
  refine ⟨hb.can 13 (by simp), fun ws13 s13 => ?_⟩
  have hb := hb.store s13
  refine ⟨hb.can 14 (by simp), fun ws14 s14 => ?_⟩
  have hb := hb.store s14
  refine ⟨hb.can 15 (by simp), fun ws15 s15 => ?_⟩
  have hb := hb.store s15
  refine ⟨hb.can 16 (by simp), fun ws16 s16 => ?_⟩
  have hb := hb.store s16
  refine ⟨hb.can 17 (by simp), fun ws17 s17 => ?_⟩
  have hb := hb.store s17
  refine ⟨hb.can 18 (by simp), fun ws18 s18 => ?_⟩
  have hb := hb.store s18
  refine ⟨hb.can 19 (by simp), fun ws19 s19 => ?_⟩
  have hb := hb.store s19
  refine ⟨hb.can 20 (by simp), fun ws20 s20 => ?_⟩
  have hb := hb.store s20
  refine ⟨hb.can 21 (by simp), fun ws21 s21 => ?_⟩
  have hb := hb.store s21
  refine ⟨hb.can 22 (by simp), fun ws22 s22 => ?_⟩
  have hb := hb.store s22
  refine ⟨hb.can 23 (by simp), fun ws23 s23 => ?_⟩
  have hb := hb.store s23
  refine ⟨hb.can 24 (by simp), fun ws24 s24 => ?_⟩
  have hb := hb.store s24
  refine ⟨hb.can 25 (by simp), fun ws25 s25 => ?_⟩
  have hb := hb.store s25
  refine ⟨hb.can 26 (by simp), fun ws26 s26 => ?_⟩
  have hb := hb.store s26
  simp only [List.set_cons_succ, List.set_cons_zero] at hb
  have hb' : NewBlk w b3 (.bool true :: [x0, x1, x2, x3, x4, x5, x6, x7, x8, x9, x10, x11, x12, x13, x14, x15, x16, x17, x18, x19, x20, x21, x22, x23, x24, x25].map (Value.int .i64)) _ ws26 := hb
  exact ⟨b3, rfl, mk_of_blk hb' rfl h.okx, by rw [hb.eq]; exact Nat.le_refl _, hb.ext⟩
theorem all_does {w : World} {g : Nat} {xs : List Int} (h : Mk w g xs) : Does Try.prog 19 #[.pointer (some ⟨g, 0, none⟩)] w fun e w' => ∃ p c, e = .returned (.slice p (allG 0 xs).length c) ∧ Mks w' (fun z => w.heap.size ≤ z) p (allG 0 xs) ∧ Ext w w' := by
  apply f19_does
  refine fls rfl fun b3 w3 hb3 => ?_
  have x3 := hb3.ext
  have e3 := hb3.eq
  have l3 := hb3.lt
  refine f22_does _ fun b1 w9 hb1 => ⟨_, _, _, rfl, fun D lr rec wr hO hY => ?_⟩
  have x1 := hb1.ext
  have xO := hO.ext
  have e1 := hb1.eq
  have l1 := hb1.lt
  have zO := hO.size
  have eD := hO.blk
  have eL := hO.rcd
  have xr := Ext.thn (Ext.thn x3 x1) xO
  have x3r := Ext.thn x1 xO
  have z1 := x1.size
  have z3 := x3.size
  have hgl := h.lt
  refine doesG_func ((each_does (h.ext xr) (xO.cell (hb1.cell 0 rfl)) lr (fun j w' => LoopAt w' lr rec .ready ∧ (∃ p c, w'.cell? ⟨b3, 0, none⟩ = some (.slice p (allG 0 (xs.take j)).length c) ∧ OwnL MkV w' wr.heap.size 40 2 p (allG 0 (xs.take j)).length c (allG 0 (xs.take j))) ∧ CanStore w' b3 0 ∧ Upd (fun z => z = b3 ∨ z = lr) wr w')
    ⟨hO.loop, ⟨none, 0, x3r.cell (hb3.cell 0 rfl), OwnL.nil _ _ _ _⟩, x3r.can (hb3.can 0 (by simp)), Upd.refl _ _⟩ ?_).imp ?_)
  · rintro j wy hj ⟨hL, ⟨p, c, hc, ho⟩, hcan, hU⟩
    have hjl : j < xs.length := by rw [h.len]; exact hj
    have hg : xs.getD j 0 = xs[j] := by rw [List.getD_eq_getElem?_getD, List.getElem?_eq_getElem hjl]; rfl
    have hbd := h.bound j hj
    have hsn := allG_snoc (xs := xs.take j) (off := 0) (x := xs[j])
    rw [← List.take_succ_eq_append_getElem hjl, show 0 + (xs.take j).length = j by simp; omega] at hsn
    have hlen26 : (allG 0 (xs.take j)).length ≤ 26 := by have := allG_len (xs := xs.take j) (off := 0); have h2 := List.length_take (i := j) (l := xs); omega
    refine ⟨fun hpos => ?_, fun hneg => ?_⟩
    · rw [if_pos (by rw [← hg]; exact hpos)] at hsn
      refine hY _ _ wy _ hL ⟨hL, fun wb hT hB => ?_⟩
      have uT := hT.upd
      have hbase := hU.size
      have hpb : ∀ a, p = some a → wr.heap.size ≤ a.block := fun a ha => (ho.base ha).1
      have hob : OwnL MkV wb wr.heap.size 40 2 p (allG 0 (xs.take j)).length c (allG 0 (xs.take j)) := by
        obtain ⟨vss, h1, h2⟩ := ho
        refine ⟨vss, h1.upd uT (fun a ha e => by have := hpb a ha; have e : a.block = lr := e; omega), h2.imp fun vs x ⟨q1, q2⟩ => ⟨q1, q2⟩⟩
      have zT := uT.size
      refine ⟨_, _, _, uT.cell (by omega) hc, fun b16 w16 hb16 => ?_⟩
      obtain ⟨p', c', w17, hr, ho', u17⟩ := own_snoc (w := wb) hob (by omega) ⟨by show (0 : Int) ≤ _; omega, by show _ ≤ (255 : Int); omega⟩ (inI64 (by omega) (by omega)) hb16 (by omega)
      have x16 := hb16.ext
      have nb3 : ¬ ∃ a, p = some a ∧ a.block = b3 := fun ⟨a, ha, e⟩ => by have := hpb a ha; omega
      have nlr : ¬ ∃ a, p = some a ∧ a.block = lr := fun ⟨a, ha, e⟩ => by have := hpb a ha; omega
      have hcan17 := u17.can nb3 (x16.can (uT.can (by omega) hcan))
      refine ⟨p', _, c', w17, hr, hcan17, fun ws hs => ?_⟩
      have us := hs.upd
      refine ⟨((hB.ext x16).upd u17 nlr).upd us (by omega), fun wz hTz hRz => ⟨rfl, hRz, ?_, ?_, ?_⟩⟩
      · rw [hsn, List.length_append]
        rw [hg] at ho'
        have uz := hTz.upd
        refine ⟨p', c', uz.cell (by omega) (hs.cell hcan17), ?_⟩
        have hpb' : ∀ a, p' = some a → wr.heap.size ≤ a.block := fun a ha => (ho'.base ha).1
        obtain ⟨vss, h1, h2⟩ := ho'
        exact ⟨vss, (h1.upd us fun a ha e => by have := hpb' a ha; have e : a.block = b3 := e; omega).upd uz fun a ha e => by have := hpb' a ha; have e : a.block = lr := e; omega, h2.imp fun vs x ⟨q1, q2⟩ => ⟨q1, q2⟩⟩
      · exact hTz.upd.can (by omega) (hs.can hcan17)
      · refine Upd.then (Upd.then (Upd.then (Upd.then (Upd.then hU uT fun _ _ e => .inr e) x16 fun _ _ e => e.elim) u17 fun k hk e => ?_) us fun _ _ e => .inl e) hTz.upd fun _ _ e => .inr e
        obtain ⟨a, ha, e⟩ := e
        have := hpb a ha
        omega
    · rw [if_neg (by rw [← hg]; exact hneg), List.append_nil] at hsn
      rw [hsn]
      exact ⟨hL, ⟨p, c, hc, ho⟩, hcan, hU⟩
  · rintro e we ⟨⟨v, rfl⟩, hL, ⟨p, c, hc, ho⟩, hcan, hU⟩
    rw [List.take_of_length_le (by rw [h.len]; omega)] at hc ho
    refine ⟨v, rfl, hL, fun wz hTz => ?_⟩
    have uz := hTz.upd
    refine ⟨p, _, c, uz.cell (by omega) hc, leaves_marks (Ds := [D]) (by simp) (fun D' hD' => ?_) fun w' hu' => ?_⟩
    · simp at hD'; subst hD'
      exact (hO.opn.upd hU (by omega)).upd uz (by omega)
    · have hm := (own_mks ho).2
      have ze := hU.size
      refine ⟨p, c, rfl, RS.ok (ElemC.widens MkV.widens) ((hm.upd uz fun k hk e => by have e : k = lr := e; omega).upd hu' fun k hk e => ?_) (fun _ _ _ h => h.1) (fun k _ hk => ?_), ?_⟩
      · simp at e; omega
      · show w.heap.size ≤ k; omega
      · refine Upd.then (Upd.then (Upd.then xr hU fun i hi e => ?_) uz fun i hi e => ?_) hu' fun i hi e => ?_
        · rcases e with e | e <;> omega
        · have e : i = lr := e; omega
        · simp at e; omega
theorem setm_does {w : World} {ok : Nat → Prop} {p : Option Addr} {ms : List (Int × Int)} (hm : Mks w ok p ms) {l : Nat} (hl : l = ms.length) (c : Nat) (n a : Int) (hn : InK .u8 n) (ha : InK .i64 a) (h6 : ms.length ≤ 100000) :
    Does Try.prog 15 #[.slice p l c, .int .u8 n, .int .i64 a] w fun e w' => Ext w w' ∧ (mayM n a = false ∧ e = .returned (.tuple #[.slice p l c, .bool false]) ∨
      mayM n a = true ∧ ∃ p' c', e = .returned (.tuple #[.slice p' (loopM n a ms false).length c', .bool true]) ∧ Mks w' (fun z => w.heap.size ≤ z) p' (loopM n a ms false)) := by
  subst hl
  apply f15_does
  have no : ∀ {ww : World}, Ext w ww → ¬ mayM n a = true → Ext w ww ∧ (mayM n a = false ∧ Ending.returned (.tuple #[.slice p ms.length c, .bool false]) = .returned (.tuple #[.slice p ms.length c, .bool false]) ∨
      mayM n a = true ∧ ∃ p' c', Ending.returned (.tuple #[.slice p ms.length c, .bool false]) = .returned (.tuple #[.slice p' (loopM n a ms false).length c', .bool true]) ∧ Mks ww (fun z => w.heap.size ≤ z) p' (loopM n a ms false)) :=
    fun x h => ⟨x, .inl ⟨by simpa using h, rfl⟩⟩
  refine ⟨fun c1 => no (Upd.refl _ _) fun h => ?_, fun c1 => ⟨fun c2 => no (Upd.refl _ _) fun h => ?_, fun c2 => (good_does a).imp ?_⟩⟩
  · have := mayM_iff.1 h; have c1 := of_decide_eq_true c1; omega
  · have := mayM_iff.1 h; have c2 := of_decide_eq_true c2; omega
  have c1 := of_decide_eq_false c1
  have c2 := of_decide_eq_false c2
  rintro e w19 ⟨rfl, rfl⟩
  refine ⟨_, rfl, fun c3 => no (Upd.refl _ _) fun h => ?_, fun c3 => ?_⟩
  · have := mayM_iff.1 h
    rw [decide_eq_true this.2] at c3
    cases c3
  have c3 : 0 ≤ a ∧ a ≤ 1048576 := by simpa using c3
  have hmm : mayM n a = true := mayM_iff.2 ⟨by omega, c3⟩
  refine ⟨fun p8 l8 c8 b9 x nn wl => ∃ (k : Nat) (out : List (Int × Int)), x = k ∧ nn = ms.length - k ∧ k ≤ ms.length ∧ out.length ≤ 2 * k ∧ OwnL MkV wl w19.heap.size 40 2 p8 l8 c8 out ∧ loopM n a ms false = out ++ loopM n a (ms.drop k) b9 ∧ Ext w19 wl,
    ⟨_, 0, [], rfl, rfl, Nat.zero_le _, by simp, OwnL.nil _ _ _ _, rfl, Upd.refl _ _⟩, ?_⟩
  rintro p8 l8 c8 b9 _ nn wl ⟨k, out, rfl, rfl, hk, hol, ho, heq, xl⟩
  have zl := xl.size
  refine ⟨fun jj => ?_, fun jj => ?_⟩
  · have jj := of_decide_eq_true jj
    have hlt : k < ms.length := by omega
    have hdrop : ms.drop k = ms[k] :: ms.drop (k + 1) := List.drop_eq_getElem_cons hlt
    rw [hdrop, loopM] at heq
    have phase : ∀ {ww : World} {p8 : Option Addr} {l8 c8 : Nat} {out' : List (Int × Int)} {put' : Bool}, Ext w19 ww → OwnL MkV ww w19.heap.size 40 2 p8 l8 c8 out' → out'.length ≤ 2 * k + 1 → loopM n a ms false = out' ++ (if ms[k].1 = n then [] else [ms[k]]) ++ loopM n a (ms.drop (k + 1)) put' →
        ((0 : Int) ≤ (k : Int) ∧ (k : Int) < (ms.length : Int)) ∧ ∃ b48 o48, p = some ⟨b48, o48, none⟩ ∧ ∃ n50 : Int, ww.cell? ⟨b48, o48 + (k : Int).toNat * 2, none⟩ = some (.int .u8 n50) ∧ Br (n50 != n)
          (((0 : Int) ≤ (k : Int) ∧ (k : Int) < (ms.length : Int)) ∧ ∃ b56 o56, p = some ⟨b56, o56, none⟩ ∧ ∃ n57 : Int, ww.cell? ⟨b56, o56 + (k : Int).toNat * 2, none⟩ = some (.int .u8 n57) ∧ ∃ n57_1 : Int, ww.cell? ⟨b56, o56 + (k : Int).toNat * 2 + 1, none⟩ = some (.int .i64 n57_1) ∧ ∀ b58 w58, NewBlk ww b58 [.int .u8 n57, .int .i64 n57_1] 40 w58 →
            ∃ (p59 : Option Addr) (l59 c59 : Nat) (w59 : World), (Builtin.append_ #[41, 41] 41 #[.slice p8 l8 c8, .slice (some ⟨b58, 0, none⟩) 1 1]).run Try.prog w58 = .ok (.slice p59 l59 c59) w59 ∧
            InK .i64 ((k : Int) + 1) ∧ ∃ ml6, ml6 < ms.length - k ∧ ∃ (k' : Nat) (out : List (Int × Int)), (k : Int) + 1 = k' ∧ ml6 = ms.length - k' ∧ k' ≤ ms.length ∧ out.length ≤ 2 * k' ∧ OwnL MkV w59 w19.heap.size 40 2 p59 l59 c59 out ∧ loopM n a ms false = out ++ loopM n a (ms.drop k') put' ∧ Ext w19 w59)
          (InK .i64 ((k : Int) + 1) ∧ ∃ ml6, ml6 < ms.length - k ∧ ∃ (k' : Nat) (out : List (Int × Int)), (k : Int) + 1 = k' ∧ ml6 = ms.length - k' ∧ k' ≤ ms.length ∧ out.length ≤ 2 * k' ∧ OwnL MkV ww w19.heap.size 40 2 p8 l8 c8 out ∧ loopM n a ms false = out ++ loopM n a (ms.drop k') put' ∧ Ext w19 ww) := by
      intro ww p8 l8 c8 out' put' xw ho hol heq
      obtain ⟨b, o, hp, _, a1, a2, k1, k2⟩ := (hm.ext xw).at k hlt
      refine ⟨⟨by omega, by omega⟩, b, o, hp, _, a1, fun c4 => ⟨⟨by omega, by omega⟩, b, o, hp, _, a1, _, a2, fun b58 w58 hb => ?_⟩, fun c4 => ?_⟩
      · have c4 : ms[k].1 ≠ n := by simpa using c4
        rw [if_neg c4] at heq
        have zw := xw.size
        obtain ⟨p', c', w59, hr, ho', hu⟩ := own_snoc ho zw k1 k2 hb (by omega)
        exact ⟨p', _, c', w59, hr, inI64 (by omega) (by omega), _, by omega, k + 1, _, by omega, rfl, hlt, by simp; omega, ho', heq, OwnL.ext_of (ho.ext MkV.stable MkV.widens hb.ext) hu (Ext.thn xw hb.ext) (Nat.le_refl _)⟩
      · have c4 : ms[k].1 = n := by simpa using c4
        rw [if_pos c4, List.append_nil] at heq
        exact ⟨inI64 (by omega) (by omega), _, by omega, k + 1, _, by omega, rfl, hlt, by omega, ho, heq, xw⟩
    obtain ⟨b, o, hp, _, a1, a2, k1, k2⟩ := (hm.ext xl).at k hlt
    refine ⟨fun c4 => ⟨⟨by omega, by omega⟩, b, o, hp, _, a1, fun c5 => ?_, fun c5 => ?_⟩, fun c4 => ?_⟩
    · have c4 : b9 = false := by simpa using c4
      subst c4
      have c5 : n ≤ ms[k].1 := of_decide_eq_true c5
      intro b44 w44 hb
      obtain ⟨p', c', w45, hr, ho', hu⟩ := own_snoc ho zl hn ha hb (by omega)
      refine ⟨p', _, c', w45, hr, phase (OwnL.ext_of (ho.ext MkV.stable MkV.widens hb.ext) hu (Ext.thn xl hb.ext) (Nat.le_refl _)) ho' (by simp; omega) ?_⟩
      rw [if_pos ⟨rfl, c5⟩, decide_eq_true c5, Bool.or_true] at heq
      rw [heq]; simp
    · have c4 : b9 = false := by simpa using c4
      subst c4
      have c5 : ¬ n ≤ ms[k].1 := of_decide_eq_false c5
      refine phase xl ho (by omega) ?_
      rw [if_neg (fun h => c5 h.2), decide_eq_false c5, Bool.or_false] at heq
      rw [heq]; simp
    · have c4 : b9 = true := by simpa using c4
      subst c4
      refine phase xl ho (by omega) ?_
      rw [if_neg (by simp), Bool.true_or] at heq
      rw [heq]; simp
  have jj := of_decide_eq_false jj
  obtain rfl : k = ms.length := by omega
  rw [List.drop_length, loopM] at heq
  refine ⟨fun c4 b66 w66 hb => ?_, fun c4 => ?_⟩
  · have c4 : b9 = false := by simpa using c4
    rw [c4, if_neg (by simp)] at heq
    obtain ⟨p', c', w67, hr, ho', hu⟩ := own_snoc ho zl hn ha hb (by omega)
    have x67 := OwnL.ext_of (ho.ext MkV.stable MkV.widens hb.ext) hu (Ext.thn xl hb.ext) (Nat.le_refl _)
    obtain ⟨q1, q2⟩ := own_mks ho'
    rw [← heq] at q1 q2
    exact ⟨p', _, c', w67, hr, x67, .inr ⟨hmm, p', c', by rw [q1], RS.ok (ElemC.widens MkV.widens) q2 (fun _ _ _ h => h.1) (fun _ _ h => h.1)⟩⟩
  · have c4 : b9 = true := by simpa using c4
    rw [c4, if_pos rfl, List.append_nil] at heq
    obtain ⟨q1, q2⟩ := own_mks ho
    rw [← heq] at q1 q2
    exact ⟨xl, .inr ⟨hmm, p8, c8, by rw [q1], RS.ok (ElemC.widens MkV.widens) q2 (fun _ _ _ h => h.1) (fun _ _ h => h.1)⟩⟩
theorem rshift_does {w : World} {ok ok' : Nat → Prop} {p q : Option Addr} {ms : List (Int × Int)} {es : List E} (hm : Mks w ok p ms) (he : Edits w ok' q es) (hok : ∀ e ∈ es, OkE e) (hms : ∀ m ∈ ms, 0 ≤ m.2 ∧ m.2 ≤ 1048576) {l m : Nat} (hl : l = ms.length) (hm2 : m = es.length) (c d : Nat) (h6 : ms.length ≤ 100000) (h63 : es.length ≤ 9223372036854775807) :
    Does Try.prog 20 #[.slice p l c, .slice q m d] w fun e w' => ∃ p' c', e = .returned (.slice p' ms.length c') ∧ Mks w' (fun z => w.heap.size ≤ z) p' (ms.map fun m => (m.1, es.foldl capP m.2)) ∧ Ext w w' := by
  subst hl hm2
  apply f20_does
  refine ⟨fun p5 l5 c5 x nn wl => ∃ k : Nat, x = k ∧ nn = ms.length - k ∧ k ≤ ms.length ∧ OwnL MkV wl w.heap.size 40 2 p5 l5 c5 ((ms.take k).map fun m => (m.1, es.foldl capP m.2)) ∧ Ext w wl,
    ⟨_, 0, rfl, rfl, Nat.zero_le _, OwnL.nil _ _ _ _, Upd.refl _ _⟩, ?_⟩
  rintro p5 l5 c5 _ nn wl ⟨k, rfl, rfl, hk, ho, xl⟩
  refine ⟨fun jj => ?_, fun jj => ?_⟩
  · have jj := of_decide_eq_true jj
    have hlt : k < ms.length := by omega
    obtain ⟨b, o, hp, _, a1, a2, k1, k2⟩ := (hm.ext xl).at k hlt
    have hbd := hms _ (List.getElem_mem hlt)
    refine ⟨⟨by omega, by omega⟩, b, o, hp, _, a1, _, a2, fun b7 w7 hb => ⟨hb.can 0 (by simp), fun ws1 s1 => ⟨(hb.store s1).can 1 (by simp), fun ws2 s2 => ?_⟩⟩⟩
    have hb2 := (hb.store s1).store s2
    have e7 := hb2.eq
    have zl := xl.size
    have hcap : ∀ j, j ≤ es.length → 0 ≤ (es.take j).foldl capP ms[k].2 ∧ (es.take j).foldl capP ms[k].2 ≤ 1048576 := by
      intro j
      induction j with
      | zero => intro _; exact hbd
      | succ j ih =>
        intro hj
        rw [List.take_succ_eq_append_getElem (by omega), List.foldl_append]
        exact capP_ok (hok _ (List.getElem_mem _)).1 (ih (by omega))
    have pb : ∀ a, p5 = some a → w.heap.size ≤ a.block ∧ a.block < wl.heap.size := fun a ha => ho.base ha
    refine ⟨fun x nn wl7 => ∃ j : Nat, x = j ∧ nn = es.length - j ∧ j ≤ es.length ∧ wl7.cell? ⟨b7, 0, none⟩ = some (.int .u8 ms[k].1) ∧ wl7.cell? ⟨b7, 1, none⟩ = some (.int .i64 ((es.take j).foldl capP ms[k].2)) ∧ CanStore wl7 b7 1 ∧ Upd (fun z => z = b7) ws2 wl7,
      ⟨_, 0, rfl, rfl, Nat.zero_le _, hb2.cell 0 rfl, hb2.cell 1 rfl, hb2.can 1 (by simp), Upd.refl _ _⟩, ?_⟩
    rintro _ nn7 wl7 ⟨j, rfl, rfl, hj, q0, q1, qc, u7⟩
    have xl7 : Ext wl wl7 := Upd.then hb2.ext u7 fun i hi e => by have e : i = b7 := e; omega
    have y7 := Ext.thn xl xl7
    have hc := hcap j hj
    refine ⟨fun jj7 => ?_, fun jj7 => ?_⟩
    · have jj7 := of_decide_eq_true jj7
      have hlt7 : j < es.length := by omega
      intro wd hd
      have xd := hd.ext
      obtain ⟨bb, oo, q1', d1, q2', d2, hpp, _, a1', a2', a3', _⟩ := (he.ext (Ext.thn y7 xd)).at j hlt7
      have hE := hok _ (List.getElem_mem hlt7)
      refine ⟨_, xd.cell q1, ⟨by omega, by omega⟩, bb, oo, hpp, _, a1', _, _, _, a2', _, _, _, a3', ?_⟩
      refine (rplace_does (at_ := (es.take j).foldl capP ms[k].2) (e := es[j]) q1' q2' d1 d2 (by omega) (by omega) (by have := hE.1; omega) (by have := hE.2.1; omega) hE.2.2.1 hE.2.2.2).imp ?_
      rintro e w31 ⟨rfl, x31⟩
      have xx := Ext.thn xd x31
      have qc' := xx.can qc
      refine ⟨_, rfl, qc', fun ws hs => ⟨inI64 (by omega) (by omega), _, by omega, j + 1, by omega, rfl, hlt7, ?_, ?_, hs.can qc', ?_⟩⟩
      · rw [hs.other (.inr (by decide))]; exact xx.cell q0
      · rw [List.take_succ_eq_append_getElem hlt7, List.foldl_append]; exact hs.cell qc'
      · exact Upd.trans u7 (Upd.trans (xx.mono fun _ _ e => e.elim) hs.upd)
    have jj7 := of_decide_eq_false jj7
    obtain rfl : j = es.length := by omega
    rw [List.take_length] at q1 hc
    refine ⟨_, q0, _, q1, fun b36 w36 hb36 => ?_⟩
    have ho7 : OwnL MkV wl7 w.heap.size 40 2 p5 l5 c5 ((ms.take k).map fun m => (m.1, es.foldl capP m.2)) := ho.ext MkV.stable MkV.widens xl7
    obtain ⟨p', c', w37, hr, ho', hu⟩ := own_snoc ho7 y7.size k1 (inI64 (by omega) (by omega)) hb36 (by simp; omega)
    refine ⟨p', _, c', w37, hr, inI64 (by omega) (by omega), _, by omega, k + 1, by omega, rfl, hlt, ?_, OwnL.ext_of (ho7.ext MkV.stable MkV.widens hb36.ext) hu (Ext.thn y7 hb36.ext) (Nat.le_refl _)⟩
    rw [List.take_succ_eq_append_getElem hlt, List.map_append]
    exact ho'
  have jj := of_decide_eq_false jj
  obtain rfl : k = ms.length := by omega
  rw [List.take_length] at ho
  obtain ⟨q1, q2⟩ := own_mks ho
  rw [List.length_map] at q1
  exact ⟨p5, c5, by rw [q1], RS.ok (ElemC.widens MkV.widens) q2 (fun _ _ _ h => h.1) (fun _ _ h => h.1), xl⟩
end Go.Proofs.Ytnjacafdoggmaaa
