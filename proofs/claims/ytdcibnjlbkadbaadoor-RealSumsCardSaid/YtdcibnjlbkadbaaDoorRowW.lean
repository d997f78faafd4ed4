/-
  Words for memory, third part: slices that may be written, wherever they begin and end.
-/
import Derived.Test.YtdcibnjlbkadbaaDoorWords2
import Derived.Deep.AppendSrc
import Derived.Deep.MidRow
import Derived.Deep.Upon
namespace Go.Vc
open Go.RowKit
/-- A slice whose cells may be written: its first l elements are cs; it lies in a block of ok. -/
def Row (w : World) (ok : Nat → Prop) (sz : Nat) (p : Option Addr) (l c : Nat) (cs : List Value) : Prop :=
  cs.length = l * sz ∧ l ≤ c ∧ c ≤ maxLen ∧ ((p = none ∧ c = 0) ∨ ∃ g o, p = some ⟨g, o, none⟩ ∧ ok g ∧ g < w.heap.size ∧ CellsAt w g o cs ∧ ∀ j, j < c * sz → CanStore w g (o + j))
theorem Row.nil (w : World) (ok : Nat → Prop) (sz : Nat) : Row w ok sz none 0 0 [] := ⟨by simp, Nat.le_refl _, Nat.zero_le _, .inl ⟨rfl, rfl⟩⟩
theorem Row.upd {w w' : World} {ok T : Nat → Prop} {sz : Nat} {p : Option Addr} {l c : Nat} {cs : List Value} (h : Row w ok sz p l c cs) (hu : Upd T w w') (ht : ∀ a, p = some a → ¬ T a.block) : Row w' ok sz p l c cs := by
  obtain ⟨h1, h2, h3, h4⟩ := h
  refine ⟨h1, h2, h3, ?_⟩
  rcases h4 with h | ⟨g, o, rfl, h5, h6, h7, h8⟩
  · exact .inl h
  · have hg := ht _ rfl
    exact .inr ⟨g, o, rfl, h5, Nat.lt_of_lt_of_le h6 hu.size, fun j v hj => hu.cell hg (h7 j v hj), fun j hj => hu.can hg (h8 j hj)⟩
theorem Row.ext {w w' : World} {ok : Nat → Prop} {sz : Nat} {p : Option Addr} {l c : Nat} {cs : List Value} (h : Row w ok sz p l c cs) (hu : Ext w w') : Row w' ok sz p l c cs := h.upd hu fun _ _ => id
theorem Row.ok {w : World} {ok ok' : Nat → Prop} {sz : Nat} {p : Option Addr} {l c : Nat} {cs : List Value} (h : Row w ok sz p l c cs) (hok : ∀ g, g < w.heap.size → ok g → ok' g) : Row w ok' sz p l c cs := by
  obtain ⟨h1, h2, h3, h4⟩ := h
  refine ⟨h1, h2, h3, ?_⟩
  rcases h4 with h | ⟨g, o, rfl, h5, h6, h7⟩
  · exact .inl h
  · exact .inr ⟨g, o, rfl, hok g h6 h5, h6, h7⟩
theorem Row.lt {w : World} {ok : Nat → Prop} {sz : Nat} {p : Option Addr} {l c : Nat} {cs : List Value} (h : Row w ok sz p l c cs) {a : Addr} (ha : p = some a) : ok a.block ∧ a.block < w.heap.size := by
  obtain ⟨_, _, _, h | ⟨g, o, rfl, h5, h6, _⟩⟩ := h
  · rw [ha] at h; cases h.1
  · injection ha with ha; subst ha; exact ⟨h5, h6⟩
theorem Row.src {w : World} {ok : Nat → Prop} {sz : Nat} {p : Option Addr} {l c : Nat} {cs : List Value} (h : Row w ok sz p l c cs) : Src w p cs := fun j u hj => by
  obtain ⟨h1, h2, h3, h | ⟨g, o, rfl, h5, h6, h7, _⟩⟩ := h
  · obtain ⟨rfl, rfl⟩ := h
    obtain rfl : l = 0 := by omega
    have := (List.getElem?_eq_some_iff.1 hj).1
    omega
  · exact ⟨g, o, rfl, h7 j u hj⟩
/-- What the second argument of an append yields. -/
theorem Src.kit {P : Program} {w : World} {p : Option Addr} {news : List Value} (h : Src w p news) {sz : Nat} {tx e' : TypeId} (hk : P.underlying tx = some (.slice e')) {n : Nat} (c : Nat) (hl : news.length = n * sz) (hpos : 0 < sz) (h1 : ∀ u ∈ news, u.oneCell' = true) :
    Go.Src P sz tx (.slice p n c) n news w := by
  cases p with
  | some a =>
    refine Go.Src.ofSlice w hk a n c news hl (fun j u hj => ?_) h1
    obtain ⟨b, o, e, hc⟩ := h j u hj
    injection e with e
    subst e
    rw [add_plain']; exact hc
  | none =>
    cases news with
    | cons u r => obtain ⟨b, o, e, _⟩ := h 0 u rfl; cases e
    | nil =>
      obtain rfl : n = 0 := by
        rcases Nat.mul_eq_zero.1 hl.symm with h | h
        · exact h
        · omega
      exact Go.Src.ofNil w hk c
theorem setCells_upd (g o : Nat) (vs : List Value) (w : World) : Upd (fun k => k = g) w (w.setCells g o vs) := by
  induction vs generalizing o w with
  | nil => exact Upd.refl _ _
  | cons v r ih => exact Upd.trans (Stored.upd (w := w) (b := g) (o := o) (x := v) ⟨rfl⟩) (ih (o + 1) _)
theorem setCells_can (g o : Nat) (vs : List Value) {w : World} {b j : Nat} (h : CanStore w b j) : CanStore (w.setCells g o vs) b j := by
  induction vs generalizing o w with
  | nil => exact h
  | cons v r ih => exact ih (o + 1) (Stored.can (w := w) (b := g) (o := o) (x := v) ⟨rfl⟩ h)
/-- append, in place or not. -/
theorem Row.append {P : Program} {t e : TypeId} {sz by_ : Nat} (ht : SlT P t e sz by_) (ty : TypeId) {w : World} {ok : Nat → Prop} {p : Option Addr} {l c : Nat} {cs : List Value} (hr : Row w ok sz p l c cs)
    {tx : TypeId} {x : Value} {n : Nat} {news : List Value} (hs : Go.Src P sz tx x n news w) (h63 : l + n ≤ maxLen) (hby : (l + n) * by_ ≤ 140737488355328) :
    ∃ p' c' w', (Builtin.append_ #[t, tx] ty #[.slice p l c, x]).run P w = .ok (.slice p' (l + n) c') w' ∧ Row w' (fun k => ok k ∨ k = w.heap.size) sz p' (l + n) c' (cs ++ news) ∧ Upd (fun k => 0 < n ∧ l + n ≤ c ∧ ∃ a, p = some a ∧ a.block = k) w w' ∧
      ((l + n ≤ c ∧ p' = p ∧ c' = c) ∨ (c < l + n ∧ p' = some ⟨w.heap.size, 0, none⟩)) := by
  obtain ⟨htu, i, z, hi, hz, rfl, rfl, hzs, hsz⟩ := ht
  obtain ⟨h1, h2, h3, h4⟩ := hr
  have hlen : (cs ++ news).length = (l + n) * i.size := by rw [List.length_append, h1, hs.newsLen, Nat.add_mul]
  by_cases hroom : l + n ≤ c
  · rcases h4 with ⟨rfl, rfl⟩ | ⟨g, o, rfl, h5, h6, h7, h8⟩
    · obtain rfl : l = 0 := by omega
      obtain rfl : n = 0 := by omega
      have hn : news = [] := List.eq_nil_of_length_eq_zero (by have := hs.newsLen; simpa using this)
      subst hn
      have hc : cs = [] := List.eq_nil_of_length_eq_zero (by simpa using h1)
      subst hc
      refine ⟨none, 0, w, ?_, by simpa using Row.nil _ _ _, Upd.refl _ _, .inl ⟨hroom, rfl, rfl⟩⟩
      rcases hs.kind with ⟨e', hk⟩ | hk <;> simp [Builtin.append_, run_underlying htu, run_underlying hk, sizeOf, typeInfo, hi, hs.len, hs.cells, storeCells]
    · have hin : ∀ j, j < news.length → CanStore w g (o + l * i.size + j) := fun j hj => by
        rw [hs.newsLen] at hj
        have := h8 (l * i.size + j) (by have : (l + n) * i.size ≤ c * i.size := Nat.mul_le_mul_right _ hroom; rw [Nat.add_mul] at this; omega)
        rwa [← Nat.add_assoc] at this
      have hrun := run_append_room_src (P := P) w t tx ty e i htu hi g o l c x n news hs hroom (fun j hj => by obtain ⟨⟨u, hu⟩, _⟩ := hin j hj; rw [hu]; rfl) (fun j hj => (hin j hj).2)
      refine ⟨_, _, _, hrun, ⟨hlen, hroom, h3, .inr ⟨g, o, rfl, .inl h5, Nat.lt_of_lt_of_le h6 (setCells_upd _ _ _ _).size, fun j v hj => ?_, fun j hj => setCells_can _ _ _ (h8 j hj)⟩⟩,
        ?_, .inl ⟨hroom, rfl, rfl⟩⟩
      rotate_left
      · by_cases hn0 : n = 0
        · have hnil : news = [] := List.eq_nil_of_length_eq_zero (by rw [hs.newsLen, hn0, Nat.zero_mul])
          subst hnil
          exact Upd.refl _ _
        · exact (setCells_upd _ _ _ _).mono fun k _ hk => ⟨by omega, hroom, _, rfl, hk.symm⟩
      by_cases hj1 : j < cs.length
      · rw [List.getElem?_append_left hj1] at hj
        rw [World.cell?_setCells_out _ _ _ _ _ (fun _ _ => .inl (by simp only; omega))]
        exact h7 j v hj
      · rw [List.getElem?_append_right (by omega)] at hj
        have hl' := (List.getElem?_eq_some_iff.1 hj).1
        have hin' := World.cell?_setCells_in g news (o + l * i.size) w (fun j hj => by obtain ⟨⟨u, hu⟩, _⟩ := hin j hj; rw [hu]; rfl) (j - cs.length) hl'
        rw [show o + j = o + l * i.size + (j - cs.length) by omega, hin', ← hj, List.getElem?_eq_getElem hl']
  · have hold : (Builtin.firstCells i.size l (.slice p l c)).run P w.drew = .ok cs.toArray w.drew := by
      rcases h4 with ⟨rfl, rfl⟩ | ⟨g, o, rfl, h5, h6, h7, h8⟩
      · have hc : cs = [] := List.eq_nil_of_length_eq_zero (by rw [h1, Nat.le_zero.1 h2, Nat.zero_mul])
        subst hc
        exact run_firstCells_none w.drew _ _ _ _
      · exact run_firstCells_some w.drew _ _ _ _ _ cs h1 (fun j v hj => by rw [add_plain', World.cell?_drew]; exact h7 j v hj)
    have hrun := run_append_grow_src (P := P) w t tx ty e i z htu hi hz p l c cs hold x n news hs (by omega) (by simp only [maxLen] at h63; omega) (growslice_fits (by omega) hby)
    have hge := grownCap_ge w (l + n) c e
    have hcm : grownCap w (l + n) c e ≤ maxLen := grownCap_le_maxLen w (l + n) c e h63
    refine ⟨_, _, _, hrun, ⟨hlen, hge, hcm, .inr ⟨w.heap.size, 0, rfl, .inr rfl, by simp, fun j v hj => ?_, fun j hj => ?_⟩⟩, ⟨rfl, rfl, rfl, by simp, fun k hk _ => heap_alloc_old w.drew _ hk⟩, .inr ⟨by omega, rfl⟩⟩
    · have hh := heap_alloc_new w.drew (.cells ((cs ++ news).toArray ++ Builtin.zeroCells z.cells (grownCap w (l + n) c e - (l + n))) e)
      simp only [World.cell?]
      rw [show (w.drew.heap.size) = w.heap.size from rfl] at hh
      rw [hh, Nat.zero_add]
      simp only
      have hj' := (List.getElem?_eq_some_iff.1 hj).1
      rw [Array.getElem?_append_left (by simpa using hj')]
      simpa using hj
    · have hh := heap_alloc_new w.drew (.cells ((cs ++ news).toArray ++ Builtin.zeroCells z.cells (grownCap w (l + n) c e - (l + n))) e)
      rw [show (w.drew.heap.size) = w.heap.size from rfl] at hh
      have hsz' : ((cs ++ news).toArray ++ Builtin.zeroCells z.cells (grownCap w (l + n) c e - (l + n))).size = grownCap w (l + n) c e * i.size := by
        simp only [Array.size_append, List.size_toArray, size_zeroCells, hzs, hlen, ← Nat.add_mul]
        congr 1
        omega
      refine ⟨⟨((cs ++ news).toArray ++ Builtin.zeroCells z.cells (grownCap w (l + n) c e - (l + n)))[j]'(by rw [hsz']; exact hj), ?_⟩, by unfold World.frozen?; rw [hh]; simp⟩
      simp only [World.cell?]
      rw [hh, Nat.zero_add]
      exact Array.getElem?_eq_getElem _
theorem NewBlk.row {w w' : World} {b : Nat} {cs : List Value} {T : TypeId} (h : NewBlk w b cs T w') {l sz : Nat} (hl : cs.length = l * sz) (hm : l ≤ maxLen) : Row w' (fun g => g = b) sz (some ⟨b, 0, none⟩) l l cs :=
  ⟨hl, Nat.le_refl _, hm, .inr ⟨b, 0, rfl, rfl, h.lt, fun j v hj => by rw [Nat.zero_add]; exact h.cell j hj, fun j hj => by rw [Nat.zero_add]; exact h.can j (by omega)⟩⟩
/-- The row's integers. -/
theorem Row.ints {k : IntKind} {w : World} {ok : Nat → Prop} {p : Option Addr} {l c : Nat} {xs : List Int} (h : Row w ok 1 p l c (xs.map (Value.int k))) (hk : ∀ x ∈ xs, InK k x) : l = xs.length ∧ Ints k w ok p xs := by
  have hl : l = xs.length := by have := h.1; simp at this; omega
  refine ⟨hl, fun i hi => ?_⟩
  obtain ⟨_, _, _, h | ⟨g, o, rfl, h5, h6, h7, _⟩⟩ := h
  · omega
  · exact ⟨g, o, rfl, h5, by rw [Nat.mul_one]; exact h7 i _ (by simp [hi]), hk _ (List.getElem_mem hi)⟩
/-- A part of it, up to its capacity's end or a part of that. -/
theorem Row.sub {w : World} {ok : Nat → Prop} {sz : Nat} {p : Option Addr} {l c : Nat} {cs : List Value} (h : Row w ok sz p l c cs) {lo hi m : Nat} (h1 : lo ≤ hi) (h2 : hi ≤ l) (h3 : hi ≤ m) (h4 : m ≤ c) :
    Row w ok sz (subp p lo m sz) (hi - lo) (m - lo) ((cs.take (hi * sz)).drop (lo * sz)) := by
  obtain ⟨k1, k2, k3, k4⟩ := h
  have e1 : hi * sz ≤ l * sz := Nat.mul_le_mul_right _ h2
  have e2 : lo * sz ≤ hi * sz := Nat.mul_le_mul_right _ h1
  refine ⟨by rw [List.length_drop, List.length_take, k1, Nat.min_eq_left e1, Nat.mul_sub_right_distrib], by omega, by omega, ?_⟩
  rcases k4 with ⟨rfl, rfl⟩ | ⟨g, o, rfl, h5, h6, h7, h8⟩
  · left
    unfold subp
    split
    · exact ⟨rfl, by omega⟩
    · exact ⟨rfl, by omega⟩
  · by_cases he : m = lo
    · obtain rfl : hi = lo := by omega
      subst he
      refine .inr ⟨g, o, by simp [subp], h5, h6, fun j v hj => ?_, fun j hj => ?_⟩
      · have := (List.getElem?_eq_some_iff.1 hj).1
        rw [List.length_drop, List.length_take] at this
        omega
      · simp at hj
    · refine .inr ⟨g, o + lo * sz, by simp [subp, he, add_plain'], h5, h6, fun j v hj => ?_, fun j hj => ?_⟩
      · rw [List.getElem?_drop] at hj
        have hj' := (List.getElem?_eq_some_iff.1 hj).1
        rw [List.length_take] at hj'
        rw [List.getElem?_take_of_lt (by omega)] at hj
        rw [Nat.add_assoc]
        exact h7 _ v hj
      · rw [Nat.add_assoc]
        refine h8 _ ?_
        have : m * sz ≤ c * sz := Nat.mul_le_mul_right _ h4
        rw [Nat.mul_sub_right_distrib] at hj
        omega
/-- A store into one of its cells. -/
theorem Row.set {w w' : World} {ok : Nat → Prop} {sz : Nat} {g o l c : Nat} {cs : List Value} (h : Row w ok sz (some ⟨g, o, none⟩) l c cs) {j : Nat} (hj : j < cs.length) {x : Value} (hs : Stored w g (o + j) x w') :
    Row w' ok sz (some ⟨g, o, none⟩) l c (cs.set j x) := by
  obtain ⟨k1, k2, k3, k4⟩ := h
  refine ⟨by simpa using k1, k2, k3, ?_⟩
  rcases k4 with ⟨h, _⟩ | ⟨g', o', e, h5, h6, h7, h8⟩
  · cases h
  · injection e with e
    injection e with e1 e2
    subst e1; subst e2
    have hcj : CanStore w g (o + j) := h8 j (by have : l * sz ≤ c * sz := Nat.mul_le_mul_right _ k2; omega)
    refine .inr ⟨g, o, rfl, h5, by rw [hs.size]; exact h6, fun i v hi => ?_, fun i hi => hs.can (h8 i hi)⟩
    by_cases hij : i = j
    · subst hij
      rw [List.getElem?_set_self (by exact hj)] at hi
      injection hi with hi
      subst hi
      exact hs.cell hcj
    · rw [List.getElem?_set_ne (Ne.symm hij)] at hi
      rw [hs.other (.inr (by omega))]
      exact h7 i v hi
theorem Row.can {w : World} {ok : Nat → Prop} {sz : Nat} {p : Option Addr} {l c : Nat} {cs : List Value} (h : Row w ok sz p l c cs) {j : Nat} (hj : j < cs.length) : ∃ g o, p = some ⟨g, o, none⟩ ∧ ok g ∧ CanStore w g (o + j) ∧ ∀ v, cs[j]? = some v → w.cell? ⟨g, o + j, none⟩ = some v := by
  obtain ⟨k1, k2, k3, k4⟩ := h
  rcases k4 with ⟨_, rfl⟩ | ⟨g, o, rfl, h5, h6, h7, h8⟩
  · obtain rfl : l = 0 := by omega
    rw [Nat.zero_mul] at k1; omega
  · exact ⟨g, o, rfl, h5, h8 j (by have : l * sz ≤ c * sz := Nat.mul_le_mul_right _ k2; omega), fun v hv => h7 j v hv⟩
theorem Own.row {w : World} {base : Nat} {T : TypeId} {sz : Nat} {p : Option Addr} {l c : Nat} {cs : List Value} (h : Own w base T sz p l c cs) : Row w (fun g => base ≤ g) sz p l c cs := by
  have hcap := h.cap
  obtain ⟨h1, h2⟩ := h
  rcases h2 with ⟨e, rfl⟩ | ⟨g, cap, cur, e, hb, hg, hn, hm, hs, ht⟩
  · injection e with e1 e2 e3
    subst e1; subst e3
    exact ⟨h1, Nat.le_refl _, Nat.zero_le _, .inl ⟨rfl, rfl⟩⟩
  · injection e with e1 e2 e3
    subst e1; subst e3
    have hcell : ∀ j, w.cell? ⟨g, 0 + j, none⟩ = cur[j]? := fun j => by simp [World.cell?, hg]
    refine ⟨h1, hn, hm, .inr ⟨g, 0, rfl, hb, (Array.getElem?_eq_some_iff.1 hg).1, fun j v hj => ?_, fun j hj => ⟨⟨cur[j]'(by omega), by rw [hcell]; exact Array.getElem?_eq_getElem _⟩, by simp [World.frozen?, hg]⟩⟩⟩
    rw [hcell, ← Array.getElem?_toList]
    rw [← ht] at hj
    have := (List.getElem?_eq_some_iff.1 hj).1
    rw [List.length_take] at this
    rwa [List.getElem?_take_of_lt (by omega)] at hj
end Go.Vc
