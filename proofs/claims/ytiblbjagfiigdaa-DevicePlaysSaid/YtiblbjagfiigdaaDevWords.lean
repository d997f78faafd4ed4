/-
  Devices: rows in memory of whose cells many are stored at once.
-/
import Derived.Test.YtiblbjagfiigdaaRowW
import Derived.Test.YtiblbjagfiigdaaLocal
import Derived.Test.YtiblbjagfiigdaaBytes
import Derived.Test.YtiblbjagfiigdaaDevPure
import Derived.Laws.IdiomCopy
namespace Go.Vc
open Go.RowKit
theorem brr {b : Bool} {A B : Prop} (h1 : b = true → A) (h2 : b = false → B) : Br b A B := ⟨h1, h2⟩
/-- A list with a part written anew. -/
def over {α : Type} (cs : List α) (j : Nat) (vs : List α) : List α := cs.take j ++ vs ++ cs.drop (j + vs.length)
theorem over_len {α : Type} {cs vs : List α} {j : Nat} (h : j + vs.length ≤ cs.length) : (over cs j vs).length = cs.length := by
  unfold over; simp only [List.length_append, List.length_take, List.length_drop]; omega
theorem over_nil {α : Type} {cs : List α} {j : Nat} : over cs j [] = cs := by unfold over; simp
theorem over_cons {α : Type} {cs vs : List α} {j : Nat} {x : α} (h : j + (vs.length + 1) ≤ cs.length) : over (cs.set j x) (j + 1) vs = over cs j (x :: vs) := by
  unfold over
  refine List.ext_getElem (by simp only [List.length_append, List.length_take, List.length_drop, List.length_set, List.length_cons]; omega) fun i h1 h2 => ?_
  simp only [List.getElem_append, List.length_append, List.length_take, List.length_set, List.getElem_take, List.getElem_drop, List.getElem_set, List.length_cons, List.getElem_cons]
  by_cases a : i < j
  · have : min j cs.length = j := by omega
    have : min (j + 1) cs.length = j + 1 := by omega
    simp_all [show i < j + 1 by omega, show i < j + 1 + vs.length by omega, show i < j + (vs.length + 1) by omega, show j ≠ i by omega]
  · have e1 : min j cs.length = j := by omega
    have e2 : min (j + 1) cs.length = j + 1 := by omega
    by_cases b : i = j
    · subst b; simp [e1, e2]; intro h; omega
    · by_cases c : i < j + 1 + vs.length
      · simp [e1, e2, a, c, show ¬ i < j + 1 by omega, show i < j + (vs.length + 1) by omega, show ¬ (i - j = 0) by omega, Nat.sub_sub]
      · simp [e1, e2, a, c, show ¬ i < j + 1 by omega, show ¬ i < j + (vs.length + 1) by omega]
        split
        · omega
        · congr 1; omega
theorem over_map {α β : Type} (f : α → β) (cs : List α) (j : Nat) (vs : List α) : (over cs j vs).map f = over (cs.map f) j (vs.map f) := by
  unfold over; simp [List.map_append, List.map_take, List.map_drop]
theorem over_get {α : Type} {cs vs : List α} {j : Nat} (h : j + vs.length ≤ cs.length) (i : Nat) : (over cs j vs)[i]? = if j ≤ i ∧ i < j + vs.length then vs[i - j]? else cs[i]? := by
  unfold over
  have e1 : min j cs.length = j := by omega
  split
  · rename_i hc
    rw [List.append_assoc, List.getElem?_append_right (by simp; omega), List.length_take, e1, List.getElem?_append_left (by omega)]
  · rename_i hc
    by_cases a : i < j
    · rw [List.append_assoc, List.getElem?_append_left (by simp; omega), List.getElem?_take_of_lt a]
    · rw [List.getElem?_append_right (by simp; omega), List.getElem?_drop]
      congr 1
      simp only [List.length_append, List.length_take, e1]; omega
theorem over_in {α : Type} {fs cs zs vs : List α} {k j : Nat} (hk : k = fs.length) (hj : j + vs.length ≤ cs.length) : over (fs ++ (cs ++ zs)) (k + j) vs = fs ++ (over cs j vs ++ zs) := by
  subst hk
  unfold over
  rw [List.take_append, List.take_of_length_le (show fs.length ≤ fs.length + j by omega), show fs.length + j - fs.length = j by omega, List.take_append, show j - cs.length = 0 by omega, List.take_zero, List.append_nil,
    show fs.length + j + vs.length = fs.length + (j + vs.length) by omega, List.drop_append, List.drop_of_length_le (show fs.length ≤ fs.length + (j + vs.length) by omega), List.nil_append,
    show fs.length + (j + vs.length) - fs.length = j + vs.length by omega, List.drop_append, show j + vs.length - cs.length = 0 by omega, List.drop_zero]
  simp only [List.append_assoc]
theorem tearTo_yes {c : Int} {i : Nat} {a b : List Int} (hi : i < 4) (hb : b.length = 256) (h : bit c i = true) : over (tearTo c i b a) (i * 64) ((b.drop (i * 64)).take 64) = tearTo c (i + 1) b a := by
  have hl : ((b.drop (i * 64)).take 64).length = 64 := by rw [List.length_take, List.length_drop, hb]; omega
  have hl2 : (tearTo c i b a).length = 256 := by simp [tearTo]
  refine List.ext_getElem? fun j => ?_
  rw [over_get (by rw [hl, hl2]; omega), hl]
  by_cases hj : j < 256
  · have hr : ∀ n, (tearTo c n b a)[j]? = some (if j / 64 < n ∧ bit c (j / 64) = true then b.getD j 0 else a.getD j 0) := fun n => by
      unfold tearTo; rw [List.getElem?_map, List.getElem?_range hj]; rfl
    split
    · rename_i hc
      have e : j / 64 = i := by omega
      rw [hr, e, if_pos ⟨by omega, h⟩, List.getElem?_take_of_lt (by omega), List.getElem?_drop, show i * 64 + (j - i * 64) = j by omega, List.getElem?_eq_getElem (by omega), getD_at _ (by omega)]
    · rename_i hc
      have e : j / 64 ≠ i := by omega
      rw [hr, hr]
      congr 1
      have : (j / 64 < i ∧ bit c (j / 64) = true) ↔ (j / 64 < i + 1 ∧ bit c (j / 64) = true) := ⟨fun ⟨h1, h2⟩ => ⟨by omega, h2⟩, fun ⟨h1, h2⟩ => ⟨by omega, h2⟩⟩
      simp only [this]
  · rw [if_neg (by omega), List.getElem?_eq_none (by omega), List.getElem?_eq_none (by simp [tearTo]; omega)]
/-- Pages in a row. -/
def pgs (ps : List (List Int)) : List Value := ps.flatten.map (Value.int .u8)
theorem pgs_len : ∀ {ps : List (List Int)}, (∀ p ∈ ps, Pg p) → ps.flatten.length = ps.length * 256
  | [], _ => rfl
  | p :: r, h => by
    rw [List.flatten_cons, List.length_append, pgs_len fun q hq => h q (by simp [hq]), (h p (by simp)).1, List.length_cons]; omega
theorem flat_sub : ∀ {ps : List (List Int)}, (∀ p ∈ ps, Pg p) → ∀ (i : Nat) (h : i < ps.length), (ps.flatten.take (i * 256 + 256)).drop (i * 256) = ps[i]
  | [], _, i, h => by simp at h
  | p :: r, h, 0, _ => by
    have := (h p (by simp)).1
    simp [List.take_append_of_le_length (show 256 ≤ p.length by omega), List.take_of_length_le (show p.length ≤ 256 by omega)]
  | p :: r, h, i + 1, hi => by
    have h1 := (h p (by simp)).1
    have ih := flat_sub (ps := r) (fun q hq => h q (by simp [hq])) i (by simpa using hi)
    simp only [List.flatten_cons, List.getElem_cons_succ]
    rw [← ih, List.take_append, List.drop_append]
    simp only [h1, List.length_take]
    rw [List.drop_of_length_le (by rw [List.length_take, h1]; omega), List.nil_append, show (i + 1) * 256 + 256 - 256 = i * 256 + 256 by omega, show (i + 1) * 256 - min ((i + 1) * 256 + 256) 256 = i * 256 by omega]
theorem flat_set : ∀ {ps : List (List Int)}, (∀ p ∈ ps, Pg p) → ∀ (i : Nat) (_ : i < ps.length) {q : List Int} (_ : Pg q), (ps.set i q).flatten = over ps.flatten (i * 256) q
  | [], _, i, h, _, _ => by simp at h
  | p :: r, h, 0, _, q, hq => by
    have := (h p (by simp)).1
    have := hq.1
    unfold over
    simp [List.drop_append, List.drop_of_length_le (show p.length ≤ q.length by omega), show q.length - p.length = 0 by omega]
  | p :: r, h, i + 1, hi, q, hq => by
    have h1 := (h p (by simp)).1
    have h2 := hq.1
    have ih := flat_set (ps := r) (fun q hq => h q (by simp [hq])) i (by simpa using hi) hq
    simp only [List.set_cons_succ, List.flatten_cons]
    rw [ih]
    unfold over
    rw [List.take_append, List.drop_append]
    simp only [h1]
    rw [List.take_of_length_le (show p.length ≤ (i + 1) * 256 by omega), List.drop_of_length_le (show p.length ≤ (i + 1) * 256 + q.length by omega), show (i + 1) * 256 - 256 = i * 256 by omega, show (i + 1) * 256 + q.length - 256 = i * 256 + q.length by omega]
    simp [List.append_assoc]
theorem flat_part {ps : List (List Int)} (h : ∀ p ∈ ps, Pg p) {i : Nat} (hi : i < ps.length) {j : Nat} {vs : List Int} (hj : j + vs.length ≤ 256) : over ps.flatten (i * 256 + j) vs = (ps.set i (over ps[i] j vs)).flatten := by
  have e : ps = ps.take i ++ ps[i] :: ps.drop (i + 1) := by rw [List.getElem_cons_drop, List.take_append_drop]
  have hl : (ps.take i).flatten.length = i * 256 := by rw [pgs_len fun q hq => h q (List.mem_of_mem_take hq), List.length_take]; congr 1; omega
  have e1 : ps.flatten = (ps.take i).flatten ++ (ps[i] ++ (ps.drop (i + 1)).flatten) := by
    conv => lhs; rw [e]
    rw [List.flatten_append, List.flatten_cons]
  have e2 : (ps.set i (over ps[i] j vs)).flatten = (ps.take i).flatten ++ (over ps[i] j vs ++ (ps.drop (i + 1)).flatten) := by
    rw [List.set_eq_take_append_cons_drop, if_pos hi, List.flatten_append, List.flatten_cons]
  rw [e1, e2]
  exact over_in hl.symm (by rw [(h _ (List.getElem_mem hi)).1]; exact hj)
theorem pg_bytes {ps : List (List Int)} (h : ∀ p ∈ ps, Pg p) : ∀ x ∈ ps.flatten, InK .u8 x := fun x hx => by
  obtain ⟨p, hp, hx⟩ := List.mem_flatten.1 hx
  exact (h p hp).2 x hx
/-- Many stores, one behind the other. -/
theorem Row.setL {g : Nat} {c l sz : Nat} {ok : Nat → Prop} {o : Nat} : ∀ (vs : List Value) {w : World} {cs : List Value} (_ : Row w ok sz (some ⟨g, o, none⟩) l c cs) {j : Nat} (_ : j + vs.length ≤ cs.length) (_ : ∀ v ∈ vs, v.oneCell' = true) {F : World → Prop}
    (_ : ∀ w', Row w' ok sz (some ⟨g, o, none⟩) l c (over cs j vs) → Upd (fun z => z = g) w w' → F w'), storeL g (o + j) vs w F
  | [], w, cs, h, j, hj, _, F, k => k w (by rw [over_nil]; exact h) (Upd.refl _ _)
  | x :: r, w, cs, h, j, hj, h1, F, k => by
    simp only [storeL]
    rw [h1 x (by simp)]
    simp only
    simp only [List.length_cons] at hj
    have hx := h.can (show j < cs.length by omega)
    obtain ⟨g', o', e, _, hc, _⟩ := hx
    injection e with e; injection e with e1 e2; subst e1; subst e2
    refine ⟨hc, fun w' hs => ?_⟩
    have h' := h.set (show j < cs.length by omega) hs
    rw [Nat.add_assoc]
    refine Row.setL r h' (by rw [List.length_set]; omega) (fun v hv => h1 v (by simp [hv])) fun w'' hr hu => k w'' (by rw [← over_cons hj]; exact hr) ?_
    exact Upd.trans hs.upd hu
/-- A block's cells, many at once. -/
theorem Blk.setL {b : Nat} : ∀ (vs : List Value) {w : World} {cs : List Value} (_ : Blk w b cs) {j : Nat} (_ : j + vs.length ≤ cs.length) (_ : ∀ v ∈ vs, v.oneCell' = true) {F : World → Prop}
    (_ : ∀ w', Blk w' b (over cs j vs) → Upd (fun z => z = b) w w' → F w'), storeL b j vs w F
  | [], w, cs, h, j, hj, _, F, k => k w (by rw [over_nil]; exact h) (Upd.refl _ _)
  | x :: r, w, cs, h, j, hj, h1, F, k => by
    simp only [storeL]
    rw [h1 x (by simp)]
    simp only
    simp only [List.length_cons] at hj
    refine ⟨h.can j (by omega), fun w' hs => ?_⟩
    exact Blk.setL r (h.store hs) (by rw [List.length_set]; omega) (fun v hv => h1 v (by simp [hv])) fun w'' hr hu => k w'' (by rw [← over_cons hj]; exact hr) (Upd.trans hs.upd hu)
theorem setCells_row {w : World} {ok : Nat → Prop} {sz g o l c : Nat} {cs : List Value} (h : Row w ok sz (some ⟨g, o, none⟩) l c cs) {j : Nat} {vs : List Value} (hj : j + vs.length ≤ cs.length) : Row (w.setCells g (o + j) vs) ok sz (some ⟨g, o, none⟩) l c (over cs j vs) := by
  induction vs generalizing w cs j with
  | nil => rw [over_nil]; exact h
  | cons x r ih =>
    simp only [List.length_cons] at hj
    rw [← over_cons hj, World.setCells, Nat.add_assoc]
    exact ih (h.set (show j < cs.length by omega) (w' := w.setCell ⟨g, o + j, none⟩ x) ⟨rfl⟩) (by rw [List.length_set]; omega)
/-- copy of bytes. -/
theorem copy_run {P : Program} {dT sT ty elem : TypeId} (hu : P.underlying dT = some (.slice elem)) (hz : (P.info? elem).map (·.size) = some 1) {w : World} {ok' : Nat → Prop} {g o : Nat}
    {p : Option Addr} {ys : List Int} (hy : Ints .u8 w ok' p ys) {dl m : Nat} (dc sc : Nat) (hm : m = ys.length) (hcan : ∀ i, i < Nat.min ys.length dl → CanStore w g (o + i)) (hne : 0 < Nat.min ys.length dl) :
    (Builtin.copy_ #[dT, sT] ty #[.slice (some ⟨g, o, none⟩) dl dc, .slice p m sc]).run P w = .ok (goInt (Nat.min ys.length dl)) (w.setCells g o ((ys.take dl).map (Value.int .u8))) := by
  subst hm
  have hlen : ((ys.take dl).map (Value.int .u8)).length = Nat.min ys.length dl := by
    rw [List.length_map, List.length_take]; simp only [Nat.min_def, Nat.min_comm]
    split <;> split <;> omega
  have hmn : Nat.min ys.length dl ≤ ys.length := Nat.min_le_left _ _
  have hs := hy.src
  cases p with
  | none =>
    obtain ⟨v, hv⟩ : ∃ v, (ys.map (Value.int .u8))[0]? = some v := ⟨_, List.getElem?_eq_getElem (by rw [List.length_map]; omega)⟩
    obtain ⟨_, _, e, _⟩ := hs 0 v hv
    cases e
  | some a =>
    have := run_copy_cells (P := P) w dT sT ty elem g o dl dc a ys.length sc ((ys.take dl).map (Value.int .u8)) hu hz (by rw [hlen]) (fun i v hi => ?_) (fun i hi => ?_) (fun i hi => ?_) (ints_one .u8 _)
    · rw [hlen] at this; exact this
    · have hi' := (List.getElem?_eq_some_iff.1 hi).1
      rw [hlen] at hi'
      rw [List.getElem?_map, List.getElem?_take_of_lt (Nat.lt_of_lt_of_le hi' (Nat.min_le_right _ _)), ← List.getElem?_map] at hi
      obtain ⟨b, o', e, hc⟩ := hs i v hi
      injection e with e; subst e
      rw [add_plain']; exact hc
    · rw [hlen] at hi
      obtain ⟨⟨u, hu⟩, _⟩ := hcan i hi
      rw [hu]; rfl
    · rw [hlen] at hi
      exact (hcan i hi).2
theorem setCells_blk {b : Nat} : ∀ (vs : List Value) {w : World} {cs : List Value} (_ : Blk w b cs) {j : Nat} (_ : j + vs.length ≤ cs.length), Blk (w.setCells b j vs) b (over cs j vs)
  | [], w, cs, h, j, hj => by rw [over_nil]; exact h
  | x :: r, w, cs, h, j, hj => by
    simp only [List.length_cons] at hj
    rw [← over_cons hj, World.setCells]
    exact setCells_blk r (h.store (w' := w.setCell ⟨b, j, none⟩ x) ⟨rfl⟩) (by rw [List.length_set]; omega)
theorem over_all {α : Type} {cs vs : List α} (h : cs.length = vs.length) : over cs 0 vs = vs := by unfold over; simp [h]
theorem over_tail {α : Type} {x : α} {cs vs : List α} (h : cs.length = vs.length) : over (x :: cs) 1 vs = x :: vs := by unfold over; simp [h, Nat.add_comm 1]
/-- A block's cells as a row. -/
theorem Blk.row {w : World} {b : Nat} {vs : List Value} (h : Blk w b vs) {o l sz : Nat} {cs : List Value} (hcs : (vs.drop o).take (l * sz) = cs) (hl : o + l * sz ≤ vs.length) (hm : l ≤ maxLen) : Row w (fun g => g = b) sz (some ⟨b, o, none⟩) l l cs := by
  subst hcs
  refine ⟨by rw [List.length_take, List.length_drop]; omega, Nat.le_refl _, hm, .inr ⟨b, o, rfl, rfl, h.lt, fun j v hj => ?_, fun j hj => h.can _ (by omega)⟩⟩
  have hj' := (List.getElem?_eq_some_iff.1 hj).1
  rw [List.length_take] at hj'
  rw [List.getElem?_take_of_lt (by omega), List.getElem?_drop] at hj
  exact h.cell _ hj
/-- A copy in new memory. -/
theorem copy_row {P : Program} {t e : TypeId} {sz by_ : Nat} (ht : SlT P t e sz by_) (ty : TypeId) {w : World} {tx : TypeId} {x : Value} {n : Nat} {news : List Value} (hs : Go.Src P sz tx x n news w) (h63 : n ≤ maxLen) (hby : n * by_ ≤ 140737488355328) :
    ∃ p' c' w', (Builtin.append_ #[t, tx] ty #[.slice none 0 0, x]).run P w = .ok (.slice p' n c') w' ∧ Row w' (fun k => k = w.heap.size) sz p' n c' news ∧ Ext w w' := by
  obtain ⟨p', c', w', h1, h2, h3, _⟩ := (Row.nil w (fun _ => False) sz).append ht ty hs (by omega) (by rw [Nat.zero_add]; exact hby)
  rw [Nat.zero_add] at h1 h2
  exact ⟨p', c', w', h1, by simpa using h2, h3.mono fun k _ hk => by obtain ⟨_, _, a, ha, _⟩ := hk; cases ha⟩
/-- One element laid in a row of one. -/
theorem fill_one {z : Value} {n : Nat} {vs : List Value} (h1 : z.cells.size = n) (h2 : vs.length = n) : fillL ((List.range 1).map fun i => (i * n, n)) (zerosL z 1) [(0, .agg vs.toArray)] = some vs := by
  have hz : (zerosL z 1).length = n := by simp [zerosL, h1]
  have hc : (Value.agg vs.toArray).cells = vs.toArray := rfl
  simp only [fillL, List.range_one, List.map_cons, List.map_nil, List.getElem?_cons_zero, Nat.zero_mul, Nat.zero_add, hc, List.size_toArray, h2, hz, Nat.le_refl, and_self, if_true, List.take_zero, List.nil_append, Option.some.injEq]
  rw [List.drop_of_length_le (by omega), List.append_nil]
end Go.Vc
