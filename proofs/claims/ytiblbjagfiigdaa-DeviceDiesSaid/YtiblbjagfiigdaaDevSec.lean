/-
  Devices: sectors; devices that are calm. Plain Lean.
-/
import Derived.Test.YtiblbjagfiigdaaDevX
namespace Go.Vc
def sec (p : List Int) (t : Nat) : List Int := (p.drop (t * 64)).take 64
theorem sec_get {p : List Int} {t i : Nat} (hi : i < 64) : (sec p t)[i]? = p[t * 64 + i]? := by
  unfold sec; rw [List.getElem?_take_of_lt hi, List.getElem?_drop]
theorem sec_len {p : List Int} (hp : p.length = 256) {t : Nat} (ht : t < 4) : (sec p t).length = 64 := by
  unfold sec; rw [List.length_take, List.length_drop, hp]; omega
theorem sec_ext {p q : List Int} (hp : p.length = 256) (hq : q.length = 256) {t : Nat} (ht : t < 4) (h : ∀ i, i < 64 → p[t * 64 + i]? = q[t * 64 + i]?) : sec p t = sec q t :=
  List.ext_getElem? fun i => by
    by_cases hi : i < 64
    · rw [sec_get hi, sec_get hi, h i hi]
    · rw [List.getElem?_eq_none (by rw [sec_len hp ht]; omega), List.getElem?_eq_none (by rw [sec_len hq ht]; omega)]
theorem tear_get {c : Int} {b a : List Int} (ha : a.length = 256) (hb : b.length = 256) {j : Nat} (hj : j < 256) : (tear c b a)[j]? = if bit c (j / 64) = true then b[j]? else a[j]? := by
  unfold tear
  rw [List.getElem?_map, List.getElem?_range hj]
  simp only [Option.map_some]
  split
  · rw [getD_at _ (by omega), List.getElem?_eq_getElem (by omega)]
  · rw [getD_at _ (by omega), List.getElem?_eq_getElem (by omega)]
theorem tear_sec {c : Int} {b a : List Int} (ha : a.length = 256) (hb : b.length = 256) {t : Nat} (ht : t < 4) : sec (tear c b a) t = if bit c t = true then sec b t else sec a t := by
  have hl : (tear c b a).length = 256 := by simp [tear]
  split
  · rename_i h
    exact sec_ext hl hb ht fun i hi => by rw [tear_get ha hb (by omega), show (t * 64 + i) / 64 = t by omega, if_pos h]
  · rename_i h
    exact sec_ext hl ha ht fun i hi => by rw [tear_get ha hb (by omega), show (t * 64 + i) / 64 = t by omega, if_neg h]
/-- Each sector is the elder or one of the newer ones. -/
theorem tears_sec (choice : List Int) {pg t : Nat} (ht : t < 4) : ∀ (ws : List (Nat × List Int)) (k : Nat) (l : List (List Int)) (_ : ∀ p ∈ l, Pg p) (_ : ∀ x ∈ ws, x.1 < l.length ∧ Pg x.2) (_ : pg < l.length),
    sec ((tears choice k ws l).getD pg []) t = sec (l.getD pg []) t ∨ ∃ x ∈ ws, x.1 = pg ∧ sec ((tears choice k ws l).getD pg []) t = sec x.2 t
  | [], _, l, _, _, _ => .inl rfl
  | x :: r, k, l, hl, hw, hpg => by
    have hx := hw x (by simp)
    have hxl : Pg (l.getD x.1 []) := by rw [getD_at _ hx.1]; exact hl _ (List.getElem_mem _)
    have hl' : ∀ p ∈ l.set x.1 (tear (choice.getD k 15) x.2 (l.getD x.1 [])), Pg p := fun p hp => by
      rcases List.mem_or_eq_of_mem_set hp with h | h
      · exact hl p h
      · subst h; exact tear_pg hxl hx.2
    simp only [tears]
    rcases tears_sec choice ht r (k + 1) _ hl' (fun y hy => by rw [List.length_set]; exact hw y (by simp [hy])) (by rw [List.length_set]; exact hpg) with h | ⟨y, hy, h1, h2⟩
    · rw [h]
      by_cases hp : x.1 = pg
      · subst hp
        rw [getD_at [] (by rw [List.length_set]; exact hpg), List.getElem_set_self, tear_sec hxl.1 hx.2.1 ht]
        split
        · exact .inr ⟨x, by simp, rfl, rfl⟩
        · exact .inl rfl
      · left
        rw [getD_at [] (by rw [List.length_set]; exact hpg), List.getElem_set_ne hp, getD_at [] hpg]
    · exact .inr ⟨y, by simp [hy], h1, h2⟩
theorem flat_sec {ps : List (List Int)} (h : ∀ p ∈ ps, Pg p) {k t : Nat} (hk : k < ps.length) (ht : t < 4) : (ps.flatten.take ((4 * k + t) * 64 + 64)).drop ((4 * k + t) * 64) = sec (ps.getD k []) t := by
  rw [getD_at _ hk]
  have hs := flat_sub h k hk
  have hp := h _ (List.getElem_mem hk)
  have hfl := pgs_len h
  have hl1 : ((ps.flatten.take ((4 * k + t) * 64 + 64)).drop ((4 * k + t) * 64)).length = 64 := by rw [List.length_drop, List.length_take, hfl]; omega
  refine List.ext_getElem? fun i => ?_
  by_cases hi : i < 64
  · rw [sec_get hi, List.getElem?_drop, List.getElem?_take_of_lt (by omega), ← hs, List.getElem?_drop, List.getElem?_take_of_lt (by omega)]
    congr 1; omega
  · rw [List.getElem?_eq_none (by omega), List.getElem?_eq_none (by rw [sec_len hp.1 ht]; omega)]
/-- A device that is well, and of which nothing is asked. -/
structure CalmD (d : Dev) (n : Nat) : Prop where
  out : d.out = []
  fuse : d.fuse = -1
  dead : d.dead = false
  ops : d.ops ≤ n
  len : d.now.length = 8
theorem calm_op {d : Dev} {n : Nat} (h : CalmD d n) : d.op = ({ d with ops := d.ops + 1 }, some 0) := by
  obtain ⟨h1, h2, _, _, _⟩ := h
  cases d; dsimp only at h1 h2; subst h1 h2; rfl
theorem CalmD.write {d : Dev} {n : Nat} (h : CalmD d n) (p : Int) {b : List Int} (hb : b.length = 256) :
    CalmD (d.write p b).1 (n + 1) ∧ (d.write p b).1.lasts = d.lasts ∧ ((d.write p b).1.writes = d.writes ∨ 0 ≤ p ∧ (d.write p b).1.writes = d.writes ++ [(p.toNat, b)]) := by
  have hops := h.ops
  by_cases hi : d.is p = true
  · have e : d.write p b = (({ d with ops := d.ops + 1 } : Dev).lay p.toNat b, 0) := by
      unfold Dev.write
      rw [hi, decide_eq_true hb, if_pos (show (true && true) = true from rfl), if_neg (by rw [h.dead]; decide), calm_op h]
      simp only [if_neg (show ¬ (0 : Int) = 1 by decide), if_true]
    rw [e]
    exact ⟨⟨h.out, h.fuse, h.dead, by simp only [Dev.lay]; omega, by simp [Dev.lay, h.len]⟩, rfl, .inr ⟨(Dev.is_iff.1 hi).1, rfl⟩⟩
  · have e : d.write p b = (d, 1) := by
      unfold Dev.write
      rw [eq_false_of_ne_true hi]; rfl
    rw [e]
    exact ⟨⟨h.out, h.fuse, h.dead, by simp only; omega, h.len⟩, rfl, .inl rfl⟩
theorem CalmD.sync {d : Dev} {n : Nat} (h : CalmD d n) : d.sync.2 = 0 ∧ CalmD d.sync.1 (n + 1) ∧ d.sync.1.lasts = d.now ∧ d.sync.1.now = d.now ∧ d.sync.1.writes = [] := by
  have hops := h.ops
  have e : d.sync = (({ d with ops := d.ops + 1 } : Dev).last, 0) := by
    unfold Dev.sync
    rw [if_neg (by rw [h.dead]; decide), calm_op h]
    simp only [if_neg (show ¬ (0 : Int) = 1 by decide), if_true]
  rw [e]
  exact ⟨rfl, ⟨h.out, h.fuse, h.dead, by simp only [Dev.last]; omega, h.len⟩, rfl, rfl, rfl⟩
theorem calm_new : CalmD (Dev.new 8) 0 := ⟨rfl, rfl, rfl, Int.le_refl _, by show (List.replicate 8 (List.replicate 256 (0 : Int))).length = 8; rw [List.length_replicate]⟩
end Go.Vc
