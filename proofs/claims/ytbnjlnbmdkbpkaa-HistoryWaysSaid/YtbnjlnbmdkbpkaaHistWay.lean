/-
  Histories: ways from node to node: the plain law.
-/
import Derived.Test.YtbnjlnbmdkbpkaaHistPure
namespace Go.Vc
/-- The steps from a node to another one: left upward (false), come to downward (true). -/
def wayF (pa : Nat → Nat) (a b : Nat) : List (Nat × Bool) :=
  if a = b then [] else
  if b < a then (if h : pa a < a then (a, false) :: wayF pa (pa a) b else [])
  else (if h : pa b < b then wayF pa a (pa b) ++ [(b, true)] else [])
termination_by a + b
section
variable {pa : Nat → Nat}
theorem way_same (a : Nat) : wayF pa a a = [] := by rw [wayF, if_pos rfl]
theorem way_up {a b : Nat} (h : b < a) (hp : pa a < a) : wayF pa a b = (a, false) :: wayF pa (pa a) b := by rw [wayF, if_neg (by omega), if_pos h, dif_pos hp]
theorem way_down {a b : Nat} (h : a < b) (hp : pa b < b) : wayF pa a b = wayF pa a (pa b) ++ [(b, true)] := by rw [wayF, if_neg (by omega), if_neg (by omega), dif_pos hp]
theorem way_len (hp : ∀ k, k ≠ 0 → pa k < k) : ∀ (m a b : Nat), a + b ≤ m → (wayF pa a b).length ≤ a + b
  | m, a, b, h => by
    rcases Nat.lt_trichotomy a b with h1 | rfl | h1
    · have := hp b (by omega)
      rw [way_down h1 this, List.length_append]
      have := way_len hp (a + pa b) a (pa b) (Nat.le_refl _)
      simp only [List.length_cons, List.length_nil]; omega
    · rw [way_same]; simp
    · have := hp a (by omega)
      rw [way_up h1 this, List.length_cons]
      have := way_len hp (pa a + b) (pa a) b (Nat.le_refl _)
      omega
termination_by m a b => a + b
theorem way_mem (hp : ∀ k, k ≠ 0 → pa k < k) : ∀ (a b : Nat), ∀ s ∈ wayF pa a b, s.1 ≠ 0 ∧ (s.1 ≤ a ∨ s.1 ≤ b)
  | a, b, s, hs => by
    rcases Nat.lt_trichotomy a b with h1 | rfl | h1
    · have := hp b (by omega)
      rw [way_down h1 this] at hs
      rcases List.mem_append.1 hs with hs | hs
      · have := way_mem hp a (pa b) s hs
        exact ⟨this.1, by omega⟩
      · rw [List.mem_singleton.1 hs]
        exact ⟨by show b ≠ 0; omega, .inr (Nat.le_refl _)⟩
    · rw [way_same] at hs; cases hs
    · have := hp a (by omega)
      rw [way_up h1 this] at hs
      rcases List.mem_cons.1 hs with rfl | hs
      · exact ⟨by show a ≠ 0; omega, .inl (Nat.le_refl _)⟩
      · have := way_mem hp (pa a) b s hs
        exact ⟨this.1, by omega⟩
termination_by a b => a + b
def flipS (l : List (Nat × Bool)) : List (Nat × Bool) := (l.map fun s => (s.1, !s.2)).reverse
/-- The way back. -/
theorem way_back (hp : ∀ k, k ≠ 0 → pa k < k) : ∀ (a b : Nat), wayF pa b a = flipS (wayF pa a b)
  | a, b => by
    rcases Nat.lt_trichotomy a b with h1 | rfl | h1
    · have := hp b (by omega)
      rw [way_down h1 this, way_up h1 this, way_back hp a (pa b)]
      simp [flipS]
    · rw [way_same]; rfl
    · have := hp a (by omega)
      rw [way_up h1 this, way_down h1 this, way_back hp (pa a) b]
      simp [flipS]
termination_by a b => a + b
/-- Is a node another one, or above it? -/
def aboveF (pa : Nat → Nat) (a n : Nat) : Bool :=
  if a < n then (if h : pa n < n then aboveF pa a (pa n) else false) else n == a
termination_by n
theorem above_lt {a n : Nat} (h : a < n) (hp : pa n < n) : aboveF pa a n = aboveF pa a (pa n) := by rw [aboveF, if_pos h, dif_pos hp]
theorem above_ge {a n : Nat} (h : ¬ a < n) : aboveF pa a n = (n == a) := by rw [aboveF, if_neg h]
/-- Not above: the way begins upward. -/
theorem way_not (hp : ∀ k, k ≠ 0 → pa k < k) : ∀ (n a : Nat), aboveF pa a n = false → a ≠ 0 ∧ wayF pa a n = (a, false) :: wayF pa (pa a) n
  | n, a, h => by
    rcases Nat.lt_trichotomy a n with h1 | rfl | h1
    · have hpn := hp n (by omega)
      rw [above_lt h1 hpn] at h
      obtain ⟨h0, h2⟩ := way_not hp (pa n) a h
      have hpa := hp a h0
      refine ⟨h0, ?_⟩
      rw [way_down h1 hpn, h2, way_down (show pa a < n by omega) hpn]
      rfl
    · rw [above_ge (by omega)] at h; simp at h
    · exact ⟨by omega, way_up h1 (hp a (by omega))⟩
termination_by n => n
/-- The node below one on the way down to another one. -/
def childF (pa : Nat → Nat) (a n : Nat) : Nat := if pa n = a then n else if h : pa n < n then childF pa a (pa n) else n
termination_by n
theorem child_here {a n : Nat} (h : pa n = a) : childF pa a n = n := by rw [childF, if_pos h]
theorem child_up {a n : Nat} (h : pa n ≠ a) (hp : pa n < n) : childF pa a n = childF pa a (pa n) := by rw [childF, if_neg h, dif_pos hp]
theorem way_above (hp : ∀ k, k ≠ 0 → pa k < k) : ∀ (n a : Nat), aboveF pa a n = true → a ≠ n → a < childF pa a n ∧ childF pa a n ≤ n ∧ pa (childF pa a n) = a ∧ wayF pa a n = (childF pa a n, true) :: wayF pa (childF pa a n) n ∧ aboveF pa (childF pa a n) n = true
  | n, a, h, hne => by
    have h1 : a < n := by
      rcases Nat.lt_or_ge a n with h1 | h1
      · exact h1
      · rw [above_ge (by omega)] at h
        have : n = a := by simpa using h
        omega
    have hpn := hp n (by omega)
    rw [above_lt h1 hpn] at h
    by_cases he : pa n = a
    · rw [child_here he]
      refine ⟨h1, Nat.le_refl _, he, ?_, ?_⟩
      · rw [way_down h1 hpn, he, way_same, way_same]; rfl
      · rw [above_ge (by omega)]; simp
    · obtain ⟨c1, c2, c3, c4, c5⟩ := way_above hp (pa n) a h fun e => he e.symm
      rw [child_up he hpn]
      refine ⟨c1, by omega, c3, ?_, ?_⟩
      · rw [way_down h1 hpn, c4, way_down (show childF pa a (pa n) < n by omega) hpn]; rfl
      · rw [above_lt (by omega) hpn]; exact c5
termination_by n => n
end
/-! ### What a way's steps do -/
def paF (ns : List Nd) (k : Nat) : Nat := (ns.getD k rootN).par.toNat
def stepE (ns : List Nd) (s : Nat × Bool) : List E := if s.2 = true then (ns.getD s.1 rootN).es else turnE (ns.getD s.1 rootN).es
def headAt (es : List E) : Int := (es.getD 0 ⟨0, [], []⟩).at_
def stepC (ns : List Nd) (s : Nat × Bool) : Int := if s.2 = true then headAt (ns.getD s.1 rootN).es else (ns.getD s.1 rootN).cur
def stepsE (ns : List Nd) (d : List (Nat × Bool)) : List E := d.flatMap (stepE ns)
def lastC (ns : List Nd) (d : List (Nat × Bool)) : Int := match d.getLast? with | some s => stepC ns s | none => 0
theorem stepsE_snoc (ns : List Nd) (d : List (Nat × Bool)) (s : Nat × Bool) : stepsE ns (d ++ [s]) = stepsE ns d ++ stepE ns s := by unfold stepsE; rw [List.flatMap_append]; simp
theorem lastC_snoc (ns : List Nd) (d : List (Nat × Bool)) (s : Nat × Bool) : lastC ns (d ++ [s]) = stepC ns s := by unfold lastC; rw [List.getLast?_append]; simp
theorem paF_lt {ns : List Nd} (ok : okL ns) (k : Nat) (hk : k ≠ 0) : paF ns k < k := by
  unfold paF
  rcases Nat.lt_or_ge k ns.length with h | h
  · rw [getD_at h]
    have := below ok h hk
    omega
  · rw [List.getD_eq_getElem?_getD, List.getElem?_eq_none h]
    show (-1 : Int).toNat < k
    have : (-1 : Int).toNat = 0 := rfl
    omega
theorem turn1_turn1 (e : E) : turn1 (turn1 e) = e := rfl
theorem turnE_turnE (l : List E) : turnE (turnE l) = l := by
  unfold turnE
  rw [List.map_reverse, List.reverse_reverse, List.map_map]
  have : (turn1 ∘ turn1) = id := rfl
  rw [this, List.map_id]
theorem turnE_append (a b : List E) : turnE (a ++ b) = turnE b ++ turnE a := by unfold turnE; simp
theorem stepsE_flip (ns : List Nd) : ∀ d : List (Nat × Bool), stepsE ns (flipS d) = turnE (stepsE ns d)
  | [] => rfl
  | s :: d => by
    have h1 : flipS (s :: d) = flipS d ++ [(s.1, !s.2)] := by simp [flipS]
    have h2 : stepsE ns (s :: d) = stepE ns s ++ stepsE ns d := rfl
    rw [h1, h2, stepsE_snoc, turnE_append, stepsE_flip ns d]
    congr 1
    unfold stepE
    cases hs : s.2
    · simp [turnE_turnE]
    · simp
theorem stepsE_len {ns : List Nd} (hE : ∀ n ∈ ns, n.es.length ≤ 10000) : ∀ d : List (Nat × Bool), (stepsE ns d).length ≤ 10000 * d.length
  | [] => by simp [stepsE]
  | s :: d => by
    have h2 : stepsE ns (s :: d) = stepE ns s ++ stepsE ns d := rfl
    rw [h2, List.length_append, List.length_cons]
    have := stepsE_len hE d
    have h3 : (stepE ns s).length ≤ 10000 := by
      have h4 : (ns.getD s.1 rootN).es.length ≤ 10000 := by
        rcases Nat.lt_or_ge s.1 ns.length with h | h
        · rw [getD_at h]; exact hE _ (List.getElem_mem h)
        · rw [List.getD_eq_getElem?_getD, List.getElem?_eq_none h]; show ([] : List E).length ≤ _; simp
      unfold stepE turnE
      split
      · exact h4
      · simpa using h4
    omega
end Go.Vc
