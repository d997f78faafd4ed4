/-
  Histories: the plain law.
-/
import Derived.Test.YtlenmnffdbgkkaaHistWords
namespace Go.Vc
/-- May a node have a number? -/
def mayN (i : Int) (n : Nd) : Prop := if i = 0 then n.par = -1 ∧ n.es = [] ∧ n.cur = 0 else 0 ≤ n.par ∧ n.par < i ∧ n.es ≠ [] ∧ 0 ≤ n.cur
instance (i : Int) (n : Nd) : Decidable (mayN i n) := by unfold mayN; infer_instance
def okL (ns : List Nd) : Prop := ∀ (i : Nat) (h : i < ns.length), mayN i ns[i]
/-- Bounds of what edits hold. -/
def Mod (es : List E) : Prop := es.length ≤ 1000000000 ∧ ∀ e ∈ es, e.old.length ≤ 1000000000 ∧ e.new.length ≤ 1000000000
def Mods (ns : List Nd) : Prop := ∀ n ∈ ns, Mod n.es
def rootN : Nd := ⟨-1, [], 0⟩
def loadOk (ns : List Nd) (cur : Int) : Prop := 1 ≤ ns.length ∧ ns.length ≤ 65536 ∧ 0 ≤ cur ∧ cur < ns.length ∧ okL ns
theorem Nd.ext' {x y : Nd} (h1 : x.par = y.par) (h2 : x.es = y.es) (h3 : x.cur = y.cur) : x = y := by cases x; cases y; simp_all
theorem take_snoc {α : Type} {xs ys : List α} {k : Nat} (h : k < xs.length) (h' : k < ys.length) (he : xs.take k = ys.take k) (hk : xs[k] = ys[k]) : xs.take (k + 1) = ys.take (k + 1) := by
  rw [List.take_succ_eq_append_getElem h, List.take_succ_eq_append_getElem h', he, hk]
/-! ### Kids -/
def isKid (ns : List Nd) (i : Int) (k : Nat) : Bool := decide (0 ≤ i) && decide ((ns.getD k rootN).par = i)
def kidsU (ns : List Nd) (i : Int) (k : Nat) : List Nat := (List.range k).filter (isKid ns i)
def kidsF (ns : List Nd) (i : Int) : List Nat := kidsU ns i ns.length
theorem kidsU_succ (ns : List Nd) (i : Int) (k : Nat) : kidsU ns i (k + 1) = kidsU ns i k ++ if isKid ns i k = true then [k] else [] := by
  unfold kidsU
  rw [List.range_succ, List.filter_append]
  by_cases h : isKid ns i k = true <;> simp [h]
theorem kidsU_len (ns : List Nd) (i : Int) (k : Nat) : (kidsU ns i k).length ≤ k := by
  have := List.length_filter_le (isKid ns i) (List.range k)
  rwa [List.length_range] at this
theorem getD_at {ns : List Nd} {k : Nat} (h : k < ns.length) : ns.getD k rootN = ns[k] := by rw [List.getD_eq_getElem?_getD, List.getElem?_eq_getElem h]; rfl
theorem isKid_at {ns : List Nd} {i : Int} {k : Nat} (h : k < ns.length) : isKid ns i k = (decide (0 ≤ i) && decide (ns[k].par = i)) := by unfold isKid; rw [getD_at h]
theorem mem_kids {ns : List Nd} {i : Int} {k : Nat} : k ∈ kidsF ns i ↔ k < ns.length ∧ 0 ≤ i ∧ (ns.getD k rootN).par = i := by
  unfold kidsF kidsU isKid
  rw [List.mem_filter, List.mem_range, Bool.and_eq_true, decide_eq_true_iff, decide_eq_true_iff]
theorem kids_zero {ns : List Nd} (h : okL ns) (hn : 0 < ns.length) (i : Int) : kidsU ns i 1 = [] := by
  have h0 := h 0 hn
  unfold mayN at h0
  rw [if_pos (by rfl)] at h0
  have : isKid ns i 0 = false := by
    rw [isKid_at hn, h0.1]
    by_cases hi : 0 ≤ i
    · rw [decide_eq_false (p := (-1 : Int) = i) (by omega), Bool.and_false]
    · rw [decide_eq_false hi, Bool.false_and]
  rw [kidsU_succ, if_neg (by rw [this]; decide)]
  rfl
theorem par_lt {ns : List Nd} (h : okL ns) {k : Nat} (hk : k < ns.length) : ns[k].par < ns.length ∧ -1 ≤ ns[k].par ∧ ns[k].par < k := by
  have h0 := h k hk
  unfold mayN at h0
  split at h0 <;> omega
theorem kids_out {ns : List Nd} (h : okL ns) {i : Int} (hi : ¬ (0 ≤ i ∧ i < ns.length)) : kidsF ns i = [] := by
  rw [List.eq_nil_iff_forall_not_mem]
  intro k hk
  obtain ⟨h1, h2, h3⟩ := mem_kids.1 hk
  rw [getD_at h1] at h3
  have := par_lt h h1
  omega
theorem below {ns : List Nd} (h : okL ns) {k : Nat} (hk : k < ns.length) (h0 : k ≠ 0) : 0 ≤ ns[k].par ∧ ns[k].par < k ∧ ns[k].es ≠ [] ∧ 0 ≤ ns[k].cur := by
  have h1 := h k hk
  unfold mayN at h1
  rw [if_neg (by omega)] at h1
  exact h1
end Go.Vc
