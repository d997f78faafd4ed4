/-
  Nodes of a history in memory; rows that are appended to in new memory.
-/
import Derived.Test.YtlenmnffdbgkkaaEditWords
import Derived.Test.YtlenmnffdbgkkaaWords2
namespace Go.Vc
open Go.RowKit
theorem brr {b : Bool} {A B : Prop} (h1 : b = true → A) (h2 : b = false → B) : Br b A B := ⟨h1, h2⟩
/-- A node. -/
structure Nd where
  par : Int
  es : List E
  cur : Int
deriving DecidableEq
def NodeV (w : World) (ok : Nat → Prop) (vs : List Value) (n : Nd) : Prop :=
  ∃ p c, vs = [.int .i64 n.par, .slice p n.es.length c, .int .i64 n.cur] ∧ InK .i64 n.par ∧ InK .i64 n.cur ∧ n.es.length ≤ c ∧ Edits w ok p n.es
theorem NodeV.stable : StableV NodeV := fun _ _ _ _ _ _ hu ht ⟨p, c, h1, h2, h3, h4, h5⟩ => ⟨p, c, h1, h2, h3, h4, h5.upd hu ht⟩
theorem NodeV.widens : WidensV NodeV := fun _ _ _ _ _ hok ⟨p, c, h1, h2, h3, h4, h5⟩ => ⟨p, c, h1, h2, h3, h4, h5.ok hok⟩
abbrev NodeC := ElemC NodeV
abbrev Nodes (w : World) (ok : Nat → Prop) (p : Option Addr) (ns : List Nd) : Prop := RS 3 NodeC w ok p ns
theorem Nodes.ext {w w' : World} {ok : Nat → Prop} {p : Option Addr} {ns : List Nd} (h : Nodes w ok p ns) (hu : Ext w w') : Nodes w' ok p ns := RS.ext (ElemC.stable NodeV.stable) h hu
theorem Nodes.upd {w w' : World} {ok T : Nat → Prop} {p : Option Addr} {ns : List Nd} (h : Nodes w ok p ns) (hu : Upd T w w') (ht : ∀ k, ok k → ¬ T k) : Nodes w' ok p ns := RS.upd (ElemC.stable NodeV.stable) h hu ht
theorem Nodes.ok {w : World} {ok ok' : Nat → Prop} {p : Option Addr} {ns : List Nd} (h : Nodes w ok p ns) (hok : ∀ k, k < w.heap.size → ok k → ok' k) : Nodes w ok' p ns :=
  RS.ok (ElemC.widens NodeV.widens) h (fun _ _ _ h => h.1) hok
theorem Nodes.at {w : World} {ok : Nat → Prop} {p : Option Addr} {ns : List Nd} (h : Nodes w ok p ns) (i : Nat) (hi : i < ns.length) :
    ∃ b o p1 c1, p = some ⟨b, o, none⟩ ∧ ok b ∧ w.cell? ⟨b, o + i * 3, none⟩ = some (.int .i64 ns[i].par) ∧ w.cell? ⟨b, o + i * 3 + 1, none⟩ = some (.slice p1 ns[i].es.length c1) ∧
      w.cell? ⟨b, o + i * 3 + 2, none⟩ = some (.int .i64 ns[i].cur) ∧ InK .i64 ns[i].par ∧ InK .i64 ns[i].cur ∧ ns[i].es.length ≤ c1 ∧ Edits w ok p1 ns[i].es := by
  obtain ⟨b, o, hp, hb, _, vs, ⟨p1, c1, rfl, h2, h3, h4, h5⟩, hc⟩ := h i hi
  exact ⟨b, o, p1, c1, hp, hb, hc 0 _ rfl, hc 1 _ rfl, hc 2 _ rfl, h2, h3, h4, h5⟩
theorem NodeV.len {w : World} {ok : Nat → Prop} {vs : List Value} {n : Nd} (h : NodeV w ok vs n) : vs.length = 3 := by obtain ⟨p, c, rfl, _⟩ := h; rfl
theorem NodeV.one {w : World} {ok : Nat → Prop} {vs : List Value} {n : Nd} (h : NodeV w ok vs n) : ∀ u ∈ vs, u.oneCell' = true := by obtain ⟨p, c, rfl, _⟩ := h; simp [Value.oneCell']
theorem EditV.len {w : World} {ok : Nat → Prop} {vs : List Value} {n : E} (h : EditV w ok vs n) : vs.length = 3 := by obtain ⟨p, c, q, d, rfl, _⟩ := h; rfl
theorem EditV.one {w : World} {ok : Nat → Prop} {vs : List Value} {n : E} (h : EditV w ok vs n) : ∀ u ∈ vs, u.oneCell' = true := by obtain ⟨p, c, q, d, rfl, _⟩ := h; simp [Value.oneCell']
/-- Three cells are filled. -/
theorem fill3 {w w1 : World} {b : Nat} {p q r x y z : Value} {T : TypeId} (h : NewBlk w b [p, q, r] T w1) {G : World → Prop} (k : ∀ w2, NewBlk w b [x, y, z] T w2 → G w2) :
    CanStore w1 b 0 ∧ ∀ ws, Stored w1 b 0 x ws → CanStore ws b 1 ∧ ∀ ws1, Stored ws b 1 y ws1 → CanStore ws1 b 2 ∧ ∀ ws2, Stored ws1 b 2 z ws2 → G ws2 :=
  ⟨h.can 0 (by simp), fun ws s0 => have h0 := h.store s0; ⟨h0.can 1 (by simp), fun ws1 s1 => have h1 := h0.store s1; ⟨h1.can 2 (by simp), fun ws2 s2 => k _ (h1.store s2)⟩⟩⟩
/-! ### The cells of a row -/
theorem flatten_len {sz : Nat} : ∀ {l : List (List Value)}, (∀ v ∈ l, v.length = sz) → l.flatten.length = l.length * sz
  | [], _ => by simp
  | x :: r, hx => by
    have ih := flatten_len (sz := sz) (l := r) (fun v hv => hx v (List.mem_cons_of_mem _ hv))
    rw [List.flatten_cons, List.length_append, List.length_cons, hx x List.mem_cons_self, ih, Nat.add_mul]
    omega
theorem flatten_get {sz : Nat} : ∀ {vss : List (List Value)} {j : Nat} {u : Value}, (∀ v ∈ vss, v.length = sz) → vss.flatten[j]? = some u → ∃ i vs k, vss[i]? = some vs ∧ vs[k]? = some u ∧ j = i * sz + k
  | [], j, u, _, h => by simp at h
  | x :: r, j, u, hl, h => by
    rw [List.flatten_cons] at h
    rcases Nat.lt_or_ge j x.length with hj | hj
    · rw [List.getElem?_append_left hj] at h
      exact ⟨0, x, j, rfl, h, by omega⟩
    · rw [List.getElem?_append_right hj] at h
      obtain ⟨i, vs, k, h1, h2, h3⟩ := flatten_get (fun v hv => hl v (by simp [hv])) h
      have hx := hl x (by simp)
      exact ⟨i + 1, vs, k, by simpa using h1, h2, by rw [Nat.add_mul]; omega⟩
theorem all2_of {α β : Type} {R : α → β → Prop} : ∀ {m : List β}, (∀ (i : Nat) (h : i < m.length), ∃ a, R a m[i]) → ∃ l : List α, All2 R l m
  | [], _ => ⟨[], .nil⟩
  | y :: m, h => by
    obtain ⟨a, ha⟩ := h 0 (by simp)
    obtain ⟨l, hl⟩ := all2_of (m := m) fun i hi => h (i + 1) (by simpa using hi)
    exact ⟨a :: l, .cons ha hl⟩
theorem all2_lens {α : Type} {sz : Nat} {R : List Value → α → Prop} : ∀ {l : List (List Value)} {m : List α}, All2 (fun vs x => vs.length = sz ∧ R vs x) l m → l.length = m.length ∧ ∀ v ∈ l, v.length = sz
  | _, _, .nil => ⟨rfl, by simp⟩
  | _, _, .cons x r => by
    obtain ⟨h1, h2⟩ := all2_lens r
    exact ⟨by simp [h1], by
      intro v hv
      rcases List.mem_cons.1 hv with rfl | hv
      · exact x.1
      · exact h2 v hv⟩
/-- The cells that a row of structs shows. -/
theorem RS.cells {α : Type} {RV : World → (Nat → Prop) → List Value → α → Prop} {sz : Nat} (hlen : ∀ w ok vs x, RV w ok vs x → vs.length = sz) {w : World} {ok : Nat → Prop} {p : Option Addr} {xs : List α} (h : RS sz (ElemC RV) w ok p xs) :
    ∃ vss : List (List Value), vss.flatten.length = xs.length * sz ∧ Src w p vss.flatten ∧ All2 (fun vs x => vs.length = sz ∧ RV w ok vs x) vss xs := by
  have : ∃ vss : List (List Value), All2 (fun vs (ix : Nat × α) => vs.length = sz ∧ RV w ok vs ix.2 ∧ ∀ j u, vs[j]? = some u → ∃ b o, p = some ⟨b, o, none⟩ ∧ w.cell? ⟨b, o + (ix.1 * sz + j), none⟩ = some u) vss ((List.range xs.length).zip xs) := by
    apply all2_of
    intro i hi
    have hi' : i < xs.length := by simpa using hi
    obtain ⟨b, o, hp, hb, _, vs, hv, hc⟩ := h i hi'
    refine ⟨vs, hlen _ _ _ _ (by simpa using hv), by simpa using hv, fun j u hj => ⟨b, o, hp, ?_⟩⟩
    have := hc j u hj
    simp only [List.getElem_zip, List.getElem_range]
    rw [← Nat.add_assoc]; exact this
  obtain ⟨vss, ha⟩ := this
  have hz : ((List.range xs.length).zip xs).map Prod.snd = xs := by
    apply List.ext_getElem <;> simp
  obtain ⟨hl1, hl2⟩ := all2_lens ha
  have hl1' : vss.length = xs.length := by simpa using hl1
  refine ⟨vss, by rw [flatten_len hl2, hl1'], fun j u hj => ?_, ?_⟩
  · obtain ⟨i, vs, k, h1, h2, h3⟩ := flatten_get hl2 hj
    have hi : i < ((List.range xs.length).zip xs).length := by
      have := (List.getElem?_eq_some_iff.1 h1).1
      omega
    obtain ⟨a, g1, g2, g3, g4⟩ := ha.get i hi
    rw [h1] at g1
    injection g1 with g1
    subst g1
    obtain ⟨b, o, hp, hc⟩ := g4 k u h2
    refine ⟨b, o, hp, ?_⟩
    simp only [List.getElem_zip, List.getElem_range] at hc
    rw [h3]; exact hc
  · have key : ∀ {l : List (List Value)} {m : List (Nat × α)}, All2 (fun vs (ix : Nat × α) => vs.length = sz ∧ RV w ok vs ix.2 ∧ ∀ j u, vs[j]? = some u → ∃ b o, p = some ⟨b, o, none⟩ ∧ w.cell? ⟨b, o + (ix.1 * sz + j), none⟩ = some u) l m → All2 (fun vs x => vs.length = sz ∧ RV w ok vs x) l (m.map Prod.snd) := by
      intro l m hh
      induction hh with
      | nil => exact .nil
      | cons x _ ih => exact .cons ⟨x.1, x.2.1⟩ ih
    have := key ha
    rw [hz] at this
    exact this
theorem Own.src {w : World} {base : Nat} {T : TypeId} {sz : Nat} {p : Option Addr} {l c : Nat} {cs : List Value} (h : Own w base T sz p l c cs) : Src w p cs := fun j u hj => by
  rcases h.2 with ⟨e, h0⟩ | ⟨g, cap, cur, e, _⟩
  · have := h.1
    rw [h0, Nat.zero_mul] at this
    rw [List.length_eq_zero_iff.1 this] at hj
    simp at hj
  · injection e with e1 e2 e3
    subst e1
    have hc := h.cells (g := g) rfl j u hj
    rw [add_plain'] at hc
    exact ⟨g, 0, rfl, hc⟩
/-- A row just grown out of its memory: it lies in new memory. -/
theorem append_grow {P : Program} {t e : TypeId} {sz by_ : Nat} (h : SlT P t e sz by_) (ty : TypeId) {w : World} {p : Option Addr} {l c : Nat} {cs : List Value} (hcs : cs.length = l * sz) (ho : Src w p cs)
    {q : Option Addr} {l2 c2 : Nat} {news : List Value} (hl : news.length = l2 * sz) (hs : Src w q news) (hg : c < l + l2) (hpos : 0 < l ∧ 0 < l2) (h63 : l + l2 ≤ maxLen) (hby : (l + l2) * by_ ≤ 140737488355328) :
    ∃ c' w', (Builtin.append_ #[t, t] ty #[.slice p l c, .slice q l2 c2]).run P w = .ok (.slice (some ⟨w.heap.size, 0, none⟩) (l + l2) c') w' ∧ Own w' w.heap.size e sz (some ⟨w.heap.size, 0, none⟩) (l + l2) c' (cs ++ news) ∧ Ext w w' := by
  obtain ⟨ht, i, z, hi, hz, rfl, rfl, h4, h5⟩ := h
  have hsmall : l + l2 ≤ 9223372036854775807 := by simp only [maxLen] at h63; omega
  have hc0 : ∃ x, cs[0]? = some x := by
    have : 0 < cs.length := by rw [hcs]; exact Nat.mul_pos hpos.1 h5
    exact ⟨_, List.getElem?_eq_getElem this⟩
  have hn0 : ∃ x, news[0]? = some x := by
    have : 0 < news.length := by rw [hl]; exact Nat.mul_pos hpos.2 h5
    exact ⟨_, List.getElem?_eq_getElem this⟩
  obtain ⟨b, o, rfl, _⟩ := ho 0 _ hc0.choose_spec
  obtain ⟨b2, o2, rfl, _⟩ := hs 0 _ hn0.choose_spec
  have src : ∀ {b o : Nat} {cs : List Value}, Src w (some ⟨b, o, none⟩) cs → ∀ j u, cs[j]? = some u → w.cell? ((⟨b, o, none⟩ : Addr).add j) = some u := fun hs j u hj => by
    obtain ⟨b', o', e', hc⟩ := hs j u hj
    injection e' with e'
    injection e' with e1 e2
    subst e1 e2
    rw [add_plain']; exact hc
  have hr := run_append_grow (P := P) w t ty e i z ht hi hz ⟨b, o, none⟩ l c cs hcs (src ho) ⟨b2, o2, none⟩ l2 c2 news hl (src hs) (by omega) (by omega) (growslice_fits (by omega) hby)
  have hlen : (cs ++ news).length = (l + l2) * i.size := by rw [List.length_append, hcs, hl, Nat.add_mul]
  have hge := grownCap_ge w (l + l2) c e
  have hcm : grownCap w (l + l2) c e ≤ maxLen := grownCap_le_maxLen w (l + l2) c e h63
  refine ⟨_, _, hr, ⟨hlen, .inr ⟨w.heap.size, _, _, rfl, Nat.le_refl _, heap_alloc_new w.drew _, hge, hcm, ?_, ?_⟩⟩, ⟨rfl, rfl, rfl, by simp, fun k hk _ => heap_alloc_old w.drew _ hk⟩⟩
  · simp only [Array.size_append, List.size_toArray, size_zeroCells, h4, hcs, hl, ← Nat.add_mul]
    congr 1
    omega
  · simp only [Array.toList_append, List.append_assoc]
    rw [← List.append_assoc, ← hlen]
    exact List.take_left
/-- A row of structs just appended to an own one. -/
theorem OwnL.join {α : Type} {RV : World → (Nat → Prop) → List Value → α → Prop} (hs : StableV RV) (hw : WidensV RV) (h1 : ∀ w ok vs x, RV w ok vs x → ∀ u ∈ vs, u.oneCell' = true) {P : Program} {t e : TypeId} {sz by_ : Nat} (ht : SlT P t e sz by_) (ty : TypeId)
    {w : World} {base base2 : Nat} {p q : Option Addr} {l c m d : Nat} {xs ys : List α} (h : OwnL RV w base e sz p l c xs) (k : OwnL RV w base2 e sz q m d ys) (hb : base ≤ base2) (hp : ∀ a, p = some a → a.block < base2)
    (h63 : l + m ≤ maxLen) (hby : (l + m) * by_ ≤ 140737488355328) (hbase : base ≤ w.heap.size) :
    ∃ p' c' w', (Builtin.append_ #[t, t] ty #[.slice p l c, .slice q m d]).run P w = .ok (.slice p' (l + m) c') w' ∧ OwnL RV w' base e sz p' (l + m) c' (xs ++ ys) ∧
      Upd (fun k => ∃ a, p = some a ∧ a.block = k) w w' := by
  obtain ⟨vss, ho, ha⟩ := h
  obtain ⟨uss, ko, ka⟩ := k
  obtain ⟨p', c', w', hr, ho', hu, hat⟩ := append_own ht ty ho (p2 := q) (l2 := m) (c2 := d) (news := uss.flatten) ko.1 ko.src (by
    intro u hu
    obtain ⟨vs, hvs, hu⟩ := List.mem_flatten.1 hu
    have : ∀ {l : List (List Value)} {m : List α}, All2 (fun vs x => vs.length = sz ∧ RV w (Inner w base2 q) vs x) l m → ∀ vs ∈ l, ∃ x, RV w (Inner w base2 q) vs x := by
      intro l m hh
      induction hh with
      | nil => intro vs h; simp at h
      | cons x _ ih =>
        intro vs h
        rcases List.mem_cons.1 h with rfl | h
        · exact ⟨_, x.2⟩
        · exact ih vs h
    obtain ⟨x, hx⟩ := this ka vs hvs
    exact h1 _ _ _ _ hx u hu) h63 hby hbase
  have key : ∀ (vs' : List Value) (x' : α) (ok : Nat → Prop), (∀ g, ok g → base ≤ g ∧ g < w.heap.size ∧ ∀ a, p = some a → a.block ≠ g) → RV w ok vs' x' → RV w' (Inner w' base p') vs' x' := fun vs' x' ok hok h' => by
    have h2 := hs _ _ _ _ _ _ hu (fun k hk ⟨a, e1, e2⟩ => (hok k hk).2.2 a e1 e2) h'
    refine hw _ _ _ _ _ (fun k _ hk => ?_) h2
    obtain ⟨a1, a2, a3⟩ := hok k hk
    refine ⟨a1, Nat.lt_of_lt_of_le a2 hu.size, fun a' e' hk => ?_⟩
    rcases hat a' e' with ⟨a, e1, e2⟩ | e2
    · exact a3 a e1 (e2.trans hk)
    · omega
  refine ⟨p', c', w', hr, ⟨vss ++ uss, by simpa using ho', All2.append (ha.imp fun vs' x' ⟨a1, a2⟩ => ⟨a1, key _ _ _ (fun g hg => hg) a2⟩) (ka.imp fun vs' x' ⟨a1, a2⟩ => ⟨a1, key _ _ _ (fun g ⟨g1, g2, _⟩ => ⟨by omega, g2, fun a ea => by have := hp a ea; omega⟩) a2⟩)⟩, hu⟩
/-! ### A history -/
/-- A history's nodes, and the current one; in blocks of which A holds. -/
structure Hs (w : World) (A : Nat → Prop) (b : Nat) (ns : List Nd) (cur : Nat) : Prop where
  row : ∃ p c, ns.length ≤ c ∧ w.cell? ⟨b, 0, none⟩ = some (.slice p ns.length c) ∧ Nodes w (fun k => A k ∧ k ≠ b) p ns
  at1 : w.cell? ⟨b, 1, none⟩ = some (.int .i64 cur)
  can0 : CanStore w b 0
  can1 : CanStore w b 1
  mem : A b
  lt : ∀ k, A k → k < w.heap.size
theorem Hs.upd {w w' : World} {A T : Nat → Prop} {b : Nat} {ns : List Nd} {cur : Nat} (h : Hs w A b ns cur) (hu : Upd T w w') (ht : ∀ k, A k → ¬ T k) : Hs w' A b ns cur := by
  obtain ⟨p, c, h1, h2, h3⟩ := h.row
  exact ⟨⟨p, c, h1, hu.cell (ht _ h.mem) h2, h3.upd hu fun k hk => ht k hk.1⟩, hu.cell (ht _ h.mem) h.at1, hu.can (ht _ h.mem) h.can0, hu.can (ht _ h.mem) h.can1, h.mem, fun k hk => Nat.lt_of_lt_of_le (h.lt k hk) hu.size⟩
theorem Hs.ext {w w' : World} {A : Nat → Prop} {b : Nat} {ns : List Nd} {cur : Nat} (h : Hs w A b ns cur) (hu : Ext w w') : Hs w' A b ns cur := h.upd hu fun _ _ => id
/-- A history whose row may be appended to. -/
structure Ms (N : TypeId) (w : World) (B : Nat → Prop) (b : Nat) (ns : List Nd) (cur : Nat) : Prop where
  row : ∃ p c vss, w.cell? ⟨b, 0, none⟩ = some (.slice p ns.length c) ∧ Own w 0 N 3 p ns.length c vss.flatten ∧
    All2 (fun vs x => vs.length = 3 ∧ NodeV w (fun k => B k ∧ k ≠ b ∧ ∀ a, p = some a → a.block ≠ k) vs x) vss ns ∧ ∀ a, p = some a → B a.block ∧ a.block ≠ b
  at1 : w.cell? ⟨b, 1, none⟩ = some (.int .i64 cur)
  can0 : CanStore w b 0
  can1 : CanStore w b 1
  mem : B b
  lt : ∀ k, B k → k < w.heap.size
theorem Ms.upd {N : TypeId} {w w' : World} {A T : Nat → Prop} {b : Nat} {ns : List Nd} {cur : Nat} (h : Ms N w A b ns cur) (hu : Upd T w w') (ht : ∀ k, A k → ¬ T k) : Ms N w' A b ns cur := by
  obtain ⟨p, c, vss, h1, h2, h3, h4⟩ := h.row
  exact ⟨⟨p, c, vss, hu.cell (ht _ h.mem) h1, h2.upd hu fun a ha => ht _ (h4 a ha).1, h3.imp fun vs x ⟨q1, q2⟩ => ⟨q1, NodeV.stable _ _ _ _ _ _ hu (fun k hk => ht k hk.1) q2⟩, h4⟩, hu.cell (ht _ h.mem) h.at1, hu.can (ht _ h.mem) h.can0, hu.can (ht _ h.mem) h.can1, h.mem, fun k hk => Nat.lt_of_lt_of_le (h.lt k hk) hu.size⟩
theorem Ms.ext {N : TypeId} {w w' : World} {A : Nat → Prop} {b : Nat} {ns : List Nd} {cur : Nat} (h : Ms N w A b ns cur) (hu : Ext w w') : Ms N w' A b ns cur := h.upd hu fun _ _ => id
theorem Ms.hs {N : TypeId} {w : World} {A : Nat → Prop} {b : Nat} {ns : List Nd} {cur : Nat} (h : Ms N w A b ns cur) : Hs w A b ns cur := by
  obtain ⟨p, c, vss, h1, h2, h3, h4⟩ := h.row
  refine ⟨⟨p, c, h2.cap.1, h1, ?_⟩, h.at1, h.can0, h.can1, h.mem, h.lt⟩
  have hall : All2 (fun vs x => vs.length = 3 ∧ NodeV w (fun k => A k ∧ k ≠ b) vs x) vss ns := h3.imp fun vs x ⟨q1, q2⟩ => ⟨q1, NodeV.widens _ _ _ _ _ (fun k _ hk => ⟨hk.1, hk.2.1⟩) q2⟩
  intro i hi
  rcases h2.2 with ⟨e, h0⟩ | ⟨g, cap, cur', e, _, hh, _⟩
  · omega
  · injection e with e1 e2 e3
    subst e1
    obtain ⟨hl1, hl2⟩ := all2_lens hall
    obtain ⟨vs, g1, g2, g3⟩ := hall.get i hi
    refine ⟨g, 0, rfl, h4 _ rfl, (Array.getElem?_eq_some_iff.1 hh).1, vs, g3, fun j v hj => ?_⟩
    have hc := h2.cells (g := g) rfl (i * 3 + j) v (flatten_at hl2 g1 j v hj)
    rw [add_plain'] at hc
    rw [show 0 + i * 3 + j = 0 + (i * 3 + j) by omega]
    exact hc
end Go.Vc
