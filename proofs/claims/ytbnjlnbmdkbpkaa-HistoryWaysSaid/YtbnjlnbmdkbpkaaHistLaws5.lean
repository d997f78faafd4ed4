/-
  Histories: the statements' functions answer true: one text at each node.
-/
import Derived.Test.YtbnjlnbmdkbpkaaHistLaws4
import Derived.Test.YtbnjlnbmdkbpkaaEditCalls3
namespace Go.Vc
open Go.RowKit
theorem allE_append' (xs : List Int) (a b : List E) : allE xs (a ++ b) = (allE xs a).bind (fun c => allE c b) := by
  induction a generalizing xs with
  | nil => rfl
  | cons e r ih =>
    rw [List.cons_append, allE, allE]
    cases applyE xs e with
    | none => rfl
    | some c => exact ih c
theorem applyE_back' {xs ys : List Int} {e : E} (h : applyE xs e = some ys) : applyE ys (turn1 e) = some xs := by
  unfold applyE at h
  split at h
  · rename_i hc
    obtain ⟨h1, h2, h3⟩ := hc
    injection h with h
    have hl : e.at_.toNat ≤ xs.length := by omega
    have hlo : e.at_.toNat + e.old.length ≤ xs.length := by
      have := congrArg List.length h3
      rw [List.length_take, List.length_drop] at this
      omega
    have hta : (xs.take e.at_.toNat).length = e.at_.toNat := by rw [List.length_take]; omega
    unfold applyE turn1
    simp only
    subst h
    have hd : (xs.take e.at_.toNat ++ e.new ++ xs.drop (e.at_.toNat + e.old.length)).drop e.at_.toNat = e.new ++ xs.drop (e.at_.toNat + e.old.length) := by
      rw [List.append_assoc]; exact List.drop_left' hta
    have ht : (xs.take e.at_.toNat ++ e.new ++ xs.drop (e.at_.toNat + e.old.length)).take e.at_.toNat = xs.take e.at_.toNat := by
      rw [List.append_assoc]; exact List.take_left' hta
    have hd2 : (xs.take e.at_.toNat ++ e.new ++ xs.drop (e.at_.toNat + e.old.length)).drop (e.at_.toNat + e.new.length) = xs.drop (e.at_.toNat + e.old.length) := by
      exact List.drop_left' (by rw [List.length_append, hta])
    rw [if_pos ⟨h1, by rw [List.length_append, List.length_append, hta]; omega, by rw [hd]; exact List.take_left' rfl⟩, ht, hd2]
    congr 1
    conv => rhs; rw [← List.take_append_drop e.at_.toNat xs]
    rw [List.append_assoc]
    congr 1
    conv => rhs; rw [← List.take_append_drop e.old.length (xs.drop e.at_.toNat)]
    rw [h3, List.drop_drop]
  · cases h
theorem allE_back' : ∀ {es : List E} {xs ys : List Int}, allE xs es = some ys → allE ys (turnE es) = some xs
  | [], xs, ys, h => by injection h with h; rw [h]; rfl
  | e :: r, xs, ys, h => by
    rw [allE] at h
    cases ha : applyE xs e with
    | none => rw [ha] at h; cases h
    | some c =>
      rw [ha] at h
      have ih := allE_back' (es := r) h
      have ht : turnE (e :: r) = turnE r ++ [turn1 e] := by unfold turnE; simp
      rw [ht, allE_append', ih]
      show allE c [turn1 e] = some xs
      rw [allE, applyE_back' ha]; rfl
/-- Bytes in memory, as one cell. -/
def BytesV (w : World) (ok : Nat → Prop) (vs : List Value) (xs : List Int) : Prop := ∃ p c, vs = [.slice p xs.length c] ∧ xs.length ≤ c ∧ Ints .u8 w ok p xs
theorem BytesV.stable : StableV BytesV := fun _ _ _ _ _ _ hu ht ⟨p, c, h1, h2, h3⟩ => ⟨p, c, h1, h2, h3.upd hu ht⟩
theorem BytesV.widens : WidensV BytesV := fun _ _ _ _ _ hok ⟨p, c, h1, h2, h3⟩ => ⟨p, c, h1, h2, h3.ok hok⟩
theorem BytesV.one {w : World} {ok : Nat → Prop} {vs : List Value} {xs : List Int} (h : BytesV w ok vs xs) : ∀ u ∈ vs, u.oneCell' = true := by obtain ⟨p, c, rfl, _⟩ := h; simp [Value.oneCell']
/-- The texts at the nodes go with the nodes' edits. -/
def treeT (ns : List Nd) (T : List (List Int)) : Prop := ∀ i, i ≠ 0 → i < ns.length → allE (T.getD (paF ns i) []) (ns.getD i rootN).es = some (T.getD i [])
theorem tree_way {ns : List Nd} {T : List (List Int)} (ok : okL ns) (h : treeT ns T) : ∀ (a b : Nat), a < ns.length → b < ns.length → allE (T.getD a []) (stepsE ns (wayF (paF ns) a b)) = some (T.getD b [])
  | a, b, ha, hb => by
    rcases Nat.lt_trichotomy a b with h1 | rfl | h1
    · have hp := paF_lt ok b (by omega)
      rw [way_down h1 hp, stepsE_snoc, allE_append', tree_way ok h a (paF ns b) ha (by omega)]
      exact h b (by omega) hb
    · rw [way_same]; rfl
    · have hp := paF_lt ok a (by omega)
      rw [way_up h1 hp]
      have e : stepsE ns ((a, false) :: wayF (paF ns) (paF ns a) b) = turnE (ns.getD a rootN).es ++ stepsE ns (wayF (paF ns) (paF ns a) b) := rfl
      rw [e, allE_append', allE_back' (h a (by omega) ha)]
      exact tree_way ok h (paF ns a) b (by omega) hb
termination_by a b => a + b
/-- Nodes of one small edit. -/
def Ones (ns : List Nd) : Prop := ∀ n ∈ ns, n.es.length ≤ 1 ∧ ∀ e ∈ n.es, e.old.length ≤ 1000 ∧ e.new.length ≤ 1000
end Go.Vc
namespace Go.Proofs.Ytbnjlnbmdkbpkaa
open Go.RowKit Go.Vc
theorem slBB : SlT Try.prog 67 41 1 24 := ⟨Try.underlying67, _, _, rfl, rfl, rfl, rfl, rfl, by decide⟩
theorem ones_at {ns : List Nd} (h : Ones ns) (k : Nat) : (ns.getD k rootN).es.length ≤ 1 ∧ ∀ e ∈ (ns.getD k rootN).es, e.old.length ≤ 1000 ∧ e.new.length ≤ 1000 := by
  rcases Nat.lt_or_ge k ns.length with hk | hk
  · rw [getD_at hk]; exact h _ (List.getElem_mem hk)
  · rw [List.getD_eq_getElem?_getD, List.getElem?_eq_none hk]
    exact ⟨by decide, fun e he => nomatch he⟩
theorem ones_step {ns : List Nd} (h : Ones ns) (s : Nat × Bool) : (stepE ns s).length ≤ 1 ∧ ∀ e ∈ stepE ns s, e.old.length ≤ 1000 ∧ e.new.length ≤ 1000 := by
  have h1 := ones_at h s.1
  unfold stepE
  split
  · exact h1
  · refine ⟨by rw [turnE_len]; exact h1.1, fun e he => ?_⟩
    unfold turnE at he
    rw [List.mem_reverse] at he
    obtain ⟨e', he', rfl⟩ := List.mem_map.1 he
    exact ⟨(h1.2 e' he').2, (h1.2 e' he').1⟩
theorem ones_steps {ns : List Nd} (h : Ones ns) : ∀ d : List (Nat × Bool), (stepsE ns d).length ≤ d.length ∧ ∀ e ∈ stepsE ns d, e.old.length ≤ 1000 ∧ e.new.length ≤ 1000
  | [] => ⟨Nat.le_refl _, fun e he => nomatch he⟩
  | s :: d => by
    have e : stepsE ns (s :: d) = stepE ns s ++ stepsE ns d := rfl
    have h1 := ones_step h s
    have h2 := ones_steps h d
    rw [e, List.length_append, List.length_cons]
    refine ⟨by omega, fun x hx => ?_⟩
    rcases List.mem_append.1 hx with hx | hx
    · exact h1.2 x hx
    · exact h2.2 x hx
theorem few_of {es : List E} (h : es.length ≤ 10000) (h2 : ∀ e ∈ es, e.old.length ≤ 1000 ∧ e.new.length ≤ 1000) : FewE es := ⟨h, fun e he => by have := h2 e he; omega⟩
section
variable {w : World} {ok : Nat → Prop} {p : Option Addr} {ds : List Dd}
/-- What is not the history's, of what the call has made. -/
def RestA (w0 : World) (A : Nat → Prop) (k : Nat) : Prop := w0.heap.size ≤ k ∧ ¬ A k
/-- The history, the texts at its nodes, the bytes now, and the edits that lead on to the current node's text. -/
structure WI (w0 wl : World) (b : Nat) (ns : List Nd) (cur bd : Nat) (T : List (List Int)) (xs : List Int) (es : List E) (p0 : Option Addr) (c0 : Nat) (p6 : Option Addr) (c6 : Nat) (A : Nat → Prop) : Prop where
  hs : Hs wl A b ns cur
  hA : ∀ k, A k → w0.heap.size ≤ k
  okn : okL ns
  ones : Ones ns
  pos : 0 < ns.length
  len : ns.length ≤ bd
  hcur : cur < ns.length
  ext : Ext w0 wl
  tlen : T.length = ns.length
  tree : treeT ns T
  few : ∀ t ∈ T, t.length ≤ 300 + 2 * bd
  row : OwnR BytesV wl (RestA w0 A) 41 1 p6 T.length c6 T
  lead : allE xs es = some (T.getD cur [])
  xlen : xs.length ≤ 300 + 2 * bd
  now : Ints .u8 wl (fun k => RestA w0 A k ∧ k < wl.heap.size ∧ ∀ a, p6 = some a → a.block ≠ k) p0 xs
  cap : xs.length ≤ c0
theorem ones_mods {ns : List Nd} (h : Ones ns) : Mods ns := fun n hn => ⟨by have := (h n hn).1; omega, fun e he => by have := (h n hn).2 e he; omega⟩
theorem ones_small {ns : List Nd} (h : Ones ns) : ∀ n ∈ ns, n.es.length ≤ 10000 := fun n hn => by have := (h n hn).1; omega
/-- After the history has gone on by edits. -/
theorem WI.went {w0 wl w1 : World} {b cur bd : Nat} {ns : List Nd} {T : List (List Int)} {xs : List Int} {p0 : Option Addr} {c0 : Nat} {p6 : Option Addr} {c6 : Nat} {A : Nat → Prop} (h : WI w0 wl b ns cur bd T xs [] p0 c0 p6 c6 A)
    {cur' : Nat} {es : List E} (hs : Hs w1 A b ns cur') (hu : Upd (fun k => k = b) wl w1) (hc : cur' < ns.length) (hl : allE (T.getD cur []) es = some (T.getD cur' [])) (bd' : Nat) (hb : bd ≤ bd') : WI w0 w1 b ns cur' bd' T xs es p0 c0 p6 c6 A := by
  have nb : ∀ k, RestA w0 A k → ¬ k = b := fun k hk e => hk.2 (e ▸ h.hs.mem)
  have hx : xs = T.getD cur [] := by have := h.lead; injection this
  exact ⟨hs, h.hA, h.okn, h.ones, h.pos, by have := h.len; omega, hc, ext_upd h.ext (h.hA b h.hs.mem) hu, h.tlen, h.tree, fun t ht => by have := h.few t ht; omega, h.row.upd BytesV.stable hu nb, by rw [hx]; exact hl, by have := h.xlen; omega, (h.now.upd hu fun k hk => nb k hk.1).ok fun k _ hk => ⟨hk.1, Nat.lt_of_lt_of_le hk.2.1 hu.size, hk.2.2⟩, h.cap⟩
theorem ways_law {q : Option Addr} {ok' : Nat → Prop} {bs : List Int} (hb : Ints .u8 w ok' q bs) {lb : Nat} (hlb : lb = bs.length) (cb : Nat) (hcb : lb ≤ cb) (hx : Deeds w ok p ds) {l : Nat} (hl : l = ds.length) (c : Nat) (hs : ds.length ≤ 9223372036854775807) :
    Does Try.prog 7 #[.slice q lb cb, .slice p l c] w (Holds w) := by
  subst hl hlb
  apply f7_does
  refine awake_does.imp ?_
  rintro e w17 ⟨rfl, x17⟩
  refine ⟨_, rfl, fls rfl (brr (fun _ => ⟨rfl, x17⟩) fun j3 => ?_)⟩
  have j3 := of_decide_eq_false j3
  refine (roomd_does (hx.ext x17) rfl c 60 hs).imp ?_
  rintro e w24 ⟨rfl, bo, rfl, hbo⟩
  refine ⟨_, rfl, brr (fun _ => ⟨rfl, x17⟩) fun j => ?_⟩
  obtain ⟨h60, hsm⟩ := hbo (by simpa using j)
  refine new_does.imp ?_
  rintro e w27 ⟨b, rfl, hM, x27⟩
  have hxx := hx.ext x17
  refine ⟨_, rfl, fls rfl ((copy_does (hb.ext (Ext.thn x17 x27)) rfl cb (by omega)).imp ?_)⟩
  rintro e w31 ⟨p31, c31, rfl, o31, x31⟩
  have i31 := o31.ints hb.inK
  refine ⟨_, _, _, rfl, (copy_does i31 rfl c31 (by omega)).imp ?_⟩
  rintro e w33 ⟨p33, c33, rfl, o33, x33⟩
  refine ⟨_, _, _, rfl, fun b34 w34 hb34 => ?_⟩
  have e34 := hb34.eq
  have s34 := hb34.size
  have s27 := x27.size
  have s31 := x31.size
  have s33 := x33.size
  have i33 := (o33.ints hb.inK).ext hb34.ext
  have W34 : WI w24 w34 b [rootN] 0 1 [bs] bs [] p31 c31 (some ⟨b34, 0, none⟩) 1 (fun k => w24.heap.size ≤ k ∧ k < w27.heap.size) := by
    refine ⟨hM.hs.ext (Ext.thn x31 (Ext.thn x33 hb34.ext)), fun k hk => hk.1, okL_root, fun n hn => by rw [List.mem_singleton.1 hn]; exact ⟨Nat.zero_le _, fun e he => nomatch he⟩, by decide, by decide, by decide, Ext.thn x27 (Ext.thn x31 (Ext.thn x33 hb34.ext)), rfl, fun i h0 hi => by simp at hi; omega, fun t ht => by rw [List.mem_singleton.1 ht]; omega, ?_, rfl, by omega, ?_, o31.cap.1⟩
    · refine ⟨[[.slice p33 bs.length c33]], ⟨rfl, .inr ⟨b34, 1, _, rfl, Nat.zero_le _, hb34.heap, Nat.le_refl 1, by decide, rfl, rfl⟩⟩, .cons ⟨rfl, p33, c33, rfl, o33.cap.1, i33.ok fun k _ hk => ⟨⟨by omega, by omega⟩, fun a ha e => ?_⟩⟩ .nil, fun a ha => ?_⟩
      · injection ha with ha
        subst ha
        have e : b34 = k := e
        have := hk.2
        omega
      · injection ha with ha
        subst ha
        exact ⟨by show _ ≤ b34; omega, by show ¬ (_ ≤ b34 ∧ b34 < _); omega⟩
    · refine ((i31.ext x33).ext hb34.ext).ok fun k _ hk => ⟨⟨by omega, by omega⟩, by omega, fun a ha e => ?_⟩
      injection ha with ha
      subst ha
      have e : b34 = k := e
      omega
  refine ⟨fun p0 l0 c0 p6 l6 c6 x n wl => ∃ (k : Nat) (ns : List Nd) (cur : Nat) (T : List (List Int)) (xs : List Int) (A : Nat → Prop), x = k ∧ n = ds.length - k ∧ k ≤ ds.length ∧ l0 = xs.length ∧ l6 = T.length ∧ WI w24 wl b ns cur (k + 1) T xs [] p0 c0 p6 c6 A,
    ⟨_, 0, _, _, _, _, _, rfl, rfl, Nat.zero_le _, rfl, rfl, W34⟩, ?_⟩
  rintro p0 _ c0 p6 _ c6 _ _ wl ⟨k, ns, cur, T, xs, A, rfl, rfl, hk, rfl, rfl, W⟩
  refine brr (fun jj => ?_) fun jj => ⟨rfl, Ext.thn x17 W.ext⟩
  have jj := of_decide_eq_true jj
  have hkl : k < ds.length := by omega
  obtain ⟨bb, o, p1, c1, hp, a0, a1, a2, a3, i0, i1, i2, i3, a4, i5⟩ := (hxx.ext W.ext).at k hkl
  refine ⟨⟨by omega, by omega⟩, bb, o, hp, _, a0, _, a1, _, a2, _, _, _, a3, fun b8 w8 hb8 => fill4 hb8 fun w7 hb7 => ?_⟩
  have hxT : xs = T.getD cur [] := by have := W.lead; injection this
  have hlen := W.len
  have hpos := W.pos
  have hxl := W.xlen
  have x7 := hb7.ext
  have g7 := W.hs.ext x7
  have noe : Upd (fun k => k = b) wl w7 := Upd.mono x7 fun k _ e => e.elim
  -- what the steps come to
  refine ⟨fun p0 l0 c0 p6 l6 c6 p9 l9 c9 _ wc => ∃ (ns : List Nd) (cur : Nat) (T : List (List Int)) (xs : List Int) (es : List E) (A : Nat → Prop) (ok : Nat → Prop), l0 = xs.length ∧ l6 = T.length ∧ l9 = es.length ∧ FewE es ∧ Edits wc ok p9 es ∧ WI w24 wc b ns cur (k + 2) T xs es p0 c0 p6 c6 A, ⟨_, hb7.cell 0 rfl, brr (fun _ => ⟨_, hb7.cell 1 rfl, ?_⟩) fun _ => ⟨_, hb7.cell 0 rfl, brr (fun _ => ?_) fun _ => ⟨_, hb7.cell 0 rfl, brr (fun _ => ?_) fun _ wd hd => ?_⟩⟩⟩, ?_⟩
  · -- Add
    refine ⟨fun x _ wv => 0 ≤ x ∧ x ≤ xs.length ∧ wv = w7, brr (fun _ => ⟨inI64 (by omega) (by omega), by omega, 0, ?_⟩) fun _ => ⟨0, by omega, by omega, rfl⟩, ?_⟩
    · have hand := and_bound ds[k].n 255 (by decide)
      have htm := tmod_bound (n := xs.length + 1) hand.1 (by omega)
      have e1 : ((xs.length + 1 : Nat) : Int) = (xs.length : Int) + 1 := by omega
      have e2 : (((255 : Nat) : Nat) : Int) = 255 := rfl
      rw [e1, e2] at htm
      exact ⟨htm.1, by omega, rfl⟩
    rintro x10 _ _ ⟨hx0, hx1, rfl⟩
    have hand3 := and_bound ds[k].cur 3 (by decide)
    have e3 : (((3 : Nat) : Nat) : Int) = 3 := rfl
    rw [e3] at hand3
    refine ⟨_, hb7.cell 2 rfl, ?_⟩
    generalize hnn : (if (xs.length : Int) - x10 < bits .and .i64 ds[k].cur 3 then (xs.length : Int) - x10 else bits .and .i64 ds[k].cur 3) = nn
    have hn0 : 0 ≤ nn ∧ nn ≤ 3 ∧ x10 + nn ≤ xs.length := by
      rw [← hnn]
      split <;> omega
    have hcap := W.cap
    refine ⟨inI64 (by omega) (by omega), inI64 (by omega) (by omega), ⟨by omega, by omega⟩, ⟨by omega, by omega⟩, ?_⟩
    have hsub := RS.sub (sz := 1) (W.now.ext x7) x10.toNat (x10 + nn).toNat c0 (by omega)
    have hol : ((xs.take (x10 + nn).toNat).drop x10.toNat).length = (x10 + nn).toNat - x10.toNat := by rw [List.length_drop, List.length_take]; omega
    refine (copy_does hsub hol.symm _ (by omega)).imp ?_
    rintro e w87 ⟨p87, c87, rfl, o87, x87⟩
    have hold : ∀ z ∈ (xs.take (x10 + nn).toNat).drop x10.toNat, InK .u8 z := fun z hz => W.now.inK _ (List.mem_of_mem_take (List.mem_of_mem_drop hz))
    have h20 : 0 ≤ (k : Int).tmod 20 ∧ (k : Int).tmod 20 < 20 := tmod_bound (n := 20) (by omega) (by omega)
    refine ⟨_, _, _, rfl, by decide, inI64 (by omega) (by omega), fun b92 w92 hb92 b94 w94 hb94 => ?_⟩
    have k1 : InK .u8 (97 + (k : Int).tmod 20) := ⟨by show (0 : Int) ≤ _; omega, by show _ ≤ (255 : Int); omega⟩
    rw [wrap_in k1] at hb92
    have i92 := hb92.ints (k := .u8) [97 + (k : Int).tmod 20, 120] rfl (by
      intro z hz
      simp at hz
      rcases hz with rfl | rfl
      · exact k1
      · decide)
    obtain ⟨ed, he1, he2, he3⟩ : ∃ ed : E, ed.at_ = x10 ∧ ed.old = (xs.take (x10 + nn).toNat).drop x10.toNat ∧ ed.new = [97 + (k : Int).tmod 20, 120] := ⟨⟨_, _, _⟩, rfl, rfl, rfl⟩
    have hol' : ed.old.length = (x10 + nn).toNat - x10.toNat := by rw [he2]; exact hol
    have hnl : ed.new.length = 2 := by rw [he3]; rfl
    have hE : Edits w94 (fun _ => True) (some ⟨b94, 0, none⟩) [ed] := hb94.rs1 trivial ⟨p87, c87, some ⟨b92, 0, none⟩, 2, by rw [he1, hol', hnl], by rw [he1]; exact inI64 (by omega) (by omega), by rw [hol']; exact o87.cap.1, by rw [he2]; exact ((o87.ints hold).ext (Ext.thn hb92.ext hb94.ext)).any, by rw [hnl]; exact Nat.le_refl _, by rw [he3]; exact (i92.ext hb94.ext).any⟩
    have x94 : Ext wl w94 := Ext.thn x7 (Ext.thn x87 (Ext.thn hb92.ext hb94.ext))
    have hfew : FewE [ed] := few_of (by simp) fun e he => by
      rw [List.mem_singleton.1 he]
      exact ⟨by rw [hol']; omega, by rw [hnl]; omega⟩
    have happ : ∃ ys, applyE xs ed = some ys := by
      refine ⟨_, if_pos ⟨by rw [he1]; exact hx0, by rw [he1]; exact hx1, ?_⟩⟩
      rw [he1, hol', he2, List.drop_take]
    obtain ⟨ys, hys⟩ := happ
    have hall : allE xs [ed] = some ys := by rw [allE, hys]; rfl
    refine (all_does (W.now.ext x94) hE (by omega) hfew rfl rfl c0 1).imp ?_
    rintro e w98 ⟨x98, hr98⟩
    rw [hall] at hr98
    obtain ⟨p98, c98, rfl, o98, hyk, _⟩ := hr98
    have hyl := applyE_len hys
    have hyb : ys.length ≤ 1000 := by
      have hk60 : k < 60 := by omega
      have aux : ∀ (a b c d k : Nat), a + b = c + d → d = 2 → c ≤ 300 + 2 * (k + 1) → k < 60 → a ≤ 1000 := by intros; omega
      exact aux _ _ _ _ _ hyl hnl hxl hk60
    have x98' := Ext.thn x94 x98
    have hmod : Mod [ed] := ⟨by simp, fun e he => by have := hfew.2 e he; omega⟩
    refine ⟨_, _, _, _, rfl, fls rfl ((add_does (W.hs.ext x98') W.pos W.hcur (by omega) (hE.ext x98) rfl 1 hmod 0 (by decide)).imp ?_)⟩
    rintro e w105 (⟨hno, _⟩ | ⟨hok, rfl, u105, hA'⟩)
    · exact (hno ⟨by simp, by decide, by omega⟩).elim
    have nb98 : ∀ a, p98 = some a → ¬ a.block = b := fun a ha e => by have := (o98.base ha).1; have := W.hs.lt b W.hs.mem; have := x94.size; omega
    have o98' := o98.upd u105 nb98
    have i98 := (o98.ints hyk).upd u105 fun g hg e => by have := W.hs.lt b W.hs.mem; have := x94.size; have e : g = b := e; omega
    refine ⟨_, _, rfl, (copy_does i98 rfl c98 (Nat.le_trans hyb (by decide))).imp ?_⟩
    rintro e w109 ⟨p109, c109, rfl, o109, x109⟩
    refine ⟨_, _, _, rfl, fun b110 w110 hb110 => ?_⟩
    have s98 := x98'.size
    have s105 := u105.size
    have s109 := x109.size
    have e110 := hb110.eq
    have s110 := hb110.size
    have hRb : ∀ k, RestA w24 A k → ¬ k = b := fun k hk e => hk.2 (e ▸ W.hs.mem)
    have row110 : OwnR BytesV w110 (RestA w24 A) 41 1 p6 T.length c6 T := (((W.row.upd BytesV.stable x98' fun _ _ => id).upd BytesV.stable u105 hRb).upd BytesV.stable x109 fun _ _ => id).upd BytesV.stable hb110.ext fun _ _ => id
    have one110 : OwnL BytesV w110 w105.heap.size 41 1 (some ⟨b110, 0, none⟩) 1 1 [ys] := by
      refine ⟨[[.slice p109 ys.length c109]], ⟨rfl, .inr ⟨b110, 1, _, rfl, by omega, hb110.heap, by decide, by decide, rfl, rfl⟩⟩, .cons ⟨rfl, p109, c109, rfl, o109.cap.1, ((o109.ints hyk).ext hb110.ext).ok fun g _ hg => ⟨hg.1, by omega, fun a ha e => ?_⟩⟩ .nil⟩
      injection ha with ha
      subst ha
      have e : b110 = g := e
      omega
    have hp6 : ∀ a, p6 = some a → a.block < wl.heap.size ∧ RestA w24 A a.block := fun a ha => by
      obtain ⟨vss, ho, _, hR⟩ := W.row
      exact ⟨(ho.base ha).2, hR a ha⟩
    have hTl := W.tlen
    obtain ⟨p111, c111, w111, hr, row111, u111⟩ := OwnR.join BytesV.stable BytesV.widens (fun _ _ _ _ h => BytesV.one h) slBB 67 row110 one110 (fun a ha => by have := (hp6 a ha).1; omega) (by omega) (by simp only [maxLen]; omega) (by omega)
    have s111 := u111.size
    have nA : ∀ k, (A k ∨ w98.heap.size ≤ k ∧ k < w105.heap.size) → ¬ ∃ a, p6 = some a ∧ a.block = k := fun k hk ⟨a, ha, e⟩ => by
      have h6 := hp6 a ha
      rw [e] at h6
      rcases hk with hk | hk
      · exact h6.2.2 hk
      · omega
    have hs111 := ((hA'.ext x109).ext hb110.ext).upd u111 nA
    have szW := W.ext.size
    refine ⟨p111, _, c111, w111, hr, 0, ns ++ [newN cur [ed] 0], ns.length, T ++ [ys], ys, [], fun k => A k ∨ w98.heap.size ≤ k ∧ k < w105.heap.size, fun _ => True, rfl, by simp, rfl, ⟨by simp, fun e he => nomatch he⟩, RS.nil, ?_⟩
    have hwide : ∀ g, g < w111.heap.size → RestA w24 A g ∨ w105.heap.size ≤ g ∧ g < w111.heap.size → (RestA w24 A g → g < w98.heap.size ∨ w105.heap.size ≤ g) → RestA w24 (fun k => A k ∨ w98.heap.size ≤ k ∧ k < w105.heap.size) g := fun g hg h hh => by
      rcases h with h | h
      · refine ⟨h.1, fun k => ?_⟩
        rcases k with k | k
        · exact h.2 k
        · have := hh h; omega
      · refine ⟨by omega, fun k => ?_⟩
        rcases k with k | k
        · have := W.hs.lt g k; omega
        · omega
    refine ⟨hs111, fun g hg => ?_, okL_add W.okn W.hcur hok, fun n hn => ?_, by simp, by simp; omega, by simp, ?_, by simp [hTl], ?_, fun t ht => ?_, ?_, ?_, by omega, ?_, o98.cap.1⟩
    · rcases hg with hg | hg
      · exact W.hA g hg
      · omega
    · rcases List.mem_append.1 hn with hn | hn
      · exact W.ones n hn
      · rw [List.mem_singleton.1 hn]
        exact ⟨by show [ed].length ≤ 1; simp, fun e he => by rw [List.mem_singleton.1 he]; exact ⟨by rw [hol']; omega, by rw [hnl]; omega⟩⟩
    · have := ext_upd (Ext.thn W.ext x98') (W.hA b W.hs.mem) u105
      refine Upd.then (Ext.thn this (Ext.thn x109 hb110.ext)) u111 fun g hg ⟨a, ha, e⟩ => ?_
      have := (hp6 a ha).2.1
      omega
    · intro i h0 hi
      rw [List.length_append, List.length_singleton] at hi
      have hpa : ∀ z, z < ns.length → (ns ++ [newN cur [ed] 0]).getD z rootN = ns.getD z rootN := fun z hz => by rw [List.getD_eq_getElem?_getD, List.getD_eq_getElem?_getD, List.getElem?_append_left hz]
      have hta : ∀ z, z < T.length → (T ++ [ys]).getD z [] = T.getD z [] := fun z hz => by rw [List.getD_eq_getElem?_getD, List.getD_eq_getElem?_getD, List.getElem?_append_left hz]
      rcases Nat.lt_or_ge i ns.length with h' | h'
      · have hpl := paF_lt W.okn i h0
        have e1 : paF (ns ++ [newN cur [ed] 0]) i = paF ns i := by unfold paF; rw [hpa i h']
        rw [e1, hpa i h', hta _ (by omega), hta _ (by omega)]
        exact W.tree i h0 h'
      · have : i = ns.length := by omega
        subst this
        have e2 : (ns ++ [newN cur [ed] 0]).getD ns.length rootN = newN cur [ed] 0 := by rw [List.getD_eq_getElem?_getD, List.getElem?_append_right (Nat.le_refl _), Nat.sub_self]; rfl
        have e3 : (T ++ [ys]).getD ns.length [] = ys := by rw [← hTl, List.getD_eq_getElem?_getD, List.getElem?_append_right (Nat.le_refl _), Nat.sub_self]; rfl
        have e1 : paF (ns ++ [newN cur [ed] 0]) ns.length = cur := by unfold paF; rw [e2]; rfl
        rw [e1, e2, e3, hta _ (by have := W.hcur; omega), ← hxT]
        exact hall
    · rcases List.mem_append.1 ht with ht | ht
      · have := W.few t ht; omega
      · rw [List.mem_singleton.1 ht]
        omega
    · have hlen2 : (T ++ [ys]).length = T.length + 1 := by simp
      rw [hlen2]
      have row2 : OwnR BytesV w111 (fun g => RestA w24 (fun k => A k ∨ w98.heap.size ≤ k ∧ k < w105.heap.size) g) 41 1 p111 (T.length + 1) c111 (T ++ [ys]) := by
        -- what the old texts lie in was there ahead of the step
        obtain ⟨vss, ho, ha, hR⟩ := W.row
        have row3 : OwnR BytesV wl (fun g => RestA w24 A g ∧ g < wl.heap.size) 41 1 p6 T.length c6 T := W.row.wider BytesV.widens fun k hk h => ⟨h, hk⟩
        have row4 : OwnR BytesV w110 (fun g => RestA w24 A g ∧ g < wl.heap.size) 41 1 p6 T.length c6 T := (((row3.upd BytesV.stable x98' fun _ _ => id).upd BytesV.stable u105 fun k hk => hRb k hk.1).upd BytesV.stable x109 fun _ _ => id).upd BytesV.stable hb110.ext fun _ _ => id
        obtain ⟨p', c', w', hr', row5, _⟩ := OwnR.join BytesV.stable BytesV.widens (fun _ _ _ _ h => BytesV.one h) slBB 67 row4 one110 (fun a ha => by have := (hp6 a ha).1; omega) (by omega) (by simp only [maxLen]; omega) (by omega)
        rw [hr] at hr'
        injection hr' with q1 q2
        injection q1 with q3 _ q4
        subst q2 q3 q4
        exact row5.wider BytesV.widens fun g hg h => by
          rcases h with h | h
          · exact hwide g hg (.inl h.1) fun _ => .inl (by omega)
          · exact hwide g hg (.inr h) fun _ => .inr h.1
      exact row2
    · show some ys = _
      rw [← hTl, List.getD_eq_getElem?_getD, List.getElem?_append_right (Nat.le_refl _), Nat.sub_self]; rfl
    · have hat : ∀ a, p111 = some a → (∃ a0, p6 = some a0 ∧ a0.block = a.block) ∨ w105.heap.size ≤ a.block := fun a ha => by
        obtain ⟨vss, ho, _, hR⟩ := W.row
        obtain ⟨vss', ho', _, hR'⟩ := row110
        obtain ⟨p', c', w', hr', _, _, hat⟩ := append_own slBB 67 ho' (p2 := some ⟨b110, 0, none⟩) (l2 := 1) (c2 := 1) (news := [.slice p109 ys.length c109]) rfl hb110.src (by simp [Value.oneCell']) (by simp only [maxLen]; omega) (by omega) (Nat.zero_le _)
        rw [hr] at hr'
        injection hr' with q1 q2
        injection q1 with q3 _ q4
        subst q2 q3 q4
        rcases hat a ha with h | h
        · exact .inl h
        · exact .inr (by omega)
      have i2 : Ints .u8 w111 (fun g => w94.heap.size ≤ g ∧ g < w98.heap.size) p98 ys := ((i98.ext x109).ext hb110.ext).upd u111 fun g hg ⟨a, ha, e⟩ => by have := (hp6 a ha).1; have := x94.size; omega
      have s94 := x94.size
      refine i2.ok fun g _ hg => ⟨hwide g (by omega) (.inl ⟨by omega, fun h => by have := W.hs.lt g h; omega⟩) fun _ => .inl hg.2, by omega, fun a ha e => ?_⟩
      rcases hat a ha with ⟨a0, h1, h2⟩ | h
      · have := (hp6 a0 h1).1; omega
      · omega
  · -- Undo
    refine (undo_does keeps_hs g7 W.pos (ones_mods W.ones) W.okn W.hcur (by omega)).imp ?_
    rintro e w118 ⟨⟨p118, c118, base, rfl, o118, hb118, u118⟩, h118⟩
    have uu : Upd (fun k => k = b) wl w118 := Upd.then noe u118 fun k _ e => e
    refine ⟨_, _, _, _, _, rfl, 0, ns, _, T, xs, undoE ns cur, A, _, rfl, rfl, rfl, ?_, OwnL.edits o118, W.went h118 uu (undoN_lt W.okn W.hcur) ?_ _ (by omega)⟩
    · unfold undoE
      split
      · exact ⟨by simp, fun e he => nomatch he⟩
      · have := ones_step W.ones (cur, false)
        have e : stepE ns (cur, false) = turnE (ns.getD cur rootN).es := rfl
        rw [e] at this
        exact few_of (by omega) this.2
    · unfold undoE undoN
      split
      · rename_i h0; rw [h0]; rfl
      · rename_i h0
        exact allE_back' (W.tree cur h0 W.hcur)
  · -- Redo
    refine (redo_does keeps_hs g7 W.pos (ones_mods W.ones) W.okn (by omega)).imp ?_
    rintro e w128 ⟨⟨p128, c128, base, rfl, o128, hb128, u128⟩, h128⟩
    have uu : Upd (fun k => k = b) wl w128 := Upd.then noe u128 fun k _ e => e
    refine ⟨_, _, _, _, _, rfl, 0, ns, _, T, xs, redoE ns cur, A, _, rfl, rfl, rfl, ?_, OwnL.edits o128, W.went h128 uu (redoN_lt W.okn W.hcur) ?_ _ (by omega)⟩
    · unfold redoE
      split
      · rename_i z _
        have := ones_at W.ones z
        exact few_of (by omega) this.2
      · exact ⟨by simp, fun e he => nomatch he⟩
    · unfold redoE redoN
      cases hk : redoK ns cur with
      | none => rfl
      | some z =>
        have hz := List.mem_of_getLast? hk
        obtain ⟨z1, z2⟩ := kid_ok W.okn hz
        obtain ⟨_, _, z3⟩ := mem_kids.1 hz
        have hpz : paF ns z = cur := by unfold paF; rw [z3]; rfl
        have := W.tree z z2 z1
        rw [hpz] at this
        exact this
  · -- Jump
    refine ⟨fun v => Ext wd v, Upd.refl _ _, _, fun v hv => (Ext.thn hd.ext hv).cell (hb7.cell 1 rfl), (count_does (g7.ext hd.ext) W.pos).imp ?_⟩
    rintro e w51 ⟨rfl, rfl⟩
    have hand := and_bound ds[k].n 255 (by decide)
    have htm := tmod_bound (n := ns.length) hand.1 W.pos
    have e2 : (((255 : Nat) : Nat) : Int) = 255 := rfl
    rw [e2] at htm
    obtain ⟨t, ht⟩ := Int.eq_ofNat_of_zero_le htm.1
    refine ⟨_, rfl, Upd.refl _ _, by omega, (jump_does keeps_hs (g7.ext hd.ext) W.pos (ones_mods W.ones) W.okn W.hcur (by omega) (ones_small W.ones) _).imp ?_⟩
    rw [ht] at htm ⊢
    have tt : thereB ns (t : Int) := ⟨by omega, by omega⟩
    have htl : t < ns.length := by omega
    rintro e w53 ⟨⟨p53, c53, base, rfl, o53, hb53, u53⟩, h53⟩
    have uu : Upd (fun k => k = b) wl w53 := Upd.then (Ext.then noe hd.ext) u53 fun k _ e => e
    refine ⟨_, _, _, _, _, rfl, 0, ns, _, T, xs, jumpE ns cur (t : Int), A, _, rfl, rfl, rfl, ?_, OwnL.edits o53, W.went h53 uu (jumpN_lt W.hcur _) ?_ _ (by omega)⟩
    · unfold jumpE
      rw [if_pos tt, Int.toNat_natCast]
      have h1 := ones_steps W.ones (wayF (paF ns) cur t)
      have h2 := way_len (paF_lt W.okn) _ cur t (Nat.le_refl _)
      have := W.hcur
      exact few_of (by omega) h1.2
    · unfold jumpE jumpN
      rw [if_pos tt, if_pos tt, Int.toNat_natCast]
      exact tree_way W.okn W.tree cur t W.hcur htl
  · -- the bytes behind the edits
    clear W hxT hlen hpos hxl g7 noe
    rintro p0 _ c0 p6 _ c6 p9 _ c9 _ wc ⟨ns, cur, T, xs, es, A, ok9, rfl, rfl, rfl, hfew, hE, W⟩
    have hxl := W.xlen
    refine (all_does W.now hE (by omega) hfew rfl rfl c0 c9).imp ?_
    rintro e w135 ⟨x135, hr⟩
    rw [W.lead] at hr
    obtain ⟨p135, c135, rfl, o135, hyk, _⟩ := hr
    refine ⟨_, _, _, _, rfl, fls rfl ((current_does (W.hs.ext x135) W.pos).imp ?_)⟩
    rintro e w144 ⟨rfl, rfl⟩
    have hcT : cur < T.length := by have := W.tlen; have := W.hcur; omega
    have hgT : T.getD cur [] = T[cur] := by rw [List.getD_eq_getElem?_getD, List.getElem?_eq_getElem hcT]; rfl
    have hrow : RS 1 (ElemC BytesV) w144 (fun _ => True) p6 T := by
      obtain ⟨vss, ho, ha, _⟩ := W.row.upd BytesV.stable x135 fun _ _ => id
      exact (Own.rs ho (by decide) (ha.imp fun vs x ⟨q1, q2⟩ => ⟨q1, BytesV.widens _ _ _ _ _ (fun _ _ _ => trivial) q2⟩) fun _ _ _ => trivial).2
    obtain ⟨br, orr, hpr, _, _, vs, ⟨pt, ct, rfl, hct, hIt⟩, hcells⟩ := hrow cur hcT
    have hcell := hcells 0 _ rfl
    rw [Nat.mul_one] at hcell
    have hfewT := W.few _ (List.getElem_mem hcT)
    rw [hgT] at o135 hyk ⊢
    have i135 := o135.ints hyk
    refine ⟨_, rfl, ⟨by omega, by omega⟩, br, orr, hpr, _, _, _, by rw [Int.toNat_natCast]; exact hcell, (same_does i135 hIt rfl rfl c135 ct (by omega)).imp ?_⟩
    rintro e w147 ⟨rfl, x147⟩
    have y147 := Ext.thn x135 x147
    refine ⟨_, rfl, fls (by simp) ⟨inI64 (by omega) (by omega), _, by omega, k + 1, ns, cur, T, T[cur], A, by omega, rfl, hkl, rfl, rfl, ?_⟩⟩
    have hp6 : ∀ a, p6 = some a → a.block < wc.heap.size := fun a ha => by
      obtain ⟨vss, ho, _, hR⟩ := W.row
      exact (ho.base ha).2
    have szc := W.ext.size
    exact ⟨W.hs.ext y147, W.hA, W.okn, W.ones, W.pos, W.len, W.hcur, Ext.thn W.ext y147, W.tlen, W.tree, W.few, W.row.upd BytesV.stable y147 fun _ _ => id, by rw [hgT]; rfl, hfewT, (i135.ext x147).ok fun g hg h => ⟨⟨by omega, fun hA => by have := W.hs.lt g hA; omega⟩, hg, fun a ha e => by have := hp6 a ha; omega⟩, o135.cap.1⟩
end
end Go.Proofs.Ytbnjlnbmdkbpkaa
