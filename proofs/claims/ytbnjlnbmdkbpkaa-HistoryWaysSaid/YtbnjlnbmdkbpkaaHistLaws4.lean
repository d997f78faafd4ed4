/-
  Histories: the statements' functions answer true: whatever is done.
-/
import Derived.Test.YtbnjlnbmdkbpkaaHistLaws3
import Derived.Test.YtbnjlnbmdkbpkaaVW
namespace Go.Vc
open Go.RowKit
theorem fill4 {w w1 : World} {b : Nat} {p q r s x y z u : Value} {T : TypeId} (h : NewBlk w b [p, q, r, s] T w1) {G : World → Prop} (k : ∀ w2, NewBlk w b [x, y, z, u] T w2 → G w2) :
    CanStore w1 b 0 ∧ ∀ ws, Stored w1 b 0 x ws → CanStore ws b 1 ∧ ∀ ws1, Stored ws b 1 y ws1 → CanStore ws1 b 2 ∧ ∀ ws2, Stored ws1 b 2 z ws2 → CanStore ws2 b 3 ∧ ∀ ws3, Stored ws2 b 3 u ws3 → G ws3 :=
  ⟨h.can 0 (by simp), fun ws s0 => have h0 := h.store s0; ⟨h0.can 1 (by simp), fun ws1 s1 => have h1 := h0.store s1; ⟨h1.can 2 (by simp), fun ws2 s2 => have h2 := h1.store s2; ⟨h2.can 3 (by simp), fun ws3 s3 => k _ (h2.store s3)⟩⟩⟩⟩
/-- Edits whose rows are not over-long. -/
def Tame (es : List E) : Prop := es.length ≤ 9223372036854775807 ∧ ∀ e ∈ es, e.old.length ≤ 9223372036854775807 ∧ e.new.length ≤ 9223372036854775807
end Go.Vc
namespace Go.Proofs.Ytbnjlnbmdkbpkaa
open Go.RowKit Go.Vc
section
variable {w : World} {ok : Nat → Prop} {p : Option Addr} {ds : List Dd}
theorem tame_nil : Tame [] := ⟨Nat.zero_le _, fun e he => nomatch he⟩
theorem tame_mod {es : List E} (h : Mod es) : Tame es := ⟨by have := h.1; omega, fun e he => by have := h.2 e he; omega⟩
theorem tame_turn {es : List E} (h : Mod es) : Tame (turnE es) := ⟨by rw [turnE_len]; have := h.1; omega, fun e he => by
  unfold turnE at he
  rw [List.mem_reverse] at he
  obtain ⟨e', he', rfl⟩ := List.mem_map.1 he
  have := h.2 e' he'
  exact ⟨by show e'.new.length ≤ _; omega, by show e'.old.length ≤ _; omega⟩⟩
theorem mod_at {ns : List Nd} (hm : Mods ns) (k : Nat) : Mod (ns.getD k rootN).es := by
  rcases Nat.lt_or_ge k ns.length with h | h
  · rw [getD_at h]; exact hm _ (List.getElem_mem h)
  · rw [List.getD_eq_getElem?_getD, List.getElem?_eq_none h]
    exact ⟨by decide, fun e he => nomatch he⟩
theorem tame_step {ns : List Nd} (hm : Mods ns) (s : Nat × Bool) : Tame (stepE ns s) := by
  unfold stepE
  split
  · exact tame_mod (mod_at hm _)
  · exact tame_turn (mod_at hm _)
theorem tame_undo {ns : List Nd} (hm : Mods ns) (cur : Nat) : Tame (undoE ns cur) := by
  unfold undoE
  split
  · exact tame_nil
  · exact tame_turn (mod_at hm _)
theorem tame_redo {ns : List Nd} (hm : Mods ns) (cur : Nat) : Tame (redoE ns cur) := by
  unfold redoE
  split
  · exact tame_mod (mod_at hm _)
  · exact tame_nil
theorem tame_jump {ns : List Nd} (okn : okL ns) (hm : Mods ns) (hE : ∀ n ∈ ns, n.es.length ≤ 10000) (cur : Nat) (hc : cur < ns.length) (hn : ns.length ≤ 65536) (n : Int) : Tame (jumpE ns cur n) := by
  unfold jumpE
  split
  · rename_i ht
    refine ⟨?_, fun e he => ?_⟩
    · have h1 := stepsE_len hE (wayF (paF ns) cur n.toNat)
      have h2 := way_len (paF_lt okn) _ cur n.toNat (Nat.le_refl _)
      have := ht.2
      have := ht.1
      omega
    · obtain ⟨s, _, he⟩ := List.mem_flatMap.1 he
      exact (tame_step hm s).2 e he
  · exact tame_nil
/-- A row that was cut. -/
theorem samek_does {ok ok' : Nat → Prop} {p q : Option Addr} {xs ys : List Int} (hx : Ints .i64 w ok p xs) (hy : Ints .i64 w ok' q ys) {l m : Nat} (hl : l = xs.length) (hm : m = ys.length) (c d : Nat) (hs : xs.length ≤ 9223372036854775807) :
    Does Try.prog 32 #[.slice p l c, .slice q m d] w fun e w' => e = .returned (.bool (decide (xs = ys))) ∧ Ext w w' := by
  subst hl hm
  apply f32_does
  by_cases hlen : xs.length = ys.length
  case neg =>
    refine tru (by simp; omega) ⟨?_, Upd.refl _ _⟩
    rw [decide_eq_false (fun h => hlen (by rw [h]))]
  refine fls (by simp [hlen]) ?_
  refine ⟨fun i n wl => ∃ k : Nat, i = k ∧ n = xs.length - k ∧ k ≤ xs.length ∧ xs.take k = ys.take k ∧ Ext w wl, ⟨_, 0, rfl, rfl, Nat.zero_le _, rfl, Upd.refl _ _⟩, ?_⟩
  rintro _ n wl ⟨k, rfl, rfl, hk, heq, hw⟩
  refine brr (fun h wd hd => ?_) fun h => ?_
  · have h := of_decide_eq_true h
    have hlt : k < xs.length := by omega
    have hwd := Ext.thn hw hd.ext
    obtain ⟨b, o, hp, hc⟩ := (hx.ext hwd).at k hlt
    obtain ⟨b', o', hp', hc'⟩ := (hy.ext hwd).at k (by omega)
    refine ⟨⟨by omega, by omega⟩, b, o, hp, _, hc, ⟨by omega, by omega⟩, b', o', hp', _, hc', brr (fun h => ?_) fun h => ?_⟩
    · refine ⟨?_, hwd⟩
      have hne : xs[k] ≠ ys[k] := by simpa using h
      rw [decide_eq_false (fun h => hne (by simp [h]))]
    · have he : xs[k] = ys[k] := by simpa using h
      exact ⟨inI64 (by omega) (by omega), xs.length - (k + 1), by omega, k + 1, by omega, rfl, hlt, take_snoc hlt (by omega) heq he, hwd⟩
  · have h := of_decide_eq_false h
    obtain rfl : k = xs.length := by omega
    refine ⟨?_, hw⟩
    rw [List.take_length, hlen, List.take_length] at heq
    rw [decide_eq_true heq]
theorem clone_does {A : Nat → Prop} {b : Nat} {ns : List Nd} {cur : Nat} (h : Hs w A b ns cur) (hn : 0 < ns.length) (hn6 : ns.length ≤ 65536) :
    Does Try.prog 34 #[.pointer (some ⟨b, 0, none⟩)] w fun e w' => ∃ b' A', e = .returned (.pointer (some ⟨b', 0, none⟩)) ∧ Hs w' A' b' ns cur ∧ Ext w w' := by
  apply f34_does
  refine (made_does h hn).imp ?_
  rintro e w4 ⟨rfl, rfl⟩
  refine ⟨_, rfl, fls rfl fun wd hd => ?_⟩
  have hd' := h.ext hd.ext
  obtain ⟨p, c, h1, h2, h3⟩ := hd'.row
  refine ⟨fun v => Ext wd v, Upd.refl _ _, b, 0, rfl, _, _, _, h2, f51_does _ _ _ ?_⟩
  obtain ⟨bb, o, _, _, hp, _⟩ := h3.at 0 hn
  subst hp
  refine fls rfl fun b5 w5 hb5 => ?_
  obtain ⟨vss, v1, v2, v3⟩ := RS.cells (fun _ _ _ _ h => NodeV.len h) (h3.ext hb5.ext)
  have ho : Own w5 wd.heap.size 58 3 (some ⟨b5, 0, none⟩) 0 0 [] :=
    ⟨by simp, .inr ⟨b5, 0, #[], rfl, by rw [hb5.eq]; exact Nat.le_refl _, hb5.heap, Nat.le_refl _, by simp [maxLen], by simp, by simp⟩⟩
  obtain ⟨p7, c7, w7, hr, ho', hu, _⟩ := append_own slN 22 ho (p2 := some ⟨bb, o, none⟩) (l2 := ns.length) (c2 := c) (news := vss.flatten) v1 v2 (by
    intro u hu
    obtain ⟨vs, hvs, hu⟩ := List.mem_flatten.1 hu
    have : ∀ {l : List (List Value)} {m : List Nd}, All2 (fun vs x => vs.length = 3 ∧ NodeV w5 (fun k => A k ∧ k ≠ b) vs x) l m → ∀ vs ∈ l, ∃ x, NodeV w5 (fun k => A k ∧ k ≠ b) vs x := by
      intro l m hh
      induction hh with
      | nil => intro vs h; simp at h
      | cons x _ ih =>
        intro vs h
        rcases List.mem_cons.1 h with rfl | h
        · exact ⟨_, x.2⟩
        · exact ih vs h
    obtain ⟨x, hx⟩ := this v3 vs hvs
    exact NodeV.one hx u hu) (by simp only [maxLen]; omega) (by omega) hb5.ext.size
  rw [Nat.zero_add] at hr ho'
  rw [List.nil_append] at ho'
  have x7 : Ext wd w7 := Own.ext_of ho hu hb5.ext (Nat.le_refl _)
  have hu7 : Upd (fun k => k = b5) w5 w7 := hu.mono fun k _ ⟨a, ha, e⟩ => by injection ha with ha; rw [← ha] at e; exact e.symm
  have hbl := h.lt b h.mem
  have sd := hd.ext.size
  have hall : All2 (fun vs x => vs.length = 3 ∧ NodeV w7 (fun k => A k ∨ wd.heap.size ≤ k ∧ k < w7.heap.size) vs x) vss ns :=
    v3.imp fun vs x ⟨q1, q2⟩ => ⟨q1, NodeV.widens _ _ _ _ _ (fun k _ hk => .inl hk.1) (NodeV.stable _ _ _ _ _ _ hu7 (fun k hk e => by have := h.lt k hk.1; have := hb5.eq; have e : k = b5 := e; omega) q2)⟩
  have hcap := ho'.cap.1
  obtain ⟨_, hN⟩ := Own.rs ho' (by decide) hall fun g g1 g2 => .inr ⟨g1, g2⟩
  obtain ⟨bn, on, _, _, hpn, _⟩ := Nodes.at hN 0 hn
  subst hpn
  refine ⟨_, _, _, w7, hr, _, _, _, rfl, x7, (clip_does hn hcap).imp ?_⟩
  rintro e w11 ⟨rfl, rfl⟩
  refine ⟨_, _, _, rfl, x7, b, 0, rfl, _, fun v hv => hv.cell hd'.at1, fun b17 w17 hb17 => ⟨b17, fun k => A k ∨ wd.heap.size ≤ k ∧ k < w17.heap.size, rfl, ⟨⟨_, _, Nat.le_refl _, hb17.cell 0 rfl, Nodes.ok (Nodes.ext hN hb17.ext) fun k _ hk => ⟨?_, ?_⟩⟩, hb17.cell 1 rfl, hb17.can 0 (by simp), hb17.can 1 (by simp), ?_, ?_⟩, Ext.thn hd.ext (Ext.thn x7 hb17.ext)⟩⟩
  all_goals have e17 := hb17.eq
  all_goals have s17 := hb17.size
  all_goals have s7 := x7.size
  · rcases hk with hk | hk
    · exact .inl hk
    · exact .inr ⟨hk.1, by omega⟩
  · rcases hk with hk | hk
    · have := h.lt k hk; omega
    · omega
  · exact .inr ⟨by omega, by omega⟩
  · intro k hk
    rcases hk with hk | hk
    · have := h.lt k hk; omega
    · exact hk.2
/-- The code's history and the document's. -/
def PI (w0 wl : World) (b m : Nat) (ns : List Nd) (cur bd : Nat) : Prop :=
  ∃ A B, Hs wl A b ns cur ∧ Ms 58 wl B m ns cur ∧ (∀ k, A k → ¬ B k) ∧ (∀ k, A k → w0.heap.size ≤ k) ∧ (∀ k, B k → w0.heap.size ≤ k) ∧ okL ns ∧ Mods ns ∧ (∀ n ∈ ns, n.es.length ≤ 10000) ∧ 0 < ns.length ∧ ns.length ≤ bd ∧ cur < ns.length ∧ Ext w0 wl
theorem pi_ext {w0 wl wl' : World} {b m cur bd : Nat} {ns : List Nd} (h : PI w0 wl b m ns cur bd) (hx : Ext wl wl') : PI w0 wl' b m ns cur bd := by
  obtain ⟨A, B, h1, h2, h3, h4, h5, h6, h7, h8, h9, h10, h11, h12⟩ := h
  exact ⟨A, B, h1.ext hx, h2.ext hx, h3, h4, h5, h6, h7, h8, h9, h10, h11, Ext.thn h12 hx⟩
theorem pi_pair {w0 wl w1 w2 : World} {A B : Nat → Prop} {b m cur cur1 bd : Nat} {ns : List Nd} (h1 : Hs wl A b ns cur) (h2 : Ms 58 wl B m ns cur) (h3 : ∀ k, A k → ¬ B k) (h4 : ∀ k, A k → w0.heap.size ≤ k) (h5 : ∀ k, B k → w0.heap.size ≤ k) (h6 : okL ns) (h7 : Mods ns) (h8 : ∀ n ∈ ns, n.es.length ≤ 10000)
    (h9 : 0 < ns.length) (h10 : ns.length ≤ bd) (h12 : Ext w0 wl) (ha : Hs w1 A b ns cur1) (u1 : Upd (fun k => k = b) wl w1) (hb : Ms 58 w2 B m ns cur1) (u2 : Upd (fun k => k = m) w1 w2) (hc : cur1 < ns.length) : PI w0 w2 b m ns cur1 bd :=
  ⟨A, B, ha.upd u2 fun k hk e => h3 k hk (by rw [show k = m from e]; exact h2.mem), hb, h3, h4, h5, h6, h7, h8, h9, h10, hc, ext_upd (ext_upd h12 (h4 _ h1.mem) u1) (h5 _ h2.mem) u2⟩
theorem tail_same {w1 w3 : World} {es : List E} {p1 p2 : Option Addr} {c1 c2 base1 base2 : Nat} (o1 : OwnL EditV w1 base1 43 3 p1 es.length c1 es) (o2 : OwnL EditV w3 base2 43 3 p2 es.length c2 es) {m : Nat} (u2 : Upd (fun z => z = m) w1 w3) (hm : m < base1) (ht : Tame es) {J : Bool → Nat → World → Prop} (hJ : ∀ w4, Ext w3 w4 → ∃ nc, J true nc w4) :
    Does Try.prog 24 #[.slice p1 es.length c1, .slice p2 es.length c2] w3 fun e138 w138 => ∃ b138 : Bool, e138 = .returned (.bool b138) ∧ ∃ nc29, J b138 nc29 w138 := by
  refine (rsame_does ((OwnL.edits o1).upd u2 fun k hk e => by have e : k = m := e; omega) (OwnL.edits o2) rfl rfl c1 c2 ht.1 ht.2).imp ?_
  rintro e w4 ⟨rfl, x4⟩
  obtain ⟨nc, hj⟩ := hJ w4 x4
  exact ⟨_, rfl, nc, by rw [decide_eq_true rfl]; exact hj⟩
theorem undoN_lt {ns : List Nd} (okn : okL ns) {cur : Nat} (hc : cur < ns.length) : undoN ns cur < ns.length := by
  unfold undoN
  split
  · omega
  · rename_i h0
    rw [getD_at hc]
    have := below okn hc h0
    omega
theorem redoN_lt {ns : List Nd} (okn : okL ns) {cur : Nat} (hc : cur < ns.length) : redoN ns cur < ns.length := by
  unfold redoN
  cases hk : redoK ns cur with
  | none => exact hc
  | some k => exact (kid_ok okn (List.mem_of_getLast? hk)).1
theorem jumpN_lt {ns : List Nd} {cur : Nat} (hc : cur < ns.length) (n : Int) : jumpN ns cur n < ns.length := by
  unfold jumpN
  split
  · rename_i ht; have := ht.2; have := ht.1; omega
  · exact hc
theorem plays_law (hx : Deeds w ok p ds) {l : Nat} (hl : l = ds.length) (c : Nat) (hs : ds.length ≤ 9223372036854775807) : Does Try.prog 6 #[.slice p l c] w (Holds w) := by
  subst hl
  apply f6_does
  refine awake_does.imp ?_
  rintro e w33 ⟨rfl, x33⟩
  refine ⟨_, rfl, fls rfl ((roomd_does (hx.ext x33) rfl c 80 hs).imp ?_)⟩
  rintro e w36 ⟨rfl, bo, rfl, hbo⟩
  refine ⟨_, rfl, brr (fun _ => ⟨rfl, x33⟩) fun j => ?_⟩
  obtain ⟨h80, hsm⟩ := hbo (by simpa using j)
  refine new_does.imp ?_
  rintro e w38 ⟨b, rfl, hM, x38⟩
  refine ⟨_, rfl, rnew_does.imp ?_⟩
  rintro e w39 ⟨m, rfl, hR, x39⟩
  have P39 : PI w36 w39 b m [rootN] 0 1 := ⟨_, _, hM.hs.ext x39, hR, fun k hk hk' => by have := hk.2; have := hk'.1; omega, fun k hk => hk.1, fun k hk => Nat.le_trans x38.size hk.1, okL_root, mods_root, fun n hn => by rw [List.mem_singleton.1 hn]; exact Nat.zero_le _, by decide, by decide, by decide, Ext.thn x38 x39⟩
  have hxx := hx.ext x33
  refine ⟨_, rfl, fls rfl ⟨fun x nl wl => ∃ (k : Nat) (ns : List Nd) (cur : Nat), x = k ∧ nl = ds.length - k ∧ k ≤ ds.length ∧ PI w36 wl b m ns cur (k + 1), ⟨_, 0, _, _, rfl, rfl, Nat.zero_le _, P39⟩, ?_⟩⟩
  rintro _ _ wl ⟨k, ns, cur, rfl, rfl, hk, P⟩
  obtain ⟨A, B, h1, h2, h3, h4, h5, h6, h7, h8, h9, h10, h11, h12⟩ := P
  refine brr (fun jj => ?_) fun jj => ?_
  · have jj := of_decide_eq_true jj
    have hkl : k < ds.length := by omega
    obtain ⟨bb, o, p1, c1, hp, a0, a1, a2, a3, i0, i1, i2, i3, a4, i5⟩ := (hxx.ext h12).at k hkl
    have sm := hsm _ (List.getElem_mem hkl)
    obtain ⟨_, _, p1', c1', hp', _, _, _, a3', _, _, _, _, a4', _⟩ := hxx.at k hkl
    have hpe : p1' = p1 := by
      have e1 := h12.cell a3'
      rw [hp] at hp'
      injection hp' with hp'
      injection hp' with e2 e3
      subst e2 e3
      rw [a3] at e1
      injection e1 with e1
      injection e1 with e1 _ _
      exact e1.symm
    subst hpe
    refine ⟨⟨by omega, by omega⟩, bb, o, hp, _, a0, _, a1, _, a2, _, _, _, a3, fun b6 w6 hb6 => fill4 hb6 fun w7 hb7 => ?_⟩
    have e6 := hb6.eq
    have hbl := h1.lt b h1.mem
    have hml := h2.lt m h2.mem
    have g1 := h1.ext hb7.ext
    have g2 := h2.ext hb7.ext
    have g12 := Ext.thn h12 hb7.ext
    have s7 := hb7.size
    have hbd : ns.length ≤ 65000 := by omega
    have key : ∀ {w2 w4 : World} {ns' : List Nd} {cur' : Nat}, PI w36 w2 b m ns' cur' (k + 2) → (∀ z, z < wl.heap.size + 1 → w2.heap[z]? = w7.heap[z]? ∨ A z ∨ B z) → Ext w2 w4 → ∃ nc : Nat, (fun (b7 : Bool) (_ : Nat) (wc : World) => b7 = true ∧ ∃ (ns' : List Nd) (cur' : Nat), PI w36 wc b m ns' cur' (k + 2) ∧ wc.cell? ⟨b6, 1, none⟩ = some (.int .i64 ds[k].n)) true nc w4 := fun {w2 w4 ns' cur'} hP hc x => ⟨0, rfl, ns', cur', pi_ext hP x, x.cell (by
      rcases hc b6 (by omega) with h | h | h
      · rw [World.cell?_of_block (w := w7) (a := ⟨b6, 1, none⟩) h]; exact hb7.cell 1 rfl
      · have := h1.lt _ h; omega
      · have := h2.lt _ h; omega)⟩
    have nbm : b ≠ m := fun e => h3 b h1.mem (e ▸ h2.mem)
    have two : ∀ {w1 w2 : World}, Upd (fun k => k = b) w7 w1 → Upd (fun k => k = m) w1 w2 → ∀ z, z < wl.heap.size + 1 → w2.heap[z]? = w7.heap[z]? ∨ A z ∨ B z := fun {w1 w2} u1 u2 z hz => by
      by_cases e1 : z = b
      · exact .inr (.inl (e1 ▸ h1.mem))
      · by_cases e2 : z = m
        · exact .inr (.inr (e2 ▸ h2.mem))
        · exact .inl ((u2.block z (by have := u1.size; omega) e2).trans (u1.block z (by omega) e1))
    refine ⟨fun b7 _ wc => b7 = true ∧ ∃ (ns' : List Nd) (cur' : Nat), PI w36 wc b m ns' cur' (k + 2) ∧ wc.cell? ⟨b6, 1, none⟩ = some (.int .i64 ds[k].n), ⟨_, hb7.cell 0 rfl, brr (fun _ => ⟨_, _, _, hb7.cell 3 rfl, _, hb7.cell 2 rfl, ?_⟩) fun _ => ⟨_, hb7.cell 0 rfl, brr (fun _ => ?_) fun _ => ⟨_, hb7.cell 0 rfl, brr (fun _ => ?_) fun _ => ⟨_, hb7.cell 1 rfl, ?_⟩⟩⟩⟩, ?_⟩
    · -- Add
      refine (add_does g1 h9 h11 (by omega) (a4.ext hb7.ext) rfl c1 sm.mod _ i2).imp ?_
      rintro e w91 hadd
      have u91 : Upd (fun k => k = b) w7 w91 := by
        rcases hadd with ⟨_, _, rfl⟩ | ⟨_, _, u, _⟩
        · exact Upd.refl _ _
        · exact u
      have nb6 : ¬ b6 = b := by omega
      have hMs : Ms 58 w91 B m ns cur := g2.upd u91 fun k hk e => h3 b h1.mem (by rw [← show k = b from e]; exact hk)
      have x91 : Ext w36 w91 := ext_upd g12 (h4 _ h1.mem) u91
      have rad := radd_does hMs h11 (by omega) (a4'.ext x91) rfl c1 sm.mod ds[k].cur i2
      rcases hadd with ⟨hno, rfl, rfl⟩ | ⟨hok, rfl, _, hA'⟩
      · refine ⟨_, _, rfl, _, _, _, hb7.cell 3 rfl, _, hb7.cell 2 rfl, rad.imp ?_⟩
        rintro e w100 (⟨_, rfl, rfl⟩ | ⟨hok, _⟩)
        · refine ⟨_, _, rfl, tru (by simp) ?_⟩
          obtain ⟨nc, hh⟩ := key (w4 := w100) ⟨A, B, g1, g2, h3, h4, h5, h6, h7, h8, h9, by omega, h11, g12⟩ (fun z _ => .inl rfl) (Upd.refl _ _)
          exact ⟨nc, by simpa using hh⟩
        · exact (hno hok).elim
      · refine ⟨_, _, rfl, _, _, _, u91.cell nb6 (hb7.cell 3 rfl), _, u91.cell nb6 (hb7.cell 2 rfl), rad.imp ?_⟩
        rintro e w100 (⟨hno, _⟩ | ⟨_, rfl, u100, hB'⟩)
        · exact (hno hok).elim
        · refine ⟨_, _, rfl, tru (by simp) ?_⟩
          have sz := u91.size
          have P' : PI w36 w100 b m (ns ++ [newN cur ds[k].es ds[k].cur]) ns.length (k + 2) := ⟨_, _, hA'.upd u100 fun z hz hB => by
              rcases hz with hz | hz
              · exact h3 z hz hB
              · have := h2.lt z hB; omega, hB', fun z hz hz' => by
              rcases hz with hz | hz
              · rcases hz' with hz' | hz'
                · exact h3 z hz hz'
                · have := h1.lt z hz; omega
              · rcases hz' with hz' | hz'
                · have := h2.lt z hz'; omega
                · omega, fun z hz => by
              rcases hz with hz | hz
              · exact h4 z hz
              · have := g12.size; omega, fun z hz => by
              rcases hz with hz | hz
              · exact h5 z hz
              · have := x91.size; omega, okL_add h6 h11 hok, mods_add h7 sm.mod, fun n hn => by
              rcases List.mem_append.1 hn with hn | hn
              · exact h8 n hn
              · rw [List.mem_singleton.1 hn]; have := sm.1; show ds[k].es.length ≤ _; omega, by simp, by simp; omega, by simp, Upd.then x91 u100 fun z hz hB => by have := h5 z hB; omega⟩
          obtain ⟨nc, hh⟩ := key (w4 := w100) P' (fun z hz => by
            by_cases e1 : z = b
            · exact .inr (.inl (e1 ▸ h1.mem))
            · by_cases e2 : B z
              · exact .inr (.inr e2)
              · exact .inl ((u100.block z (by omega) e2).trans (u91.block z (by omega) e1))) (Upd.refl _ _)
          exact ⟨nc, by simpa using hh⟩
    · -- Undo
      refine (undo_does keeps_hs g1 h9 h7 h6 h11 (by omega)).imp ?_
      rintro e w117 ⟨⟨p117, c117, base1, rfl, o1, hb1, u1⟩, gA⟩
      refine ⟨_, _, _, _, _, rfl, (rundo_does keeps_ms (g2.upd u1 fun k hk e => h3 b h1.mem (by rw [← show k = b from e]; exact hk)) h9 h7 h6 h11 (by omega)).imp ?_⟩
      rintro e w123 ⟨⟨p123, c123, base2, rfl, o2, hb2, u2⟩, gB⟩
      exact ⟨_, _, _, _, _, rfl, tru (by simp) (tru (by simp) (tail_same o1 o2 u2 (by omega) (tame_undo h7 cur) fun w4 x4 => key (pi_pair g1 g2 h3 h4 h5 h6 h7 h8 h9 (by omega) g12 gA u1 gB u2 (undoN_lt h6 h11)) (two u1 u2) x4))⟩
    · -- Redo
      refine (redo_does keeps_hs g1 h9 h7 h6 (by omega)).imp ?_
      rintro e w117 ⟨⟨p117, c117, base1, rfl, o1, hb1, u1⟩, gA⟩
      refine ⟨_, _, _, _, _, rfl, (rredo_does keeps_ms (g2.upd u1 fun k hk e => h3 b h1.mem (by rw [← show k = b from e]; exact hk)) h9 h7 h6 (by omega)).imp ?_⟩
      rintro e w123 ⟨⟨p123, c123, base2, rfl, o2, hb2, u2⟩, gB⟩
      exact ⟨_, _, _, _, _, rfl, tru (by simp) (tru (by simp) (tail_same o1 o2 u2 (by omega) (tame_redo h7 cur) fun w4 x4 => key (pi_pair g1 g2 h3 h4 h5 h6 h7 h8 h9 (by omega) g12 gA u1 gB u2 (redoN_lt h6 h11)) (two u1 u2) x4))⟩
    · -- Jump
      refine (jump_does keeps_hs g1 h9 h7 h6 h11 (by omega) h8 ds[k].n).imp ?_
      rintro e w117 ⟨⟨p117, c117, base1, rfl, o1, hb1, u1⟩, gA⟩
      refine ⟨_, _, _, _, _, rfl, _, u1.cell (show ¬ b6 = b by omega) (hb7.cell 1 rfl), (rjump_does keeps_ms (g2.upd u1 fun k hk e => h3 b h1.mem (by rw [← show k = b from e]; exact hk)) h9 h7 h6 h11 (by omega) h8 ds[k].n).imp ?_⟩
      rintro e w123 ⟨⟨p123, c123, base2, rfl, o2, hb2, u2⟩, gB⟩
      exact ⟨_, _, _, _, _, rfl, tru (by simp) (tru (by simp) (tail_same o1 o2 u2 (by omega) (tame_jump h6 h7 h8 cur h11 (by omega) ds[k].n) fun w4 x4 => key (pi_pair g1 g2 h3 h4 h5 h6 h7 h8 h9 (by omega) g12 gA u1 gB u2 (jumpN_lt h11 _)) (two u1 u2) x4))⟩
    · -- what both say
      rintro _ _ wc ⟨rfl, ns2, cur2, P2, hc1⟩
      clear key two
      obtain ⟨A2, B2, z1, z2, z3, z4, z5, z6, z7, z8, z9, z10, z11, z12⟩ := P2
      refine ⟨_, hc1, (node_does z1 z9 z7 _).imp ?_⟩
      rintro e w173 ⟨p173, c173, base, rfl, o173, hbase, x173, i173, j173⟩
      refine ⟨_, _, _, _, _, _, rfl, fun b30 w30 hb30 => fill3 hb30 fun w31 hb31 => ?_⟩
      have x31 : Ext wc w31 := Ext.thn x173 hb31.ext
      refine ⟨fun b32 _ wv => b32 = decide (0 ≤ ds[k].n ∧ ds[k].n < ns2.length) ∧ Ext w31 wv, fun wd hd => ⟨_, (Ext.thn x31 hd.ext).cell hc1, brr (fun q => ?_) fun q => ⟨0, ?_, hd.ext⟩⟩, ?_⟩
      · have q := of_decide_eq_true q
        obtain ⟨pm, cm, _, m1, m2⟩ := (z2.ext (Ext.thn x31 hd.ext)).hs.row
        refine ⟨_, (Ext.thn x31 hd.ext).cell hc1, m, 0, rfl, _, _, _, m1, 0, ?_, hd.ext⟩
        rw [Bool.eq_iff_iff, decide_eq_true_iff, decide_eq_true_iff]
        omega
      · have q := of_decide_eq_false q
        rw [eq_comm, decide_eq_false_iff_not]
        omega
      rintro _ _ wv ⟨rfl, xv⟩ wd hd
      have xd : Ext w31 wd := Ext.thn xv hd.ext
      have y1 := z1.ext (Ext.thn x31 xd)
      have y2 := z2.ext (Ext.thn x31 xd)
      have hc1 := (Ext.thn x31 xd).cell hc1
      obtain ⟨pm, cm, mc, m1, m2⟩ := y2.hs.row
      refine ⟨fun v => Ext wd v, Upd.refl _ _, fls rfl ((current_does y1 z9).imp ?_)⟩
      rintro e w193 ⟨rfl, rfl⟩
      refine ⟨_, rfl, Upd.refl _ _, m, 0, rfl, _, fun v hv => hv.cell y2.at1, fls (by simp) ((count_does y1 z9).imp ?_)⟩
      rintro e w202 ⟨rfl, rfl⟩
      refine ⟨_, rfl, Upd.refl _ _, m, 0, rfl, _, _, _, fun v hv => hv.cell m1, fls (by simp) (fls (by simp) ?_)⟩
      have x12 := Ext.thn z12 (Ext.thn x31 xd)
      -- the kids
      have tailK : ∀ {w230 : World}, Ext w202 w230 → Does Try.prog 19 #[.pointer (some ⟨b, 0, none⟩), .int .i64 ds[k].n] w230 fun e238 w238 => ∃ (p238 : Option Addr) (l238 c238 : Nat), e238 = .returned (.slice p238 l238 c238) ∧ Ext w202 w238 ∧ ∃ n241 : Int, (∀ w, Ext w202 w → w.cell? ⟨b6, 1, none⟩ = some (.int .i64 n241)) ∧ Does Try.prog 33 #[.pointer (some ⟨m, 0, none⟩), .int .i64 n241] w238 fun e242 w242 =>
          ∃ (p242 : Option Addr) (l242 c242 : Nat), e242 = .returned (.slice p242 l242 c242) ∧ Does Try.prog 32 #[.slice p238 l238 c238, .slice p242 l242 c242] w242 fun e243 w243 =>
          ∃ b243 : Bool, e243 = .returned (.bool b243) ∧ Br (!b243) (Ending.returned (.bool false) = .returned (.bool true) ∧ Ext w w243)
            (InK .i64 ((k : Int) + 1) ∧ ∃ ml, ml < ds.length - k ∧ ∃ (k' : Nat) (ns' : List Nd) (cur' : Nat), (k : Int) + 1 = k' ∧ ml = ds.length - k' ∧ k' ≤ ds.length ∧ PI w36 w243 b m ns' cur' (k' + 1)) := by
        intro w230 x230
        refine (kids_does (y1.ext x230) z9 (by omega) z6 ds[k].n).imp ?_
        rintro e w238 ⟨p238, c238, rfl, o238, x238⟩
        refine ⟨_, _, _, rfl, Ext.thn x230 x238, _, fun v hv => hv.cell hc1, (rkids_does (y2.hs.ext (Ext.thn x230 x238)) z9 (by omega) z6 ds[k].n).imp ?_⟩
        rintro e w242 ⟨p242, c242, rfl, o242, x242⟩
        have hkb : ∀ i ∈ kidsF ns2 ds[k].n, i ≤ 1000000000 := fun i hi => by have := (kid_ok z6 hi).1; omega
        have hkl2 : (kidsF ns2 ds[k].n).length ≤ ns2.length := kidsU_len ns2 _ _
        refine ⟨_, _, _, rfl, (samek_does ((ints_of o238 hkb).2.ext x242) (ints_of o242 hkb).2 (by rw [List.length_map]) (by rw [List.length_map]) c238 c242 (by rw [List.length_map]; omega)).imp ?_⟩
        rintro e w243 ⟨rfl, x243⟩
        exact ⟨_, rfl, fls (by simp) ⟨inI64 (by omega) (by omega), _, by omega, k + 1, ns2, cur2, by omega, rfl, hkl, pi_ext ⟨A2, B2, y1, y2, z3, z4, z5, z6, z7, z8, z9, by omega, z11, x12⟩ (Ext.thn x230 (Ext.thn x238 (Ext.thn x242 x243)))⟩⟩
      refine brr (fun q => ?_) fun q => ⟨_, fun v hv => hv.cell hc1, tailK (Upd.refl _ _)⟩
      have q := of_decide_eq_true q
      have hi : ds[k].n.toNat < ns2.length := by omega
      have hg : ns2.getD ds[k].n.toNat ⟨0, [], 0⟩ = ns2[ds[k].n.toNat] := by rw [List.getD_eq_getElem?_getD, List.getElem?_eq_getElem hi]; rfl
      rw [if_pos q, hg] at hb31 o173 i173 j173
      have en : (ds[k].n + 1).toNat = ds[k].n.toNat + 1 := by omega
      refine ⟨_, fun v hv => (Ext.thn xd hv).cell (hb31.cell 0 rfl), _, _, _, fun v hv => (Ext.thn xd hv).cell (hb31.cell 1 rfl), _, fun v hv => (Ext.thn xd hv).cell (hb31.cell 2 rfl), fun b219 w219 hb219 => ⟨hb219.ext, m, 0, rfl, _, _, _, fun v hv => hv.cell m1, _, fun v hv => hv.cell hc1, _, fun v hv => hv.cell hc1, inI64 (by omega) (by omega), ⟨by omega, by omega⟩, ⟨by omega, by omega⟩, ?_⟩⟩
      have o219 := o173.ext EditV.stable EditV.widens (Ext.thn hb31.ext (Ext.thn xd hb219.ext))
      have hone : Nodes w219 (fun _ => True) (some ⟨b219, 0, none⟩) [ns2[ds[k].n.toNat]] := hb219.rs1 trivial ⟨p173, c173, rfl, i173, j173, OwnL.cap o219, (OwnL.edits o219).ok fun _ _ _ => trivial⟩
      have hsub := RS.sub (m2.ext hb219.ext) ds[k].n.toNat (ds[k].n.toNat + 1) cm (by omega)
      have hl1 : (ns2.take (ds[k].n.toNat + 1)).drop ds[k].n.toNat = [ns2[ds[k].n.toNat]] := by
        rw [List.take_succ_eq_append_getElem hi, List.drop_append_of_le_length (by rw [List.length_take]; omega), List.drop_of_length_le (by rw [List.length_take]; omega), List.nil_append]
      rw [hl1] at hsub
      rw [en, show ds[k].n.toNat + 1 - ds[k].n.toNat = 1 by omega]
      refine (samen_does hone hsub rfl rfl 1 _ (by simp) fun n hn => by rw [List.mem_singleton.1 hn]; exact z7 _ (List.getElem_mem hi)).imp ?_
      rintro e w230 ⟨rfl, x230⟩
      exact ⟨_, rfl, Ext.thn hb219.ext x230, fls (by simp) ⟨_, fun v hv => hv.cell hc1, tailK (Ext.thn hb219.ext x230)⟩⟩
  · have jj := of_decide_eq_false jj
    intro wd hd
    have y1 := h1.ext hd.ext
    have y2 := h2.ext hd.ext
    obtain ⟨pm, cm, mc, m1, m2⟩ := y2.hs.row
    refine ⟨fun v => Ext wd v, Upd.refl _ _, (nodes_does y1 h9 (by omega) h7).imp ?_⟩
    rintro e w247 ⟨p247, c247, rfl, o247, x247⟩
    refine ⟨_, _, _, rfl, x247, m, 0, rfl, _, _, _, fun v hv => hv.cell m1, (samen_does (OwnL.nodes o247) (m2.ext x247) rfl rfl _ _ (by omega) h7).imp ?_⟩
    rintro e w252 ⟨rfl, x252⟩
    have x252' := Ext.thn x247 x252
    refine ⟨_, rfl, x252', tru (by simp) ((clone_does (y1.ext x252') h9 (by omega)).imp ?_)⟩
    rintro e w255 ⟨b', A', rfl, hC, x255⟩
    refine ⟨_, rfl, Ext.thn x252' x255, (nodes_does hC h9 (by omega) h7).imp ?_⟩
    rintro e w256 ⟨p256, c256, rfl, o256, x256⟩
    have x256' := Ext.thn x252' (Ext.thn x255 x256)
    refine ⟨_, _, _, rfl, x256', m, 0, rfl, _, _, _, fun v hv => hv.cell m1, (samen_does (OwnL.nodes o256) (m2.ext x256') rfl rfl _ _ (by omega) h7).imp ?_⟩
    rintro e w261 ⟨rfl, x261⟩
    exact ⟨_, rfl, by simp, Ext.thn x33 (Ext.thn (Ext.thn h12 hd.ext) (Ext.thn x256' x261))⟩
end
end Go.Proofs.Ytbnjlnbmdkbpkaa
