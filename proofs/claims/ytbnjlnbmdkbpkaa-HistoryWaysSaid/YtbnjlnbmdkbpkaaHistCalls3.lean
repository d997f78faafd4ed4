/-
  Histories: what each function of the code does: steps.
-/
import Derived.Test.YtbnjlnbmdkbpkaaHistCalls2
import Derived.Test.YtbnjlnbmdkbpkaaHistWay
namespace Go.Proofs.Ytbnjlnbmdkbpkaa
open Go.RowKit Go.Vc
section
variable {w : World} {A : Nat → Prop} {b : Nat} {ns : List Nd} {cur : Nat}
theorem slI : SlT Try.prog 48 3 1 8 := ⟨Try.underlying48, _, _, rfl, rfl, rfl, rfl, rfl, by decide⟩
/-- One number appended to an own row. -/
theorem append_i {w0 wl w1 : World} {p : Option Addr} {l c : Nat} {ks : List Nat} {k : Nat} (ho : Own wl w0.heap.size 3 1 p l c (ks.map fun n : Nat => Value.int .i64 n)) (hw : Ext w0 wl) {b1 : Nat} (hb : NewBlk wl b1 [.int .i64 (k : Int)] 3 w1) (hl : l ≤ 1000000000) :
    ∃ p' c' w', (Builtin.append_ #[48, 48] 48 #[.slice p l c, .slice (some ⟨b1, 0, none⟩) 1 1]).run Try.prog w1 = .ok (.slice p' (l + 1) c') w' ∧ Own w' w0.heap.size 3 1 p' (l + 1) c' ((ks ++ [k]).map fun n : Nat => Value.int .i64 n) ∧ Ext w0 w' := by
  obtain ⟨p', c', w', hr, ho', hu, _⟩ := append_own slI 48 (ho.ext hb.ext) (p2 := some ⟨b1, 0, none⟩) (l2 := 1) (c2 := 1) (news := [.int .i64 (k : Int)]) rfl hb.src (by simp [Value.oneCell']) (by simp only [maxLen]; omega) (by omega) (by have := hw.size; have := hb.size; omega)
  exact ⟨p', c', w', hr, by rw [List.map_append]; exact ho', Own.ext_of (ho.ext hb.ext) hu (Ext.thn hw hb.ext) (Nat.le_refl _)⟩
theorem ints_of {w : World} {base : Nat} {p : Option Addr} {l c : Nat} {ks : List Nat} (ho : Own w base 3 1 p l c (ks.map fun n : Nat => Value.int .i64 n)) (hk : ∀ k ∈ ks, k ≤ 1000000000) : l = ks.length ∧ Ints .i64 w (fun g => base ≤ g ∧ g < w.heap.size) p (ks.map fun n : Nat => (n : Int)) := by
  have e : (ks.map fun n : Nat => Value.int .i64 n) = (ks.map fun n : Nat => (n : Int)).map (Value.int .i64) := by rw [List.map_map]; rfl
  refine ⟨by have := ho.len; rw [List.length_map] at this; exact this, ?_⟩
  rw [e] at ho
  refine ho.ints fun x hx => ?_
  obtain ⟨k, hk', rfl⟩ := List.mem_map.1 hx
  exact inI64 (by omega) (by have := hk k hk'; omega)
/-- Kids that are told. -/
def TellsK (w : World) (ks : List Nat) (e : Ending) (w' : World) : Prop := ∃ p c, e = .returned (.slice p ks.length c) ∧ Own w' w.heap.size 3 1 p ks.length c (ks.map fun n : Nat => Value.int .i64 n) ∧ Ext w w'
theorem kids_does (h : Hs w A b ns cur) (hn : 0 < ns.length) (hn6 : ns.length ≤ 65536) (ok : okL ns) (i : Int) : Does Try.prog 19 #[.pointer (some ⟨b, 0, none⟩), .int .i64 i] w (TellsK w (kidsF ns i)) := by
  apply f19_does
  refine (there_does h hn i).imp ?_
  rintro e w1 ⟨rfl, rfl⟩
  refine ⟨_, rfl, brr (fun j => ?_) fun j => ?_⟩
  · have j : ¬ (0 ≤ i ∧ i < ns.length) := not_dec j
    rw [kids_out ok j]
    exact ⟨none, 0, rfl, own_nil _ _ _ _, Upd.refl _ _⟩
  have j : 0 ≤ i ∧ i < ns.length := yes_dec j
  obtain ⟨p, c, _, h1, h2⟩ := h.row
  refine ⟨b, 0, rfl, _, _, _, h1, fun p l c x n wl => ∃ k : Nat, x = (k : Int) ∧ n = ns.length - k ∧ k ≤ ns.length ∧ l = (kidsU ns i k).length ∧ Own wl w1.heap.size 3 1 p l c ((kidsU ns i k).map fun n : Nat => Value.int .i64 n) ∧ Ext w1 wl,
    ⟨_, 0, rfl, rfl, Nat.zero_le _, rfl, own_nil _ _ _ _, Upd.refl _ _⟩, ?_⟩
  rintro p5 _ c5 _ _ wl ⟨k, rfl, rfl, hk, rfl, ho, hw⟩
  have hlen := kidsU_len ns i k
  refine brr (fun jj => ?_) fun jj => ?_
  · have jj := of_decide_eq_true jj
    have hlt : k < ns.length := by omega
    obtain ⟨bb, o, p1, c1, hp, _, a1, a2, a3, i1, i2, i3, a4⟩ := (h2.ext hw).at k hlt
    have hik := isKid_at (i := i) hlt
    rw [decide_eq_true j.1, Bool.true_and] at hik
    refine ⟨⟨by omega, by omega⟩, bb, o, hp, _, a1, _, _, _, a2, _, a3, fun b7 w7 hb7 => fill3 hb7 fun w8 hb8 => ⟨_, hb8.cell 0 rfl, brr (fun q b28 w28 hb28 => ?_) fun q => ?_⟩⟩
    · have q : ns[k].par = i := by simpa using q
      rw [decide_eq_true q] at hik
      obtain ⟨p', c', w', hr, ho', hx⟩ := append_i (k := k) (ho.ext hb8.ext) (Ext.thn hw hb8.ext) hb28 (by omega)
      have e := kidsU_succ ns i k
      rw [if_pos hik] at e
      rw [← e] at ho'
      have e2 : (kidsU ns i k).length + 1 = (kidsU ns i (k + 1)).length := by rw [e]; simp
      exact ⟨p', _, c', w', hr, inI64 (by omega) (by omega), _, by omega, k + 1, by omega, rfl, hlt, e2, ho', hx⟩
    · have q : ns[k].par ≠ i := by simpa using q
      rw [decide_eq_false q] at hik
      have e := kidsU_succ ns i k
      rw [if_neg (by rw [hik]; decide), List.append_nil] at e
      exact ⟨inI64 (by omega) (by omega), _, by omega, k + 1, by omega, rfl, hlt, by rw [e], by rw [e]; exact ho.ext hb8.ext, Ext.thn hw hb8.ext⟩
  · have jj := of_decide_eq_false jj
    obtain rfl : k = ns.length := by omega
    exact ⟨p5, c5, rfl, ho, hw⟩
theorem rkids_does (h : Hs w A b ns cur) (hn : 0 < ns.length) (hn6 : ns.length ≤ 65536) (ok : okL ns) (i : Int) : Does Try.prog 33 #[.pointer (some ⟨b, 0, none⟩), .int .i64 i] w (TellsK w (kidsF ns i)) := by
  apply f33_does
  refine ⟨fun p l c x n wl => ∃ k : Nat, x = (k : Int) ∧ n = ns.length - k ∧ k ≤ ns.length ∧ l = (kidsU ns i k).length ∧ Own wl w.heap.size 3 1 p l c ((kidsU ns i k).map fun n : Nat => Value.int .i64 n) ∧ Ext w wl,
    ⟨_, 1, rfl, rfl, hn, by rw [kids_zero ok hn]; rfl, by rw [kids_zero ok hn]; exact own_nil _ _ _ _, Upd.refl _ _⟩, ?_⟩
  rintro p5 _ c5 _ _ wl ⟨k, rfl, rfl, hk, rfl, ho, hw⟩
  have hlen := kidsU_len ns i k
  obtain ⟨p, c, _, h1, h2⟩ := (h.ext hw).row
  refine ⟨b, 0, rfl, _, _, _, h1, brr (fun jj => ?_) fun jj => ?_⟩
  · have jj := of_decide_eq_true jj
    have hlt : k < ns.length := by omega
    obtain ⟨bb, o, p1, c1, hp, _, a1, a2, a3, i1, i2, i3, a4⟩ := h2.at k hlt
    have hik := isKid_at (i := i) hlt
    have skip : isKid ns i k = false → InK .i64 ((k : Int) + 1) ∧ ∃ ml, ml < ns.length - k ∧ ∃ k' : Nat, (k : Int) + 1 = k' ∧ ml = ns.length - k' ∧ k' ≤ ns.length ∧ (kidsU ns i k).length = (kidsU ns i k').length ∧ Own wl w.heap.size 3 1 p5 (kidsU ns i k).length c5 ((kidsU ns i k').map fun n : Nat => Value.int .i64 n) ∧ Ext w wl := fun q => by
      have e := kidsU_succ ns i k
      rw [if_neg (by rw [q]; decide), List.append_nil] at e
      exact ⟨inI64 (by omega) (by omega), _, by omega, k + 1, by omega, rfl, hlt, by rw [e], by rw [e]; exact ho, hw⟩
    refine brr (fun q0 => ⟨b, 0, rfl, _, _, _, h1, ⟨by omega, by omega⟩, bb, o, hp, _, a1, brr (fun q b28 w28 hb28 => ?_) fun q => skip ?_⟩) fun q0 => skip ?_
    · have q : ns[k].par = i := by simpa using q
      rw [decide_eq_true (of_decide_eq_true q0), Bool.true_and, decide_eq_true q] at hik
      obtain ⟨p', c', w', hr, ho', hx⟩ := append_i (k := k) ho hw hb28 (by omega)
      have e := kidsU_succ ns i k
      rw [if_pos hik] at e
      rw [← e] at ho'
      have e2 : (kidsU ns i k).length + 1 = (kidsU ns i (k + 1)).length := by rw [e]; simp
      exact ⟨p', _, c', w', hr, inI64 (by omega) (by omega), _, by omega, k + 1, by omega, rfl, hlt, e2, ho', hx⟩
    · have q : ns[k].par ≠ i := by simpa using q
      rw [hik, decide_eq_false q, Bool.and_false]
    · have q : ¬ i ≥ 0 := of_decide_eq_false q0
      rw [hik, decide_eq_false (by omega), Bool.false_and]
  · have jj := of_decide_eq_false jj
    obtain rfl : k = ns.length := by omega
    exact ⟨p5, c5, rfl, ho, hw⟩
/-! ### What keeps the nodes -/
structure Keeps (St : World → Nat → Prop) (A : Nat → Prop) (b : Nat) (ns : List Nd) : Prop where
  hs : ∀ w cur, St w cur → Hs w A b ns cur
  goto : ∀ w w' cur (cur' : Nat), St w cur → Stored w b 1 (.int .i64 (cur' : Int)) w' → St w' cur'
  upd : ∀ w w' cur T, St w cur → Upd T w w' → (∀ k, A k → ¬ T k) → St w' cur
theorem Keeps.ext {St : World → Nat → Prop} (K : Keeps St A b ns) (w w' : World) (cur : Nat) (h : St w cur) (x : Ext w w') : St w' cur := K.upd w w' cur _ h x fun _ _ => id
theorem keeps_hs : Keeps (fun w c => Hs w A b ns c) A b ns := by
  refine ⟨fun _ _ h => h, fun w w' cur cur' h s => ?_, fun w w' cur T h x hA => h.upd x hA⟩
  obtain ⟨p, c, h1, h2, h3⟩ := h.row
  exact ⟨⟨p, c, h1, (s.other (.inr (by decide))).trans h2, h3.upd s.upd fun k hk => hk.2⟩, s.cell h.can1, s.can h.can0, s.can h.can1, h.mem, fun k hk => Nat.lt_of_lt_of_le (h.lt k hk) s.upd.size⟩
theorem keeps_ms {N : TypeId} : Keeps (fun w c => Ms N w A b ns c) A b ns := by
  refine ⟨fun _ _ h => h.hs, fun w w' cur cur' h s => ?_, fun w w' cur T h x hA => h.upd x hA⟩
  obtain ⟨p, c, vss, h1, h2, h3, h4⟩ := h.row
  exact ⟨⟨p, c, vss, (s.other (.inr (by decide))).trans h1, h2.upd s.upd fun a ha => (h4 a ha).2, h3.imp fun vs x ⟨q1, q2⟩ => ⟨q1, NodeV.stable _ _ _ _ _ _ s.upd (fun k hk => hk.2.1) q2⟩, h4⟩, s.cell h.can1, s.can h.can0, s.can h.can1, h.mem, fun k hk => Nat.lt_of_lt_of_le (h.lt k hk) s.upd.size⟩
/-- Edits that are told, a place, and whether there are any. -/
def TellsE (w : World) (es : List E) (at_ : Int) (ok : Bool) (T : Nat → Prop) (e : Ending) (w' : World) : Prop :=
  ∃ p c base, e = .returned (.tuple #[.slice p es.length c, .int .i64 at_, .bool ok]) ∧ OwnL EditV w' base 43 3 p es.length c es ∧ w.heap.size ≤ base ∧ Upd T w w'
variable {St : World → Nat → Prop}
/-- What Undo tells. -/
def undoE (ns : List Nd) (cur : Nat) : List E := if cur = 0 then [] else turnE (ns.getD cur rootN).es
def undoC (ns : List Nd) (cur : Nat) : Int := if cur = 0 then 0 else (ns.getD cur rootN).cur
def undoN (ns : List Nd) (cur : Nat) : Nat := if cur = 0 then 0 else (ns.getD cur rootN).par.toNat
theorem turnE_len (l : List E) : (turnE l).length = l.length := by unfold turnE; simp
theorem tells_none (w : World) (T : Nat → Prop) : TellsE w [] 0 false T (.returned (.tuple #[.slice none 0 0, .int .i64 0, .bool false])) w := ⟨none, 0, w.heap.size, rfl, OwnL.nil _ _ _ _, Nat.le_refl _, Upd.refl _ _⟩
theorem undo_does (K : Keeps St A b ns) (h : St w cur) (hn : 0 < ns.length) (hm : Mods ns) (ok : okL ns) (hc : cur < ns.length) (hn6 : ns.length ≤ 65536) :
    Does Try.prog 18 #[.pointer (some ⟨b, 0, none⟩)] w fun e w' => TellsE w (undoE ns cur) (undoC ns cur) (decide (cur ≠ 0)) (fun k => k = b) e w' ∧ St w' (undoN ns cur) := by
  apply f18_does
  have H := K.hs _ _ h
  refine (made_does H hn).imp ?_
  rintro e w1 ⟨rfl, rfl⟩
  refine ⟨_, rfl, fls rfl ⟨b, 0, rfl, _, H.at1, brr (fun j => ?_) fun j wd hd => ?_⟩⟩
  · obtain rfl : cur = 0 := by have : (cur : Int) = 0 := by simpa using j
                               omega
    exact ⟨tells_none _ _, h⟩
  have j : cur ≠ 0 := by
    have : (cur : Int) ≠ 0 := by simpa using j
    omega
  unfold undoE undoC undoN
  rw [if_neg j, if_neg j, if_neg j, getD_at hc, decide_eq_true j]
  have bl := below ok hc j
  have Hd := H.ext hd.ext
  obtain ⟨p, c, _, h1, h2⟩ := Hd.row
  obtain ⟨bb, o, p1, c1, hp, _, a1, a2, a3, i1, i2, i3, a4⟩ := h2.at cur hc
  refine ⟨fun v => Ext wd v, Upd.refl _ _, b, 0, rfl, _, _, _, fun v hv => hv.cell h1, b, 0, rfl, _, fun v hv => hv.cell Hd.at1, ⟨by omega, by omega⟩, bb, o, hp, _, fun v hv => hv.cell a1, _, _, _, fun v hv => hv.cell a2, _, fun v hv => hv.cell a3, fun b5 w5 hb5 => ⟨hb5.ext, fill3 hb5 fun w6 hb6 => ⟨_, hb6.cell 0 rfl, b, 0, rfl, hb6.ext.can Hd.can1, fun ws hs wd5 hd5 => ?_⟩⟩⟩
  have e1 : ns[cur].par = (ns[cur].par.toNat : Int) := by omega
  have hs' := hs
  rw [e1] at hs'
  have St6 := K.goto _ _ _ _ (K.ext _ _ _ h (Ext.thn hd.ext hb6.ext)) hs'
  have hne : b5 ≠ b := fun e => by have := Hd.lt b H.mem; have := hb6.eq; omega
  have us := hs.upd
  have k1 : wd5.cell? ⟨b5, 1, none⟩ = _ := hd5.ext.cell (us.cell hne (hb6.cell 1 rfl))
  have k2 : wd5.cell? ⟨b5, 2, none⟩ = _ := hd5.ext.cell (us.cell hne (hb6.cell 2 rfl))
  have hed : Edits wd5 (fun k => A k ∧ k ≠ b) p1 ns[cur].es := ((a4.ext hb6.ext).upd us fun k hk => hk.2).ext hd5.ext
  refine ⟨fun v => Ext wd5 v, Upd.refl _ _, _, _, _, k1, (turn_does hed rfl _ (hm _ (List.getElem_mem hc)).1 (hm _ (List.getElem_mem hc)).2).imp ?_⟩
  rintro e w33 ⟨p33, c33, rfl, o33, x33⟩
  have u5 : Upd (fun k => k = b) w1 wd5 := Ext.then (Upd.then (Upd.mono (Ext.thn hd.ext hb6.ext) fun k _ e => e.elim) us fun k _ e => e) hd5.ext
  have hlt := turnE_len ns[cur].es
  exact ⟨_, _, _, rfl, x33, _, fun v hv => hv.cell k2, ⟨p33, c33, wd5.heap.size, by rw [hlt], by rw [hlt]; exact o33, u5.size, Ext.then u5 x33⟩, K.ext _ _ _ St6 (Ext.thn hd5.ext x33)⟩
theorem rundo_does (K : Keeps St A b ns) (h : St w cur) (hn : 0 < ns.length) (hm : Mods ns) (ok : okL ns) (hc : cur < ns.length) (hn6 : ns.length ≤ 65536) :
    Does Try.prog 29 #[.pointer (some ⟨b, 0, none⟩)] w fun e w' => TellsE w (undoE ns cur) (undoC ns cur) (decide (cur ≠ 0)) (fun k => k = b) e w' ∧ St w' (undoN ns cur) := by
  apply f29_does
  have H := K.hs _ _ h
  refine ⟨b, 0, rfl, _, H.at1, brr (fun j => ?_) fun j wd hd => ?_⟩
  · obtain rfl : cur = 0 := by have : (cur : Int) = 0 := by simpa using j
                               omega
    exact ⟨tells_none _ _, h⟩
  have j : cur ≠ 0 := by
    have : (cur : Int) ≠ 0 := by simpa using j
    omega
  unfold undoE undoC undoN
  rw [if_neg j, if_neg j, if_neg j, getD_at hc, decide_eq_true j]
  have bl := below ok hc j
  have Hd := H.ext hd.ext
  obtain ⟨p, c, _, h1, h2⟩ := Hd.row
  obtain ⟨bb, o, p1, c1, hp, _, a1, a2, a3, i1, i2, i3, a4⟩ := h2.at cur hc
  refine ⟨fun v => Ext wd v, Upd.refl _ _, b, 0, rfl, _, _, _, fun v hv => hv.cell h1, b, 0, rfl, _, fun v hv => hv.cell Hd.at1, ⟨by omega, by omega⟩, bb, o, hp, _, fun v hv => hv.cell a1, _, _, _, fun v hv => hv.cell a2, _, fun v hv => hv.cell a3, fun b5 w5 hb5 => ⟨hb5.ext, fill3 hb5 fun w6 hb6 => ⟨_, hb6.cell 0 rfl, b, 0, rfl, hb6.ext.can Hd.can1, fun ws hs wd5 hd5 => ?_⟩⟩⟩
  have e1 : ns[cur].par = (ns[cur].par.toNat : Int) := by omega
  have hs' := hs
  rw [e1] at hs'
  have St6 := K.goto _ _ _ _ (K.ext _ _ _ h (Ext.thn hd.ext hb6.ext)) hs'
  have hne : b5 ≠ b := fun e => by have := Hd.lt b H.mem; have := hb6.eq; omega
  have us := hs.upd
  have k1 : wd5.cell? ⟨b5, 1, none⟩ = _ := hd5.ext.cell (us.cell hne (hb6.cell 1 rfl))
  have k2 : wd5.cell? ⟨b5, 2, none⟩ = _ := hd5.ext.cell (us.cell hne (hb6.cell 2 rfl))
  have hed : Edits wd5 (fun k => A k ∧ k ≠ b) p1 ns[cur].es := ((a4.ext hb6.ext).upd us fun k hk => hk.2).ext hd5.ext
  refine ⟨fun v => Ext wd5 v, Upd.refl _ _, _, _, _, k1, (rturn_does hed rfl _ (hm _ (List.getElem_mem hc)).1 (hm _ (List.getElem_mem hc)).2).imp ?_⟩
  rintro e w33 ⟨p33, c33, rfl, o33, x33⟩
  have u5 : Upd (fun k => k = b) w wd5 := Ext.then (Upd.then (Upd.mono (Ext.thn hd.ext hb6.ext) fun k _ e => e.elim) us fun k _ e => e) hd5.ext
  have hlt := turnE_len ns[cur].es
  exact ⟨_, _, _, rfl, x33, _, fun v hv => hv.cell k2, ⟨p33, c33, wd5.heap.size, by rw [hlt], by rw [hlt]; exact o33, u5.size, Ext.then u5 x33⟩, K.ext _ _ _ St6 (Ext.thn hd5.ext x33)⟩
/-- What Redo tells. -/
def redoK (ns : List Nd) (cur : Nat) : Option Nat := (kidsF ns cur).getLast?
def redoE (ns : List Nd) (cur : Nat) : List E := match redoK ns cur with | some k => (ns.getD k rootN).es | none => []
def redoC (ns : List Nd) (cur : Nat) : Int := match redoK ns cur with | some k => headAt (ns.getD k rootN).es | none => 0
def redoN (ns : List Nd) (cur : Nat) : Nat := match redoK ns cur with | some k => k | none => cur
theorem headAt_at {es : List E} (h : 0 < es.length) : headAt es = es[0].at_ := by unfold headAt; rw [List.getD_eq_getElem?_getD, List.getElem?_eq_getElem h]; rfl
theorem kid_ok {ns : List Nd} (ok : okL ns) {i : Int} {k : Nat} (h : k ∈ kidsF ns i) : k < ns.length ∧ k ≠ 0 := by
  obtain ⟨h1, h2, h3⟩ := mem_kids.1 h
  refine ⟨h1, fun e => ?_⟩
  subst e
  have h0 := ok 0 h1
  unfold mayN at h0
  rw [if_pos (by rfl)] at h0
  rw [getD_at h1] at h3
  omega
theorem last_kid {ns : List Nd} {cur : Nat} {w : World} {ok : Nat → Prop} {p : Option Addr} (hn6 : ns.length ≤ 65536) (h : Ints .i64 w ok p ((kidsF ns cur).map fun n : Nat => (n : Int))) (hne : (kidsF ns cur).length ≠ 0) :
    ∃ bb o, p = some ⟨bb, o, none⟩ ∧ ∃ k ∈ kidsF ns cur, redoK ns cur = some k ∧ w.cell? ⟨bb, o + (((kidsF ns cur).length : Int) - 1).toNat, none⟩ = some (.int .i64 (k : Int)) := by
  have hi : (kidsF ns cur).length - 1 < (kidsF ns cur).length := by omega
  obtain ⟨bb, o, hp, hc⟩ := h.at ((kidsF ns cur).length - 1) (by rw [List.length_map]; exact hi)
  refine ⟨bb, o, hp, _, List.getElem_mem hi, ?_, ?_⟩
  · unfold redoK
    rw [List.getLast?_eq_getElem?, List.getElem?_eq_getElem hi]
  · rw [List.getElem_map] at hc
    rw [show (((kidsF ns cur).length : Int) - 1).toNat = (kidsF ns cur).length - 1 by omega]
    exact hc
theorem redo_does (K : Keeps St A b ns) (h : St w cur) (hn : 0 < ns.length) (hm : Mods ns) (ok : okL ns) (hn6 : ns.length ≤ 65536) :
    Does Try.prog 20 #[.pointer (some ⟨b, 0, none⟩)] w fun e w' => TellsE w (redoE ns cur) (redoC ns cur) (redoK ns cur).isSome (fun k => k = b) e w' ∧ St w' (redoN ns cur) := by
  apply f20_does
  refine (current_does (K.hs _ _ h) hn).imp ?_
  rintro e w1 ⟨rfl, rfl⟩
  refine ⟨_, rfl, (kids_does (K.hs _ _ h) hn hn6 ok cur).imp ?_⟩
  rintro e w10 ⟨p10, c10, rfl, o10, x10⟩
  have h10 := K.ext _ _ _ h x10
  have H := K.hs _ _ h10
  refine ⟨_, _, _, rfl, brr (fun j => ?_) fun j => ?_⟩
  · have : redoK ns cur = none := by
      unfold redoK
      have : (kidsF ns cur) = [] := by
        have : ((kidsF ns cur).length : Int) = 0 := by simpa using j
        exact List.length_eq_zero_iff.1 (by omega)
      rw [this]; rfl
    unfold redoE redoC redoN
    rw [this]
    obtain ⟨p, c, base, h1, h2, h3, h4⟩ := tells_none w10 (fun k => k = b)
    exact ⟨⟨p, c, base, h1, h2, Nat.le_trans x10.size h3, Upd.mono x10 fun k _ e => e.elim⟩, h10⟩
  have j : (kidsF ns cur).length ≠ 0 := by
    have : ((kidsF ns cur).length : Int) ≠ 0 := by simpa using j
    omega
  obtain ⟨_, hI⟩ := ints_of o10 fun k hk => by have := (kid_ok ok hk).1; omega
  obtain ⟨bb, o, hp, k, hkm, hk, hcell⟩ := last_kid hn6 hI j
  obtain ⟨hkl, hk0⟩ := kid_ok ok hkm
  have bl := below ok hkl hk0
  have hlen0 : 0 < ns[k].es.length := by
    have := bl.2.2.1
    cases hh : ns[k].es with
    | nil => exact absurd hh this
    | cons => simp
  have hkl' := kidsU_len ns cur ns.length
  unfold redoE redoC redoN
  rw [hk]
  simp only [getD_at hkl, Option.isSome_some]
  refine ⟨inI64 (by omega) (by unfold kidsF; omega), ⟨by omega, by omega⟩, bb, o, hp, _, hcell, b, 0, rfl, H.can1, fun ws hs wd hd => ?_⟩
  have St6 := K.ext _ _ _ (K.goto _ _ _ _ h10 hs) hd.ext
  have H6 := K.hs _ _ St6
  obtain ⟨p, c, _, h1, h2⟩ := H6.row
  obtain ⟨b2, o2, p1, c1, hp1, _, a1, a2, a3, i1, i2, i3, a4⟩ := h2.at k hkl
  refine ⟨b, 0, rfl, _, _, _, h1, b, 0, rfl, _, H6.at1, ⟨by omega, by omega⟩, b2, o2, hp1, _, _, _, a2, (owns_does a4 rfl _ (hm _ (List.getElem_mem hkl))).imp ?_⟩
  rintro e w34 ⟨p34, c34, rfl, o34, x34⟩
  refine ⟨_, _, _, rfl, fun wd6 hd6 => ?_⟩
  have o34' := o34.ext EditV.stable EditV.widens hd6.ext
  obtain ⟨b3, o3, q1, d1, q2, d2, hq, _, e1, _⟩ := (OwnL.edits o34').at 0 hlen0
  refine ⟨⟨by omega, by omega⟩, b3, o3, hq, _, e1, ?_⟩
  have u5 : Upd (fun k => k = b) w1 wd := Ext.then (Upd.then (Upd.mono x10 fun k _ e => e.elim) hs.upd fun k _ e => e) hd.ext
  exact ⟨⟨p34, c34, wd.heap.size, by rw [headAt_at hlen0], o34', u5.size, Ext.then u5 (Ext.thn x34 hd6.ext)⟩, K.ext _ _ _ St6 (Ext.thn x34 hd6.ext)⟩
theorem down_does (K : Keeps St A b ns) (h : St w cur) (hm : Mods ns) (ok : okL ns) {k : Nat} (hkl : k < ns.length) (hk0 : k ≠ 0) (hn6 : ns.length ≤ 65536) :
    Does Try.prog 49 #[.pointer (some ⟨b, 0, none⟩), .int .i64 (k : Int)] w fun e w' => ∃ p c base, e = .returned (.tuple #[.slice p ns[k].es.length c, .int .i64 (headAt ns[k].es)]) ∧ OwnL EditV w' base 43 3 p ns[k].es.length c ns[k].es ∧ w.heap.size ≤ base ∧ Upd (fun k => k = b) w w' ∧ St w' k := by
  apply f49_does
  have bl := below ok hkl hk0
  have hlen0 : 0 < ns[k].es.length := by
    have := bl.2.2.1
    cases hh : ns[k].es with
    | nil => exact absurd hh this
    | cons => simp
  refine ⟨b, 0, rfl, (K.hs _ _ h).can1, fun ws hs wd hd => ?_⟩
  have St6 := K.ext _ _ _ (K.goto _ _ _ _ h hs) hd.ext
  have H6 := K.hs _ _ St6
  obtain ⟨p, c, _, h1, h2⟩ := H6.row
  obtain ⟨b2, o2, p1, c1, hp1, _, a1, a2, a3, i1, i2, i3, a4⟩ := h2.at k hkl
  refine ⟨fun v => Ext wd v, Upd.refl _ _, b, 0, rfl, _, _, _, h1, ⟨by omega, by omega⟩, b2, o2, hp1, _, _, _, a2, (copye_does a4 rfl _ (hm _ (List.getElem_mem hkl))).imp ?_⟩
  rintro e w18 ⟨p18, c18, rfl, o18, x18⟩
  obtain ⟨b3, o3, q1, d1, q2, d2, hq, _, e1, _⟩ := a4.at 0 hlen0
  refine ⟨_, _, _, rfl, x18, b, 0, rfl, _, _, _, fun v hv => hv.cell h1, ⟨by omega, by omega⟩, b2, o2, hp1, _, _, _, fun v hv => hv.cell a2, ⟨by omega, by omega⟩, b3, o3, hq, _, fun v hv => hv.cell e1, ?_⟩
  have u5 : Upd (fun k => k = b) w wd := Ext.then hs.upd hd.ext
  exact ⟨p18, c18, wd.heap.size, by rw [headAt_at hlen0], o18, u5.size, Ext.then u5 x18, K.ext _ _ _ St6 x18⟩
theorem rredo_does (K : Keeps St A b ns) (h : St w cur) (hn : 0 < ns.length) (hm : Mods ns) (ok : okL ns) (hn6 : ns.length ≤ 65536) :
    Does Try.prog 30 #[.pointer (some ⟨b, 0, none⟩)] w fun e w' => TellsE w (redoE ns cur) (redoC ns cur) (redoK ns cur).isSome (fun k => k = b) e w' ∧ St w' (redoN ns cur) := by
  apply f30_does
  refine ⟨b, 0, rfl, _, (K.hs _ _ h).at1, (rkids_does (K.hs _ _ h) hn hn6 ok cur).imp ?_⟩
  rintro e w10 ⟨p10, c10, rfl, o10, x10⟩
  have h10 := K.ext _ _ _ h x10
  refine ⟨_, _, _, rfl, brr (fun j => ?_) fun j => ?_⟩
  · have : redoK ns cur = none := by
      unfold redoK
      have : (kidsF ns cur) = [] := by
        have : ((kidsF ns cur).length : Int) = 0 := by simpa using j
        exact List.length_eq_zero_iff.1 (by omega)
      rw [this]; rfl
    unfold redoE redoC redoN
    rw [this]
    obtain ⟨p, c, base, h1, h2, h3, h4⟩ := tells_none w10 (fun k => k = b)
    exact ⟨⟨p, c, base, h1, h2, Nat.le_trans x10.size h3, Upd.mono x10 fun k _ e => e.elim⟩, h10⟩
  have j : (kidsF ns cur).length ≠ 0 := by
    have : ((kidsF ns cur).length : Int) ≠ 0 := by simpa using j
    omega
  obtain ⟨_, hI⟩ := ints_of o10 fun k hk => by have := (kid_ok ok hk).1; omega
  obtain ⟨bb, o, hp, k, hkm, hk, hcell⟩ := last_kid hn6 hI j
  obtain ⟨hkl, hk0⟩ := kid_ok ok hkm
  have hkl' := kidsU_len ns cur ns.length
  unfold redoE redoC redoN
  rw [hk]
  simp only [getD_at hkl, Option.isSome_some]
  refine ⟨inI64 (by omega) (by unfold kidsF; omega), ⟨by omega, by omega⟩, bb, o, hp, _, hcell, (down_does K h10 hm ok hkl hk0 hn6).imp ?_⟩
  rintro e w25 ⟨p25, c25, base, rfl, o25, hb25, u25, h25⟩
  exact ⟨_, _, _, _, rfl, ⟨p25, c25, base, rfl, o25, Nat.le_trans x10.size hb25, Upd.then (Upd.mono x10 fun k _ e => e.elim) u25 fun k _ e => e⟩, h25⟩
end
end Go.Proofs.Ytbnjlnbmdkbpkaa
