/-
  Histories: the statements' functions answer true: the examples; short ways.
-/
import Derived.Test.YtbnjlnbmdkbpkaaHistLaws
import Derived.Test.YtbnjlnbmdkbpkaaHistJump2
namespace Go.Vc
open Go.RowKit
/-! ### Deeds -/
structure Dd where
  act : Int
  n : Int
  cur : Int
  es : List E
def DeedV (w : World) (ok : Nat → Prop) (vs : List Value) (d : Dd) : Prop :=
  (∃ p c, vs = [.int .i64 d.act, .int .i64 d.n, .int .i64 d.cur, .slice p d.es.length c] ∧ InK .i64 d.act ∧ InK .i64 d.n ∧ InK .i64 d.cur ∧ d.es.length ≤ c ∧ Edits w ok p d.es) ∧ d.es.length ≤ maxLen
theorem DeedV.stable : StableV DeedV := fun _ _ _ _ _ _ hu ht ⟨⟨p, c, h1, h2, h3, h4, h5, h6⟩, h7⟩ => ⟨⟨p, c, h1, h2, h3, h4, h5, h6.upd hu ht⟩, h7⟩
abbrev Deeds (w : World) (ok : Nat → Prop) (p : Option Addr) (ds : List Dd) : Prop := RS 4 (ElemC DeedV) w ok p ds
theorem Deeds.ext {w w' : World} {ok : Nat → Prop} {p : Option Addr} {ds : List Dd} (h : Deeds w ok p ds) (hu : Ext w w') : Deeds w' ok p ds := RS.ext (ElemC.stable DeedV.stable) h hu
theorem Deeds.at {w : World} {ok : Nat → Prop} {p : Option Addr} {ds : List Dd} (h : Deeds w ok p ds) (i : Nat) (hi : i < ds.length) :
    ∃ b o p1 c1, p = some ⟨b, o, none⟩ ∧ w.cell? ⟨b, o + i * 4, none⟩ = some (.int .i64 ds[i].act) ∧ w.cell? ⟨b, o + i * 4 + 1, none⟩ = some (.int .i64 ds[i].n) ∧ w.cell? ⟨b, o + i * 4 + 2, none⟩ = some (.int .i64 ds[i].cur) ∧
      w.cell? ⟨b, o + i * 4 + 3, none⟩ = some (.slice p1 ds[i].es.length c1) ∧ InK .i64 ds[i].act ∧ InK .i64 ds[i].n ∧ InK .i64 ds[i].cur ∧ ds[i].es.length ≤ c1 ∧ Edits w ok p1 ds[i].es ∧ ds[i].es.length ≤ maxLen := by
  obtain ⟨b, o, hp, hb, _, vs, ⟨⟨p1, c1, rfl, h2, h3, h4, h5, h6⟩, h7⟩, hc⟩ := h i hi
  exact ⟨b, o, p1, c1, hp, hc 0 _ rfl, hc 1 _ rfl, hc 2 _ rfl, hc 3 _ rfl, h2, h3, h4, h5, h6, h7⟩
def Small (es : List E) : Prop := es.length ≤ 10 ∧ ∀ e ∈ es, e.old.length ≤ 300 ∧ e.new.length ≤ 300
theorem Small.mod {es : List E} (h : Small es) : Mod es := ⟨by have := h.1; omega, fun e he => by have := h.2 e he; omega⟩
theorem and_bound (x : Int) (m : Nat) (hm : m < 4611686018427387904) : 0 ≤ bits .and .i64 x (m : Int) ∧ bits .and .i64 x (m : Int) ≤ m := by
  have em : (BitVec.ofInt 64 (m : Int)).toNat = m := by rw [BitVec.ofInt_natCast, BitVec.toNat_ofNat]; exact Nat.mod_eq_of_lt (by omega)
  have hle : ((BitVec.ofInt 64 x) &&& (BitVec.ofInt 64 (m : Int))).toNat ≤ m := by
    rw [BitVec.toNat_and, em]; exact Nat.and_le_right
  have e : bits .and .i64 x (m : Int) = (((BitVec.ofInt 64 x) &&& (BitVec.ofInt 64 (m : Int))).toNat : Int) := by
    show IntKind.wrap .i64 ((((BitVec.ofInt 64 x) &&& (BitVec.ofInt 64 (m : Int))).toNat : Nat) : Int) = _
    exact wrap_in ⟨by show (-9223372036854775808 : Int) ≤ _; omega, by show _ ≤ (9223372036854775807 : Int); omega⟩
  rw [e]
  omega
/-! ### Kids, counted -/
def cntU (ns : List Nd) (j : Nat) (m : Nat) : Nat := ((List.range m).filter fun k => decide (0 ≤ (ns.getD k rootN).par) && decide ((ns.getD k rootN).par < j)).length
theorem cntU_succ (ns : List Nd) (j m : Nat) : cntU ns j (m + 1) = cntU ns j m + if 0 ≤ (ns.getD m rootN).par ∧ (ns.getD m rootN).par < j then 1 else 0 := by
  unfold cntU
  rw [List.range_succ, List.filter_append, List.length_append]
  congr 1
  by_cases h : 0 ≤ (ns.getD m rootN).par ∧ (ns.getD m rootN).par < j
  · rw [if_pos h]
    have : (decide (0 ≤ (ns.getD m rootN).par) && decide ((ns.getD m rootN).par < j)) = true := by
      rw [Bool.and_eq_true, decide_eq_true_iff, decide_eq_true_iff]
      exact h
    simp only [List.filter_cons, this]; rfl
  · rw [if_neg h]
    have : (decide (0 ≤ (ns.getD m rootN).par) && decide ((ns.getD m rootN).par < j)) = false := by
      rw [Bool.and_eq_false_iff, decide_eq_false_iff_not, decide_eq_false_iff_not]
      omega
    simp only [List.filter_cons, this]; rfl
theorem cntU_step (ns : List Nd) (j : Nat) : ∀ m, cntU ns (j + 1) m = cntU ns j m + (kidsU ns j m).length
  | 0 => rfl
  | m + 1 => by
    rw [cntU_succ, cntU_succ, kidsU_succ, List.length_append, cntU_step ns j m]
    by_cases h : isKid ns j m = true
    · rw [if_pos h]
      unfold isKid at h
      rw [Bool.and_eq_true, decide_eq_true_iff, decide_eq_true_iff] at h
      rw [if_pos (by omega), if_neg (by omega)]; simp; omega
    · rw [if_neg h]
      unfold isKid at h
      rw [Bool.and_eq_true, decide_eq_true_iff, decide_eq_true_iff] at h
      by_cases h2 : 0 ≤ (ns.getD m rootN).par ∧ (ns.getD m rootN).par < j
      · rw [if_pos (by omega), if_pos h2]; simp; omega
      · rw [if_neg (by omega), if_neg h2]; simp
theorem cntU_zero (ns : List Nd) : ∀ m, cntU ns 0 m = 0
  | 0 => rfl
  | m + 1 => by rw [cntU_succ, cntU_zero ns m, if_neg (by omega)]
theorem cntU_all {ns : List Nd} (ok : okL ns) : ∀ m, m ≤ ns.length → 0 < m → cntU ns ns.length m + 1 = m
  | 0, _, h => by omega
  | m + 1, h, _ => by
    rw [cntU_succ, getD_at (by omega)]
    have hp := par_lt ok (show m < ns.length by omega)
    rcases Nat.eq_zero_or_pos m with rfl | h0
    · rw [if_neg (by omega)]
      rfl
    · have hb := below ok (show m < ns.length by omega) (by omega)
      rw [if_pos (by omega)]
      have := cntU_all ok m (by omega) h0
      omega
theorem kids_rise {ns : List Nd} {i : Int} {x y : Nat} (hxy : x < y) (hy : y < (kidsF ns i).length) : (kidsF ns i)[x]'(by omega) < (kidsF ns i)[y] := by
  have : (kidsF ns i).Pairwise (· < ·) := List.Pairwise.filter _ List.pairwise_lt_range
  exact List.pairwise_iff_getElem.1 this x y (by omega) hy hxy
end Go.Vc
namespace Go.Proofs.Ytbnjlnbmdkbpkaa
open Go.RowKit Go.Vc
/-- A history that the call has made. -/
def HI (w0 wl : World) (b : Nat) (ns : List Nd) (cur : Nat) (bd : Nat) : Prop :=
  ∃ A, Hs wl A b ns cur ∧ (∀ k, A k → w0.heap.size ≤ k) ∧ okL ns ∧ Mods ns ∧ (∀ n ∈ ns, n.es.length ≤ 10000) ∧ 0 < ns.length ∧ ns.length ≤ bd ∧ cur < ns.length ∧ Ext w0 wl
section
variable {w : World} {ok : Nat → Prop} {p : Option Addr} {ds : List Dd}
theorem hi_ext {w0 wl wl' : World} {b cur bd : Nat} {ns : List Nd} (h : HI w0 wl b ns cur bd) (hx : Ext wl wl') : HI w0 wl' b ns cur bd := by
  obtain ⟨A, h1, h2, h3, h4, h5, h6, h7, h8, h9⟩ := h
  exact ⟨A, h1.ext hx, h2, h3, h4, h5, h6, h7, h8, Ext.thn h9 hx⟩
theorem hi_lt {w0 wl : World} {b cur bd : Nat} {ns : List Nd} (h : HI w0 wl b ns cur bd) : w0.heap.size ≤ b ∧ b < wl.heap.size ∧ Ext w0 wl ∧ 0 < ns.length ∧ cur < ns.length := by
  obtain ⟨A, h1, h2, h3, h4, h5, h6, h7, h8, h9⟩ := h
  exact ⟨h2 b h1.mem, h1.lt b h1.mem, h9, h6, h8⟩
theorem ext_upd {w0 wl wl' : World} {b : Nat} (h : Ext w0 wl) (hb : w0.heap.size ≤ b) (hu : Upd (fun k => k = b) wl wl') : Ext w0 wl' := Upd.then h hu fun k hk e => by have e : k = b := e; omega
theorem new_hi (hw : Ext w w) : Does Try.prog (15) #[] w fun e w' => ∃ b, e = .returned (.pointer (some ⟨b, 0, none⟩)) ∧ HI w w' b [rootN] 0 1 :=
  new_does.imp fun e w' ⟨b, h1, h2, h3⟩ => ⟨b, h1, _, h2.hs, fun k hk => hk.1, okL_root, mods_root, fun n hn => by rw [List.mem_singleton.1 hn]; exact Nat.zero_le _, by decide, by decide, by decide, h3⟩
theorem add_hi {w0 wl : World} {b cur bd : Nat} {ns : List Nd} (h : HI w0 wl b ns cur bd) (hbd : bd ≤ 60000) {ok : Nat → Prop} {p : Option Addr} {es : List E} (hx : Edits wl ok p es) {l : Nat} (hl : l = es.length) (c : Nat) (hm : Mod es) (h10 : es.length ≤ 10000) (cu : Int) (hcu : InK .i64 cu) :
    Does Try.prog (16) #[.pointer (some ⟨b, 0, none⟩), .slice p l c, .int .i64 cu] wl fun e w' => Upd (fun k => k = b) wl w' ∧
      ((¬ addOk ns es cu ∧ e = .returned (.tuple #[.int .i64 0, .int .i64 (addErr es cu)]) ∧ HI w0 w' b ns cur (bd + 1)) ∨
      (addOk ns es cu ∧ e = .returned (.tuple #[.int .i64 (ns.length : Int), .int .i64 0]) ∧ HI w0 w' b (ns ++ [newN cur es cu]) ns.length (bd + 1))) := by
  obtain ⟨A, h1, h2, h3, h4, h5, h6, h7, h8, h9⟩ := h
  refine (add_does h1 h6 h8 (by omega) hx hl c hm cu hcu).imp ?_
  rintro e w' (⟨q1, q2, rfl⟩ | ⟨q1, q2, q3, q4⟩)
  · exact ⟨Upd.refl _ _, .inl ⟨q1, q2, A, h1, h2, h3, h4, h5, h6, by omega, h8, h9⟩⟩
  · refine ⟨q3, .inr ⟨q1, q2, _, q4, fun k hk => ?_, okL_add h3 h8 q1, mods_add h4 hm, fun n hn => ?_, by simp, by simp; omega, by simp, ext_upd h9 (h2 b h1.mem) q3⟩⟩
    · have := h9.size
      rcases hk with hk | hk
      · exact h2 k hk
      · omega
    · rcases List.mem_append.1 hn with hn | hn
      · exact h5 n hn
      · rw [List.mem_singleton.1 hn]; exact h10
theorem undo_hi {w0 wl : World} {b cur bd : Nat} {ns : List Nd} (h : HI w0 wl b ns cur bd) (hbd : bd ≤ 60000) : Does Try.prog (18) #[.pointer (some ⟨b, 0, none⟩)] wl fun e w' => TellsE wl (undoE ns cur) (undoC ns cur) (decide (cur ≠ 0)) (fun k => k = b) e w' ∧ HI w0 w' b ns (undoN ns cur) bd := by
  obtain ⟨A, h1, h2, h3, h4, h5, h6, h7, h8, h9⟩ := h
  refine (undo_does keeps_hs h1 h6 h4 h3 h8 (by omega)).imp fun e w' ⟨q1, q2⟩ => ⟨q1, A, q2, h2, h3, h4, h5, h6, h7, ?_, ?_⟩
  · unfold undoN
    split
    · exact h6
    · rename_i h0
      rw [getD_at h8]
      have := below h3 h8 h0
      omega
  · obtain ⟨_, _, _, _, _, _, u⟩ := q1
    exact ext_upd h9 (h2 b h1.mem) u
theorem redo_hi {w0 wl : World} {b cur bd : Nat} {ns : List Nd} (h : HI w0 wl b ns cur bd) (hbd : bd ≤ 60000) : Does Try.prog (20) #[.pointer (some ⟨b, 0, none⟩)] wl fun e w' => TellsE wl (redoE ns cur) (redoC ns cur) (redoK ns cur).isSome (fun k => k = b) e w' ∧ HI w0 w' b ns (redoN ns cur) bd := by
  obtain ⟨A, h1, h2, h3, h4, h5, h6, h7, h8, h9⟩ := h
  refine (redo_does keeps_hs h1 h6 h4 h3 (by omega)).imp fun e w' ⟨q1, q2⟩ => ⟨q1, A, q2, h2, h3, h4, h5, h6, h7, ?_, ?_⟩
  · unfold redoN
    cases hk : redoK ns cur with
    | none => exact h8
    | some k =>
      have : k ∈ kidsF ns cur := List.mem_of_getLast? hk
      exact (kid_ok h3 this).1
  · obtain ⟨_, _, _, _, _, _, u⟩ := q1
    exact ext_upd h9 (h2 b h1.mem) u
theorem jump_hi {w0 wl : World} {b cur bd : Nat} {ns : List Nd} (h : HI w0 wl b ns cur bd) (hbd : bd ≤ 60000) (n : Int) : Does Try.prog (21) #[.pointer (some ⟨b, 0, none⟩), .int .i64 n] wl fun e w' => TellsE wl (jumpE ns cur n) (jumpC ns cur n) (decide (thereB ns n)) (fun k => k = b) e w' ∧ HI w0 w' b ns (jumpN ns cur n) bd := by
  obtain ⟨A, h1, h2, h3, h4, h5, h6, h7, h8, h9⟩ := h
  refine (jump_does keeps_hs h1 h6 h4 h3 h8 (by omega) h5 n).imp fun e w' ⟨q1, q2⟩ => ⟨q1, A, q2, h2, h3, h4, h5, h6, h7, ?_, ?_⟩
  · unfold jumpN
    split
    · rename_i ht; have := ht.2; have := ht.1; omega
    · exact h8
  · obtain ⟨_, _, _, _, _, _, u⟩ := q1
    exact ext_upd h9 (h2 b h1.mem) u
theorem current_hi {w0 wl : World} {b cur bd : Nat} {ns : List Nd} (h : HI w0 wl b ns cur bd) : Does Try.prog (13) #[.pointer (some ⟨b, 0, none⟩)] wl fun e w' => e = .returned (.int .i64 (cur : Int)) ∧ w' = wl := by
  obtain ⟨A, h1, h2, h3, h4, h5, h6, h7, h8, h9⟩ := h
  exact current_does h1 h6
theorem count_hi {w0 wl : World} {b cur bd : Nat} {ns : List Nd} (h : HI w0 wl b ns cur bd) : Does Try.prog (23) #[.pointer (some ⟨b, 0, none⟩)] wl fun e w' => e = .returned (.int .i64 (ns.length : Int)) ∧ w' = wl := by
  obtain ⟨A, h1, h2, h3, h4, h5, h6, h7, h8, h9⟩ := h
  exact count_does h1 h6
theorem kids_hi {w0 wl : World} {b cur bd : Nat} {ns : List Nd} (h : HI w0 wl b ns cur bd) (hbd : bd ≤ 60000) (i : Int) : Does Try.prog (19) #[.pointer (some ⟨b, 0, none⟩), .int .i64 i] wl (TellsK wl (kidsF ns i)) := by
  obtain ⟨A, h1, h2, h3, h4, h5, h6, h7, h8, h9⟩ := h
  exact kids_does h1 h6 (by omega) h3 i
theorem node_hi {w0 wl : World} {b cur bd : Nat} {ns : List Nd} (h : HI w0 wl b ns cur bd) (i : Int) : Does Try.prog (26) #[.pointer (some ⟨b, 0, none⟩), .int .i64 i] wl
    (TellsN wl (if 0 ≤ i ∧ i < ns.length then ns.getD i.toNat ⟨0, [], 0⟩ else ⟨0, [], 0⟩) (decide (0 ≤ i ∧ i < ns.length))) := by
  obtain ⟨A, h1, h2, h3, h4, h5, h6, h7, h8, h9⟩ := h
  exact node_does h1 h6 h4 i
theorem hi_bd {w0 wl : World} {b cur bd bd' : Nat} {ns : List Nd} (h : HI w0 wl b ns cur bd) (hb : bd ≤ bd') : HI w0 wl b ns cur bd' := by
  obtain ⟨A, h1, h2, h3, h4, h5, h6, h7, h8, h9⟩ := h
  exact ⟨A, h1, h2, h3, h4, h5, h6, by omega, h8, h9⟩
theorem roomd_does (hx : Deeds w ok p ds) {l : Nat} (hl : l = ds.length) (c : Nat) (most : Int) (hs : ds.length ≤ 9223372036854775807) : Does Try.prog 22 #[.slice p l c, .int .i64 most] w fun e w' => w' = w ∧ ∃ b, e = .returned (.bool b) ∧ (b = true → (ds.length : Int) ≤ most ∧ ∀ d ∈ ds, Small d.es) := by
  subst hl
  apply f22_does
  refine brr (fun _ => ⟨rfl, false, rfl, by simp⟩) fun j => ?_
  have j := of_decide_eq_false j
  refine ⟨fun i n wl => ∃ k : Nat, i = k ∧ n = ds.length - k ∧ k ≤ ds.length ∧ (∀ d ∈ ds.take k, Small d.es) ∧ wl = w, ⟨_, 0, rfl, rfl, Nat.zero_le _, by simp, rfl⟩, ?_⟩
  rintro _ n wl ⟨k, rfl, rfl, hk, hall, rfl⟩
  refine brr (fun jj => ?_) fun jj => ?_
  · have jj := of_decide_eq_true jj
    have hlt : k < ds.length := by omega
    obtain ⟨bb, o, p1, c1, hp, a0, a1, a2, a3, i0, i1, i2, i3, a4, i5⟩ := hx.at k hlt
    refine ⟨⟨by omega, by omega⟩, bb, o, hp, _, _, _, a3, (room_does a4 rfl c1 10 (by simp only [maxLen] at i5; omega)).imp ?_⟩
    rintro e w18 ⟨rfl, bo, rfl, hbo⟩
    refine ⟨_, rfl, brr (fun _ => ⟨rfl, false, rfl, by simp⟩) fun h1 => ⟨inI64 (by omega) (by omega), _, by omega, k + 1, by omega, rfl, hlt, ?_, rfl⟩⟩
    have hbo := hbo (by simpa using h1)
    rw [List.take_succ_eq_append_getElem hlt]
    intro e hm
    simp only [List.mem_append, List.mem_singleton] at hm
    rcases hm with hm | rfl
    · exact hall e hm
    · exact ⟨by omega, hbo.2⟩
  · have jj := of_decide_eq_false jj
    obtain rfl : k = ds.length := by omega
    exact ⟨rfl, true, rfl, fun _ => ⟨by omega, by simpa using hall⟩⟩
end
end Go.Proofs.Ytbnjlnbmdkbpkaa
