/-
  Devices: the reference's Sync, New, Load.
-/
import Derived.Test.YtiblbjagfiigdaaDevRef2
namespace Go.Vc
open Go.RowKit
theorem upto_step {α : Type} {a c : List α} {k : Nat} (hk : k < a.length) (hl : c.length = a.length) : (a.take k ++ c.drop k).set k a[k] = a.take (k + 1) ++ c.drop (k + 1) := by
  have hk' : k < c.length := by omega
  rw [List.set_append_right _ _ (by rw [List.length_take]; omega), List.length_take, Nat.min_eq_left (by omega), Nat.sub_self, ← List.getElem_cons_drop (h := hk'), List.set_cons_zero, List.take_succ_eq_append_getElem hk, List.append_assoc]
  rfl
theorem RefAt.clear {w : World} {S : Nat → Prop} {b : Nat} {d : Dev} {ps : Option Addr} {cs : Nat} {pn : Option Addr} {cn : Nat} {pw : Option Addr} {cw : Nat} {po : Option Addr} {co : Nat} {vn vs vw : List Value} (h : RefAt w S b d ps cs pn cn pw cw po co vn vs vw) {w' : World} (s : Stored w b 2 (.slice none 0 0) w') :
    RefAt w' S b { d with writes := [] } ps cs pn cn none 0 po co vn vs [] := by
  have hu := s.upd
  have B : Blk w' b [.slice ps d.now.length cs, .slice pn d.now.length cn, .slice none 0 0, .slice po d.out.length co, .int .i64 d.fuse, .int .i64 d.ops, .bool d.dead] := h.blk.store s
  have nn : ∀ g, Off none g := fun g a ha => by cases ha
  exact ⟨h.len, h.sb, B, h.now.upd hu fun a ha => (h.now.lt ha).1.2, h.sure.upd hu fun a ha => (h.sure.lt ha).1.2.1, Row.nil _ _ _,
    (h.out.upd hu fun a ha => (h.out.lt ha).1.2.1).ok fun g _ hg => ⟨hg.1, hg.2.1, hg.2.2.1, hg.2.2.2.1, nn g⟩,
    (h.vn.upd hu fun g _ hg => hg.2.1).ok fun g _ hg => ⟨hg.1, hg.2.1, hg.2.2.1, hg.2.2.2.1, nn g, hg.2.2.2.2.2⟩, (h.vs.upd hu fun g _ hg => hg.2.1).ok fun g _ hg => ⟨hg.1, hg.2.1, hg.2.2.1, hg.2.2.2.1, nn g, hg.2.2.2.2.2⟩,
    ⟨rfl, fun i hi => by simp at hi⟩, h.ob⟩
end Go.Vc
namespace Go.Proofs.Ytiblbjagfiigdaa
open Go.RowKit Go.Vc
variable {w : World} {S : Nat → Prop} {b : Nat} {d : Dev} {R : Ending → World → Prop}
/-- Sync. -/
theorem rsync_does (h : RefM w S b d) (hg : d.Good) (hs : d.ops < 1000000) :
    Does Try.prog 31 #[.pointer (some ⟨b, 0, none⟩)] w fun e w' => e = .returned (.int .i64 d.sync.2) ∧ RefM w' (fun g => S g ∨ w.heap.size ≤ g) b d.sync.1 ∧ Upd S w w' := by
  have hsb := h.sb
  have ew : d.sync = if d.dead then (d, (7 : Int)) else match d.op with
    | (d', none) => (d', 7)
    | (d', some o) => (if o = 1 then d' else d'.last, if o = 0 then 0 else 7) := rfl
  rw [ew]
  obtain ⟨ps, cs, pn, cn, pw, cw, po, co, vn, vs, vw, A⟩ := id h
  refine f31_does _ ⟨b, 0, rfl, _, A.blk.cell 6 rfl, brr (fun hd => ?_) fun hd => (rop_does h hg hs).imp ?_⟩
  · rw [if_pos hd]
    exact ⟨rfl, h.mono fun g _ hg => .inl hg, Upd.refl _ _⟩
  rintro e w12 ⟨x, o, rfl, hxo, M12, u12⟩
  rw [if_neg (by rw [hd]; decide)]
  have hgo := hg.op
  have hout := @op_out d
  generalize hop : d.op = op at *
  obtain ⟨d', r⟩ := op
  simp only at hxo M12 hgo
  have s12 := u12.size
  have U12 : Upd S w w12 := u12.mono fun g _ e => e ▸ hsb.1
  clear A ps cs pn cn pw cw po co vn vs vw
  rcases hxo with ⟨rfl, rfl, rfl⟩ | ⟨rfl, rfl⟩
  · exact ⟨_, _, rfl, tru rfl ⟨rfl, M12.mono fun g _ hg => .inl hg, U12⟩⟩
  have hoo := hout rfl
  refine ⟨_, _, rfl, fls rfl (brr (fun ho => ?_) fun ho => ?_)⟩
  · have ho : o = 1 := by simpa using ho
    subst ho
    exact ⟨rfl, M12.mono fun g _ hg => .inl hg, U12⟩
  have ho : o ≠ 1 := by simpa using ho
  have hmax := hgo.max
  have hll := hgo.len
  have hm0 : RefM w12 S b { d' with lasts := d'.now.take 0 ++ d'.lasts.drop 0 } := by simpa using M12
  refine ⟨fun x n wl => ∃ (k : Nat) (S' : Nat → Prop), x = k ∧ k ≤ d'.now.length ∧ n = d'.now.length - k ∧ RefM wl S' b { d' with lasts := d'.now.take k ++ d'.lasts.drop k } ∧ (∀ g, S' g → S g ∨ w.heap.size ≤ g) ∧ Upd S w wl,
    ⟨_, 0, S, rfl, Nat.zero_le _, rfl, hm0, fun g hg => .inl hg, U12⟩, ?_⟩
  rintro x n wl ⟨k, S', rfl, hk, rfl, M, hS', hu⟩
  obtain ⟨ps, cs, pn, cn, pw, cw, po, co, vn, vs, vw, A⟩ := M.lt
  refine ⟨b, 0, rfl, _, _, _, A.blk.cell 1 rfl, brr (fun hc wd xd => ?_) fun hc => ?_⟩
  · have hc : k < d'.now.length := by have := of_decide_eq_true hc; simp only at this; omega
    have xd := xd.ext
    have Ad := A.upd xd fun _ _ _ => id
    obtain ⟨q, c, hv, hp, I⟩ := Ad.vn.2 k hc
    obtain ⟨g, oo, hpn, _, _, hcell⟩ := Ad.now.can (j := k) (by rw [Ad.vn.1]; exact hc)
    have ek : ((k : Int)).toNat = k := Int.toNat_natCast k
    refine ⟨fun w => w.cell? ⟨b, 0, none⟩ = some (.slice ps d'.now.length cs), Ad.blk.cell 0 rfl, b, 0, rfl, _, _, _, fun _ h => h, b, 0, rfl, _, _, _, Ad.blk.cell 1 rfl, ⟨by omega, by simp only; omega⟩, g, oo, hpn, q, 256, c, by rw [ek]; exact hcell _ hv, cp_does I hp c fun q' c' w' I' _ x' => ?_⟩
    have A' := Ad.upd x' fun _ _ _ => id
    have sd := xd.size
    obtain ⟨g2, o2, hps, hcan, hset⟩ := A'.setSure (F := fun z => wd.heap.size ≤ z ∧ z < w'.heap.size) (fun z hz hs => by have := hs.2; omega) hp I' hc
    refine ⟨q', 256, c', rfl, x'.cell (Ad.blk.cell 0 rfl), ⟨by omega, by omega⟩, g2, o2, hps, by rw [ek]; exact hcan, fun ws s => ?_⟩
    rw [ek] at s
    obtain ⟨As, us, hSg⟩ := hset ws s
    have susz := hu.size
    refine ⟨inI64 (by omega) (by omega), d'.now.length - (k + 1), by omega, k + 1, (fun z => (S' z ∧ z < wl.heap.size) ∨ wd.heap.size ≤ z ∧ z < w'.heap.size), by omega, hc, rfl, ⟨ps, cs, pn, cn, pw, cw, po, co, vn, vs.set k (.slice q' 256 c'), vw, ?_⟩, ?_, ?_⟩
    · have e := upto_step (a := d'.now) (c := d'.lasts) hc hll
      simp only at As
      rw [e] at As
      exact As
    · rintro z (hz | hz)
      · exact hS' z hz.1
      · right; omega
    · refine Upd.then (Upd.then hu (xd.thn x') fun _ _ e => e.elim) us fun z hz e => ?_
      subst e
      rcases hS' _ hSg.1 with h | h
      · exact h
      · omega
  · have hc : k = d'.now.length := by have := of_decide_eq_false hc; simp only at this; omega
    subst hc
    have el : d'.now.take d'.now.length ++ d'.lasts.drop d'.now.length = d'.now := by rw [List.take_length, List.drop_of_length_le (by omega), List.append_nil]
    rw [el] at A
    refine ⟨b, 0, rfl, A.blk.can 2 (by simp), fun ws s => ?_⟩
    have As := A.clear s
    have fin : RefM ws (fun g => S g ∨ w.heap.size ≤ g) b d'.last ∧ Upd S w ws := ⟨⟨ps, cs, pn, cn, none, 0, po, co, vn, vs, [], As.mono fun g _ hg => hS' g hg.1⟩, Upd.then hu s.upd fun g _ e => e ▸ hsb.1⟩
    simp only [if_neg ho]
    refine brr (fun h2 => ?_) fun h2 => ?_
    · have h2 : o = 2 := by simpa using h2
      rw [if_neg (by omega)]; exact ⟨rfl, fin⟩
    · have h2 : o ≠ 2 := by simpa using h2
      rw [if_pos (by omega)]; exact ⟨rfl, fin⟩
end Go.Proofs.Ytiblbjagfiigdaa
