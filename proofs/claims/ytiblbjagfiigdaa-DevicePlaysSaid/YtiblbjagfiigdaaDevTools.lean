/-
  Devices: what the statements' helpers do.
-/
import Derived.Test.YtiblbjagfiigdaaDevCalls4
namespace Go.Vc
open Go.RowKit
def pageB (fill n : Int) (i : Nat) : Int := IntKind.wrap .u8 (fill + (IntKind.wrap .u8 (IntKind.wrap .i64 (((i : Int).tdiv 64) * n))))
def pageL (fill n : Int) : List Int := (List.range 256).map (pageB fill n)
theorem wrapU8 (z : Int) : InK .u8 (IntKind.u8.wrap z) := by
  unfold InK IntKind.wrap
  simp [IntKind.min, IntKind.max, IntKind.signed, IntKind.bits]
  omega
theorem pageL_pg (fill n : Int) : Pg (pageL fill n) := ⟨by simp [pageL], fun x hx => by
  obtain ⟨i, _, rfl⟩ := List.mem_map.1 hx
  exact wrapU8 _⟩
def onesL : List Int := List.replicate 256 1
theorem onesL_pg : Pg onesL := ⟨List.length_replicate, fun x hx => by rw [(List.mem_replicate.1 hx).2]; exact ⟨by decide, by decide⟩⟩
structure Deed where
  do_ : Int
  n : Int
  page : Int
  fill : Int
  b : List Int
def DeedV (w : World) (ok : Nat → Prop) (vs : List Value) (x : Deed) : Prop :=
  ∃ p c, vs = [.int .i64 x.do_, .int .i64 x.n, .int .i64 x.page, .int .u8 x.fill, .slice p x.b.length c] ∧ InK .i64 x.do_ ∧ InK .i64 x.n ∧ InK .i64 x.page ∧ InK .u8 x.fill ∧ x.b.length ≤ c ∧ Ints .u8 w ok p x.b
theorem DeedV.stable : StableV DeedV := fun _ _ _ _ _ _ hu ht ⟨p, c, h, k1, k2, k3, k4, k5, k6⟩ => ⟨p, c, h, k1, k2, k3, k4, k5, Ints.upd k6 hu ht⟩
theorem DeedV.widens : WidensV DeedV := fun _ _ _ _ _ hok ⟨p, c, h, k1, k2, k3, k4, k5, k6⟩ => ⟨p, c, h, k1, k2, k3, k4, k5, Ints.ok k6 hok⟩
abbrev Deeds (w : World) (ok : Nat → Prop) (p : Option Addr) (xs : List Deed) : Prop := RS 5 (ElemC DeedV) w ok p xs
theorem Deeds.ext {w w' : World} {ok : Nat → Prop} {p : Option Addr} {xs : List Deed} (h : Deeds w ok p xs) (hu : Ext w w') : Deeds w' ok p xs := RS.ext (ElemC.stable DeedV.stable) h hu
theorem Deeds.at {w : World} {ok : Nat → Prop} {p : Option Addr} {xs : List Deed} (h : Deeds w ok p xs) (i : Nat) (hi : i < xs.length) :
    ∃ g o q c, p = some ⟨g, o, none⟩ ∧ w.cell? ⟨g, o + i * 5, none⟩ = some (.int .i64 xs[i].do_) ∧ w.cell? ⟨g, o + i * 5 + 1, none⟩ = some (.int .i64 xs[i].n) ∧ w.cell? ⟨g, o + i * 5 + 2, none⟩ = some (.int .i64 xs[i].page) ∧ w.cell? ⟨g, o + i * 5 + 3, none⟩ = some (.int .u8 xs[i].fill) ∧
      w.cell? ⟨g, o + i * 5 + 4, none⟩ = some (.slice q xs[i].b.length c) ∧ InK .i64 xs[i].do_ ∧ InK .i64 xs[i].n ∧ InK .i64 xs[i].page ∧ InK .u8 xs[i].fill ∧ xs[i].b.length ≤ c ∧ Ints .u8 w ok q xs[i].b := by
  obtain ⟨g, o, hp, _, _, vs, ⟨q, c, rfl, h1, h2, h3, h4, h5, h6⟩, hc⟩ := h i hi
  exact ⟨g, o, q, c, hp, hc 0 _ rfl, hc 1 _ rfl, hc 2 _ rfl, hc 3 _ rfl, hc 4 _ rfl, h1, h2, h3, h4, h5, h6⟩
end Go.Vc
namespace Go.Proofs.Ytiblbjagfiigdaa
open Go.RowKit Go.Vc
variable {w : World} {R : Ending → World → Prop}
theorem zeros_map (n : Nat) : zerosL (.int .u8 0) n = (List.replicate n 0).map (Value.int .u8) := by
  unfold zerosL
  rw [List.map_replicate]
  show (List.replicate n [Value.int .u8 0]).flatten = _
  induction n with
  | zero => rfl
  | succ n ih => rw [List.replicate_succ, List.flatten_cons, ih, List.replicate_succ]; rfl
theorem page_does (fill n : Int) : Does Try.prog 12 #[.int .u8 fill, .int .i64 n] w fun e w' => ∃ p, e = .returned (.slice p 256 256) ∧ Ints .u8 w' (fun g => w.heap.size ≤ g) p (pageL fill n) ∧ Ext w w' := by
  refine f12_does _ _ ⟨by decide, fun b7 w7 N7 => ?_⟩
  have h256 : ((256 : Int).toNat) = 256 := rfl
  rw [zeros_map, h256] at N7
  have hb7 : b7 = w.heap.size := N7.eq
  refine ⟨fun x m wl => ∃ k : Nat, x = k ∧ k ≤ 256 ∧ m = 256 - k ∧ Blk wl b7 (((pageL fill n).take k ++ List.replicate (256 - k) 0).map (Value.int .u8)) ∧ Ext w wl, ⟨_, 0, rfl, by omega, rfl, ?_, N7.ext⟩, ?_⟩
  · have := N7.blk
    rw [List.take_zero, List.nil_append]; exact this
  rintro x m wl ⟨k, rfl, hk, rfl, B, hu⟩
  have hpl := (pageL_pg fill n).1
  have hlen : (((pageL fill n).take k ++ List.replicate (256 - k) 0).map (Value.int .u8)).length = 256 := by
    rw [List.length_map, List.length_append, List.length_take, List.length_replicate, hpl]; omega
  refine brr (fun hc => ?_) fun hc => ?_
  · have hc : k < 256 := by have := of_decide_eq_true hc; omega
    have ht : (k : Int).tdiv 64 = (k : Int) / 64 := Int.tdiv_eq_ediv_of_nonneg (by omega)
    refine ⟨by decide, by rw [ht]; exact inI64 (by omega) (by omega), ⟨by omega, by omega⟩, b7, 0, rfl, ?_, fun ws s => ⟨inI64 (by omega) (by omega), 256 - (k + 1), by omega, k + 1, by omega, by omega, rfl, ?_, Upd.then hu s.upd fun g hg e => by omega⟩⟩
    · rw [Int.toNat_natCast, Nat.zero_add]; exact B.can k (by rw [hlen]; exact hc)
    · rw [Int.toNat_natCast, Nat.zero_add] at s
      have B' := B.store s
      have e : (((pageL fill n).take k ++ List.replicate (256 - k) 0).map (Value.int .u8)).set k (.int .u8 (pageB fill n k)) = ((pageL fill n).take (k + 1) ++ List.replicate (256 - (k + 1)) 0).map (Value.int .u8) := by
        rw [← List.map_set]
        refine congrArg (List.map (Value.int .u8)) ?_
        rw [List.set_append_right _ _ (by rw [List.length_take, hpl]; omega), List.length_take, hpl, Nat.min_eq_left hk, Nat.sub_self, show 256 - k = (256 - (k + 1)) + 1 by omega, List.replicate_succ, List.set_cons_zero,
          List.take_succ_eq_append_getElem (by rw [hpl]; exact hc), List.append_assoc]
        rw [show (pageL fill n)[k]'(by rw [hpl]; exact hc) = pageB fill n k by simp [pageL]]; rfl
      rw [← e]
      exact B'
  · have hc : k = 256 := by have := of_decide_eq_false hc; omega
    subst hc
    rw [Nat.sub_self, List.replicate_zero, List.append_nil, List.take_of_length_le (by omega)] at B
    refine ⟨_, rfl, fun i hi => ⟨b7, 0, rfl, by omega, ?_, (pageL_pg fill n).2 _ (List.getElem_mem hi)⟩, hu⟩
    rw [Nat.mul_one, Nat.zero_add]
    exact B.cell i (by rw [List.getElem?_map, List.getElem?_eq_getElem hi]; rfl)
theorem ones_does : Does Try.prog 21 #[] w fun e w' => ∃ p, e = .returned (.slice p 256 256) ∧ Ints .u8 w' (fun g => w.heap.size ≤ g) p onesL ∧ Ext w w' := by
  refine f21_does ⟨by decide, fun b7 w7 N7 => ?_⟩
  have h256 : ((256 : Int).toNat) = 256 := rfl
  rw [zeros_map, h256] at N7
  have hb7 : b7 = w.heap.size := N7.eq
  refine ⟨fun x m wl => ∃ k : Nat, x = k ∧ k ≤ 256 ∧ m = 256 - k ∧ Blk wl b7 ((onesL.take k ++ List.replicate (256 - k) 0).map (Value.int .u8)) ∧ Ext w wl, ⟨_, 0, rfl, by omega, rfl, ?_, N7.ext⟩, ?_⟩
  · have := N7.blk
    rw [List.take_zero, List.nil_append]; exact this
  rintro x m wl ⟨k, rfl, hk, rfl, B, hu⟩
  have hpl := onesL_pg.1
  have hlen : ((onesL.take k ++ List.replicate (256 - k) 0).map (Value.int .u8)).length = 256 := by
    rw [List.length_map, List.length_append, List.length_take, List.length_replicate, hpl]; omega
  refine brr (fun hc => ?_) fun hc => ?_
  · have hc : k < 256 := by have := of_decide_eq_true hc; omega
    refine ⟨⟨by omega, by omega⟩, b7, 0, rfl, ?_, fun ws s => ⟨inI64 (by omega) (by omega), 256 - (k + 1), by omega, k + 1, by omega, by omega, rfl, ?_, Upd.then hu s.upd fun g hg e => by omega⟩⟩
    · rw [Int.toNat_natCast, Nat.zero_add]; exact B.can k (by rw [hlen]; exact hc)
    · rw [Int.toNat_natCast, Nat.zero_add] at s
      have B' := B.store s
      have e : ((onesL.take k ++ List.replicate (256 - k) 0).map (Value.int .u8)).set k (.int .u8 1) = (onesL.take (k + 1) ++ List.replicate (256 - (k + 1)) 0).map (Value.int .u8) := by
        rw [← List.map_set]
        refine congrArg (List.map (Value.int .u8)) ?_
        rw [List.set_append_right _ _ (by rw [List.length_take, hpl]; omega), List.length_take, hpl, Nat.min_eq_left hk, Nat.sub_self, show 256 - k = (256 - (k + 1)) + 1 by omega, List.replicate_succ, List.set_cons_zero,
          List.take_succ_eq_append_getElem (by rw [hpl]; exact hc), List.append_assoc]
        rw [show onesL[k]'(by rw [hpl]; exact hc) = 1 by simp only [onesL, List.getElem_replicate]]; rfl
      rw [← e]
      exact B'
  · have hc : k = 256 := by have := of_decide_eq_false hc; omega
    subst hc
    rw [Nat.sub_self, List.replicate_zero, List.append_nil, List.take_of_length_le (by omega)] at B
    refine ⟨_, rfl, fun i hi => ⟨b7, 0, rfl, by omega, ?_, onesL_pg.2 _ (List.getElem_mem hi)⟩, hu⟩
    rw [Nat.mul_one, Nat.zero_add]
    exact B.cell i (by rw [List.getElem?_map, List.getElem?_eq_getElem hi]; rfl)
/-- Room. -/
theorem room_does {ok : Nat → Prop} {p : Option Addr} {ds : List Deed} (h : Deeds w ok p ds) {l : Nat} (hl : l = ds.length) (c : Nat) (m : Int) (hm : m ≤ 1000000) :
    Does Try.prog 17 #[.slice p l c, .int .i64 m] w fun e w' => w' = w ∧ ∃ r : Bool, e = .returned (.bool r) ∧ (r = true → (ds.length : Int) ≤ m ∧ ∀ x ∈ ds, x.b.length ≤ 200) := by
  subst hl
  refine f17_does _ _ _ _ (brr (fun hc => ⟨rfl, false, rfl, fun e => by cases e⟩) fun hc => ?_)
  have hc : (ds.length : Int) ≤ m := by have := of_decide_eq_false hc; omega
  refine ⟨fun x n wl => ∃ k : Nat, x = k ∧ k ≤ ds.length ∧ n = ds.length - k ∧ wl = w ∧ ∀ x ∈ ds.take k, x.b.length ≤ 200, ⟨_, 0, rfl, Nat.zero_le _, rfl, rfl, fun _ hx => by simp at hx⟩, ?_⟩
  rintro x n wl ⟨k, rfl, hk, rfl, rfl, hb⟩
  refine brr (fun hc => ?_) fun hc => ?_
  · have hc : k < ds.length := by have := of_decide_eq_true hc; omega
    obtain ⟨g, o, q, c', hp, _, _, _, _, h4, _⟩ := h.at k hc
    refine ⟨⟨by omega, by omega⟩, g, o, hp, _, _, _, by rw [Int.toNat_natCast]; exact h4, brr (fun hd => ⟨rfl, false, rfl, fun e => by cases e⟩) fun hd => ?_⟩
    have hd := of_decide_eq_false hd
    refine ⟨?_, ds.length - (k + 1), by omega, k + 1, by omega, by omega, rfl, rfl, fun x hx => ?_⟩
    · exact inI64 (by omega) (by omega)
    · rw [List.take_succ_eq_append_getElem hc] at hx
      rcases List.mem_append.1 hx with hx | hx
      · exact hb x hx
      · simp only [List.mem_singleton] at hx; subst hx; omega
  · have hc : k = ds.length := by have := of_decide_eq_false hc; omega
    subst hc
    rw [List.take_length] at hb
    exact ⟨rfl, true, rfl, fun _ => ⟨by assumption, hb⟩⟩
theorem one_int {w w' : World} {b : Nat} {T : TypeId} {z : Int} (h : NewBlk w b [.int .u8 z] T w') (hz : InK .u8 z) : Ints .u8 w' (fun _ => True) (some ⟨b, 0, none⟩) [z] := fun i hi => by
  simp only [List.length_cons, List.length_nil] at hi
  obtain rfl : i = 0 := by omega
  exact ⟨b, 0, rfl, trivial, h.cell 0 rfl, hz⟩
/-- What the statements' first look asks, in the model. -/
def AwakeP (d : Dev) (o : List Int) : Prop := d.ops = 0 ∧ (d.write 2 o).2 = 0 ∧ (d.write 2 o).1.ops = 1 ∧ ((d.write 2 o).1.crash []).ops = 0 ∧ ((d.write 2 o).1.crash [0]).ops = 0 ∧ (((d.write 2 o).1.crash [0]).read 2).2.2 = 0 ∧
  (((d.write 2 o).1.crash [0]).read 2).2.1.length = 256 ∧ (((d.write 2 o).1.crash [0]).read 2).2.1[0]? = some 0 ∧ (((d.write 2 o).1.crash []).read 2).2.1 = o ∧ (((d.write 2 o).1.crash []).read 2).2.2 = 0
instance (d : Dev) (o : List Int) : Decidable (AwakeP d o) := by unfold AwakeP; infer_instance
theorem awake_pure : AwakeP (Dev.new 8) onesL := by decide +kernel
/-- What is written is read. -/
theorem awake_does : Does Try.prog 9 #[] w fun e w' => e = .returned (.bool true) ∧ Ext w w' := by
  refine f9_does ?_
  refine new_does (base := w.heap.size) (Nat.le_refl _) (fun h => absurd (by decide) h) fun _ _ b w8 M8 x8 => ?_
  have e8 : (8 : Int).toNat = 8 := rfl
  rw [e8] at M8
  refine ⟨_, _, rfl, fls rfl (fls rfl (ones_does.imp ?_))⟩
  rintro e w19 ⟨p19, rfl, I19, x19⟩
  have F := awake_pure
  have hp := onesL_pg
  have ones := @ones_does
  generalize Dev.new 8 = d0 at *
  generalize onesL = o at *
  obtain ⟨F0, F1, F2, F3, F4, F5, F6, F7, F8, F9⟩ := F
  refine ⟨_, _, _, rfl, (write_does (M8.lt.ext x19) (by rw [F0]; decide) I19 hp.1.symm 256 fun g hg hs => by have := hs.2; omega).imp ?_⟩
  rintro e w20 ⟨rfl, M20, u20⟩
  rw [F1]
  have x20 : Ext w w20 := Upd.then (x8.thn x19) u20 fun g hg e => by have := e.1; omega
  refine ⟨_, rfl, fls rfl fun b25 w25 N25 => ?_⟩
  have M25 := M20.ext N25.ext
  have I25 := one_int N25 ⟨by decide, by decide⟩
  refine (crash_does M25 (by rw [F2]; decide) I25 rfl 1).imp ?_
  rintro e w26 ⟨b26, rfl, M26, x26⟩
  refine ⟨_, rfl, (read_does M26 (by rw [F4]; decide)).imp ?_⟩
  rintro e w27 ⟨p27, c27, rfl, I27, hc27, _, u27⟩
  rw [F5]
  have hs25 := x26.size
  have hs20 := x20.size
  have hn25 := N25.size
  have M27 := (M25.lt.ext x26).upd u27 fun g hg hs e => by have := hs.2; omega
  have x27 : Ext w w27 := Upd.then ((x20.thn N25.ext).thn x26) u27 fun g hg e => by omega
  refine ⟨_, _, _, _, rfl, (crash_does M27 (by rw [F2]; decide) (ok := fun _ => True) (p1 := none) (choice := []) (by exact RS.nil) rfl 0).imp ?_⟩
  rintro e w32 ⟨b32, rfl, M32, x32⟩
  refine ⟨_, rfl, (read_does M32 (by rw [F3]; decide)).imp ?_⟩
  rintro e w33 ⟨p33, c33, rfl, I33, hc33, _, u33⟩
  rw [F8] at I33 hc33
  have hs27 := x27.size
  have hs32 := x32.size
  have x33 : Ext w w33 := Upd.then (x27.thn x32) u33 fun g hg e => by omega
  have I27' : Ints .u8 w33 (fun _ => True) p27 _ := Ints.any (((Ints.ok I27 (ok' := fun g => g < w27.heap.size) fun g hg _ => hg).ext x32).upd' u33 fun g hg ho e => by omega)
  rw [F8, F9]
  have hl := F6
  obtain ⟨g, q, hq, hcell⟩ := I27'.at 0 (by rw [hl]; decide)
  have h0 := F7
  rw [List.getElem?_eq_getElem (by rw [hl]; decide)] at h0
  injection h0 with h0
  rw [h0] at hcell
  refine ⟨_, _, _, _, rfl, tru rfl (tru rfl (tru ?_ ⟨⟨by omega, by rw [hl]; decide⟩, g, q, hq, 0, hcell, tru rfl ((ones (w := w33)).imp ?_)⟩))⟩
  · rw [hl]; rfl
  rintro e w55 ⟨p55, rfl, I55, x55⟩
  refine ⟨_, _, _, rfl, (same_does (I33.ext x55) I55 rfl hp.1.symm _ _ (by rw [hp.1]; decide)).imp ?_⟩
  rintro e w56 ⟨rfl, x56⟩
  exact ⟨_, rfl, by rw [decide_eq_true rfl], (x33.thn x55).thn x56⟩
end Go.Proofs.Ytiblbjagfiigdaa
