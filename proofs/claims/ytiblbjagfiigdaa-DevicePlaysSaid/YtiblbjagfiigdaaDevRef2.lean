/-
  Devices: the reference's ops.
-/
import Derived.Test.YtiblbjagfiigdaaDevRef
namespace Go.Vc
open Go.RowKit
theorem subp_block {p : Option Addr} {lo m sz : Nat} {a : Addr} (h : subp p lo m sz = some a) : ∃ a', p = some a' ∧ a'.block = a.block := by
  unfold subp at h
  split at h
  · exact ⟨a, h, rfl⟩
  · cases p with
    | none => cases h
    | some a' =>
      simp only [Option.map_some, Option.some.injEq] at h
      refine ⟨a', rfl, ?_⟩
      rw [← h]
      unfold Addr.add
      split <;> rfl
end Go.Vc
namespace Go.Proofs.Ytiblbjagfiigdaa
open Go.RowKit Go.Vc
variable {w : World} {S : Nat → Prop} {b : Nat} {d : Dev} {R : Ending → World → Prop}
theorem slDone : SlT Try.prog 50 79 2 32 := ⟨Try.underlying50, _, _, rfl, rfl, rfl, rfl, rfl, by decide⟩
theorem slBss : SlT Try.prog 49 22 1 24 := ⟨Try.underlying49, _, _, rfl, rfl, rfl, rfl, rfl, by decide⟩
def ROpR (w : World) (S : Nat → Prop) (b : Nat) (d : Dev) (e : Ending) (w' : World) : Prop :=
  ∃ (x : Bool) (o : Int), e = .returned (.tuple #[.bool x, .int .i64 o]) ∧ ((d.op.2 = none ∧ x = true ∧ o = 0) ∨ (d.op.2 = some o ∧ x = false)) ∧ RefM w' S b d.op.1 ∧ Upd (fun g => g = b) w w'
/-- An op of the reference. -/
theorem rop_does (h : RefM w S b d) (hg : d.Good) (hs : d.ops < 1000000) : Does Try.prog 49 #[.pointer (some ⟨b, 0, none⟩)] w (ROpR w S b d) := by
  obtain ⟨ps, cs, pn, cn, pw, cw, po, co, vn, vs, vw, A⟩ := id h
  have hops := hg.ops
  have hf1 := hg.fuse.2
  have hf2 := hg.fuse.1.2
  simp [IntKind.max, IntKind.signed, IntKind.bits] at hf2
  refine f49_does _ ⟨b, 0, rfl, _, A.blk.cell 5 rfl, inI64 (by omega) (by omega), b, 0, rfl, A.blk.can 5 (by simp), fun w1 s1 => ?_⟩
  have B1 : Blk w1 b [.slice ps d.now.length cs, .slice pn d.now.length cn, .slice pw d.writes.length cw, .slice po d.out.length co, .int .i64 d.fuse, .int .i64 (d.ops + 1), .bool d.dead] := A.blk.store s1
  have u1 := s1.upd
  refine ⟨b, 0, rfl, _, B1.cell 4 rfl, brr (fun he => ?_) fun he => ?_⟩
  · have hf0 : d.fuse = 0 := by simpa using he
    have hop : d.op = ({ d with ops := d.ops + 1, dead := true }, none) := by unfold Dev.op; rw [if_pos hf0]
    unfold ROpR
    rw [hop]
    refine ⟨b, 0, rfl, B1.can 6 (by simp), fun w2 s2 => ⟨true, 0, rfl, .inl ⟨rfl, rfl, rfl⟩, ?_, Upd.trans u1 s2.upd⟩⟩
    have B2 : Blk w2 b [.slice ps d.now.length cs, .slice pn d.now.length cn, .slice pw d.writes.length cw, .slice po d.out.length co, .int .i64 d.fuse, .int .i64 (d.ops + 1), .bool true] := B1.store s2
    exact ⟨ps, cs, pn, cn, pw, cw, po, co, vn, vs, vw, A.hdr (d' := { d with ops := d.ops + 1, dead := true }) (Upd.trans u1 s2.upd) B2 rfl rfl rfl A.ob (fun a ha => ⟨a, ha, rfl⟩) A.out⟩
  have hf0 : d.fuse ≠ 0 := by simpa using he
  have rest : ∀ {w2 : World} {f' : Int}, f' = (if 0 < d.fuse then d.fuse - 1 else d.fuse) → Upd (fun z => z = b) w w2 → Blk w2 b [.slice ps d.now.length cs, .slice pn d.now.length cn, .slice pw d.writes.length cw, .slice po d.out.length co, .int .i64 f', .int .i64 (d.ops + 1), .bool d.dead] →
      ∃ b33 o33, (some ⟨b, 0, none⟩ : Option Addr) = some ⟨b33, o33, none⟩ ∧ ∃ (p35 : Option Addr) (l35 c35 : Nat), w2.cell? ⟨b33, o33 + 3, none⟩ = some (.slice p35 l35 c35) ∧ Br (((l35 : Int)) == 0)
        (ROpR w S b d (.returned (.tuple #[.bool false, .int .i64 0])) w2)
        (∃ b39 o39, (some ⟨b, 0, none⟩ : Option Addr) = some ⟨b39, o39, none⟩ ∧ ∃ (p41 : Option Addr) (l41 c41 : Nat), w2.cell? ⟨b39, o39 + 3, none⟩ = some (.slice p41 l41 c41) ∧ ((0 : Int) ≤ 0 ∧ 0 < (l41 : Int)) ∧ ∃ b42 o42, p41 = some ⟨b42, o42, none⟩ ∧ ∃ n43 : Int, w2.cell? ⟨b42, o42 + (0 : Int).toNat, none⟩ = some (.int .u8 n43) ∧ (3 : Int) ≠ 0 ∧ InK .i64 (n43.tmod 3) ∧ ∃ b48 o48, (some ⟨b, 0, none⟩ : Option Addr) = some ⟨b48, o48, none⟩ ∧ ∃ (p50 : Option Addr) (l50 c50 : Nat), w2.cell? ⟨b48, o48 + 3, none⟩ = some (.slice p50 l50 c50) ∧ ((0 : Int) ≤ 1 ∧ 1 ≤ (l50 : Int)) ∧ ∃ b52 o52, (some ⟨b, 0, none⟩ : Option Addr) = some ⟨b52, o52, none⟩ ∧ CanStore w2 b52 (o52 + 3) ∧ ∀ ws_3, Stored w2 b52 (o52 + 3) (.slice (subp p50 ((1 : Int).toNat) c50 1) (l50 - ((1 : Int).toNat)) (c50 - ((1 : Int).toNat))) ws_3 →
        ROpR w S b d (.returned (.tuple #[.bool false, .int .i64 (n43.tmod 3)])) ws_3) := by
    intro w2 f' hf' u2 B2
    subst hf'
    refine ⟨b, 0, rfl, _, _, _, B2.cell 3 rfl, brr (fun hl => ?_) fun hl => ?_⟩
    · have ho : d.out = [] := List.eq_nil_of_length_eq_zero (by simpa using hl)
      have hop : d.op = ({ d with ops := d.ops + 1, fuse := if 0 < d.fuse then d.fuse - 1 else d.fuse }, some 0) := by unfold Dev.op; rw [if_neg hf0, ho]
      unfold ROpR
      rw [hop]
      exact ⟨false, 0, rfl, .inr ⟨rfl, rfl⟩, ⟨ps, cs, pn, cn, pw, cw, po, co, vn, vs, vw, A.hdr (d' := { d with ops := d.ops + 1, fuse := if 0 < d.fuse then d.fuse - 1 else d.fuse }) u2 B2 rfl rfl rfl A.ob (fun a ha => ⟨a, ha, rfl⟩) A.out⟩, u2⟩
    · have hl : 0 < d.out.length := by simp at hl; exact List.length_pos_iff.2 hl
      obtain ⟨o, r, ho⟩ : ∃ o r, d.out = o :: r := by
        cases h : d.out with
        | nil => rw [h] at hl; simp at hl
        | cons o r => exact ⟨o, r, rfl⟩
      have hop : d.op = ({ d with ops := d.ops + 1, fuse := if 0 < d.fuse then d.fuse - 1 else d.fuse, out := r }, some (o % 3)) := by unfold Dev.op; rw [if_neg hf0, ho]
      unfold ROpR
      rw [hop]
      have O2 := A.out.upd u2 fun a ha e => (A.out.lt ha).1.2.1 e
      obtain ⟨g, q, hpo, _, _, hcell⟩ := O2.can (j := 0) (by rw [List.length_map]; exact hl)
      have hk := A.ob o (by rw [ho]; simp)
      have hc := hcell (.int .u8 o) (by rw [ho]; rfl)
      have ht : o.tmod 3 = o % 3 := Int.tmod_eq_emod_of_nonneg hk.1
      have hlen : d.out.length = r.length + 1 := by rw [ho]; rfl
      refine ⟨b, 0, rfl, _, _, _, B2.cell 3 rfl, ⟨Int.le_refl _, by omega⟩, g, q, hpo, o, hc, by decide, by rw [ht]; exact inI64 (by omega) (by omega), b, 0, rfl, _, _, _, B2.cell 3 rfl, ⟨by decide, by omega⟩, b, 0, rfl, B2.can 3 (by simp), fun w3 s3 => ⟨false, _, rfl, .inr ⟨by rw [ht], rfl⟩, ?_, Upd.trans u2 s3.upd⟩⟩
      have B3 : Blk w3 b [.slice ps d.now.length cs, .slice pn d.now.length cn, .slice pw d.writes.length cw, .slice (subp po 1 co 1) (d.out.length - 1) (co - 1), .int .i64 (if 0 < d.fuse then d.fuse - 1 else d.fuse), .int .i64 (d.ops + 1), .bool d.dead] := B2.store s3
      have e1 : d.out.length - 1 = r.length := by omega
      rw [e1] at B3
      have hle := A.out.2.1
      have OS := A.out.sub (lo := 1) (hi := d.out.length) (m := co) hl (Nat.le_refl _) hle (Nat.le_refl _)
      have e2 : ((d.out.map (Value.int .u8)).take (d.out.length * 1)).drop (1 * 1) = r.map (Value.int .u8) := by
        rw [List.take_of_length_le (by simp), ho]; rfl
      rw [e2, e1] at OS
      exact ⟨ps, cs, pn, cn, pw, cw, _, _, vn, vs, vw, A.hdr (d' := { d with ops := d.ops + 1, fuse := if 0 < d.fuse then d.fuse - 1 else d.fuse, out := r }) (Upd.trans u2 s3.upd) B3 rfl rfl rfl (fun x hx => A.ob x (by rw [ho]; simp [hx])) (fun a ha => subp_block ha) OS⟩
  refine ⟨b, 0, rfl, _, B1.cell 4 rfl, brr (fun hp => ?_) fun hp => ?_⟩
  · have hp : 0 < d.fuse := by simpa using hp
    refine ⟨b, 0, rfl, _, B1.cell 4 rfl, inI64 (by omega) (by omega), b, 0, rfl, B1.can 4 (by simp), fun w2 s2 => ?_⟩
    have B2 : Blk w2 b [.slice ps d.now.length cs, .slice pn d.now.length cn, .slice pw d.writes.length cw, .slice po d.out.length co, .int .i64 (d.fuse - 1), .int .i64 (d.ops + 1), .bool d.dead] := B1.store s2
    exact rest (by rw [if_pos hp]) (Upd.trans u1 s2.upd) B2
  · have hp : ¬ 0 < d.fuse := by simpa using hp
    exact rest (by rw [if_neg hp]) u1 B1
/-- A copy of bytes, as it is used. -/
theorem cp_does {ok : Nat → Prop} {p : Option Addr} {xs : List Int} (hx : Ints .u8 w ok p xs) (hp : Pg xs) (c : Nat) (hR : ∀ q c' w', Ints .u8 w' (fun g => w.heap.size ≤ g ∧ g < w'.heap.size) q xs → Own w' w.heap.size 5 1 q 256 c' (xs.map (Value.int .u8)) → Ext w w' → R (.returned (.slice q 256 c')) w') :
    Does Try.prog 47 #[.slice p 256 c] w R := by
  refine (copy_does hx hp.1.symm c (by rw [hp.1]; decide)).imp ?_
  rintro e w' ⟨q, c', rfl, o, x⟩
  have o' := o
  rw [← hp.1] at o'
  exact hR q c' w' (o'.ints hp.2) o x
/-- A page is laid. -/
theorem rlay {w24 : World} (h : RefM w24 S b d) (hw : d.writes.length < 2000000) {n : Int} (hn : d.is n = true) {ok : Nat → Prop} {p2 : Option Addr} {xs : List Int} (hx : Ints .u8 w24 ok p2 xs) (hp : Pg xs) (hok : ∀ g, ok g → ¬ S g) (c2 : Nat) {C : World → Prop}
    (hC : ∀ w', RefM w' (fun g => S g ∨ w24.heap.size ≤ g) b (d.lay n.toNat xs) → Upd S w24 w' → C w') :
  (∀ wd7, Drew w24 wd7 →
  ∃ S7 : World → Prop, S7 wd7 ∧ ∃ b33 o33, (some ⟨b, 0, none⟩ : Option Addr) = some ⟨b33, o33, none⟩ ∧ ∃ (p35 : Option Addr) (l35 c35 : Nat), (∀ w, S7 w → w.cell? ⟨b33, o33 + 1, none⟩ = some (.slice p35 l35 c35)) ∧ Does Try.prog 47 #[.slice p2 256 c2] wd7 fun e38 w38 =>
  ∃ (p38 : Option Addr) (l38 c38 : Nat), e38 = .returned (.slice p38 l38 c38) ∧ S7 w38 ∧ ((0 : Int) ≤ n ∧ n < (l35 : Int)) ∧ ∃ b39 o39, p35 = some ⟨b39, o39, none⟩ ∧ CanStore w38 b39 (o39 + (n).toNat) ∧ ∀ ws, Stored w38 b39 (o39 + (n).toNat) (.slice p38 l38 c38) ws →
  ∀ wd8, Drew ws wd8 →
  ∃ S8 : World → Prop, S8 wd8 ∧ ∃ b42 o42, (some ⟨b, 0, none⟩ : Option Addr) = some ⟨b42, o42, none⟩ ∧ ∃ (p44 : Option Addr) (l44 c44 : Nat), (∀ w, S8 w → w.cell? ⟨b42, o42 + 2, none⟩ = some (.slice p44 l44 c44)) ∧ Does Try.prog 47 #[.slice p2 256 c2] wd8 fun e47 w47 =>
  ∃ (p47 : Option Addr) (l47 c47 : Nat), e47 = .returned (.slice p47 l47 c47) ∧ S8 w47 ∧ ∀ b49 w49, NewBlk w47 b49 [.int .i64 n, .slice p47 l47 c47] 79 w49 →
  S8 w49 ∧ ∃ (p50 : Option Addr) (l50 c50 : Nat) (w50 : World), (Builtin.append_ #[50, 50] 50 #[.slice p44 l44 c44, .slice (some ⟨b49, 0, none⟩) 1 1]).run Try.prog w49 = .ok (.slice p50 l50 c50) w50 ∧
  ∃ b51 o51, (some ⟨b, 0, none⟩ : Option Addr) = some ⟨b51, o51, none⟩ ∧ CanStore w50 b51 (o51 + 2) ∧ ∀ ws_1, Stored w50 b51 (o51 + 2) (.slice p50 l50 c50) ws_1 →
  C ws_1) := by
  intro wd7 xd7
  have xd7 := xd7.ext
  obtain ⟨hn0, hn1⟩ := Dev.is_iff.1 hn
  obtain ⟨k, rfl⟩ := Int.eq_ofNat_of_zero_le hn0
  rw [Int.toNat_natCast] at hn1 hC ⊢
  have hlt := h.lt
  obtain ⟨ps, cs, pn, cn, pw, cw, po, co, vn, vs, vw, A0⟩ := hlt
  have A := A0.upd xd7 fun _ _ _ => id
  have hok' : ∀ g, ok g → ¬ (S g ∧ g < w24.heap.size) := fun g hg hs => hok g hg hs.1
  refine ⟨fun w => w.cell? ⟨b, 1, none⟩ = some (.slice pn d.now.length cn), A.blk.cell 1 rfl, b, 0, rfl, _, _, _, fun _ h => h, cp_does (hx.ext xd7) hp c2 fun q38 c38 w38 I38 _ x38 => ?_⟩
  have s7 := xd7.size
  have A38 := A.upd x38 fun _ _ _ => id
  obtain ⟨g, o, rfl, hc, hset⟩ := A38.setNow (F := fun z => wd7.heap.size ≤ z ∧ z < w38.heap.size) (fun z hz hs => by have := hs.2; omega) hp I38 hn1
  refine ⟨q38, 256, c38, rfl, x38.cell (A.blk.cell 1 rfl), ⟨by omega, by omega⟩, g, o, rfl, hc, fun ws s wd8 xd8 => ?_⟩
  have xd8 := xd8.ext
  obtain ⟨As, us, hSg⟩ := hset ws s
  have A8 := As.upd xd8 fun _ _ _ => id
  have hx8 : Ints .u8 wd8 ok p2 xs := Ints.ext ((hx.ext (xd7.thn x38)).upd us fun z hz e => hok' z hz (e ▸ hSg)) xd8
  refine ⟨fun w => w.cell? ⟨b, 2, none⟩ = some (.slice pw d.writes.length cw), A8.blk.cell 2 rfl, b, 0, rfl, _, _, _, fun _ h => h, cp_does hx8 hp c2 fun q47 c47 w47 I47 _ x47 => ⟨q47, 256, c47, rfl, x47.cell (A8.blk.cell 2 rfl), fun b49 w49 N49 => ?_⟩⟩
  have A49 := (A8.upd x47 fun _ _ _ => id).upd N49.ext fun _ _ _ => id
  have I49 := Ints.ext I47 N49.ext
  have hsrc : Go.Src Try.prog 2 50 (.slice (some ⟨b49, 0, none⟩) 1 1) 1 [.int .i64 k, .slice q47 256 c47] w49 := Src.kit N49.src Try.underlying50 1 rfl (by decide) (by simp [Value.oneCell'])
  have Sn := A49.since
  dsimp only at Sn
  obtain ⟨p50, c50, w50, hr, R50, u50, hcase⟩ := Sn.append slDone 50 hsrc (by simp only [maxLen]; omega) (by omega)
  have hbw : ¬ ∃ a, pw = some a ∧ a.block = b := fun ⟨a, ha, e⟩ => (A49.since.lt ha).1.2.1 e
  have nw : ∀ z, Off pw z → ¬ (0 < 1 ∧ d.writes.length + 1 ≤ cw ∧ ∃ a, pw = some a ∧ a.block = z) := fun z hz ⟨_, _, a, ha, e⟩ => hz a ha e
  have hbl := A49.blk.lt
  refine ⟨N49.ext.cell (x47.cell (A8.blk.cell 2 rfl)), p50, _, c50, w50, hr, b, 0, rfl, (A49.blk.upd u50 fun ⟨_, _, a, ha, e⟩ => hbw ⟨a, ha, e⟩).can 2 (by simp), fun ws1 s1 => hC ws1 ?_ ?_⟩
  · have B : Blk ws1 b [.slice ps (d.now.set k xs).length cs, .slice (some ⟨g, o, none⟩) (d.now.set k xs).length cn, .slice p50 (d.writes.length + 1) c50, .slice po d.out.length co, .int .i64 d.fuse, .int .i64 d.ops, .bool d.dead] := (A49.blk.upd u50 fun ⟨_, _, a, ha, e⟩ => hbw ⟨a, ha, e⟩).store s1
    have u1 := s1.upd
    have z38 := x38.size
    have zs := us.size
    have z8 := xd8.size
    have z47 := x47.size
    have z49 := N49.ext.size
    have hS : ∀ z, ((S z ∧ z < w24.heap.size) ∨ wd7.heap.size ≤ z ∧ z < w38.heap.size) → S z ∨ w24.heap.size ≤ z := fun z hz => by
      rcases hz with hz | hz
      · exact .inl hz.1
      · right; omega
    have hoff : ∀ z, z < w49.heap.size → Off pw z → Off p50 z := fun z hz ho a ha => by
      rcases hcase with ⟨_, rfl, _⟩ | ⟨_, rfl⟩
      · exact ho a ha
      · injection ha with ha; subst ha; simp only; omega
    have fr : ∀ a, p50 = some a → (∃ a', pw = some a' ∧ a'.block = a.block) ∨ a.block = w49.heap.size := fun a ha => by
      rcases hcase with ⟨_, rfl, _⟩ | ⟨_, rfl⟩
      · exact .inl ⟨a, ha, rfl⟩
      · injection ha with ha; subst ha; exact .inr rfl
    have nw50 : ∀ z, Off p50 z → ¬ (0 < 1 ∧ d.writes.length + 1 ≤ cw ∧ ∃ a, pw = some a ∧ a.block = z) := fun z hz ⟨_, h2, a, ha, e⟩ => by
      rcases hcase with ⟨_, rfl, _⟩ | ⟨h3, _⟩
      · exact hz a ha e
      · omega
    have hF : ∀ z, wd8.heap.size ≤ z ∧ z < w47.heap.size → z ≠ b ∧ Off (some ⟨g, o, none⟩) z ∧ Off ps z ∧ Off pw z ∧ Off po z := fun z hz => by
      have nS : ∀ z', ((S z' ∧ z' < w24.heap.size) ∨ wd7.heap.size ≤ z' ∧ z' < w38.heap.size) → z' ≠ z := fun z' hz' e => by
        subst e
        rcases hz' with h | h
        · have := h.2; omega
        · omega
      exact ⟨fun e => nS b A49.sb e.symm, fun a ha => nS _ (A49.now.lt ha).1.1, fun a ha => nS _ (A49.sure.lt ha).1.1, fun a ha => nS _ (A49.since.lt ha).1.1, fun a ha => nS _ (A49.out.lt ha).1.1⟩
    refine ⟨ps, cs, some ⟨g, o, none⟩, cn, p50, c50, po, co, vn.set k (.slice q38 256 c38), vs, vw ++ [.int .i64 k, .slice q47 256 c47], ?_⟩
    have go : ∀ z, z < w49.heap.size → ((((S z ∧ z < w24.heap.size) ∨ wd7.heap.size ≤ z ∧ z < w38.heap.size)) ∧ z ≠ b ∧ Off (some ⟨g, o, none⟩) z ∧ Off ps z ∧ Off pw z ∧ Off po z) → ((S z ∨ w24.heap.size ≤ z) ∧ z ≠ b ∧ Off (some ⟨g, o, none⟩) z ∧ Off ps z ∧ Off p50 z ∧ Off po z) := fun z hlt hz => ⟨hS z hz.1, hz.2.1, hz.2.2.1, hz.2.2.2.1, hoff z hlt hz.2.2.2.2.1, hz.2.2.2.2.2⟩
    exact {
      len := by simp [Dev.lay, A0.len]
      sb := .inl A0.sb.1
      blk := by simpa [Dev.lay] using B
      now := by
        have := ((A49.now.upd u50 fun a ha => nw _ fun a' ha' e => (A49.since.lt ha').1.2.2.1 a ha e.symm).upd u1 fun a ha e => (A49.now.lt ha).1.2 e).ok (ok' := fun z => (S z ∨ w24.heap.size ≤ z) ∧ z ≠ b) fun z _ hz => ⟨hS z hz.1, hz.2⟩
        simpa [Dev.lay] using this
      sure := by
        have := ((A49.sure.upd u50 fun a ha => nw _ fun a' ha' e => (A49.since.lt ha').1.2.2.2 a ha e.symm).upd u1 fun a ha e => (A49.sure.lt ha).1.2.1 e).ok (ok' := fun z => (S z ∨ w24.heap.size ≤ z) ∧ z ≠ b ∧ Off (some ⟨g, o, none⟩) z) fun z _ hz => ⟨hS z hz.1, hz.2⟩
        simpa [Dev.lay] using this
      since := by
        have := (R50.upd u1 fun a ha e => ?_).ok (ok' := fun z => (S z ∨ w24.heap.size ≤ z) ∧ z ≠ b ∧ Off (some ⟨g, o, none⟩) z ∧ Off ps z) fun z _ hz => ?_
        · simpa [Dev.lay] using this
        · rcases (R50.lt ha).1 with hz | hz
          · exact hz.2.1 e
          · omega
        · rcases hz with hz | rfl
          · exact ⟨hS z hz.1, hz.2⟩
          · exact ⟨.inr (by omega), by omega, fun a ha e => by have := (A49.now.lt ha).2; omega, fun a ha e => by have := (A49.sure.lt ha).2; omega⟩
      out := by
        have h1 := (A49.out.upd u50 fun a ha => nw _ fun a' ha' e => (A49.out.lt ha).1.2.2.2.2 a' ha' e).upd u1 fun a ha e => (A49.out.lt ha).1.2.1 e
        obtain ⟨k1, k2, k3, k4⟩ := h1
        refine ⟨k1, k2, k3, k4.imp id ?_⟩
        rintro ⟨g', o', rfl, hz, hr'⟩
        exact ⟨g', o', rfl, ⟨hS _ hz.1, hz.2.1, hz.2.2.1, hz.2.2.2.1, hoff _ (A49.out.lt rfl).2 hz.2.2.2.2⟩, hr'⟩
      vn := (((A49.vn.ok go).upd u50 fun z _ ho => nw50 z ho.2.2.2.2.1).upd u1 fun z _ hz => hz.2.1)
      vs := (((A49.vs.ok go).upd u50 fun z _ ho => nw50 z ho.2.2.2.2.1).upd u1 fun z _ hz => hz.2.1)
      vw := ((((A49.vw.ok go).snoc hp (Ints.ok I49 fun z hlt hz => ⟨.inr (by omega), (hF z hz).1, (hF z hz).2.1, (hF z hz).2.2.1, hoff z hlt (hF z hz).2.2.2.1, (hF z hz).2.2.2.2⟩)).upd u50 fun z _ ho => nw50 z ho.2.2.2.2.1).upd u1 fun z _ hz => hz.2.1)
      ob := A0.ob }
  · have z7 := xd7.size
    have e1 : Upd S w24 w38 := (xd7.thn x38).mono fun _ _ e => e.elim
    have e2 : Upd S w24 ws := Upd.then e1 us fun z hz e => by
      subst e
      exact hSg.1
    have e3 : Upd S w24 w49 := Upd.then e2 ((xd8.thn x47).thn N49.ext) fun _ _ e => e.elim
    have e4 : Upd S w24 w50 := Upd.then e3 u50 fun z hz ⟨_, _, a, ha, e⟩ => by
      have := (A49.since.lt ha).1.1
      rw [e] at this
      rcases this with h | h
      · exact h.1
      · omega
    exact Upd.then e4 s1.upd fun z hz e => by
      subst e
      rcases A49.sb with h | h
      · exact h.1
      · omega
/-- Read. -/
theorem rread_does (h : RefM w S b d) (hg : d.Good) (hs : d.ops < 1000000) {n : Int} :
    Does Try.prog 30 #[.pointer (some ⟨b, 0, none⟩), .int .i64 n] w fun e w' => ∃ p c, e = .returned (.tuple #[.slice p (d.read n).2.1.length c, .int .i64 (d.read n).2.2]) ∧ Ints .u8 w' (fun g => w.heap.size ≤ g ∧ g < w'.heap.size) p (d.read n).2.1 ∧ RefM w' S b (d.read n).1 ∧ Upd (fun g => g = b) w w' := by
  refine f30_does _ _ (rpage_does h ⟨_, rfl, brr (fun hi => ?_) fun hi => ?_⟩)
  · have hi : d.is n = false := by simpa using hi
    have e : d.read n = (d, [], 1) := by unfold Dev.read; rw [hi]; rfl
    rw [e]
    exact ⟨none, 0, rfl, RS.nil, h, Upd.refl _ _⟩
  have hi : d.is n = true := by simpa using hi
  have ew : d.read n = if d.dead then (d, [], (7 : Int)) else match d.op with
    | (d', none) => (d', [], 7)
    | (d', some o) => if o = 1 then (d', [], 7) else (d', d.now.getD n.toNat [], 0) := by unfold Dev.read; rw [hi]; rfl
  rw [ew]
  obtain ⟨ps, cs, pn, cn, pw, cw, po, co, vn, vs, vw, A⟩ := id h
  refine ⟨b, 0, rfl, _, A.blk.cell 6 rfl, brr (fun hd => ?_) fun hd => (rop_does h hg hs).imp ?_⟩
  · rw [if_pos hd]
    exact ⟨none, 0, rfl, RS.nil, h, Upd.refl _ _⟩
  rintro e w18 ⟨x, o, rfl, hx, M18, u18⟩
  rw [if_neg (by rw [hd]; decide)]
  have hgo := hg.op
  have hk := d.op_now
  generalize hop : d.op = op at *
  obtain ⟨d', r⟩ := op
  simp only at hx M18 hgo hk
  rcases hx with ⟨rfl, rfl, rfl⟩ | ⟨rfl, rfl⟩
  · exact ⟨_, _, rfl, tru rfl ⟨none, 0, rfl, RS.nil, M18, u18⟩⟩
  refine ⟨_, _, rfl, fls rfl (brr (fun ho => ?_) fun ho => ?_)⟩
  · have ho : o = 1 := by simpa using ho
    subst ho
    exact ⟨none, 0, rfl, RS.nil, M18, u18⟩
  · have ho : o ≠ 1 := by simpa using ho
    obtain ⟨hn0, hn1⟩ := Dev.is_iff.1 hi
    obtain ⟨k, rfl⟩ := Int.eq_ofNat_of_zero_le hn0
    rw [Int.toNat_natCast] at hn1 ⊢
    obtain ⟨ps, cs, pn, cn, pw, cw, po, co, vn, vs, vw, A⟩ := id M18
    have hn1' : k < d'.now.length := by rw [hk.1]; exact hn1
    obtain ⟨q, c, hv, hp, I⟩ := A.vn.2 k hn1'
    obtain ⟨g, oo, hpn, _, _, hcell⟩ := A.now.can (j := k) (by rw [A.vn.1]; exact hn1')
    have hget : d.now.getD k [] = d'.now[k] := by rw [getD_at _ hn1]; simp only [hk.1]
    simp only [if_neg ho, hget]
    refine ⟨b, 0, rfl, _, _, _, A.blk.cell 1 rfl, ⟨by omega, by omega⟩, g, oo, hpn, q, 256, c, hcell _ hv, cp_does I hp c fun q' c' w' I' _ x' => ⟨q', 256, c', rfl, q', c', by rw [hp.1], Ints.ok I' fun z _ hz => ⟨by have := u18.size; omega, hz.2⟩, M18.ext x', Ext.then u18 x'⟩⟩
/-- Write. -/
theorem rwrite_does (h : RefM w S b d) (hg : d.Good) (hs : d.ops < 1000000) {n : Int} {ok : Nat → Prop} {p : Option Addr} {xs : List Int} {l : Nat} (hx : Ints .u8 w ok p xs) (hl : l = xs.length) (c : Nat) (hok : ∀ g, ok g → ¬ S g) :
    Does Try.prog 29 #[.pointer (some ⟨b, 0, none⟩), .int .i64 n, .slice p l c] w fun e w' => e = .returned (.int .i64 (d.write n xs).2) ∧ RefM w' (fun g => S g ∨ w.heap.size ≤ g) b (d.write n xs).1 ∧ Upd S w w' := by
  subst hl
  have hsb := h.sb
  refine f29_does _ _ _ _ _ (rpage_does h ⟨_, rfl, brr (fun hi => ?_) fun hi => brr (fun hn => ?_) fun hn => ?_⟩)
  · have hi : d.is n = false := by simpa using hi
    have e : d.write n xs = (d, 1) := by unfold Dev.write; rw [hi]; rfl
    rw [e]
    exact ⟨rfl, h.mono fun g _ hg => .inl hg, Upd.refl _ _⟩
  · have hi : d.is n = true := by simpa using hi
    have hn : xs.length ≠ 256 := by simp at hn; omega
    have e : d.write n xs = (d, 1) := by unfold Dev.write; rw [hi, decide_eq_false hn]; rfl
    rw [e]
    exact ⟨rfl, h.mono fun g _ hg => .inl hg, Upd.refl _ _⟩
  have hi : d.is n = true := by simpa using hi
  have hn : xs.length = 256 := by simp at hn; omega
  have hp : Pg xs := ⟨hn, hx.inK⟩
  have ew : d.write n xs = if d.dead then (d, (7 : Int)) else match d.op with
    | (d', none) => (d'.lay n.toNat xs, 7)
    | (d', some o) => (if o = 1 then d' else d'.lay n.toNat xs, if o = 0 then 0 else 7) := by unfold Dev.write; rw [hi, decide_eq_true hn]; rfl
  rw [ew, hn]
  obtain ⟨ps, cs, pn, cn, pw, cw, po, co, vn, vs, vw, A⟩ := id h
  refine ⟨b, 0, rfl, _, A.blk.cell 6 rfl, brr (fun hd => ?_) fun hd => (rop_does h hg hs).imp ?_⟩
  · rw [if_pos hd]
    exact ⟨rfl, h.mono fun g _ hg => .inl hg, Upd.refl _ _⟩
  rintro e w24 ⟨x, o, rfl, hxo, M24, u24⟩
  rw [if_neg (by rw [hd]; decide)]
  have hgo := hg.op
  have hk := d.op_now
  have hops := hg.ops
  have hout := @op_out d
  generalize hop : d.op = op at *
  obtain ⟨d', r⟩ := op
  simp only at hxo M24 hgo hk
  have hx24 : Ints .u8 w24 ok p xs := hx.upd u24 fun g hg e => hok g hg (e ▸ hsb.1)
  have hi' : d'.is n = true := by rw [← hi]; unfold Dev.is; rw [hk.1]
  have hwl : d'.writes.length < 2000000 := by rw [hk.2.2.1]; omega
  have s24 := u24.size
  have lay := fun (C : World → Prop) (hC : ∀ w', RefM w' (fun g => S g ∨ w.heap.size ≤ g) b (d'.lay n.toNat xs) → Upd S w w' → C w') => rlay M24 hwl hi' hx24 hp hok c (C := C) fun w' m u => hC w' (m.mono fun g _ hg => hg.imp id fun h => by omega) (Upd.then (u24.mono fun g _ e => e ▸ hsb.1) u fun g _ h => h)
  rcases hxo with ⟨rfl, rfl, rfl⟩ | ⟨rfl, rfl⟩
  · refine ⟨_, _, rfl, tru rfl (lay _ fun w' m u => tru rfl ⟨rfl, m, u⟩)⟩
  refine ⟨_, _, rfl, fls rfl (brr (fun ho => lay _ fun w' m u => fls rfl ?_) fun ho => fls rfl ?_)⟩
  · have ho : o ≠ 1 := by simpa using ho
    simp only [if_neg ho]
    refine brr (fun h0 => ?_) fun h0 => ?_
    · have h0 : o ≠ 0 := by simpa using h0
      rw [if_neg h0]; exact ⟨rfl, m, u⟩
    · have h0 : o = 0 := by simpa using h0
      rw [if_pos h0]; exact ⟨rfl, m, u⟩
  · have ho : o = 1 := by simpa using ho
    subst ho
    exact tru rfl ⟨rfl, M24.mono fun g _ hg => .inl hg, u24.mono fun g _ e => e ▸ hsb.1⟩
/-- All bytes in a row. -/
theorem rimage_does (h : RefM w S b d) (hm : d.now.length ≤ 4096) :
    Does Try.prog 26 #[.pointer (some ⟨b, 0, none⟩)] w fun e w' => ∃ p c, e = .returned (.slice p d.image.length c) ∧ Ints .u8 w' (fun g => w.heap.size ≤ g ∧ g < w'.heap.size) p d.image ∧ Ext w w' := by
  obtain ⟨ps, cs, pn, cn, pw, cw, po, co, vn, vs, vw, A⟩ := id h
  refine f26_does _ ⟨fun p3 l3 c3 x n wl => ∃ k : Nat, x = k ∧ k ≤ d.now.length ∧ n = d.now.length - k ∧ l3 = (d.now.take k).flatten.length ∧ Own wl w.heap.size 5 1 p3 l3 c3 ((d.now.take k).flatten.map (Value.int .u8)) ∧ Ext w wl,
    ⟨_, 0, rfl, Nat.zero_le _, rfl, rfl, own_nil _ _ _ _, Upd.refl _ _⟩, ?_⟩
  rintro p3 l3 c3 x n wl ⟨k, rfl, hk, rfl, rfl, ho, hx⟩
  have A' := A.upd hx fun _ _ _ => id
  have hpg := A.vn.pg
  have hlen := pgs_len (pg_take hpg k)
  rw [List.length_take, Nat.min_eq_left hk] at hlen
  refine ⟨b, 0, rfl, _, _, _, A'.blk.cell 1 rfl, brr (fun hc => ?_) fun hc => ?_⟩
  · have hc : k < d.now.length := by have := of_decide_eq_true hc; omega
    obtain ⟨q, c, hv, hp, I⟩ := A'.vn.2 k hc
    obtain ⟨g, oo, hpn, _, _, hcell⟩ := A'.now.can (j := k) (by rw [A'.vn.1]; exact hc)
    obtain ⟨p', c', w', hr, ho', hu⟩ := append_b ho I (l2 := 256) hp.1.symm c (by rw [hlen, hp.1]; omega) hx.size
    have e : (d.now.take k).flatten.length + (d.now[k]).length = (d.now.take (k + 1)).flatten.length := by rw [flat_take hc, List.length_append]
    rw [e] at hr ho'
    rw [← flat_take hc] at ho'
    exact ⟨b, 0, rfl, _, _, _, A'.blk.cell 1 rfl, ⟨by omega, by omega⟩, g, oo, hpn, q, 256, c, by rw [Int.toNat_natCast]; exact hcell _ hv, p', _, c', w', hr, inI64 (by omega) (by omega), d.now.length - (k + 1), by omega, k + 1, by omega, hc, rfl, rfl, ho', ho.ext_of hu hx (Nat.le_refl _)⟩
  · have hc : k = d.now.length := by have := of_decide_eq_false hc; omega
    subst hc
    rw [List.take_length] at ho ⊢
    exact ⟨p3, c3, rfl, ho.ints (pg_bytes hpg), hx⟩
end Go.Proofs.Ytiblbjagfiigdaa
