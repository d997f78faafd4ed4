/-
  Devices: the reference's New, Load.
-/
import Derived.Test.YtiblbjagfiigdaaDevRef3
namespace Go.Vc
open Go.RowKit
def zeroP : List Int := List.replicate 256 0
theorem zeroP_pg : Pg zeroP := ⟨List.length_replicate, fun x hx => by rw [(List.mem_replicate.1 hx).2]; exact ⟨by decide, by decide⟩⟩
theorem Pgl.snoc {w : World} {ok : Nat → Prop} {vs : List Value} {ps : List (List Int)} (h : Pgl w ok vs ps) {q : Option Addr} {c : Nat} {x : List Int} (hp : Pg x) (hx : Ints .u8 w ok q x) : Pgl w ok (vs ++ [.slice q 256 c]) (ps ++ [x]) := by
  have hl := h.1
  refine ⟨by simp [hl], fun i hi => ?_⟩
  rw [List.length_append, List.length_singleton] at hi
  by_cases e : i < ps.length
  · obtain ⟨q', c', h1, h2, h3⟩ := h.2 i e
    rw [List.getElem?_append_left (by omega), List.getElem_append_left e]
    exact ⟨q', c', h1, h2, h3⟩
  · obtain rfl : i = ps.length := by omega
    rw [List.getElem?_append_right (by omega), List.getElem_append_right (Nat.le_refl _)]
    simp only [hl, Nat.sub_self, List.getElem_cons_zero]
    exact ⟨q, c, rfl, hp, hx⟩
theorem Off.of {p p' : Option Addr} {n z : Nat} {A B C : Prop} (h : (A ∧ p' = p ∧ B) ∨ (C ∧ p' = some ⟨n, 0, none⟩)) (ho : Off p z) (hz : z ≠ n) : Off p' z := fun a ha e => by
  rcases h with ⟨_, rfl, _⟩ | ⟨_, rfl⟩
  · exact ho a ha e
  · injection ha with ha; subst ha; exact hz e.symm
theorem Off.none (g : Nat) : Off (none : Option Addr) g := fun a ha => by cases ha
end Go.Vc
namespace Go.Proofs.Ytiblbjagfiigdaa
open Go.RowKit Go.Vc
variable {w : World} {S : Nat → Prop} {b : Nat} {d : Dev} {R : Ending → World → Prop}
/-- New of the reference. -/
theorem rnew_does {n : Int} (hbad : ¬ (8 ≤ n ∧ n ≤ 4096) → R (.returned (.tuple #[.pointer none, .int .i64 1])) w)
    (hgood : 8 ≤ n → n ≤ 4096 → ∀ b' w', RefM w' (fun g => w.heap.size ≤ g) b' (Dev.new n.toNat) → Ext w w' → R (.returned (.tuple #[.pointer (some ⟨b', 0, none⟩), .int .i64 0])) w') : Does Try.prog 28 #[.int .i64 n] w R := by
  refine f28_does _ (brr (fun h => hbad fun ⟨h1, h2⟩ => by have := of_decide_eq_true h; omega) fun h1 => brr (fun h => hbad fun ⟨h1, h2⟩ => by have := of_decide_eq_true h; omega) fun h2 => ?_)
  have h1 : 8 ≤ n := by have := of_decide_eq_false h1; omega
  have h2 : n ≤ 4096 := by have := of_decide_eq_false h2; omega
  obtain ⟨m, rfl⟩ := Int.eq_ofNat_of_zero_le (show 0 ≤ n by omega)
  intro b w13 N13
  have hb : b = w.heap.size := N13.eq
  have nn := Off.none
  have z256 : ((256 : Int).toNat) = 256 := rfl
  refine ⟨fun x k wl => ∃ (i : Nat) (ps : Option Addr) (cs : Nat) (pn : Option Addr) (cn : Nat) (vn vs : List Value), x = i ∧ i ≤ m ∧ k = m - i ∧ RefAt wl (fun g => w.heap.size ≤ g) b (fresh (List.replicate i zeroP)) ps cs pn cn none 0 none 0 vn vs [] ∧ Ext w wl,
    ⟨_, 0, none, 0, none, 0, [], [], rfl, Nat.zero_le _, rfl, ?_, N13.ext⟩, ?_⟩
  · exact ⟨rfl, by omega, N13.blk, Row.nil _ _ _, Row.nil _ _ _, Row.nil _ _ _, Row.nil _ _ _, ⟨rfl, fun i hi => by simp [fresh] at hi⟩, ⟨rfl, fun i hi => by simp [fresh] at hi⟩, ⟨rfl, fun i hi => by simp [fresh] at hi⟩, fun x hx => by simp [fresh] at hx⟩
  rintro x k wl ⟨i, ps, cs, pn, cn, vn, vs, rfl, hi, rfl, A, hu⟩
  refine brr (fun hc wd xd => ?_) fun hc => ?_
  · have hc : i < m := by have := of_decide_eq_true hc; omega
    have xd := xd.ext
    have Ad := A.upd xd fun _ _ _ => id
    have hsz := hu.size
    have hbl := A.blk.lt
    have sd := xd.size
    have hlr : (fresh (List.replicate i zeroP)).now.length = i := by simp [fresh]
    have A1 := A.now
    rw [hlr] at A1
    clear A1
    refine ⟨fun w => w.cell? ⟨b, 0, none⟩ = some (.slice ps i cs), by have := Ad.blk.cell 0 rfl; rw [hlr] at this; exact this, ps, i, cs, fun _ h => h, by decide, fun b24 w24 N24 => ⟨?_, fun b25 w25 N25 => ?_⟩⟩
    · have := (Ad.blk.ext N24.ext).cell 0 rfl; rw [hlr] at this; exact this
    rw [zeros_map, z256] at N24
    have A25 := (Ad.upd N24.ext fun _ _ _ => id).upd N25.ext fun _ _ _ => id
    have I25 := Ints.ext (N24.ints zeroP rfl zeroP_pg.2) N25.ext
    have hb24 : b24 = wd.heap.size := N24.eq
    have hs24 := N24.size
    have hs25 := N25.size
    have hb25 : b25 = w24.heap.size := N25.eq
    rw [z256] at N25 ⊢
    have hsrc : Go.Src Try.prog 1 49 (.slice (some ⟨b25, 0, none⟩) 1 1) 1 [.slice (some ⟨b24, 0, none⟩) 256 256] w25 := Src.kit N25.src Try.underlying49 1 rfl (by decide) (by simp [Value.oneCell'])
    have Sr := A25.sure
    rw [hlr] at Sr
    obtain ⟨p26, c26, w26, hr26, R26, u26, case26⟩ := Sr.append slBss 49 hsrc (by simp only [maxLen]; omega) (by omega)
    have T26 : ∀ z, (0 < 1 ∧ i + 1 ≤ cs ∧ ∃ a, ps = some a ∧ a.block = z) → w.heap.size ≤ z ∧ z ≠ b ∧ Off pn z := fun z ⟨_, _, a, ha, e⟩ => e ▸ (A25.sure.lt ha).1
    have B26 := A25.blk.upd u26 fun h => (T26 b h).2.1 rfl
    have noT26 : ∀ z, Off ps z → ¬ (0 < 1 ∧ i + 1 ≤ cs ∧ ∃ a, ps = some a ∧ a.block = z) := fun z hz ⟨_, _, a, ha, e⟩ => hz a ha e
    have s26 := u26.size
    have pnlt : ∀ a, pn = some a → a.block < wd.heap.size := fun a ha => (Ad.now.lt ha).2
    have pslt : ∀ a, ps = some a → a.block < wd.heap.size := fun a ha => (Ad.sure.lt ha).2
    have Nr := A25.now
    rw [hlr] at Nr
    refine ⟨by have := A25.blk.cell 0 rfl; rw [hlr] at this; exact this, p26, _, c26, w26, hr26, B26.can 0 (by simp), fun w27 s27 => ?_⟩
    have u27 := s27.upd
    have hu27 := u27.size
    have B27 : Blk w27 b [.slice p26 (i + 1) c26, .slice pn (fresh (List.replicate i zeroP)).now.length cn, .slice none 0 0, .slice none 0 0, .int .i64 (-1), .int .i64 0, .bool false] := B26.store s27
    rw [hlr] at B27
    have Sr27 := R26.upd u27 fun a ha e => (by
      rcases (R26.lt ha).1 with h | h
      · exact h.2.1 e
      · omega)
    have Nr27 := (Nr.upd u26 fun a ha h => (T26 _ h).2.2 a ha rfl).upd u27 fun a ha e => (A25.now.lt ha).1.2 e
    have I27 := (I25.upd u26 fun z hz ⟨_, _, a, ha, e⟩ => by have := pslt a ha; omega).upd u27 fun z hz e => by omega
    intro wd8 xd8
    have xd8 := xd8.ext
    have s8 := xd8.size
    have B28 := B27.ext xd8
    refine ⟨fun w => w.cell? ⟨b, 1, none⟩ = some (.slice pn i cn), B28.cell 1 rfl, pn, i, cn, fun _ h => h, by decide, fun b34 w34 N34 => ⟨(B28.ext N34.ext).cell 1 rfl, fun b35 w35 N35 => ?_⟩⟩
    rw [zeros_map] at N34
    have hb34 : b34 = wd8.heap.size := N34.eq
    have hs34 := N34.size
    have hs35 := N35.size
    have hb35 : b35 = w34.heap.size := N35.eq
    have I35 := Ints.ext (N34.ints zeroP rfl zeroP_pg.2) N35.ext
    have x35 := (xd8.thn N34.ext).thn N35.ext
    have hsrc2 : Go.Src Try.prog 1 49 (.slice (some ⟨b35, 0, none⟩) 1 1) 1 [.slice (some ⟨b34, 0, none⟩) 256 256] w35 := Src.kit N35.src Try.underlying49 1 rfl (by decide) (by simp [Value.oneCell'])
    obtain ⟨p36, c36, w36, hr36, R36, u36, case36⟩ := (Nr27.ext x35).append slBss 49 hsrc2 (by simp only [maxLen]; omega) (by omega)
    have T36 : ∀ z, (0 < 1 ∧ i + 1 ≤ cn ∧ ∃ a, pn = some a ∧ a.block = z) → w.heap.size ≤ z ∧ z ≠ b ∧ z < wd.heap.size := fun z ⟨_, _, a, ha, e⟩ => e ▸ ⟨(A25.now.lt ha).1.1, (A25.now.lt ha).1.2, pnlt a ha⟩
    have noT36 : ∀ z, Off pn z → ¬ (0 < 1 ∧ i + 1 ≤ cn ∧ ∃ a, pn = some a ∧ a.block = z) := fun z hz ⟨_, _, a, ha, e⟩ => hz a ha e
    have B36 := (B27.ext x35).upd u36 fun h => (T36 b h).2.1 rfl
    refine ⟨(B27.ext x35).cell 1 rfl, p36, _, c36, w36, hr36, B36.can 1 (by simp), fun w37 s37 => ⟨inI64 (by omega) (by omega), m - (i + 1), by omega, i + 1, p26, c26, p36, c36, vn ++ [.slice (some ⟨b34, 0, none⟩) 256 256], vs ++ [.slice (some ⟨b24, 0, none⟩) 256 256], by omega, hc, rfl, ?_, ?_⟩⟩
    · have u37 := s37.upd
      have B37 : Blk w37 b [.slice p26 (i + 1) c26, .slice p36 (i + 1) c36, .slice none 0 0, .slice none 0 0, .int .i64 (-1), .int .i64 0, .bool false] := B36.store s37
      have hrep : List.replicate (i + 1) zeroP = List.replicate i zeroP ++ [zeroP] := by rw [List.replicate_succ']
      have hlr' : (fresh (List.replicate (i + 1) zeroP)).now.length = i + 1 := by simp [fresh]
      have off26 : ∀ z, Off ps z → z ≠ w25.heap.size → Off p26 z := fun z => Off.of case26
      have off36 : ∀ z, Off pn z → z ≠ w35.heap.size → Off p36 z := fun z => Off.of case36
      have x35s := x35.size
      have pn25 : ∀ z, wd.heap.size ≤ z → Off pn z := fun z hz a ha e => by have := pnlt a ha; omega
      have ps25 : ∀ z, wd.heap.size ≤ z → Off ps z := fun z hz a ha e => by have := pslt a ha; omega
      have vnb := A25.vn.ok (ok' := fun z => (w.heap.size ≤ z ∧ z ≠ b ∧ Off pn z ∧ Off ps z) ∧ z < w25.heap.size) fun z hz ho => ⟨⟨ho.1, ho.2.1, ho.2.2.1, ho.2.2.2.1⟩, hz⟩
      have vsb := A25.vs.ok (ok' := fun z => (w.heap.size ≤ z ∧ z ≠ b ∧ Off pn z ∧ Off ps z) ∧ z < w25.heap.size) fun z hz ho => ⟨⟨ho.1, ho.2.1, ho.2.2.1, ho.2.2.2.1⟩, hz⟩
      have move : ∀ {vs : List Value} {l : List (List Int)}, Pgl w25 (fun z => (w.heap.size ≤ z ∧ z ≠ b ∧ Off pn z ∧ Off ps z) ∧ z < w25.heap.size) vs l → Pgl w37 (fun z => (w.heap.size ≤ z ∧ z ≠ b ∧ Off pn z ∧ Off ps z) ∧ z < w25.heap.size) vs l := fun h =>
        ((((h.upd u26 fun z _ hz => noT26 z hz.1.2.2.2).upd u27 fun z _ hz => hz.1.2.1).upd x35 fun _ _ _ => id).upd u36 fun z _ hz => noT36 z hz.1.2.2.1).upd u37 fun z _ hz => hz.1.2.1
      have fin : ∀ z, ((w.heap.size ≤ z ∧ z ≠ b ∧ Off pn z ∧ Off ps z) ∧ z < w25.heap.size) → w.heap.size ≤ z ∧ z ≠ b ∧ Off p36 z ∧ Off p26 z ∧ Off (none : Option Addr) z ∧ Off (none : Option Addr) z := fun z hz =>
        ⟨hz.1.1, hz.1.2.1, off36 _ hz.1.2.2.1 (by have := hz.2; omega), off26 _ hz.1.2.2.2 (by have := hz.2; omega), nn z, nn z⟩
      refine ⟨rfl, A.sb, ?_, ?_, ?_, Row.nil _ _ _, Row.nil _ _ _, ?_, ?_, ⟨rfl, fun i hi => by simp [fresh] at hi⟩, fun x hx => by simp [fresh] at hx⟩
      · rw [hlr']; exact B37
      · rw [hlr']
        refine (R36.upd u37 fun a ha e => ?_).ok fun z _ hz => ?_
        · rcases (R36.lt ha).1 with h | h
          · exact h.2 e
          · omega
        · rcases hz with h | h
          · exact h
          · exact ⟨by omega, by omega⟩
      · rw [hlr']
        have r1 := ((Sr27.ext x35).upd u36 fun a ha => noT36 _ (by
          rcases ((Sr27.ext x35).lt ha).1 with h | h
          · exact h.2.2
          · exact pn25 _ (by omega))).upd u37 fun a ha e => (by
          rcases ((Sr27.ext x35).lt ha).1 with h | h
          · exact h.2.1 e
          · omega)
        obtain ⟨k1, k2, k3, k4⟩ := r1
        refine ⟨k1, k2, k3, k4.imp id ?_⟩
        rintro ⟨g', o', rfl, hz, hlt', hr'⟩
        have hl := (Sr27.lt rfl).2
        simp only at hl
        refine ⟨g', o', rfl, ?_, hlt', hr'⟩
        rcases hz with h | h
        · exact ⟨h.1, h.2.1, off36 _ h.2.2 (by omega)⟩
        · exact ⟨by omega, by omega, off36 _ (pn25 _ (by omega)) (by omega)⟩
      · show Pgl _ _ _ (List.replicate (i + 1) zeroP)
        rw [hrep]
        refine Pgl.snoc ((move vnb).ok fun z _ hz => fin z hz) zeroP_pg (Ints.ok (Ints.upd' (Ints.upd' I35 u36 fun z hz e h => by have := (T36 z h).2.2; omega) u37 fun z _ e => by omega) fun z _ e => ?_)
        have e : z = b34 := e
        exact ⟨by omega, by omega, off36 _ (pn25 _ (by omega)) (by omega), fun a ha e' => by have := (R26.lt ha).2; omega, nn z, nn z⟩
      · show Pgl _ _ _ (List.replicate (i + 1) zeroP)
        rw [hrep]
        refine Pgl.snoc ((move vsb).ok fun z _ hz => fin z hz) zeroP_pg (Ints.ok (Ints.upd' (Ints.upd' (Ints.ext I27 x35) u36 fun z hz e h => by have := (T36 z h).2.2; omega) u37 fun z _ e => by omega) fun z _ e => ?_)
        have e : z = b24 := e
        exact ⟨by omega, by omega, off36 _ (pn25 _ (by omega)) (by omega), off26 _ (ps25 _ (by omega)) (by omega), nn z, nn z⟩
    · exact Upd.then (Upd.then (Upd.then (Upd.then (Upd.then hu ((xd.thn N24.ext).thn N25.ext) fun _ _ e => e.elim) u26 fun z hz h => by have := (T26 z h).1; omega) u27 fun z hz e => by omega) x35 fun _ _ e => e.elim) (Upd.trans (u36.mono (U := fun z => w.heap.size ≤ z) fun z _ h => (T36 z h).1) (s37.upd.mono fun z _ e => by omega)) fun z hz e => by omega
  · have hc : i = m := by have := of_decide_eq_false hc; omega
    subst hc
    exact hgood h1 h2 b wl ⟨ps, cs, pn, cn, none, 0, none, 0, vn, vs, [], by rw [Int.toNat_natCast]; exact A⟩ hu
/-- Load of the reference. -/
theorem rload_does {ok : Nat → Prop} {p0 : Option Addr} {xs : List Int} {l : Nat} (hx : Ints .u8 w ok p0 xs) (hl : l = xs.length) {c : Nat} (hlc : l ≤ c) (hs : xs.length ≤ 1000000)
    (hbad : ¬ Loads xs → ∀ w', Ext w w' → R (.returned (.tuple #[.pointer none, .int .i64 1])) w')
    (hgood : Loads xs → ∀ b' w', RefM w' (fun g => w.heap.size ≤ g) b' (fresh (chunks xs)) → Ext w w' → R (.returned (.tuple #[.pointer (some ⟨b', 0, none⟩), .int .i64 0])) w') : Does Try.prog 25 #[.slice p0 l c] w R := by
  subst hl
  have td : ((xs.length : Nat) : Int).tdiv 256 = ((xs.length / 256 : Nat) : Int) := by rw [Int.tdiv_eq_ediv_of_nonneg (by omega)]; omega
  have tm : ((xs.length : Nat) : Int).tmod 256 = ((xs.length % 256 : Nat) : Int) := by rw [Int.tmod_eq_emod_of_nonneg (by omega)]; omega
  refine f25_does _ _ _ ?_
  unfold f25_vc
  rw [td, tm]
  refine ⟨by decide, inI64 (by omega) (by omega), rnew_does (fun hb => ⟨_, _, rfl, tru rfl (hbad (fun hl => hb ⟨by have := hl.2.1; omega, by have := hl.2.2; omega⟩) w (Upd.refl _ _))⟩) fun h8 h4 b w11 M11 x11 => ⟨_, _, rfl, fls rfl ⟨by decide, brr (fun h => hbad (fun hl => ?_) _ x11) fun h => ?_⟩⟩⟩
  · have := hl.1; simp only [bne_iff_ne, ne_eq] at h; omega
  have h0 : xs.length % 256 = 0 := by simp only [bne_eq_false_iff_eq] at h; omega
  have hld : Loads xs := ⟨h0, by omega, by omega⟩
  have hin := hx.inK
  have hz := chunksTo_zero xs
  rw [Int.toNat_natCast] at M11
  generalize hn : xs.length / 256 = n at *
  have M0 : RefM w11 (fun g => w.heap.size ≤ g) b (fresh (chunksTo xs 0)) := by rw [hz]; exact M11
  refine ⟨fun x m wl => ∃ k : Nat, x = k ∧ k ≤ n ∧ m = n - k ∧ RefM wl (fun g => w.heap.size ≤ g) b (fresh (chunksTo xs k)) ∧ Ext w wl, ⟨_, 0, rfl, Nat.zero_le _, rfl, M0, x11⟩, ?_⟩
  rintro x m wl ⟨k, rfl, hk, rfl, M, hu⟩
  have hck : (fresh (chunksTo xs k)).now.length = n := by show (chunksTo xs k).length = n; rw [chunksTo_len, hn]
  obtain ⟨ps, cs, pn, cn, pw, cw, po, co, vn, vs, vw, A⟩ := M.lt
  have cell0 := A.blk.cell 0 rfl
  have cell1 := A.blk.cell 1 rfl
  rw [hck] at cell0 cell1
  refine ⟨b, 0, rfl, _, _, _, cell1, brr (fun hc wd xd => ?_) fun hc => ?_⟩
  · have hc : k < n := by have := of_decide_eq_true hc; omega
    have xd := xd.ext
    have sd := xd.size
    have hsz := hu.size
    have Ad := A.upd xd fun _ _ _ => id
    have e1 : ((k : Int) * 256).toNat = k * 256 := by omega
    have e2 : (((k : Int) + 1) * 256).toNat = k * 256 + 256 := by omega
    have hch := chunk_pg hin (i := k) (by omega)
    have Sc := (hx.ext (hu.thn xd)).sub (k * 256) (k * 256 + 256) c (by omega)
    have ech : (xs.take (k * 256 + 256)).drop (k * 256) = chunk xs k := by unfold chunk; rw [List.drop_take, show k * 256 + 256 - k * 256 = 256 by omega]
    rw [ech] at Sc
    refine ⟨fun w => w.cell? ⟨b, 0, none⟩ = some (.slice ps n cs), xd.cell cell0, b, 0, rfl, _, _, _, fun _ h => h, inI64 (by omega) (by omega), inI64 (by omega) (by omega), inI64 (by omega) (by omega), ⟨by omega, by omega⟩, ⟨by omega, by omega⟩, ?_⟩
    rw [e1, e2, show k * 256 + 256 - k * 256 = 256 by omega]
    refine cp_does Sc hch _ fun q43 c43 w43 I43 _ x43 => ?_
    have s43 := x43.size
    have A43 := Ad.upd x43 fun _ _ _ => id
    obtain ⟨g, o, hps, hcan, hset⟩ := A43.setSure (F := fun z => wd.heap.size ≤ z ∧ z < w43.heap.size) (fun z hz hs => by have := hs.2; omega) hch I43 (k := k) (by rw [hck]; exact hc)
    refine ⟨q43, 256, c43, rfl, x43.cell (xd.cell cell0), ⟨by omega, by omega⟩, g, o, hps, by rw [Int.toNat_natCast]; exact hcan, fun ws s => ?_⟩
    rw [Int.toNat_natCast] at s
    obtain ⟨As, us, hSg⟩ := hset ws s
    have usz := us.size
    intro wd8 xd8
    have xd8 := xd8.ext
    have s8 := xd8.size
    have A8 := As.upd xd8 fun _ _ _ => id
    have hlen8 : (chunksTo xs k).length = n := hck
    obtain ⟨q2, c2, hv2, hp2, I2⟩ := A8.vs.2 k (by show k < ((chunksTo xs k).set k (chunk xs k)).length; rw [List.length_set, hlen8]; exact hc)
    obtain ⟨g2, o2, hps2, _, _, hcell2⟩ := A8.sure.can (j := k) (by rw [A8.vs.1]; show k < ((chunksTo xs k).set k (chunk xs k)).length; rw [List.length_set, hlen8]; exact hc)
    have cell0' := A8.blk.cell 0 rfl
    have cell1' := A8.blk.cell 1 rfl
    have hnl : ({ fresh (chunksTo xs k) with lasts := (fresh (chunksTo xs k)).lasts.set k (chunk xs k) } : Dev).now.length = n := hck
    rw [hnl] at cell0' cell1'
    have hget : ({ fresh (chunksTo xs k) with lasts := (fresh (chunksTo xs k)).lasts.set k (chunk xs k) } : Dev).lasts[k]'(by show k < ((chunksTo xs k).set k (chunk xs k)).length; rw [List.length_set, hlen8]; exact hc) = chunk xs k := by
      show ((chunksTo xs k).set k (chunk xs k))[k]'_ = _
      rw [List.getElem_set_self]
    rw [hget] at hp2 I2
    refine ⟨fun w => w.cell? ⟨b, 1, none⟩ = some (.slice pn n cn), cell1', b, 0, rfl, _, _, _, fun _ h => h, b, 0, rfl, _, _, _, cell0', ⟨by omega, by omega⟩, g2, o2, hps2, q2, 256, c2, by rw [Int.toNat_natCast]; exact hcell2 _ hv2, cp_does I2 hp2 _ fun q57 c57 w57 I57 _ x57 => ?_⟩
    have s57 := x57.size
    have A57 := A8.upd x57 fun _ _ _ => id
    obtain ⟨g3, o3, hpn3, hcan3, hset3⟩ := A57.setNow (F := fun z => wd8.heap.size ≤ z ∧ z < w57.heap.size) (fun z hz hs => by
      rcases hs with h | h
      · have := h.2; omega
      · omega) hch I57 (k := k) (by rw [hnl]; exact hc)
    refine ⟨q57, 256, c57, rfl, x57.cell cell1', ⟨by omega, by omega⟩, g3, o3, hpn3, by rw [Int.toNat_natCast]; exact hcan3, fun ws1 s1 => ?_⟩
    rw [Int.toNat_natCast] at s1
    obtain ⟨As1, us1, hSg1⟩ := hset3 ws1 s1
    refine ⟨inI64 (by omega) (by omega), n - (k + 1), by omega, k + 1, by omega, hc, rfl, ⟨ps, cs, pn, cn, pw, cw, po, co, vn.set k (.slice q57 256 c57), vs.set k (.slice q43 256 c43), vw, ?_⟩, ?_⟩
    · have e : ({ fresh (chunksTo xs k) with lasts := (fresh (chunksTo xs k)).lasts.set k (chunk xs k), now := (fresh (chunksTo xs k)).now.set k (chunk xs k) } : Dev) = fresh (chunksTo xs (k + 1)) := by
        have := chunksTo_succ (xs := xs) (k := k) (by omega)
        show ({ fresh (chunksTo xs k) with lasts := (chunksTo xs k).set k (chunk xs k), now := (chunksTo xs k).set k (chunk xs k) } : Dev) = _
        rw [this]; rfl
      rw [← e]
      refine As1.mono fun z _ hz => ?_
      rcases hz with (hz | hz) | hz
      · exact hz.1
      · omega
      · omega
    · refine Upd.then (Upd.then (Upd.then (hu.thn (xd.thn x43)) us fun z hz e => ?_) (xd8.thn x57) fun _ _ e => e.elim) us1 fun z hz e => ?_
      · have := hSg.1; omega
      · rcases hSg1 with h | h
        · have := h.1; omega
        · omega
  · have hc : k = n := by have := of_decide_eq_false hc; omega
    subst hc
    have ha := chunksTo_all xs
    rw [hn] at ha
    rw [ha] at M
    exact hgood hld b wl M hu
end Go.Proofs.Ytiblbjagfiigdaa
