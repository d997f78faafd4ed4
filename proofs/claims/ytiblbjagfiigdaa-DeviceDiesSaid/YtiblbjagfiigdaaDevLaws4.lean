/-
  Devices: the statements' functions answer true: up to the op at which it dies.
-/
import Derived.Test.YtiblbjagfiigdaaDevDuo
namespace Go.Proofs.Ytiblbjagfiigdaa
open Go.RowKit Go.Vc
variable {w : World}
theorem Duo.g1 {w : World} {lo b1 b2 : Nat} {K : Nat → Prop} {d1 d2 : Dev} (h : Duo w lo K b1 d1 b2 d2) : d1.Good ∧ d2.Good := by
  obtain ⟨S1, S2, m1, m2, _⟩ := h
  exact ⟨m1.1, m2.1⟩
theorem image_len {d : Dev} (h : d.Good) : d.image.length ≤ 1048576 := by
  have := pgs_len h.now
  have := h.max
  unfold Dev.image; omega
theorem dies_law {ok : Nat → Prop} {p0 : Option Addr} {ds : List Deed} (hx : Deeds w ok p0 ds) {l : Nat} (hl : l = ds.length) (c : Nat) (a : Int) : Does Try.prog 7 #[.slice p0 l c, .int .i64 a] w (Holds w) := by
  subst hl
  refine f7_does _ _ _ _ (awake_does.imp ?_)
  rintro e w16 ⟨rfl, x16⟩
  refine ⟨_, rfl, fls rfl ((room_does (hx.ext x16) rfl c 100 (by decide)).imp ?_)⟩
  rintro e w19 ⟨hw, r, rfl, hr⟩
  rw [hw]
  clear hw w19
  refine ⟨_, rfl, brr (fun _ => ⟨rfl, x16⟩) fun h => ?_⟩
  obtain ⟨hr1, _⟩ := hr (by simpa using h)
  obtain ⟨N, hN, hN31⟩ := and31 a
  rw [hN]
  refine newX (by decide) (by decide) fun b1 w24 M1 x24 => ⟨_, _, rfl, newX (by decide) (by decide) fun b2 w28 M2 x28 => ⟨_, _, rfl, fls rfl (fls rfl ?_)⟩⟩
  have e8 : (8 : Int).toNat = 8 := rfl
  rw [e8] at M1 M2
  obtain ⟨K28, M1', _, n28⟩ := M1.keep x28 fun _ => False.elim
  have hD : ∃ D : Nat → Prop, Duo w28 w16.heap.size (fun _ => False) b1 (Dev.new 8) b2 (Dev.new 8) := by
    obtain ⟨⟨S1, m1, h1⟩, k1⟩ := M1'
    obtain ⟨⟨S2, m2, h2⟩, k2⟩ := M2
    have := x24.size
    exact ⟨fun _ => False, S1, _, m1, m2.lt, fun g hg => ⟨(h1 g hg).1, id, fun h => (h1 g hg).2 (n28 g (h2 g h.1).1 h.2)⟩, fun g hg => ⟨by have := (h2 g hg.1).1; omega, id⟩, fun _ h => h.elim⟩
  obtain ⟨_, D28⟩ := hD
  have T0 := twin_new (n := N)
  generalize Dev.new 8 = d0 at *
  have y28 := x24.thn x28
  obtain ⟨K1, F1, _, back1⟩ := D28.fst
  refine (fuseX F1 (n := N) (inI64 (by omega) (by omega))).imp ?_
  rintro e w39 ⟨rfl, F39, u39⟩
  have D39 := back1 _ _ F39 u39
  have y39 := Upd.chg y28 (Nat.le_refl _) u39
  refine ⟨rfl, fun x n wl => ∃ (i : Nat) (K : Nat → Prop) (d v : Dev), x = i ∧ i ≤ ds.length ∧ n = ds.length - i ∧ TwinI d v N i ∧ Duo wl w16.heap.size K b1 d b2 v ∧ Ext w16 wl, ⟨_, 0, _, _, _, rfl, Nat.zero_le _, rfl, T0, D39, y39⟩, ?_⟩
  rintro x n wl ⟨i, K, d, v, rfl, hi, rfl, T, D, hu⟩
  have hlo := hu.size
  refine brr (fun hc => ?_) fun hc => ?_
  rotate_left
  · obtain ⟨K', F, _, _⟩ := D.fst
    refine opsX F ⟨_, rfl, ?_, x16.thn hu⟩
    rw [decide_eq_true T.le]
  have hc : i < ds.length := by have := of_decide_eq_true hc; omega
  obtain ⟨g, o, q, cc, hp, a0, a1, a2, a3, a4, _⟩ := (hx.ext (x16.thn hu)).at i hc
  have ei : ((i : Int)).toNat = i := Int.toNat_natCast i
  rw [ei]
  refine ⟨⟨by omega, by omega⟩, g, o, hp, _, a0, _, a1, _, a2, _, a3, _, _, _, a4, fun b10 w10 N10 => ?_⟩
  have hb10 : b10 = wl.heap.size := N10.eq
  refine N10.blk.st (j := 0) (by simp) fun w11 B11 u11 => B11.st (j := 1) (by simp) fun w12 B12 u12 => B12.st (j := 2) (by simp) fun w13 B13 u13 => B13.st (j := 3) (by simp) fun w14 B14 u14 => B14.st (j := 4) (by simp) fun w15 B15 u15 => ?_
  have hlt15 := B15.lt
  have U15 : Upd (fun z => z = b10) w10 w15 := Upd.trans (Upd.trans (Upd.trans (Upd.trans u11 u12) u13) u14) u15
  have z15 : Ext wl w15 := Upd.then N10.ext U15 fun g hg e => by omega
  obtain ⟨K15, D15, _, n15⟩ := D.keep z15 fun _ => False.elim
  have y15 := hu.thn z15
  have hKb : K15 b10 := n15 b10 (by omega) hlt15
  have c0 := B15.cell 0 rfl
  have c2 := B15.cell 2 rfl
  have c3 := B15.cell 3 rfl
  clear B11 B12 B13 B14 u11 u12 u13 u14 u15 U15 N10
  obtain ⟨K1', F15, k1', _⟩ := D15.fst
  refine opsX F15 ⟨_, rfl, (imageX F15).imp ?_⟩
  rintro e w53 ⟨p53, c53, rfl, I53, hc53, x53⟩
  obtain ⟨K53, D53, k53, n53⟩ := D15.keep x53 fun _ => False.elim
  have I53 := Ints.ok I53 (ok' := K53) fun g _ h => n53 g h.1 h.2
  have y53 := y15.thn x53
  have c0 := x53.cell c0
  have c2 := x53.cell c2
  have c3 := x53.cell c3
  have hKb := k53 _ hKb
  have hops := T.well.ops
  have hopse := T.ops
  generalize hdo : ds[i].do_ = dO at *
  generalize ds[i].page = pgn at *
  generalize ds[i].fill = fil at *
  refine ⟨_, _, _, rfl, fun x y n wc => ∃ (d' v' : Dev) (K' : Nat → Prop), After N i d.now d.ops (dO ≤ 4) x y d' v' ∧ Duo wc w16.heap.size K' b1 d' b2 v' ∧ Ints .u8 wc K' p53 d.image ∧ Ext w16 wc ∧ wc.cell? ⟨b10, 0, none⟩ = some (.int .i64 dO), ?_, ?_⟩
  · refine ⟨dO, c0, brr (fun h4 => fun wd xd => ?_) fun h4 => ⟨dO, c0, brr (fun h6 => ?_) fun h6 => ⟨dO, c0, brr (fun h8 => ?_) fun h8 => ?_⟩⟩⟩
    · have h4 : dO ≤ 4 := of_decide_eq_true h4
      have xd := xd.ext
      refine ⟨fun w => w.cell? ⟨b10, 2, none⟩ = some (.int .i64 pgn) ∧ w.cell? ⟨b10, 3, none⟩ = some (.int .u8 fil), ⟨xd.cell c2, xd.cell c3⟩, pgn, fun _ h => h.1, fil, xd.cell c3, (page_does _ _).imp ?_⟩
      rintro e w63 ⟨p63, rfl, I63, x63⟩
      obtain ⟨K63, D63, k63, n63⟩ := (D53.ext xd).keep x63 fun _ => False.elim
      have J63 := Ints.ok (Ints.ext I53 (xd.thn x63)) (ok' := K63) fun g _ h => k63 g h
      have I63 := Ints.ok I63.mid (ok' := K63) fun g _ h => n63 g h.1 h.2
      have y63 := (y53.thn xd).thn x63
      have hKb := k63 _ hKb
      obtain ⟨KF, F63, kf, back⟩ := D63.fst
      have hpg := pageL_pg fil 1
      have hA := T.write pgn hpg.1
      have page := @page_does
      have hpl : pageL fil 1 = pageL fil 1 := rfl
      refine ⟨_, _, _, rfl, ⟨x63.cell (xd.cell c2), x63.cell (xd.cell c3)⟩, (writeX F63 y63.size (by omega) (n := pgn) (Ints.ok I63 fun g _ h => kf g h) hpg.1.symm 256).imp ?_⟩
      rintro e w64 ⟨rfl, F64, u64⟩
      have D64 := back _ _ F64 u64
      have hnb : ¬ Chg w63 w16.heap.size KF b10 := fun e => e.2.1 (kf _ hKb)
      have y64 := Upd.chg y63 (Nat.le_refl _) u64
      have c2' := u64.cell hnb (x63.cell (xd.cell c2))
      have c3' := u64.cell hnb (x63.cell (xd.cell c3))
      have c0' := u64.cell hnb (x63.cell (xd.cell c0))
      have J64 := Ints.upd J63 u64 fun g hg e => e.2.1 (kf _ hg)
      refine ⟨_, rfl, ⟨c2', c3'⟩, pgn, fun _ h => h.1, fil, fun _ h => h.2, (page (w := w64) fil 1).imp ?_⟩
      rintro e w70 ⟨p70, rfl, I70, x70⟩
      obtain ⟨K70, D70, k70, n70⟩ := D64.keep x70 fun _ => False.elim
      have J70 := Ints.ok (Ints.ext J64 x70) (ok' := K70) fun g _ h => k70 g h
      have I70 := Ints.ok I70.mid (ok' := K70) fun g _ h => n70 g h.1 h.2
      have y70 := y64.thn x70
      have hKb := k70 _ hKb
      obtain ⟨KG, G70, kg, back2⟩ := D70.swap.fst
      refine ⟨_, _, _, rfl, ⟨x70.cell c2', x70.cell c3'⟩, (writeX G70 y70.size (by omega) (n := pgn) (Ints.ok I70 fun g _ h => kg g h) hpg.1.symm 256).imp ?_⟩
      rintro e w71 ⟨rfl, G71, u71⟩
      have hnb2 : ¬ Chg w70 w16.heap.size KG b10 := fun e => e.2.1 (kg _ hKb)
      exact ⟨_, rfl, 0, _, _, K70, hA.imp (fun h => h) fun ⟨h1, h2, h3, h4', h5, _⟩ => ⟨h1, h2, h3, h4', h5, .inl h4⟩, (back2 _ _ G71 u71).swap, Ints.upd J70 u71 fun g hg e => e.2.1 (kg _ hg), Upd.chg y70 (Nat.le_refl _) u71, u71.cell hnb2 (x70.cell c0')⟩
    · have hA := T.read pgn
      obtain ⟨KF, F, kf, back⟩ := D53.fst
      refine ⟨pgn, c2, (readX F (by omega) (n := pgn)).imp ?_⟩
      rintro e w80 ⟨p80, c80, rfl, _, _, F80, u80⟩
      have D80 := back _ _ F80 u80
      have hnb : ¬ Chg w53 w16.heap.size KF b10 := fun e => e.2.1 (kf _ hKb)
      have y80 := Upd.chg y53 (Nat.le_refl _) u80
      have J80 := Ints.upd I53 u80 fun g hg e => e.2.1 (kf _ hg)
      obtain ⟨KG, G80, kg, back2⟩ := D80.swap.fst
      refine ⟨_, _, _, _, rfl, pgn, u80.cell hnb c2, (readX G80 (by omega) (n := pgn)).imp ?_⟩
      rintro e w87 ⟨p87, c87, rfl, _, _, G87, u87⟩
      have hnb2 : ¬ Chg w80 w16.heap.size KG b10 := fun e => e.2.1 (kg _ hKb)
      exact ⟨_, _, _, _, rfl, 0, _, _, K53, hA.imp (fun h => h) fun ⟨h1, h2, h3, h4', h5, h6⟩ => ⟨h1, h2, h3, h4', h5, h6.imp False.elim id⟩, (back2 _ _ G87 u87).swap, Ints.upd J80 u87 fun g hg e => e.2.1 (kg _ hg), Upd.chg y80 (Nat.le_refl _) u87, u87.cell hnb2 (u80.cell hnb c0)⟩
    · have hA := T.sync
      obtain ⟨KF, F, kf, back⟩ := D53.fst
      refine (syncX F y53.size (by omega)).imp ?_
      rintro e w80 ⟨rfl, F80, u80⟩
      have D80 := back _ _ F80 u80
      have hnb : ¬ Chg w53 w16.heap.size KF b10 := fun e => e.2.1 (kf _ hKb)
      have y80 := Upd.chg y53 (Nat.le_refl _) u80
      have J80 := Ints.upd I53 u80 fun g hg e => e.2.1 (kf _ hg)
      obtain ⟨KG, G80, kg, back2⟩ := D80.swap.fst
      refine ⟨_, rfl, (syncX G80 y80.size (by omega)).imp ?_⟩
      rintro e w87 ⟨rfl, G87, u87⟩
      have hnb2 : ¬ Chg w80 w16.heap.size KG b10 := fun e => e.2.1 (kg _ hKb)
      exact ⟨_, rfl, 0, _, _, K53, hA.imp (fun h => h) fun ⟨h1, h2, h3, h4', h5, h6⟩ => ⟨h1, h2, h3, h4', h5, h6.imp False.elim id⟩, (back2 _ _ G87 u87).swap, Ints.upd J80 u87 fun g hg e => e.2.1 (kg _ hg), Upd.chg y80 (Nat.le_refl _) u87, u87.cell hnb2 (u80.cell hnb c0)⟩
    · exact ⟨inI64 (by omega) (by omega), ds.length - (i + 1), by omega, i + 1, K53, d, v, by omega, hc, rfl, T.more, D53, y53⟩
  · rintro x y n wc ⟨d', v', K', hA, D', I', y', c0'⟩
    obtain ⟨KF, F', _, _⟩ := D'.fst
    obtain ⟨hgd, hgv⟩ := Duo.g1 D'
    have hil := image_len hgd
    have hiv := image_len hgv
    have hi0 := image_len (Duo.g1 D).1
    refine deadX F' ⟨_, rfl, brr (fun hdd => ?_) fun hdd => ?_⟩
    · obtain ⟨hA0, _⟩ | ⟨hdead, rfl, hbef, hops', hnow, hold⟩ := hA
      · rw [hA0.dead] at hdd; cases hdd
      refine (imageX F').imp ?_
      rintro e w101 ⟨p101, c101, rfl, I101, hc101, x101⟩
      refine ⟨_, _, _, rfl, (same_does I101 (Ints.ext I' x101) rfl rfl _ _ (by omega)).imp ?_⟩
      rintro e w103 ⟨rfl, x103⟩
      have z103 := x101.thn x103
      have hne : d.ops = N := hbef
      have fin : ∀ wq, Ext wc wq → Does Try.prog 19 #[.pointer (some ⟨b1, 0, none⟩)] wq fun e128 w128 =>
          ∃ (p128 : Option Addr) (l128 c128 : Nat), e128 = .returned (.slice p128 l128 c128) ∧ Does Try.prog 19 #[.pointer (some ⟨b2, 0, none⟩)] w128 fun e130 w130 =>
          ∃ (p130 : Option Addr) (l130 c130 : Nat), e130 = .returned (.slice p130 l130 c130) ∧ Does Try.prog 15 #[.slice p128 l128 c128, .slice p130 l130 c130] w130 fun e131 w131 =>
          ∃ b131 : Bool, e131 = .returned (.bool b131) ∧ Br b131
          (Does Try.prog 18 #[.pointer (some ⟨b1, 0, none⟩)] w131 fun e135 w135 =>
          ∃ n135 : Int, e135 = .returned (.int .i64 n135) ∧ Br (n135 == 7)
          (Does Try.prog 16 #[.pointer (some ⟨b1, 0, none⟩)] w135 fun e140 w140 =>
          ∃ n140 : Int, e140 = .returned (.int .i64 n140) ∧ InK .i64 ((N : Int) + 1) ∧ Holds w (.returned (.bool (n140 == ((N : Int) + 1)))) w140)
          (Holds w (.returned (.bool false)) w135))
          (Holds w (.returned (.bool false)) w131) := by
        intro wq xq
        refine (imageX (F'.ext xq)).imp ?_
        rintro e w128 ⟨p128, c128, rfl, I128, _, x128⟩
        obtain ⟨KG, G', _, _⟩ := ((D'.ext xq).ext x128).swap.fst
        refine ⟨_, _, _, rfl, (imageX G').imp ?_⟩
        rintro e w130 ⟨p130, c130, rfl, I130, _, x130⟩
        refine ⟨_, _, _, rfl, (same_does (Ints.ext I128 x130) I130 rfl rfl _ _ (by omega)).imp ?_⟩
        rintro e w131 ⟨rfl, x131⟩
        have zz := ((xq.thn x128).thn x130).thn x131
        have yy := y'.thn zz
        have himg : d'.image = v'.image := by unfold Dev.image; rw [hnow]
        refine ⟨_, rfl, tru (decide_eq_true himg) ((syncX (F'.ext zz) yy.size (by omega)).imp ?_)⟩
        rintro e w135 ⟨rfl, F135, u135⟩
        rw [sync_dead hdead] at F135 ⊢
        refine ⟨_, rfl, tru rfl (opsX F135 ⟨_, rfl, inI64 (by omega) (by omega), ?_, x16.thn (Upd.chg yy (Nat.le_refl _) u135)⟩)⟩
        rw [hops']; simp
      refine ⟨_, rfl, tru rfl (tru (by rw [hne]; simp) (opsX (F'.ext z103) ⟨_, rfl, inI64 (by omega) (by omega), tru (by rw [hops']; simp) (brr (fun _ => fin _ z103) fun hf => ⟨dO, z103.cell c0', brr (fun _ => fin _ z103) fun h4 => ?_⟩)⟩))⟩
      exfalso
      have h4 := of_decide_eq_false h4
      rcases hold with h | h
      · exact h4 h
      · have : d'.image = d.image := by unfold Dev.image; rw [h]
        rw [decide_eq_true this] at hf; cases hf
    · obtain ⟨T', rfl⟩ | ⟨hdead, _⟩ := hA
      rotate_left
      · rw [hdead] at hdd; cases hdd
      have hops' := T'.ops
      obtain ⟨KG, G', _, _⟩ := D'.swap.fst
      refine fls (by simp) (opsX F' ⟨_, rfl, opsX G' ⟨_, rfl, fls (by rw [hops']; simp) ((imageX F').imp ?_)⟩⟩)
      rintro e w157 ⟨p157, c157, rfl, I157, _, x157⟩
      refine ⟨_, _, _, rfl, (imageX (G'.ext x157)).imp ?_⟩
      rintro e w159 ⟨p159, c159, rfl, I159, _, x159⟩
      refine ⟨_, _, _, rfl, (same_does (Ints.ext I157 x159) I159 rfl rfl _ _ (by omega)).imp ?_⟩
      rintro e w160 ⟨rfl, x160⟩
      have himg : d'.image = v'.image := by unfold Dev.image; rw [T'.now]
      have zz := (x157.thn x159).thn x160
      exact ⟨_, rfl, fls (by rw [decide_eq_true himg]; rfl) ⟨inI64 (by omega) (by omega), ds.length - (i + 1), by omega, i + 1, K', d', v', by omega, hc, rfl, T', D'.ext zz, y'.thn zz⟩⟩
end Go.Proofs.Ytiblbjagfiigdaa
