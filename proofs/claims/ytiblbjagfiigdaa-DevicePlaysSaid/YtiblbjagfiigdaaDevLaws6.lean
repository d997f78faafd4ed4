/-
  Devices: the statements' functions answer true: whatever is done is what the model says.
-/
import Derived.Test.YtiblbjagfiigdaaDevMix
namespace Go.Vc
theorem crash_len {d : Dev} (h : d.Good) (c : List Int) : (d.crash c).now.length = d.now.length := by
  show (tears c 0 d.writes d.lasts).length = _
  rw [tears_len, h.len]
theorem read_len {d : Dev} (h : d.Good) (n : Int) : (d.read n).2.1.length ≤ 9223372036854775807 := by
  unfold Dev.read
  by_cases hi : d.is n = true
  · rw [if_pos hi]
    obtain ⟨hn0, hn1⟩ := Dev.is_iff.1 hi
    have hp := (h.now _ (List.getElem_mem hn1)).1
    split
    · simp
    · split
      · simp
      · split
        · simp
        · simp only [getD_at _ hn1, hp]; omega
  · rw [if_neg hi]; simp
end Go.Vc
namespace Go.Proofs.Ytiblbjagfiigdaa
open Go.RowKit Go.Vc
variable {w : World}
theorem cloneX {w : World} {lo b : Nat} {K : Nat → Prop} {d : Dev} (h : DevX w lo K b d) (hs : d.ops < 1000000) (ho : d.out.length ≤ 1000000) :
    Does Try.prog 34 #[.pointer (some ⟨b, 0, none⟩)] w fun e w' => ∃ b', e = .returned (.pointer (some ⟨b', 0, none⟩)) ∧ DevM w' (fun g => w.heap.size ≤ g) b' d ∧ Ext w w' := by
  obtain ⟨⟨S, m, hS⟩, hk⟩ := h
  exact clone_does m hs ho
theorem plays_law (a0 : Int) {ok : Nat → Prop} {p1 : Option Addr} {ds : List Deed} (hx : Deeds w ok p1 ds) {l : Nat} (hl : l = ds.length) (c : Nat) : Does Try.prog 8 #[.int .i64 a0, .slice p1 l c] w (Holds w) := by
  subst hl
  refine f8_does _ _ _ _ (awake_does.imp ?_)
  rintro e w20 ⟨rfl, x20⟩
  refine ⟨_, rfl, fls rfl ((room_does (hx.ext x20) rfl c 150 (by decide)).imp ?_)⟩
  rintro e w23 ⟨hw, r, rfl, hr⟩
  rw [hw]
  clear hw w23
  refine ⟨_, rfl, brr (fun _ => ⟨rfl, x20⟩) fun h => brr (fun _ => ⟨rfl, x20⟩) fun h40 => ?_⟩
  obtain ⟨hr1, hr2⟩ := hr (by simpa using h)
  have h40 : a0 ≤ 40 := by have := of_decide_eq_false h40; omega
  by_cases h8 : 8 ≤ a0
  rotate_left
  · refine new_bad (fun h => h8 h.1) ⟨_, _, rfl, rnew_does (fun _ => ⟨_, _, rfl, fls rfl (tru rfl ⟨rfl, x20⟩)⟩) fun h => absurd h h8⟩
  refine newX h8 (by omega) fun b1 w31 M31 x31 => ⟨_, _, rfl, rnew_does (fun h => absurd ⟨h8, by omega⟩ h) fun _ _ b2 w36 M36 x36 => ⟨_, _, rfl, fls rfl (fls rfl ?_)⟩⟩
  obtain ⟨n, rfl⟩ := Int.eq_ofNat_of_zero_le (show 0 ≤ a0 by omega)
  rw [Int.toNat_natCast] at M31 M36
  have D0 : Mix w36 w20.heap.size (fun _ => False) b1 (Dev.new n) b2 (Dev.new n) := by
    obtain ⟨⟨S1, m1, h1⟩, k1⟩ := M31
    have := x31.size
    exact ⟨_, _, m1.lt.ext x36, M36, fun g hg => ⟨(h1 g hg.1).1, id, fun h => by have := hg.2; omega⟩, fun g hg => ⟨by omega, id⟩, fun _ h => h.elim⟩
  have hl0 : (Dev.new n).now.length ≤ 40 := by show (List.replicate n _).length ≤ 40; rw [List.length_replicate]; omega
  have ho0 : (Dev.new n).ops ≤ ((0 : Nat) : Int) := Int.le_refl _
  have hu0 : (Dev.new n).out.length ≤ 200 * 0 := Nat.le_refl _
  generalize Dev.new n = d0 at *
  refine ⟨fun p5 p7 x m wl => ∃ (i : Nat) (K : Nat → Prop) (b1 b2 : Nat) (d : Dev), p5 = some ⟨b1, 0, none⟩ ∧ p7 = some ⟨b2, 0, none⟩ ∧ x = i ∧ i ≤ ds.length ∧ m = ds.length - i ∧ Mix wl w20.heap.size K b1 d b2 d ∧ d.ops ≤ i ∧ d.out.length ≤ 200 * i ∧ d.now.length ≤ 40 ∧ Ext w20 wl,
    ⟨_, 0, _, b1, b2, d0, rfl, rfl, rfl, Nat.zero_le _, rfl, D0, ho0, hu0, hl0, x31.thn x36⟩, ?_⟩
  clear M31 M36 D0 hl0 ho0 hu0 x31 x36
  rintro _ _ x m wl ⟨i, K, b1, b2, d, rfl, rfl, rfl, hi, rfl, D, hops, hout, hnow, hu⟩
  have hlo := hu.size
  refine brr (fun hc => ?_) fun hc => ⟨rfl, x20.thn hu⟩
  have hc : i < ds.length := by have := of_decide_eq_true hc; omega
  obtain ⟨g, o, q, cc, hp, a0', a1, a2, a3, a4, k0, k1, k2, k3, _, IB⟩ := (hx.ext x20).at i hc
  have a0' := hu.cell a0'
  have a1 := hu.cell a1
  have a2 := hu.cell a2
  have a3 := hu.cell a3
  have a4 := hu.cell a4
  have ei : ((i : Int)).toNat = i := Int.toNat_natCast i
  rw [ei]
  refine ⟨⟨by omega, by omega⟩, g, o, hp, _, a0', _, a1, _, a2, _, a3, _, _, _, a4, fun b10 w10 N10 => ?_⟩
  have hb10 : b10 = wl.heap.size := N10.eq
  refine N10.blk.st (j := 0) (by simp) fun w11 B11 u11 => B11.st (j := 1) (by simp) fun w12 B12 u12 => B12.st (j := 2) (by simp) fun w13 B13 u13 => B13.st (j := 3) (by simp) fun w14 B14 u14 => B14.st (j := 4) (by simp) fun w15 B15 u15 => ?_
  have hlt15 := B15.lt
  have U15 : Upd (fun z => z = b10) w10 w15 := Upd.trans (Upd.trans (Upd.trans (Upd.trans u11 u12) u13) u14) u15
  have z15 : Ext wl w15 := Upd.then N10.ext U15 fun g hg e => by omega
  obtain ⟨K15, D15, _, n15⟩ := D.keep z15 fun _ => False.elim
  have y15 := hu.thn z15
  have hKb : K15 b10 := n15 b10 (by omega) hlt15
  have c0 := B15.cell 0 rfl
  have c1 := B15.cell 1 rfl
  have c2 := B15.cell 2 rfl
  have c3 := B15.cell 3 rfl
  have c4 := B15.cell 4 rfl
  clear B11 B12 B13 B14 u11 u12 u13 u14 u15 U15 N10
  have hbl := hr2 _ (List.getElem_mem hc)
  generalize ds[i].do_ = dO at *
  generalize ds[i].n = dn at *
  generalize ds[i].page = dp at *
  generalize ds[i].fill = df at *
  generalize ds[i].b = db at *
  have hgd := D15.good
  obtain ⟨J, hJ⟩ : ∃ J : Option Addr → Option Addr → Bool → Nat → World → Prop, J = fun p5 p7 bo _ wc => ∃ (K : Nat → Prop) (b1 b2 : Nat) (d' : Dev), p5 = some ⟨b1, 0, none⟩ ∧ p7 = some ⟨b2, 0, none⟩ ∧ bo = true ∧ Mix wc w20.heap.size K b1 d' b2 d' ∧ d'.ops ≤ (i : Int) + 1 ∧ d'.out.length ≤ 200 * (i + 1) ∧ d'.now.length ≤ 40 ∧ Ext w20 wc := ⟨_, rfl⟩
  have mkJ : ∀ {b1 b2 : Nat} {bo : Bool} {wc : World} {K : Nat → Prop} {d' : Dev}, bo = true → Mix wc w20.heap.size K b1 d' b2 d' → d'.ops ≤ (i : Int) + 1 → d'.out.length ≤ 200 * (i + 1) → d'.now.length ≤ 40 → Ext w20 wc → ∃ nc : Nat, J (some ⟨b1, 0, none⟩) (some ⟨b2, 0, none⟩) bo nc wc := fun h1 h2 h3 h4 h5 h6 => ⟨0, by rw [hJ]; exact ⟨_, _, _, _, rfl, rfl, h1, h2, h3, h4, h5, h6⟩⟩
  have near : ∀ {d' : Dev}, Near d d' → d'.ops ≤ (i : Int) + 1 ∧ d'.out.length ≤ 200 * (i + 1) ∧ d'.now.length ≤ 40 := fun h => ⟨by have := h.ops; omega, by have := h.out; omega, by rw [h.len]; exact hnow⟩
  refine ⟨J, ⟨dO, c0, brr (fun h4 => ?_) fun h4 => ⟨dO, c0, brr (fun h6 => ?_) fun h6 => ⟨dO, c0, brr (fun h8' => ?_) fun h8' => ⟨dO, c0, brr (fun h9 => ?_) fun h9 => ⟨dO, c0, brr (fun h10 => ?_) fun h10 => ⟨dO, c0, brr (fun h11 => ?_) fun h11 => ?_⟩⟩⟩⟩⟩⟩, ?_⟩
  · refine ⟨df, c3, dn, c1, (page_does _ _).imp ?_⟩
    rintro e w72 ⟨p72, rfl, I72, x72⟩
    obtain ⟨K72, D72, k72, n72⟩ := D15.keep x72 fun _ => False.elim
    have I72 := Ints.ok I72.mid (ok' := K72) fun g _ h => n72 g h.1 h.2
    have hpg := pageL_pg df dn
    generalize pageL df dn = pg at *
    have y72 := y15.thn x72
    have hKb := k72 _ hKb
    have e2 := x72.cell c2
    have W : ∀ (p : Option Addr) (xs : List Int) (l c : Nat), Ints .u8 w72 K72 p xs → l = xs.length → ∃ n85 : Int, w72.cell? ⟨b10, 2, none⟩ = some (.int .i64 n85) ∧ Does Try.prog 13 #[.pointer (some ⟨b1, 0, none⟩), .int .i64 n85, .slice p l c] w72 fun e87 w87 =>
        ∃ n87 : Int, e87 = .returned (.int .i64 n87) ∧ ∃ n91 : Int, w87.cell? ⟨b10, 2, none⟩ = some (.int .i64 n91) ∧ Does Try.prog 29 #[.pointer (some ⟨b2, 0, none⟩), .int .i64 n91, .slice p l c] w87 fun e93 w93 =>
        ∃ n93 : Int, e93 = .returned (.int .i64 n93) ∧ ∃ nc42 : Nat, J (some ⟨b1, 0, none⟩) (some ⟨b2, 0, none⟩) (n87 == n93) nc42 w93 := by
      intro p xs l c I hl
      obtain ⟨KF, F, kf, back⟩ := D72.fst
      refine ⟨dp, e2, (writeX F y72.size (by omega) (n := dp) (Ints.ok I fun g _ h => kf g h) hl c).imp ?_⟩
      rintro e w87 ⟨rfl, F87, u87⟩
      have D87 := back _ _ _ F87 u87
      have I87 := Ints.upd I u87 fun g hg e => e.2.1 (kf _ hg)
      have y87 := Upd.chg y72 (Nat.le_refl _) u87
      obtain ⟨KG, G, kg, back2⟩ := D87.snd
      refine ⟨_, rfl, dp, u87.cell (fun e => e.2.1 (kf _ hKb)) e2, (rwriteX G y87.size hgd (by omega) (n := dp) (Ints.ok I87 fun g _ h => kg g h) hl c).imp ?_⟩
      rintro e w93 ⟨rfl, G93, u93⟩
      obtain ⟨n1, n2, n3⟩ := near (near_write d dp xs)
      exact ⟨_, rfl, mkJ (by simp) (back2 _ _ _ G93 u93) n1 n2 n3 (Upd.chg y87 (Nat.le_refl _) u93)⟩
    refine ⟨_, _, _, rfl, dO, x72.cell c0, brr (fun h => ⟨dn, x72.cell c1, brr (fun h => ⟨⟨by decide, by decide⟩, ?_⟩) fun h => W _ _ _ _ I72 hpg.1.symm⟩) fun h => W _ _ _ _ I72 hpg.1.symm⟩
    have IS := I72.sub 1 256 256 (Nat.le_refl _)
    exact W _ _ _ _ IS (by rw [List.length_drop, List.length_take, hpg.1]; rfl)
  · obtain ⟨KF, F, kf, back⟩ := D15.fst
    refine ⟨dp, c2, (readX F (by omega) (n := dp)).imp ?_⟩
    rintro e w103 ⟨p103, c103, rfl, I103, _, F103, u103⟩
    have D103 := back _ _ _ F103 u103
    have y103 := Upd.chg y15 (Nat.le_refl _) u103
    obtain ⟨KG, G, kg, back2⟩ := D103.snd
    obtain ⟨KG0, G0, _, _⟩ := D15.snd
    have hb2 := (RefX.hb G0).2.2
    refine ⟨_, _, _, _, rfl, dp, u103.cell (fun e => e.2.1 (kf _ hKb)) c2, (rreadX G hgd (by omega) (n := dp)).imp ?_⟩
    rintro e w110 ⟨p110, c110, rfl, I110, G110, u110⟩
    have D110 := back2 _ _ _ G110 (u110.mono fun g _ e => e ▸ RefX.hb G)
    have I103' := Ints.upd I103 u110 fun g hg e => by omega
    have y110 : Ext w20 w110 := Upd.then y103 u110 fun g hg e => by have := (RefX.hb G0).1; omega
    obtain ⟨n1, n2, n3⟩ := near (near_read d dp)
    have hlen := read_len hgd dp
    refine ⟨_, _, _, _, rfl, tru (by simp) ((same_does I103' I110 rfl rfl _ _ hlen).imp ?_)⟩
    rintro e w119 ⟨rfl, x119⟩
    exact ⟨_, rfl, mkJ (decide_eq_true rfl) (D110.ext x119) n1 n2 n3 (y110.thn x119)⟩
  · obtain ⟨KF, F, kf, back⟩ := D15.fst
    refine (syncX F y15.size (by omega)).imp ?_
    rintro e w126 ⟨rfl, F126, u126⟩
    have D126 := back _ _ _ F126 u126
    have y126 := Upd.chg y15 (Nat.le_refl _) u126
    obtain ⟨KG, G, kg, back2⟩ := D126.snd
    refine ⟨_, rfl, (rsyncX G y126.size hgd (by omega)).imp ?_⟩
    rintro e w129 ⟨rfl, G129, u129⟩
    obtain ⟨n1, n2, n3⟩ := near (near_sync d)
    exact ⟨_, rfl, mkJ (by simp) (back2 _ _ _ G129 u129) n1 n2 n3 (Upd.chg y126 (Nat.le_refl _) u129)⟩
  · obtain ⟨KF, F, kf, back⟩ := D15.fst
    refine ⟨_, _, _, c4, (tellX F y15.size (Ints.ext IB y15) rfl cc (by omega)).imp ?_⟩
    rintro e w138 ⟨rfl, F138, u138⟩
    refine ⟨rfl, fun wd35 xd => ?_⟩
    have xd := xd.ext
    have D138 := (back _ _ _ F138 u138).ext xd
    have y138 := (Upd.chg y15 (Nat.le_refl _) u138).thn xd
    obtain ⟨KG, G, kg, back2⟩ := D138.snd
    have c4' := xd.cell (u138.cell (fun e => e.2.1 (kf _ hKb)) c4)
    obtain ⟨po, lo', co, hc3, p146, l146, c146, w146, hr146, hcan, hst⟩ := rtell G y138.size (Ints.ext IB y138) (c1 := cc) (by omega)
    refine ⟨b2, 0, rfl, po, lo', co, hc3, _, _, _, c4', p146, l146, c146, w146, hr146, b2, 0, rfl, hcan, fun ws s => ?_⟩
    obtain ⟨Gs, us⟩ := hst ws s
    refine mkJ rfl (back2 _ _ _ Gs us) ?_ ?_ hnow (Upd.chg y138 (Nat.le_refl _) us)
    · show d.ops ≤ _; omega
    · show (d.out ++ db).length ≤ _; rw [List.length_append]; omega
  · obtain ⟨KF, F, kf, back⟩ := D15.fst
    refine ⟨dn, c1, (fuseX F k1).imp ?_⟩
    rintro e w156 ⟨rfl, F156, u156⟩
    have D156 := back _ _ _ F156 u156
    have y156 := Upd.chg y15 (Nat.le_refl _) u156
    obtain ⟨KG, G, kg, back2⟩ := D156.snd
    refine ⟨rfl, dn, u156.cell (fun e => e.2.1 (kf _ hKb)) c1, (rarmX G dn).imp ?_⟩
    rintro e w160 ⟨rfl, G160, u160⟩
    obtain ⟨n1, n2, n3⟩ := near (near_arm d dn)
    exact ⟨rfl, mkJ rfl (back2 _ _ _ G160 u160) n1 n2 n3 (Upd.chg y156 (Nat.le_refl _) u160)⟩
  · obtain ⟨KF, F, kf, back⟩ := D15.fst
    refine ⟨_, _, _, c4, (crashX F (by omega) (Ints.ext IB y15) rfl cc).imp ?_⟩
    rintro e w168 ⟨b168, rfl, M168, x168⟩
    have D168 := back _ _ _ (M168.lift F.2 y15.size x168.size) (x168.mono fun _ _ e => e.elim)
    have y168 := y15.thn x168
    obtain ⟨KG, G, kg, back2⟩ := D168.snd
    refine ⟨_, rfl, _, _, _, x168.cell c4, (rcrashX G y168.size hgd (by omega) (Ints.ext IB y168) rfl cc).imp ?_⟩
    rintro e w172 ⟨b172, rfl, G172, x172⟩
    refine ⟨_, rfl, mkJ rfl (back2 _ _ _ G172 (x172.mono fun _ _ e => e.elim)) ?_ ?_ ?_ (y168.thn x172)⟩
    · show (0 : Int) ≤ _; omega
    · show 0 ≤ _; exact Nat.zero_le _
    · rw [crash_len hgd]; exact hnow
  · obtain ⟨S1, S2, m1, m2, h1, h2, hk⟩ := D15
    have F : DevX w15 w20.heap.size (fun g => K15 g ∨ (S2 g ∧ g < w15.heap.size)) b1 d := ⟨⟨S1, m1, fun g hg => ⟨(h1 g hg).1, fun h => h.elim (h1 g hg).2.1 fun h => (h1 g hg).2.2 h.1⟩⟩, fun g hg => hg.elim (hk g) fun h => h.2⟩
    refine (cloneX F (by omega) (by omega)).imp ?_
    rintro e w57 ⟨b57, rfl, M57, x57⟩
    obtain ⟨K57, F57, k57, n57⟩ := F.keep x57 fun _ => False.elim
    have y57 := y15.thn x57
    refine ⟨_, rfl, (page_does _ _).imp ?_⟩
    rintro e w59 ⟨p59, rfl, I59, x59⟩
    obtain ⟨K59, F59, k59, n59⟩ := F57.keep x59 fun _ => False.elim
    have I59 := Ints.ok I59.mid (ok' := K59) fun g _ h => n59 g h.1 h.2
    have y59 := y57.thn x59
    have hpg := pageL_pg 9 1
    generalize pageL 9 1 = pg at *
    refine ⟨_, _, _, rfl, (writeX F59 y59.size (by omega) (n := 2) I59 hpg.1.symm 256).imp ?_⟩
    rintro e w60 ⟨rfl, F60, u60⟩
    have y60 := Upd.chg y59 (Nat.le_refl _) u60
    refine ⟨_, rfl, (fuseX F60 (inI64 (by decide) (by decide))).imp ?_⟩
    rintro e w62 ⟨rfl, F62, u62⟩
    have y62 := Upd.chg y60 (Nat.le_refl _) u62
    have s15 := y15.size
    have in3 : ∀ g, w15.heap.size ≤ g → g < w57.heap.size → K59 g := fun g h h' => k59 g (n57 g h h')
    have in2 : ∀ g, S2 g → g < w15.heap.size → K59 g := fun g h h' => k59 g (k57 g (.inr ⟨h, h'⟩))
    refine ⟨rfl, mkJ (K := K15) rfl ⟨_, _, ((M57.lt.ext x59).upd u60 fun g _ hg e => e.2.1 (in3 g hg.1 hg.2)).upd u62 fun g _ hg e => e.2.1 (in3 g hg.1 hg.2), (((m2.lt.ext x57).ext x59).upd u60 fun g _ hg e => e.2.1 (in2 g hg.1 hg.2)).upd u62 fun g _ hg e => e.2.1 (in2 g hg.1 hg.2), fun g hg => ⟨by have := hg.1; omega, fun h => by have := hk g h; have := hg.1; omega, fun h => by have := hg.1; have := h.2; omega⟩, fun g hg => h2 g hg.1, fun g hg => ?_⟩ (by omega) (by omega) hnow y62⟩
    have := hk g hg
    have := x57.size
    have := x59.size
    have := u60.size
    have := u62.size
    omega
  · rintro _ _ bo nc wc hJ'
    rw [hJ] at hJ'
    obtain ⟨K', b1', b2', d', rfl, rfl, rfl, D', o1, o2, o3, y'⟩ := hJ'
    intro wd xd
    have xd := xd.ext
    have Dd := D'.ext xd
    have yd := y'.thn xd
    obtain ⟨KF, F, _, _⟩ := Dd.fst
    obtain ⟨KG, G, _, _⟩ := Dd.snd
    obtain ⟨S, mr, hS⟩ := G.1
    obtain ⟨ps, cs, pn, cn, pw, cw, po, co, vn, vs, vw, A⟩ := mr
    refine ⟨fun w => w.cell? ⟨b2', 6, none⟩ = some (.bool d'.dead) ∧ w.cell? ⟨b2', 5, none⟩ = some (.int .i64 d'.ops) ∧ w.cell? ⟨b2', 1, none⟩ = some (.slice pn d'.now.length cn), ⟨A.blk.cell 6 rfl, A.blk.cell 5 rfl, A.blk.cell 1 rfl⟩, fls rfl (deadX F ⟨_, rfl, ⟨A.blk.cell 6 rfl, A.blk.cell 5 rfl, A.blk.cell 1 rfl⟩, b2', 0, rfl, _, fun _ h => h.1, fls (by simp) (opsX F ⟨_, rfl, ⟨A.blk.cell 6 rfl, A.blk.cell 5 rfl, A.blk.cell 1 rfl⟩, b2', 0, rfl, _, fun _ h => h.2.1, fls (by simp) (pagesX F ⟨_, rfl, ⟨A.blk.cell 6 rfl, A.blk.cell 5 rfl, A.blk.cell 1 rfl⟩, b2', 0, rfl, _, _, _, fun _ h => h.2.2, fls (by simp) ((imageX F).imp ?_)⟩)⟩)⟩)⟩
    rintro e w205 ⟨p205, c205, rfl, I205, _, x205⟩
    obtain ⟨KG2, G2, _, _⟩ := (Dd.ext x205).snd
    refine ⟨_, _, _, rfl, (rimageX G2 (by omega)).imp ?_⟩
    rintro e w207 ⟨p207, c207, rfl, I207, x207⟩
    have hil : d'.image.length ≤ 1048576 := by
      have := pgs_len Dd.good.now
      unfold Dev.image; omega
    refine ⟨_, _, _, rfl, (same_does (Ints.ext I205 x207) I207 rfl rfl _ _ (by omega)).imp ?_⟩
    rintro e w208 ⟨rfl, x208⟩
    have zz := (x205.thn x207).thn x208
    exact ⟨_, rfl, fls (by simp) ⟨inI64 (by omega) (by omega), ds.length - (i + 1), by omega, i + 1, _, b1', b2', d', rfl, rfl, by omega, hc, rfl, Dd.ext zz, by omega, o2, o3, yd.thn zz⟩⟩
end Go.Proofs.Ytiblbjagfiigdaa
