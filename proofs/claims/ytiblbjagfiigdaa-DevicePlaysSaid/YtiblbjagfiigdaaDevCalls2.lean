/-
  Devices: what Sync, Read, Outcomes, Fuse, Image do; a device of given bytes.
-/
import Derived.Test.YtiblbjagfiigdaaDevCalls
namespace Go.Proofs.Ytiblbjagfiigdaa
open Go.RowKit Go.Vc
variable {w : World} {S : Nat → Prop} {b : Nat} {d : Dev} {R : Ending → World → Prop}
theorem row_page {ok : Nat → Prop} {n c g o : Nat} {ps : List (List Int)} (h : Row w ok 256 (some ⟨g, o, none⟩) n c (pgs ps)) (hp : ∀ q ∈ ps, Pg q) {k : Nat} (hk : k < ps.length) : Ints .u8 w ok (some ⟨g, o + k * 256, none⟩) ps[k] := fun i hi => by
  obtain ⟨_, _, _, ⟨e, _⟩ | ⟨g', o', e, h5, _, h7, _⟩⟩ := h
  · cases e
  injection e with e; injection e with e1 e2; subst e1; subst e2
  have hq := hp _ (List.getElem_mem hk)
  refine ⟨g, o + k * 256, rfl, h5, ?_, hq.2 _ (List.getElem_mem hi)⟩
  rw [Nat.mul_one, Nat.add_assoc]
  refine h7 _ _ ?_
  have hs := flat_sub hp k hk
  have h1 : ((ps.flatten.take (k * 256 + 256)).drop (k * 256))[i]? = some (ps[k])[i] := by rw [hs]; exact List.getElem?_eq_getElem hi
  rw [List.getElem?_drop, List.getElem?_take_of_lt (by have := hq.1; omega)] at h1
  unfold pgs
  rw [List.getElem?_map, h1]
  rfl
theorem subp0 (g o : Nat) : subp (some ⟨g, o, none⟩) 0 256 1 = some ⟨g, o, none⟩ := by simp [subp, add_plain']
theorem blk_src {ok : Nat → Prop} {p : Option Addr} {n c : Nat} {ps : List (List Int)} (h : Row w ok 256 p n c (pgs ps)) (c' : Nat) : Go.Src Try.prog 256 62 (.slice p n c') n (pgs ps) w := Src.kit h.src Try.underlying62 c' h.1 (by decide) (pgs_one ps)
/-- All bytes last. -/
theorem last_does (h : DevM w S b d) : DoesV Try.prog (.func 45) #[.pointer (some ⟨b, 0, none⟩)] #[] #[] w fun e w' => e = .returned (.tuple #[]) ∧ DevM w' (fun g => S g ∨ w.heap.size ≤ g) b d.last ∧ Upd (fun g => g = b) w w' := by
  show Does Try.prog 45 #[.pointer (some ⟨b, 0, none⟩)] w _
  obtain ⟨hg, pl, cl, pn, cn, pw, cw, po, co, f, A⟩ := h
  have hmax := hg.max
  obtain ⟨p7, c7, w7, hr, R7, x7⟩ := copy_row slBlk 62 (blk_src A.now cn) (by simp only [maxLen]; omega) (by omega)
  have A7 := A.upd x7 fun _ _ _ => id
  refine f45_does _ ⟨b, 0, rfl, _, _, _, A.blk.cell 1 rfl, p7, _, c7, w7, hr, b, 0, rfl, A7.blk.can 0 (by simp), fun ws s => ⟨b, 0, rfl, (A7.blk.store s).can 2 (by simp), fun ws2 s2 => ⟨rfl, ?_, Upd.trans (Upd.trans (x7.mono fun _ _ e => e.elim) s.upd) s2.upd⟩⟩⟩
  have B : Blk ws2 b [.slice p7 d.now.length c7, .slice pn d.now.length cn, .slice none 0 0, .slice po d.out.length co, .int .i64 f, .bool d.dead, .int .i64 d.ops] := (A7.blk.store s).store s2
  have u : Upd (fun g => g = b) w7 ws2 := Upd.trans s.upd s2.upd
  have hbl := A.blk.lt
  refine ⟨hg.last, p7, c7, pn, cn, none, 0, po, co, f, A.fuse, A.fin, .inl A.sb, A.oc, ?_, ?_, ?_, ?_, ?_⟩
  · exact B
  · exact (A7.now.upd u fun a ha => (A7.now.lt ha).1.2).ok fun g _ ho => ⟨.inl ho.1, ho.2⟩
  · exact Row.nil _ _ _
  · refine (R7.upd u fun a ha e => ?_).ok fun g _ ho => ?_
    · have := (R7.lt ha).1; omega
    · subst ho
      refine ⟨.inr (Nat.le_refl _), by omega, fun a ha e => ?_, fun a ha => by cases ha⟩
      have := (A.now.lt ha).2; omega
  · exact Ints.ok (A7.ou.upd' u fun g _ hg => hg.2.1) fun g _ ho => ⟨.inl ho.1, ho.2.1, ho.2.2.1, fun a ha => by cases ha⟩
theorem nothing_does {w : World} {R : Ending → World → Prop} (h : R (.returned (.tuple #[])) w) : DoesV Try.prog (.func 44) #[] #[] #[] w R := f44_does h
/-- Sync. -/
theorem sync_does (h : DevM w S b d) (hs : d.ops < 1000000) :
    Does Try.prog 18 #[.pointer (some ⟨b, 0, none⟩)] w fun e w' => e = .returned (.int .i64 d.sync.2) ∧ DevM w' (fun g => S g ∨ w.heap.size ≤ g) b d.sync.1 ∧ Upd S w w' := by
  refine f18_does _ ?_
  intro b3 w3 N3
  have k3 := N3.can 0 (by decide)
  refine ⟨k3, fun ws s => ?_⟩
  have x : Ext w ws := Upd.then N3.ext s.upd fun g hg e => by have := N3.eq; omega
  have c3 := s.cell k3
  have hb3 : b3 = w.heap.size := N3.eq
  have hsz : ws.heap.size = w.heap.size + 1 := by rw [s.size, N3.size]
  have H := h.lt.ext x
  have hbl := h.sb.2
  have ew : d.sync = if d.dead then (d, (7 : Int)) else match d.op with
    | (d', none) => (d', 7)
    | (d', some o) => (if o = 1 then d' else d'.last, if o = 0 then 0 else 7) := rfl
  rw [ew]
  refine op_does H hs (fun g => S g ∧ g < w.heap.size) (fun g hg => by omega) (fun hd w' xw => ?_) (fun hd d' hop w' M' u' => ?_) fun hd d' o hop w' M' u' => ?_
  · rw [if_pos hd]
    exact ⟨_, rfl, rfl, (H.ext xw).mono fun g _ hg => .inl hg.1, (x.thn xw).mono fun _ _ e => e.elim⟩
  all_goals
    have c3 := u'.cell (show ¬ b3 = b by omega) c3
    have hus := u'.size
    rw [if_neg (by rw [hd]; decide), hop]
    have U' : Upd S w w' := Upd.then (x.mono fun _ _ e => e.elim) u' fun g _ e => by subst e; exact h.sb.1
  · exact nothing_does ⟨rfl, Upd.refl _ _, _, rfl, rfl, M'.mono fun g _ hg => .inl hg.1, U'⟩
  · show Does Try.prog 46 #[.int .u8 o, .pointer (some ⟨b3, 0, none⟩)] w' _
    refine f46_does _ _ ⟨b3, 0, rfl, _, _, _, c3, told_does (op_out hop) (fun ho => Does_V (last_does M') ?_) fun ho => ?_⟩
    · rintro e w'' ⟨rfl, hm, hu⟩
      refine ⟨rfl, _, rfl, _, rfl, hu.mono fun g _ e => by subst e; exact ⟨h.sb.1, hbl⟩, fun w3 u3 => ⟨_, rfl, by simp only, ?_, ?_⟩⟩
      · simp only [if_neg ho]
        refine (hm.upd u3 fun g hg hs e => ?_).mono fun g _ hg => ?_
        · rcases hs with hs | hs
          · have := hs.2; omega
          · omega
        · rcases hg with hg | hg
          · exact .inl hg.1
          · exact .inr (by omega)
      · exact Upd.then (Upd.then U' hu fun g _ e => by subst e; exact h.sb.1) u3 fun g hg e => by omega
    · subst ho
      refine ⟨_, rfl, _, rfl, Upd.refl _ _, fun w3 u3 => ⟨_, rfl, rfl, ?_, ?_⟩⟩
      · simp only [if_true]
        exact (M'.upd u3 fun g hg hs e => by have := hs.2; omega).mono fun g _ hg => .inl hg.1
      · exact Upd.then U' u3 fun g hg e => by omega
/-- Read. -/
theorem read_does (h : DevM w S b d) (hs : d.ops < 1000000) {n : Int} :
    Does Try.prog 14 #[.pointer (some ⟨b, 0, none⟩), .int .i64 n] w fun e w' => ∃ p c, e = .returned (.tuple #[.slice p (d.read n).2.1.length c, .int .i64 (d.read n).2.2]) ∧ Ints .u8 w' (fun g => w.heap.size ≤ g) p (d.read n).2.1 ∧ (d.read n).2.1.length ≤ c ∧ DevM w' (fun g => S g ∧ g < w.heap.size) b (d.read n).1 ∧ Upd S w w' := by
  refine f14_does _ _ ?_
  intro b2 w2 N2 b3 w3 N3
  have x3 : Ext w w3 := N2.ext.thn N3.ext
  have H3 := h.lt.ext x3
  have c2 : w3.cell? ⟨b2, 0, none⟩ = some (.pointer (some ⟨b, 0, none⟩)) := N3.ext.cell (N2.cell 0 rfl)
  have c3 : w3.cell? ⟨b3, 0, none⟩ = some (.int .i64 n) := N3.cell 0 rfl
  have hb2 : b2 = w.heap.size := N2.eq
  have hb3 : b3 = w.heap.size + 1 := N3.eq.trans N2.size
  have hs3 : w3.heap.size = w.heap.size + 2 := by rw [N3.size, N2.size]
  have hbl := h.sb.2
  clear N2 N3
  refine ⟨_, c2, made_does H3 ⟨true, rfl, tru rfl ⟨_, c2, _, c3, there_does H3 ⟨_, rfl, brr (fun hi => ?_) fun hi => ?_⟩⟩⟩⟩
  · have hi : d.is n = false := by simpa using hi
    have e : d.read n = (d, [], 1) := by unfold Dev.read; rw [hi]; rfl
    rw [e]
    exact ⟨none, 0, rfl, RS.nil, Nat.le_refl _, H3, x3.mono fun _ _ e => e.elim⟩
  have hi : d.is n = true := by simpa using hi
  have ew : d.read n = if d.dead then (d, [], (7 : Int)) else match d.op with
    | (d', none) => (d', [], 7)
    | (d', some o) => if o = 1 then (d', [], 7) else (d', d.now.getD n.toNat [], 0) := by unfold Dev.read; rw [hi]; rfl
  rw [ew]
  intro b6 w6 N6
  have hb6 : b6 = w.heap.size + 2 := by rw [N6.eq, hs3]
  have hs6 : w6.heap.size = w.heap.size + 3 := by rw [N6.size, hs3]
  have x6 := x3.thn N6.ext
  have c2 := N6.ext.cell c2
  have c3 := N6.ext.cell c3
  have c6 := N6.cell 0 rfl
  have k6 := N6.can 0 (by decide)
  have H6 := H3.ext N6.ext
  clear N6
  refine ⟨_, c2, op_does H6 hs (fun g => g = b6) (fun g hg => by omega) (fun hd w' xw => ?_) (fun hd d' hop w' M' u' => ?_) fun hd d' o hop w' M' u' => ?_⟩
  · rw [if_pos hd]
    exact ⟨_, rfl, none, 0, 0, xw.cell c6, none, 0, rfl, RS.nil, Nat.le_refl _, H6.ext xw, (x6.thn xw).mono fun _ _ e => e.elim⟩
  all_goals
    have nb : ∀ g, w.heap.size ≤ g → ¬ g = b := fun g hg => by omega
    have c2 := u'.cell (nb b2 (by omega)) c2
    have c3 := u'.cell (nb b3 (by omega)) c3
    have c6 := u'.cell (nb b6 (by omega)) c6
    have k6 := u'.can (nb b6 (by omega)) k6
    have hus := u'.size
    rw [if_neg (by rw [hd]; decide), hop]
    have U' : Upd S w w' := Upd.then (x6.mono fun _ _ e => e.elim) u' fun g _ e => by subst e; exact h.sb.1
  · exact nothing_does ⟨rfl, Upd.refl _ _, _, rfl, none, 0, 0, c6, none, 0, rfl, RS.nil, Nat.le_refl _, M', U'⟩
  · show Does Try.prog 43 #[.int .u8 o, .pointer (some ⟨b2, 0, none⟩), .pointer (some ⟨b3, 0, none⟩), .pointer (some ⟨b6, 0, none⟩)] w' _
    refine f43_does _ _ _ _ (brr (fun ho => ?_) fun ho wd xd => ?_)
    · have ho : o = 1 := by simpa using ho
      subst ho
      refine ⟨_, rfl, Upd.refl _ _, fun w3 u3 => ⟨_, rfl, none, 0, 0, u3.cell (by omega) c6, none, 0, rfl, RS.nil, Nat.le_refl _, M'.upd u3 fun g _ hs e => by have := hs.2; omega, Upd.then U' u3 fun g hg e => by omega⟩⟩
    · have ho : o ≠ 1 := by simpa using ho
      have xd := xd.ext
      have hk := d.op_now
      rw [hop] at hk
      obtain ⟨h1, h2⟩ := Dev.is_iff.1 hi
      obtain ⟨m, rfl⟩ := Int.eq_ofNat_of_zero_le h1
      have Md := M'.ext xd
      obtain ⟨hg, pl, cl, pn, cn, pw, cw, po, co, f, A⟩ := id Md
      have h2 : m < d'.now.length := by rw [hk.1]; simpa using h2
      have hpl : (pgs d'.now).length = d'.now.length * 256 := by unfold pgs; rw [List.length_map, pgs_len hg.now]
      obtain ⟨gn, on, hpn, hgn, _⟩ := A.now.can (j := m * 256) (by omega)
      subst hpn
      have hpg := hg.now _ (List.getElem_mem h2)
      have P := row_page A.now hg.now h2
      have hsrc := ints_row P (P := Try.prog) Try.underlying22 256
      rw [hpg.1] at hsrc
      obtain ⟨p15, c15, w15, hr, R15, x15⟩ := copy_row slB 22 hsrc (by decide) (by decide)
      refine ⟨b2, 0, rfl, _, xd.cell c2, b, 0, rfl, _, _, _, A.blk.cell 1 rfl, b3, 0, rfl, _, xd.cell c3, ⟨by omega, by omega⟩, gn, on, rfl, p15, 256, c15, w15, ?_, b6, 0, rfl, (xd.thn x15).can k6, fun w16 s16 => ?_⟩
      · rw [Int.toNat_natCast, subp0]; exact hr
      have c6 := s16.cell ((xd.thn x15).can k6)
      obtain ⟨hl15, I15⟩ := R15.ints hpg.2
      have I16 := I15.upd s16.upd fun g hg e => by subst hg; subst e; have := xd.size; omega
      have U16 : Upd (fun g => g = b6) w' w16 := Upd.trans ((xd.thn x15).mono fun _ _ e => e.elim) s16.upd
      refine ⟨_, rfl, U16, fun w3 u3 => ⟨0, rfl, p15, 256, c15, u3.cell (by omega) c6, p15, c15, ?_⟩⟩
      simp only [if_neg ho]
      have e : d.now.getD m [] = d'.now[m] := by have hk1 : d'.now = d.now := hk.1; rw [getD_at _ (by rw [← hk1]; exact h2)]; simp only [hk1]
      have hsd := xd.size
      rw [Int.toNat_natCast, e, hpg.1]
      refine ⟨rfl, ?_, R15.2.1, ?_, ?_⟩
      · exact Ints.ok (I16.upd' u3 fun g _ hg e => by subst hg; omega) fun g _ hg => by subst hg; omega
      · have M16 := M'.upd U16 fun g _ hs e => by have := hs.2; omega
        exact M16.upd u3 fun g _ hs e => by have := hs.2; omega
      · exact Upd.then (Upd.then U' U16 fun g hg e => by omega) u3 fun g hg e => by omega
/-- Outcomes. -/
theorem tell_does (h : DevM w S b d) {ok : Nat → Prop} {p1 : Option Addr} {xs : List Int} {l1 : Nat} (hx : Ints .u8 w ok p1 xs) (hl : l1 = xs.length) (c1 : Nat) (hs : d.out.length + xs.length ≤ 1000000) :
    Does Try.prog 11 #[.pointer (some ⟨b, 0, none⟩), .slice p1 l1 c1] w fun e w' => e = .returned (.tuple #[]) ∧ DevM w' (fun g => S g ∨ w.heap.size ≤ g) b (d.tell xs) ∧ Upd (fun g => g = b) w w' := by
  subst hl
  refine f11_does _ _ _ _ (made_does h ⟨true, rfl, tru rfl ?_⟩)
  obtain ⟨hg, pl, cl, pn, cn, pw, cw, po, co, f, A⟩ := h
  obtain ⟨p11, c11, w11, hr11, R11, x11⟩ := copy_row slB 22 (ints_row A.ou (P := Try.prog) Try.underlying22 co) (by simp only [maxLen]; omega) (by omega)
  obtain ⟨p13, c13, w13, hr13, R13, u13, hcase⟩ := R11.append slB 22 (ints_row (hx.ext x11) (P := Try.prog) Try.underlying22 c1) (by simp only [maxLen]; omega) (by omega)
  have hs11 := x11.size
  have x13 : Ext w w13 := Upd.then x11 u13 fun g hg ⟨_, _, a, ha, e⟩ => by have := (R11.lt ha).1; omega
  have A13 := A.upd x13 fun _ _ _ => id
  refine ⟨b, 0, rfl, _, _, _, A.blk.cell 3 rfl, p11, _, c11, w11, hr11, p13, _, c13, w13, hr13, b, 0, rfl, A13.blk.can 3 (by simp), fun ws s => ⟨rfl, ?_, Upd.trans (x13.mono fun _ _ e => e.elim) s.upd⟩⟩
  have hbl := A.blk.lt
  have hall : ∀ x ∈ d.out ++ xs, InK .u8 x := fun x hx' => (List.mem_append.1 hx').elim (A.ou.inK x) (hx.inK x)
  have R13' := R13
  rw [← List.map_append] at R13'
  obtain ⟨hl, O⟩ := R13'.ints hall
  have B : Blk ws b [.slice pl d.now.length cl, .slice pn d.now.length cn, .slice pw d.writes.length cw, .slice p13 (d.out.length + xs.length) c13, .int .i64 f, .bool d.dead, .int .i64 d.ops] := A13.blk.store s
  refine ⟨hg.tell hx.inK, pl, cl, pn, cn, pw, cw, p13, c13, f, ?_⟩
  have A' := A13.mono (S' := fun g => S g ∨ w.heap.size ≤ g) fun g _ hs => .inl hs
  refine A'.hdr (d' := d.tell xs) s.upd (by simpa [Dev.tell] using B) rfl rfl rfl A.fuse A.fin (by have := R13.2.1; simpa [Dev.tell] using this) (Ints.ok O fun g _ hg => ?_)
  have : w.heap.size ≤ g := by rcases hg with hg | hg <;> omega
  exact ⟨.inr this, by omega, fun a ha e => by have := (A.now.lt ha).2; omega, fun a ha e => by have := (A.wr.lt ha).2; omega⟩
/-- Fuse. -/
theorem fuse_does (h : DevM w S b d) {n : Int} (hn : InK .i64 n) :
    Does Try.prog 22 #[.pointer (some ⟨b, 0, none⟩), .int .i64 n] w fun e w' => e = .returned (.tuple #[]) ∧ DevM w' S b (d.arm n) ∧ Upd (fun g => g = b) w w' := by
  refine f22_does _ _ (made_does h ⟨true, rfl, tru rfl ?_⟩)
  obtain ⟨hg, pl, cl, pn, cn, pw, cw, po, co, f, A⟩ := id h
  refine ⟨b, 0, rfl, _, A.blk.cell 5 rfl, brr (fun hd => ?_) fun hd => ?_⟩
  · have hd : d.dead = false := by simpa using hd
    have e : d.arm n = { d with fuse := max n (-1) } := by unfold Dev.arm; rw [hd]; rfl
    refine ⟨b, 0, rfl, A.blk.can 4 (by simp), fun ws s => ⟨rfl, ⟨hg.arm hn, ?_⟩, s.upd⟩⟩
    rw [e]
    have B : Blk ws b [.slice pl d.now.length cl, .slice pn d.now.length cn, .slice pw d.writes.length cw, .slice po d.out.length co, .int .i64 n, .bool d.dead, .int .i64 d.ops] := A.blk.store s
    exact ⟨pl, cl, pn, cn, pw, cw, po, co, n, A.hdr (d' := { d with fuse := max n (-1) }) s.upd B rfl rfl rfl rfl hn A.oc A.ou⟩
  · have hd : d.dead = true := by simpa using hd
    have e : d.arm n = d := by unfold Dev.arm; rw [hd]; rfl
    rw [e]
    exact ⟨rfl, h, Upd.refl _ _⟩
end Go.Proofs.Ytiblbjagfiigdaa
