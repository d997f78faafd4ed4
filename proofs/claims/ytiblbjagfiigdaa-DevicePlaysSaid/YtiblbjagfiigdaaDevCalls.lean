/-
  Devices: what Write, Read, Sync do.
-/
import Derived.Test.YtiblbjagfiigdaaDevMem
namespace Go.Proofs.Ytiblbjagfiigdaa
open Go.RowKit Go.Vc
theorem slBlk : SlT Try.prog 62 72 256 256 := ⟨Try.underlying62, _, .agg (List.replicate 256 (.int .u8 0) : List Value).toArray, rfl, by kernel_rfl, rfl, rfl, by kernel_rfl, by decide⟩
theorem slWr : SlT Try.prog 63 74 257 264 := ⟨Try.underlying63, _, .agg ([.int .i64 0] ++ List.replicate 256 (.int .u8 0) : List Value).toArray, rfl, by kernel_rfl, rfl, rfl, by kernel_rfl, by decide⟩
theorem ints_row {k : IntKind} {w : World} {ok : Nat → Prop} {p : Option Addr} {xs : List Int} (h : Ints k w ok p xs) {tx e' : TypeId} {P : Program} (hk : P.underlying tx = some (.slice e')) (c : Nat) : Go.Src P 1 tx (.slice p xs.length c) xs.length (xs.map (Value.int k)) w :=
  Src.kit h.src hk c (by simp) (by decide) (ints_one k xs)
theorem len257 (a v : Value) : ([a] ++ List.replicate 256 v : List Value).length = 257 := by rw [List.length_append, List.length_replicate]; rfl
theorem size257 (a v : Value) : (Value.agg ([a] ++ List.replicate 256 v : List Value).toArray).cells.size = 257 := by show (([a] ++ List.replicate 256 v : List Value).toArray).size = 257; rw [List.size_toArray, len257]
theorem pgs_one (ps : List (List Int)) : ∀ u ∈ pgs ps, u.oneCell' = true := ints_one _ _
theorem wrs_one (ws : List (Nat × List Int)) : ∀ u ∈ wrs ws, u.oneCell' = true := fun u hu => by
  obtain ⟨l, hl, hu⟩ := List.mem_flatten.1 hu
  obtain ⟨x, _, rfl⟩ := List.mem_map.1 hl
  rcases List.mem_cons.1 hu with rfl | h
  · rfl
  · exact ints_one _ _ u h
variable {w : World} {S : Nat → Prop} {b : Nat} {d : Dev} {R : Ending → World → Prop}
/-- A page is laid. -/
theorem lay_does (h : DevM w S b d) (hw : (d.writes.length : Int) < d.ops) (hs : d.ops < 2000000) {n : Nat} (hn : n < d.now.length) {ok : Nat → Prop} {p2 : Option Addr} {xs : List Int} (hx : Ints .u8 w ok p2 xs) (hxl : xs.length = 256) (c2 : Nat) :
    Does Try.prog 39 #[.pointer (some ⟨b, 0, none⟩), .int .i64 n, .slice p2 256 c2] w fun e w' => e = .returned (.tuple #[]) ∧ DevM w' (fun g => S g ∨ w.heap.size ≤ g) b (d.lay n xs) ∧ Upd S w w' := by
  refine f39_does _ _ _ _ _ ?_
  intro b6 w6 N6
  have hpg : Pg xs := ⟨hxl, hx.inK⟩
  have hb6 : b6 = w.heap.size := N6.eq
  have H6 := h.lt.ext N6.ext
  have X6 := hx.ext N6.ext
  have hbl := h.sb.2
  refine N6.blk.setL (j := 0) _ (by rw [len257, len257]; decide) (fun v hv => ?_) fun w7 B7 u7 => ?_
  · simp only [List.singleton_append, List.mem_cons, List.mem_replicate] at hv
    rcases hv with rfl | ⟨_, rfl⟩ <;> rfl
  rw [over_all (by rw [len257, len257])] at B7
  have H7 := H6.upd u7 fun g _ hs e => by have := hs.2; omega
  have hok7 : Ints .u8 w7 (fun g => ok g ∧ g < w.heap.size) p2 xs := by
    have := (Ints.ok hx (ok' := fun g => ok g ∧ g < w.heap.size) fun g hg ho => ⟨ho, hg⟩).ext N6.ext
    exact this.upd' u7 fun g _ hs e => by have := hs.2; omega
  have hdst : subp (some ⟨b6, 1, none⟩) 0 256 1 = some ⟨b6, 1, none⟩ := by simp [subp, add_plain']
  have hmn : Nat.min xs.length 256 = 256 := by rw [hxl]; rfl
  have hcp := copy_run (P := Try.prog) (dT := 22) (sT := 22) (ty := 3) (elem := 5) Try.underlying22 rfl hok7 (g := b6) (o := 1) (dl := 256) (m := 256) 256 c2 hxl.symm (fun i hi => B7.can _ (by rw [hmn] at hi; rw [len257]; omega)) (by rw [hmn]; decide)
  rw [hmn] at hcp
  rw [hdst]
  refine ⟨_, _, hcp, fun wd xd => ?_⟩
  have hxt : xs.take 256 = xs := List.take_of_length_le (by omega)
  rw [hxt] at xd
  have B8 := setCells_blk (xs.map (Value.int .u8)) B7 (j := 1) (by rw [len257, List.length_map, hxl]; decide)
  rw [List.singleton_append, over_tail (by rw [List.length_replicate, List.length_map, hxl])] at B8
  have u8 := setCells_upd b6 1 (xs.map (Value.int .u8)) w7
  have H8 := (H7.upd u8 fun g _ hs e => by have := hs.2; omega).ext xd.ext
  have B8' := B8.ext xd.ext
  have U8 : Ext w wd := Upd.then N6.ext (Ext.then (Upd.trans u7 u8) xd.ext) fun g hg e => by omega
  generalize w7.setCells b6 1 (xs.map (Value.int .u8)) = w8 at *
  obtain ⟨hg, pl, cl, pn, cn, pw, cw, po, co, f, A⟩ := H8
  have hmax := hg.max
  have hbyte : (xs.map (Value.int .u8)).length = 256 := by simp [hxl]
  have hpl : (pgs d.now).length = d.now.length * 256 := by unfold pgs; rw [List.length_map, pgs_len hg.now]
  have hroom : n * 256 + 256 ≤ (pgs d.now).length := by rw [hpl]; omega
  obtain ⟨gn, on, hpn, hgn, _⟩ := A.now.can (j := n * 256) (by omega)
  subst hpn
  refine ⟨b, 0, rfl, _, _, _, A.blk.cell 1 rfl, xs.map (Value.int .u8), hbyte, fun j u hj => ?_, ⟨by omega, by omega⟩, gn, on, rfl, ?_⟩
  · rw [Nat.add_comm 1]; exact B8'.cell (j + 1) (by rw [List.getElem?_cons_succ]; exact hj)
  rw [show decide ((xs.map (Value.int .u8)).length = 256) = true by simp [hxl], Int.toNat_natCast]
  show storeL gn (on + n * 256) (xs.map (Value.int .u8)) wd _
  refine Row.setL _ A.now (by rw [hbyte]; exact hroom) (ints_one _ _) fun w9 R9 u9 wd9 xd9 => ?_
  have hnow : over (pgs d.now) (n * 256) (xs.map (Value.int .u8)) = pgs (d.now.set n xs) := by unfold pgs; rw [flat_set hg.now n hn hpg, over_map]
  rw [hnow] at R9
  have U9 : Upd (fun z => z = gn) wd wd9 := Ext.then u9 xd9.ext
  have R9 := R9.ext xd9.ext
  have B9 := B8'.upd U9 (show ¬ b6 = gn by have := hgn.1.2; omega)
  have blk9 := A.blk.upd U9 (show ¬ b = gn from fun e => hgn.2 e.symm)
  have wr9 := A.wr.upd U9 fun a ha e => (A.wr.lt ha).1.2.2 _ rfl e.symm
  have la9 := A.la.upd U9 fun a ha e => (A.la.lt ha).1.2.2.1 _ rfl e.symm
  have ou9 := A.ou.upd' U9 fun g _ hg e => hg.2.2.1 _ rfl e.symm
  refine ⟨fun w => w.cell? ⟨b, 2, none⟩ = some (.slice pw d.writes.length cw), blk9.cell 2 rfl, b, 0, rfl, _, _, _, fun _ h => h, .int .i64 n :: xs.map (Value.int .u8), by simp [hxl], fun j u hj => by rw [Nat.zero_add]; exact B9.cell j hj, ?_⟩
  have hfill := fill_one (z := .agg (([.int .i64 0] ++ List.replicate 256 (.int .u8 0) : List Value)).toArray) (n := 257) (vs := .int .i64 n :: xs.map (Value.int .u8)) (size257 _ _) (by simp [hxl])
  rw [hfill]
  intro b27 w27 N27
  have hsrc : Go.Src Try.prog 257 63 (.slice (some ⟨b27, 0, none⟩) 1 1) 1 (.int .i64 n :: xs.map (Value.int .u8)) w27 := Src.kit N27.src Try.underlying63 1 (by simp [hxl]) (by decide) (by
    intro u hu
    rcases List.mem_cons.1 hu with rfl | h
    · rfl
    · exact ints_one _ _ u h)
  have hwlen : d.writes.length < 2000000 := by omega
  obtain ⟨p28, c28, w28, hr, R28, u28, hcase⟩ := (wr9.ext N27.ext).append slWr 63 hsrc (by simp only [maxLen]; omega) (by omega)
  refine ⟨N27.ext.cell (blk9.cell 2 rfl), p28, _, c28, w28, hr, ?_⟩
  have hbn : ¬ ∃ a, pw = some a ∧ a.block = b := fun ⟨a, ha, e⟩ => (A.wr.lt ha).1.2.1 e
  have blk28 := (blk9.ext N27.ext).upd u28 fun ⟨_, _, a, ha, e⟩ => hbn ⟨a, ha, e⟩
  have now28 := (R9.ext N27.ext).upd u28 fun a ha ⟨_, _, a', ha', e⟩ => by injection ha with ha; subst ha; exact (A.wr.lt ha').1.2.2 _ rfl e.symm
  have la28 := (la9.ext N27.ext).upd u28 fun a ha ⟨_, _, a', ha', e⟩ => (A.la.lt ha).1.2.2.2 _ ha' e
  have ou28 := (ou9.ext N27.ext).upd' u28 fun g _ hg ⟨_, _, a', ha', e⟩ => hg.2.2.2 _ ha' e
  refine ⟨b, 0, rfl, blk28.can 2 (by simp), fun ws s => ⟨rfl, ?_, ?_⟩⟩
  · have hsz : w.heap.size ≤ w27.heap.size := by have := U8.size; have := U9.size; have := N27.ext.size; omega
    have hB : Blk ws b [.slice pl d.now.length cl, .slice (some ⟨gn, on, none⟩) d.now.length cn, .slice p28 (d.writes.length + 1) c28, .slice po d.out.length co, .int .i64 f, .bool d.dead, .int .i64 d.ops] := blk28.store s
    have lt27 : ∀ g, g < wd.heap.size → g < w27.heap.size := fun g hg => by have := U9.size; have := N27.ext.size; omega
    have hgd := hg.lay hn hpg hw
    have hoff : ∀ g, g < wd.heap.size → Off pw g → Off p28 g := fun g hg ho a ha => by
      rcases hcase with ⟨_, rfl, _⟩ | ⟨_, rfl⟩
      · exact ho a ha
      · injection ha with ha; subst ha; have := lt27 g hg; simp only; omega
    have hS : ∀ g, (S g ∧ g < w.heap.size) → S g ∨ w.heap.size ≤ g := fun g hg => .inl hg.1
    refine ⟨hgd, pl, cl, some ⟨gn, on, none⟩, cn, p28, c28, po, co, f, A.fuse, A.fin, hS _ A.sb, A.oc, ?_, ?_, ?_, ?_, ?_⟩
    · simpa [Dev.lay] using hB
    · have := (now28.upd s.upd fun a ha => (now28.lt ha).1.2).ok (ok' := fun g => (S g ∨ w.heap.size ≤ g) ∧ g ≠ b) fun g _ ho => ⟨hS _ ho.1, ho.2⟩
      simpa [Dev.lay] using this
    · have := (R28.upd s.upd fun a ha e => ?_).ok (ok' := fun g => (S g ∨ w.heap.size ≤ g) ∧ g ≠ b ∧ Off (some ⟨gn, on, none⟩) g) fun g _ ho => ?_
      · have e : wrs d.writes ++ (.int .i64 n :: xs.map (Value.int .u8)) = wrs (d.lay n xs).writes := by simp [Dev.lay, wrs, wr1]
        rw [e] at this
        simpa [Dev.lay] using this
      · rcases (R28.lt ha).1 with ho | ho
        · exact ho.2.1 e
        · have := lt27 b A.blk.lt; omega
      · rcases ho with ho | rfl
        · exact ⟨hS _ ho.1, ho.2.1, ho.2.2⟩
        · refine ⟨.inr hsz, fun e => by have := lt27 b A.blk.lt; omega, fun a ha e => ?_⟩
          injection ha with ha; subst ha; have := lt27 _ (A.now.lt rfl).2; simp only at e this; omega
    · have := (la28.upd s.upd fun a ha => (la28.lt ha).1.2.1)
      obtain ⟨hl0, hl1, hl2, hl3⟩ := this
      refine ⟨by simpa [Dev.lay] using hl0, by simpa [Dev.lay] using hl1, hl2, hl3.imp id ?_⟩
      rintro ⟨g, o, rfl, ho, hr⟩
      exact ⟨g, o, rfl, ⟨hS _ ho.1, ho.2.1, ho.2.2.1, hoff g (A.la.lt rfl).2 ho.2.2.2⟩, hr⟩
    · have O := Ints.ok A.ou (ok' := fun g => (S g ∨ w.heap.size ≤ g) ∧ g ≠ b ∧ Off (some ⟨gn, on, none⟩) g ∧ Off p28 g ∧ Off pw g) fun g hg ho => ⟨hS _ ho.1, ho.2.1, ho.2.2.1, hoff g hg ho.2.2.2, ho.2.2.2⟩
      have O := (O.upd' U9 fun g _ hg e => hg.2.2.1 _ rfl e.symm).ext N27.ext
      have O := (O.upd' u28 fun g _ hg ⟨_, _, a', ha', e⟩ => hg.2.2.2.2 _ ha' e).upd' s.upd fun g _ hg => hg.2.1
      exact Ints.ok O fun g _ ho => ⟨ho.1, ho.2.1, ho.2.2.1, ho.2.2.2.1⟩
  · have s1 := (A.now.lt (a := ⟨gn, on, none⟩) rfl).1.1.1
    have e1 : Upd S w wd := U8.mono fun _ _ e => e.elim
    have e2 : Upd S w w27 := Upd.then e1 (Ext.then U9 N27.ext) fun g _ e => by subst e; exact s1
    have e3 : Upd S w w28 := Upd.then e2 u28 fun g _ ⟨_, _, a, ha, e⟩ => by have := (A.wr.lt ha).1.1.1; rwa [e] at this
    exact Upd.then e3 s.upd fun g _ e => by subst e; exact A.sb.1
theorem layc_does (h : DevM w S b d) (hw : (d.writes.length : Int) < d.ops) (hs : d.ops < 2000000) {n : Int} (hn : d.is n = true) {ok : Nat → Prop} {p2 : Option Addr} {xs : List Int} (hx : Ints .u8 w ok p2 xs) (hxl : xs.length = 256) {c2 b3 b4 b5 : Nat}
    (c3 : w.cell? ⟨b3, 0, none⟩ = some (.pointer (some ⟨b, 0, none⟩))) (c4 : w.cell? ⟨b4, 0, none⟩ = some (.int .i64 n)) (c5 : w.cell? ⟨b5, 0, none⟩ = some (.slice p2 256 c2)) :
    DoesV Try.prog (.func 38) #[] #[] #[.pointer (some ⟨b3, 0, none⟩), .pointer (some ⟨b4, 0, none⟩), .pointer (some ⟨b5, 0, none⟩)] w fun e w' => e = .returned (.tuple #[]) ∧ DevM w' (fun g => S g ∨ w.heap.size ≤ g) b (d.lay n.toNat xs) ∧ Upd S w w' := by
  obtain ⟨h1, h2⟩ := Dev.is_iff.1 hn
  obtain ⟨k, rfl⟩ := Int.eq_ofNat_of_zero_le h1
  refine f38_does _ _ _ ⟨b3, 0, rfl, _, c3, b4, 0, rfl, _, c4, b5, 0, rfl, _, _, _, c5, Does.imp (lay_does h hw hs (by simpa using h2) hx hxl _) ?_⟩
  rintro e w' ⟨rfl, hm, hu⟩
  exact ⟨rfl, rfl, by simpa using hm, hu⟩
theorem told_does {o : Int} (ho : o = 0 ∨ o = 1 ∨ o = 2) {g1 : Go.Fn} {fs1 cs1 : Array Value} (h0 : o ≠ 1 → DoesV Try.prog g1 fs1 #[] cs1 w fun e w' => e = .returned (.tuple #[]) ∧ R (.returned (.int .i64 (if o = 0 then 0 else 7))) w')
    (h1 : o = 1 → R (.returned (.int .i64 7)) w) : Does Try.prog 42 #[.int .u8 o, .func g1 fs1 cs1] w R := by
  refine f42_does _ _ _ _ (brr (fun h => Does_V (h0 (by simpa using h)) ?_) fun h => ?_)
  · rintro e w' ⟨rfl, hr⟩
    have h : o ≠ 1 := by simpa using h
    refine ⟨rfl, fls (by simpa using h) (brr (fun e => ?_) fun e => ?_)⟩
    · have e : o = 2 := by simpa using e
      subst e; exact hr
    · have e : o ≠ 2 := by simpa using e
      have : o = 0 := by omega
      subst this; exact hr
  · have h : o = 1 := by simpa using h
    exact tru (by simpa using h) (h1 h)
theorem op_out {d d' : Dev} {o : Int} (h : d.op = (d', some o)) : o = 0 ∨ o = 1 ∨ o = 2 := by
  unfold Dev.op at h
  split at h
  · cases h
  · split at h
    · injection h with _ h; injection h with h; omega
    · injection h with _ h; injection h with h; omega
/-- Write. -/
theorem write_does (h : DevM w S b d) (hs : d.ops < 1000000) {n : Int} {ok : Nat → Prop} {p2 : Option Addr} {xs : List Int} {l2 : Nat} (hx : Ints .u8 w ok p2 xs) (hl : l2 = xs.length) (c2 : Nat) (hok : ∀ g, ok g → ¬ S g) :
    Does Try.prog 13 #[.pointer (some ⟨b, 0, none⟩), .int .i64 n, .slice p2 l2 c2] w fun e w' => e = .returned (.int .i64 (d.write n xs).2) ∧ DevM w' (fun g => S g ∨ w.heap.size ≤ g) b (d.write n xs).1 ∧ Upd S w w' := by
  subst hl
  refine f13_does _ _ _ _ _ ?_
  intro b3 w3 N3 b4 w4 N4 b5 w5 N5
  have x5 : Ext w w5 := (N3.ext.thn N4.ext).thn N5.ext
  have H5 := h.lt.ext x5
  have c3 : w5.cell? ⟨b3, 0, none⟩ = some (.pointer (some ⟨b, 0, none⟩)) := (N4.ext.thn N5.ext).cell (N3.cell 0 rfl)
  have c4 : w5.cell? ⟨b4, 0, none⟩ = some (.int .i64 n) := N5.ext.cell (N4.cell 0 rfl)
  have c5 : w5.cell? ⟨b5, 0, none⟩ = some (.slice p2 xs.length c2) := N5.cell 0 rfl
  have hb3 : b3 = w.heap.size := N3.eq
  have hb4 : b4 = w.heap.size + 1 := N4.eq.trans N3.size
  have hb5 : b5 = w.heap.size + 2 := by rw [N5.eq, N4.size, N3.size]
  have hbl := h.sb.2
  have X5 := hx.ext x5
  clear N3 N4 N5
  refine ⟨_, c3, made_does H5 ⟨true, rfl, tru rfl ⟨_, c3, _, c4, there_does H5 ⟨_, rfl, brr (fun hi => ?_) fun hi => ?_⟩⟩⟩⟩
  · have hi : d.is n = false := by simpa using hi
    have e : d.write n xs = (d, 1) := by unfold Dev.write; rw [hi]; rfl
    rw [e]
    exact ⟨rfl, H5.mono fun g _ hg => .inl hg.1, x5.mono fun _ _ e => e.elim⟩
  have hi : d.is n = true := by simpa using hi
  refine ⟨_, _, _, c5, brr (fun hn => ?_) fun hn => ?_⟩
  · have hn : xs.length ≠ 256 := by simp at hn; omega
    have e : d.write n xs = (d, 1) := by unfold Dev.write; rw [hi, decide_eq_false hn]; rfl
    rw [e]
    exact ⟨rfl, H5.mono fun g _ hg => .inl hg.1, x5.mono fun _ _ e => e.elim⟩
  have hn : xs.length = 256 := by simp at hn; omega
  have ew : d.write n xs = if d.dead then (d, (7 : Int)) else match d.op with
    | (d', none) => (d'.lay n.toNat xs, 7)
    | (d', some o) => (if o = 1 then d' else d'.lay n.toNat xs, if o = 0 then 0 else 7) := by unfold Dev.write; rw [hi, decide_eq_true hn]; rfl
  rw [ew]
  intro b7 w7 N7
  have k7 := N7.can 0 (by decide)
  refine ⟨k7, fun ws s => ?_⟩
  have xs' : Ext w5 ws := Upd.then N7.ext s.upd fun g hg e => by have := N7.eq; omega
  have c7 := s.cell k7
  have hb7 : b7 = w5.heap.size := N7.eq
  have c3 := xs'.cell c3
  have c4 := xs'.cell c4
  have c5 := xs'.cell c5
  have Hs := H5.ext xs'
  have x : Ext w ws := x5.thn xs'
  have X := X5.ext xs'
  have hwl := x.size
  have hsz5 := x5.size
  have hbs : ws.heap.size = w5.heap.size + 1 := by rw [s.size, N7.size]
  refine ⟨_, c3, _, _, _, c7, op_does Hs hs (fun g => S g ∧ g < w.heap.size) (fun g hg => by omega) (fun hd w' xw => ?_) (fun hd d' hop w' M' u' => ?_) fun hd d' o hop w' M' u' => ?_⟩
  · rw [if_pos hd]
    exact ⟨_, rfl, rfl, (Hs.ext xw).mono fun g _ hg => .inl hg.1, (x.thn xw).mono fun _ _ e => e.elim⟩
  all_goals
    have hk := d.op_now
    rw [hop] at hk
    have hg' := h.1
    have hops := hg'.ops
    have nb : ∀ g, w.heap.size ≤ g → ¬ g = b := fun g hg => by omega
    have c3 := u'.cell (nb b3 (by omega)) c3
    have c4 := u'.cell (nb b4 (by omega)) c4
    have c5 := u'.cell (nb b5 (by omega)) c5
    have c7 := u'.cell (nb b7 (by omega)) c7
    have X' := X.upd u' fun g ho e => hok g ho (e ▸ h.sb.1)
    have hi' : d'.is n = true := by rw [← hi]; unfold Dev.is; rw [hk.1]
    have hus := u'.size
    have hw' : ws.heap.size ≤ w'.heap.size := hus
    rw [hn] at c5
    rw [if_neg (by rw [hd]; decide), hop]
    have L := layc_does M' (by rw [hk.2.2.1, hk.2.2.2]; omega) (by rw [hk.2.2.2]; omega) hi' X' hn c3 c4 c5
  · refine Does_V L ?_
    rintro e w'' ⟨rfl, hm, hu⟩
    refine ⟨rfl, hu, _, rfl, rfl, hm.mono fun g _ hg => ?_, ?_⟩
    · rcases hg with hg | hg
      · exact .inl hg.1
      · exact .inr (by omega)
    · exact Upd.then (Upd.then (x.mono fun _ _ e => e.elim) u' fun g _ e => by subst e; exact h.sb.1) hu fun g _ hg => hg.1
  · have hoc := op_out hop
    show Does Try.prog 41 #[.int .u8 o, .pointer (some ⟨b7, 0, none⟩)] w' _
    refine f41_does _ _ ⟨b7, 0, rfl, _, _, _, c7, told_does hoc (fun ho => Does_V L ?_) fun ho => ?_⟩
    · rintro e w'' ⟨rfl, hm, hu⟩
      refine ⟨rfl, _, rfl, _, rfl, hu, fun w3 u3 => ⟨_, rfl, by simp only, ?_, ?_⟩⟩
      · simp only [if_neg ho]
        refine (hm.upd u3 fun g hg hs e => ?_).mono fun g _ hg => ?_
        · rcases hs with hs | hs
          · have := hs.2; omega
          · omega
        · rcases hg with hg | hg
          · exact .inl hg.1
          · exact .inr (by omega)
      · exact Upd.then (Upd.then (Upd.then (x.mono fun _ _ e => e.elim) u' fun g _ e => by subst e; exact h.sb.1) hu fun g _ hg => hg.1) u3 fun g hg e => by omega
    · subst ho
      refine ⟨_, rfl, _, rfl, Upd.refl _ _, fun w3 u3 => ⟨_, rfl, rfl, ?_, ?_⟩⟩
      · simp only [if_true]
        exact (M'.upd u3 fun g hg hs e => by have := hs.2; omega).mono fun g _ hg => .inl hg.1
      · exact Upd.then (Upd.then (x.mono fun _ _ e => e.elim) u' fun g _ e => by subst e; exact h.sb.1) u3 fun g hg e => by omega
end Go.Proofs.Ytiblbjagfiigdaa
