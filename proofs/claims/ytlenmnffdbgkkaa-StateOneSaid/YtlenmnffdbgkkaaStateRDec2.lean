/-
  States: what each function of the reference does: Decode, whole.
-/
import Derived.Test.YtlenmnffdbgkkaaStateRDec
namespace Go.Vc
open Go.RowKit
/-- What comes behind the nodes. -/
def contM (many now : Int) (ns : List Nd) : Ps ((Int × Int × List Nd) × List (Int × Int)) := andThen (takeP 1) fun c => andThen (manyP markP (c.headD 0).toNat) fun ms => done ((many, now, ns), ms)
/-- What comes behind so many nodes. -/
def contN (many now : Int) (k : Nat) (ns : List Nd) : Ps ((Int × Int × List Nd) × List (Int × Int)) := andThen (manyP nodeP ((many - 1).toNat - k)) fun l => contM many now (ns ++ l)
/-- What comes behind so many edits of a node. -/
def contE (many now : Int) (k : Nat) (ns : List Nd) (par cu m : Int) (j : Nat) (es : List E) : Ps ((Int × Int × List Nd) × List (Int × Int)) := andThen (manyP editP (m.toNat - j)) fun l => contN many now (k + 1) (ns ++ [⟨par, es ++ l, cu⟩])
/-- What comes behind so many marks. -/
def contK (many now : Int) (ns : List Nd) (n : Int) (k : Nat) (ms : List (Int × Int)) : Ps ((Int × Int × List Nd) × List (Int × Int)) := andThen (manyP markP (n.toNat - k)) fun l => done ((many, now, ns), ms ++ l)
theorem state_cont : stateP = andThen numP fun many => andThen numP fun now => contN many now 0 [] := by rw [state_then]; rfl
section
variable {many now par cu m n : Int} {k j : Nat} {ns : List Nd} {es : List E} {ms : List (Int × Int)} {st : Option (List Int)} {T : Option (((Int × Int × List Nd) × List (Int × Int)) × List Int)}
theorem contN_step (h : Pend st (contN many now k ns) T) (hk : k < (many - 1).toNat) : Pend st (andThen numP fun a => andThen numP fun c => andThen numP fun m => contE many now k ns a c m 0 []) T := by
  have := Pend.many (G := contM many now) h hk
  rw [node_then] at this
  exact this
theorem contN_stop (h : Pend st (contN many now k ns) T) (hk : k = (many - 1).toNat ∨ st = none) : Pend st (contM many now ns) T := Pend.stop (G := contM many now) h hk
theorem contE_step (h : Pend st (contE many now k ns par cu m j es) T) (hj : j < m.toNat) : Pend st (andThen numP fun a => andThen numP fun n => andThen (takeP n) fun o => andThen numP fun n2 => andThen (takeP n2) fun x => contE many now k ns par cu m (j + 1) (es ++ [⟨a, o, x⟩])) T := by
  have := Pend.many (G := fun es => contN many now (k + 1) (ns ++ [⟨par, es, cu⟩])) h hj
  rw [edit_then] at this
  exact this
theorem contE_stop (h : Pend st (contE many now k ns par cu m j es) T) (hj : j = m.toNat ∨ st = none) : Pend st (contN many now (k + 1) (ns ++ [⟨par, es, cu⟩])) T := Pend.stop (G := fun es => contN many now (k + 1) (ns ++ [⟨par, es, cu⟩])) h hj
theorem contK_step (h : Pend st (contK many now ns n k ms) T) (hk : k < n.toNat) : Pend st (andThen (takeP 1) fun c => andThen numP fun a => contK many now ns n (k + 1) (ms ++ [(c.headD 0, a)])) T := by
  have := Pend.many (G := fun ms => done ((many, now, ns), ms)) h hk
  rw [mark_then] at this
  exact this
theorem contK_stop (h : Pend st (contK many now ns n k ms) T) (hk : k = n.toNat ∨ st = none) : Pend st (done ((many, now, ns), ms)) T := Pend.stop (G := fun ms => done ((many, now, ns), ms)) h hk
end
end Go.Vc
namespace Go.Proofs.Ytlenmnffdbgkkaa
open Go.RowKit Go.Vc
section
variable {w : World}
theorem RR.flag {r : Nat} {ok : Nat → Prop} {st : Option (List Int)} (h : RR w r ok st) : w.cell? ⟨r, 1, none⟩ = some (.bool st.isNone) := by
  obtain ⟨_, p, l, c, a1, _⟩ := h
  exact a1.cell 1 rfl
/-- A row of structs is as it was, where nothing of it has been touched. -/
theorem OwnL.keep {α : Type} {RV : World → (Nat → Prop) → List Value → α → Prop} (hs : StableV RV) (hw : WidensV RV) {w w' : World} {base : Nat} {N : TypeId} {sz : Nat} {p : Option Addr} {l c : Nat} {xs : List α} {T : Nat → Prop}
    (h : OwnL RV w base N sz p l c xs) (u : Upd T w w') (hT : ∀ z, base ≤ z → z < w.heap.size → ¬ T z) : OwnL RV w' base N sz p l c xs := by
  obtain ⟨vss, o1, o2⟩ := h
  refine ⟨vss, o1.upd u fun a ha e => hT _ (o1.base ha).1 (o1.base ha).2 e, o2.imp fun vs x ⟨y1, y2⟩ => ⟨y1, ?_⟩⟩
  exact hw _ _ _ _ _ (fun g hg ⟨y3, y4, y5⟩ => ⟨y3, hg, y5⟩) (hs _ _ _ _ _ _ u (fun g hg e => hT _ hg.1 hg.2.1 e) y2)
theorem head_getN {x : List Int} (h : (x.length : Int) ≤ 1) : getN x = x.headD 0 := by
  match x, h with
  | [], _ => rfl
  | [a], _ => show 0 * 256 + a = a; omega
set_option maxHeartbeats 4000000 in
theorem rdecode_does {p : Option Addr} {b : List Int} {ok : Nat → Prop} (hx : Ints .u8 w ok p b) {l : Nat} (hl : l = b.length) (c : Nat) (hc : l ≤ c) (hs : b.length ≤ 1000000) : Does Try.prog 23 #[.slice p l c] w (DecR w b) := by
  subst hl
  have hf : FB b := fun x h => hx.inK x h
  apply f23_does
  refine brr (fun q => ?_) fun q b28 w28 hb28 => ?_
  · have hb : b = [] := List.length_eq_zero_iff.1 (by simpa using q)
    subst hb
    refine rnew_does.imp ?_
    rintro e w13 ⟨g, rfl, hM, x13⟩
    refine ⟨_, rfl, x13, .inr ?_⟩
    rw [dec_nil]
    exact ⟨rfl, g, _, none, 0, rfl, hM.hs, RS.nil⟩
  have hb : b ≠ [] := by rintro rfl; simp at q
  have e28 := hb28.eq
  have z28 := hb28.size
  have x28 := hb28.ext
  have hokw : ∀ z, z < w.heap.size → ¬ (z = b28) := fun z hz e => by omega
  have R28 : RR w28 b28 (fun z => z < w.heap.size) (some b) :=
    ⟨hokw, p, _, c, hb28.blk, fun t ht => by injection ht with ht; subst ht; exact ⟨rfl, hc, (hx.ok fun k hk _ => hk).ext x28, hs⟩⟩
  have P28 : Pend (some b) (andThen numP fun many => andThen numP fun now => contN many now 0 []) (stateP b) := by
    rw [← state_cont]; rfl
  have low : ∀ {a b' : World}, Upd (fun z => z = b28) a b' → Ext w a → Ext w b' := fun u x => Upd.then x u fun z hz e => by omega
  refine (rr4_does R28).imp ?_
  rintro e w30 ⟨many, st1, rfl, fm, R30, u30, p30⟩
  have P30 := p30 _ _ P28
  refine ⟨_, rfl, (rr4_does R30).imp ?_⟩
  rintro e w32 ⟨now, st2, rfl, fn, R32, u32, p32⟩
  have P32 := p32 _ _ P30
  have s30 := u30.size
  have s32 := u32.size
  refine ⟨_, rfl, fun b34 w34 hb34 => ?_⟩
  have e34 := hb34.eq
  have z34 := hb34.size
  have X34 : Ext w w34 := (low u32 (low u30 x28)).thn hb34.ext
  obtain ⟨T, hT⟩ : ∃ T, T = stateP b := ⟨_, rfl⟩
  rw [← hT] at P32
  have ho34 : OwnL NodeV w34 (b28 + 1) 63 3 (some ⟨b34, 0, none⟩) 1 1 [rootN] :=
    ⟨[[.int .i64 (-1), .slice none 0 0, .int .i64 0]], by
      have : Own w34 (b28 + 1) 63 3 (some ⟨b34, 0, none⟩) 1 1 [.int .i64 (-1), .slice none 0 0, .int .i64 0] := ⟨rfl, .inr ⟨b34, 1, _, rfl, by omega, hb34.heap, by decide, by decide, rfl, rfl⟩⟩
      simpa using this, .cons ⟨rfl, none, 0, rfl, by decide, by decide, Nat.le_refl _, RS.nil⟩ .nil⟩
  -- the nodes
  refine ⟨fun p8 l8 c8 _ wc => ∃ st ns, l8 = (rootN :: ns).length ∧ RR wc b28 (fun z => z < w.heap.size) st ∧ OwnL NodeV wc (b28 + 1) 63 3 p8 l8 c8 (rootN :: ns) ∧ Pend st (contM many now ns) T ∧ Ext w wc ∧ b28 + 1 ≤ wc.heap.size,
    ⟨fun p8 l8 c8 x9 nl wl => ∃ (k : Nat) (st : Option (List Int)) (ns : List Nd), x9 = (k : Int) + 1 ∧ nl = (many - 1).toNat - k ∧ k ≤ (many - 1).toNat ∧ ns.length = k ∧ l8 = (rootN :: ns).length ∧ RR wl b28 (fun z => z < w.heap.size) st ∧ OwnL NodeV wl (b28 + 1) 63 3 p8 l8 c8 (rootN :: ns) ∧
      Pend st (contN many now k ns) T ∧ Ext w wl ∧ b28 + 1 ≤ wl.heap.size,
      ⟨_, 0, st2, [], rfl, rfl, Nat.zero_le _, rfl, rfl, R32.ext hb34.ext, ho34, P32, X34, by omega⟩, ?_⟩, ?_⟩
  · rintro p8 l8 c8 _ _ wl ⟨k, st, ns, rfl, rfl, hk, hnl, rfl, hR, ho, hP, X, hsz⟩
    have stop : (k = (many - 1).toNat ∨ st = none) → ∃ _ : Nat, ∃ st ns', (rootN :: ns).length = (rootN :: ns').length ∧ RR wl b28 (fun z => z < w.heap.size) st ∧ OwnL NodeV wl (b28 + 1) 63 3 p8 (rootN :: ns).length c8 (rootN :: ns') ∧ Pend st (contM many now ns') T ∧ Ext w wl ∧ b28 + 1 ≤ wl.heap.size := fun h =>
      ⟨0, st, ns, rfl, hR, ho, contN_stop hP h, X, hsz⟩
    refine brr (fun q1 => ⟨_, hR.flag, brr (fun q2 => ?_) fun q2 => stop (.inr ?_)⟩) fun q1 => stop (.inl ?_)
    · have q1 := of_decide_eq_true q1
      have hmp := fm.2
      have hPn := contN_step hP (by omega)
      refine (rr4_does hR).imp ?_
      rintro e w48 ⟨par, sa, rfl, fpar, R48, u48, p48⟩
      have P48 := p48 _ _ hPn
      refine ⟨_, rfl, (rr4_does R48).imp ?_⟩
      rintro e w50 ⟨cu, sb', rfl, fcu, R50, u50, p50⟩
      have P50 := p50 _ _ P48
      have s48 := u48.size
      have s50 := u50.size
      refine ⟨_, rfl, fun b10 w10 hb10 => hb10.blk.st3 rfl fun w11 B10 u10 => ?_⟩
      have e10 := hb10.eq
      have z10 := hb10.size
      have s10 := u10.size
      have X11 : Ext w50 w11 := hb10.ext.loc (by omega) u10
      have U11 : Upd (fun z => z = b28) wl w11 := Ext.then (Upd.trans u48 u50) X11
      refine (rr4_does (R50.ext X11)).imp ?_
      rintro e w53 ⟨m, sc, rfl, fmm, R53, u53, p53⟩
      have P53 := p53 _ _ P50
      have s53 := u53.size
      have hlt28 : b28 < b10 := by omega
      have B53 := B10.upd u53 (by omega)
      -- the edits
      refine ⟨_, rfl, fun _ wc => ∃ st es pe ce, RR wc b28 (fun z => z < w.heap.size) st ∧ Blk wc b10 [.int .i64 par, .slice pe es.length ce, .int .i64 cu] ∧ OwnL EditV wc (b10 + 1) 58 3 pe es.length ce es ∧ Upd (fun z => z = b28) wl wc ∧ b10 + 1 ≤ wc.heap.size ∧
          Pend st (contN many now (k + 1) (ns ++ [⟨par, es, cu⟩])) T,
        ⟨fun x12 nl wq => ∃ (j : Nat) (st : Option (List Int)) (es : List E) (pe : Option Addr) (ce : Nat), x12 = j ∧ nl = m.toNat - j ∧ j ≤ m.toNat ∧ es.length = j ∧ RR wq b28 (fun z => z < w.heap.size) st ∧ Blk wq b10 [.int .i64 par, .slice pe es.length ce, .int .i64 cu] ∧ OwnL EditV wq (b10 + 1) 58 3 pe es.length ce es ∧ Upd (fun z => z = b28) wl wq ∧ b10 + 1 ≤ wq.heap.size ∧
            Pend st (contE many now k ns par cu m j es) T,
          ⟨_, 0, sc, [], none, 0, rfl, rfl, Nat.zero_le _, rfl, R53, B53, OwnL.nil _ _ _ _, Upd.trans U11 u53, by omega, P53⟩, ?_⟩, ?_⟩
      · rintro _ _ wq ⟨j, sq, es, pe, ce, rfl, rfl, hj, hel, hRq, hBq, hEq, hUq, hszq, hPq⟩
        have stop2 : (j = m.toNat ∨ sq = none) → ∃ _ : Nat, ∃ st es pe ce, RR wq b28 (fun z => z < w.heap.size) st ∧ Blk wq b10 [.int .i64 par, .slice pe es.length ce, .int .i64 cu] ∧ OwnL EditV wq (b10 + 1) 58 3 pe es.length ce es ∧ Upd (fun z => z = b28) wl wq ∧ b10 + 1 ≤ wq.heap.size ∧
          Pend st (contN many now (k + 1) (ns ++ [⟨par, es, cu⟩])) T := fun h =>
          ⟨0, sq, es, pe, ce, hRq, hBq, hEq, hUq, hszq, contE_stop hPq h⟩
        refine brr (fun q3 => ⟨_, hRq.flag, brr (fun q4 => ?_) fun q4 => stop2 (.inr ?_)⟩) fun q3 => stop2 (.inl ?_)
        · have q3 := of_decide_eq_true q3
          have hmm := fmm.2
          have hPe := contE_step hPq (by omega)
          refine (rr4_does hRq).imp ?_
          rintro e w67 ⟨at_, s1, rfl, fat, R67, u67, p67⟩
          have P67 := p67 _ _ hPe
          have s67 := u67.size
          refine ⟨_, rfl, fun b13 w13 hb13 => hb13.blk.st3 rfl fun w14 B13 u13 => ?_⟩
          have e13 := hb13.eq
          have z13 := hb13.size
          have s13 := u13.size
          have X14 : Ext w67 w14 := hb13.ext.loc (by omega) u13
          refine (rr4_does (R67.ext X14)).imp ?_
          rintro e w71 ⟨n71, s2, rfl, f71, R71, u71, p71⟩
          have P71 := p71 _ _ P67
          have s71 := u71.size
          refine ⟨_, rfl, (rrtake_does R71 f71.1).imp ?_⟩
          rintro e w72 ⟨old, p72, c72, rfl, hold, s3, R72, u72, l72, l72', f72, p72'⟩
          have P72 := p72' _ _ P71
          have s72 := u72.size
          refine ⟨_, _, _, rfl, (copy_does hold rfl c72 (by omega)).imp ?_⟩
          rintro e w73 ⟨p73, c73, rfl, o73, x73⟩
          have s73 := x73.size
          have C13 : Blk w73 b13 [.int .i64 at_, .slice none 0 0, .slice none 0 0] := ((B13.upd u71 (by omega)).upd u72 (by omega)).ext x73
          refine ⟨_, _, _, rfl, C13.st (by simp) fun w74 D13 u74 => ?_⟩
          have s74 := u74.size
          have R74 := (R72.ext x73).upd u74 (by omega) fun z hz e => by have e : z = b13 := e; omega
          refine (rr4_does R74).imp ?_
          rintro e w77 ⟨n77, s4, rfl, f77, R77, u77, p77⟩
          have P77 := p77 _ _ P72
          have s77 := u77.size
          refine ⟨_, rfl, (rrtake_does R77 f77.1).imp ?_⟩
          rintro e w78 ⟨new, p78, c78, rfl, hnew, s5, R78, u78, l78, l78', f78, p78'⟩
          have P78 := p78' _ _ P77
          have s78 := u78.size
          refine ⟨_, _, _, rfl, (copy_does hnew rfl c78 (by omega)).imp ?_⟩
          rintro e w79 ⟨p79, c79, rfl, o79, x79⟩
          have s79 := x79.size
          have D79 : Blk w79 b13 [.int .i64 at_, .slice p73 old.length c73, .slice none 0 0] := ((D13.upd u77 (by omega)).upd u78 (by omega)).ext x79
          refine ⟨_, _, _, rfl, D79.st (by simp) fun w80 E13 u80 => ?_⟩
          have s80 := u80.size
          have E13 : Blk w80 b13 [.int .i64 at_, .slice p73 old.length c73, .slice p79 new.length c79] := E13
          have o73b := (((o73.upd u74 fun a ha (e : a.block = b13) => by have := (o73.base ha).1; omega).upd u77 fun a ha (e : a.block = b28) => by have := (o73.base ha).1; omega).upd u78 fun a ha (e : a.block = b28) => by have := (o73.base ha).1; omega).ext x79
          have o73c := o73b.upd u80 fun a ha (e : a.block = b13) => by have := (o73.base ha).1; omega
          have o79c := o79.upd u80 fun a ha (e : a.block = b13) => by have := (o79.base ha).1; omega
          have U80 : Upd (fun z => z = b28) wq w80 := by
            refine Upd.then (Upd.then (Ext.then (Upd.trans (Ext.then u67 X14) (Upd.trans u71 u72)) x73) u74 fun z hz e => ?_) (Upd.then (T := fun z => z = b28 ∨ z = b13) (Ext.then ((Upd.trans u77 u78).mono fun _ _ e => .inl e) x79) u80 fun _ _ e => .inr e) fun z hz e => ?_
            · have e : z = b13 := e; omega
            · rcases e with e | e
              · exact e
              · omega
          have hBq80 := hBq.upd U80 (by omega)
          have hE80 := OwnL.keep EditV.stable EditV.widens hEq U80 fun z h1 _ (e : z = b28) => by omega
          refine ⟨_, _, _, hBq80.cell 1 rfl, _, E13.cell 0 rfl, _, _, _, E13.cell 1 rfl, _, _, _, E13.cell 2 rfl, fun b84 w84 hb84 => ?_⟩
          have e84 := hb84.eq
          have z84 := hb84.size
          have hpe : ∀ a : Addr, pe = some a → b10 + 1 ≤ a.block ∧ a.block < wq.heap.size := fun a ha => hEq.base ha
          have inn : ∀ g, wq.heap.size ≤ g ∧ g < w84.heap.size → Inner w84 (b10 + 1) pe g := fun g hg => ⟨by omega, hg.2, fun a ha e => by have := (hpe a ha).2; omega⟩
          obtain ⟨p', c', w85, hr85, ho85, hu85, hat85⟩ := OwnL.append EditV.stable EditV.widens slE 59 (hE80.ext EditV.stable EditV.widens hb84.ext) (b := b84) (vs := [.int .i64 at_, .slice p73 old.length c73, .slice p79 new.length c79]) rfl (fun j u hj => hb84.cell j hj) (by simp [Value.oneCell']) (x := ⟨at_, old, new⟩)
            ⟨p73, c73, p79, c79, rfl, inI64 (by show _ ≤ at_; have := fat.1; omega) (by show at_ ≤ _; have := fat.2; omega), (o73c.ext hb84.ext).cap.1, ((o73c.ext hb84.ext).ints f72).ok (fun g _ hg => inn g ⟨by have := hg.1; omega, hg.2⟩), (o79c.ext hb84.ext).cap.1, ((o79c.ext hb84.ext).ints f78).ok (fun g _ hg => inn g ⟨by have := hg.1; omega, hg.2⟩)⟩ (by simp only [maxLen]; omega) (by omega) (by omega)
          have s85 := hu85.size
          have nb : ∀ {z}, z ≤ b10 → ¬ ∃ a, pe = some a ∧ a.block = z := fun hz ⟨a, e1, e2⟩ => by have := (hpe a e1).1; omega
          have hB85 := (hBq80.ext hb84.ext).upd hu85 (nb (Nat.le_refl _))
          refine ⟨p', _, c', w85, hr85, hB85.st (by simp) fun w86 B86 u86 => ⟨inI64 (by omega) (by omega), _, ?_, j + 1, s5, es ++ [⟨at_, old, new⟩], p', c', by omega, rfl, by omega, by simp [hel], ?_, ?_, ?_, ?_, by have := u86.size; omega, P78⟩⟩
          · omega
          · have R80 := (R78.ext x79).upd u80 (by omega) fun z hz e => by have e : z = b13 := e; omega
            exact ((R80.ext hb84.ext).upd hu85 (nb (by omega)) fun z hz => nb (by omega)).upd u86 (by omega) fun z hz e => by have e : z = b10 := e; omega
          · rw [List.length_append, List.length_singleton]; exact B86
          · rw [List.length_append, List.length_singleton]
            exact OwnL.keep EditV.stable EditV.widens ho85 u86 fun z h1 _ (e : z = b10) => by omega
          · refine Upd.then (Upd.trans hUq (Ext.then U80 hb84.ext)) (Upd.then (T := fun z => b10 ≤ z) (hu85.mono fun z _ ⟨a, e1, e2⟩ => by have := (hpe a e1).1; omega) u86 fun z _ (e : z = b10) => by omega) fun z hz e => ?_
            have e : b10 ≤ z := e
            omega
        · cases sq with
          | none => rfl
          | some _ => cases q4
        · have q3 := of_decide_eq_false q3
          omega
      · rintro _ wc ⟨sk, es, pe, ce, hRc, hBc, hEc, hUc, hszc, hPc⟩
        have hO : OwnL NodeV wc (b28 + 1) 63 3 p8 (rootN :: ns).length c8 (rootN :: ns) := OwnL.keep NodeV.stable NodeV.widens ho hUc fun z h1 _ (e : z = b28) => by omega
        have hp8 : ∀ a : Addr, p8 = some a → b28 + 1 ≤ a.block ∧ a.block < wl.heap.size := fun a ha => ho.base ha
        refine ⟨_, hBc.cell 0 rfl, _, _, _, hBc.cell 1 rfl, _, hBc.cell 2 rfl, fun b89 w89 hb89 => ?_⟩
        have e89 := hb89.eq
        have z89 := hb89.size
        have hE89 := hEc.ext EditV.stable EditV.widens hb89.ext
        have hll : (rootN :: ns).length = k + 1 := by rw [List.length_cons, hnl]
        obtain ⟨p', c', w90, hr90, ho90, hu90, hat90⟩ := OwnL.append NodeV.stable NodeV.widens slN 35 (hO.ext NodeV.stable NodeV.widens hb89.ext) (b := b89) (vs := [.int .i64 par, .slice pe es.length ce, .int .i64 cu]) rfl (fun j u hj => hb89.cell j hj) (by simp [Value.oneCell']) (x := ⟨par, es, cu⟩)
          ⟨pe, ce, rfl, inI64 (by show _ ≤ par; have := fpar.1; omega) (by show par ≤ _; have := fpar.2; omega), inI64 (by show _ ≤ cu; have := fcu.1; omega) (by show cu ≤ _; have := fcu.2; omega), OwnL.cap hE89, (OwnL.edits hE89).ok fun g _ hg => ⟨by have := hg.1; omega, hg.2, fun a ha e => by have := (hp8 a ha).2; have := hg.1; omega⟩⟩ (by simp only [maxLen]; omega) (by omega) (by omega)
        have nb : ∀ {z}, z ≤ b28 → ¬ ∃ a, p8 = some a ∧ a.block = z := fun hz ⟨a, e1, e2⟩ => by have := (hp8 a e1).1; omega
        have hlen : (rootN :: (ns ++ [⟨par, es, cu⟩])).length = (rootN :: ns).length + 1 := by simp
        refine ⟨p', _, c', w90, hr90, inI64 (by omega) (by omega), _, ?_, k + 1, sk, ns ++ [⟨par, es, cu⟩], by omega, rfl, by omega, by simp [hnl], hlen.symm, ?_, ?_, hPc, ?_, by have := hu90.size; omega⟩
        · omega
        · exact (hRc.ext hb89.ext).upd hu90 (nb (Nat.le_refl _)) fun z hz => nb (by omega)
        · exact ho90
        · refine Upd.then ((low hUc X).thn hb89.ext) hu90 fun z hz ⟨a, e1, e2⟩ => by have := (hp8 a e1).1; omega
    · cases st with
      | none => rfl
      | some _ => cases q2
    · have q1 := of_decide_eq_false q1
      omega
  rintro p8 _ c8 _ wc ⟨st, ns, rfl, hR, ho, hP, X, hsz⟩
  have hlo : ∀ z, z < w.heap.size → z < b28 := fun z hz => by omega
  refine (rrnum_does hR (by decide)).imp ?_
  rintro e w92 ⟨x92, rfl, s92', R92, u92, l92, l92', f92, p92⟩
  have P92 : Pend s92' (contK many now ns (getN x92) 0 []) T := by
    have := p92 _ _ hP
    rw [head_getN l92]
    exact this
  have hgn : 0 ≤ getN x92 ∧ getN x92 < 16777216 := getN_lt f92 (by omega)
  have X92 := low u92 X
  have s92 := u92.size
  have ho92 := OwnL.keep NodeV.stable NodeV.widens ho u92 fun z h1 _ (e : z = b28) => by omega
  obtain ⟨Y, hY⟩ : ∃ Y, Y = w92.heap.size := ⟨_, rfl⟩
  -- the marks
  refine ⟨_, rfl, fun p14 l14 c14 _ wd => ∃ st ms, l14 = ms.length ∧ RR wd b28 (fun z => z < w.heap.size) st ∧ OwnL MkV wd Y 61 2 p14 l14 c14 ms ∧ Pend st (done ((many, now, ns), ms)) T ∧ Upd (fun z => z = b28) w92 wd,
    ⟨fun p14 l14 c14 x16 nl wl => ∃ (k : Nat) (st : Option (List Int)) (ms : List (Int × Int)), x16 = k ∧ nl = (getN x92).toNat - k ∧ k ≤ (getN x92).toNat ∧ ms.length = k ∧ l14 = ms.length ∧ RR wl b28 (fun z => z < w.heap.size) st ∧ OwnL MkV wl Y 61 2 p14 l14 c14 ms ∧ Pend st (contK many now ns (getN x92) k ms) T ∧ Upd (fun z => z = b28) w92 wl,
      ⟨_, 0, s92', [], rfl, rfl, Nat.zero_le _, rfl, rfl, R92, OwnL.nil _ _ _ _, P92, Upd.refl _ _⟩, ?_⟩, ?_⟩
  · rintro p14 _ c14 _ _ wl ⟨k, sk, ms, rfl, rfl, hk, hml, rfl, hRk, hOk, hPk, hUk⟩
    have sl := hUk.size
    have stop : (k = (getN x92).toNat ∨ sk = none) → ∃ _ : Nat, ∃ st ms', ms.length = ms'.length ∧ RR wl b28 (fun z => z < w.heap.size) st ∧ OwnL MkV wl Y 61 2 p14 ms.length c14 ms' ∧ Pend st (done ((many, now, ns), ms')) T ∧ Upd (fun z => z = b28) w92 wl := fun h =>
      ⟨0, sk, ms, rfl, hRk, hOk, contK_stop hPk h, hUk⟩
    refine brr (fun q1 => ⟨_, hRk.flag, brr (fun q2 b17 w17 hb17 => hb17.blk.st2 rfl fun w18 B17 u17 => ?_) fun q2 => stop (.inr ?_)⟩) fun q1 => stop (.inl ?_)
    · have q1 := of_decide_eq_true q1
      have hPs := contK_step hPk (by omega)
      have e17 := hb17.eq
      have z17 := hb17.size
      have s17 := u17.size
      have X18 : Ext wl w18 := hb17.ext.loc (by omega) u17
      refine (rrtake_does (hRk.ext X18) (by decide)).imp ?_
      rintro e w107 ⟨x107, p107, c107, rfl, hx107, s1, R107, u107, l107, l107', f107, p107'⟩
      have P107 := p107' _ _ hPs
      have s107 := u107.size
      have C17 : Blk w107 b17 [.int .u8 0, .int .i64 0] := B17.upd u107 (by omega)
      refine ⟨_, _, _, rfl, fun _ wz => Blk wz b17 [.int .u8 (x107.headD 0), .int .i64 0] ∧ RR wz b28 (fun z => z < w.heap.size) s1 ∧ Upd (fun z => z = b17) w107 wz, brr (fun q3 => ?_) fun q3 => ⟨0, ?_, R107, Upd.refl _ _⟩, ?_⟩
      · have hl1 : x107.length = 1 := by have := of_decide_eq_true (p := ((x107.length : Int) = 1)) (by simpa using q3); omega
        match x107, hl1 with
        | [y], _ =>
          obtain ⟨b', o', hp, hc⟩ := hx107.at 0 (by simp)
          exact ⟨⟨by decide, by show (0 : Int) < ((1 : Nat) : Int); decide⟩, b', o', hp, y, hc, C17.st (by simp) fun wz Bz uz => ⟨0, Bz, R107.upd uz (by omega) fun z hz e => by have := hlo z hz; have e : z = b17 := e; omega, uz⟩⟩
      · have hl0 : x107 = [] := by
          have q3 : ¬ (x107.length : Int) = 1 := by simpa using q3
          exact List.length_eq_zero_iff.1 (by omega)
        rw [hl0]; exact C17
      rintro _ wz ⟨Bz, Rz, uz⟩
      have sz := uz.size
      have hname : InK .u8 (x107.headD 0) := by
        cases x107 with
        | nil => exact ⟨by decide, by decide⟩
        | cons y r => exact f107 y List.mem_cons_self
      refine (rr4_does Rz).imp ?_
      rintro e w116 ⟨at_, s2, rfl, fat, R116, u116, p116⟩
      have P116 := p116 _ _ P107
      have s116 := u116.size
      refine ⟨_, rfl, (Bz.upd u116 (by omega)).st (by simp) fun w117 B117 u117 => ?_⟩
      have s117 := u117.size
      have B117 : Blk w117 b17 [.int .u8 (x107.headD 0), .int .i64 at_] := B117
      have U117 : Upd (fun z => z = b28) wl w117 := by
        refine Upd.then (Upd.then (Upd.then (Upd.then (X18.mono fun _ _ e => e.elim) u107 fun _ _ e => e) uz fun z hz e => ?_) u116 fun _ _ e => e) u117 fun z hz e => ?_
        · have e : z = b17 := e; omega
        · have e : z = b17 := e; omega
      refine ⟨_, B117.cell 0 rfl, _, B117.cell 1 rfl, fun b120 w120 hb120 => ?_⟩
      have e120 := hb120.eq
      have z120 := hb120.size
      have hO120 := (OwnL.keep MkV.stable MkV.widens hOk U117 fun z h1 h2 (e : z = b28) => by omega).ext MkV.stable MkV.widens hb120.ext
      have hp14 : ∀ a : Addr, p14 = some a → Y ≤ a.block ∧ a.block < wl.heap.size := fun a ha => hOk.base ha
      obtain ⟨p', c', w121, hr121, ho121, hu121, hat121⟩ := OwnL.append MkV.stable MkV.widens slM 29 hO120 (b := b120) (vs := [.int .u8 (x107.headD 0), .int .i64 at_]) rfl (fun j u hj => hb120.cell j hj) (by simp [Value.oneCell']) (x := (x107.headD 0, at_))
        ⟨rfl, hname, inI64 (by show _ ≤ at_; have := fat.1; omega) (by show at_ ≤ _; have := fat.2; omega)⟩ (by simp only [maxLen]; omega) (by omega) (by omega)
      have nb : ∀ {z}, z ≤ b28 → ¬ ∃ a, p14 = some a ∧ a.block = z := fun hz ⟨a, e1, e2⟩ => by have := (hp14 a e1).1; omega
      have R117 := R116.upd u117 (by omega) fun z hz e => by have := hlo z hz; have e : z = b17 := e; omega
      refine ⟨p', _, c', w121, hr121, inI64 (by omega) (by omega), _, ?_, k + 1, s2, ms ++ [(x107.headD 0, at_)], by omega, rfl, by omega, by simp [hml], by simp, ?_, ho121, P116, ?_⟩
      · omega
      · exact (R117.ext hb120.ext).upd hu121 (nb (Nat.le_refl _)) fun z hz => nb (by have := hlo z hz; omega)
      · refine Upd.then (Ext.then (Upd.trans hUk U117) hb120.ext) hu121 fun z hz ⟨a, e1, e2⟩ => by have := (hp14 a e1).1; omega
    · cases sk with
      | none => rfl
      | some _ => cases q2
    · have q1 := of_decide_eq_false q1
      omega
  rintro p14 _ c14 _ wd ⟨sd, ms, rfl, hRd, hOd, hPd, hUd⟩
  have Xd := low hUd X92
  have sd' := hUd.size
  have hNd : OwnL NodeV wd (b28 + 1) 63 3 p8 (rootN :: ns).length c8 (rootN :: ns) := OwnL.keep NodeV.stable NodeV.widens ho92 hUd fun z h1 _ (e : z = b28) => by omega
  refine ⟨_, hRd.flag, brr (fun q1 => ?_) fun q1 => ?_⟩
  · cases sd with
    | some _ => cases q1
    | none =>
      have hPd : T = none := hPd
      rw [hT] at hPd
      refine dec_bad ?_ (by decide) Xd
      unfold decS; rw [if_neg hb, hPd]
  cases sd with
  | none => cases q1
  | some lft =>
    have hPd : done ((many, now, ns), ms) lft = T := hPd
    rw [hT] at hPd
    have hst : stateP b = some (((many, now, ns), ms), lft) := hPd.symm
    obtain ⟨h0, pl, ll, cl, a1, a2⟩ := hRd
    obtain ⟨rfl, hcl, hxl, hll⟩ := a2 lft rfl
    obtain ⟨sm, sn, sms, slen, sb, sneg, snow⟩ := read_small hf hst (by omega)
    refine ⟨_, _, _, a1.cell 0 rfl, brr (fun q2 => ?_) fun q2 => ?_⟩
    · have q2 := of_decide_eq_true q2
      refine dec_bad ?_ (by decide) Xd
      unfold decS; rw [if_neg hb, hst]; simp only; rw [if_pos]
      rintro rfl
      simp at q2
    have hl0 : lft = [] := by
      have q2 := of_decide_eq_false q2
      exact List.length_eq_zero_iff.1 (by omega)
    subst hl0
    have hdT : (1 ≤ many ∧ loadOk (rootN :: ns) now ∧ encCode (rootN :: ns) now ms = 0 ∧ encS (rootN :: ns) now ms = b) → decS b = (0, rootN :: ns, now, ms) := fun h => by
      unfold decS; rw [if_neg hb, hst]; simp only; rw [if_neg (fun h => h rfl), if_pos h]
    have hdF : ¬ (1 ≤ many ∧ loadOk (rootN :: ns) now ∧ encCode (rootN :: ns) now ms = 0 ∧ encS (rootN :: ns) now ms = b) → (decS b).1 = 4 := fun h => by
      unfold decS; rw [if_neg hb, hst]; simp only; rw [if_neg (fun h => h rfl), if_neg h]
    have hrl : (rootN :: ns).length ≤ 1000000000 := by rw [List.length_cons]; omega
    refine (rload_does (OwnL.nodes hNd) rfl c8 now (inI64 (by have := snow.1; omega) (by have := snow.2; omega)) hrl sm).imp ?_
    rintro e w135 ⟨x135, ⟨hno, rfl⟩ | ⟨hyes, g, rfl, hH⟩⟩
    · exact ⟨_, _, rfl, tru rfl (dec_bad (hdF fun h => hno h.2.1) (by decide) (Xd.thn x135))⟩
    have X135 := Xd.thn x135
    refine ⟨_, _, rfl, fls rfl (brr (fun q3 => ?_) fun q3 => ?_)⟩
    · have q3 := of_decide_eq_true q3
      exact dec_bad (hdF fun h => by have := h.1; omega) (by decide) X135
    have q3 := of_decide_eq_false q3
    have ecur : ((now.toNat : Nat) : Int) = now := by have := snow.1; omega
    have hyes' : loadOk (rootN :: ns) ((now.toNat : Nat) : Int) := by rw [ecur]; exact hyes
    have hsl := slen (by omega)
    have hMk : Mks wd (fun _ => True) p14 ms := RS.ok (ElemC.widens MkV.widens) (hOd.rs MkV.widens (by decide)).2 (fun _ _ _ h => h.1) fun _ _ _ => trivial
    refine (rencode_does hH.hs hyes' sm (hMk.ext x135) rfl c14 (by rw [ecur]; omega)).imp ?_
    rintro e w147 ⟨⟨p147, c147, rfl, -, hI⟩, x147⟩
    rw [ecur] at hI ⊢
    have X147 := X135.thn x147
    refine ⟨_, _, _, _, rfl, brr (fun q4 => ?_) fun q4 => ?_⟩
    · have q4 : encCode (rootN :: ns) now ms ≠ 0 := by simpa using q4
      exact dec_bad (hdF fun k => q4 k.2.2.1) (by decide) X147
    have q4 : encCode (rootN :: ns) now ms = 0 := by simpa using q4
    have hout : encOut (rootN :: ns) now ms = encS (rootN :: ns) now ms := by unfold encOut; rw [if_pos q4]
    refine (same_does (hx.ext X147) hI rfl rfl c _ (by omega)).imp ?_
    rintro e w155 ⟨rfl, x155⟩
    rw [hout]
    refine ⟨_, rfl, brr (fun q5 => ?_) fun q5 => ?_⟩
    · exact dec_bad (hdF fun k => not_dec q5 k.2.2.2.symm) (by decide) (X147.thn x155)
    · have q5 := yes_dec q5
      refine ⟨X147.thn x155, .inr ?_⟩
      rw [hdT ⟨by omega, hyes, q4, q5.symm⟩]
      exact ⟨rfl, g, _, p14, c14, rfl, (hH.hs.ext x147).ext x155, ((hMk.ext x135).ext x147).ext x155⟩
end
end Go.Proofs.Ytlenmnffdbgkkaa
