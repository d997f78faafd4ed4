/-
  Keys: the laws: any keys.
-/
import Derived.Test.YteggcicicdcnlaaKeysLaws
namespace Go.Proofs.Yteggcicicdcnlaa
open Go.RowKit Go.Vc
section
variable {w : World} {ok : Nat → Prop} {p : Option Addr} {xs : List Int} {l c : Nat}
theorem feedslaw (v : Bool) (hx : Ints .u8 w ok p xs) (hl : l = xs.length) : Does Try.prog 5 #[.bool v, .slice p l c] w (Holds w) := by
  apply f5_does
  refine awake_does.imp ?_
  rintro e w12 ⟨rfl, x12⟩
  refine ⟨_, rfl, fls rfl (brr (fun q => ⟨rfl, x12⟩) fun q => (new_does v).imp ?_)⟩
  have q := of_decide_eq_false q
  rintro e w18 ⟨g, rfl, hP, x18, hg⟩
  have z12 := x12.size
  have X18 := x12.thn x18
  refine ⟨_, rfl, fun b21 w21 hb21 => fls rfl ?_⟩
  have e21 := hb21.eq
  have g18 := hP.lt (.inl rfl : PT g none none g)
  refine ⟨fun x7 nl wl => ∃ (j : Nat) (s : PS) (B : List Int) (kb ab rb : Option Nat), x7 = j ∧ nl = xs.length - j ∧ j ≤ xs.length ∧ Keys s B ∧ s.visual = v ∧ B.length ≤ j ∧ Ps wl g s B kb ab ∧ Rf wl b21 v B rb ∧ Ext w wl ∧ (∀ z, PT g kb ab z → w.heap.size ≤ z) ∧ (∀ z, z = b21 ∨ rb = some z → w.heap.size ≤ z ∧ ¬ PT g kb ab z),
    ⟨_, 0, fresh v, [], none, none, none, rfl, rfl, Nat.zero_le _, Keys.fresh _, rfl, Nat.le_refl _, hP.ext hb21.ext, ⟨none, 0, 0, hb21.blk, own_nil _ _ _ _, rfl, fun e => (by cases e), fun x hx => by cases hx⟩, X18.thn hb21.ext, fun z hz => ?_, fun z hz => ?_⟩, ?_⟩
  · have := X18.size
    rcases hz with hz | hz | hz
    · omega
    · cases hz
    · cases hz
  · have := X18.size
    rcases hz with hz | hz
    · refine ⟨by omega, fun e => ?_⟩
      rcases e with e | e | e
      · omega
      · cases e
      · cases e
    · cases hz
  rintro _ _ wl ⟨j, s, B, kb, ab, rb, rfl, rfl, hj, hk, hv, hB, hPs, hRf, X, hpt, hrt⟩
  refine brr (fun q1 => ?_) fun q1 => (reset_does hPs).imp ?_
  · have q1 := of_decide_eq_true q1
    have hlt : j < xs.length := by omega
    have hkk := hx.inK xs[j] (List.getElem_mem hlt)
    obtain ⟨f1, f2, f3, f4⟩ := feed_same hk xs[j]
    rw [hv] at f1 f2
    refine (hx.ext X).rd hl rfl hlt (FeedR.use (feed_does hPs hk.wf hkk (by omega)) (fun z hz => hPs.lt hz) fun b8 w8 kb' ab' sk sm pk ca B8 h1 h2 h3 h4 h5 h6 h7 => ?_)
    have X8 : Ext w w8 := own_ext X hpt h5
    have zl := X.size
    have z5 := h5.size
    have hRf8 := hRf.upd h5 fun z e hz => (hrt z hz).2 e
    have hpt8 : ∀ z, PT g kb' ab' z → w.heap.size ≤ z := fun z hz => by
      rcases (h6 z hz).1 with h | h
      · exact hpt z h
      · omega
    have hrt8 : ∀ z, z = b21 ∨ rb = some z → w.heap.size ≤ z ∧ ¬ PT g kb' ab' z := fun z hz => ⟨(hrt z hz).1, fun e => by
      rcases (h6 z e).1 with h | h
      · exact (hrt z hz).2 h
      · have := hRf.lt hz; omega⟩
    have l8 := B8.lt
    refine (hx.ext X8).rd hl rfl hlt (RFeedR.use (rfeed_does hRf8 hkk (by omega)) (fun z hz => hRf8.lt hz) fun b10 w10 rb' sk2 sm2 pk2 ca2 B10 g1 g2 g3 g4 g5 g6 g7 => ?_)
    have X10 : Ext w w10 := Upd.then X8 g5 fun z hz e => by have := (hrt8 z e).1; omega
    have h410 := h4.upd g5 fun z e hz => (hrt8 z e).2 hz
    have nb8 : ¬ (b8 = b21 ∨ rb = some b8) := fun e => by have := hRf.lt e; omega
    have B810 := B8.upd g5 nb8
    have I810 : Ints .u8 w10 (fun _ => True) pk (feedP s B xs[j]).1.1.arg := by
      have a1 : Ints .u8 w8 (fun z => ¬ (z = b21 ∨ rb = some z)) pk (feedP s B xs[j]).1.1.arg := Ints.ok h3 fun z _ hz e => by
        rcases hz.1 with h | h
        · exact (hrt z e).2 h
        · have := hRf.lt e; omega
      exact (a1.upd g5 fun z hz e => hz e).any
    have z10 := g5.size
    intro wd hwd
    refine ⟨fun wz => Ext w10 wz, hwd.ext, ?_⟩
    have hB810 : ∀ {wz}, Ext w10 wz → Blk wz b8 _ := fun x => B810.ext x
    have hB10 : ∀ {wz}, Ext w10 wz → Blk wz b10 _ := fun x => B10.ext x
    refine brr (fun q2 => ?_) fun q2 => ⟨_, fun wz x => (hB810 x).cell 0 rfl, _, fun wz x => (hB810 x).cell 1 rfl, _, fun wz x => (hB810 x).cell 2 rfl, _, fun wz x => (hB810 x).cell 3 rfl, _, _, _, fun wz x => (hB810 x).cell 4 rfl,
      _, fun wz x => (hB10 x).cell 0 rfl, _, fun wz x => (hB10 x).cell 1 rfl, _, fun wz x => (hB10 x).cell 2 rfl, _, fun wz x => (hB10 x).cell 3 rfl, _, _, _, fun wz x => (hB10 x).cell 4 rfl, ?_⟩
    · rw [f1] at q2
      simp at q2
    · -- the command is the same
      refine (model_does (x := (feedP s B xs[j]).1.1) (o1 := fun _ => True) ⟨sk, sm, pk, ca, rfl, h1, h2, I810.ext hwd.ext⟩).imp ?_
      rintro e w53 ⟨⟨vm, rfl, hvm⟩, x53⟩
      obtain ⟨sk3, sm3, pk3, ca3, rfl, k1, k2, k3⟩ := hvm
      have X53 := hwd.ext.thn x53
      refine ⟨_, _, _, _, _, _, _, rfl, X53, (rsame_does (x := (feedP s B xs[j]).1.1) (y := (feedR v B xs[j]).1.1) ⟨sk3, sm3, pk3, ca3, rfl, k1, k2, k3⟩ ⟨sk2, sm2, pk2, ca2, rfl, g1, g2, g3.ext X53⟩).imp ?_⟩
      rintro e w55 ⟨rfl, x55⟩
      have X55 := X53.thn x55
      rw [f1, decide_eq_true rfl]
      refine ⟨_, rfl, X55, fls rfl ?_⟩
      obtain ⟨pr, lr, cr, R1, R2, R3, R4, R5⟩ := g4
      have g4 : Rf w10 b21 v (feedR v B xs[j]).2 rb' := ⟨pr, lr, cr, R1, R2, R3, R4, R5⟩
      have hlr := R2.len
      simp only [List.length_map] at hlr
      have conv : ∀ wz, Ext w10 wz → (convert 27 9 (.slice pr lr cr)).run Try.prog wz = .ok (.string (strOfNums (feedR v B xs[j]).2)) wz := fun wz x =>
        conv_str Try.underlying27 Try.underlying5 Try.underlying9 ((R2.any R5).ext x) hlr _
      have next : ∀ wz, Ext w10 wz → InK .i64 ((j : Int) + 1) ∧ ∃ ml, ml < xs.length - j ∧ ∃ (j' : Nat) (s : PS) (B : List Int) (kb ab rb : Option Nat), ((j : Int) + 1) = j' ∧ ml = xs.length - j' ∧ j' ≤ xs.length ∧ Keys s B ∧ s.visual = v ∧ B.length ≤ j' ∧ Ps wz g s B kb ab ∧ Rf wz b21 v B rb ∧ Ext w wz ∧ (∀ z, PT g kb ab z → w.heap.size ≤ z) ∧ (∀ z, z = b21 ∨ rb = some z → w.heap.size ≤ z ∧ ¬ PT g kb ab z) := fun wz x => by
        refine ⟨inI64 (by omega) (by omega), _, ?_, j + 1, (feedP s B xs[j]).2.1, (feedP s B xs[j]).2.2, kb', ab', rb', by omega, rfl, hlt, f3, by rw [f4, hv], by have := feedP_len s B xs[j]; omega, h410.ext x, by rw [f2]; exact g4.upd x fun _ e => e.elim, X10.thn x, hpt8, fun z hz => ?_⟩
        · omega
        · rcases hz with hz | hz
          · exact hrt8 z (.inl hz)
          · rcases (g6 z hz).1 with h | h
            · exact hrt8 z (.inr h)
            · exact ⟨by have := X8.size; omega, fun e => by have := h4.lt e; omega⟩
      refine ⟨_, _, _, fun wz x => (R1.ext x).cell 1 rfl, (pending_does (h410.ext X55)).imp ?_, _, w55, conv w55 X55, X55, (pending_does (h410.ext X55)).imp ?_⟩
      · rintro e w60 ⟨x60, rfl, hx60, rfl⟩
        refine ⟨_, rfl, X55, _, w60, conv w60 X55, X55, fls ?_ (next w60 X55)⟩
        rw [L_eq, hx60, L_nums R5, f2]; simp
      · rintro e w60 ⟨x60, rfl, hx60, rfl⟩
        refine ⟨_, rfl, X55, fls ?_ (next w60 X55)⟩
        rw [L_eq, hx60, L_nums R5, f2]; simp
  · rintro e w69 ⟨rfl, h69, u69⟩
    refine ⟨rfl, (pending_does h69).imp ?_⟩
    rintro e w71 ⟨x71, rfl, hx71, rfl⟩
    exact ⟨_, rfl, by rw [L_eq, hx71]; rfl, Upd.then X u69 fun z hz e => by have := hpt z (.inl e); omega⟩
end
end Go.Proofs.Yteggcicicdcnlaa
