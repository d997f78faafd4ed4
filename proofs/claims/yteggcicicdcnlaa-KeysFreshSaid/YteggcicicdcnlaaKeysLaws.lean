/-
  Keys: the laws: what is known, what is fed.
-/
import Derived.Test.YteggcicicdcnlaaKeysRef2
namespace Go.Vc
open Go.RowKit
deriving instance DecidableEq for PS
/-- Keys, one by one: what the last one told. -/
def feedsP : (Cd × Int) → PS → List Int → List Int → (Cd × Int) × PS × List Int
  | r, s, B, [] => (r, s, B)
  | _, s, B, k :: t => feedsP (feedP s B k).1 (feedP s B k).2.1 (feedP s B k).2.2 t
theorem feedP_len (s : PS) (B : List Int) (k : Int) : (feedP s B k).2.2.length ≤ B.length + 1 := by
  unfold feedP
  split
  · simp
  · split <;> simp
theorem feedP_nil (s : PS) (B : List Int) (k : Int) (h : (feedP s B k).1.2 ≠ 0) : (feedP s B k).2.2 = [] := by
  unfold feedP at h ⊢
  split at h
  · rename_i h1; rw [if_pos h1]
  · rename_i h1
    rw [if_neg h1]
    split at h
    · exact absurd rfl h
    · rename_i h2; rw [if_neg h2]
end Go.Vc
namespace Go.Proofs.Yteggcicicdcnlaa
open Go.RowKit Go.Vc
section
variable {w : World} {g : Nat} {s : PS} {B : List Int} {kb ab : Option Nat}
/-- What is told, laid into a new block. -/
theorem FeedR.use {f : FuncId} {args : Array Value} {r : (Cd × Int) × PS × List Int} {T : TypeId} {K : Int → Nat → World → Prop} (hd : Does Try.prog f args w (FeedR w g kb ab r)) (hlt : ∀ z, PT g kb ab z → z < w.heap.size)
    (k : ∀ b w' kb' ab' sk sm p ca, Blk w' b (cellsK r.1.1.reg r.1.1.count sk sm p r.1.1.arg.length ca) → L sk = r.1.1.key → L sm = r.1.1.mot → Ints .u8 w' (fun z => (PT g kb ab z ∨ w.heap.size ≤ z) ∧ z ≠ b) p r.1.1.arg → Ps w' g r.2.1 r.2.2 kb' ab' → Upd (PT g kb ab) w w' →
      (∀ z, PT g kb' ab' z → (PT g kb ab z ∨ w.heap.size ≤ z) ∧ z ≠ b) → w.heap.size ≤ b → K r.1.2 b w') :
    Does Try.prog f args w fun e w1 => ∃ n1 : Int, ∃ n2 : Int, ∃ s1 : ByteArray, ∃ s2 : ByteArray, ∃ (p : Option Addr) (l c : Nat), ∃ n : Int, e = .returned (.tuple #[.agg #[.int .u8 n1, .int .i64 n2, .string s1, .string s2, .slice p l c], .int .i64 n]) ∧
      ∀ b w2, NewBlk w1 b [.int .u8 0, .int .i64 0, .string (({ data := #[] } : ByteArray)), .string (({ data := #[] } : ByteArray)), .slice none 0 0] T w2 →
      CanStore w2 b 0 ∧ ∀ v1, Stored w2 b 0 (.int .u8 n1) v1 → CanStore v1 b 1 ∧ ∀ v2, Stored v1 b 1 (.int .i64 n2) v2 → CanStore v2 b 2 ∧ ∀ v3, Stored v2 b 2 (.string s1) v3 → CanStore v3 b 3 ∧ ∀ v4, Stored v3 b 3 (.string s2) v4 → CanStore v4 b 4 ∧ ∀ v5, Stored v4 b 4 (.slice p l c) v5 → K n b v5 := by
  refine hd.imp ?_
  rintro e w1 ⟨v, kb', ab', rfl, ⟨sk, sm, p, ca, rfl, h1, h2, h3⟩, h4, h5, h6⟩
  refine ⟨_, _, _, _, _, _, _, _, rfl, fun b w2 hb => Blk.st5 hb.blk rfl fun w' Bb ub => ?_⟩
  have eb := hb.eq
  have z1 := h5.size
  have X : Ext w1 w' := hb.ext.loc (by omega) ub
  have hb' : ∀ z, PT g kb' ab' z → z ≠ b := fun z hz => by have := h4.lt hz; omega
  refine k b w' kb' ab' sk sm p ca Bb h1 h2 ?_ (h4.ext X) (Upd.then h5 X fun _ _ e => e.elim) (fun z hz => ⟨h6 z hz, hb' z hz⟩) (by omega)
  exact (Ints.ok (ok' := fun z => (PT g kb ab z ∨ w.heap.size ≤ z) ∧ z ≠ b) h3 fun z hl hz => ⟨hz, by omega⟩).ext X
theorem RFeedR.use {m : Nat} {v : Bool} {f : FuncId} {args : Array Value} {r : (Cd × Int) × List Int} {T : TypeId} {K : Int → Nat → World → Prop} (hd : Does Try.prog f args w (RFeedR w m v kb r)) (hlt : ∀ z, z = m ∨ kb = some z → z < w.heap.size)
    (k : ∀ b w' kb' sk sm p ca, Blk w' b (cellsK r.1.1.reg r.1.1.count sk sm p r.1.1.arg.length ca) → L sk = r.1.1.key → L sm = r.1.1.mot → Ints .u8 w' (fun z => w.heap.size ≤ z ∧ z ≠ b) p r.1.1.arg → Rf w' m v r.2 kb' → Upd (fun z => z = m ∨ kb = some z) w w' →
      (∀ z, kb' = some z → (kb = some z ∨ w.heap.size ≤ z) ∧ z ≠ b) → w.heap.size ≤ b → K r.1.2 b w') :
    Does Try.prog f args w fun e w1 => ∃ n1 : Int, ∃ n2 : Int, ∃ s1 : ByteArray, ∃ s2 : ByteArray, ∃ (p : Option Addr) (l c : Nat), ∃ n : Int, e = .returned (.tuple #[.agg #[.int .u8 n1, .int .i64 n2, .string s1, .string s2, .slice p l c], .int .i64 n]) ∧
      ∀ b w2, NewBlk w1 b [.int .u8 0, .int .i64 0, .string (({ data := #[] } : ByteArray)), .string (({ data := #[] } : ByteArray)), .slice none 0 0] T w2 →
      CanStore w2 b 0 ∧ ∀ v1, Stored w2 b 0 (.int .u8 n1) v1 → CanStore v1 b 1 ∧ ∀ v2, Stored v1 b 1 (.int .i64 n2) v2 → CanStore v2 b 2 ∧ ∀ v3, Stored v2 b 2 (.string s1) v3 → CanStore v3 b 3 ∧ ∀ v4, Stored v3 b 3 (.string s2) v4 → CanStore v4 b 4 ∧ ∀ v5, Stored v4 b 4 (.slice p l c) v5 → K n b v5 := by
  refine hd.imp ?_
  rintro e w1 ⟨val, kb', rfl, ⟨sk, sm, p, ca, rfl, h1, h2, h3⟩, h4, h5, h6⟩
  refine ⟨_, _, _, _, _, _, _, _, rfl, fun b w2 hb => Blk.st5 hb.blk rfl fun w' Bb ub => ?_⟩
  have eb := hb.eq
  have z1 := h5.size
  have X : Ext w1 w' := hb.ext.loc (by omega) ub
  refine k b w' kb' sk sm p ca Bb h1 h2 ?_ (h4.upd X fun _ e => e.elim) (Upd.then h5 X fun _ _ e => e.elim) (fun z hz => ⟨h6 z hz, by have := h4.lt (.inr hz); omega⟩) (by omega)
  exact (Ints.ok (ok' := fun z => w.heap.size ≤ z ∧ z ≠ b) h3 fun z hl hz => ⟨hz, by omega⟩).ext X
theorem feeds_does (h : Ps w g s B kb ab) (hk : Keys s B) {str : ByteArray} {ks : List Int} (hs : L str = ks) (hl : B.length + ks.length ≤ 1000000) :
    Does Try.prog 9 #[.pointer (some ⟨g, 0, none⟩), .string str] w (FeedR w g kb ab (feedsP (cd0, 0) s B ks)) := by
  apply f9_does
  intro b4 w4 hb4 b6 w6 hb6
  have e4 := hb4.eq
  have e6 := hb6.eq
  have z4 := hb4.size
  have z6 := hb6.size
  have x6 := hb4.ext.thn hb6.ext
  have hlt : ∀ {z}, PT g kb ab z → z < w.heap.size := fun hz => h.lt hz
  refine Blk.st5 hb6.blk rfl fun wa Ba ua => ?_
  have Xa : Ext w wa := x6.loc (by omega) ua
  have B4a := (hb4.blk.ext hb6.ext).upd ua (by omega)
  have hsz := L_len str
  rw [hs] at hsz
  refine ⟨fun x7 x8 nl wl => ∃ (j : Nat) (c : Cd) (s' : PS) (B' : List Int) (kb' ab' : Option Nat) (sk sm : ByteArray) (p : Option Addr) (ca : Nat), x8 = j ∧ nl = ks.length - j ∧ j ≤ ks.length ∧ Keys s' B' ∧ B'.length ≤ B.length + j ∧ feedsP (c, x7) s' B' (ks.drop j) = feedsP (cd0, 0) s B ks ∧
    Blk wl b6 (cellsK c.reg c.count sk sm p c.arg.length ca) ∧ L sk = c.key ∧ L sm = c.mot ∧ Ints .u8 wl (fun z => (PT g kb ab z ∨ w.heap.size ≤ z) ∧ z ≠ b4 ∧ z ≠ b6) p c.arg ∧ Ps wl g s' B' kb' ab' ∧ Blk wl b4 (cellsK 0 0 ({ data := #[] } : ByteArray) ({ data := #[] } : ByteArray) none 0 0) ∧ Upd (PT g kb ab) w wl ∧
    (∀ z, PT g kb' ab' z → (PT g kb ab z ∨ w.heap.size ≤ z) ∧ z ≠ b4 ∧ z ≠ b6), ⟨_, 0, cd0, s, B, kb, ab, _, _, none, 0, rfl, rfl, Nat.zero_le _, hk, Nat.le_refl _, rfl, Ba, rfl, rfl, RS.nil, h.ext Xa, B4a, Xa.mono fun _ _ e => e.elim, fun z hz => ⟨.inl hz, by have := hlt hz; omega, by have := hlt hz; omega⟩⟩, ?_⟩
  rintro n _ _ wl ⟨j, c, s', B', kb', ab', sk, sm, p, ca, rfl, rfl, hj, hk', hB', hf, B6, h1, h2, h3, hP, B4, U, hpt⟩
  have hul := U.size
  have zaa := ua.size
  refine brr (fun q => ?_) fun q => ?_
  · have q := of_decide_eq_true q
    have hlt' : j < ks.length := by omega
    have hd := drop_at hs hlt'
    have hkk : InK .u8 (sb str j) := by
      rw [← hs] at hlt' hd
      refine L_inK str _ ?_
      rw [L_sb hlt']
      exact List.getElem_mem _
    refine ⟨⟨by omega, by omega⟩, (feed_does hP hk'.wf hkk (by omega)).imp ?_⟩
    rintro e w21 ⟨v, kb2, ab2, rfl, ⟨sk2, sm2, p2, ca2, rfl, g1, g2, g3⟩, g4, g5, g6⟩
    have b6l : b6 < wl.heap.size := B6.lt
    have b4l : b4 < wl.heap.size := B4.lt
    refine ⟨_, _, _, _, _, _, _, _, rfl, Blk.st5 (B6.upd g5 fun e => (hpt b6 e).2.2 rfl) rfl fun w' Bq uq => ⟨inI64 (by omega) (by omega), _, ?_, j + 1, _, _, _, kb2, ab2, sk2, sm2, p2, ca2, by omega, rfl, hlt', (feed_same hk' (sb str j)).2.2.1, ?_, ?_, Bq, g1, g2, ?_, ?_, ?_, ?_, ?_⟩⟩
    · omega
    · have := feedP_len s' B' (sb str j); omega
    · rw [← hf, hd]; rfl
    · have g3' : Ints .u8 w21 (fun z => (PT g kb ab z ∨ w.heap.size ≤ z) ∧ z ≠ b4 ∧ z ≠ b6) p2 (feedP s' B' (sb str j)).1.1.arg := Ints.ok g3 fun z _ hz => by
        rcases hz with hz | hz
        · exact hpt z hz
        · exact ⟨.inr (by omega), by omega, by omega⟩
      exact g3'.upd uq fun z hz e => hz.2.2 e
    · refine g4.upd uq fun z e hz => ?_
      have e : z = b6 := e
      rcases g6 z hz with h | h
      · exact (hpt z h).2.2 e
      · omega
    · exact (B4.upd g5 fun e => (hpt b4 e).2.1 rfl).upd uq (by omega)
    · refine Upd.then (Upd.then U g5 fun z hz e => ?_) uq fun z hz e => ?_
      · rcases (hpt z e).1 with h | h
        · exact h
        · omega
      · omega
    · intro z hz
      rcases g6 z hz with h | h
      · exact hpt z h
      · exact ⟨.inr (by omega), by omega, by omega⟩
  · have q := of_decide_eq_false q
    obtain rfl : j = ks.length := by omega
    rw [List.drop_length] at hf
    rw [← hf]
    refine ret55 B6 B4 rfl fun w' u' => ⟨_, kb', ab', rfl, ⟨sk, sm, p, ca, rfl, h1, h2, ?_⟩, hP.upd u' fun z e hz => (hpt z hz).2.1 e, Upd.then U u' fun z hz e => by omega, fun z hz => (hpt z hz).1⟩
    exact Ints.ok (h3.upd u' fun z hz e => hz.2.1 e) fun z _ hz => hz.1
/-- A parser of one's own: what it does leaves all else. -/
theorem own_ext {w0 w' : World} (x : Ext w0 w) (h : ∀ z, PT g kb ab z → w0.heap.size ≤ z) (u : Upd (PT g kb ab) w w') : Ext w0 w' := Upd.then x u fun z hz e => by have := h z e; omega
theorem awake_does : Does Try.prog 7 #[] w fun e w' => e = .returned (.bool true) ∧ Ext w w' := by
  apply f7_does
  refine (new_does false).imp ?_
  rintro e w4 ⟨g, rfl, hP, x4, hg⟩
  have hr : (feedsP (cd0, 0) (fresh false) [] [50, 100, 51, 119]) = ((⟨0, 6, [100], [119], []⟩, 1), fresh false, []) := by decide +kernel
  have hd := feeds_does hP (Keys.fresh _) (str := ({ data := #[50, 100, 51, 119] } : ByteArray)) (ks := [50, 100, 51, 119]) (by decide) (by decide)
  rw [hr] at hd
  refine ⟨_, rfl, fls rfl (FeedR.use hd (fun z hz => hP.lt hz) fun b w' kb' ab' sk sm p ca Bb h1 h2 h3 h4 h5 h6 h7 => ?_)⟩
  have X : Ext w w' := own_ext x4 (fun z hz => by rcases hz with hz | hz | hz; omega; cases hz; cases hz) h5
  exact tru rfl ⟨_, Bb.cell 2 rfl, tru (by rw [L_eq, h1]; rfl) ⟨_, Bb.cell 3 rfl, tru (by rw [L_eq, h2]; rfl) ⟨_, Bb.cell 1 rfl, rfl, X⟩⟩⟩
theorem known_law : Does Try.prog 4 #[] w (Holds w) := by
  apply f4_does
  refine awake_does.imp ?_
  rintro e w14 ⟨rfl, x14⟩
  refine ⟨_, rfl, fls rfl ((new_does false).imp ?_)⟩
  rintro e w16 ⟨g, rfl, hP, x16, hg⟩
  have X16 := x14.thn x16
  have hz14 := x14.size
  -- every one of them: the parser is as new behind it
  have step : ∀ {wa : World} {kb ab : Option Nat} {str : ByteArray} {ks : List Int} {c : Cd} {n : Int} {B' : List Int} {s' : PS} {T : TypeId} {K : Int → Nat → World → Prop}, Ps wa g (fresh false) [] kb ab → Ext w wa → (∀ z, PT g kb ab z → w.heap.size ≤ z) → L str = ks → ks.length ≤ 1000000 →
      (feedsP (cd0, 0) (fresh false) [] ks) = ((c, n), s', B') →
      (∀ b w' kb' ab' sk sm p ca, Blk w' b (cellsK c.reg c.count sk sm p c.arg.length ca) → L sk = c.key → L sm = c.mot → Ps w' g s' B' kb' ab' → Ext w w' → (∀ z, PT g kb' ab' z → w.heap.size ≤ z ∧ (PT g kb ab z ∨ wa.heap.size ≤ z) ∧ z ≠ b) → wa.heap.size ≤ b → Upd (PT g kb ab) wa w' → K n b w') →
      Does Try.prog 9 #[.pointer (some ⟨g, 0, none⟩), .string str] wa fun e w1 => ∃ n1 : Int, ∃ n2 : Int, ∃ s1 : ByteArray, ∃ s2 : ByteArray, ∃ (p : Option Addr) (l c : Nat), ∃ n : Int, e = .returned (.tuple #[.agg #[.int .u8 n1, .int .i64 n2, .string s1, .string s2, .slice p l c], .int .i64 n]) ∧
      ∀ b w2, NewBlk w1 b [.int .u8 0, .int .i64 0, .string (({ data := #[] } : ByteArray)), .string (({ data := #[] } : ByteArray)), .slice none 0 0] T w2 →
      CanStore w2 b 0 ∧ ∀ v1, Stored w2 b 0 (.int .u8 n1) v1 → CanStore v1 b 1 ∧ ∀ v2, Stored v1 b 1 (.int .i64 n2) v2 → CanStore v2 b 2 ∧ ∀ v3, Stored v2 b 2 (.string s1) v3 → CanStore v3 b 3 ∧ ∀ v4, Stored v3 b 3 (.string s2) v4 → CanStore v4 b 4 ∧ ∀ v5, Stored v4 b 4 (.slice p l c) v5 → K n b v5 := by
    intro wa kb ab str ks c n B' s' T K hPa Xa hpt hs hl hr hK
    have hd := feeds_does hPa (Keys.fresh _) hs (by simpa using hl)
    rw [hr] at hd
    refine FeedR.use hd (fun z hz => hPa.lt hz) fun b w' kb' ab' sk sm p ca Bb h1 h2 h3 h4 h5 h6 h7 => ?_
    refine hK b w' kb' ab' sk sm p ca Bb h1 h2 h4 (own_ext Xa hpt h5) (fun z hz => ⟨?_, h6 z hz⟩) h7 h5
    have := Xa.size
    rcases (h6 z hz).1 with h | h
    · exact hpt z h
    · omega
  have pt0 : ∀ z, PT g none none z → w.heap.size ≤ z := fun z hz => by rcases hz with hz | hz | hz; omega; cases hz; cases hz
  refine ⟨_, rfl, fls rfl (step hP X16 pt0 (ks := [34, 97, 121, 121]) (c := ⟨97, 0, [121], [95], []⟩) (n := 1) (s' := fresh false) (B' := []) (by decide) (by decide) (by decide +kernel) fun b2 w2 kb2 ab2 sk2 sm2 p2 ca2 C2 k2 m2 P2 X2 T2 l2 U2 => ?_)⟩
  have c2 := C2.lt
  refine step P2 X2 (fun z hz => (T2 z hz).1) (ks := [103, 85, 85]) (c := ⟨0, 0, [103, 85], [95], []⟩) (n := 1) (s' := fresh false) (B' := []) (by decide) (by decide) (by decide +kernel) fun b4 w4 kb4 ab4 sk4 sm4 p4 ca4 C4 k4 m4 P4 X4 T4 l4 U4 => ?_
  have c4 := C4.lt
  have n4 : ∀ b, b < w2.heap.size → ¬ PT g kb2 ab2 b → ¬ PT g kb4 ab4 b := fun b hb hn hz => by rcases (T4 b hz).2.1 with h | h; exact hn h; omega
  have C2 := C2.upd U4 fun e => (T2 _ e).2.2 rfl
  refine step P4 X4 (fun z hz => (T4 z hz).1) (ks := [48]) (c := ⟨0, 0, [], [48], []⟩) (n := 1) (s' := fresh false) (B' := []) (by decide) (by decide) (by decide +kernel) fun b6 w6 kb6 ab6 sk6 sm6 p6 ca6 C6 k6 m6 P6 X6 T6 l6 U6 => ?_
  have c6 := C6.lt
  have n6 : ∀ b, b < w4.heap.size → ¬ PT g kb4 ab4 b → ¬ PT g kb6 ab6 b := fun b hb hn hz => by rcases (T6 b hz).2.1 with h | h; exact hn h; omega
  have i42 := n4 b2 c2 fun e => (T2 _ e).2.2 rfl
  have i44 : ¬ PT g kb4 ab4 b4 := fun e => (T4 _ e).2.2 rfl
  have C2 := C2.upd U6 i42
  have C4 := C4.upd U6 i44
  refine step P6 X6 (fun z hz => (T6 z hz).1) (ks := [120]) (c := ⟨0, 0, [120], [], []⟩) (n := 1) (s' := fresh false) (B' := []) (by decide) (by decide) (by decide +kernel) fun b8 w8 kb8 ab8 sk8 sm8 p8 ca8 C8 k8 m8 P8 X8 T8 l8 U8 => ?_
  have c8 := C8.lt
  have n8 : ∀ b, b < w6.heap.size → ¬ PT g kb6 ab6 b → ¬ PT g kb8 ab8 b := fun b hb hn hz => by rcases (T8 b hz).2.1 with h | h; exact hn h; omega
  have z4 := U4.size
  have z6 := U6.size
  have z8 := U8.size
  have i62 := n6 b2 (by omega) i42
  have i64 := n6 b4 (by omega) i44
  have i66 : ¬ PT g kb6 ab6 b6 := fun e => (T6 _ e).2.2 rfl
  have C2 := C2.upd U8 i62
  have C4 := C4.upd U8 i64
  have C6 := C6.upd U8 i66
  refine step P8 X8 (fun z hz => (T8 z hz).1) (ks := [122]) (c := cd0) (n := 2) (s' := fresh false) (B' := []) (by decide) (by decide) (by decide +kernel) fun b10 w10 kb10 ab10 sk10 sm10 p10 ca10 C10 k10 m10 P10 X10 T10 l10 U10 => ?_
  have n10 : ∀ b, b < w8.heap.size → ¬ PT g kb8 ab8 b → ¬ PT g kb10 ab10 b := fun b hb hn hz => by rcases (T10 b hz).2.1 with h | h; exact hn h; omega
  have i82 := n8 b2 (by omega) i62
  have i84 := n8 b4 (by omega) i64
  have i86 := n8 b6 (by omega) i66
  have i88 : ¬ PT g kb8 ab8 b8 := fun e => (T8 _ e).2.2 rfl
  have C2 := C2.upd U10 i82
  have C4 := C4.upd U10 i84
  have C6 := C6.upd U10 i86
  have C8 := C8.upd U10 i88
  refine step P10 X10 (fun z hz => (T10 z hz).1) (ks := [100, 27]) (c := cd0) (n := 2) (s' := fresh false) (B' := []) (by decide) (by decide) (by decide +kernel) fun b12 w12 kb12 ab12 sk12 sm12 p12 ca12 C12 k12 m12 P12 X12 T12 l12 U12 => ?_
  have C2 := C2.upd U12 (n10 b2 (by omega) i82)
  have C4 := C4.upd U12 (n10 b4 (by omega) i84)
  have C6 := C6.upd U12 (n10 b6 (by omega) i86)
  have C8 := C8.upd U12 (n10 b8 (by omega) i88)
  refine ⟨_, C2.cell 0 rfl, tru rfl ⟨_, C2.cell 2 rfl, tru (by rw [L_eq, k2]; rfl) ⟨_, C2.cell 3 rfl, tru (by rw [L_eq, m2]; rfl) ⟨_, C4.cell 2 rfl, tru (by rw [L_eq, k4]; rfl) ⟨_, C4.cell 3 rfl, tru (by rw [L_eq, m4]; rfl) ⟨_, C6.cell 3 rfl, tru (by rw [L_eq, m6]; rfl)
    ⟨_, C6.cell 2 rfl, tru (by rw [L_eq, k6]; rfl) ⟨_, C8.cell 2 rfl, tru (by rw [L_eq, k8]; rfl) (tru rfl (tru rfl ((pending_does P12).imp ?_)))⟩⟩⟩⟩⟩⟩⟩⟩
  rintro e w97 ⟨x, rfl, hx, rfl⟩
  exact ⟨_, rfl, by rw [L_eq, hx]; rfl, X12⟩
end
end Go.Proofs.Yteggcicicdcnlaa
