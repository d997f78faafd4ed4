/-
  States: what each function of the code does: writing.
-/
import Derived.Test.YtlenmnffdbgkkaaStateOct
import Derived.Test.YtlenmnffdbgkkaaHistCalls
import Derived.Test.YtlenmnffdbgkkaaMkWords
namespace Go.Vc
open Go.RowKit
theorem Own.new {w w' : World} {b : Nat} {cs : List Value} {T : TypeId} (h : NewBlk w b cs T w') (hl : cs.length ≤ maxLen) : Own w' b T 1 (some ⟨b, 0, none⟩) cs.length cs.length cs :=
  ⟨by simp, .inr ⟨b, cs.length, _, rfl, Nat.le_refl _, h.heap, Nat.le_refl _, hl, by simp, by simp⟩⟩
theorem Blk.st3 {w : World} {b : Nat} {vs : List Value} {x0 x1 x2 : Value} (h : Blk w b vs) (hl : vs.length = 3) {G : World → Prop} (k : ∀ w', Blk w' b [x0, x1, x2] → Upd (fun z => z = b) w w' → G w') :
    CanStore w b 0 ∧ ∀ ws, Stored w b 0 x0 ws → CanStore ws b 1 ∧ ∀ ws1, Stored ws b 1 x1 ws1 → CanStore ws1 b 2 ∧ ∀ ws2, Stored ws1 b 2 x2 ws2 → G ws2 := by
  obtain ⟨a, b', c, rfl⟩ : ∃ a b' c, vs = [a, b', c] := by
    match vs, hl with
    | [a, b', c], _ => exact ⟨a, b', c, rfl⟩
  exact h.st (by simp) fun w1 h1 u1 => h1.st (by simp) fun w2 h2 u2 => h2.st (by simp) fun w3 h3 u3 => k w3 h3 (Upd.trans (Upd.trans u1 u2) u3)
end Go.Vc
namespace Go.Proofs.Ytlenmnffdbgkkaa
open Go.RowKit Go.Vc
def blkOf (p : Option Addr) : Option Nat := p.map (·.block)
/-- A writer, the block of its bytes. -/
def Wr (w : World) (wb : Nat) (rb : Option Nat) (out : List Int) : Prop :=
  ∃ p c, Blk w wb [.slice p out.length c] ∧ Own w 0 5 1 p out.length c (out.map (Value.int .u8)) ∧ blkOf p = rb ∧ rb ≠ some wb ∧ ∀ x ∈ out, InK .u8 x
def WT (wb : Nat) (rb : Option Nat) (z : Nat) : Prop := z = wb ∨ rb = some z
def WrR (w : World) (wb : Nat) (rb : Option Nat) (out : List Int) (w' : World) : Prop :=
  ∃ rb', Wr w' wb rb' out ∧ Upd (WT wb rb) w w' ∧ ∀ z, WT wb rb' z → WT wb rb z ∨ w.heap.size ≤ z
section
variable {w : World} {wb : Nat} {rb : Option Nat} {out : List Int}
theorem Wr.upd {T : Nat → Prop} {w' : World} (h : Wr w wb rb out) (u : Upd T w w') (hT : ∀ z, T z → ¬ WT wb rb z) : Wr w' wb rb out := by
  obtain ⟨p, c, h1, h2, h3, h4, h5⟩ := h
  exact ⟨p, c, h1.upd u fun e => hT _ e (.inl rfl), h2.upd u fun a ha e => hT _ e (.inr (by rw [← h3, ha]; rfl)), h3, h4, h5⟩
theorem Wr.ext {w' : World} (h : Wr w wb rb out) (x : Ext w w') : Wr w' wb rb out := h.upd x fun _ e => e.elim
theorem Wr.lt (h : Wr w wb rb out) {z : Nat} (hz : WT wb rb z) : z < w.heap.size := by
  obtain ⟨p, c, h1, h2, h3, h4, h5⟩ := h
  rcases hz with rfl | hz
  · exact h1.lt
  · rw [← h3] at hz
    cases hp : p with
    | none => rw [hp] at hz; cases hz
    | some a => rw [hp] at hz; have hz : a.block = z := Option.some.inj hz; have := (h2.base hp).2; omega
theorem WrR.refl (h : Wr w wb rb out) : WrR w wb rb out w := ⟨rb, h, Upd.refl _ _, fun _ hz => .inl hz⟩
/-- Whatever else changed before. -/
theorem WrR.before {T : Nat → Prop} {w0 w' : World} (u : Upd T w0 w) (hT : ∀ z, z < w0.heap.size → T z → WT wb rb z) (h : WrR w wb rb out w') : WrR w0 wb rb out w' := by
  obtain ⟨rb', h1, h2, h3⟩ := h
  exact ⟨rb', h1, Upd.then (u.mono hT) h2 fun _ _ e => e, fun z hz => (h3 z hz).imp id fun h => Nat.le_trans u.size h⟩
theorem WrR.ext {w' w'' : World} (h : WrR w wb rb out w') (x : Ext w' w'') : WrR w wb rb out w'' := by
  obtain ⟨rb', h1, h2, h3⟩ := h
  exact ⟨rb', h1.ext x, Upd.then h2 x fun _ _ e => e.elim, h3⟩
theorem WrR.next {out' : List Int} {w1 w2 : World} {rb1 : Option Nat} (h2 : Upd (WT wb rb) w w1) (h3 : ∀ z, WT wb rb1 z → WT wb rb z ∨ w.heap.size ≤ z) (k : WrR w1 wb rb1 out' w2) : WrR w wb rb out' w2 := by
  obtain ⟨rb2, k1, k2, k3⟩ := k
  refine ⟨rb2, k1, Upd.then h2 k2 fun z hz e => ?_, fun z hz => ?_⟩
  · rcases h3 z e with h | h
    · exact h
    · omega
  · rcases k3 z hz with h | h
    · exact h3 z h
    · exact .inr (Nat.le_trans h2.size h)
/-- Bytes appended to a writer's. -/
theorem wr_app (h : Wr w wb rb out) {ys : List Int} {ok : Nat → Prop} {p2 : Option Addr} (hy : Ints .u8 w ok p2 ys) {l2 : Nat} (hl : l2 = ys.length) (c2 : Nat) (hs : out.length + ys.length ≤ 1000000000) :
    ∃ (p : Option Addr) (l c : Nat), w.cell? ⟨wb, 0, none⟩ = some (.slice p l c) ∧ ∃ (p' : Option Addr) (l' c' : Nat) (w' : World), (Builtin.append_ #[25, 25] 25 #[.slice p l c, .slice p2 l2 c2]).run Try.prog w = .ok (.slice p' l' c') w' ∧
      CanStore w' wb 0 ∧ ∀ ws, Stored w' wb 0 (.slice p' l' c') ws → WrR w wb rb (out ++ ys) ws := by
  obtain ⟨p, c, h1, h2, h3, h4, h5⟩ := h
  subst hl
  obtain ⟨p', c', w', hr, ho', hu, hat⟩ := append_own slB 25 h2 (l2 := ys.length) (c2 := c2) (news := ys.map (Value.int .u8)) (by simp) hy.src (ints_one _ _) (by simp only [maxLen]; omega) (by omega) (Nat.zero_le _)
  have hp : ∀ a : Addr, p = some a → rb = some a.block := fun a e => by rw [← h3, e]; rfl
  have hnb : ¬ ∃ a, p = some a ∧ a.block = wb := fun ⟨a, e1, e2⟩ => h4 (by rw [hp a e1, e2])
  have hlt := h1.lt
  have hp' : ∀ a : Addr, p' = some a → rb = some a.block ∨ a.block = w.heap.size := fun a e => (hat a e).imp (fun ⟨a2, e1, e2⟩ => by rw [hp a2 e1, e2]) id
  have hpw : ∀ a : Addr, p' = some a → a.block ≠ wb := fun a e e' => by
    rcases hp' a e with h | h
    · exact h4 (by rw [h, e'])
    · have h : a.block = w.heap.size := h
      omega
  refine ⟨p, _, c, h1.cell 0 rfl, p', _, c', w', hr, (h1.upd hu hnb).st (by simp) fun ws Bs us => ?_⟩
  have hlen : (out ++ ys).length = out.length + ys.length := List.length_append
  refine ⟨blkOf p', ⟨p', c', by rw [hlen]; exact Bs, ?_, rfl, ?_, fun x hx => ?_⟩, Upd.then (hu.mono fun z _ ⟨a, e1, e2⟩ => .inr (by rw [hp a e1, e2])) us fun z _ e => .inl e, fun z hz => ?_⟩
  · rw [hlen, List.map_append]
    exact ho'.upd us fun a e e' => hpw a e e'
  · intro e
    cases hq : p' with
    | none => rw [hq] at e; cases e
    | some a => rw [hq] at e; exact hpw a hq (Option.some.inj e)
  · rcases List.mem_append.1 hx with hx | hx
    · exact h5 x hx
    · exact hy.inK x hx
  · rcases hz with hz | hz
    · exact .inl (.inl hz)
    · cases hq : p' with
      | none => rw [hq] at hz; cases hz
      | some a =>
        rw [hq] at hz
        have hz : a.block = z := Option.some.inj hz
        rcases hp' a hq with h | h
        · exact .inl (.inr (by rw [h, hz]))
        · have h : a.block = w.heap.size := h
          exact .inr (by omega)
theorem num_does (h : Wr w wb rb out) {n : Int} (hn : Fits32 n) (hs : out.length + 4 ≤ 1000000000) : Does Try.prog 27 #[.pointer (some ⟨wb, 0, none⟩), .int .i64 n] w fun e w' => e = .returned (.tuple #[]) ∧ WrR w wb rb (out ++ putN n) w' := by
  apply f27_does
  refine ⟨⟨by decide, by decide, by decide, by decide⟩, fun b7 w7 hb7 => ?_⟩
  have hz : Ints .u8 w7 (fun g => g = b7) (some ⟨b7, 0, none⟩) [0, 0, 0, 0] := hb7.ints (k := .u8) [0, 0, 0, 0] rfl (by decide)
  refine (put_does hz hn _).imp ?_
  rintro e w9 ⟨p, c', rfl, hp, x9⟩
  have X9 := hb7.ext.thn x9
  obtain ⟨q, l, c, h1, q', l', c'', w', hr, hk⟩ := wr_app (h.ext X9) hp (l2 := 4) rfl c' hs
  exact ⟨_, _, _, _, rfl, wb, 0, rfl, q, l, c, h1, q', l', c'', w', hr, wb, 0, rfl, hk.1, fun ws hst => ⟨rfl, (hk.2 ws hst).before X9 fun _ _ e => e.elim⟩⟩
theorem text_does (h : Wr w wb rb out) {ys : List Int} {ok : Nat → Prop} {p : Option Addr} (hy : Ints .u8 w ok p ys) (hok : ∀ z, ok z → ¬ WT wb rb z) {l : Nat} (hl : l = ys.length) (c : Nat) (hs : out.length + (4 + ys.length) ≤ 1000000000) :
    Does Try.prog 47 #[.pointer (some ⟨wb, 0, none⟩), .slice p l c] w fun e w' => e = .returned (.tuple #[]) ∧ WrR w wb rb (out ++ (putN ys.length ++ ys)) w' := by
  subst hl
  apply f47_does
  refine (num_does h (n := (ys.length : Int)) ⟨by omega, by omega⟩ (by omega)).imp ?_
  rintro e w7 ⟨rfl, rb1, g1, g2, g3⟩
  obtain ⟨q, l, c1, h1, q', l', c'', w', hr, hk⟩ := wr_app g1 (hy.upd g2 hok) (l2 := ys.length) rfl c (by rw [List.length_append, putN_len]; omega)
  refine ⟨rfl, wb, 0, rfl, q, l, c1, h1, q', l', c'', w', hr, wb, 0, rfl, hk.1, fun ws hst => ⟨rfl, ?_⟩⟩
  have := WrR.next g2 g3 (hk.2 ws hst)
  rwa [List.append_assoc] at this
theorem take_flat {α : Type} (f : α → List Int) {xs : List α} {k : Nat} (h : k < xs.length) : (xs.take (k + 1)).flatMap f = (xs.take k).flatMap f ++ f xs[k] := by
  rw [List.take_succ_eq_append_getElem h, List.flatMap_append]
  simp
theorem flat_take_le {α : Type} (f : α → List Int) (xs : List α) (k : Nat) : ((xs.take k).flatMap f).length ≤ (xs.flatMap f).length := by
  conv => rhs; rw [← List.take_append_drop k xs, List.flatMap_append, List.length_append]
  omega
theorem encE_len (e : E) : (encE e).length = 12 + e.old.length + e.new.length := by unfold encE; simp only [List.length_append, putN_len]; omega
theorem encN_len (n : Nd) : (encN n).length = 12 + (n.es.flatMap encE).length := by unfold encN; simp only [List.length_append, putN_len]
theorem nodew_does (h : Wr w wb rb out) {n : Nd} {p : Option Addr} {ok : Nat → Prop} (he : Edits w ok p n.es) (hok : ∀ z, ok z → z < w.heap.size ∧ ¬ WT wb rb z) (c : Nat) (hf : FitsN n) (hs : out.length + (encN n).length ≤ 1000000000) :
    Does Try.prog 28 #[.pointer (some ⟨wb, 0, none⟩), .agg #[.int .i64 n.par, .slice p n.es.length c, .int .i64 n.cur]] w fun e w' => e = .returned (.tuple #[]) ∧ WrR w wb rb (out ++ encN n) w' := by
  rw [encN_len] at hs
  apply f28_does
  intro b3 w3 hb3
  have e3 := hb3.eq
  have z3 := hb3.size
  have hlt : ∀ {z}, WT wb rb z → z < w.heap.size := fun hz => h.lt hz
  have B3 := hb3.blk
  refine ⟨_, B3.cell 0 rfl, (num_does (h.ext hb3.ext) hf.1 (by omega)).imp ?_⟩
  rintro e w9 ⟨rfl, rb1, g1, g2, g3⟩
  have n3 : ¬ WT wb rb b3 := fun e => by have := hlt e; omega
  have B9 := B3.upd g2 n3
  refine ⟨rfl, _, B9.cell 2 rfl, (num_does g1 hf.2.1 (by rw [List.length_append, putN_len]; omega)).imp ?_⟩
  rintro e w13 ⟨rfl, rb2, k1, k2, k3⟩
  obtain ⟨j1, j2⟩ : Upd (WT wb rb) w3 w13 ∧ ∀ z, WT wb rb2 z → WT wb rb z ∨ w3.heap.size ≤ z := by
    obtain ⟨rb', a1, a2, a3⟩ := WrR.next g2 g3 ⟨rb2, k1, k2, k3⟩
    refine ⟨a2, fun z hz => ?_⟩
    rcases k3 z hz with h | h
    · exact g3 z h
    · exact .inr (Nat.le_trans g2.size h)
  have B13 := B3.upd j1 n3
  refine ⟨rfl, _, _, _, B13.cell 1 rfl, (num_does k1 (n := (n.es.length : Int)) hf.2.2.1 (by simp only [List.length_append, putN_len]; omega)).imp ?_⟩
  rintro e w18 ⟨rfl, rb3, m1, m2, m3⟩
  obtain ⟨i1, i2⟩ : Upd (WT wb rb) w3 w18 ∧ ∀ z, WT wb rb3 z → WT wb rb z ∨ w3.heap.size ≤ z := by
    obtain ⟨rb', a1, a2, a3⟩ := WrR.next j1 j2 ⟨rb3, m1, m2, m3⟩
    refine ⟨a2, fun z hz => ?_⟩
    rcases m3 z hz with h | h
    · exact j2 z h
    · exact .inr (Nat.le_trans j1.size h)
  have B18 := B3.upd i1 n3
  refine ⟨rfl, _, _, _, B18.cell 1 rfl, fun x22 nl wl => ∃ (k : Nat) (rbk : Option Nat), x22 = k ∧ nl = n.es.length - k ∧ k ≤ n.es.length ∧ Wr wl wb rbk (out ++ putN n.par ++ putN n.cur ++ putN n.es.length ++ (n.es.take k).flatMap encE) ∧ Upd (WT wb rb) w3 wl ∧ (∀ z, WT wb rbk z → WT wb rb z ∨ w3.heap.size ≤ z),
    ⟨_, 0, rb3, rfl, rfl, Nat.zero_le _, by simpa using m1, i1, i2⟩, ?_⟩
  rintro _ _ wl ⟨k, rbk, rfl, rfl, hk, hW, hU, hP⟩
  refine brr (fun q => ?_) fun q => ?_
  · have q := of_decide_eq_true q
    have hkl : k < n.es.length := by omega
    have hel : Edits wl ok p n.es := (he.ext hb3.ext).upd hU fun z hz => (hok z hz).2
    obtain ⟨b, o, p1, c1, p2, c2, hp, hbo, a1, a2, a3, hin, h1, a4, h2, a5⟩ := hel.at k hkl
    have hfe := hf.2.2.2 _ (List.getElem_mem hkl)
    have h32 := hf.2.2.1.2
    have htot := flat_take_le encE n.es (k + 1)
    rw [take_flat encE hkl, List.length_append, encE_len] at htot
    refine ⟨⟨by omega, by omega⟩, b, o, hp, _, a1, _, _, _, a2, _, _, _, a3, fun b5 w5 hb5 => hb5.blk.st3 rfl fun w6 B6 u6 => ?_⟩
    have e5 := hb5.eq
    have z5 := hb5.size
    have zl := hU.size
    have z6 := u6.size
    have hlk : ∀ {z}, WT wb rbk z → z < wl.heap.size := fun hz => hW.lt hz
    have X6 : Ext wl w6 := hb5.ext.loc (by omega) u6
    have okl : ∀ z, ok z → ¬ WT wb rbk z := fun z hz e => by
      rcases hP z e with h | h
      · exact (hok z hz).2 h
      · have := (hok z hz).1; omega
    have nb5 : ¬ WT wb rbk b5 := fun e => by have := hlk e; omega
    refine ⟨_, B6.cell 0 rfl, (num_does (hW.ext X6) hfe.1 (by simp only [List.length_append, putN_len]; omega)).imp ?_⟩
    rintro e w29 ⟨rfl, ra, r1, r2, r3⟩
    have C6 := B6.upd r2 nb5
    refine ⟨rfl, _, _, _, C6.cell 1 rfl, (text_does r1 ((a4.ext X6).upd r2 okl) (fun z hz e => ?_) rfl _ (by simp only [List.length_append, putN_len]; omega)).imp ?_⟩
    · rcases r3 z e with h | h
      · exact okl z hz h
      · have := (hok z hz).1; omega
    rintro e w33 ⟨rfl, rc, s1, s2, s3⟩
    have okr : ∀ z, ok z → ¬ WT wb ra z := fun z hz e => by
      rcases r3 z e with h | h
      · exact okl z hz h
      · have := (hok z hz).1; omega
    have nr5 : ¬ WT wb ra b5 := fun e => by
      rcases r3 _ e with h | h
      · exact nb5 h
      · omega
    have D6 := C6.upd s2 nr5
    have oks : ∀ z, ok z → ¬ WT wb rc z := fun z hz e => by
      rcases s3 z e with h | h
      · exact okr z hz h
      · have := (hok z hz).1
        have := r2.size
        omega
    refine ⟨rfl, _, _, _, D6.cell 2 rfl, (text_does s1 (((a5.ext X6).upd r2 okl).upd s2 okr) oks rfl _ (by simp only [List.length_append, putN_len]; omega)).imp ?_⟩
    rintro e w37 ⟨rfl, rd, t1, t2, t3⟩
    obtain ⟨v1, v2⟩ : Upd (WT wb rbk) w6 w37 ∧ ∀ z, WT wb rd z → WT wb rbk z ∨ w6.heap.size ≤ z := by
      refine ⟨Upd.then (Upd.then r2 s2 fun z hz e => ?_) t2 fun z hz e => ?_, fun z hz => ?_⟩
      · rcases r3 z e with h | h
        · exact h
        · omega
      · rcases s3 z e with h | h
        · rcases r3 z h with h | h
          · exact h
          · omega
        · have := r2.size; omega
      · rcases t3 z hz with h | h
        · rcases s3 z h with h | h
          · exact r3 z h
          · exact .inr (Nat.le_trans r2.size h)
        · exact .inr (Nat.le_trans (Nat.le_trans r2.size s2.size) h)
    refine ⟨rfl, inI64 (by omega) (by omega), _, ?_, k + 1, rd, by omega, rfl, hkl, ?_, ?_, fun z hz => ?_⟩
    · omega
    · rw [take_flat encE hkl, show encE n.es[k] = putN n.es[k].at_ ++ (putN n.es[k].old.length ++ n.es[k].old) ++ (putN n.es[k].new.length ++ n.es[k].new) from rfl]
      simpa only [List.append_assoc] using t1
    · refine Upd.then (Upd.then hU X6 fun _ _ e => e.elim) v1 fun z hz e => ?_
      rcases hP z e with h | h
      · exact h
      · omega
    · rcases v2 z hz with h | h
      · exact hP z h
      · exact .inr (by omega)
  · have q := of_decide_eq_false q
    obtain rfl : k = n.es.length := by omega
    rw [List.take_length] at hW
    refine ⟨rfl, WrR.before hb3.ext (fun _ _ e => e.elim) ⟨rbk, ?_, hU, hP⟩⟩
    unfold encN
    simpa only [List.append_assoc] using hW
theorem marked_does {ok : Nat → Prop} {p : Option Addr} {ms : List (Int × Int)} (hm : Mks w ok p ms) {l : Nat} (hl : l = ms.length) (c : Nat) (hs : ms.length ≤ 1000000000) :
    Does Try.prog 25 #[.slice p l c] w fun e w' => e = .returned (.bool (decide (marksOk 96 ms))) ∧ Ext w w' := by
  subst hl
  apply f25_does
  refine ⟨fun x3 x8 nl wl => ∃ k : Nat, x8 = k ∧ nl = ms.length - k ∧ k ≤ ms.length ∧ (marksOk x3 (ms.drop k) ↔ marksOk 96 ms) ∧ Ext w wl, ⟨_, 0, rfl, rfl, Nat.zero_le _, Iff.rfl, Upd.refl _ _⟩, ?_⟩
  rintro x _ _ wl ⟨k, rfl, rfl, hk, he, X⟩
  refine brr (fun q => ?_) fun q => ?_
  · have q := of_decide_eq_true q
    have hkl : k < ms.length := by omega
    obtain ⟨b, o, hp, hb, h1, h2, h3, h4⟩ := (hm.ext X).at k hkl
    rw [List.drop_eq_getElem_cons hkl] at he
    have no : ∀ {w'}, Ext wl w' → ¬ marksOk x (ms[k] :: ms.drop (k + 1)) → Ending.returned (.bool false) = .returned (.bool (decide (marksOk 96 ms))) ∧ Ext w w' := fun x' h => ⟨by rw [decide_eq_false fun k => h (he.2 k)], X.thn x'⟩
    refine ⟨⟨by omega, by omega⟩, b, o, hp, _, h1, _, h2, fun b5 w5 hb5 => hb5.blk.st2 rfl fun w6 B6 u6 => ?_⟩
    have e5 := hb5.eq
    have X6 : Ext wl w6 := hb5.ext.loc (by omega) u6
    refine ⟨_, B6.cell 0 rfl, brr (fun q1 => no X6 fun h => ?_) fun q1 => ⟨_, B6.cell 0 rfl, brr (fun q2 => no X6 fun h => ?_) fun q2 => ⟨_, B6.cell 1 rfl, (place_does _).imp ?_⟩⟩⟩
    · have q1 := of_decide_eq_true q1
      have := h.1
      omega
    · have q2 := of_decide_eq_true q2
      have := h.2.1
      omega
    · rintro e w24 ⟨rfl, rfl⟩
      have q1 := of_decide_eq_false q1
      have q2 := of_decide_eq_false q2
      refine ⟨_, rfl, brr (fun q3 => no X6 fun h => not_dec q3 h.2.2.1) fun q3 => ⟨_, B6.cell 0 rfl, inI64 (by omega) (by omega), _, ?_, k + 1, by omega, rfl, hkl, ?_, X.thn X6⟩⟩
      · omega
      · rw [← he]
        exact ⟨fun h => ⟨by omega, by omega, yes_dec q3, h⟩, fun h => h.2.2.2⟩
  · have q := of_decide_eq_false q
    obtain rfl : k = ms.length := by omega
    rw [List.drop_length] at he
    exact ⟨by rw [decide_eq_true (he.1 trivial)], X⟩
theorem placed_does {ok : Nat → Prop} {n : Nd} {p : Option Addr} (he : Edits w ok p n.es) (c : Nat) (hs : n.es.length ≤ 1000000000) :
    Does Try.prog 26 #[.agg #[.int .i64 n.par, .slice p n.es.length c, .int .i64 n.cur]] w fun e w' => e = .returned (.bool (decide (nodeOk n))) ∧ Ext w w' := by
  apply f26_does
  intro b1 w1 hb1
  have e1 := hb1.eq
  refine ⟨_, _, _, hb1.blk.cell 1 rfl, fun x8 nl wl => ∃ k : Nat, x8 = k ∧ nl = n.es.length - k ∧ k ≤ n.es.length ∧ (∀ e ∈ n.es.take k, placeOk e.at_) ∧ Ext w1 wl, ⟨_, 0, rfl, rfl, Nat.zero_le _, by simp, Upd.refl _ _⟩, ?_⟩
  rintro _ _ wl ⟨k, rfl, rfl, hk, hall, X⟩
  have X1 := hb1.ext.thn X
  refine brr (fun q => ?_) fun q => ?_
  · have q := of_decide_eq_true q
    have hkl : k < n.es.length := by omega
    obtain ⟨b, o, p1, c1, p2, c2, hp, hbo, a1, a2, a3, hin, h1, a4, h2, a5⟩ := (he.ext X1).at k hkl
    refine ⟨⟨by omega, by omega⟩, b, o, hp, _, a1, _, _, _, a2, _, _, _, a3, fun b5 w5 hb5 => hb5.blk.st3 rfl fun w6 B6 u6 => ?_⟩
    have e5 := hb5.eq
    have X6 : Ext wl w6 := hb5.ext.loc (by omega) u6
    refine ⟨_, B6.cell 0 rfl, (place_does _).imp ?_⟩
    rintro e w14 ⟨rfl, rfl⟩
    refine ⟨_, rfl, brr (fun q1 => ⟨?_, X1.thn X6⟩) fun q1 => ⟨inI64 (by omega) (by omega), _, ?_, k + 1, by omega, rfl, hkl, ?_, X.thn X6⟩⟩
    · rw [decide_eq_false fun h => not_dec q1 (h.1 _ (List.getElem_mem hkl))]
    · omega
    · rw [List.take_succ_eq_append_getElem hkl]
      intro e hm
      rcases List.mem_append.1 hm with hm | hm
      · exact hall e hm
      · rw [List.mem_singleton.1 hm]; exact yes_dec q1
  · have q := of_decide_eq_false q
    obtain rfl : k = n.es.length := by omega
    rw [List.take_length] at hall
    refine ⟨_, (hb1.blk.ext X).cell 2 rfl, (place_does _).imp ?_⟩
    rintro e w19 ⟨rfl, rfl⟩
    exact ⟨_, rfl, by rw [decide_eq_decide.2 (show placeOk n.cur ↔ nodeOk n from ⟨fun h => ⟨hall, h⟩, fun h => h.2⟩)], X1⟩
end
end Go.Proofs.Ytlenmnffdbgkkaa
