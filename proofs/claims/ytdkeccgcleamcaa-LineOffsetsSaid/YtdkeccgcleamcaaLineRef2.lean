/-
  Command lines: what each function of the reference does: whole lines; commands compared.
-/
import Derived.Test.YtdkeccgcleamcaaLineRef
import Derived.Test.YtdkeccgcleamcaaLineCalls4
namespace Go.Vc
open Go.RowKit
def cellsC (p : Option Addr) (l c : Nat) (s1 : ByteArray) (bg : Bool) (s2 : ByteArray) : List Value := [.slice p l c, .string s1, .bool bg, .string s2]
theorem retC {w0 ws : World} {b2 : Nat} {vs : List Value} {p : Option Addr} {l c : Nat} {s1 s2 : ByteArray} {bg : Bool} (h2 : Blk ws b2 vs) (hl : vs.length = 4) (x : Ext w0 ws) (hb : w0.heap.size ≤ b2)
    {G : Option Addr → Nat → Nat → ByteArray → Bool → ByteArray → World → Prop} (hG : ∀ w', Ext w0 w' → Upd (fun z => z = b2) ws w' → G p l c s1 bg s2 w') :
    CanStore ws b2 0 ∧ ∀ w1, Stored ws b2 0 (.slice p l c) w1 → CanStore w1 b2 1 ∧ ∀ w2, Stored w1 b2 1 (.string s1) w2 → CanStore w2 b2 2 ∧ ∀ w3, Stored w2 b2 2 (.bool bg) w3 → CanStore w3 b2 3 ∧ ∀ w4, Stored w3 b2 3 (.string s2) w4 →
      ∃ (p' : Option Addr) (l' c' : Nat), w4.cell? ⟨b2, 0, none⟩ = some (.slice p' l' c') ∧ ∃ s1' : ByteArray, w4.cell? ⟨b2, 1, none⟩ = some (.string s1') ∧ ∃ bg' : Bool, w4.cell? ⟨b2, 2, none⟩ = some (.bool bg') ∧ ∃ s2' : ByteArray, w4.cell? ⟨b2, 3, none⟩ = some (.string s2') ∧ G p' l' c' s1' bg' s2' w4 :=
  h2.st4 hl fun w' B u => ⟨_, _, _, B.cell 0 rfl, _, B.cell 1 rfl, _, B.cell 2 rfl, _, B.cell 3 rfl, hG _ (x.loc hb u) u⟩
/-- The frame of a command that is being read: the result's block, its own block, what it has made behind base. -/
structure CmF (w wl : World) (b2 b4 base : Nat) : Prop where
  ext : Ext w wl
  res : ∃ vs, Blk wl b2 vs ∧ vs.length = 4
  le : base ≤ wl.heap.size
  h2 : w.heap.size ≤ b2
  h4 : b2 < b4
  hb : b4 < base
theorem CmF.upd {T : Nat → Prop} {w wl w' : World} {b2 b4 base : Nat} (h : CmF w wl b2 b4 base) (u : Upd T wl w') (hT : ∀ g, g < wl.heap.size → T g → g = b4 ∨ base ≤ g) : CmF w w' b2 b4 base := by
  obtain ⟨vs, B2, hl⟩ := h.res
  have h4 := h.h4
  have hb := h.hb
  have h2 := h.h2
  exact ⟨Upd.then h.ext u fun g hg e => by have := h.ext.size; have := hT g (by omega) e; omega, ⟨vs, B2.upd u fun e => by have := hT b2 B2.lt e; omega, hl⟩, Nat.le_trans h.le u.size, h2, h4, hb⟩
theorem CmF.grow {w wl w' : World} {b2 b4 base : Nat} (h : CmF w wl b2 b4 base) (x : Ext wl w') : CmF w w' b2 b4 base := h.upd x fun _ _ e => e.elim
theorem CmF.set {w wl w' : World} {b2 b4 base : Nat} (h : CmF w wl b2 b4 base) (u : Upd (fun z => z = b4) wl w') : CmF w w' b2 b4 base := h.upd u fun _ _ e => .inl e
/-- The command's own block. -/
structure CmB (N : TypeId) (wl : World) (b4 base : Nat) (p : Option Addr) (c : Nat) (s1 s2 : ByteArray) (al : List A) (bang : Bool) : Prop where
  blk : Blk wl b4 [.slice p al.length c, .string s1, .bool bang, .string s2]
  row : OwnL AddrV wl base N 4 p al.length c al
theorem CmB.ext {N : TypeId} {wl w' : World} {b4 base : Nat} {p : Option Addr} {c : Nat} {s1 s2 : ByteArray} {al : List A} {bang : Bool} (h : CmB N wl b4 base p c s1 s2 al bang) (x : Ext wl w') : CmB N w' b4 base p c s1 s2 al bang :=
  ⟨h.blk.ext x, h.row.ext AddrV.stable AddrV.widens x⟩
/-- A store into the block that leaves the row. -/
theorem CmB.set {N : TypeId} {wl w' : World} {b4 base : Nat} {p : Option Addr} {c : Nat} {s1 s2 : ByteArray} {al : List A} {bang : Bool} (h : CmB N wl b4 base p c s1 s2 al bang) (hb : b4 < base) (u : Upd (fun z => z = b4) wl w')
    {s1' s2' : ByteArray} {bang' : Bool} (B : Blk w' b4 [.slice p al.length c, .string s1', .bool bang', .string s2']) : CmB N w' b4 base p c s1' s2' al bang' :=
  ⟨B, h.row.upd AddrV.stable AddrV.widens u fun g hg _ e => by omega⟩
theorem unb_drop {xs : List Int} {k : Nat} {t : List Int} (h : xs.drop k = unb' t) : (unb' t).length ≤ xs.length := by rw [← h, List.length_drop]; omega
theorem tk_drop {c x : Int} {t : List Int} : tk c (x :: t) = (x == c) := rfl
end Go.Vc
namespace Go.Proofs.Ytdkeccgcleamcaa
open Go.RowKit Go.Vc
theorem slAR : SlT Try.prog 29 64 4 32 := ⟨Try.underlying29, _, _, rfl, rfl, rfl, rfl, rfl, by decide⟩
/-- What Parse tells, whatever the address's type. -/
def TellsT (T : TypeId) (w : World) (cm : Cm) (n : Int) (e : Ending) (w' : World) : Prop :=
  ∃ p c s1 s2, e = .returned (.tuple #[.agg #[.slice p cm.al.length c, .string s1, .bool cm.bang, .string s2], .int .i64 n]) ∧ L s1 = cm.name ∧ L s2 = cm.arg ∧ OwnL AddrV w' w.heap.size T 4 p cm.al.length c cm.al ∧ Ext w w'
section
variable {w : World} {s : ByteArray} {xs : List Int}
theorem small_loop (hs : L s = xs) (hl : xs.length ≤ 4096) {k1 : Nat} (hk : k1 ≤ xs.length) {wS : World} {J : Int → Nat → World → Prop}
    (hJ : ∀ k : Nat, k1 ≤ k → k ≤ xs.length → whileF smallB (xs.drop k1).length (xs.drop k1) = (xs.drop k1).take (k - k1) → ∃ nc, J k nc wS) :
    ∃ I : Int → Nat → World → Prop, (∃ nl, I k1 nl wS) ∧ ∀ x : Int, ∀ (nl : Nat) (wl : World), I x nl wl →
      Br (decide (x < ((s.size : Int)))) (((0 : Int) ≤ x ∧ x < (s.size : Int)) ∧ Does Try.prog 26 #[.int .u8 (sb s x)] wl fun e w' => ∃ b : Bool, e = .returned (.bool b) ∧ Br b (InK .i64 (x + 1) ∧ ∃ ml, ml < nl ∧ I (x + 1) ml w') (∃ nc, J x nc w')) (∃ nc, J x nc wl) := by
  have hsz := L_len s
  rw [hs] at hsz
  refine ⟨fun x nl wl => ∃ j : Nat, x = j ∧ nl = xs.length - j ∧ k1 ≤ j ∧ j ≤ xs.length ∧ (∀ (i : Nat) (h : i < (xs.drop k1).length), i < j - k1 → smallB (xs.drop k1)[i] = true) ∧ wl = wS, ⟨_, k1, rfl, rfl, Nat.le_refl _, hk, fun i _ h => by omega, rfl⟩, ?_⟩
  rintro _ _ wl ⟨j, rfl, rfl, hkj, hjl, hall, rfl⟩
  have hld : (xs.drop k1).length = xs.length - k1 := List.length_drop
  refine brr (fun q => ?_) fun q => ?_
  · have q := of_decide_eq_true q
    have hlt : j < xs.length := by omega
    have hx : (xs.drop k1)[j - k1]'(by omega) = sb s j := by
      have h1 : sb s (j : Int) = xs[j] := by
        subst hs
        exact L_sb hlt
      rw [h1, List.getElem_drop]
      congr 1
      omega
    refine ⟨⟨by omega, by omega⟩, (rsmall_does _).imp ?_⟩
    rintro e w' ⟨rfl, rfl⟩
    refine ⟨_, rfl, brr (fun q1 => ⟨inI64 (by omega) (by omega), _, ?_, j + 1, by omega, rfl, by omega, hlt, fun i hi hij => ?_, rfl⟩) fun q1 => hJ j hkj hjl ?_⟩
    · omega
    · rcases Nat.lt_or_ge i (j - k1) with h' | h'
      · exact hall i hi h'
      · obtain rfl : i = j - k1 := by omega
        rw [hx]; exact q1
    · exact span_eq (by omega) (by omega) hall (.inr (.inr ⟨by omega, by rw [hx]; exact q1⟩))
  · have q := of_decide_eq_false q
    exact hJ j hkj hjl (span_eq (by omega) (by omega) hall (.inr (.inl (by omega))))
/-- An address is appended to the command. -/
theorem cm_append {wl : World} {b2 b4 b7 base : Nat} {p : Option Addr} {c : Nat} {s1 s2 : ByteArray} {al : List A} {bang : Bool} (F : CmF w wl b2 b4 base) (C : CmB 64 wl b4 base p c s1 s2 al bang) {a : A} (B7 : Blk wl b7 (cellsA a)) (hok : okA a) (hof : InK .i64 a.off) (h7 : base ≤ b7) (hal : al.length ≤ 10)
    (p7 : ∀ z, p = some z → z.block ≠ b7) {G : World → Prop}
    (k : ∀ ws p' c', CmF w ws b2 b4 base → CmB 64 ws b4 base p' c' s1 s2 (al ++ [a]) bang → Blk ws b7 (cellsA a) → (∀ z, p' = some z → z.block ≠ b7) → G ws) :
    ∃ (p48 : Option Addr) (l48 c48 : Nat), wl.cell? ⟨b4, 0, none⟩ = some (.slice p48 l48 c48) ∧ ∃ n49 : Int, wl.cell? ⟨b7, 0, none⟩ = some (.int .u8 n49) ∧ ∃ n49_1 : Int, wl.cell? ⟨b7, 1, none⟩ = some (.int .i64 n49_1) ∧ ∃ n49_2 : Int, wl.cell? ⟨b7, 2, none⟩ = some (.int .i64 n49_2) ∧ ∃ n49_3 : Int, wl.cell? ⟨b7, 3, none⟩ = some (.int .u8 n49_3) ∧
      ∀ b50 w50, NewBlk wl b50 [.int .u8 n49, .int .i64 n49_1, .int .i64 n49_2, .int .u8 n49_3] 64 w50 →
      ∃ (p51 : Option Addr) (l51 c51 : Nat) (w51 : World), (Builtin.append_ #[29, 29] 29 #[.slice p48 l48 c48, .slice (some ⟨b50, 0, none⟩) 1 1]).run Try.prog w50 = .ok (.slice p51 l51 c51) w51 ∧
      CanStore w51 b4 0 ∧ ∀ ws_17, Stored w51 b4 0 (.slice p51 l51 c51) ws_17 → G ws_17 := by
  obtain ⟨ok1, ok2, ok3, ok4⟩ := hok
  refine ⟨_, _, _, C.blk.cell 0 rfl, _, B7.cell 0 rfl, _, B7.cell 1 rfl, _, B7.cell 2 rfl, _, B7.cell 3 rfl, fun b50 w50 hb50 => ?_⟩
  have F50 := F.grow hb50.ext
  have C50 := C.ext hb50.ext
  have hlt7 := B7.lt
  obtain ⟨p', c', w51, hrun, ho', hu, hat⟩ := OwnL.append AddrV.stable AddrV.widens slAR 29 C50.row (b := b50) (vs := cellsA a) rfl (fun j u hj => hb50.cell j hj) (by simp [cellsA, Value.oneCell']) (x := a) ⟨rfl, ok1, (inI64 (by omega) (by omega) : InK .i64 a.n), hof, ok4⟩ (by simp only [maxLen]; omega) (by omega) F50.le
  have hup : ∀ g, (∃ z, p = some z ∧ z.block = g) → base ≤ g := fun g ⟨z, hz, e⟩ => by have := (C50.row.base hz).1; omega
  have F51 := F50.upd hu fun g _ e => .inr (hup g e)
  have hb := F.hb
  have B51 := C50.blk.upd hu fun e => by have := hup _ e; omega
  have B7' := (B7.ext hb50.ext).upd hu fun ⟨z, hz, e⟩ => p7 z hz e
  have hlen : (al ++ [a]).length = al.length + 1 := by simp
  refine ⟨p', _, c', w51, hrun, B51.st (by simp) fun ws B u => k ws p' c' (F51.set u) ⟨by rw [hlen]; exact B, ?_⟩ (B7'.upd u (by omega)) fun z hz e => ?_⟩
  · rw [hlen]
    exact ho'.upd AddrV.stable AddrV.widens u fun g hg _ e => by omega
  · rcases hat z hz with ⟨y, hy, e'⟩ | e'
    · exact p7 y hy (e'.trans e)
    · have := hb50.ext.size; omega
theorem rparse_does (hs : L s = xs) : Does Try.prog 11 #[.string s] w (TellsT 64 w (parseC xs) (parseN xs)) := by
  have hsz := L_len s
  rw [hs] at hsz
  apply f11_does
  intro b2 w2 hb2
  have e2 := hb2.eq
  have s2 := hb2.size
  refine brr (fun q => ?_) fun q b4 w4 hb4 => ?_
  · have q := of_decide_eq_true q
    have hC : parseC xs = cm0 := by unfold parseC; rw [if_pos (by omega)]
    have hN : parseN xs = 3 := by unfold parseN; rw [if_pos (by omega)]
    rw [hC, hN]
    exact retC hb2.blk rfl hb2.ext (by omega) fun w' x' u' => ⟨none, 0, _, _, rfl, L_nil, L_nil, OwnL.nil _ _ _ _, x'⟩
  have q := of_decide_eq_false q
  have hl : xs.length ≤ 4096 := by omega
  have e4 := hb4.eq
  have s4 := hb4.size
  have hC : parseC xs = (allF xs).getD cm0 := by unfold parseC; rw [if_neg (by omega)]
  have hN : parseN xs = if (allF xs).isSome = true then 0 else 11 := by unfold parseN; rw [if_neg (by omega)]
  rw [hC, hN, ← all_eq]
  clear hC hN
  refine hb4.blk.st4 rfl fun w5 B4 u5 => ?_
  have F0 : CmF w w5 b2 b4 w4.heap.size :=
    ⟨(Ext.thn hb2.ext hb4.ext).loc (by omega) u5, ⟨_, (hb2.blk.ext hb4.ext).upd u5 (by omega), rfl⟩, by have := u5.size; omega, by omega, by omega, by omega⟩
  have C0 : CmB 64 w5 b4 w4.heap.size none 0 { data := #[] } { data := #[] } [] false := ⟨B4, OwnL.nil _ _ _ _⟩
  -- where it is bad
  have bad : allG xs = none →
      ∀ w', Ext w w' → TellsT 64 w ((allG xs).getD cm0) (if (allG xs).isSome = true then 0 else 11) (.returned (.tuple #[.agg #[.slice none 0 0, .string { data := #[] }, .bool false, .string { data := #[] }], .int .i64 11])) w' := by
    intro h w' x'
    rw [h]
    exact ⟨none, 0, _, _, rfl, L_nil, L_nil, OwnL.nil _ _ _ _, x'⟩
  refine (rblanks_does hs (i := 0) (Nat.zero_le _) (by omega)).imp ?_
  rintro e w17 ⟨⟨k0, rfl, _, hk0, hd0⟩, rfl⟩
  rw [List.drop_zero] at hd0
  have hk : ∀ x ∈ xs, InK .u8 x := by rw [← hs]; exact L_inK s
  refine ⟨_, rfl, fun x _ wc => ∃ al, ∃ k : Nat, ∃ p c, x = k ∧ k ≤ xs.length ∧ reachG (unb' xs) = some (al, xs.drop k) ∧ CmF w wc b2 b4 w4.heap.size ∧ CmB 64 wc b4 w4.heap.size p c { data := #[] } { data := #[] } al false, ?_, ?_⟩
  · refine br_and' (fun q => ?_) (fun q q1 => ?_) fun q1 => ?_
    · have q := of_decide_eq_true q
      exact ⟨by omega, by omega⟩
    · have q := of_decide_eq_true q
      have hlt : k0 < xs.length := by omega
      have hdk := drop_at hs hlt
      have q1 : sb s k0 = 37 := by simpa using q1
      intro b30 w30 hb30
      have F1 := F0.grow hb30.ext
      have C1 := C0.ext hb30.ext
      have e30 := hb30.eq
      have hbs := F0.le
      have hb := F0.hb
      refine C1.blk.st (by simp) fun w31 B' u31 => ⟨inI64 (by omega) (by omega), 0, [a1, aEnd], k0 + 1, some ⟨b30, 0, none⟩, 2, by omega, hlt, ?_, F1.set u31, B', ?_⟩
      · rw [← hd0, hdk]
        unfold reachG
        rw [if_pos (by rw [tk_drop, q1]; rfl)]
        rfl
      · exact OwnL.upd AddrV.stable AddrV.widens (w := w30) ⟨[[.int .u8 110, .int .i64 1, .int .i64 0, .int .u8 0], [.int .u8 36, .int .i64 0, .int .i64 0, .int .u8 0]], ⟨rfl, .inr ⟨b30, 2, _, rfl, by omega, hb30.heap, by decide, by decide, rfl, rfl⟩⟩, .cons ⟨rfl, rfl, by decide, by decide, by decide, by decide⟩ (.cons ⟨rfl, rfl, by decide, by decide, by decide, by decide⟩ .nil)⟩ u31 fun g hg _ e => by omega
    · have h37 : ¬ tk 37 (xs.drop k0) = true := by
        rcases Nat.lt_or_ge k0 xs.length with hlt | hge
        · rw [drop_at hs hlt, tk_drop]
          rw [decide_eq_true (by omega : (k0 : Int) < s.size), Bool.true_and] at q1
          rw [q1]; decide
        · rw [List.drop_eq_nil_of_le hge]; decide
      have unf : reachG (unb' xs) = match addrG (unb' xs) with
          | none => none
          | some none => some ([], unb' xs)
          | some (some (a, r)) => if tk 44 r = true then (match addrG r.tail with | some (some (a2, r2)) => some ([a, a2], r2) | _ => none) else some ([a], r) := by
        rw [← hd0]
        unfold reachG
        rw [if_neg h37]
        rfl
      refine (raddress_does hs hk0 hl).imp ?_
      rintro e w37 ⟨x37, hr⟩
      have F37 := F0.grow x37
      have C37 := C0.ext x37
      have hbs := F37.le
      have h2 := F37.h2
      have h4 := F37.h4
      have hb := F37.hb
      rw [hd0] at hr
      cases ha : addrG (unb' xs) with
      | none =>
        rw [ha] at hr unf
        obtain ⟨a, k, rfl⟩ := hr
        refine ⟨_, _, _, _, _, _, rfl, fun b7 w7 hb7 => hb7.blk.st4 rfl fun w8 B7 u8 => tru rfl ?_⟩
        have e7 := hb7.eq
        have F8 := F37.grow (hb7.ext.loc (by omega) u8)
        obtain ⟨vs, B2, hl2⟩ := F8.res
        exact retC B2 hl2 F8.ext h2 fun w' x' u' => bad (by unfold allG; rw [unf]) w' x'
      | some o =>
        cases o with
        | none =>
          rw [ha] at hr unf
          obtain ⟨a, k, rfl⟩ := hr
          refine ⟨_, _, _, _, _, _, rfl, fun b7 w7 hb7 => hb7.blk.st4 rfl fun w8 B7 u8 => ?_⟩
          have e7 := hb7.eq
          have hx : Ext w37 w8 := hb7.ext.loc (by omega) u8
          exact fls rfl (fls rfl ⟨0, [], k0, none, 0, rfl, hk0, by rw [unf, ← hd0], F37.grow hx, C37.ext hx⟩)
        | some ar =>
          obtain ⟨a, r⟩ := ar
          rw [ha] at hr unf
          obtain ⟨k, rfl, hk0k, hkl, rfl, hok, hof⟩ := hr
          refine ⟨_, _, _, _, _, _, rfl, fun b7 w7 hb7 => hb7.blk.st4 rfl fun w8 B7 u8 => fls rfl (tru rfl ?_)⟩
          have e7 := hb7.eq
          have hx : Ext w37 w8 := hb7.ext.loc (by omega) u8
          refine cm_append (F37.grow hx) (C37.ext hx) B7 hok hof (by omega) (by decide) (fun z hz => by cases hz) fun ws p' c' Fs Cs B7s p7s => ?_
          refine br_and' (fun q => ?_) (fun q q1 => ?_) fun q1 => ?_
          · have q := of_decide_eq_true q
            exact ⟨by omega, by omega⟩
          · have q := of_decide_eq_true q
            have hlt : k < xs.length := by omega
            have hdk := drop_at hs hlt
            have q1 : sb s k = 44 := by simpa using q1
            have e1 : ((k : Int) + 1) = ((k + 1 : Nat) : Int) := by omega
            rw [e1]
            have htk : tk 44 (xs.drop k) = true := by rw [hdk, tk_drop, q1]; rfl
            have htl : (xs.drop k).tail = xs.drop (k + 1) := by rw [hdk]; rfl
            simp only [htk, if_true, htl] at unf
            refine ⟨inI64 (by omega) (by omega), (raddress_does hs (i := k + 1) hlt hl).imp ?_⟩
            rintro e w68 ⟨x68, hr⟩
            have F68 := Fs.grow x68
            have C68 := Cs.ext x68
            have B768 := B7s.ext x68
            have nob : ∀ {a2 : A} {how k2 : Int}, e = .returned (.tuple #[aggA a2, .int .i64 k2, .int .i64 how]) → how ≠ 1 → reachG (unb' xs) = none → ∃ n68 : Int, ∃ n68_1 : Int, ∃ n68_2 : Int, ∃ n68_3 : Int, ∃ n68_4 : Int, ∃ n68_5 : Int, e = .returned (.tuple #[.agg #[.int .u8 n68, .int .i64 n68_1, .int .i64 n68_2, .int .u8 n68_3], .int .i64 n68_4, .int .i64 n68_5]) ∧ n68_5 = how := fun h _ _ => ⟨_, _, _, _, _, _, h, rfl⟩
            clear nob
            cases ha2 : addrG (xs.drop (k + 1)) with
            | none =>
              rw [ha2] at hr unf
              obtain ⟨a2, k2, rfl⟩ := hr
              refine ⟨_, _, _, _, _, _, rfl, B768.st4 rfl fun w8' B7' u8' => tru rfl ?_⟩
              have F8 := F68.upd u8' fun g _ e => .inr (by omega)
              obtain ⟨vs, B2, hl2⟩ := F8.res
              exact retC B2 hl2 F8.ext h2 fun w' x' u' => bad (by unfold allG; rw [unf]) w' x'
            | some o2 =>
              cases o2 with
              | none =>
                rw [ha2] at hr unf
                obtain ⟨a2, k2, rfl⟩ := hr
                refine ⟨_, _, _, _, _, _, rfl, B768.st4 rfl fun w8' B7' u8' => tru rfl ?_⟩
                have F8 := F68.upd u8' fun g _ e => .inr (by omega)
                obtain ⟨vs, B2, hl2⟩ := F8.res
                exact retC B2 hl2 F8.ext h2 fun w' x' u' => bad (by unfold allG; rw [unf]) w' x'
              | some ar2 =>
                obtain ⟨a2, r2⟩ := ar2
                rw [ha2] at hr unf
                obtain ⟨k2, rfl, hkk2, hk2l, rfl, hok2, hof2⟩ := hr
                refine ⟨_, _, _, _, _, _, rfl, B768.st4 rfl fun w8' B7' u8' => fls rfl ?_⟩
                have F8 := F68.upd u8' fun g _ e => .inr (by omega)
                have C8 : CmB 64 w8' b4 w4.heap.size p' c' _ _ _ _ := ⟨C68.blk.upd u8' (by omega), by
                  obtain ⟨vss, ho, hall⟩ := C68.row
                  exact ⟨vss, ho.upd u8' fun z hz e => p7s z hz e, hall.imp fun _ _ h => h⟩⟩
                exact cm_append F8 C8 B7' hok2 hof2 (by omega) (by simp) p7s fun ws' p'' c'' Fs' Cs' _ _ => ⟨0, _, k2, p'', c'', rfl, hk2l, unf, Fs', Cs'⟩
          · have htk : ¬ tk 44 (xs.drop k) = true := by
              rcases Nat.lt_or_ge k xs.length with hlt | hge
              · rw [drop_at hs hlt, tk_drop]
                rw [decide_eq_true (by omega : (k : Int) < s.size), Bool.true_and] at q1
                rw [q1]; decide
              · rw [List.drop_eq_nil_of_le hge]; decide
            simp only [if_neg htk] at unf
            exact ⟨0, _, k, p', c', rfl, hkl, unf, Fs, Cs⟩
  · rintro _ _ wc ⟨al, k, p, c, rfl, hkl, hre, F1, C1⟩
    have h2 := F1.h2
    have h4 := F1.h4
    have hb := F1.hb
    refine (rblanks_does hs hkl (by omega)).imp ?_
    rintro e w85 ⟨⟨k1, rfl, hkk1, hk1, hd1⟩, rfl⟩
    refine ⟨_, rfl, fun x _ wc' => ∃ k2 : Nat, x = k2 ∧ k1 ≤ k2 ∧ k2 ≤ xs.length ∧ nameF (xs.drop k1) = ((xs.drop k1).take (k2 - k1), xs.drop k2) ∧ wc' = w85, ?_, ?_⟩
    · have fin : ¬ tk 61 (xs.drop k1) = true → ¬ tk 62 (xs.drop k1) = true → ¬ tk 60 (xs.drop k1) = true → ∀ k2 : Nat, k1 ≤ k2 → k2 ≤ xs.length → whileF smallB (xs.drop k1).length (xs.drop k1) = (xs.drop k1).take (k2 - k1) → ∃ nc : Nat, ∃ k2' : Nat, (k2 : Int) = k2' ∧ k1 ≤ k2' ∧ k2' ≤ xs.length ∧ nameF (xs.drop k1) = ((xs.drop k1).take (k2' - k1), xs.drop k2') ∧ w85 = w85 := by
        intro n1 n2 n3 k2 g1 g2 g3
        refine ⟨0, k2, rfl, g1, g2, ?_, rfl⟩
        unfold nameF
        rw [if_neg n1, if_neg n2, if_neg n3, g3]
        congr 1
        rw [List.length_take, List.length_drop, List.drop_drop]
        congr 1
        omega
      refine brr (fun q => ?_) fun q => ?_
      · have q := of_decide_eq_true q
        have hlt : k1 < xs.length := by omega
        have hdk := drop_at hs hlt
        refine ⟨⟨by omega, by omega⟩, (rhas_does (by decide) _).imp ?_⟩
        rintro e w95 ⟨rfl, rfl⟩
        refine ⟨_, rfl, brr (fun q1 => ?_) fun q1 => ?_⟩
        · have q1 : sb s k1 ∈ [(61 : Int), 62, 60] := of_decide_eq_true q1
          refine ⟨inI64 (by omega) (by omega), 0, k1 + 1, by omega, by omega, hlt, ?_, rfl⟩
          rw [show k1 + 1 - k1 = 1 by omega, hdk]
          unfold nameF
          simp only [tk_drop, List.tail_cons]
          simp only [List.mem_cons, List.not_mem_nil, or_false] at q1
          rcases q1 with q1 | q1 | q1 <;> rw [q1] <;> rfl
        · have q1 : ¬ sb s k1 ∈ [(61 : Int), 62, 60] := of_decide_eq_false q1
          simp only [List.mem_cons, List.not_mem_nil, or_false, not_or] at q1
          obtain ⟨n1, n2, n3⟩ := q1
          exact small_loop hs hl hk1 (fin (by rw [hdk, tk_drop]; simpa using n1) (by rw [hdk, tk_drop]; simpa using n2) (by rw [hdk, tk_drop]; simpa using n3))
      · have q := of_decide_eq_false q
        have hnil : xs.drop k1 = [] := List.drop_eq_nil_of_le (by omega)
        exact small_loop hs hl hk1 (fin (by rw [hnil]; decide) (by rw [hnil]; decide) (by rw [hnil]; decide))
    · rintro _ _ wc' ⟨k2, rfl, hk12, hk2, hnm, rfl⟩
      have hlx : L (s.extract k1 k2) = (xs.drop k1).take (k2 - k1) := by rw [L_sub (by omega), hs, List.drop_take]
      refine ⟨⟨by omega, by omega⟩, ⟨by omega, by omega⟩, C1.blk.st (by simp) fun ws B' u' => ?_⟩
      have F2 := F1.set u'
      have C2 := C1.set hb u' B'
      rw [Int.toNat_natCast, Int.toNat_natCast] at C2
      refine ⟨_, B'.cell 1 rfl, ?_⟩
      rw [Int.toNat_natCast, Int.toNat_natCast, L_eq, hlx, L_nil]
      have hall : allG xs = if (nameF (xs.drop k1)).1 = [] then (if (nameF (xs.drop k1)).2 = [] then some ⟨al, [], false, []⟩ else none)
          else some ⟨al, (nameF (xs.drop k1)).1, tk 33 (nameF (xs.drop k1)).2, unb' (tkR 33 (nameF (xs.drop k1)).2)⟩ := by
        unfold allG
        rw [hre]
        simp only [← hd1]
      rw [hnm] at hall
      simp only at hall
      -- a command that is whole
      have whole : ∀ {wz : World} {sz : ByteArray} {bg : Bool}, CmF w wz b2 b4 w4.heap.size → CmB 64 wz b4 w4.heap.size p c (s.extract k1 k2) sz al bg → allG xs = some ⟨al, (xs.drop k1).take (k2 - k1), bg, L sz⟩ →
          ∀ w', Ext w w' → Upd (fun z => z = b2) wz w' → TellsT 64 w ((allG xs).getD cm0) (if (allG xs).isSome = true then 0 else 11) (.returned (.tuple #[.agg #[.slice p al.length c, .string (s.extract k1 k2), .bool bg, .string sz], .int .i64 0])) w' := by
        intro wz sz bg Fz Cz hal w' x' uz
        rw [hal]
        refine ⟨p, c, _, _, rfl, hlx, rfl, ?_, x'⟩
        have ho' := Cz.row.upd AddrV.stable AddrV.widens uz fun g hg _ e => by omega
        obtain ⟨vss, oo, oa⟩ := ho'
        exact ⟨vss, oo.lower (by omega), oa.imp fun _ _ h => h⟩
      refine brr (fun q => ?_) fun q => ?_
      · have q := of_decide_eq_true q
        rw [if_pos q] at hall
        refine brr (fun q2 => ?_) fun q2 => ?_
        · have q2 := of_decide_eq_true q2
          rw [if_neg (by rw [List.drop_eq_nil_iff]; omega)] at hall
          obtain ⟨vs, B2, hl2⟩ := F2.res
          exact retC B2 hl2 F2.ext h2 fun w' x' _ => bad hall w' x'
        · have q2 := of_decide_eq_false q2
          rw [if_pos (by rw [List.drop_eq_nil_iff]; omega)] at hall
          obtain ⟨vs, B2, hl2⟩ := F2.res
          exact ⟨_, _, _, C2.blk.cell 0 rfl, _, C2.blk.cell 1 rfl, _, C2.blk.cell 2 rfl, _, C2.blk.cell 3 rfl, retC B2 hl2 F2.ext h2 fun w' x' u2 => whole F2 C2 (by rw [hall, q]; rfl) w' x' u2⟩
      · have q := of_decide_eq_false q
        rw [if_neg q] at hall
        refine ⟨fun x _ wc' => ∃ k3 : Nat, x = k3 ∧ k3 ≤ xs.length ∧ xs.drop k3 = tkR 33 (xs.drop k2) ∧ CmF w wc' b2 b4 w4.heap.size ∧ CmB 64 wc' b4 w4.heap.size p c (s.extract k1 k2) { data := #[] } al (tk 33 (xs.drop k2)), ?_, ?_⟩
        · refine br_and' (fun q => ?_) (fun q q1 => ?_) fun q1 => ?_
          · have q := of_decide_eq_true q
            exact ⟨by omega, by omega⟩
          · have q := of_decide_eq_true q
            have hlt : k2 < xs.length := by omega
            have hdk := drop_at hs hlt
            have q1 : sb s k2 = 33 := by simpa using q1
            have ht : tk 33 (xs.drop k2) = true := by rw [hdk, tk_drop, q1]; rfl
            refine C2.blk.st (by simp) fun w3 B3 u3 => ⟨inI64 (by omega) (by omega), 0, k2 + 1, by omega, hlt, ?_, F2.set u3, ?_⟩
            · rw [tkR_yes ht, hdk]; rfl
            · rw [ht]; exact C2.set hb u3 B3
          · have ht : tk 33 (xs.drop k2) = false := by
              rcases Nat.lt_or_ge k2 xs.length with hlt | hge
              · rw [drop_at hs hlt, tk_drop]
                rw [decide_eq_true (by omega : (k2 : Int) < s.size), Bool.true_and] at q1
                exact q1
              · rw [List.drop_eq_nil_of_le hge]; rfl
            exact ⟨0, k2, rfl, hk2, by rw [tkR_no (by rw [ht]; decide)], F2, by rw [ht]; exact C2⟩
        · rintro _ _ wc' ⟨k3, rfl, hk3, hd3, F3, C3⟩
          refine (rblanks_does hs hk3 (by omega)).imp ?_
          rintro e w142 ⟨⟨k4, rfl, _, hk4, hd4⟩, rfl⟩
          refine ⟨_, rfl, ⟨by omega, by omega⟩, C3.blk.st (by simp) fun w4' B4' u4' => ?_⟩
          have F4 := F3.set u4'
          have C4 := C3.set hb u4' B4'
          rw [Int.toNat_natCast] at C4
          obtain ⟨vs, B2, hl2⟩ := F4.res
          refine ⟨_, _, _, C4.blk.cell 0 rfl, _, C4.blk.cell 1 rfl, _, C4.blk.cell 2 rfl, _, C4.blk.cell 3 rfl, retC B2 hl2 F4.ext h2 fun w' x' u2 => whole F4 C4 ?_ w' x' u2⟩
          rw [hall, L_from, hs, hd4, hd3]
end
end Go.Proofs.Ytdkeccgcleamcaa
