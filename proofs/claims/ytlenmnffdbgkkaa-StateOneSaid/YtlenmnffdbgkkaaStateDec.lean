/-
  States: what each function of the code does: Decode.
-/
import Derived.Test.YtlenmnffdbgkkaaStateCatch
namespace Go.Vc
open Go.RowKit
theorem mem_flat {α : Type} (f : α → List Int) : ∀ {l : List α} {x : α}, x ∈ l → (f x).length ≤ (l.flatMap f).length
  | y :: r, x, h => by
    rw [List.flatMap_cons, List.length_append]
    rcases List.mem_cons.1 h with rfl | h
    · omega
    · have := mem_flat f h; omega
theorem len_flat {α : Type} (f : α → List Int) (k : Nat) (hf : ∀ x, k ≤ (f x).length) : ∀ (l : List α), k * l.length ≤ (l.flatMap f).length
  | [] => by simp
  | y :: r => by
    have := len_flat f k hf r
    have := hf y
    rw [List.flatMap_cons, List.length_append, List.length_cons, Nat.mul_succ]
    omega
/-- What was read is not great. -/
theorem read_small {b r : List Int} {many now : Int} {ns : List Nd} {ms : List (Int × Int)} (hb : FB b) (h : stateP b = some (((many, now, ns), ms), r)) (hl : b.length ≤ 100000000) :
    Mods (rootN :: ns) ∧ ns.length ≤ b.length ∧ ms.length ≤ 255 ∧ (1 ≤ many → (encS (rootN :: ns) now ms).length + r.length = b.length) ∧ (1 ≤ many → encS (rootN :: ns) now ms ++ r = b) ∧ (many < 1 → ns = []) ∧ Fits32 now := by
  obtain ⟨e, f1, f2, hn, hN, hm, hM⟩ := back_state hb h
  have hlen := congrArg List.length e
  simp only [List.length_append, putN_len, List.length_cons] at hlen
  have l1 := len_flat encN 12 (fun n => by unfold encN; simp only [List.length_append, putN_len]; omega) ns
  have hE : 1 ≤ many → encS (rootN :: ns) now ms ++ r = b := fun h1 => by
    have hc : (((rootN :: ns).length : Nat) : Int) = many := by rw [List.length_cons]; omega
    rw [e]
    unfold encS
    rw [hc]; rfl
  refine ⟨fun n hn => ?_, by omega, by omega, fun h1 => ?_, hE, fun h1 => ?_, f2⟩
  · rcases List.mem_cons.1 hn with rfl | hn
    · exact ⟨by decide, fun e he => by cases he⟩
    · have h1 := mem_flat encN hn
      have h2 : (encN n).length = 12 + (n.es.flatMap encE).length := by unfold encN; simp only [List.length_append, putN_len]
      have h3 := len_flat encE 12 (fun e => by unfold encE; simp only [List.length_append, putN_len]; omega) n.es
      refine ⟨by omega, fun e he => ?_⟩
      have h4 := mem_flat encE he
      have h5 : (encE e).length = 12 + e.old.length + e.new.length := by unfold encE; simp only [List.length_append, putN_len]; omega
      omega
  · have := congrArg List.length (hE h1)
    rwa [List.length_append] at this
  · have : ns.length = 0 := by omega
    exact List.length_eq_zero_iff.1 this
theorem state_none1 {t : List Int} (h : treesP t = none) : stateP t = none := by unfold stateP andThen; rw [h]
theorem state_none2 {t t1 : List Int} {v : Int × Int × List Nd} (h : treesP t = some (v, t1)) (h2 : marksP t1 = none) : stateP t = none := by unfold stateP andThen; rw [h]; simp only; rw [h2]
theorem state_some {t t1 t2 : List Int} {v : Int × Int × List Nd} {ms : List (Int × Int)} (h : treesP t = some (v, t1)) (h2 : marksP t1 = some (ms, t2)) : stateP t = some ((v, ms), t2) := by unfold stateP andThen; rw [h]; simp only; rw [h2]; rfl
end Go.Vc
namespace Go.Proofs.Ytlenmnffdbgkkaa
open Go.RowKit Go.Vc
section
variable {w : World} {r : Nat} {ok : Nat → Prop} {t : List Int}
/-- What the reader's cells hold, when all is read. -/
def ReadOk (X : Nat) (w' : World) (r : Nat) (many now : Int) (ns : List Nd) (ms : List (Int × Int)) : Prop :=
  ∃ pn cn pm cm, w'.cell? ⟨r, 1, none⟩ = some (.slice pn (rooted many ns).length cn) ∧ w'.cell? ⟨r, 2, none⟩ = some (.slice pm ms.length cm) ∧ w'.cell? ⟨r, 3, none⟩ = some (.int .i64 now) ∧
    Nodes w' (fun g => X ≤ g) pn (rooted many ns) ∧ Mks w' (fun g => X ≤ g) pm ms
def ReadR (w : World) (r : Nat) (t : List Int) (e : Ending) (w' : World) : Prop :=
  Upd (fun z => z = r) w w' ∧ match stateP t with
    | none => e = .returned (.int .i64 2)
    | some (((many, now, ns), ms), l) => (l ≠ [] ∧ e = .returned (.int .i64 3)) ∨ (l = [] ∧ e = .returned (.int .i64 0) ∧ ReadOk w.heap.size w' r many now ns ms)
theorem read_does (h : RdB w r ok t [.slice none 0 0, .slice none 0 0, .int .i64 0]) (hl : t.length ≤ 1000000) : Does Try.prog 29 #[.pointer (some ⟨r, 0, none⟩)] w (ReadR w r t) := by
  have hr := h.lt
  have hf := h.bytes
  apply f29_does
  intro b2 w2 hb2 b12 w12 hb12
  have e2 := hb2.eq
  have e12 := hb12.eq
  have z2 := hb2.size
  have z12 := hb12.size
  have X12 := hb2.ext.thn hb12.ext
  have hokw : ∀ z, ok z → z < w.heap.size := fun z hz => by obtain ⟨_, _, _, _, _, a4⟩ := h; exact (a4 z hz).2
  have B2 := hb2.blk.ext hb12.ext
  have B12 := hb12.blk
  -- how far one has come
  refine ⟨fun x14 nl wl => w12.heap.size ≤ wl.heap.size ∧ Upd (fun z => z = r) w wl ∧ Blk wl b2 [.int .i64 0] ∧ Blk wl b12 [.func (.func 49) #[.pointer (some ⟨r, 0, none⟩)] #[], .func (.func 50) #[.pointer (some ⟨r, 0, none⟩)] #[], .func (.func 51) #[.pointer (some ⟨r, 0, none⟩)] #[]] ∧
    ((x14 = 0 ∧ nl = 3 ∧ RdB wl r ok t [.slice none 0 0, .slice none 0 0, .int .i64 0]) ∨
     (x14 = 1 ∧ nl = 2 ∧ ∃ many now ns t1 pn cn, treesP t = some ((many, now, ns), t1) ∧ RdB wl r ok t1 [.slice pn (rooted many ns).length cn, .slice none 0 0, .int .i64 now] ∧ Nodes wl (fun g => w12.heap.size ≤ g) pn (rooted many ns)) ∨
     (x14 = 2 ∧ nl = 1 ∧ ∃ many now ns ms t2 pn cn pm cm, stateP t = some (((many, now, ns), ms), t2) ∧ RdB wl r ok t2 [.slice pn (rooted many ns).length cn, .slice pm ms.length cm, .int .i64 now] ∧ Nodes wl (fun g => w12.heap.size ≤ g) pn (rooted many ns) ∧ Mks wl (fun g => w12.heap.size ≤ g) pm ms) ∨
     (x14 = 3 ∧ nl = 0 ∧ ∃ many now ns ms, stateP t = some (((many, now, ns), ms), []) ∧ ReadOk w12.heap.size wl r many now ns ms)),
    ⟨_, Nat.le_refl _, X12.mono fun _ _ e => e.elim, B2, B12, .inl ⟨rfl, rfl, h.ext X12⟩⟩, ?_⟩
  have bad : ∀ {wl : World} {n : Int} {e : Ending}, Upd (fun z => z = r) w wl → Blk wl b2 [.int .i64 0] → (∀ w', Upd (fun z => z = r) w w' → ReadR w r t (.returned (.int .i64 n)) w') →
      LeavesV (fun wk => ∃ n2 : Int, wk.cell? ⟨b2, 0, none⟩ = some (.int .i64 n2) ∧ ReadR w r t (.returned (.int .i64 n2)) wk) (fun chk wp => ReadR w r t (.panicked chk) wp) Try.prog ({ target := .fn (.func 48) #[.pointer (some ⟨b2, 0, none⟩)], args := #[] } :: []) (.panicking [{ v := .iface 26 (.int .i64 n), recovered := false }]) wl := fun u B hR =>
    leave_panic (B.can 0 (by simp)) fun w' u' hc => ⟨_, hc, hR w' (Upd.then u u' fun z hz e => by omega)⟩
  rintro x14 nl wl ⟨sl, hU, B2, B12, H⟩
  have ten : ∀ {wl' : World}, Upd (fun z => z = r) wl wl' → Upd (fun z => z = r) w wl' ∧ Blk wl' b2 [.int .i64 0] ∧ Blk wl' b12 [.func (.func 49) #[.pointer (some ⟨r, 0, none⟩)] #[], .func (.func 50) #[.pointer (some ⟨r, 0, none⟩)] #[], .func (.func 51) #[.pointer (some ⟨r, 0, none⟩)] #[]] := fun u =>
    ⟨Upd.trans hU u, B2.upd u (by omega), B12.upd u (by omega)⟩
  rcases H with ⟨rfl, rfl, hR⟩ | ⟨rfl, rfl, many, now, ns, t1, pn, cn, ht, hR, hN⟩ | ⟨rfl, rfl, many, now, ns, ms, t2, pn, cn, pm, cm, ht, hR, hN, hM⟩ | ⟨rfl, rfl, many, now, ns, ms, ht, hK⟩
  · refine tru (by decide) ⟨⟨by decide, by decide⟩, b12, 0, rfl, _, _, _, B12.cell 0 rfl, ?_⟩
    show Does Try.prog 49 #[.pointer (some ⟨r, 0, none⟩)] wl _
    refine (tree_does hR (fun z hz => by have := hokw z hz; omega) hl).imp ?_
    rintro e w19 (⟨g1, rfl, u⟩ | ⟨⟨many, now, ns⟩, t1, g1, rfl, ⟨pn, cn, R', o'⟩, u⟩)
    · have u' : Upd (fun z => z = r) wl w19 := u.mono fun k hk e => by rcases e with e | e; exact e; omega
      obtain ⟨k1, k2, k3⟩ := ten u'
      exact .inr ⟨_, rfl, bad (e := .returned (.int .i64 2)) k1 k2 fun w' u => ⟨u, by rw [state_none1 g1]⟩⟩
    · obtain ⟨k1, k2, k3⟩ := ten u
      exact .inl ⟨rfl, by decide, 2, by decide, by have := u.size; omega, k1, k2, k3, .inr (.inl ⟨rfl, rfl, many, now, ns, t1, pn, cn, g1, R', (OwnL.nodes o').ok fun g _ hg => by have := hg.1; omega⟩)⟩
  · refine tru (by decide) ⟨⟨by decide, by decide⟩, b12, 0, rfl, _, _, _, B12.cell 1 rfl, ?_⟩
    show Does Try.prog 50 #[.pointer (some ⟨r, 0, none⟩)] wl _
    have ht1 : t1.length ≤ 1000000 := by
      obtain ⟨c, e1, _⟩ := ex_tree _ _ _ ht
      have := congrArg List.length e1
      rw [List.length_append] at this
      omega
    refine (places_does hR (fun z hz => by have := hokw z hz; omega) ht1).imp ?_
    rintro e w19 (⟨g1, rfl, u⟩ | ⟨ms, t2, g1, rfl, ⟨pm, cm, R', o'⟩, u⟩)
    · obtain ⟨k1, k2, k3⟩ := ten u
      exact .inr ⟨_, rfl, bad (e := .returned (.int .i64 2)) k1 k2 fun w' u => ⟨u, by rw [state_none2 ht g1]⟩⟩
    · obtain ⟨k1, k2, k3⟩ := ten u
      refine .inl ⟨rfl, by decide, 1, by decide, by have := u.size; omega, k1, k2, k3, .inr (.inr (.inl ⟨rfl, rfl, many, now, ns, ms, t2, pn, cn, pm, cm, state_some ht g1, R', hN.upd u fun z hz e => by omega, ?_⟩))⟩
      exact RS.ok (ElemC.widens MkV.widens) (o'.rs MkV.widens (by decide)).2 (fun _ _ _ h => h.1) fun g _ hg => by have := hg.1; omega
  · refine tru (by decide) ⟨⟨by decide, by decide⟩, b12, 0, rfl, _, _, _, B12.cell 2 rfl, ?_⟩
    show Does Try.prog 51 #[.pointer (some ⟨r, 0, none⟩)] wl _
    refine (end_does hR).imp ?_
    rintro e w19 ⟨rfl, (⟨hne, rfl⟩ | ⟨rfl, rfl⟩)⟩
    · exact .inr ⟨_, rfl, bad (e := .returned (.int .i64 3)) hU B2 fun w' u => ⟨u, by rw [ht]; exact .inl ⟨hne, rfl⟩⟩⟩
    · exact .inl ⟨rfl, by decide, 0, by decide, sl, hU, B2, B12, .inr (.inr (.inr ⟨rfl, rfl, many, now, ns, ms, ht, pn, cn, pm, cm, hR.cell 0 rfl, hR.cell 1 rfl, hR.cell 2 rfl, hN, hM⟩))⟩
  · refine fls (by decide) (B2.st (by simp) fun ws Bs us => leave_ok ⟨0, Bs.cell 0 rfl, Upd.then hU us fun z hz e => by omega, ?_⟩)
    rw [ht]
    obtain ⟨pn, cn, pm, cm, c1, c2, c3, hN, hM⟩ := hK
    have nr : ¬ (r = b2) := by omega
    refine .inr ⟨rfl, rfl, pn, cn, pm, cm, us.cell nr c1, us.cell nr c2, us.cell nr c3, ?_, ?_⟩
    · exact Nodes.ok (hN.upd us fun z hz e => by omega) fun g _ hg => by omega
    · exact RS.ok (ElemC.widens MkV.widens) (hM.upd us fun z hz e => by omega) (fun _ _ _ h => h.1) fun g _ hg => by omega
/-- What reading bytes tells: the history, the marks. -/
def DecR (w : World) (b : List Int) (e : Ending) (w' : World) : Prop :=
  Ext w w' ∧ (((decS b).1 ≠ 0 ∧ e = .returned (.tuple #[.pointer none, .slice none 0 0, .int .i64 (decS b).1])) ∨
    ((decS b).1 = 0 ∧ ∃ g A p c, e = .returned (.tuple #[.pointer (some ⟨g, 0, none⟩), .slice p (decS b).2.2.2.length c, .int .i64 0]) ∧ Hs w' A g (decS b).2.1 (decS b).2.2.1.toNat ∧ Mks w' (fun _ => True) p (decS b).2.2.2))
theorem dec_bad {b : List Int} {w' : World} {n : Int} (hd : (decS b).1 = n) (hn : n ≠ 0) (x : Ext w w') : DecR w b (.returned (.tuple #[.pointer none, .slice none 0 0, .int .i64 n])) w' := ⟨x, .inl ⟨by rw [hd]; exact hn, by rw [hd]⟩⟩
theorem dec_nil : decS [] = (0, [rootN], 0, []) := by unfold decS; rw [if_pos rfl]
theorem decode_does {p : Option Addr} {b : List Int} {ok : Nat → Prop} (hx : Ints .u8 w ok p b) {l : Nat} (hl : l = b.length) (c : Nat) (hc : l ≤ c) (hs : b.length ≤ 1000000) : Does Try.prog 11 #[.slice p l c] w (DecR w b) := by
  subst hl
  have hf : FB b := fun x h => hx.inK x h
  apply f11_does
  refine brr (fun q => ?_) fun q b16 w16 hb16 => ?_
  · have hb : b = [] := List.length_eq_zero_iff.1 (by simpa using q)
    subst hb
    refine new_does.imp ?_
    rintro e w13 ⟨g, rfl, hM, x13⟩
    refine ⟨_, rfl, x13, .inr ?_⟩
    rw [dec_nil]
    exact ⟨rfl, g, _, none, 0, rfl, hM.hs, RS.nil⟩
  have hb : b ≠ [] := by rintro rfl; simp at q
  have e16 := hb16.eq
  have z16 := hb16.size
  have R16 : RdB w16 b16 (fun z => z < w.heap.size) b [.slice none 0 0, .slice none 0 0, .int .i64 0] :=
    ⟨p, c, hb16.blk, hc, (hx.ok fun k hk _ => hk).ext hb16.ext, fun z hz => ⟨by omega, by omega⟩⟩
  refine (read_does R16 hs).imp ?_
  rintro e w18 ⟨u18, hR⟩
  have x18 : Ext w w18 := hb16.ext.loc (by omega) u18
  cases hst : stateP b with
  | none =>
    rw [hst] at hR
    simp only at hR
    subst hR
    refine ⟨_, rfl, tru rfl (dec_bad ?_ (by decide) x18)⟩
    unfold decS; rw [if_neg hb, hst]
  | some v =>
    obtain ⟨⟨⟨many, now, ns⟩, ms⟩, lft⟩ := v
    rw [hst] at hR
    simp only at hR
    rcases hR with ⟨hne, rfl⟩ | ⟨rfl, rfl, pn, cn, pm, cm, c1, c2, c3, hN, hM⟩
    · refine ⟨_, rfl, tru rfl (dec_bad ?_ (by decide) x18)⟩
      unfold decS; rw [if_neg hb, hst]; simp only; rw [if_pos hne]
    obtain ⟨sm, sn, sms, slen, sb, sneg, snow⟩ := read_small hf hst (by omega)
    have hdT : (1 ≤ many ∧ loadOk (rootN :: ns) now ∧ encCode (rootN :: ns) now ms = 0 ∧ encS (rootN :: ns) now ms = b) → decS b = (0, rootN :: ns, now, ms) := fun h => by
      unfold decS; rw [if_neg hb, hst]; simp only; rw [if_neg (fun h => h rfl), if_pos h]
    have hdF : ¬ (1 ≤ many ∧ loadOk (rootN :: ns) now ∧ encCode (rootN :: ns) now ms = 0 ∧ encS (rootN :: ns) now ms = b) → (decS b).1 = 4 := fun h => by
      unfold decS; rw [if_neg hb, hst]; simp only; rw [if_neg (fun h => h rfl), if_neg h]
    refine ⟨_, rfl, fls rfl fun wd hwd => ⟨_, _, _, hwd.ext.cell c1, _, hwd.ext.cell c3, ?_⟩⟩
    have hrm : Mods (rooted many ns) := by
      unfold rooted
      split
      · exact sm
      · exact fun n hn => sm n (List.mem_cons_of_mem _ hn)
    have hrl : (rooted many ns).length ≤ 1000000000 := by unfold rooted; split; rw [List.length_cons]; omega; omega
    refine (load_does (hN.ext hwd.ext) rfl cn now hrl hrm).imp ?_
    rintro e w31 ⟨x31, ⟨hno, rfl⟩ | ⟨hyes, g, rfl, hH⟩⟩
    · refine ⟨_, _, rfl, tru rfl (dec_bad (hdF ?_) (by decide) ((x18.thn hwd.ext).thn x31))⟩
      rintro ⟨h1, h2, _⟩
      refine hno ?_
      unfold rooted
      rw [if_pos (by omega)]; exact h2
    have hpos : many > 0 := by
      by_cases h : many > 0
      · exact h
      · exfalso
        have h1 := hyes.1
        unfold rooted at h1
        rw [if_neg h, sneg (by omega)] at h1
        simp at h1
    have hro : rooted many ns = rootN :: ns := by unfold rooted; rw [if_pos hpos]
    rw [hro] at hyes hH hrm hrl
    have X31 := (x18.thn hwd.ext).thn x31
    have ecur : ((now.toNat : Nat) : Int) = now := by have := snow.1; omega
    have hyes' : loadOk (rootN :: ns) ((now.toNat : Nat) : Int) := by rw [ecur]; exact hyes
    have hsl := slen (by omega)
    refine ⟨_, _, rfl, fls rfl ⟨_, _, _, x31.cell (hwd.ext.cell c2), (encode_does hH hyes' hrm ((hM.ext hwd.ext).ext x31) rfl cm (by omega) (fun _ => by rw [ecur]; omega)).imp ?_⟩⟩
    rintro e w42 ⟨⟨p42, c42, rfl, -, hI⟩, x42⟩
    rw [ecur] at hI ⊢
    have X42 := X31.thn x42
    refine ⟨_, _, _, _, rfl, brr (fun q1 => dec_bad (hdF ?_) (by decide) X42) fun q1 => ?_⟩
    · have q1 : encCode (rootN :: ns) now ms ≠ 0 := by simpa using q1
      exact fun k => q1 k.2.2.1
    have q1 : encCode (rootN :: ns) now ms = 0 := by simpa using q1
    have hout : encOut (rootN :: ns) now ms = encS (rootN :: ns) now ms := by unfold encOut; rw [if_pos q1]
    refine (equal_does hI (hx.ext X42) rfl rfl _ c).imp ?_
    rintro e w50 ⟨rfl, rfl⟩
    rw [hout]
    refine ⟨_, rfl, brr (fun q2 => dec_bad (hdF ?_) (by decide) X42) fun q2 wz hwz => ?_⟩
    · exact fun k => not_dec q2 k.2.2.2
    · have q2 := yes_dec q2
      have hcell := hwz.ext.cell (x42.cell (x31.cell (hwd.ext.cell c2)))
      refine ⟨_, _, _, hcell, X42.thn hwz.ext, .inr ?_⟩
      rw [hdT ⟨by omega, hyes, q1, q2⟩]
      exact ⟨rfl, g, _, pm, cm, rfl, (hH.ext x42).ext hwz.ext, RS.ok (ElemC.widens MkV.widens) ((((hM.ext hwd.ext).ext x31).ext x42).ext hwz.ext) (fun _ _ _ h => h.1) fun _ _ _ => trivial⟩
end
end Go.Proofs.Ytlenmnffdbgkkaa
