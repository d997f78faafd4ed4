/-
  Command lines: what each function of the code does: ranges, names, whole lines.
-/
import Derived.Test.YtdkeccgcleamcaaLineCatch
namespace Go.Vc
open Go.RowKit
def a1 : A := ⟨110, 1, 0, 0⟩
def aEnd : A := ⟨36, 0, 0, 0⟩
/-- A range. -/
def reachF (xs : List Int) : Option (List A × List Int) :=
  if tk 37 xs = true then some ([a1, aEnd], xs.tail) else
  match addrF xs with
  | none => none
  | some none => some ([], xs)
  | some (some (a, r)) => if tk 44 r = true then (match addrF r.tail with | some (some (a2, r2)) => some ([a, a2], r2) | _ => none) else some ([a], r)
/-- A name. -/
def nameF (xs : List Int) : List Int × List Int :=
  if tk 61 xs = true then ([61], xs.tail) else if tk 62 xs = true then ([62], xs.tail) else if tk 60 xs = true then ([60], xs.tail)
  else (whileF smallB xs.length xs, xs.drop (whileF smallB xs.length xs).length)
/-- A command. -/
structure Cm where
  al : List A
  name : List Int
  bang : Bool
  arg : List Int
deriving DecidableEq
def unb' (xs : List Int) : List Int := xs.drop (whileF blankB xs.length xs).length
def allF (xs : List Int) : Option Cm :=
  match reachF (unb' xs) with
  | none => none
  | some (al, r) =>
    if (nameF (unb' r)).1 = [] then (if (nameF (unb' r)).2 = [] then some ⟨al, [], false, []⟩ else none)
    else some ⟨al, (nameF (unb' r)).1, tk 33 (nameF (unb' r)).2, unb' (tkR 33 (nameF (unb' r)).2)⟩
def cm0 : Cm := ⟨[], [], false, []⟩
def parseC (xs : List Int) : Cm := if xs.length > 4096 then cm0 else (allF xs).getD cm0
def parseN (xs : List Int) : Int := if xs.length > 4096 then 3 else if (allF xs).isSome = true then 0 else 11
end Go.Vc
namespace Go.Proofs.Ytdkeccgcleamcaa
open Go.RowKit Go.Vc
section
variable {w : World} {b base : Nat} {xs : List Int} {al : List A} {name : List Int} {bang : Bool} {arg : List Int}
theorem rd_takes (h : Rd 55 w b base xs al name bang arg) (c : Int) : Does Try.prog 29 #[.pointer (some ⟨b, 0, none⟩), .int .u8 c] w fun e w' => e = .returned (.bool (tk c xs)) ∧ Rd 55 w' b base (tkR c xs) al name bang arg ∧ Upd (RFr b base) w w' :=
  (takes_does h.txt (h.can 0 (by decide)) c).imp fun _ _ ⟨h1, h2⟩ => ⟨h1, h.adv h2 fun _ _ => id, h2.fr0⟩
theorem rd_blanks (h : Rd 55 w b base xs al name bang arg) (hl : xs.length ≤ 4096) : Does Try.prog (34) #[.pointer (some ⟨b, 0, none⟩)] w fun e w' => e = .returned (.tuple #[]) ∧ Rd 55 w' b base (unb' xs) al name bang arg ∧ Upd (RFr b base) w w' :=
  (blanks_does h.txt (h.can 0 (by decide)) (by omega)).imp fun _ _ ⟨h1, h2⟩ => ⟨h1, h.adv h2 fun _ _ => id, h2.fr0⟩
/-- The parts of the command that a store sets. -/
theorem rd_name {w' : World} {s : ByteArray} (h : Rd 55 w b base xs al name bang arg) (hs : Stored w b 2 (.string s) w') : Rd 55 w' b base xs al (L s) bang arg := by
  obtain ⟨p, c, h1, h2⟩ := h.row
  obtain ⟨s0, t1, t2⟩ := h.txt
  obtain ⟨s4, m1, m2⟩ := h.ar
  have hl := h.lt
  exact ⟨⟨s0, t1, (hs.other (.inr (by decide))).trans t2⟩, ⟨p, c, (hs.other (.inr (by decide))).trans h1, h2.upd AddrV.stable AddrV.widens hs.upd fun g hg _ e => by have e : g = b := e; omega⟩, ⟨s, rfl, hs.cell (h.can 2 (by decide))⟩, (hs.other (.inr (by decide))).trans h.bg, ⟨s4, m1, (hs.other (.inr (by decide))).trans m2⟩, fun j hj => hs.can (h.can j hj), hl, Nat.le_trans h.le hs.upd.size⟩
theorem rd_bang {w' : World} {v : Bool} (h : Rd 55 w b base xs al name bang arg) (hs : Stored w b 3 (.bool v) w') : Rd 55 w' b base xs al name v arg := by
  obtain ⟨p, c, h1, h2⟩ := h.row
  obtain ⟨s0, t1, t2⟩ := h.txt
  obtain ⟨s2, n1, n2⟩ := h.nm
  obtain ⟨s4, m1, m2⟩ := h.ar
  have hl := h.lt
  exact ⟨⟨s0, t1, (hs.other (.inr (by decide))).trans t2⟩, ⟨p, c, (hs.other (.inr (by decide))).trans h1, h2.upd AddrV.stable AddrV.widens hs.upd fun g hg _ e => by have e : g = b := e; omega⟩, ⟨s2, n1, (hs.other (.inr (by decide))).trans n2⟩, hs.cell (h.can 3 (by decide)), ⟨s4, m1, (hs.other (.inr (by decide))).trans m2⟩, fun j hj => hs.can (h.can j hj), hl, Nat.le_trans h.le hs.upd.size⟩
theorem rd_arg {w' : World} {s : ByteArray} (h : Rd 55 w b base xs al name bang arg) (hs : Stored w b 4 (.string s) w') : Rd 55 w' b base xs al name bang (L s) := by
  obtain ⟨p, c, h1, h2⟩ := h.row
  obtain ⟨s0, t1, t2⟩ := h.txt
  obtain ⟨s2, n1, n2⟩ := h.nm
  have hl := h.lt
  exact ⟨⟨s0, t1, (hs.other (.inr (by decide))).trans t2⟩, ⟨p, c, (hs.other (.inr (by decide))).trans h1, h2.upd AddrV.stable AddrV.widens hs.upd fun g hg _ e => by have e : g = b := e; omega⟩, ⟨s2, n1, (hs.other (.inr (by decide))).trans n2⟩, (hs.other (.inr (by decide))).trans h.bg, ⟨s, rfl, hs.cell (h.can 4 (by decide))⟩, fun j hj => hs.can (h.can j hj), hl, Nat.le_trans h.le hs.upd.size⟩
theorem RFr.trans {w w1 w2 : World} (h : Upd (RFr b base) w w1) (k : Upd (RFr b base) w1 w2) : Upd (RFr b base) w w2 := Upd.then h k fun _ _ e => e
theorem addr_sub {a : A} {r : List Int} (hk : ∀ x ∈ xs, InK .u8 x) (h : addrF xs = some (some (a, r))) : r.length ≤ xs.length ∧ ∀ x ∈ r, InK .u8 x := by
  unfold addrF at h
  split at h
  · cases h
  · cases h
  · rename_i a' r' hh
    injection h with h; injection h with h; injection h with h1 h2
    obtain ⟨_, _, g1, g2⟩ := head_ok hk hh
    obtain ⟨_, _, g3, g4⟩ := offF_bd r'.length 0 r' (Nat.le_refl _)
    rw [← h2]
    exact ⟨by omega, fun x hx => hk _ (g2 x (g4 x hx))⟩
/-- What reach answers. -/
def ReachR (w : World) (b base : Nat) (xs : List Int) (e : Ending) (w' : World) : Prop :=
  Upd (RFr b base) w w' ∧ match reachF xs with
    | none => e = thrown
    | some (al, r) => e = .returned (.tuple #[]) ∧ Rd 55 w' b base r al [] false []
theorem reach_does (h : Rd 55 w b base xs [] [] false []) (hk : ∀ x ∈ xs, InK .u8 x) (hl : xs.length ≤ 4096) : Does Try.prog 35 #[.pointer (some ⟨b, 0, none⟩)] w (ReachR w b base xs) := by
  apply f35_does
  refine (rd_takes h 37).imp ?_
  rintro e w3 ⟨rfl, R3, u3⟩
  refine ⟨_, rfl, brr (fun q b7 w7 hb7 => ?_) fun q => ?_⟩
  · rw [tkR_yes q] at R3
    have R7 := R3.ext hb7.ext
    refine ⟨b, 0, rfl, R7.can 1 (by decide), fun ws hs => ?_⟩
    have hl3 := R3.le
    have e7 := hb7.eq
    have s7 := hb7.size
    have hlt := R3.lt
    have u7 : Upd (RFr b base) w ws := RFr.trans (Ext.then u3 hb7.ext) (hs.upd.mono fun g _ e => .inl e)
    refine ⟨u7, ?_⟩
    unfold reachF
    rw [if_pos q]
    obtain ⟨s0, t1, t2⟩ := R7.txt
    obtain ⟨s2, n1, n2⟩ := R7.nm
    obtain ⟨s4, m1, m2⟩ := R7.ar
    refine ⟨rfl, ⟨s0, t1, (hs.other (.inr (by decide))).trans t2⟩, ⟨some ⟨b7, 0, none⟩, 2, hs.cell (R7.can 1 (by decide)), ?_⟩, ⟨s2, n1, (hs.other (.inr (by decide))).trans n2⟩, (hs.other (.inr (by decide))).trans R7.bg, ⟨s4, m1, (hs.other (.inr (by decide))).trans m2⟩, fun j hj => hs.can (R7.can j hj), hlt, by have := hs.upd.size; omega⟩
    have hne : b7 ≠ b := by omega
    refine ⟨[[.int .u8 110, .int .i64 1, .int .i64 0, .int .u8 0], [.int .u8 36, .int .i64 0, .int .i64 0, .int .u8 0]], ⟨rfl, .inr ⟨b7, 2, _, rfl, by omega, (hs.upd.block b7 hb7.lt hne).trans hb7.heap, by decide, by decide, rfl, rfl⟩⟩, .cons ⟨rfl, rfl, by decide, by decide, by decide, by decide⟩ (.cons ⟨rfl, rfl, by decide, by decide, by decide, by decide⟩ .nil)⟩
  have qn : ¬ tk 37 xs = true := by rw [q]; decide
  rw [tkR_no qn] at R3
  refine (address_does R3 hk hl (by simp)).imp ?_
  rintro e w12 ⟨u12, hr⟩
  have U12 := RFr.trans u3 u12
  have unf : reachF xs = match addrF xs with
      | none => none
      | some none => some ([], xs)
      | some (some (a, r)) => if tk 44 r = true then (match addrF r.tail with | some (some (a2, r2)) => some ([a, a2], r2) | _ => none) else some ([a], r) := by
    unfold reachF
    rw [if_neg qn]
  unfold ReachR
  rw [unf]
  cases ha : addrF xs with
  | none =>
    rw [ha] at hr
    exact .inr ⟨_, hr, U12, rfl⟩
  | some o =>
    cases o with
    | none =>
      rw [ha] at hr
      obtain ⟨rfl, R12⟩ := hr
      exact .inl ⟨_, rfl, fls rfl ⟨U12, rfl, R12⟩⟩
    | some ar =>
      obtain ⟨a, r⟩ := ar
      rw [ha] at hr
      obtain ⟨rfl, R12⟩ := hr
      obtain ⟨hrl, hrk⟩ := addr_sub hk ha
      refine .inl ⟨_, rfl, tru rfl ((rd_takes R12 44).imp ?_)⟩
      rintro e w15 ⟨rfl, R15, u15⟩
      have U15 := RFr.trans U12 u15
      refine ⟨_, rfl, brr (fun q1 => ?_) fun q1 => ?_⟩
      · rw [tkR_yes q1] at R15
        have htl := tk_len q1
        refine (address_does R15 (fun x hx => hrk x (List.mem_of_mem_tail hx)) (by omega) (by simp)).imp ?_
        rintro e w18 ⟨u18, hr2⟩
        have U18 := RFr.trans U15 u18
        simp only [if_pos q1]
        cases ha2 : addrF r.tail with
        | none =>
          rw [ha2] at hr2
          exact .inr ⟨_, hr2, U18, rfl⟩
        | some o2 =>
          cases o2 with
          | none =>
            rw [ha2] at hr2
            obtain ⟨rfl, _⟩ := hr2
            refine .inl ⟨_, rfl, (must_does false).imp ?_⟩
            rintro e w19 ⟨rfl, ⟨hf, _⟩ | ⟨_, rfl⟩⟩
            · cases hf
            · exact .inr ⟨_, rfl, U18, rfl⟩
          | some ar2 =>
            obtain ⟨a2, r2⟩ := ar2
            rw [ha2] at hr2
            obtain ⟨rfl, R18⟩ := hr2
            refine .inl ⟨_, rfl, (must_does true).imp ?_⟩
            rintro e w19 ⟨rfl, ⟨_, rfl⟩ | ⟨hf, _⟩⟩
            · exact .inl ⟨rfl, U18, trivial, R18⟩
            · cases hf
      · have q1n : ¬ tk 44 r = true := by rw [q1]; decide
        rw [tkR_no q1n] at R15
        simp only [if_neg q1n]
        exact ⟨U15, trivial, R15⟩
/-- The signs that are names. -/
def signs : List Int := [61, 62, 60]
theorem name_does (h : Rd 55 w b base xs al [] bang arg) (hk : ∀ x ∈ xs, InK .u8 x) (hl : xs.length ≤ 4096) : Does Try.prog 36 #[.pointer (some ⟨b, 0, none⟩)] w fun e w' => e = .returned (.tuple #[]) ∧ Rd 55 w' b base (nameF xs).2 al (nameF xs).1 bang arg ∧ Upd (RFr b base) w w' := by
  apply f36_does
  intro b4 w4 hb4
  obtain ⟨w5, hr5, x5, hI5, _⟩ := conv_const Try.underlying78 Try.underlying5 hb4 3 3 (xs := signs) rfl (by decide)
  have R5 := h.ext x5
  have u5 : Upd (RFr b base) w w5 := Upd.mono x5 fun _ _ e => e.elim
  refine ⟨_, _, _, w5, hr5, fun x nl wl => ∃ k : Nat, x = k ∧ nl = 3 - k ∧ k ≤ 3 ∧ (∀ (j : Nat) (hj : j < signs.length), j < k → tk signs[j] xs = false) ∧ Rd 55 wl b base xs al [] bang arg ∧ Upd (RFr b base) w wl ∧ Ints .u8 wl (fun g => g = b4) (some ⟨b4, 0, none⟩) signs, ⟨_, 0, rfl, rfl, by decide, fun j _ h => by omega, R5, u5, hI5⟩, ?_⟩
  rintro _ _ wl ⟨k, rfl, rfl, hk3, hno, R, U, hI⟩
  refine brr (fun j => ?_) fun j => ?_
  · have j := of_decide_eq_true j
    have hlt : k < signs.length := by show k < 3; omega
    obtain ⟨bb, o, hp, hcl⟩ := hI.at k hlt
    refine ⟨⟨by omega, by omega⟩, bb, o, hp, _, hcl, (takes_does R.txt (R.can 0 (by decide)) signs[k]).imp ?_⟩
    rintro e w13 ⟨rfl, ad⟩
    have R13 := R.adv ad fun _ _ => id
    have u13 : Upd (RFr b base) wl w13 := ad.fr0
    have U13 := RFr.trans U u13
    refine ⟨_, rfl, brr (fun q b16 w16 hb16 => ?_) fun q => ?_⟩
    · rw [tkR_yes q] at R13
      have hsk : InK .u8 signs[k] := by
        have : ∀ x ∈ signs, InK .u8 x := by decide
        exact this _ (List.getElem_mem hlt)
      have i16 := hb16.ints (k := .u8) [signs[k]] rfl (by simpa using hsk)
      have R16 := R13.ext hb16.ext
      refine ⟨_, w16, conv_str Try.underlying78 Try.underlying5 Try.underlying9 i16 rfl 1, b, 0, rfl, R16.can 2 (by decide), fun ws hs => ⟨rfl, ?_, RFr.trans (Ext.then U13 hb16.ext) (hs.upd.mono fun g _ e => .inl e)⟩⟩
      have hR := rd_name R16 hs
      rw [L_nums (by simpa using hsk)] at hR
      have e : nameF xs = ([signs[k]], xs.tail) := by
        unfold nameF
        match k, hlt, hno, q with
        | 0, _, _, q => rw [if_pos (show tk 61 xs = true from q)]; rfl
        | 1, _, hno, q =>
          have h0 := hno 0 (by decide) (by decide)
          rw [if_neg (by rw [show tk 61 xs = false from h0]; decide), if_pos (show tk 62 xs = true from q)]; rfl
        | 2, _, hno, q =>
          have h0 := hno 0 (by decide) (by decide)
          have h1 := hno 1 (by decide) (by decide)
          rw [if_neg (by rw [show tk 61 xs = false from h0]; decide), if_neg (by rw [show tk 62 xs = false from h1]; decide), if_pos (show tk 60 xs = true from q)]; rfl
      rw [e]
      exact hR
    · rw [tkR_no (by rw [q]; decide)] at R13
      refine ⟨inI64 (by omega) (by omega), _, ?_, k + 1, by omega, rfl, by omega, fun z hz hzk => ?_, R13, U13, ?_⟩
      · omega
      · rcases Nat.lt_or_ge z k with h' | h'
        · exact hno z hz h'
        · obtain rfl : z = k := by omega
          exact q
      · have hbl := h.txt.lt
        have e4 := hb4.eq
        exact hI.upd ad.upd fun g e e' => e'.elim (fun e' => by omega) id
  · have j := of_decide_eq_false j
    obtain rfl : k = 3 := by omega
    obtain ⟨s, hs, hcell⟩ := R.txt
    have hsz := L_len s
    rw [hs] at hsz
    refine ⟨b, 0, rfl, s, hcell, ?_⟩
    rw [show (s.size : Int) = (xs.length : Nat) by rw [hsz]]
    refine (while_does R.txt (R.can 0 (by decide)) xs.length (by omega) fun _ c => small_does c).imp ?_
    rintro e w29 ⟨s29, rfl, hs29, ad⟩
    have R29 := R.adv ad fun _ _ => id
    refine ⟨_, rfl, b, 0, rfl, R29.can 2 (by decide), fun ws hst => ⟨rfl, ?_, RFr.trans (RFr.trans U ad.fr0) (hst.upd.mono fun g _ e => .inl e)⟩⟩
    have hR := rd_name R29 hst
    rw [hs29] at hR
    have h0 := hno 0 (by decide) (by decide)
    have h1 := hno 1 (by decide) (by decide)
    have h2 := hno 2 (by decide) (by decide)
    have e : nameF xs = (whileF smallB xs.length xs, xs.drop (whileF smallB xs.length xs).length) := by
      unfold nameF
      rw [if_neg (by rw [show tk 61 xs = false from h0]; decide), if_neg (by rw [show tk 62 xs = false from h1]; decide), if_neg (by rw [show tk 60 xs = false from h2]; decide)]
    rw [e]
    exact hR
end
end Go.Proofs.Ytdkeccgcleamcaa
