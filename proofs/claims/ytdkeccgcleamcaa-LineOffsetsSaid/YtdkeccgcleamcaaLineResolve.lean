/-
  Command lines: what each function does: ranges to lines.
-/
import Derived.Test.YtdkeccgcleamcaaLineLaws
import Derived.Test.YtdkeccgcleamcaaMkWords
namespace Go.Vc
open Go.RowKit
def big : Int := 1099511627776
def findM (ms : List (Int × Int)) (name : Int) : Option Int := (ms.find? fun m => m.1 == name).map (·.2)
/-- An address's line, without what is added. -/
def headN (a : A) (cur last : Int) (ms : List (Int × Int)) : Int × Int :=
  if a.kind = 110 then (a.n, 0) else if a.kind = 46 then (cur, 0) else if a.kind = 36 then (last, 0)
  else if a.kind = 109 then (match findM ms a.mark with | some n => (n, 0) | none => (0, 9)) else (0, 1)
def lineR (a : A) (cur last : Int) (ms : List (Int × Int)) : Int × Int := if (headN a cur last ms).2 = 0 then ((headN a cur last ms).1 + a.off, 0) else (0, (headN a cur last ms).2)
def numP (a : A) (cur last : Int) (ms : List (Int × Int)) : Int × Int :=
  if (lineR a cur last ms).2 = 0 then (if (lineR a cur last ms).1 < 1 ∨ (lineR a cur last ms).1 > last then (0, 1) else ((lineR a cur last ms).1, 0)) else (0, (lineR a cur last ms).2)
def badStep (bad e : Int) : Int := if e ≠ 0 ∧ bad ≠ 9 then e else bad
def resolveF (al : List A) (cur last : Int) (ms : List (Int × Int)) : Int × Int × Int :=
  if al = [] then (cur, cur, 0) else
  let rs := (al.take 2).map fun a => numP a cur last ms
  let bad := (rs.map (·.2)).foldl badStep 0
  let ns := rs.map (·.1)
  if bad ≠ 0 then (0, 0, bad) else if ns.getD (ns.length - 1) 0 < ns.getD 0 0 then (0, 0, 1) else (ns.getD 0 0, ns.getD (ns.length - 1) 0, 0)
structure Sm (al : List A) (cur last : Int) (ms : List (Int × Int)) : Prop where
  num : ∀ a ∈ al, -big ≤ a.n ∧ a.n ≤ big ∧ -big ≤ a.off ∧ a.off ≤ big
  hcur : -big ≤ cur ∧ cur ≤ big
  hlast : -big ≤ last ∧ last ≤ big
  hms : ∀ m ∈ ms, -big ≤ m.2 ∧ m.2 ≤ big
  len : ms.length ≤ 1000
theorem findM_mem {ms : List (Int × Int)} {name n : Int} (h : findM ms name = some n) : ∃ m ∈ ms, m.2 = n := by
  unfold findM at h
  cases hf : ms.find? fun m => m.1 == name with
  | none => rw [hf] at h; cases h
  | some m => rw [hf] at h; injection h with h; exact ⟨m, List.mem_of_find?_eq_some hf, h⟩
theorem findM_take_none {ms : List (Int × Int)} {name : Int} {i : Nat} (hi : i < ms.length) (h : findM (ms.take i) name = none) : findM (ms.take (i + 1)) name = if ms[i].1 = name then some ms[i].2 else none := by
  unfold findM at *
  rw [List.take_succ_eq_append_getElem hi, List.find?_append]
  have : (ms.take i).find? (fun m => m.1 == name) = none := by
    cases hf : (ms.take i).find? fun m => m.1 == name with
    | none => rfl
    | some m => rw [hf] at h; cases h
  rw [this]
  by_cases hm : ms[i].1 = name
  · simp [hm]
  · simp [hm]
theorem findM_take_some {ms : List (Int × Int)} {name n : Int} {i : Nat} (h : findM (ms.take i) name = some n) : findM ms name = some n := by
  unfold findM at *
  cases hf : (ms.take i).find? fun m => m.1 == name with
  | none => rw [hf] at h; cases h
  | some m =>
    have : ms.find? (fun m => m.1 == name) = some m := by
      conv => lhs; rw [← List.take_append_drop i ms]
      rw [List.find?_append, hf]; rfl
    rw [this]; rw [hf] at h; exact h
theorem headN_err (a : A) (cur last : Int) (ms : List (Int × Int)) : (headN a cur last ms).2 = 0 ∨ (headN a cur last ms).2 = 1 ∨ (headN a cur last ms).2 = 9 := by
  unfold headN
  split
  · exact .inl rfl
  split
  · exact .inl rfl
  split
  · exact .inl rfl
  split
  · split
    · exact .inl rfl
    · exact .inr (.inr rfl)
  · exact .inr (.inl rfl)
theorem lineR_err (a : A) (cur last : Int) (ms : List (Int × Int)) : (lineR a cur last ms).2 = 0 ∨ (lineR a cur last ms).2 = 1 ∨ (lineR a cur last ms).2 = 9 := by
  unfold lineR
  split
  · exact .inl rfl
  · exact headN_err a cur last ms
theorem Sm.head {al : List A} {cur last : Int} {ms : List (Int × Int)} (h : Sm al cur last ms) {a : A} (ha : a ∈ al) : -big ≤ (headN a cur last ms).1 ∧ (headN a cur last ms).1 ≤ big := by
  have hb : (0 : Int) ≤ big := by decide
  have h1 := h.num a ha
  have h2 := h.hcur
  have h3 := h.hlast
  unfold headN
  split
  · exact ⟨h1.1, h1.2.1⟩
  split
  · exact h2
  split
  · exact h3
  split
  · split
    · rename_i n hn
      obtain ⟨m, hm, rfl⟩ := findM_mem hn
      exact h.hms m hm
    · exact ⟨by show -big ≤ 0; omega, hb⟩
  · exact ⟨by show -big ≤ 0; omega, hb⟩
end Go.Vc
namespace Go.Proofs.Ytdkeccgcleamcaa
open Go.RowKit Go.Vc
section
variable {w : World} {ok ok' : Nat → Prop} {q : Option Addr} {al : List A} {cur last : Int} {ms : List (Int × Int)}
theorem marked_does (hm : Mks w ok q ms) (hl : ms.length ≤ 1000) (c : Nat) (name : Int) : Does Try.prog 38 #[.slice q ms.length c, .int .u8 name] w fun e w' => Ext w w' ∧
    match findM ms name with
    | some n => e = .returned (.tuple #[.int .i64 n, .bool true])
    | none => e = .returned (.tuple #[.int .i64 0, .bool false]) := by
  apply f38_does
  refine ⟨fun x nl wl => ∃ i : Nat, x = i ∧ nl = ms.length - i ∧ i ≤ ms.length ∧ findM (ms.take i) name = none ∧ Ext w wl, ⟨_, 0, rfl, rfl, Nat.zero_le _, rfl, Upd.refl _ _⟩, ?_⟩
  rintro _ _ wl ⟨i, rfl, rfl, hi, hno, x⟩
  refine brr (fun q1 => ?_) fun q1 => ?_
  · have q1 := of_decide_eq_true q1
    have hlt : i < ms.length := by omega
    obtain ⟨b, o, hp, _, h1, h2, _⟩ := (hm.ext x).at i hlt
    have hstep := findM_take_none hlt hno
    refine ⟨⟨by omega, by omega⟩, b, o, hp, _, h1, _, h2, fun b7 w7 hb7 => hb7.blk.st2 rfl fun w8 B7 u8 => ?_⟩
    have x8 : Ext w w8 := (Ext.thn x hb7.ext).loc (by have := x.size; have := hb7.eq; omega) u8
    refine ⟨_, B7.cell 0 rfl, brr (fun q2 => ?_) fun q2 => ?_⟩
    · have q2 : ms[i].1 = name := by simpa using q2
      rw [if_pos q2] at hstep
      rw [findM_take_some hstep]
      exact ⟨_, B7.cell 1 rfl, x8, rfl⟩
    · have q2 : ms[i].1 ≠ name := by simpa using q2
      rw [if_neg q2] at hstep
      exact ⟨inI64 (by omega) (by omega), _, by omega, i + 1, by omega, rfl, hlt, hstep, x8⟩
  · have q1 := of_decide_eq_false q1
    obtain rfl : i = ms.length := by omega
    rw [List.take_length] at hno
    rw [hno]
    exact ⟨x, rfl⟩
theorem number_p_does (hm : Mks w ok q ms) (S : Sm al cur last ms) (c : Nat) {a : A} (ha : a ∈ al) :
    Does Try.prog 32 #[aggA a, .int .i64 cur, .int .i64 last, .slice q ms.length c] w fun e w' => Ext w w' ∧ e = .returned (.tuple #[.int .i64 (numP a cur last ms).1, .int .i64 (numP a cur last ms).2]) := by
  apply f32_does
  intro b4 w4 hb4
  have B4 := hb4.blk
  have x4 := hb4.ext
  have h1 := S.num a ha
  have h2 := S.hcur
  have h3 := S.hlast
  have hbg : big = 1099511627776 := rfl
  -- where there is a line
  have fin : ∀ {n : Int} {wv : World}, headN a cur last ms = (n, 0) → Ext w wv → -big ≤ n → n ≤ big → wv.cell? ⟨b4, 2, none⟩ = some (.int .i64 a.off) → ∀ {R : Ending → World → Prop}, (∀ e w', Ext w w' ∧ e = .returned (.tuple #[.int .i64 (numP a cur last ms).1, .int .i64 (numP a cur last ms).2]) → R e w') →
      ∃ n39 : Int, wv.cell? ⟨b4, 2, none⟩ = some (.int .i64 n39) ∧ InK .i64 (n + n39) ∧ Br (decide ((n + n39) < 1)) (R (.returned (.tuple #[.int .i64 0, .int .i64 1])) wv) (Br (decide ((n + n39) > last)) (R (.returned (.tuple #[.int .i64 0, .int .i64 1])) wv) (R (.returned (.tuple #[.int .i64 (n + n39), .int .i64 0])) wv)) := by
    intro n wv hh x b1 b2 hc R hR
    have hl : lineR a cur last ms = (n + a.off, 0) := by unfold lineR; rw [hh]; rfl
    refine ⟨_, hc, inI64 (by omega) (by omega), brr (fun q => hR _ _ ⟨x, ?_⟩) fun q => brr (fun q1 => hR _ _ ⟨x, ?_⟩) fun q1 => hR _ _ ⟨x, ?_⟩⟩
    · have q := of_decide_eq_true q
      have : numP a cur last ms = (0, 1) := by unfold numP; rw [hl, if_pos rfl, if_pos (.inl q)]
      rw [this]
    · have q1 := of_decide_eq_true q1
      have : numP a cur last ms = (0, 1) := by unfold numP; rw [hl, if_pos rfl, if_pos (.inr q1)]
      rw [this]
    · have q := of_decide_eq_false q
      have q1 := of_decide_eq_false q1
      have : numP a cur last ms = (n + a.off, 0) := by unfold numP; rw [hl, if_pos rfl, if_neg (by simp only; omega)]
      rw [this]
  have err : ∀ {e0 : Int} {wv : World}, headN a cur last ms = (0, e0) → e0 ≠ 0 → Ext w wv → Ext w wv ∧ Ending.returned (.tuple #[.int .i64 0, .int .i64 e0]) = .returned (.tuple #[.int .i64 (numP a cur last ms).1, .int .i64 (numP a cur last ms).2]) := by
    intro e0 wv hh h0 x
    have hl : lineR a cur last ms = (0, e0) := by unfold lineR; rw [hh, if_neg h0]
    have : numP a cur last ms = (0, e0) := by unfold numP; rw [hl, if_neg h0]
    rw [this]
    exact ⟨x, rfl⟩
  refine ⟨_, B4.cell 0 rfl, brr (fun q => ?_) fun q => ?_⟩
  · have q : a.kind = 110 := by simpa using q
    have hh : headN a cur last ms = (a.n, 0) := by unfold headN; rw [if_pos q]
    exact ⟨_, B4.cell 1 rfl, fin hh x4 h1.1 h1.2.1 (B4.cell 2 rfl) fun _ _ h => h⟩
  have q : a.kind ≠ 110 := by simpa using q
  refine brr (fun q1 => ?_) fun q1 => ?_
  · have q1 : a.kind = 46 := by simpa using q1
    have hh : headN a cur last ms = (cur, 0) := by unfold headN; rw [if_neg q, if_pos q1]
    exact fin hh x4 h2.1 h2.2 (B4.cell 2 rfl) fun _ _ h => h
  have q1 : a.kind ≠ 46 := by simpa using q1
  refine brr (fun q2 => ?_) fun q2 => ?_
  · have q2 : a.kind = 36 := by simpa using q2
    have hh : headN a cur last ms = (last, 0) := by unfold headN; rw [if_neg q, if_neg q1, if_pos q2]
    exact fin hh x4 h3.1 h3.2 (B4.cell 2 rfl) fun _ _ h => h
  have q2 : a.kind ≠ 36 := by simpa using q2
  refine brr (fun q3 => ?_) fun q3 => ?_
  · have q3 : a.kind = 109 := by simpa using q3
    refine ⟨_, B4.cell 3 rfl, (marked_does (hm.ext x4) S.len c a.mark).imp ?_⟩
    rintro e w31 ⟨x31, hr⟩
    have X := Ext.thn x4 x31
    cases hf : findM ms a.mark with
    | none =>
      rw [hf] at hr
      subst hr
      have hh : headN a cur last ms = (0, 9) := by unfold headN; rw [if_neg q, if_neg q1, if_neg q2, if_pos q3, hf]
      exact ⟨_, _, rfl, tru rfl (err hh (by decide) X)⟩
    | some n =>
      rw [hf] at hr
      subst hr
      have hh : headN a cur last ms = (n, 0) := by unfold headN; rw [if_neg q, if_neg q1, if_neg q2, if_pos q3, hf]
      obtain ⟨m, hmm, rfl⟩ := findM_mem hf
      exact ⟨_, _, rfl, fls rfl (fin hh X (S.hms m hmm).1 (S.hms m hmm).2 ((B4.ext x31).cell 2 rfl) fun _ _ h => h)⟩
  have q3 : a.kind ≠ 109 := by simpa using q3
  have hh : headN a cur last ms = (0, 1) := by unfold headN; rw [if_neg q, if_neg q1, if_neg q2, if_neg q3]
  exact err hh (by decide) x4
theorem rline_does (hm : Mks w ok q ms) (S : Sm al cur last ms) (c : Nat) {a : A} (ha : a ∈ al) :
    Does Try.prog 33 #[aggA a, .int .i64 cur, .int .i64 last, .slice q ms.length c] w fun e w' => Ext w w' ∧ e = .returned (.tuple #[.int .i64 (lineR a cur last ms).1, .int .i64 (lineR a cur last ms).2]) := by
  apply f33_does
  intro b4 w4 hb4
  have B4 := hb4.blk
  have x4 := hb4.ext
  have h1 := S.num a ha
  have h2 := S.hcur
  have h3 := S.hlast
  have hbg : big = 1099511627776 := rfl
  have fin : ∀ {n : Int} {wv : World}, headN a cur last ms = (n, 0) → Ext w wv → -big ≤ n → n ≤ big → wv.cell? ⟨b4, 2, none⟩ = some (.int .i64 a.off) → ∀ {R : Ending → World → Prop}, (∀ e w', Ext w w' ∧ e = .returned (.tuple #[.int .i64 (lineR a cur last ms).1, .int .i64 (lineR a cur last ms).2]) → R e w') →
      ∃ n39 : Int, wv.cell? ⟨b4, 2, none⟩ = some (.int .i64 n39) ∧ InK .i64 (n + n39) ∧ R (.returned (.tuple #[.int .i64 (n + n39), .int .i64 0])) wv := by
    intro n wv hh x b1 b2 hc R hR
    have hl : lineR a cur last ms = (n + a.off, 0) := by unfold lineR; rw [hh]; rfl
    exact ⟨_, hc, inI64 (by omega) (by omega), hR _ _ ⟨x, by rw [hl]⟩⟩
  have err : ∀ {e0 : Int} {wv : World}, headN a cur last ms = (0, e0) → e0 ≠ 0 → Ext w wv → Ext w wv ∧ Ending.returned (.tuple #[.int .i64 0, .int .i64 e0]) = .returned (.tuple #[.int .i64 (lineR a cur last ms).1, .int .i64 (lineR a cur last ms).2]) := by
    intro e0 wv hh h0 x
    have hl : lineR a cur last ms = (0, e0) := by unfold lineR; rw [hh, if_neg h0]
    rw [hl]
    exact ⟨x, rfl⟩
  refine ⟨_, B4.cell 0 rfl, brr (fun q => ?_) fun q => ?_⟩
  · have q : a.kind = 110 := by simpa using q
    have hh : headN a cur last ms = (a.n, 0) := by unfold headN; rw [if_pos q]
    exact ⟨_, B4.cell 1 rfl, fin hh x4 h1.1 h1.2.1 (B4.cell 2 rfl) fun _ _ h => h⟩
  have q : a.kind ≠ 110 := by simpa using q
  refine brr (fun q1 => ?_) fun q1 => ?_
  · have q1 : a.kind = 46 := by simpa using q1
    have hh : headN a cur last ms = (cur, 0) := by unfold headN; rw [if_neg q, if_pos q1]
    exact fin hh x4 h2.1 h2.2 (B4.cell 2 rfl) fun _ _ h => h
  have q1 : a.kind ≠ 46 := by simpa using q1
  refine brr (fun q2 => ?_) fun q2 => ?_
  · have q2 : a.kind = 36 := by simpa using q2
    have hh : headN a cur last ms = (last, 0) := by unfold headN; rw [if_neg q, if_neg q1, if_pos q2]
    exact fin hh x4 h3.1 h3.2 (B4.cell 2 rfl) fun _ _ h => h
  have q2 : a.kind ≠ 36 := by simpa using q2
  refine brr (fun q3 => ?_) fun q3 => ?_
  · have q3 : a.kind = 109 := by simpa using q3
    refine ⟨fun n f x nl wl => ∃ i : Nat, x = i ∧ nl = ms.length - i ∧ i ≤ ms.length ∧ (match findM (ms.take i) a.mark with | some m => f = true ∧ n = m | none => f = false ∧ n = 0) ∧ Ext w wl ∧ Blk wl b4 _, ⟨_, 0, rfl, rfl, Nat.zero_le _, ⟨rfl, rfl⟩, x4, B4⟩, ?_⟩
    rintro n f _ _ wl ⟨i, rfl, rfl, hi, hst, x, C4⟩
    refine brr (fun q4 wd hd => ?_) fun q4 => ?_
    · have q4 := of_decide_eq_true q4
      have hlt : i < ms.length := by have : (i : Int) < ms.length := q4; omega
      have xd := Ext.thn x hd.ext
      have Cd := C4.ext hd.ext
      obtain ⟨b, o, hp, _, h1, h2, _⟩ := (hm.ext xd).at i hlt
      refine ⟨⟨by omega, by omega⟩, b, o, hp, _, h1, _, Cd.cell 3 rfl, brr (fun q5 => ?_) fun q5 => ?_⟩
      · have q5 : ms[i].1 = a.mark := by simpa using q5
        cases hf : findM (ms.take i) a.mark with
        | none =>
          rw [hf] at hst
          obtain ⟨rfl, rfl⟩ := hst
          have hstep := findM_take_none hlt hf
          rw [if_pos q5] at hstep
          exact tru rfl ⟨⟨by omega, by omega⟩, b, o, hp, _, h2, inI64 (by omega) (by have := S.len; omega), _, by omega, i + 1, by omega, rfl, hlt, by rw [hstep]; exact ⟨rfl, rfl⟩, xd, Cd⟩
        | some m =>
          rw [hf] at hst
          obtain ⟨rfl, rfl⟩ := hst
          have hstep : findM (ms.take (i + 1)) a.mark = some n := findM_take_some (i := i) (by rw [List.take_take, Nat.min_eq_left (by omega)]; exact hf)
          exact fls rfl ⟨inI64 (by omega) (by have := S.len; omega), _, by omega, i + 1, by omega, rfl, hlt, by rw [hstep]; exact ⟨rfl, rfl⟩, xd, Cd⟩
      · have q5 : ms[i].1 ≠ a.mark := by simpa using q5
        refine ⟨inI64 (by omega) (by have := S.len; omega), _, by omega, i + 1, by omega, rfl, hlt, ?_, xd, Cd⟩
        cases hf : findM (ms.take i) a.mark with
        | none =>
          rw [hf] at hst
          have hstep := findM_take_none hlt hf
          rw [if_neg q5] at hstep
          rw [hstep]; exact hst
        | some m =>
          rw [hf] at hst
          have hstep : findM (ms.take (i + 1)) a.mark = some m := findM_take_some (i := i) (by rw [List.take_take, Nat.min_eq_left (by omega)]; exact hf)
          rw [hstep]; exact hst
    · have q4 := of_decide_eq_false q4
      obtain rfl : i = ms.length := by have : ¬ (i : Int) < ms.length := q4; omega
      rw [List.take_length] at hst
      cases hf : findM ms a.mark with
      | none =>
        rw [hf] at hst
        obtain ⟨rfl, rfl⟩ := hst
        have hh : headN a cur last ms = (0, 9) := by unfold headN; rw [if_neg q, if_neg q1, if_neg q2, if_pos q3, hf]
        exact tru rfl (err hh (by decide) x)
      | some m =>
        rw [hf] at hst
        obtain ⟨rfl, rfl⟩ := hst
        have hh : headN a cur last ms = (n, 0) := by unfold headN; rw [if_neg q, if_neg q1, if_neg q2, if_pos q3, hf]
        obtain ⟨m, hmm, rfl⟩ := findM_mem hf
        exact fls rfl (fin hh x (S.hms m hmm).1 (S.hms m hmm).2 (C4.cell 2 rfl) fun _ _ h => h)
  have q3 : a.kind ≠ 109 := by simpa using q3
  have hh : headN a cur last ms = (0, 1) := by unfold headN; rw [if_neg q, if_neg q1, if_neg q2, if_neg q3]
  exact err hh (by decide) x4
theorem slI : SlT Try.prog 73 3 1 8 := ⟨Try.underlying73, _, _, rfl, rfl, rfl, rfl, rfl, by decide⟩
theorem numP_in (S : Sm al cur last ms) {a : A} (ha : a ∈ al) : InK .i64 (numP a cur last ms).1 ∧ InK .i64 (numP a cur last ms).2 := by
  have h1 := S.head ha
  have h2 := S.num a ha
  have hbg : big = 1099511627776 := rfl
  have he := lineR_err a cur last ms
  unfold numP
  split
  · split
    · exact ⟨by decide, by decide⟩
    · rename_i h0 h3
      refine ⟨?_, by show InK .i64 0; decide⟩
      unfold lineR at *
      split
      · exact inI64 (by show _ ≤ _ + _; omega) (by show _ + _ ≤ _; omega)
      · exact inI64 (by show _ ≤ (0 : Int); omega) (by show (0 : Int) ≤ _; omega)
  · refine ⟨by show InK .i64 0; decide, ?_⟩
    rcases he with he | he | he <;> rw [he] <;> decide
theorem resolve_does {p : Option Addr} (hA : Addrs w ok p al) {c : Nat} (hcap : al.length ≤ c) (hm : Mks w ok' q ms) (S : Sm al cur last ms) (d : Nat) {s1 s2 : ByteArray} {bg : Bool} :
    Does Try.prog 17 #[.agg #[.slice p al.length c, .string s1, .bool bg, .string s2], .int .i64 cur, .int .i64 last, .slice q ms.length d] w fun e w' => Ext w w' ∧
      e = .returned (.tuple #[.int .i64 (resolveF al cur last ms).1, .int .i64 (resolveF al cur last ms).2.1, .int .i64 (resolveF al cur last ms).2.2]) := by
  apply f17_does
  intro b4 w4 hb4
  have B4 := hb4.blk
  have x4 := hb4.ext
  refine ⟨_, _, _, B4.cell 0 rfl, brr (fun q0 => ?_) fun q0 => ?_⟩
  · have q0 : al.length = 0 := by have : (al.length : Int) = 0 := by simpa using q0
                                  omega
    rw [List.length_eq_zero_iff.1 q0]
    exact ⟨x4, rfl⟩
  have q0 : al ≠ [] := by
    intro e
    rw [e] at q0
    simp at q0
  have h0 : 0 < al.length := List.length_pos_iff.2 q0
  obtain ⟨m, hmin⟩ : ∃ m : Nat, m = min 2 al.length := ⟨_, rfl⟩
  have hmi : (if (2 : Int) < (al.length : Int) then 2 else (al.length : Int)) = (m : Int) := by
    split <;> omega
  have htk : (al.take 2).length = m := by rw [List.length_take]; omega
  refine ⟨_, _, _, B4.cell 0 rfl, _, _, _, B4.cell 0 rfl, ?_⟩
  simp only [hmi, Int.toNat_natCast, Nat.sub_zero]
  have hA2 : Addrs w ok (subp p 0 c 4) (al.take 2) := by
    have := hA.sub 0 m c (by omega)
    rw [List.drop_zero] at this
    have e : al.take 2 = al.take m := by
      rcases Nat.lt_or_ge al.length 2 with h | h
      · rw [List.take_of_length_le (by omega), List.take_of_length_le (by omega)]
      · rw [show m = 2 by omega]
    rw [e]; exact this
  refine ⟨⟨by omega, by omega⟩, fun p11 l11 c11 bad x nl wl => ∃ i : Nat, x = i ∧ nl = m - i ∧ i ≤ m ∧ bad = ((((al.take 2).take i).map fun a => numP a cur last ms).map (·.2)).foldl badStep 0 ∧
      Own wl w4.heap.size 3 1 p11 l11 c11 (((((al.take 2).take i).map fun a => numP a cur last ms).map (·.1)).map (Value.int .i64)) ∧ Ext w4 wl, ⟨_, 0, rfl, rfl, Nat.zero_le _, rfl, own_nil _ _ _ _, Upd.refl _ _⟩, ?_⟩
  rintro p11 l11 c11 bad _ _ wl ⟨i, rfl, rfl, hi, hbad, ho, x⟩
  have hll := ho.len
  simp only [List.length_map, List.length_take] at hll
  refine brr (fun q1 => ?_) fun q1 => ?_
  · have q1 := of_decide_eq_true q1
    have hlt : i < m := by omega
    have hlt2 : i < (al.take 2).length := by omega
    obtain ⟨g, o, hp, h1, h2, h3, h4⟩ := ((hA2.ext x4).ext x).cell4 i hlt2
    refine ⟨⟨by omega, by omega⟩, g, o, hp, _, h1, _, h2, _, h3, _, h4, fun b14 w14 hb14 => hb14.blk.st4 rfl fun w15 B14 u15 => ?_⟩
    have x15 : Ext w4 w15 := (Ext.thn x hb14.ext).loc (by have := x.size; have := hb14.eq; omega) u15
    have hma : (al.take 2)[i] ∈ al := List.mem_of_mem_take (List.getElem_mem hlt2)
    refine ⟨_, B14.cell 0 rfl, _, B14.cell 1 rfl, _, B14.cell 2 rfl, _, B14.cell 3 rfl, (number_p_does ((hm.ext x4).ext x15) S d hma).imp ?_⟩
    rintro e w42 ⟨x42, rfl⟩
    obtain ⟨k1, k2⟩ := numP_in S hma
    have hsnoc : (al.take 2).take (i + 1) = (al.take 2).take i ++ [(al.take 2)[i]] := List.take_succ_eq_append_getElem hlt2
    have X42 := Ext.thn x15 x42
    have step : ∀ {b54 w54}, NewBlk w42 b54 [.int .i64 (numP (al.take 2)[i] cur last ms).1] 3 w54 → ∀ bad', bad' = badStep bad (numP (al.take 2)[i] cur last ms).2 →
        ∃ (p' : Option Addr) (l' c' : Nat) (w' : World), (Builtin.append_ #[73, 73] 73 #[.slice p11 l11 c11, .slice (some ⟨b54, 0, none⟩) 1 1]).run Try.prog w54 = .ok (.slice p' l' c') w' ∧ InK .i64 ((i : Int) + 1) ∧ ∃ ml, ml < m - i ∧
          ∃ i' : Nat, ((i : Int) + 1) = i' ∧ ml = m - i' ∧ i' ≤ m ∧ bad' = ((((al.take 2).take i').map fun a => numP a cur last ms).map (·.2)).foldl badStep 0 ∧
            Own w' w4.heap.size 3 1 p' l' c' (((((al.take 2).take i').map fun a => numP a cur last ms).map (·.1)).map (Value.int .i64)) ∧ Ext w4 w' := by
      intro b54 w54 hb54 bad' hb'
      have hz42 := X42.size
      have hx54 : Ext wl w54 := Ext.thn ((hb14.ext).loc (by have := hb14.eq; omega) u15) (Ext.thn x42 hb54.ext)
      have ho1 := ho.ext hx54
      have hI := hb54.ints (k := .i64) [(numP (al.take 2)[i] cur last ms).1] rfl (by simpa using k1)
      obtain ⟨p', c', w', hr, ho', hu, _⟩ := append_own slI 73 ho1 (l2 := 1) (c2 := 1) (news := [Value.int .i64 (numP (al.take 2)[i] cur last ms).1]) rfl (fun j u hj => ⟨b54, 0, rfl, by rw [Nat.zero_add]; exact hb54.cell j hj⟩) (by simp [Value.oneCell']) (by simp only [maxLen]; omega) (by omega) (by have := hb54.ext.size; omega)
      refine ⟨p', _, c', w', hr, inI64 (by omega) (by omega), _, ?_, i + 1, by omega, rfl, hlt, ?_, ?_, Own.ext_of ho1 hu (Ext.thn X42 hb54.ext) (Nat.le_refl _)⟩
      · omega
      · rw [hsnoc, hb', hbad]; simp
      · rw [hsnoc]; simpa using ho'
    refine ⟨_, _, rfl, brr (fun q2 => ?_) fun q2 b54 w54 hb54 => ?_⟩
    · have q2 : (numP (al.take 2)[i] cur last ms).2 ≠ 0 := by simpa using q2
      refine brr (fun q3 b54 w54 hb54 => ?_) fun q3 b54 w54 hb54 => ?_
      · have q3 : bad ≠ 9 := by simpa using q3
        exact step hb54 _ (by unfold badStep; rw [if_pos ⟨q2, q3⟩])
      · have q3 : bad = 9 := by simpa using q3
        exact step hb54 _ (by unfold badStep; rw [if_neg (fun h => h.2 q3)])
    · have q2 : (numP (al.take 2)[i] cur last ms).2 = 0 := by simpa using q2
      exact step hb54 _ (by unfold badStep; rw [if_neg (fun h => h.1 q2)])
  · have q1 := of_decide_eq_false q1
    obtain rfl : i = m := by omega
    intro wd hd
    rw [← htk, List.take_length] at ho hbad
    have xd : Ext w wd := Ext.thn x4 (Ext.thn x hd.ext)
    obtain ⟨ns, hns⟩ : ∃ ns, ns = ((al.take 2).map fun a => numP a cur last ms).map (·.1) := ⟨_, rfl⟩
    rw [← hns] at ho
    have hnl : ns.length = (al.take 2).length := by rw [hns]; simp
    have hnk : ∀ n ∈ ns, InK .i64 n := by
      intro n hn
      rw [hns] at hn
      obtain ⟨r, hr, rfl⟩ := List.mem_map.1 hn
      obtain ⟨a, ha, rfl⟩ := List.mem_map.1 hr
      exact (numP_in S (List.mem_of_mem_take ha)).1
    have hI := (ho.ext hd.ext).any hnk
    have hl11 : l11 = ns.length := by rw [hll]; omega
    obtain ⟨g, o, hp, hc⟩ := hI.at 0 (by omega)
    obtain ⟨g', o', hp', hc'⟩ := hI.at (ns.length - 1) (by omega)
    have e1 : ((l11 : Int) - 1).toNat = ns.length - 1 := by omega
    have g0 : ns[0]'(by omega) = ns.getD 0 0 := by rw [List.getD_eq_getElem?_getD, List.getElem?_eq_getElem (by omega)]; rfl
    have g1 : ns[ns.length - 1]'(by omega) = ns.getD (ns.length - 1) 0 := by rw [List.getD_eq_getElem?_getD, List.getElem?_eq_getElem (by omega)]; rfl
    have hF : resolveF al cur last ms = if bad ≠ 0 then (0, 0, bad) else if ns.getD (ns.length - 1) 0 < ns.getD 0 0 then (0, 0, 1) else (ns.getD 0 0, ns.getD (ns.length - 1) 0, 0) := by
      unfold resolveF
      rw [if_neg q0, hbad, hns]
    refine ⟨⟨by omega, by omega⟩, g, o, hp, _, hc, inI64 (by omega) (by omega), ⟨by omega, by omega⟩, g', o', hp', _, by rw [e1]; exact hc', brr (fun q2 => ?_) fun q2 => ?_⟩
    · have q2 : bad ≠ 0 := by simpa using q2
      rw [hF, if_pos q2]
      exact ⟨xd, rfl⟩
    have q2 : ¬ bad ≠ 0 := by simpa using q2
    rw [g0, g1]
    refine brr (fun q3 => ?_) fun q3 => ?_
    · have q3 := of_decide_eq_true q3
      rw [hF, if_neg q2, if_pos q3]
      exact ⟨xd, rfl⟩
    · have q3 := of_decide_eq_false q3
      rw [hF, if_neg q2, if_neg q3]
      exact ⟨xd, rfl⟩
end
end Go.Proofs.Ytdkeccgcleamcaa
