/-
  Command lines: the reference's range to lines, and the law.
-/
import Derived.Test.YtdkeccgcleamcaaLineResolve
namespace Go.Vc
open Go.RowKit
section
variable {al : List A} {cur last : Int} {ms : List (Int × Int)}
theorem numP_nine {a : A} : (numP a cur last ms).2 = 9 ↔ (lineR a cur last ms).2 = 9 := by
  have h := lineR_err a cur last ms
  unfold numP
  split
  · rename_i h0
    split
    · simp [h0]
    · simp [h0]
  · exact Iff.rfl
theorem numP_err (a : A) (cur last : Int) (ms : List (Int × Int)) : (numP a cur last ms).2 = 0 ∨ (numP a cur last ms).2 = 1 ∨ (numP a cur last ms).2 = 9 := by
  have h := lineR_err a cur last ms
  unfold numP
  split
  · split
    · exact .inr (.inl rfl)
    · exact .inl rfl
  · exact h
theorem numP_in1 {a : A} (h : (numP a cur last ms).2 = 0) : 1 ≤ (numP a cur last ms).1 ∧ (numP a cur last ms).1 ≤ last := by
  unfold numP at *
  split at h
  · rename_i h0
    rw [if_pos h0]
    split at h
    · cases h
    · rename_i h1
      rw [if_neg h1]
      simp only; omega
  · rename_i h0; exact absurd h h0
theorem resolve_nine {a : A} (ha : a ∈ al.take 2) (h : (lineR a cur last ms).2 = 9) : resolveF al cur last ms = (0, 0, 9) := by
  have h := numP_nine.2 h
  match al with
  | [] => cases ha
  | [b] =>
    obtain rfl : a = b := by simpa using ha
    simp [resolveF, badStep, h]
  | b :: c :: r =>
    have hb := numP_err b cur last ms
    have : a = b ∨ a = c := by simpa using ha
    rcases this with rfl | rfl
    · simp [resolveF, badStep, h]
    · rcases hb with hb | hb | hb <;> simp [resolveF, badStep, h, hb]
theorem resolve_one {a : A} (ha : a ∈ al.take 2) (h9 : ∀ a ∈ al.take 2, (lineR a cur last ms).2 ≠ 9) (h : (numP a cur last ms).2 ≠ 0) : resolveF al cur last ms = (0, 0, 1) := by
  have h9 : ∀ a ∈ al.take 2, (numP a cur last ms).2 ≠ 9 := fun a ha e => h9 a ha (numP_nine.1 e)
  match al with
  | [] => cases ha
  | [b] =>
    obtain rfl : a = b := by simpa using ha
    have h1 : (numP a cur last ms).2 = 1 := by have := numP_err a cur last ms; have := h9 a ha; omega
    simp [resolveF, badStep, h1]
  | b :: c :: r =>
    have hb := numP_err b cur last ms
    have hc := numP_err c cur last ms
    have b9 := h9 b (by simp)
    have c9 := h9 c (by simp)
    have : a = b ∨ a = c := by simpa using ha
    rcases this with rfl | rfl
    · have h1 : (numP a cur last ms).2 = 1 := by omega
      rcases hc with hc | hc | hc
      · simp [resolveF, badStep, h1, hc]
      · simp [resolveF, badStep, h1, hc]
      · exact absurd hc c9
    · have h1 : (numP a cur last ms).2 = 1 := by omega
      rcases hb with hb | hb | hb
      · simp [resolveF, badStep, h1, hb]
      · simp [resolveF, badStep, h1, hb]
      · exact absurd hb b9
def v0F (al : List A) (cur last : Int) (ms : List (Int × Int)) : Int := match al with | [] => cur | a :: _ => (numP a cur last ms).1
def v1F (al : List A) (cur last : Int) (ms : List (Int × Int)) : Int := match al with | [] => cur | [a] => (numP a cur last ms).1 | _ :: b :: _ => (numP b cur last ms).1
theorem resolve_ok (h : ∀ a ∈ al.take 2, (numP a cur last ms).2 = 0) : resolveF al cur last ms = if v1F al cur last ms < v0F al cur last ms then (0, 0, 1) else (v0F al cur last ms, v1F al cur last ms, 0) := by
  match al with
  | [] => simp [resolveF, v0F, v1F]
  | [a] =>
    have := h a (by simp)
    simp [resolveF, v0F, v1F, badStep, this]
  | a :: b :: r =>
    have h1 := h a (by simp)
    have h2 := h b (by simp)
    by_cases hlt : (numP b cur last ms).1 < (numP a cur last ms).1 <;> simp [resolveF, v0F, v1F, badStep, h1, h2, hlt]
theorem resolve_within (hne : al ≠ []) (h : (resolveF al cur last ms).2.2 = 0) : 1 ≤ (resolveF al cur last ms).1 ∧ (resolveF al cur last ms).1 ≤ (resolveF al cur last ms).2.1 ∧ (resolveF al cur last ms).2.1 ≤ last := by
  by_cases h9 : ∃ a ∈ al.take 2, (lineR a cur last ms).2 = 9
  · obtain ⟨a, ha, h9⟩ := h9
    rw [resolve_nine ha h9] at h; cases h
  have h9 : ∀ a ∈ al.take 2, (lineR a cur last ms).2 ≠ 9 := fun a ha e => h9 ⟨a, ha, e⟩
  by_cases h1 : ∃ a ∈ al.take 2, (numP a cur last ms).2 ≠ 0
  · obtain ⟨a, ha, h1⟩ := h1
    rw [resolve_one ha h9 h1] at h; cases h
  have h1 : ∀ a ∈ al.take 2, (numP a cur last ms).2 = 0 := fun a ha => Classical.byContradiction fun e => h1 ⟨a, ha, e⟩
  rw [resolve_ok h1] at h ⊢
  split at h
  · cases h
  · rename_i h2
    rw [if_neg h2]
    match al, hne with
    | [a], _ =>
      have := numP_in1 (h1 a (by simp))
      simp only [v0F, v1F] at *; omega
    | a :: b :: r, _ =>
      have := numP_in1 (h1 a (by simp))
      have := numP_in1 (h1 b (by simp))
      simp only [v0F, v1F] at *; omega
end
end Go.Vc
namespace Go.Proofs.Ytdkeccgcleamcaa
open Go.RowKit Go.Vc
section
variable {w : World} {ok ok' : Nat → Prop} {q : Option Addr} {al : List A} {cur last : Int} {ms : List (Int × Int)}
theorem rresolve_does {p : Option Addr} (hA : Addrs w ok p al) (c : Nat) (hm : Mks w ok' q ms) (S : Sm al cur last ms) (hal : al.length ≤ 1000) (d : Nat) {s1 s2 : ByteArray} {bg : Bool} :
    Does Try.prog 19 #[.agg #[.slice p al.length c, .string s1, .bool bg, .string s2], .int .i64 cur, .int .i64 last, .slice q ms.length d] w fun e w' => Ext w w' ∧
      e = .returned (.tuple #[.int .i64 (resolveF al cur last ms).1, .int .i64 (resolveF al cur last ms).2.1, .int .i64 (resolveF al cur last ms).2.2]) := by
  apply f19_does
  intro b4 w4 hb4 b20 w20 hb20
  have x4 := Ext.thn hb4.ext hb20.ext
  have B4 := hb4.blk.ext hb20.ext
  have B20 := hb20.blk
  have e20 := hb20.eq
  have s4 := hb4.size
  have e4 := hb4.eq
  have hne : b4 ≠ b20 := by omega
  refine ⟨fun _ wc => (∀ a ∈ al.take 2, (lineR a cur last ms).2 ≠ 9) ∧ Ext w20 wc, ?_, ?_⟩
  · refine ⟨fun x nl wl => ∃ i : Nat, x = i ∧ nl = 2 - i ∧ i ≤ 2 ∧ i ≤ al.length ∧ (∀ a ∈ al.take i, (lineR a cur last ms).2 ≠ 9) ∧ Ext w20 wl, ⟨_, 0, rfl, rfl, by decide, Nat.zero_le _, by simp, Upd.refl _ _⟩, ?_⟩
    rintro _ _ wl ⟨i, rfl, rfl, h2, hil, hno, x⟩
    have C4 := B4.ext x
    refine ⟨_, _, _, C4.cell 0 rfl, brr (fun q1 => brr (fun q2 => ?_) fun q2 => ?_) fun q1 => ?_⟩
    · have q1 := of_decide_eq_true q1
      have q2 := of_decide_eq_true q2
      have hlt : i < al.length := by omega
      obtain ⟨g, o, hp, h1, h2', h3, h4⟩ := ((hA.ext x4).ext x).cell4 i hlt
      have hma : al[i] ∈ al := List.getElem_mem hlt
      refine ⟨_, _, _, C4.cell 0 rfl, ⟨by omega, by omega⟩, g, o, hp, _, h1, _, h2', _, h3, _, h4, (rline_does ((hm.ext x4).ext x) S d hma).imp ?_⟩
      rintro e w41 ⟨x41, rfl⟩
      refine ⟨_, _, rfl, brr (fun q3 => ?_) fun q3 => ?_⟩
      · have q3 : (lineR al[i] cur last ms).2 = 9 := by simpa using q3
        rw [resolve_nine (a := al[i]) (by rw [List.mem_take_iff_getElem]; exact ⟨i, by omega, rfl⟩) q3, q3]
        exact ⟨Ext.thn (Ext.thn x4 x) x41, rfl⟩
      · have q3 : (lineR al[i] cur last ms).2 ≠ 9 := by simpa using q3
        refine ⟨inI64 (by omega) (by omega), _, by omega, i + 1, by omega, rfl, by omega, hlt, fun a ha => ?_, Ext.thn x x41⟩
        rw [List.take_succ_eq_append_getElem hlt] at ha
        rcases List.mem_append.1 ha with ha | ha
        · exact hno a ha
        · rw [List.mem_singleton.1 ha]; exact q3
    · have q2 := of_decide_eq_false q2
      obtain rfl : i = 2 := by omega
      exact ⟨0, hno, x⟩
    · have q1 := of_decide_eq_false q1
      obtain rfl : i = al.length := by omega
      rw [List.take_length] at hno
      exact ⟨0, fun a ha => hno a (List.mem_of_mem_take ha), x⟩
  · rintro _ wc ⟨h9, xc⟩
    have D4 := B4.ext xc
    have D20 := B20.ext xc
    have Xc := Ext.thn x4 xc
    refine ⟨fun _ wd => (∀ a ∈ al.take 2, (numP a cur last ms).2 = 0) ∧ Blk wd b20 [.int .i64 (v0F al cur last ms), .int .i64 (v1F al cur last ms)] ∧ Ext w wd, ?_, ?_⟩
    · refine ⟨fun x nl wl => ∃ i : Nat, x = i ∧ nl = 2 - i ∧ i ≤ 2 ∧ i ≤ al.length ∧ (∀ a ∈ al.take i, (numP a cur last ms).2 = 0) ∧ Blk wl b20 [.int .i64 (v0F (al.take i) cur last ms), .int .i64 (v1F (al.take i) cur last ms)] ∧ Blk wl b4 _ ∧ Upd (fun z => z = b20) wc wl,
        ⟨_, 0, rfl, rfl, by decide, Nat.zero_le _, by simp, D20, D4, Upd.refl _ _⟩, ?_⟩
      rintro _ _ wl ⟨i, rfl, rfl, h2, hil, hno, C20, C4, x⟩
      have X : Ext w wl := Upd.then Xc x fun g hg e => by omega
      refine ⟨_, _, _, C4.cell 0 rfl, brr (fun q1 => brr (fun q2 => ?_) fun q2 => ?_) fun q1 => ?_⟩
      · have q1 := of_decide_eq_true q1
        have q2 := of_decide_eq_true q2
        have hlt : i < al.length := by omega
        obtain ⟨g, o, hp, h1, h2', h3, h4⟩ := (hA.ext X).cell4 i hlt
        have hma : al[i] ∈ al := List.getElem_mem hlt
        have hm2 : al[i] ∈ al.take 2 := by rw [List.mem_take_iff_getElem]; exact ⟨i, by omega, rfl⟩
        refine ⟨_, _, _, C4.cell 0 rfl, ⟨by omega, by omega⟩, g, o, hp, _, h1, _, h2', _, h3, _, h4, (rline_does (hm.ext X) S d hma).imp ?_⟩
        rintro e w67 ⟨x67, rfl⟩
        have X67 := Ext.thn X x67
        refine ⟨_, _, rfl, brr (fun q3 => ?_) fun q3 => ?_⟩
        · have q3 : (lineR al[i] cur last ms).2 ≠ 0 := by simpa using q3
          rw [resolve_one hm2 h9 (by unfold numP; rw [if_neg q3]; exact q3)]
          exact ⟨X67, rfl⟩
        have q3 : (lineR al[i] cur last ms).2 = 0 := by simpa using q3
        have hno1 : ∀ {P : Prop}, (lineR al[i] cur last ms).1 < 1 ∨ (lineR al[i] cur last ms).1 > last → (numP al[i] cur last ms).2 ≠ 0 := fun h => by
          unfold numP; rw [if_pos q3, if_pos h]; decide
        refine brr (fun q4 => ?_) fun q4 => ?_
        · rw [resolve_one hm2 h9 (hno1 (P := True) (.inl (of_decide_eq_true q4)))]
          exact ⟨X67, rfl⟩
        refine brr (fun q5 => ?_) fun q5 => ?_
        · rw [resolve_one hm2 h9 (hno1 (P := True) (.inr (of_decide_eq_true q5)))]
          exact ⟨X67, rfl⟩
        have q4 := of_decide_eq_false q4
        have q5 := of_decide_eq_false q5
        have hn : numP al[i] cur last ms = ((lineR al[i] cur last ms).1, 0) := by unfold numP; rw [if_pos q3, if_neg (by omega)]
        have hsnoc : al.take (i + 1) = al.take i ++ [al[i]] := List.take_succ_eq_append_getElem hlt
        have hno' : ∀ a ∈ al.take (i + 1), (numP a cur last ms).2 = 0 := fun a ha => by
          rw [hsnoc] at ha
          rcases List.mem_append.1 ha with ha | ha
          · exact hno a ha
          · rw [List.mem_singleton.1 ha, hn]
        refine ⟨⟨by omega, by omega⟩, b20, 0, rfl, ?_⟩
        rw [show 0 + ((i : Nat) : Int).toNat = i by omega]
        have C4' := C4.ext x67
        refine (C20.ext x67).st (by simp; omega) fun ws C20' us => brr (fun q6 => ?_) fun q6 => ?_
        · have q6 : i = 0 := by have : (i : Int) = 0 := by simpa using q6
                                omega
          subst q6
          refine ⟨⟨by decide, by decide⟩, b20, 0, rfl, C20'.st (by simp) fun ws1 C20'' us1 => ⟨by decide, _, by decide, 1, rfl, rfl, by decide, hlt, hno', ?_, (C4'.upd us (by omega)).upd us1 (by omega), Upd.trans (Upd.trans (Ext.then x x67) us) us1⟩⟩
          have e : al.take 1 = [al[0]] := by rw [hsnoc]; rfl
          rw [e]
          simp only [v0F, v1F, hn]
          exact C20''
        · have q6 : i = 1 := by
            have : ¬ (i : Int) = 0 := by simpa using q6
            omega
          subst q6
          refine ⟨by decide, _, by decide, 2, rfl, rfl, by decide, hlt, hno', ?_, C4'.upd us (by omega), Upd.trans (Ext.then x x67) us⟩
          have e : al.take 2 = [al[0], al[1]] := by rw [hsnoc, show al.take 1 = [al[0]] from List.take_succ_eq_append_getElem (by omega : 0 < al.length)]; rfl
          have e1 : al.take 1 = [al[0]] := List.take_succ_eq_append_getElem (by omega : 0 < al.length)
          rw [e1] at C20'
          rw [e]
          simp only [v0F, v1F, hn] at C20' ⊢
          exact C20'
      · have q2 := of_decide_eq_false q2
        obtain rfl : i = 2 := by omega
        refine ⟨0, hno, ?_, X⟩
        match al, hil, C20 with
        | a :: b :: r, _, C20 => exact C20
      · have q1 := of_decide_eq_false q1
        obtain rfl : i = al.length := by omega
        rw [List.take_length] at hno C20
        exact ⟨0, fun a ha => hno a (List.mem_of_mem_take ha), C20, X⟩
    · rintro _ wd ⟨h1, C20, X⟩ we hd
      have E20 := C20.ext hd.ext
      have Xe := Ext.thn X hd.ext
      refine ⟨⟨by decide, by decide⟩, b20, 0, rfl, _, E20.cell 1 rfl, ⟨by decide, by decide⟩, b20, 0, rfl, _, E20.cell 0 rfl, brr (fun q3 => ?_) fun q3 wf hf => ?_⟩
      · rw [resolve_ok h1, if_pos (of_decide_eq_true q3)]
        exact ⟨Xe, rfl⟩
      · have F20 := E20.ext hf.ext
        rw [resolve_ok h1, if_neg (of_decide_eq_false q3)]
        exact ⟨⟨by decide, by decide⟩, b20, 0, rfl, _, F20.cell 0 rfl, ⟨by decide, by decide⟩, b20, 0, rfl, _, F20.cell 1 rfl, Ext.thn Xe hf.ext, rfl⟩
theorem smallcmd_does {p : Option Addr} (hA : Addrs w ok p al) (c : Nat) {s1 s2 : ByteArray} {bg : Bool} :
    Does Try.prog 16 #[.agg #[.slice p al.length c, .string s1, .bool bg, .string s2]] w fun e w' => Ext w w' ∧ ∃ b, e = .returned (.bool b) ∧ (b = true → al.length ≤ 10 ∧ ∀ a ∈ al, -big ≤ a.n ∧ a.n ≤ big ∧ -big ≤ a.off ∧ a.off ≤ big) := by
  have hbg : big = 1099511627776 := rfl
  apply f16_does
  intro b1 w1 hb1
  have B1 := hb1.blk
  have no : ∀ {wv : World}, Ext w wv → Ext w wv ∧ ∃ b, Ending.returned (.bool false) = .returned (.bool b) ∧ (b = true → al.length ≤ 10 ∧ ∀ a ∈ al, -big ≤ a.n ∧ a.n ≤ big ∧ -big ≤ a.off ∧ a.off ≤ big) := fun x => ⟨x, _, rfl, fun h => by cases h⟩
  refine ⟨_, _, _, B1.cell 0 rfl, brr (fun q => no hb1.ext) fun q => ?_⟩
  have q := of_decide_eq_false q
  refine ⟨fun x nl wl => ∃ i : Nat, x = i ∧ nl = al.length - i ∧ i ≤ al.length ∧ (∀ a ∈ al.take i, -big ≤ a.n ∧ a.n ≤ big ∧ -big ≤ a.off ∧ a.off ≤ big) ∧ Ext w1 wl, ⟨_, 0, rfl, rfl, Nat.zero_le _, by simp, Upd.refl _ _⟩, ?_⟩
  rintro _ _ wl ⟨i, rfl, rfl, hi, hall, x⟩
  have C1 := B1.ext x
  refine ⟨_, _, _, C1.cell 0 rfl, brr (fun q1 => ?_) fun q1 => ?_⟩
  · have q1 := of_decide_eq_true q1
    have hlt : i < al.length := by omega
    obtain ⟨g, o, hp, h1, h2, h3, h4⟩ := (hA.ext (Ext.thn hb1.ext x)).cell4 i hlt
    refine ⟨_, _, _, C1.cell 0 rfl, ⟨by omega, by omega⟩, g, o, hp, _, h1, _, h2, _, h3, _, h4, fun b4 w4 hb4 => hb4.blk.st4 rfl fun w5 B4 u4 => ?_⟩
    have X5 : Ext w1 w5 := (Ext.thn x hb4.ext).loc (by have := x.size; have := hb4.eq; omega) u4
    have X := Ext.thn hb1.ext X5
    refine ⟨_, B4.cell 1 rfl, brr (fun _ => no X) fun q2 => ⟨_, B4.cell 1 rfl, brr (fun _ => no X) fun q3 => ⟨_, B4.cell 2 rfl, brr (fun _ => no X) fun q4 => ⟨_, B4.cell 2 rfl, brr (fun _ => no X) fun q5 => ?_⟩⟩⟩⟩
    have q2 := of_decide_eq_false q2
    have q3 := of_decide_eq_false q3
    have q4 := of_decide_eq_false q4
    have q5 := of_decide_eq_false q5
    refine ⟨inI64 (by omega) (by omega), _, by omega, i + 1, by omega, rfl, hlt, fun a ha => ?_, X5⟩
    rw [List.take_succ_eq_append_getElem hlt] at ha
    rcases List.mem_append.1 ha with ha | ha
    · exact hall a ha
    · rw [List.mem_singleton.1 ha, hbg]; omega
  · have q1 := of_decide_eq_false q1
    obtain rfl : i = al.length := by omega
    rw [List.take_length] at hall
    exact ⟨Ext.thn hb1.ext x, true, rfl, fun _ => ⟨by omega, hall⟩⟩
theorem resolves_law {p : Option Addr} (hA : Addrs w ok p al) (c : Nat) {s1 s2 : ByteArray} {bg : Bool} (cur : Int) (hm : Mks w ok' q ms) (d : Nat) :
    Does Try.prog 6 #[.agg #[.slice p al.length c, .string s1, .bool bg, .string s2], .int .i64 cur, .slice q ms.length d] w (Holds w) := by
  have hbg : big = 1099511627776 := rfl
  apply f6_does
  intro b3 w3 hb3
  refine awake_does.imp ?_
  rintro e w15 ⟨rfl, x15⟩
  have B3 := hb3.blk.ext x15
  have X15 := Ext.thn hb3.ext x15
  refine ⟨_, rfl, fls rfl ⟨_, _, _, B3.cell 0 rfl, _, B3.cell 1 rfl, _, B3.cell 2 rfl, _, B3.cell 3 rfl, (smallcmd_does (hA.ext X15) c).imp ?_⟩⟩
  rintro e w18 ⟨x18, b18, rfl, hsm⟩
  have X18 := Ext.thn X15 x18
  refine ⟨_, rfl, brr (fun _ => ⟨rfl, X18⟩) fun q1 => brr (fun _ => ⟨rfl, X18⟩) fun q2 => ?_⟩
  have q1 : b18 = true := by simpa using q1
  have q2 := of_decide_eq_false q2
  obtain ⟨hl10, hsm⟩ := hsm q1
  refine ⟨fun x nl wl => ∃ i : Nat, x = i ∧ nl = ms.length - i ∧ i ≤ ms.length ∧ (∀ m ∈ ms.take i, -big ≤ m.2 ∧ m.2 ≤ big) ∧ wl = w18, ⟨_, 0, rfl, rfl, Nat.zero_le _, by simp, rfl⟩, ?_⟩
  rintro _ _ wl ⟨i, rfl, rfl, hi, hall, rfl⟩
  refine brr (fun q3 => ?_) fun q3 => ?_
  · have q3 := of_decide_eq_true q3
    have hlt : i < ms.length := by omega
    obtain ⟨b, o, hp, _, h1, h2, _⟩ := (hm.ext X18).at i hlt
    refine ⟨⟨by omega, by omega⟩, b, o, hp, _, h2, brr (fun _ => ⟨rfl, X18⟩) fun q4 => ⟨⟨by omega, by omega⟩, b, o, hp, _, h2, brr (fun _ => ⟨rfl, X18⟩) fun q5 => ?_⟩⟩
    have q4 := of_decide_eq_false q4
    have q5 := of_decide_eq_false q5
    refine ⟨inI64 (by omega) (by omega), _, by omega, i + 1, by omega, rfl, hlt, fun m hm => ?_, rfl⟩
    rw [List.take_succ_eq_append_getElem hlt] at hm
    rcases List.mem_append.1 hm with hm | hm
    · exact hall m hm
    · rw [List.mem_singleton.1 hm, hbg]; omega
  · have q3 := of_decide_eq_false q3
    obtain rfl : i = ms.length := by omega
    rw [List.take_length] at hall
    refine brr (fun _ => ⟨rfl, X18⟩) fun q4 => brr (fun _ => ⟨rfl, X18⟩) fun q5 => ?_
    have q4 := of_decide_eq_false q4
    have q5 := of_decide_eq_false q5
    have S : Sm al cur 9 ms := ⟨hsm, by rw [hbg]; omega, by decide, hall, by omega⟩
    have B18 := B3.ext x18
    refine ⟨_, _, _, B18.cell 0 rfl, _, B18.cell 1 rfl, _, B18.cell 2 rfl, _, B18.cell 3 rfl, (typed_does (hA.ext X18) (by omega) c).imp ?_⟩
    rintro e w53 ⟨p', c', rfl, ho, x53⟩
    have X53 := Ext.thn X18 x53
    have hcap : al.length ≤ c' := by obtain ⟨vss, oo, _⟩ := ho; exact oo.cap.1
    refine ⟨_, _, _, _, _, _, rfl, (resolve_does ho.addrs hcap (hm.ext X53) S d).imp ?_⟩
    rintro e w57 ⟨x57, rfl⟩
    have X57 := Ext.thn X53 x57
    have B57 := (B18.ext x53).ext x57
    refine ⟨_, _, _, rfl, _, _, _, B57.cell 0 rfl, _, B57.cell 1 rfl, _, B57.cell 2 rfl, _, B57.cell 3 rfl, (rresolve_does (hA.ext X57) c (hm.ext X57) S (by omega) d).imp ?_⟩
    rintro e w66 ⟨x66, rfl⟩
    have X66 := Ext.thn X57 x66
    have B66 := B57.ext x66
    refine ⟨_, _, _, rfl, fls (by simp) (fls (by simp) (fls (by simp) (brr (fun _ => ⟨rfl, X66⟩) fun q6 => ⟨_, _, _, B66.cell 0 rfl, brr (fun _ => ⟨rfl, X66⟩) fun q7 => ?_⟩)))⟩
    have q6 : (resolveF al cur 9 ms).2.2 = 0 := by simpa using q6
    have hne : al ≠ [] := by
      intro e
      rw [e] at q7; simp at q7
    obtain ⟨r1, r2, r3⟩ := resolve_within hne q6
    refine tru (decide_eq_true r1) (tru (decide_eq_true r2) ⟨?_, X66⟩)
    rw [decide_eq_true r3]
end
end Go.Proofs.Ytdkeccgcleamcaa
