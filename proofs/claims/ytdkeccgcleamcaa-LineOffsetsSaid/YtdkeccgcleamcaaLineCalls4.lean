/-
  Command lines: what each function of the code does: whole lines.
-/
import Derived.Test.YtdkeccgcleamcaaLineCalls3
namespace Go.Vc
open Go.RowKit
theorem unb'_sub (xs : List Int) : (unb' xs).length ≤ xs.length ∧ ∀ x ∈ unb' xs, x ∈ xs := ⟨by unfold unb'; rw [List.length_drop]; omega, fun _ h => List.mem_of_mem_drop h⟩
theorem nameF_sub (xs : List Int) : (nameF xs).2.length ≤ xs.length ∧ ∀ x ∈ (nameF xs).2, x ∈ xs := by
  unfold nameF
  repeat' split
  · exact ⟨by simp, fun _ h => List.mem_of_mem_tail h⟩
  · exact ⟨by simp, fun _ h => List.mem_of_mem_tail h⟩
  · exact ⟨by simp, fun _ h => List.mem_of_mem_tail h⟩
  · exact ⟨by simp, fun _ h => List.mem_of_mem_drop h⟩
end Go.Vc
namespace Go.Proofs.Ytdkeccgcleamcaa
open Go.RowKit Go.Vc
section
variable {w : World} {b base : Nat} {xs : List Int} {al : List A}
theorem reach_sub {r : List Int} (hk : ∀ x ∈ xs, InK .u8 x) (h : reachF xs = some (al, r)) : r.length ≤ xs.length ∧ ∀ x ∈ r, InK .u8 x := by
  unfold reachF at h
  split at h
  · injection h with h; injection h with h1 h2
    rw [← h2]
    exact ⟨by simp, fun x hx => hk x (List.mem_of_mem_tail hx)⟩
  · split at h
    · cases h
    · injection h with h; injection h with h1 h2
      rw [← h2]
      exact ⟨Nat.le_refl _, hk⟩
    · rename_i a r1 ha
      obtain ⟨g1, g2⟩ := addr_sub hk ha
      split at h
      · split at h
        · rename_i a2 r2 ha2
          injection h with h; injection h with h1 h2
          rw [← h2]
          have ht : r1.tail.length ≤ r1.length := by simp
          obtain ⟨g3, g4⟩ := addr_sub (xs := r1.tail) (fun x hx => g2 x (List.mem_of_mem_tail hx)) ha2
          exact ⟨by omega, g4⟩
        · cases h
      · injection h with h; injection h with h1 h2
        rw [← h2]
        exact ⟨g1, g2⟩
/-- What all answers. -/
def AllR (w : World) (b base : Nat) (xs : List Int) (e : Ending) (w' : World) : Prop :=
  Upd (RFr b base) w w' ∧ match allF xs with
    | none => e = thrown
    | some cm => e = .returned (.tuple #[]) ∧ ∃ r, Rd 55 w' b base r cm.al cm.name cm.bang cm.arg
theorem readall_does (h : Rd 55 w b base xs [] [] false []) (hk : ∀ x ∈ xs, InK .u8 x) (hl : xs.length ≤ 4096) : Does Try.prog 22 #[.pointer (some ⟨b, 0, none⟩)] w (AllR w b base xs) := by
  apply f22_does
  refine (rd_blanks h hl).imp ?_
  rintro e w3 ⟨rfl, R3, u3⟩
  obtain ⟨b1, b2⟩ := unb'_sub xs
  have hk1 : ∀ x ∈ unb' xs, InK .u8 x := fun x hx => hk x (b2 x hx)
  refine ⟨rfl, (reach_does R3 hk1 (by omega)).imp ?_⟩
  rintro e w5 ⟨u5, hr⟩
  have U5 := RFr.trans u3 u5
  unfold AllR allF
  cases ha : reachF (unb' xs) with
  | none =>
    rw [ha] at hr
    exact .inr ⟨_, hr, U5, rfl⟩
  | some ar =>
    obtain ⟨al, r⟩ := ar
    rw [ha] at hr
    obtain ⟨rfl, R5⟩ := hr
    obtain ⟨r1, r2⟩ := reach_sub hk1 ha
    refine .inl ⟨rfl, (rd_blanks R5 (by omega)).imp ?_⟩
    rintro e w7 ⟨rfl, R7, u7⟩
    have U7 := RFr.trans U5 u7
    obtain ⟨c1, c2⟩ := unb'_sub r
    refine ⟨rfl, (name_does R7 (fun x hx => r2 x (c2 x hx)) (by omega)).imp ?_⟩
    rintro e w9 ⟨rfl, R9, u9⟩
    have U9 := RFr.trans U7 u9
    obtain ⟨d1, d2⟩ := nameF_sub (unb' r)
    obtain ⟨s, hs, hcell⟩ := R9.nm
    refine ⟨rfl, b, 0, rfl, s, hcell, ?_⟩
    rw [L_eq, hs, L_nil]
    simp only []
    refine brr (fun q => ?_) fun q => ?_
    · have q := of_decide_eq_true q
      obtain ⟨s0, t1, t2⟩ := R9.txt
      refine ⟨b, 0, rfl, s0, t2, ?_⟩
      rw [L_eq, t1, L_nil, if_pos q]
      refine (must_does _).imp ?_
      rintro e w21 ⟨rfl, ⟨hf, rfl⟩ | ⟨hf, rfl⟩⟩
      · have hf := of_decide_eq_true hf
        rw [if_pos hf]
        rw [q] at R9
        exact .inl ⟨rfl, U9, trivial, _, R9⟩
      · have hf := of_decide_eq_false hf
        rw [if_neg hf]
        exact .inr ⟨_, rfl, U9, rfl⟩
    · have q := of_decide_eq_false q
      rw [if_neg q]
      refine (rd_takes R9 33).imp ?_
      rintro e w24 ⟨rfl, R24, u24⟩
      have U24 := RFr.trans U9 u24
      refine ⟨_, rfl, b, 0, rfl, R24.can 3 (by decide), fun ws hst => ?_⟩
      have Rs := rd_bang R24 hst
      have Us := RFr.trans U24 (hst.upd.mono fun g _ e => .inl e)
      have htk : (tkR 33 (nameF (unb' r)).2).length ≤ (nameF (unb' r)).2.length := by
        unfold tkR
        split
        · simp
        · exact Nat.le_refl _
      refine (rd_blanks Rs (by omega)).imp ?_
      rintro e w29 ⟨rfl, R29, u29⟩
      have U29 := RFr.trans Us u29
      obtain ⟨s0, t1, t2⟩ := R29.txt
      refine ⟨rfl, b, 0, rfl, s0, t2, b, 0, rfl, R29.can 4 (by decide), fun ws1 hst1 => ⟨RFr.trans U29 (hst1.upd.mono fun g _ e => .inl e), trivial, unb' (tkR 33 (nameF (unb' r)).2), ?_⟩⟩
      have hR := rd_arg R29 hst1
      rw [t1] at hR
      exact hR
/-- What Parse tells. -/
def TellsC (w : World) (cm : Cm) (n : Int) (e : Ending) (w' : World) : Prop :=
  ∃ p c s1 s2, e = .returned (.tuple #[.agg #[.slice p cm.al.length c, .string s1, .bool cm.bang, .string s2], .int .i64 n]) ∧ L s1 = cm.name ∧ L s2 = cm.arg ∧ OwnL AddrV w' w.heap.size 55 4 p cm.al.length c cm.al ∧ Ext w w'
theorem parse_does (s : ByteArray) (hxs : L s = xs) : Does Try.prog 10 #[.string s] w (TellsC w (parseC xs) (parseN xs)) := by
  apply f10_does
  intro b2 w2 hb2 b3 w3 hb3
  have e2 := hb2.eq
  have e3 := hb3.eq
  have s2 := hb2.size
  have s3 := hb3.size
  have hsz := L_len s
  rw [hxs] at hsz
  have x3 : Ext w w3 := Ext.thn hb2.ext hb3.ext
  refine brr (fun q => ?_) fun q b12 w12 hb12 => ?_
  · have q := of_decide_eq_true q
    have hC : parseC xs = cm0 := by unfold parseC; rw [if_pos (by omega)]
    have hN : parseN xs = 3 := by unfold parseN; rw [if_pos (by omega)]
    rw [hC, hN]
    have k2 : ∀ j, j < 4 → CanStore w3 b2 j := fun j hj => hb3.ext.can (hb2.can j (by simpa using hj))
    have k3 := hb3.can 0 (by simp)
    refine ⟨k2 0 (by omega), fun v0 t0 => ⟨t0.can (k2 1 (by omega)), fun v1 t1 => ⟨t1.can (t0.can (k2 2 (by omega))), fun v2 t2 => ⟨t2.can (t1.can (t0.can (k2 3 (by omega)))), fun v3 t3 => ⟨t3.can (t2.can (t1.can (t0.can k3))), fun v4 t4 => ?_⟩⟩⟩⟩⟩
    have hne : b2 ≠ b3 := by omega
    have d0 : v4.cell? ⟨b2, 0, none⟩ = _ := (t4.other (.inl hne)).trans ((t3.other (.inr (by decide))).trans ((t2.other (.inr (by decide))).trans ((t1.other (.inr (by decide))).trans (t0.cell (k2 0 (by omega))))))
    have d1 : v4.cell? ⟨b2, 1, none⟩ = _ := (t4.other (.inl hne)).trans ((t3.other (.inr (by decide))).trans ((t2.other (.inr (by decide))).trans (t1.cell (t0.can (k2 1 (by omega))))))
    have d2 : v4.cell? ⟨b2, 2, none⟩ = _ := (t4.other (.inl hne)).trans ((t3.other (.inr (by decide))).trans (t2.cell (t1.can (t0.can (k2 2 (by omega))))))
    have d3 : v4.cell? ⟨b2, 3, none⟩ = _ := (t4.other (.inl hne)).trans (t3.cell (t2.can (t1.can (t0.can (k2 3 (by omega))))))
    have d4 : v4.cell? ⟨b3, 0, none⟩ = _ := t4.cell (t3.can (t2.can (t1.can (t0.can k3))))
    have u : Upd (fun z => z = b2 ∨ z = b3) w3 v4 := Upd.then (Upd.then (Upd.then (Upd.then (t0.upd.mono fun _ _ e => .inl e) t1.upd fun _ _ e => .inl e) t2.upd fun _ _ e => .inl e) t3.upd fun _ _ e => .inl e) t4.upd fun _ _ e => .inr e
    exact ⟨_, _, _, d0, _, d1, _, d2, _, d3, _, d4, none, 0, _, _, rfl, L_nil, L_nil, OwnL.nil _ _ _ _, Upd.then x3 u fun g hg e => by rcases e with e | e <;> omega⟩
  have q := of_decide_eq_false q
  have e12 := hb12.eq
  have s12 := hb12.size
  have R0 : Rd 55 w12 b12 w12.heap.size xs [] [] false [] := ⟨⟨s, hxs, hb12.cell 0 rfl⟩, ⟨none, 0, hb12.cell 1 rfl, OwnL.nil _ _ _ _⟩, ⟨_, L_nil, hb12.cell 2 rfl⟩, hb12.cell 3 rfl, ⟨_, L_nil, hb12.cell 4 rfl⟩, fun j hj => hb12.can j (by simpa using hj), hb12.lt, Nat.le_refl _⟩
  have x12 : Ext w w12 := Ext.thn x3 hb12.ext
  have k2 : ∀ j, j < 4 → CanStore w12 b2 j := fun j hj => hb12.ext.can (hb3.ext.can (hb2.can j (by simpa using hj)))
  have k3 : CanStore w12 b3 0 := hb12.ext.can (hb3.can 0 (by simp))
  have n2 : ¬ RFr b12 w12.heap.size b2 := fun e => e.elim (fun e => by omega) fun e => by omega
  have n3 : ¬ RFr b12 w12.heap.size b3 := fun e => e.elim (fun e => by omega) fun e => by omega
  refine (readall_does R0 (by rw [← hxs]; exact L_inK s) (by omega)).imp ?_
  rintro e w14 ⟨u14, hr⟩
  have x14 : Ext w w14 := Upd.then x12 u14 fun g hg e => by rcases e with e | e <;> omega
  have k2' : ∀ j, j < 4 → CanStore w14 b2 j := fun j hj => u14.can n2 (k2 j hj)
  have k3' : CanStore w14 b3 0 := u14.can n3 k3
  have hlen : ¬ xs.length > 4096 := by omega
  unfold TellsC parseC parseN
  rw [if_neg hlen, if_neg hlen]
  cases ha : allF xs with
  | none =>
    rw [ha] at hr
    refine .inr ⟨_, hr, leave_panic (by omega) k3' k2' fun w' hu d0 d1 d2 d3 d4 => ?_⟩
    exact ⟨_, _, _, d0, _, d1, _, d2, _, d3, _, d4, none, 0, _, _, rfl, L_nil, L_nil, OwnL.nil _ _ _ _, Upd.then x14 hu fun g hg e => by rcases e with e | e <;> omega⟩
  | some cm =>
    rw [ha] at hr
    obtain ⟨rfl, r, R14⟩ := hr
    obtain ⟨p, c, h1, ho⟩ := R14.row
    obtain ⟨s1, n1, n2'⟩ := R14.nm
    obtain ⟨s4, m1, m2⟩ := R14.ar
    refine .inl ⟨rfl, p, _, c, h1, s1, n2', _, R14.bg, s4, m2, k2' 0 (by omega), fun v0 t0 => ⟨t0.can (k2' 1 (by omega)), fun v1 t1 => ⟨t1.can (t0.can (k2' 2 (by omega))), fun v2 t2 => ⟨t2.can (t1.can (t0.can (k2' 3 (by omega)))), fun v3 t3 => ⟨t3.can (t2.can (t1.can (t0.can k3'))), fun v4 t4 => leave_ok ?_⟩⟩⟩⟩⟩
    have hne : b2 ≠ b3 := by omega
    have d0 : v4.cell? ⟨b2, 0, none⟩ = _ := (t4.other (.inl hne)).trans ((t3.other (.inr (by decide))).trans ((t2.other (.inr (by decide))).trans ((t1.other (.inr (by decide))).trans (t0.cell (k2' 0 (by omega))))))
    have d1 : v4.cell? ⟨b2, 1, none⟩ = _ := (t4.other (.inl hne)).trans ((t3.other (.inr (by decide))).trans ((t2.other (.inr (by decide))).trans (t1.cell (t0.can (k2' 1 (by omega))))))
    have d2 : v4.cell? ⟨b2, 2, none⟩ = _ := (t4.other (.inl hne)).trans ((t3.other (.inr (by decide))).trans (t2.cell (t1.can (t0.can (k2' 2 (by omega))))))
    have d3 : v4.cell? ⟨b2, 3, none⟩ = _ := (t4.other (.inl hne)).trans (t3.cell (t2.can (t1.can (t0.can (k2' 3 (by omega))))))
    have d4 : v4.cell? ⟨b3, 0, none⟩ = _ := t4.cell (t3.can (t2.can (t1.can (t0.can k3'))))
    have u : Upd (fun z => z = b2 ∨ z = b3) w14 v4 := Upd.then (Upd.then (Upd.then (Upd.then (t0.upd.mono fun _ _ e => .inl e) t1.upd fun _ _ e => .inl e) t2.upd fun _ _ e => .inl e) t3.upd fun _ _ e => .inl e) t4.upd fun _ _ e => .inr e
    have ho' := ho.upd AddrV.stable AddrV.widens u fun g hg _ e => by rcases e with e | e <;> omega
    have ho2 : OwnL AddrV v4 w.heap.size 55 4 p cm.al.length c cm.al := by
      obtain ⟨vss, oo, oa⟩ := ho'
      exact ⟨vss, oo.lower (by omega), oa.imp fun _ _ h => h⟩
    exact ⟨_, _, _, d0, _, d1, _, d2, _, d3, _, d4, p, c, s1, s4, rfl, n1, m1, ho2, Upd.then x14 u fun g hg e => by rcases e with e | e <;> omega⟩
theorem awake_does : Does Try.prog 9 #[] w fun e w' => e = .returned (.bool true) ∧ Ext w w' := by
  apply f9_does
  refine (parse_does _ rfl).imp ?_
  have hC : parseC (L ({ data := #[32, 50, 44, 46, 43, 51, 100] } : ByteArray)) = ⟨[⟨110, 2, 0, 0⟩, ⟨46, 0, 3, 0⟩], [100], false, []⟩ := by decide +kernel
  have hN : parseN (L ({ data := #[32, 50, 44, 46, 43, 51, 100] } : ByteArray)) = 0 := by decide +kernel
  rw [hC, hN]
  rintro e w4 ⟨p, c, s1, s2, rfl, n1, n2, ho, x4⟩
  refine ⟨_, _, _, _, _, _, _, rfl, fun b1 w1 hb1 => fill4 hb1 fun w5 hb5 => ?_⟩
  have x5 := hb5.ext
  have hA := ((ho.rs AddrV.widens (by decide)).2.ext (ElemC.stable AddrV.stable) x5)
  obtain ⟨q0, o0, hq0, _, f1, f2, f3, f4, _⟩ := Addrs.at hA 0 (by decide)
  obtain ⟨q1, o1, hq1, _, g1, g2, g3, g4, _⟩ := Addrs.at hA 1 (by decide)
  refine tru rfl ⟨_, _, _, hb5.cell 0 rfl, tru rfl ⟨_, _, _, hb5.cell 0 rfl, by decide, q0, o0, hq0, _, f2, tru rfl ⟨_, _, _, hb5.cell 0 rfl, by decide, q1, o1, hq1, _, g1, tru rfl ⟨_, _, _, hb5.cell 0 rfl, by decide, q1, o1, hq1, _, g3, tru rfl ⟨_, hb5.cell 1 rfl, ?_, Ext.thn x4 x5⟩⟩⟩⟩⟩
  rw [L_eq, n1]
  rfl
end
end Go.Proofs.Ytdkeccgcleamcaa
