/-
  Numbers read: strings: is it a decimal number?
-/
import Derived.Test.YtffhlgejfgmpiaaGreatDoorVW
import Derived.Test.YtffhlgejfgmpiaaGreatDoorVX
import Derived.Test.YtffhlgejfgmpiaaGreatDoorV
import Derived.Test.YtffhlgejfgmpiaaGreatDoorStrL
import Derived.Test.YtffhlgejfgmpiaaGreatDoorCalcEv
import Derived.Lib.Bytealg
import Derived.Laws.Externs
namespace Go.Vc
open Go.RowKit
theorem index_dot : ∀ l : List UInt8, Lib.indexByte l 46 = if pointD (l.map fun b => (b.toNat : Int)) then ((headD (l.map fun b => (b.toNat : Int))).length : Int) else -1
  | [] => rfl
  | b :: l => by
    have ih := index_dot l
    have hge := Lib.indexByte_ge l 46
    unfold Lib.indexByte
    rw [List.map_cons]
    by_cases hb : b = 46
    · subst hb
      have e : headD (((46 : UInt8).toNat : Int) :: l.map fun b => (b.toNat : Int)) = [] := rfl
      have hp : pointD (((46 : UInt8).toNat : Int) :: l.map fun b => (b.toNat : Int)) = true := by unfold pointD; rw [e]; simp
      rw [hp, e]; rfl
    · have hb' : (b == 46) = false := by simpa using hb
      have hne : ((b.toNat : Int) != 46) = true := by
        rw [bne_iff_ne]
        intro h
        have : b.toNat = (46 : UInt8).toNat := by show b.toNat = 46; omega
        exact hb (UInt8.toNat_inj.1 this)
      have e : headD ((b.toNat : Int) :: l.map fun b => (b.toNat : Int)) = (b.toNat : Int) :: headD (l.map fun b => (b.toNat : Int)) := by
        unfold headD; rw [List.takeWhile_cons, if_pos hne]
      have hp : pointD ((b.toNat : Int) :: l.map fun b => (b.toNat : Int)) = pointD (l.map fun b => (b.toNat : Int)) := by
        unfold pointD; rw [e]; simp
      rw [hb', hp, e, ih]
      cases pointD (l.map fun b => (b.toNat : Int)) <;> simp
end Go.Vc
namespace Go.Proofs.YtffhlgejfgmpiaaGreatDoor
open Go.RowKit Go.Vc
variable {w : World} {R : Ending → World → Prop}
theorem hasp_does (s p : ByteArray) (h : R (.returned (.bool ((L p).isPrefixOf (L s)))) w) : Does Tryz.prog 28 #[.string s, .string p] w R := by
  refine f28_does _ _ (f51_does _ _ ?_)
  unfold f51_vc
  have hs := L_len s
  have hp := L_len p
  refine brr (fun q => ?_) fun q => ?_
  · have q := of_decide_eq_true q
    refine ⟨⟨by omega, by omega⟩, _, rfl, ?_⟩
    rw [L_eq, L_upto (by omega), Int.toNat_natCast, ← hp]
    have : decide ((L s).take (L p).length = L p) = (L p).isPrefixOf (L s) := by
      rw [Bool.eq_iff_iff, decide_eq_true_eq, List.isPrefixOf_iff_prefix, List.prefix_iff_eq_take]
      exact eq_comm
    rw [this]; exact h
  · have q := of_decide_eq_false q
    refine ⟨_, rfl, ?_⟩
    have : (L p).isPrefixOf (L s) = false := by
      rw [Bool.eq_false_iff]
      intro k
      have := List.IsPrefix.length_le (List.isPrefixOf_iff_prefix.1 k)
      omega
    rw [this] at h; exact h
theorem trim_does (s p : ByteArray) (h : ∀ t : ByteArray, L t = (if (L p).isPrefixOf (L s) then (L s).drop (L p).length else L s) → R (.returned (.string t)) w) : Does Tryz.prog 26 #[.string s, .string p] w R := by
  refine f26_does _ _ (f48_does _ _ ?_)
  unfold f48_vc
  have hs := L_len s
  have hp := L_len p
  refine f51_does _ _ ?_
  unfold f51_vc
  refine brr (fun q => ?_) fun q => ?_
  · have q := of_decide_eq_true q
    refine ⟨⟨by omega, by omega⟩, _, rfl, ?_⟩
    rw [L_eq, L_upto (by omega), Int.toNat_natCast, ← hp]
    have e : decide ((L s).take (L p).length = L p) = (L p).isPrefixOf (L s) := by
      rw [Bool.eq_iff_iff, decide_eq_true_eq, List.isPrefixOf_iff_prefix, List.prefix_iff_eq_take]
      exact eq_comm
    rw [e]
    refine brr (fun k => ⟨⟨by omega, by omega⟩, _, rfl, h _ ?_⟩) fun k => ⟨_, rfl, h _ ?_⟩
    · rw [if_pos k, L_from]
    · rw [if_neg (by rw [k]; simp)]
  · have q := of_decide_eq_false q
    have e : (L p).isPrefixOf (L s) = false := by
      rw [Bool.eq_false_iff]
      intro k
      have := List.IsPrefix.length_le (List.isPrefixOf_iff_prefix.1 k)
      omega
    exact ⟨_, rfl, fls rfl ⟨_, rfl, h _ (by rw [if_neg (by rw [e]; simp)])⟩⟩
theorem idx3_does (s : ByteArray) (c : Int) (h : R (.returned (.int .i64 (Lib.indexByte s.data.toList c.toNat.toUInt8))) w) : Does Tryz.prog 127 #[.string s, .int .u8 c] w R := by
  refine .inr ⟨by kernel_rfl, _, w, ?_, h⟩
  rw [run_callFunc_extern Tryz.func127 (by kernel_rfl) (by kernel_rfl) (by kernel_rfl) (e := Extern.BytealgIndexByte.indexByte) (by kernel_rfl), Lib.run_indexByteString]
  rfl
def dotS : ByteArray := { data := #[46] }
theorem dot_index (s : ByteArray) (h : R (.returned (.int .i64 (if pointD (L s) then ((headD (L s)).length : Int) else -1))) w) : Does Tryz.prog 95 #[.string s, .string dotS] w R := by
  refine f95_does _ _ ?_
  unfold f95_vc
  refine fls (by decide) (brr (fun q => ?_) fun q => tru (by decide) ⟨⟨by decide, by decide⟩, ?_⟩)
  · rw [L_eq] at q
    have q := of_decide_eq_true q
    rw [← q] at h
    exact h
  · refine f107_does _ _ (idx3_does _ _ ⟨_, rfl, _, rfl, ?_⟩)
    have : Lib.indexByte s.data.toList (sb dotS 0).toNat.toUInt8 = if pointD (L s) then ((headD (L s)).length : Int) else -1 := index_dot s.data.toList
    rw [this]; exact h
/-- Cut at a point. -/
theorem cut_does (s : ByteArray) (hs : s.size ≤ 140737488355328) : Does Tryz.prog 49 #[.string s, .string dotS] w fun e w' => ∃ a b : ByteArray, e = .returned (.tuple #[.string a, .string b, .bool (pointD (L s))]) ∧ L a = headD (L s) ∧ L b = tailD (L s) ∧ Ext w w' := by
  refine f49_does _ _ (f75_does _ _ (dot_index s ⟨_, rfl, ?_⟩))
  have hl := L_len s
  have hpre : headD (L s) = (L s).take (headD (L s)).length := List.prefix_iff_eq_take.1 (List.takeWhile_prefix _)
  have hle : (headD (L s)).length ≤ (L s).length := List.IsPrefix.length_le (List.takeWhile_prefix _)
  cases hp : pointD (L s) with
  | true =>
    rw [if_pos rfl]
    have hlt : (headD (L s)).length < (L s).length := of_decide_eq_true hp
    have e1 : (dotS.size : Int) = 1 := by decide
    refine tru (decide_eq_true (by omega)) fun wd hd => ?_
    rw [e1]
    refine ⟨⟨by omega, by omega⟩, inI64 (by omega) (by omega), ⟨by omega, by omega⟩, _, _, _, rfl, _, _, rfl, ?_, ?_, hd.ext⟩
    · rw [L_upto (by omega), Int.toNat_natCast]; exact hpre.symm
    · rw [L_from, show (((headD (L s)).length : Int) + 1).toNat = (headD (L s)).length + 1 by omega]; rfl
  | false =>
    rw [if_neg (by simp)]
    have hge : ¬ (headD (L s)).length < (L s).length := of_decide_eq_false hp
    refine fls (by decide) ⟨_, _, _, rfl, _, _, rfl, ?_, ?_, Upd.refl _ _⟩
    · rw [hpre, List.take_of_length_le (by omega)]
    · unfold tailD
      rw [List.drop_of_length_le (by omega)]; rfl
theorem figs_does (s : ByteArray) (hs : s.size ≤ 140737488355328) (h : R (.returned (.bool (figs (L s)))) w) : Does Tryz.prog 50 #[.string s] w R := by
  refine f50_does _ ?_
  have hl := L_len s
  refine ⟨fun i n wl => ∃ k : Nat, i = k ∧ n = s.size - k ∧ k ≤ s.size ∧ (∀ j, j < k → ∀ x, (L s)[j]? = some x → isDig x = true) ∧ wl = w, ⟨_, 0, rfl, rfl, Nat.zero_le _, fun j hj => by omega, rfl⟩, ?_⟩
  rintro _ n wl ⟨k, rfl, rfl, hk, hd, rfl⟩
  refine brr (fun q => ?_) fun q => ?_
  · have q := of_decide_eq_true q
    have hkl : k < (L s).length := by omega
    have bad : isDig (L s)[k] = false → R (.returned (.bool false)) wl := fun hb => by
      have : figs (L s) = false := by
        unfold figs
        have : (L s).all isDig = false := by
          rw [Bool.eq_false_iff]
          intro ha
          rw [List.all_eq_true] at ha
          rw [ha _ (List.getElem_mem hkl)] at hb
          cases hb
        rw [this]; rfl
      rw [this] at h; exact h
    rw [L_sb hkl]
    refine ⟨⟨by omega, by omega⟩, brr (fun q2 => bad ?_) fun q2 => ⟨⟨by omega, by omega⟩, brr (fun q3 => bad ?_) fun q3 => ?_⟩⟩
    · have := of_decide_eq_true q2
      unfold isDig; rw [decide_eq_false (by omega)]; rfl
    · have := of_decide_eq_true q3
      unfold isDig; rw [decide_eq_false (p := (L s)[k] ≤ 57) (by omega), Bool.and_false]
    · have a1 := of_decide_eq_false q2
      have a2 := of_decide_eq_false q3
      refine ⟨inI64 (by omega) (by omega), s.size - (k + 1), by omega, k + 1, by omega, rfl, by omega, fun j hj x hx => ?_, rfl⟩
      rcases Nat.lt_or_ge j k with hlt | hge
      · exact hd j hlt x hx
      · obtain rfl : j = k := by omega
        rw [List.getElem?_eq_getElem hkl] at hx
        injection hx with hx
        subst hx
        unfold isDig; rw [decide_eq_true (by omega), decide_eq_true (by omega)]; rfl
  · have q := of_decide_eq_false q
    have hall : (L s).all isDig = true := by
      rw [List.all_eq_true]
      intro x hx
      obtain ⟨j, hj, e⟩ := List.getElem_of_mem hx
      exact hd j (by omega) x (by rw [List.getElem?_eq_getElem hj, e])
    have e : (!(s.toList == ({ data := #[] } : ByteArray).toList)) = figs (L s) := by
      rw [L_eq, L_nil]
      unfold figs
      rw [hall]
      cases hL : L s with
      | nil => rfl
      | cons x r => simp
    rw [e]; exact h
/-- Is it a decimal number? -/
theorem decimal_does (s : ByteArray) (hs : s.size ≤ 140737488355328) : Does Tryz.prog 27 #[.string s] w fun e w' => e = .returned (.bool (decOk (L s))) ∧ Ext w w' := by
  refine f27_does _ ((cut_does s hs).imp ?_)
  rintro e w8 ⟨a, b, rfl, ha, hb, x8⟩
  have la := L_len a
  have lb := L_len b
  have hl := L_len s
  have hle : (headD (L s)).length ≤ (L s).length := List.IsPrefix.length_le (List.takeWhile_prefix _)
  have hlt : (tailD (L s)).length ≤ (L s).length := by unfold tailD; rw [List.length_drop]; omega
  have sa : a.size = (headD (L s)).length := by rw [← la, ha]
  have sb' : b.size = (tailD (L s)).length := by rw [← lb, hb]
  refine ⟨_, _, _, rfl, figs_does a (by omega) ⟨_, rfl, ?_⟩⟩
  rw [ha, sa, sb']
  unfold decOk
  cases h1 : figs (headD (L s)) with
  | false => exact tru rfl ⟨by simp, x8⟩
  | true =>
    refine fls rfl ?_
    have tl : ∀ w', w' = w8 → Br (pointD (L s)) (Does Tryz.prog 50 #[.string b] w' fun e29 w29 => ∃ b29 : Bool, e29 = .returned (.bool b29) ∧ Br (!b29) (Ending.returned (.bool false) = .returned (.bool ((!pointD (L s) || figs (tailD (L s))) && decide ((headD (L s)).length + (tailD (L s)).length ≤ 15))) ∧ Ext w w29)
        (InK .i64 (((headD (L s)).length : Int) + ((tailD (L s)).length : Int)) ∧ Ending.returned (.bool (decide (((headD (L s)).length : Int) + ((tailD (L s)).length : Int) ≤ 15))) = .returned (.bool ((!pointD (L s) || figs (tailD (L s))) && decide ((headD (L s)).length + (tailD (L s)).length ≤ 15))) ∧ Ext w w29))
        (InK .i64 (((headD (L s)).length : Int) + ((tailD (L s)).length : Int)) ∧ Ending.returned (.bool (decide (((headD (L s)).length : Int) + ((tailD (L s)).length : Int) ≤ 15))) = .returned (.bool ((!pointD (L s) || figs (tailD (L s))) && decide ((headD (L s)).length + (tailD (L s)).length ≤ 15))) ∧ Ext w w8) := by
      rintro _ rfl
      have ed : decide (((headD (L s)).length : Int) + ((tailD (L s)).length : Int) ≤ 15) = decide ((headD (L s)).length + (tailD (L s)).length ≤ 15) := by
        rw [Bool.eq_iff_iff, decide_eq_true_eq, decide_eq_true_eq]; omega
      rw [ed]
      refine brr (fun hp => figs_does b (by omega) ⟨_, rfl, ?_⟩) fun hp => ⟨inI64 (by omega) (by omega), by rw [hp]; rfl, x8⟩
      rw [hb, hp]
      cases h2 : figs (tailD (L s)) with
      | false => exact tru rfl ⟨by simp, x8⟩
      | true => exact fls rfl ⟨inI64 (by omega) (by omega), by simp, x8⟩
    refine brr (fun q => ?_) fun q => ?_
    · have q := of_decide_eq_true q
      rw [decide_eq_false (by omega), Bool.false_or]
      have h0 : 0 < (L a).length := by omega
      have e0 : sb a 0 = (headD (L s)).headD 0 := by
        have := L_sb (i := 0) h0
        rw [← ha]
        cases hL : L a with
        | nil => rw [hL] at h0; simp at h0
        | cons x r => simp only [hL, List.getElem_cons_zero] at this; exact this
      rw [e0]
      refine ⟨⟨by omega, by omega⟩, brr (fun q2 => ⟨?_, x8⟩) fun q2 => ?_⟩
      · rw [beq_iff_eq.1 q2]; simp
      · have : ((headD (L s)).headD 0 != 48) = true := by unfold bne; rw [q2]; rfl
        rw [this]
        exact tl _ rfl
    · have q := of_decide_eq_false q
      rw [decide_eq_true (by omega), Bool.true_or]
      exact tl _ rfl
end Go.Proofs.YtffhlgejfgmpiaaGreatDoor
