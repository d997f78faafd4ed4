/-
  Histories in bytes: the statements' small functions.
-/
import Derived.Test.YtlenmnffdbgkkaaStateRDec2
import Derived.Test.YtlenmnffdbgkkaaStatePure2
import Derived.Test.YtlenmnffdbgkkaaHistCalls4
import Derived.Test.YtlenmnffdbgkkaaEditRoom
set_option maxRecDepth 10000
open Go
namespace Go.Vc
theorem okL_root : okL [rootN] := fun i h => by
  have : i = 0 := by simpa using h
  subst this
  unfold mayN
  rw [if_pos (by rfl)]
  exact ⟨rfl, rfl, rfl⟩
theorem mods_root : Mods [rootN] := fun n hn => by rw [List.mem_singleton.1 hn]; exact ⟨by decide, fun e he => by cases he⟩
/-- Few and small nodes. -/
def FewN (ns : List Nd) : Prop := ns.length ≤ 60 ∧ ∀ n ∈ ns, n.es.length ≤ 10 ∧ ∀ e ∈ n.es, e.old.length ≤ 300 ∧ e.new.length ≤ 300
theorem FewN.mods {ns : List Nd} (h : FewN ns) : Mods ns := fun n hn => ⟨by have := (h.2 n hn).1; omega, fun e he => by have := (h.2 n hn).2 e he; omega⟩
theorem flat_le {α : Type} (f : α → List Int) (m : Nat) : ∀ (l : List α), (∀ x ∈ l, (f x).length ≤ m) → (l.flatMap f).length ≤ l.length * m
  | [], _ => by simp
  | x :: l, h => by
    have h1 := h x List.mem_cons_self
    have h2 := flat_le f m l fun y hy => h y (List.mem_cons_of_mem _ hy)
    rw [List.flatMap_cons, List.length_append, List.length_cons, Nat.succ_mul]
    omega
theorem FewN.len {ns : List Nd} (h : FewN ns) (cur : Int) (ms : List (Int × Int)) : (encS ns cur ms).length ≤ 400000 + 5 * ms.length := by
  have hn : ∀ n ∈ ns.drop 1, (encN n).length ≤ 6200 := fun n hn => by
    have hn := List.mem_of_mem_drop hn
    obtain ⟨h1, h2⟩ := h.2 n hn
    have := flat_le encE 612 n.es fun e he => by
      have := h2 e he
      unfold encE
      simp only [List.length_append, putN_len]
      omega
    unfold encN
    simp only [List.length_append, putN_len]
    have : n.es.length * 612 ≤ 10 * 612 := Nat.mul_le_mul_right _ h1
    omega
  have h1 := flat_le encN 6200 _ hn
  have h2 := flat_le encM 5 ms fun m _ => Nat.le_refl 5
  have h3 : (ns.drop 1).length * 6200 ≤ 60 * 6200 := Nat.mul_le_mul_right _ (by rw [List.length_drop]; have := h.1; omega)
  unfold encS
  simp only [List.length_append, putN_len, List.length_cons]
  omega
end Go.Vc
namespace Go.Proofs.Ytlenmnffdbgkkaa
open Go.RowKit Go.Vc
section
variable {w : World}
theorem samem_does {w : World} {ok ok' : Nat → Prop} {p q : Option Addr} {xs ys : List (Int × Int)} (hx : Mks w ok p xs) (hy : Mks w ok' q ys) {l m : Nat} (hl : l = xs.length) (hm : m = ys.length) (c d : Nat) (hs : xs.length ≤ 9223372036854775807) :
    Does Try.prog 22 #[.slice p l c, .slice q m d] w fun e w' => e = .returned (.bool (decide (xs = ys))) ∧ Ext w w' := by
  subst hl hm
  apply f22_does
  by_cases hlen : xs.length = ys.length
  case neg =>
    refine tru (by simp; omega) ⟨?_, Upd.refl _ _⟩
    rw [decide_eq_false (fun h => hlen (by rw [h]))]
  refine fls (by simp [hlen]) ?_
  refine ⟨fun i n wl => ∃ k : Nat, i = k ∧ n = xs.length - k ∧ k ≤ xs.length ∧ xs.take k = ys.take k ∧ Ext w wl, ⟨_, 0, rfl, rfl, Nat.zero_le _, rfl, Upd.refl _ _⟩, ?_⟩
  rintro _ n wl ⟨k, rfl, rfl, hk, heq, hw⟩
  refine ⟨fun h => ?_, fun h => ?_⟩
  · have h := of_decide_eq_true h
    have hlt : k < xs.length := by omega
    have hlt' : k < ys.length := by omega
    intro wd hd
    have hwd := Ext.thn hw hd.ext
    obtain ⟨b, o, hp, _, a1, a2, _, _⟩ := (hx.ext hwd).at k hlt
    obtain ⟨b', o', hp', _, b1, b2, _, _⟩ := (hy.ext hwd).at k hlt'
    refine ⟨⟨by omega, by omega⟩, b, o, hp, _, a1, _, a2, ⟨by omega, by omega⟩, b', o', hp', _, b1, _, b2, fun h => ?_, fun h => ?_⟩
    · refine ⟨?_, hwd⟩
      rw [decide_eq_false]
      intro e
      subst e
      simp at h
    · have he : xs[k] = ys[k] := by
        simp at h
        exact Prod.ext h.1 h.2
      refine ⟨inI64 (by omega) (by omega), _, by omega, k + 1, by omega, rfl, hlt, ?_, hwd⟩
      rw [List.take_succ_eq_append_getElem hlt, List.take_succ_eq_append_getElem hlt', heq, he]
  · have h := of_decide_eq_false h
    have : k = xs.length := by omega
    subst this
    refine ⟨?_, hw⟩
    rw [decide_eq_true]
    rw [List.take_length] at heq
    rw [heq, hlen, List.take_length]
theorem small_does {ok : Nat → Prop} {p : Option Addr} {ns : List Nd} (hx : Nodes w ok p ns) {l : Nat} (hl : l = ns.length) (c : Nat) (hbig : ∀ n ∈ ns, n.es.length ≤ 9223372036854775807) : Does Try.prog 15 #[.slice p l c] w fun e w' => w' = w ∧ ∃ b, e = .returned (.bool b) ∧ (b = true → FewN ns) := by
  subst hl
  apply f15_does
  refine brr (fun _ => ⟨rfl, false, rfl, by simp⟩) fun j => ?_
  have j := of_decide_eq_false j
  refine ⟨fun i n wl => ∃ k : Nat, i = k ∧ n = ns.length - k ∧ k ≤ ns.length ∧ (∀ n ∈ ns.take k, n.es.length ≤ 10 ∧ ∀ e ∈ n.es, e.old.length ≤ 300 ∧ e.new.length ≤ 300) ∧ wl = w, ⟨_, 0, rfl, rfl, Nat.zero_le _, by simp, rfl⟩, ?_⟩
  rintro _ n wl ⟨k, rfl, rfl, hk, hall, rfl⟩
  refine brr (fun jj => ?_) fun jj => ?_
  · have jj := of_decide_eq_true jj
    have hlt : k < ns.length := by omega
    obtain ⟨bb, o, p1, c1, hp, _, a1, a2, a3, i1, i2, i3, a4⟩ := hx.at k hlt
    refine ⟨⟨by omega, by omega⟩, bb, o, hp, _, _, _, a2, ?_⟩
    refine (room_does a4 rfl c1 10 (hbig _ (List.getElem_mem hlt))).imp ?_
    rintro e w18 ⟨rfl, bo, rfl, hbo⟩
    refine ⟨_, rfl, brr (fun _ => ⟨rfl, false, rfl, by simp⟩) fun h1 => ⟨inI64 (by omega) (by omega), _, by omega, k + 1, by omega, rfl, hlt, ?_, rfl⟩⟩
    have hbo := hbo (by simpa using h1)
    rw [List.take_succ_eq_append_getElem hlt]
    intro e hm
    simp only [List.mem_append, List.mem_singleton] at hm
    rcases hm with hm | rfl
    · exact hall e hm
    · exact ⟨by omega, hbo.2⟩
  · have jj := of_decide_eq_false jj
    obtain rfl : k = ns.length := by omega
    exact ⟨rfl, true, rfl, fun _ => ⟨by omega, by simpa using hall⟩⟩
/-! ### The example -/
def awE : List E := [⟨1, [], [120]⟩]
def awN : List Nd := [rootN] ++ [newN 0 awE 2]
theorem aw_few : FewN awN := ⟨by decide, fun n hn => by
  rcases List.mem_cons.1 hn with rfl | hn
  · exact ⟨by decide, fun e he => by cases he⟩
  · rw [List.mem_singleton.1 hn]; exact ⟨by decide, fun e he => by rw [List.mem_singleton.1 he]; exact ⟨by decide, by decide⟩⟩⟩
theorem aw_ok : loadOk awN 1 := ⟨by decide, by decide, by decide, by decide, fun i hi => by
  have : i = 0 ∨ i = 1 := by have : awN.length = 2 := rfl; omega
  rcases this with rfl | rfl
  · exact okL_root 0 (by decide)
  · unfold mayN
    rw [if_neg (by decide)]
    show (0 : Int) ≤ 0 ∧ (0 : Int) < 1 ∧ awE ≠ [] ∧ (0 : Int) ≤ 2
    exact ⟨by decide, by decide, (by intro h; cases h), by decide⟩⟩
theorem aw_code : encCode awN 1 [(97, 5)] = 0 := by decide
theorem awake_does : Does Try.prog 8 #[] w fun e w' => e = .returned (.bool true) ∧ Ext w w' := by
  apply f8_does
  refine new_does.imp ?_
  rintro e w7 ⟨b, rfl, hM, x7⟩
  refine ⟨_, rfl, fls rfl fun b11 w11 hb11 => ?_⟩
  obtain ⟨w12, r12, x12, i12, s12⟩ := conv_const Try.underlying25 Try.underlying5 hb11 1 1 (xs := [120]) rfl (by decide)
  refine ⟨_, _, _, w12, r12, fun b14 w14 hb14 => ?_⟩
  have X14 := Ext.thn x12 hb14.ext
  have H14 := hM.hs.ext X14
  have hE : Edits w14 (fun _ => True) (some ⟨b14, 0, none⟩) awE := hb14.rs1 trivial ⟨none, 0, some ⟨b11, 0, none⟩, 1, rfl, by decide, Nat.le_refl _, RS.nil, Nat.le_refl _, (i12.ext hb14.ext).any⟩
  refine (add_does H14 (by decide) (by decide) (by decide) hE rfl 1 ⟨by decide, fun e he => by rw [List.mem_singleton.1 he]; exact ⟨by decide, by decide⟩⟩ 2 (by decide)).imp ?_
  rintro e w15 (⟨hno, _⟩ | ⟨hok, rfl, u15, H15⟩)
  · exact (hno ⟨by decide, by decide, by decide⟩).elim
  refine ⟨_, _, rfl, fun b19 w19 hb19 => ?_⟩
  have hK : Mks w19 (fun _ => True) (some ⟨b19, 0, none⟩) [(97, 5)] := hb19.rs1 trivial ⟨rfl, by decide, by decide⟩
  have hlen := aw_few.len 1 [(97, 5)]
  have H19 : Hs w19 (fun k => (w.heap.size ≤ k ∧ k < w7.heap.size) ∨ w14.heap.size ≤ k ∧ k < w15.heap.size) b awN 1 := H15.ext hb19.ext
  refine (encode_does H19 aw_ok aw_few.mods hK rfl 1 (by decide) fun _ => by simp only [List.length_cons, List.length_nil] at hlen; show (encS awN 1 [(97, 5)]).length ≤ _; omega).imp ?_
  rintro e w20 ⟨⟨p20, c20, rfl, k20, i20⟩, x20⟩
  have hcode : encCode awN ((1 : Nat) : Int) [(97, 5)] = 0 := aw_code
  have hout : encOut awN ((1 : Nat) : Int) [(97, 5)] = encS awN 1 [(97, 5)] := by unfold encOut; rw [if_pos hcode]; rfl
  have hA : w.heap.size ≤ b := hM.mem.1
  have ext : ∀ {v v' : World}, Ext w v → Upd (fun k => k = b) v v' → Ext w v' := fun h1 h2 => Upd.then h1 h2 fun k hk e => by omega
  rw [hout] at k20 i20 ⊢
  simp only [List.length_cons, List.length_nil] at hlen
  refine ⟨_, _, _, _, rfl, (decode_does i20 rfl c20 k20 (by omega)).imp ?_⟩
  rintro e w25 ⟨x25, hd⟩
  rw [dec_enc aw_ok aw_few.mods aw_code] at hd
  rcases hd with ⟨hd, _⟩ | ⟨-, g, A, p, c, rfl, H25, K25⟩
  · exact (hd rfl).elim
  obtain ⟨bm, om, rfl, _, -, m2, -, -⟩ := K25.at 0 (by decide)
  refine ⟨_, _, _, _, _, rfl, tru (by rw [hcode]; rfl) (tru rfl (tru rfl ((count_does H25 (by decide)).imp ?_)))⟩
  rintro e w41 ⟨rfl, rfl⟩
  refine ⟨_, rfl, tru rfl ((current_does H25 (by decide)).imp ?_)⟩
  rintro e w46 ⟨rfl, rfl⟩
  refine ⟨_, rfl, tru rfl (tru rfl ⟨⟨by decide, by decide⟩, bm, om, rfl, _, m2, rfl, ?_⟩)⟩
  exact Ext.thn (Ext.thn (Ext.thn (ext (Ext.thn x7 X14) u15) hb19.ext) x20) x25
end
end Go.Proofs.Ytlenmnffdbgkkaa
