/-
  Edits: are they few and small?
-/
import Derived.Test.YtlenmnffdbgkkaaEditWords
import Derived.Test.YtlenmnffdbgkkaaV
namespace Go.Proofs.Ytlenmnffdbgkkaa
open Go.RowKit Go.Vc
theorem room_does {w : World} {ok : Nat → Prop} {p : Option Addr} {es : List E} (he : Edits w ok p es) {l : Nat} (hl : l = es.length) (c : Nat) (most : Int) (hs : es.length ≤ 9223372036854775807) :
    Does Try.prog 32 #[.slice p l c, .int .i64 most] w fun e w' => w' = w ∧ ∃ b, e = .returned (.bool b) ∧ (b = true → (es.length : Int) ≤ most ∧ ∀ e ∈ es, e.old.length ≤ 300 ∧ e.new.length ≤ 300) := by
  subst hl
  apply f32_does
  refine ⟨fun h => ⟨rfl, false, rfl, by simp⟩, fun h => ?_⟩
  have h := of_decide_eq_false h
  refine ⟨fun i n wl => ∃ k : Nat, i = k ∧ n = es.length - k ∧ k ≤ es.length ∧ (∀ e ∈ es.take k, e.old.length ≤ 300 ∧ e.new.length ≤ 300) ∧ wl = w, ⟨_, 0, rfl, rfl, Nat.zero_le _, by simp, rfl⟩, ?_⟩
  rintro _ n wl ⟨k, rfl, rfl, hk, hall, rfl⟩
  refine ⟨fun j => ?_, fun j => ?_⟩
  · have j := of_decide_eq_true j
    have hlt : k < es.length := by omega
    obtain ⟨b, o, q1, d1, q2, d2, hp, _, a1, a2, a3, _, _, a4, _, a5⟩ := he.at k hlt
    refine ⟨⟨by omega, by omega⟩, b, o, hp, _, _, _, a2, fun _ => ⟨rfl, false, rfl, by simp⟩, fun h1 => ?_⟩
    have h1 := of_decide_eq_false h1
    refine ⟨⟨by omega, by omega⟩, b, o, hp, _, _, _, a3, fun _ => ⟨rfl, false, rfl, by simp⟩, fun h2 => ?_⟩
    have h2 := of_decide_eq_false h2
    refine ⟨inI64 (by omega) (by omega), es.length - (k + 1), by omega, k + 1, by omega, rfl, hlt, ?_, rfl⟩
    rw [List.take_succ_eq_append_getElem hlt]
    intro e hm
    simp only [List.mem_append, List.mem_singleton] at hm
    rcases hm with hm | rfl
    · exact hall e hm
    · omega
  · have j := of_decide_eq_false j
    obtain rfl : k = es.length := by omega
    exact ⟨rfl, true, rfl, fun _ => ⟨by omega, by simpa using hall⟩⟩
end Go.Proofs.Ytlenmnffdbgkkaa
