/-
  Which pages are free: the statements' functions answer true.
-/
import Derived.Test.YtcfcbhkkolilmaaSpaceLoad
namespace Go.Proofs.Ytcfcbhkkolilmaa
open Go.RowKit Go.Vc
theorem new_some {w : World} (pages : Int) (h0 : 8 ≤ pages) (h1 : pages ≤ 4096) : Does Try.prog 9 #[.int .i64 pages] w fun e w' => Ext w w' ∧ ∃ g p c, e = .returned (.tuple #[.pointer (some ⟨g, 0, none⟩), .int .i64 0]) ∧
    Sp .u8 w' (fun z => w.heap.size ≤ z ∧ z < w'.heap.size) g p c (newS pages.toNat) :=
  (new_does pages).imp fun e w' ⟨h2, h3⟩ => ⟨h2, by
    rcases h3 with ⟨h3, _⟩ | ⟨_, h3⟩
    · omega
    · exact h3⟩
theorem awake_does {w : World} : Does Try.prog 8 #[] w fun e w' => e = .returned (.bool true) ∧ Ext w w' := by
  apply f8_does
  refine (new_some 10 (by decide) (by decide)).imp ?_
  rintro e w8 ⟨x8, g, p, c, rfl, h⟩
  refine ⟨_, _, rfl, fls rfl (fls rfl ((alloc_does h).imp ?_))⟩
  rintro e w1 ⟨rfl, h, u1⟩
  refine ⟨_, _, rfl, (alloc_does h).imp ?_⟩
  rintro e w2 ⟨rfl, h, u2⟩
  refine ⟨_, _, rfl, tru (by decide) (tru (by decide) (tru (by decide) (tru (by decide) ((give_does h 2).imp ?_))))⟩
  rintro e w3 ⟨rfl, h, u3⟩
  refine ⟨_, rfl, tru (by decide) ((free_does h).imp ?_)⟩
  rintro e w4 ⟨rfl, rfl⟩
  refine ⟨_, rfl, tru (by decide) ((own_does' h 3).imp ?_)⟩
  rintro e w4 ⟨rfl, rfl⟩
  exact ⟨_, rfl, by congr 1, Upd.then x8 ((u1.trans u2).trans u3) fun i hi hz => by omega⟩
theorem known_law {w : World} : Does Try.prog 3 #[] w (Holds w) := by
  apply f3_does
  refine awake_does.imp ?_
  rintro e w0 ⟨rfl, x0⟩
  refine ⟨_, rfl, fls rfl ((new_some 10 (by decide) (by decide)).imp ?_)⟩
  rintro e w8 ⟨x8, g, p, c, rfl, h⟩
  have s0 := x0.size
  refine ⟨_, _, rfl, fls rfl ((alloc_does h).imp ?_)⟩
  rintro e w1 ⟨rfl, h, u1⟩
  refine ⟨_, _, rfl, (alloc_does h).imp ?_⟩
  rintro e w2 ⟨rfl, h, u2⟩
  refine ⟨_, _, rfl, (give_does h 2).imp ?_⟩
  rintro e w3 ⟨rfl, h, u3⟩
  refine ⟨_, rfl, (alloc_does h).imp ?_⟩
  rintro e w4 ⟨rfl, h, u4⟩
  have t4 := ((u1.trans u2).trans u3).trans u4
  have z4 := t4.size
  refine ⟨_, _, rfl, (commit_does h (fun z hz => by omega)).imp ?_⟩
  rintro e w5 ⟨rfl, h, u5⟩
  refine ⟨rfl, (give_does h 3).imp ?_⟩
  rintro e w6 ⟨rfl, h, u6⟩
  refine ⟨_, rfl, (alloc_does h).imp ?_⟩
  rintro e w7 ⟨rfl, h, u7⟩
  refine ⟨_, _, rfl, (free_does h).imp ?_⟩
  rintro e w9 ⟨rfl, rfl⟩
  refine ⟨_, rfl, (give_does h 3).imp ?_⟩
  rintro e w10 ⟨rfl, h, u10⟩
  refine ⟨_, rfl, (give_does h 0).imp ?_⟩
  rintro e w11 ⟨rfl, h, u11⟩
  have t11 := ((((t4.trans u5).trans u6).trans u7).trans u10).trans u11
  have z11 := t11.size
  refine ⟨_, rfl, (commit_does h (fun z hz => by omega)).imp ?_⟩
  rintro e w12 ⟨rfl, h, u12⟩
  refine ⟨rfl, (alloc_does h).imp ?_⟩
  rintro e w13 ⟨rfl, h, u13⟩
  have t13 := (t11.trans u12).trans u13
  exact ⟨_, _, rfl, tru (by decide) (tru (by decide) (tru (by decide) (tru (by decide) (tru (by decide) (tru (by decide) ⟨by congr 1, Upd.then (Ext.thn x0 x8) t13 fun i hi hz => by omega⟩)))))⟩
theorem loads_law {w : World} {ok : Nat → Prop} {p : Option Addr} {bs : List Int} (hx : Ints .u8 w ok p bs) {l : Nat} (hl : l = bs.length) (c : Nat) (pages : Int) : Does Try.prog 6 #[.int .i64 pages, .slice p l c] w (Holds w) := by
  subst hl
  apply f6_does
  refine awake_does.imp ?_
  rintro e w9 ⟨rfl, x9⟩
  refine ⟨_, rfl, fls rfl ⟨fun _ => ⟨rfl, x9⟩, fun j => ⟨fun _ => ⟨rfl, x9⟩, fun j2 => ?_⟩⟩⟩
  have j := of_decide_eq_false j
  have j2 := of_decide_eq_false j2
  refine (load_does (hx.ext x9) rfl c pages (by omega)).imp ?_
  rintro e w21 ⟨x21, hr⟩
  have y21 := Ext.thn x9 x21
  have hr2 := rload_does (hx.ext y21) rfl c pages (by omega)
  rcases hr with ⟨hz, rfl⟩ | ⟨hz, hg, rfl⟩ | ⟨hz, hg, g, q, d, rfl, hs⟩
  · refine ⟨_, _, rfl, hr2.imp ?_⟩
    rintro e w27 ⟨x27, hr⟩
    rcases hr with ⟨_, rfl⟩ | ⟨_, _, rfl⟩ | ⟨_, _, q, rfl⟩
    · exact ⟨_, _, rfl, fls rfl (tru rfl (tru rfl ⟨rfl, Ext.thn y21 x27⟩))⟩
    · omega
    · omega
  · refine ⟨_, _, rfl, hr2.imp ?_⟩
    rintro e w27 ⟨x27, hr⟩
    rcases hr with ⟨_, rfl⟩ | ⟨_, _, rfl⟩ | ⟨_, hg', q, rfl⟩
    · omega
    · exact ⟨_, _, rfl, fls rfl (tru rfl (tru rfl ⟨rfl, Ext.thn y21 x27⟩))⟩
    · exact absurd hg' hg
  · refine ⟨_, _, rfl, hr2.imp ?_⟩
    rintro e w27 ⟨x27, hr⟩
    rcases hr with ⟨_, rfl⟩ | ⟨_, hg', rfl⟩ | ⟨_, hg', q, rfl⟩
    · omega
    · exact absurd hg hg'
    · have z27 := x27.size
      refine ⟨_, _, rfl, fls rfl (fls rfl (tru rfl ((bits_does (hs.ext x27) (fun z hz => by omega)).imp ?_)))⟩
      rintro e w44 ⟨q', d', out, rfl, ho, hb, hi, x44⟩
      rw [loadN_length] at ho hb
      have he : out = bs := load_bits (by omega) hg (fun x hxm => by have := hx.inK x hxm; exact this) ho hb
      refine ⟨_, _, _, rfl, (same_does hi (hx.ext (Ext.thn (Ext.thn y21 x27) x44)) rfl rfl _ _ (by rw [he]; omega)).imp ?_⟩
      rintro e w46 ⟨rfl, x46⟩
      exact ⟨_, rfl, by rw [decide_eq_true he], Ext.thn (Ext.thn (Ext.thn y21 x27) x44) x46⟩
end Go.Proofs.Ytcfcbhkkolilmaa
