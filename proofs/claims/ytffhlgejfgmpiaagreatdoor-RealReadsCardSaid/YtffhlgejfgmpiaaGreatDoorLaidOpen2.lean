/-
  Numbers shown and read: the tables, out of a row's condition.
-/
import Derived.Test.YtffhlgejfgmpiaaGreatDoorLaidOpen
import Derived.Test.YtffhlgejfgmpiaaGreatDoorShowNum
import Derived.OpenShut
namespace Go.Vc
open Go.RowKit
theorem trod_nums {P : Program} {w : World} {base : Nat} {sp : Nat → Bool} {held : Bool} {n : Nat} {t e : TypeId} {k : IntKind} (ht : P.underlying t = some (.array n e)) (he : P.underlying e = some (.int k)) (h1 : P.cellsOf e = 1) {fuel : Nat} {cs : List Value} {zs : List Int} {p : List MemPlace}
    (h : DataW.trod (fun _ => ()) P w base sp held fuel t cs = some ((.agg (zs.map fun z => DataW.lit (Lit.int k z)) : DataW Unit), p)) : ∀ (i : Nat) (z : Int), zs[i]? = some z → cs[i]? = some (.int k z) := by
  obtain ⟨xs, m, _, hx, _, hlen, hf⟩ := DataW.trod_array ht h
  intro i z hz
  simp only [Prod.mk.injEq, DataW.agg.injEq] at hx
  have hl : zs.length = xs.length := by
    have := congrArg List.length hx.1
    simpa using this
  have hi : i < zs.length := (List.getElem?_eq_some_iff.1 hz).1
  have e1 : (xs.map (·.1))[i]? = some (.lit (.int k z)) := by
    rw [← hx.1, List.getElem?_map, hz]; rfl
  have hy := hf i (by omega)
  rw [h1, Nat.mul_one, List.getElem?_eq_getElem (by omega)] at hy
  rw [List.getElem?_map, List.getElem?_eq_getElem (by omega)] at e1
  simp only [Option.map_some, Option.some.injEq] at e1
  obtain ⟨z', hk, hy2, _⟩ := DataW.trod_int he hy
  have ez : z' = z := by
    rw [hy2] at e1
    exact (Lit.int.inj (DataW.lit.inj e1)).2
  have : ((cs.drop i).take 1)[0]? = some (.int k z') := by rw [hk]; rfl
  rw [List.getElem?_take, List.getElem?_drop] at this
  rw [← ez]
  simpa using this
end Go.Vc
namespace Go.Proofs.YtffhlgejfgmpiaaGreatDoor
open Go.RowKit Go.Vc
def dbT : List Int := [0, 1, 56, 2, 57, 49, 28, 3, 61, 58, 42, 50, 38, 29, 17, 4, 62, 47, 59, 36, 45, 43, 51, 22, 53, 39, 33, 30, 24, 18, 12, 5, 63, 55, 48, 27, 60, 41, 37, 16, 46, 35, 44, 21, 52, 32, 23, 11, 54, 26, 40, 15, 34, 20, 31, 10, 25, 14, 19, 9, 13, 8, 7, 6]
def p10T : List Int := [1, 10, 100, 1000, 10000, 100000, 1000000, 10000000, 100000000, 1000000000, 10000000000, 100000000000, 1000000000000, 10000000000000, 100000000000000, 1000000000000000, 10000000000000000, 100000000000000000, 1000000000000000000, 10000000000000000000]
theorem p10T_get : ∀ k, k < 20 → p10T[k]? = some ((10 ^ k : Nat) : Int) := by decide
theorem laid2_of {W : World} {l : List (String × DataW Unit)} (h : laidMetH Tryz.prog l W) (hp : (l.all fun x => x.2.handleName?.isNone) = true)
    (h1 : ("math/bits.deBruijn64tab", (.agg (dbT.map fun z => DataW.lit (Lit.int .u8 z)) : DataW Unit)) ∈ l)
    (h2 : ("internal/strconv.uint64pow10", (.agg (p10T.map fun z => DataW.lit (Lit.int .u64 z)) : DataW Unit)) ∈ l) : Laid2 W := by
  rw [MakeChecks.laidMetH_plain _ _ _ hp] at h
  obtain ⟨ps, hv, _, _⟩ := h
  obtain ⟨g1, t1, c1, f1, p1, a1, b1, v1, d1⟩ := laid_at hv _ h1
  obtain ⟨g2, t2, c2, f2, p2, a2, b2, v2, d2⟩ := laid_at hv _ h2
  obtain rfl := Option.some.inj ((show Tryz.prog.globalNamed "math/bits.deBruijn64tab" = some 9 by kernel_rfl).symm.trans a1)
  obtain rfl := Option.some.inj ((show Tryz.prog.globalNamed "internal/strconv.uint64pow10" = some 1 by kernel_rfl).symm.trans a2)
  obtain rfl := Option.some.inj ((show (Tryz.prog.globals[9]?).map (·.type) = some 149 by kernel_rfl).symm.trans b1)
  obtain rfl := Option.some.inj ((show (Tryz.prog.globals[1]?).map (·.type) = some 96 by kernel_rfl).symm.trans b2)
  have n1 := trod_nums Tryz.underlying149 Tryz.underlying5 (by kernel_rfl) d1
  have n2 := trod_nums Tryz.underlying96 Tryz.underlying27 (by kernel_rfl) d2
  refine ⟨fun k hk => ?_, ?_⟩
  · rw [World.var?_cell a2 v2 k, ← Array.getElem?_toList]
    exact n2 k _ (p10T_get k hk)
  · rw [World.var?_cell a1 v1 15, ← Array.getElem?_toList]
    exact n1 15 4 rfl
end Go.Proofs.YtffhlgejfgmpiaaGreatDoor
