/-
  Numbers read: the tables, out of a row's condition.
-/
import Derived.Test.YtffhlgejfgmpiaaGreatDoorRows
import Derived.Test.YtffhlgejfgmpiaaGreatDoorReadNum
import Derived.Test.YtffhlgejfgmpiaaGreatDoorOpen
import Derived.MakeChecks
import Derived.FnData
namespace Go.Vc
open Go.RowKit
theorem laid_at {P : Program} {w : World} : ∀ {l : List (String × DataW Unit)} {ps : List MemPlace}, DataW.LaidVars P w l ps → ∀ x ∈ l, ∃ g t cs fuel p, P.globalNamed x.1 = some g ∧ (P.globals[g]?).map (·.type) = some t ∧ w.var? P x.1 = some cs ∧ DataW.trod (fun _ => ()) P w 0 (fun _ => true) false fuel t cs.toList = some (x.2, p)
  | [], _, _, _, hx => by cases hx
  | (n, d) :: r, ps, h, x, hx => by
    obtain ⟨g, t, cs, fuel, p, q, h1, h2, h3, h4, h5, _⟩ := h
    rcases List.mem_cons.1 hx with rfl | hx
    · exact ⟨g, t, cs, fuel, p, h1, h2, h3, h4⟩
    · exact laid_at h5 x hx
theorem trod_flt {H : Type} {enc : TypeId × Value → H} {P : Program} {w : World} {base : Nat} {sp : Nat → Bool} {held : Bool} {e : TypeId} (he : P.underlying e = some (.float .f64)) {n : Nat} {cs : List Value} (hl : cs.length = 1) {y : DataW H × List MemPlace} (hy : DataW.trod enc P w base sp held n e cs = some y) : ∃ z, cs = [.float .f64 z] ∧ y.1 = .lit (.float .f64 z) := by
  obtain ⟨v, rfl⟩ : ∃ v, cs = [v] := by
    match cs, hl with
    | [v], _ => exact ⟨v, rfl⟩
  cases n with
  | zero => simp [DataW.trod] at hy
  | succ n =>
    cases v <;> simp [DataW.trod, he] at hy
    exact ⟨_, by rw [hy.1.1], by rw [← hy.2]⟩
theorem trod_flts {H : Type} {enc : TypeId × Value → H} {P : Program} {w : World} {sp : Nat → Bool} {held : Bool} {t e : TypeId} (ht : P.underlying t = some (.slice e)) (he : P.underlying e = some (.float .f64)) (hsz : P.cellsOf e = 1) {bs : List Nat} {fuel : Nat} {cs : List Value} {p : List MemPlace}
    (h : DataW.trod enc P w 0 sp held fuel t cs = some (.slice (bs.map fun b => .lit (.float .f64 b)) [], p)) (h0 : bs ≠ []) :
    ∃ q l c, cs = [.slice q l c] ∧ l = bs.length ∧ ∀ k b, bs[k]? = some b → ∃ g o, q = some ⟨g, o, none⟩ ∧ w.cell? ⟨g, o + k, none⟩ = some (.float .f64 b) := by
  have form := h
  rcases DataW.trod_slice ht h with ⟨_, hx⟩ | ⟨a, len, cap, elems, rest, n, _, hcs, hx, _, hl, hm, hlen, hel, _, _⟩
  · simp at hx
  · subst hcs
    simp only [Prod.mk.injEq, DataW.slice.injEq] at hx
    have hbl : bs.length = elems.length := by
      have := congrArg List.length hx.1.1
      simpa using this
    refine ⟨some a, len, cap, rfl, by omega, fun k b hk => ?_⟩
    obtain ⟨_, _, h3⟩ := slice_open ht (by omega) form
    have hkl : k < len := by have := (List.getElem?_eq_some_iff.1 hk).1; omega
    obtain ⟨g, o, cs, y, n', hp, _, hcl, hc, hy⟩ := h3 k hkl
    have he2 := hel k hkl
    rw [List.getElem?_eq_getElem (by omega)] at he2
    obtain ⟨cs', hcs', hy'⟩ := Option.bind_eq_some_iff.1 he2
    obtain ⟨_, hcl', hcell⟩ := World.cells?_some hcs'
    obtain ⟨z, rfl, hz⟩ := trod_flt he (hcl'.trans hsz) hy'
    injection hp with hp
    have hzb : z = b := by
      have e1 : (elems.map (·.1))[k]? = some (.lit (.float .f64 b)) := by
        rw [← hx.1.1, List.getElem?_map, hk]; rfl
      rw [List.getElem?_map, List.getElem?_eq_getElem (by omega)] at e1
      simp only [Option.map_some, Option.some.injEq] at e1
      rw [hz] at e1
      injection e1 with e1
      injection e1
    refine ⟨g, o, by rw [hp], ?_⟩
    have g0 := hcell 0 (by omega)
    rw [hp, hsz, add_plain', add_plain', Nat.mul_one, Nat.add_zero] at g0
    rw [← hzb]
    exact g0
end Go.Vc
namespace Go.Proofs.YtffhlgejfgmpiaaGreatDoor
open Go.RowKit Go.Vc
def powT : List Nat := [4607182418800017408, 4621819117588971520, 4636737291354636288, 4652007308841189376, 4666723172467343360, 4681608360884174848, 4696837146684686336, 4711630319722168320, 4726483295884279808, 4741671816366391296, 4756540486875873280, 4771362005757984768, 4786511204640096256, 4801453603149578240, 4816244402031689728, 4831355200913801216, 4846369599423283200, 4861130398305394688, 4876203697187506176, 4891288408196988160, 4906019910204099648, 4921056587992461136, 4936209963552724370]
theorem powT_ten : ∀ k, k < 16 → powT[k]? = some (ten k) := by decide +kernel
theorem laid_of {W : World} {l : List (String × DataW Unit)} (h : laidMetH Tryz.prog l W) (hp : (l.all fun x => x.2.handleName?.isNone) = true)
    (h1 : ("internal/strconv.optimize", (.lit (.bool true) : DataW Unit)) ∈ l)
    (h2 : ("internal/strconv.float64info", (.agg [.lit (.int .u64 52), .lit (.int .u64 11), .lit (.int .i64 (-1023))] : DataW Unit)) ∈ l)
    (h3 : ("internal/strconv.float64pow10", (.slice (powT.map fun b => .lit (.float .f64 b)) [] : DataW Unit)) ∈ l) : Laid W := by
  rw [MakeChecks.laidMetH_plain _ _ _ hp] at h
  obtain ⟨ps, hv, _, _⟩ := h
  obtain ⟨g1, t1, c1, f1, p1, a1, b1, v1, d1⟩ := laid_at hv _ h1
  obtain ⟨g2, t2, c2, f2, p2, a2, b2, v2, d2⟩ := laid_at hv _ h2
  obtain ⟨g3, t3, c3, f3, p3, a3, b3, v3, d3⟩ := laid_at hv _ h3
  obtain rfl := Option.some.inj ((show Tryz.prog.globalNamed "internal/strconv.optimize" = some 6 by kernel_rfl).symm.trans a1)
  obtain rfl := Option.some.inj ((show Tryz.prog.globalNamed "internal/strconv.float64info" = some 7 by kernel_rfl).symm.trans a2)
  obtain rfl := Option.some.inj ((show Tryz.prog.globalNamed "internal/strconv.float64pow10" = some 12 by kernel_rfl).symm.trans a3)
  obtain rfl := Option.some.inj ((show (Tryz.prog.globals[6]?).map (·.type) = some 4 by kernel_rfl).symm.trans b1)
  obtain rfl := Option.some.inj ((show (Tryz.prog.globals[7]?).map (·.type) = some 130 by kernel_rfl).symm.trans b2)
  obtain rfl := Option.some.inj ((show (Tryz.prog.globals[12]?).map (·.type) = some 165 by kernel_rfl).symm.trans b3)
  refine ⟨?_, ?_, ?_⟩
  · obtain ⟨b, hc, hx⟩ := DataW.trod_bool Tryz.underlying4 d1
    have hb : b = true := by
      have := congrArg Prod.fst hx
      simp only at this
      injection this with this
      injection this with this
      exact this.symm
    rw [World.var?_cell a1 v1 0, ← Array.getElem?_toList, hc, hb]; rfl
  · obtain ⟨xs, n, _, hx, hlen, hxl, hf⟩ := DataW.trod_struct Tryz.underlying130 d2
    have h0 := hf 0 _ rfl
    have hxs : xs.map (·.1) = [.lit (.int .u64 52), .lit (.int .u64 11), .lit (.int .i64 (-1023))] := by
      have := congrArg Prod.fst hx
      simp only at this
      injection this with this
      exact this.symm
    cases hq : xs with
    | nil => rw [hq] at hxs; simp at hxs
    | cons y r =>
      rw [hq] at h0 hxs
      simp only [List.map_cons, List.cons.injEq] at hxs
      have h0 : DataW.trod (fun _ => ()) Tryz.prog W 0 (fun _ => true) false n 49 ((c2.toList.drop 0).take (Tryz.prog.cellsOf 49)) = some y := h0
      obtain ⟨k, hk, hy, _⟩ := DataW.trod_int Tryz.underlying49 h0
      have hk52 : k = 52 := by
        have e := hxs.1
        rw [hy] at e
        exact (Lit.int.inj (DataW.lit.inj e)).2
      have hc1 : Tryz.prog.cellsOf 49 = 1 := by kernel_rfl
      rw [hc1] at hk
      rw [World.var?_cell a2 v2 0, ← Array.getElem?_toList]
      have : ((c2.toList.drop 0).take 1)[0]? = some (.int .u64 k) := by rw [hk]; rfl
      rw [hk52] at this
      simpa using this
  · obtain ⟨q, l, c, hc, hl, hcell⟩ := trod_flts Tryz.underlying165 Tryz.underlying22 (by kernel_rfl) d3 (by unfold powT; simp)
    refine ⟨q, l, c, ?_, by rw [hl]; decide, fun k hk => hcell k _ (powT_ten k hk)⟩
    rw [World.var?_cell a3 v3 0, ← Array.getElem?_toList, hc]; rfl
end Go.Proofs.YtffhlgejfgmpiaaGreatDoor
