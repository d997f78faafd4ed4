/-
  Numbers read: more of the tables, out of a row's condition.
-/
import Derived.Test.YtffhlgejfgmpiaaGreatDoorLaidOpen
import Derived.Deep.Strs
namespace Go.Vc
open Go.RowKit
theorem laid_row {P : Program} {w : World} : ∀ {l : List (String × DataW Unit)} {ps : List MemPlace}, DataW.LaidVars P w l ps → ∀ x ∈ l, ∃ g cs, P.globalNamed x.1 = some g ∧ w.var? P x.1 = some cs ∧ ∀ y ∈ MemPlace.row ⟨g, 0, none⟩ cs.size, y ∈ ps
  | [], _, _, _, hx => by cases hx
  | (n, d) :: r, ps, h, x, hx => by
    obtain ⟨g, t, cs, fuel, p, q, h1, h2, h3, h4, h5, rfl⟩ := h
    rcases List.mem_cons.1 hx with rfl | hx
    · exact ⟨g, cs, h1, h3, fun y hy => List.mem_append_left _ (List.mem_append_left _ hy)⟩
    · obtain ⟨g', cs', a, b, c⟩ := laid_row h5 x hx
      exact ⟨g', cs', a, b, fun y hy => List.mem_append_right _ (c y hy)⟩
theorem row_head (g : Nat) {n : Nat} (h : 0 < n) : MemPlace.cell g 0 ∈ MemPlace.row ⟨g, 0, none⟩ n := by
  unfold MemPlace.row
  exact List.mem_map.2 ⟨0, List.mem_range.2 h, rfl⟩
end Go.Vc
namespace Go.Proofs.YtffhlgejfgmpiaaGreatDoor
open Go.RowKit Go.Vc
/-- What base 16 reads, too. -/
structure Laid3 (w : World) : Prop where
  i1 : w.cell? ⟨7, 1, none⟩ = some (.int .u64 11)
  i2 : w.cell? ⟨7, 2, none⟩ = some (.int .i64 (-1023))
  h64 : ∃ c t, w.heap[7]? = some (.cells c t (0, 0))
  h32 : ∃ c t, w.heap[5]? = some (.cells c t (0, 0))
theorem heap_ext {w w' : World} {g : Nat} (h : ∃ c t, w.heap[g]? = some (.cells c t (0, 0))) (x : Ext w w') : ∃ c t, w'.heap[g]? = some (.cells c t (0, 0)) := by
  obtain ⟨c, t, h⟩ := h
  exact ⟨c, t, by rw [x.block g (Array.getElem?_eq_some_iff.1 h).1 id]; exact h⟩
theorem Laid3.ext {w w' : World} (h : Laid3 w) (x : Ext w w') : Laid3 w' := ⟨x.cell h.i1, x.cell h.i2, heap_ext h.h64 x, heap_ext h.h32 x⟩
theorem info_cells {w : World} {x0 x1 x2 : Int} {c : Array Value} {fuel : Nat} {p : List MemPlace}
    (d : DataW.trod (fun _ => ()) Tryz.prog w 0 (fun _ => true) false fuel 130 c.toList = some ((.agg [.lit (.int .u64 x0), .lit (.int .u64 x1), .lit (.int .i64 x2)] : DataW Unit), p)) : c.size = 3 ∧ c[1]? = some (.int .u64 x1) ∧ c[2]? = some (.int .i64 x2) := by
  obtain ⟨y0, y1, y2, n, hx, hl, e0, e1, e2⟩ := Go.Deep.trod_struct3 Tryz.underlying130 d
  simp only [Prod.mk.injEq, DataW.agg.injEq, List.cons.injEq] at hx
  have e1 : DataW.trod (fun _ => ()) Tryz.prog w 0 (fun _ => true) false n 49 ((c.toList.drop 1).take (Tryz.prog.cellsOf 49)) = some y1 := e1
  have e2 : DataW.trod (fun _ => ()) Tryz.prog w 0 (fun _ => true) false n 3 ((c.toList.drop 2).take (Tryz.prog.cellsOf 3)) = some y2 := e2
  obtain ⟨k1, q1, r1, _⟩ := DataW.trod_int Tryz.underlying49 e1
  obtain ⟨k2, q2, r2, _⟩ := DataW.trod_int Tryz.underlying3 e2
  have hc1 : Tryz.prog.cellsOf 49 = 1 := by kernel_rfl
  have hc2 : Tryz.prog.cellsOf 3 = 1 := by kernel_rfl
  have hc3 : Tryz.prog.cellsOf 130 = 3 := by kernel_rfl
  rw [hc1] at q1
  rw [hc2] at q2
  rw [hc3] at hl
  have f1 := hx.1.2.1
  have f2 := hx.1.2.2.1
  rw [r1] at f1
  rw [r2] at f2
  have g1 : x1 = k1 := (Lit.int.inj (DataW.lit.inj f1)).2
  have g2 : x2 = k2 := (Lit.int.inj (DataW.lit.inj f2)).2
  refine ⟨by simpa using hl, ?_, ?_⟩
  · have : ((c.toList.drop 1).take 1)[0]? = some (.int .u64 k1) := by rw [q1]; rfl
    rw [g1, ← Array.getElem?_toList]
    simpa using this
  · have : ((c.toList.drop 2).take 1)[0]? = some (.int .i64 k2) := by rw [q2]; rfl
    rw [g2, ← Array.getElem?_toList]
    simpa using this
theorem laid3_of {W : World} {l : List (String × DataW Unit)} (h : laidMetH Tryz.prog l W) (hp : (l.all fun x => x.2.handleName?.isNone) = true)
    (m1 : ("internal/strconv.float64info", (.agg [.lit (.int .u64 52), .lit (.int .u64 11), .lit (.int .i64 (-1023))] : DataW Unit)) ∈ l)
    (m2 : ("internal/strconv.float32info", (.agg [.lit (.int .u64 23), .lit (.int .u64 8), .lit (.int .i64 (-127))] : DataW Unit)) ∈ l) : Laid3 W := by
  rw [MakeChecks.laidMetH_plain _ _ _ hp] at h
  obtain ⟨ps, hv, _, hh⟩ := h
  obtain ⟨g1, t1, c1, f1, p1, a1, b1, v1, d1⟩ := laid_at hv _ m1
  obtain ⟨g2, t2, c2, f2, p2, a2, b2, v2, d2⟩ := laid_at hv _ m2
  obtain ⟨g3, c3, a3, v3, k3⟩ := laid_row hv _ m1
  obtain ⟨g4, c4, a4, v4, k4⟩ := laid_row hv _ m2
  obtain rfl := Option.some.inj (a1.symm.trans a3)
  obtain rfl := Option.some.inj (a2.symm.trans a4)
  obtain rfl := Option.some.inj (v1.symm.trans v3)
  obtain rfl := Option.some.inj (v2.symm.trans v4)
  obtain rfl := Option.some.inj ((show Tryz.prog.globalNamed "internal/strconv.float64info" = some 7 by kernel_rfl).symm.trans a1)
  obtain rfl := Option.some.inj ((show Tryz.prog.globalNamed "internal/strconv.float32info" = some 5 by kernel_rfl).symm.trans a2)
  obtain rfl := Option.some.inj ((show (Tryz.prog.globals[7]?).map (·.type) = some 130 by kernel_rfl).symm.trans b1)
  obtain rfl := Option.some.inj ((show (Tryz.prog.globals[5]?).map (·.type) = some 130 by kernel_rfl).symm.trans b2)
  obtain ⟨s1, x1, x2⟩ := info_cells d1
  obtain ⟨s2, _, _⟩ := info_cells d2
  refine ⟨?_, ?_, (hh _ _ (k3 _ (row_head _ (by omega)))).1, (hh _ _ (k4 _ (row_head _ (by omega)))).1⟩
  · rw [World.var?_cell a1 v1 1]; exact x1
  · rw [World.var?_cell a1 v1 2]; exact x2
end Go.Proofs.YtffhlgejfgmpiaaGreatDoor
