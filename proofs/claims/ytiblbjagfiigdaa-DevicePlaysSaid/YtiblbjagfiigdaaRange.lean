/-
  Words for ranges over functions, and for calls that are put off.
-/
import Derived.Test.YtiblbjagfiigdaaWords2
namespace Go.Vc
open Go.RowKit
theorem cell_lt {w : World} {b o : Nat} {v : Value} (h : w.cell? ⟨b, o, none⟩ = some v) : b < w.heap.size := by
  rcases Nat.lt_or_ge b w.heap.size with h' | h'
  · exact h'
  · simp [World.cell?, Array.getElem?_eq_none h'] at h
theorem Turned.upd {w w' : World} {l : Nat} (h : Turned w l w') : Upd (fun z => z = l) w w' := by
  obtain ⟨o, rfl⟩ := h.world
  exact ⟨rfl, rfl, rfl, by simp, fun k _ hk => World.putObj_heap_other hk⟩
theorem LoopAt.lt {w : World} {l : Nat} {rec : Loop} {st : LoopState} (h : LoopAt w l rec st) : l < w.heap.size := (Array.getElem?_eq_some_iff.1 h.heap).1
theorem LoopAt.upd {w w' : World} {T : Nat → Prop} {l : Nat} {rec : Loop} {st : LoopState} (h : LoopAt w l rec st) (hu : Upd T w w') (ht : ¬ T l) : LoopAt w' l rec st :=
  ⟨(hu.block l h.lt ht).trans h.heap⟩
theorem LoopAt.ext {w w' : World} {l : Nat} {rec : Loop} {st : LoopState} (h : LoopAt w l rec st) (hu : Ext w w') : LoopAt w' l rec st := h.upd hu id
/-- A block for rounds' deferred calls, with none in it. -/
structure OpenD (w : World) (D : Nat) : Prop where
  heap : w.heap[D]? = some (.deferred (some []))
theorem OpenD.lt {w : World} {D : Nat} (h : OpenD w D) : D < w.heap.size := (Array.getElem?_eq_some_iff.1 h.heap).1
theorem OpenD.upd {w w' : World} {T : Nat → Prop} {D : Nat} (h : OpenD w D) (hu : Upd T w w') (ht : ¬ T D) : OpenD w' D := ⟨(hu.block D h.lt ht).trans h.heap⟩
theorem OpenD.ext {w w' : World} {D : Nat} (h : OpenD w D) (hu : Ext w w') : OpenD w' D := h.upd hu id
theorem Opened.ext {w w' : World} {D l : Nat} {rec : Loop} (h : Opened w D l rec w') : Ext w w' := by
  rw [h.world]
  refine ⟨rfl, rfl, rfl, by simp only [World.size_alloc]; omega, fun k hk _ => ?_⟩
  rw [Below.heap_alloc _ _ _ (by simp only [World.size_alloc]; omega), Below.heap_alloc _ _ _ hk]
theorem Opened.size {w w' : World} {D l : Nat} {rec : Loop} (h : Opened w D l rec w') : w'.heap.size = w.heap.size + 2 := by rw [h.world]; simp only [World.size_alloc]
theorem Opened.loop {w w' : World} {D l : Nat} {rec : Loop} (h : Opened w D l rec w') : LoopAt w' l rec .ready := by
  refine ⟨?_⟩
  rw [h.world, h.rcd]
  have := World.alloc_heap_new (w.alloc (.deferred (some []))) (.loop { rec with state := .ready, pending := none })
  rwa [World.size_alloc] at this
theorem Opened.opn {w w' : World} {D l : Nat} {rec : Loop} (h : Opened w D l rec w') : OpenD w' D := by
  refine ⟨?_⟩
  rw [h.world, h.blk]
  exact (Below.heap_alloc _ _ _ (by simp)).trans (World.alloc_heap_new w _)
/-- Out of a function with marks among its deferred calls. -/
theorem leaves_marks {P : Program} {K : World → Prop} {Kp : List PanicEntry → World → Prop} : ∀ {Ds : List Nat} {w : World}, Ds.Nodup → (∀ D ∈ Ds, OpenD w D) → (∀ w', Upd (fun z => z ∈ Ds) w w' → K w') → LeavesV K Kp P (Ds.map markOf) .returning w
  | [], w, _, _, h => h w (Upd.refl _ _)
  | D :: Ds, w, hn, ho, h => by
    have hn := List.nodup_cons.1 hn
    refine ⟨by simp, (ho D List.mem_cons_self).heap, fun w' ht => ?_⟩
    have hu := ht.upd
    refine leaves_marks hn.2 (fun D' hD' => (ho D' (List.mem_cons_of_mem _ hD')).upd hu fun e => ?_) fun w'' hu' => h w'' (Upd.trans (hu.mono fun k _ e => ?_) (hu'.mono fun k _ e => ?_))
    · exact hn.1 (e ▸ hD')
    · show k ∈ D :: Ds; rw [show k = D from e]; exact List.mem_cons_self
    · exact List.mem_cons_of_mem _ e
theorem doesG_func {P : Program} {g : FuncId} {y c : Value} {w : World} {R : Ending → World → Prop} (h : Does P g #[y, c] w R) (hc : callableB P g = true := by kernel_rfl) : DoesG P (.func g) #[] #[y] #[c] w R := ⟨hc, h.calls hc⟩
theorem doesV_yield {P : Program} {l : Nat} {args : Array Value} {w : World} {R : Ending → World → Prop} (h : YieldsV P l args w R) : DoesV P (.yield l) #[] args #[] w R := by
  unfold DoesV
  simpa using h
theorem YieldsV.imp {P : Program} {l : Nat} {args : Array Value} {w : World} {R S : Ending → World → Prop} (h : YieldsV P l args w R) (hi : ∀ e w', R e w' → S e w') : YieldsV P l args w S := by
  obtain ⟨fn, ts, as, body, hy, hr⟩ := h
  exact ⟨fn, ts, as, body, hy, hr.mono hi⟩
end Go.Vc
