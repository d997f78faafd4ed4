/-
  Strings' bytes.
-/
import Derived.Test.YtffhlgejfgmpiaaGreatDoorWords2
import Derived.Lib.ConvBytes
namespace Go.Vc
open Go.RowKit
theorem brr {b : Bool} {A B : Prop} (h1 : b = true → A) (h2 : b = false → B) : Br b A B := ⟨h1, h2⟩
/-- A string's bytes. -/
def L (s : ByteArray) : List Int := s.data.toList.map fun b => (b.toNat : Int)
theorem L_len (s : ByteArray) : (L s).length = s.size := by unfold L; rw [List.length_map]; rfl
theorem L_inK (s : ByteArray) : ∀ x ∈ L s, InK .u8 x := fun x hx => by
  obtain ⟨b, _, rfl⟩ := List.mem_map.1 hx
  have := b.toNat_lt
  exact ⟨by show (0 : Int) ≤ _; omega, by show _ ≤ (255 : Int); omega⟩
theorem L_inj {s t : ByteArray} (h : L s = L t) : s = t := by
  have h2 : s.data.toList = t.data.toList := by
    have key : ∀ {a b : List UInt8}, a.map (fun b => (b.toNat : Int)) = b.map (fun b => (b.toNat : Int)) → a = b := by
      intro a
      induction a with
      | nil => intro b h; cases b with
        | nil => rfl
        | cons => simp at h
      | cons x r ih =>
        intro b h
        cases b with
        | nil => simp at h
        | cons y q =>
          simp only [List.map_cons, List.cons.injEq] at h
          rw [ih h.2]
          congr 1
          exact UInt8.toNat_inj.1 (by have := h.1; omega)
    exact key h
  cases s; cases t
  congr 1
  exact Array.toList_inj.1 h2
theorem L_eq (s t : ByteArray) : (s.toList == t.toList) = decide (L s = L t) := by
  rw [ByteArray.toList_eq, ByteArray.toList_eq, Bool.eq_iff_iff, beq_iff_eq, decide_eq_true_iff]
  constructor
  · intro h; unfold L; rw [h]
  · intro h; rw [L_inj h]
theorem L_sb {s : ByteArray} {i : Nat} (h : i < (L s).length) : sb s (i : Int) = (L s)[i] := by
  have h' : i < s.data.toList.length := by unfold L at h; rwa [List.length_map] at h
  have e : (L s)[i] = ((s.data.toList[i]'h').toNat : Int) := List.getElem_map _
  rw [e]
  unfold sb
  rw [Int.toNat_natCast, List.getD_eq_getElem?_getD, List.getElem?_eq_getElem h']
  rfl
theorem L_sub {s : ByteArray} {a b : Nat} (h : b ≤ s.size) : L (s.extract a b) = ((L s).take b).drop a := by
  unfold L
  rw [← List.map_take, ← List.map_drop]
  congr 1
  rw [ByteArray.data_extract, Array.toList_extract]
  rw [List.extract_eq_take_drop, List.drop_take]
theorem L_from {s : ByteArray} {a : Nat} : L (s.extract a s.size) = (L s).drop a := by rw [L_sub (Nat.le_refl _), ← L_len, List.take_length]
theorem L_upto {s : ByteArray} {b : Nat} (h : b ≤ s.size) : L (s.extract 0 b) = (L s).take b := by rw [L_sub h, List.drop_zero]
theorem L_append (s t : ByteArray) : L (s ++ t) = L s ++ L t := by
  unfold L
  rw [← List.map_append, ByteArray.data_append, Array.toList_append]
theorem L_nums {xs : List Int} (h : ∀ x ∈ xs, InK .u8 x) : L (strOfNums xs) = xs := by
  unfold L
  rw [strOfNums_data, List.map_map]
  conv => rhs; rw [← List.map_id xs]
  apply List.map_congr_left
  intro x hx
  have h1 : 0 ≤ x := (h x hx).1
  have h2 : x ≤ 255 := (h x hx).2
  show ((UInt8.ofNat x.toNat).toNat : Int) = x
  rw [UInt8.toNat_ofNat']
  omega
theorem L_nil : L ({ data := #[] } : ByteArray) = [] := rfl
/-- '[]byte(s)'. -/
theorem conv_bytes {P : Program} {src dst e : TypeId} (hs : P.underlying src = some .string) (hd : P.underlying dst = some (.slice e)) (he : P.underlying e = some (.int .u8)) (w : World) (s : ByteArray) :
    ∃ c w', (convert src dst (.string s)).run P w = .ok (.slice (some ⟨w.heap.size, 0, none⟩) s.size c) w' ∧ Ext w w' ∧ Ints .u8 w' (fun _ => True) (some ⟨w.heap.size, 0, none⟩) (L s) := by
  refine ⟨_, _, Lib.run_convert_string_bytes w src dst e s hs hd he, ⟨rfl, rfl, rfl, by rw [Lib.bytesWorld_size]; omega, fun k hk _ => Lib.bytesWorld_at_old w e s k hk⟩, fun i hi => ⟨_, 0, rfl, trivial, ?_, L_inK s _ (List.getElem_mem hi)⟩⟩
  have hi' : i < s.size := by rw [← L_len]; exact hi
  rw [Nat.zero_add, Nat.mul_one, Lib.bytesWorld_cell w e s i hi']
  have := L_sb hi
  unfold sb at this
  rw [Int.toNat_natCast] at this
  rw [← this]
end Go.Vc
