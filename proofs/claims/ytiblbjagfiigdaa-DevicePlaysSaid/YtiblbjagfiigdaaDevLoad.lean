/-
  Devices: what Load does.
-/
import Derived.Test.YtiblbjagfiigdaaDevX
namespace Go.Vc
def chunk (xs : List Int) (i : Nat) : List Int := (xs.drop (i * 256)).take 256
def chunks (xs : List Int) : List (List Int) := (List.range (xs.length / 256)).map (chunk xs)
/-- Do these bytes load? -/
def Loads (xs : List Int) : Prop := xs.length % 256 = 0 ∧ 8 ≤ xs.length / 256 ∧ xs.length / 256 ≤ 4096
theorem chunk_pg {xs : List Int} (h : ∀ x ∈ xs, InK .u8 x) {i : Nat} (hi : i < xs.length / 256) : Pg (chunk xs i) := by
  refine ⟨?_, fun x hx => h x (List.mem_of_mem_drop (List.mem_of_mem_take hx))⟩
  unfold chunk
  rw [List.length_take, List.length_drop]; omega
theorem chunks_pg {xs : List Int} (h : ∀ x ∈ xs, InK .u8 x) : ∀ p ∈ chunks xs, Pg p := fun p hp => by
  obtain ⟨i, hi, rfl⟩ := List.mem_map.1 hp
  exact chunk_pg h (List.mem_range.1 hi)
theorem chunks_len (xs : List Int) : (chunks xs).length = xs.length / 256 := by simp [chunks]
/-- The first k of them, and noughts behind. -/
def chunksTo (xs : List Int) (k : Nat) : List (List Int) := (List.range (xs.length / 256)).map fun i => if i < k then chunk xs i else List.replicate 256 0
theorem chunksTo_len (xs : List Int) (k : Nat) : (chunksTo xs k).length = xs.length / 256 := by unfold chunksTo; rw [List.length_map, List.length_range]
theorem chunksTo_zero (xs : List Int) : chunksTo xs 0 = List.replicate (xs.length / 256) (List.replicate 256 0) := by
  refine List.ext_getElem (by rw [chunksTo_len, List.length_replicate]) fun i h1 h2 => ?_
  rw [List.getElem_replicate]
  simp only [chunksTo, List.getElem_map, List.getElem_range, if_neg (Nat.not_lt_zero i)]
theorem chunksTo_all (xs : List Int) : chunksTo xs (xs.length / 256) = chunks xs := by
  unfold chunksTo chunks
  refine List.map_congr_left fun i hi => ?_
  rw [if_pos (List.mem_range.1 hi)]
theorem chunksTo_succ {xs : List Int} {k : Nat} (hk : k < xs.length / 256) : (chunksTo xs k).set k (chunk xs k) = chunksTo xs (k + 1) := by
  refine List.ext_getElem (by rw [List.length_set, chunksTo_len, chunksTo_len]) fun i h1 h2 => ?_
  rw [List.getElem_set]
  simp only [chunksTo, List.getElem_map, List.getElem_range]
  by_cases h : k = i
  · subst h; rw [if_pos rfl, if_pos (by omega)]
  · rw [if_neg h]
    by_cases h3 : i < k
    · rw [if_pos h3, if_pos (by omega)]
    · rw [if_neg h3, if_neg (by omega)]
theorem chunksTo_pg {xs : List Int} (h : ∀ x ∈ xs, InK .u8 x) (k : Nat) : ∀ p ∈ chunksTo xs k, Pg p := fun p hp => by
  obtain ⟨i, hi, rfl⟩ := List.mem_map.1 hp
  split
  · exact chunk_pg h (List.mem_range.1 hi)
  · exact ⟨List.length_replicate, fun x hx => by rw [(List.mem_replicate.1 hx).2]; exact ⟨by decide, by decide⟩⟩
end Go.Vc
namespace Go.Proofs.Ytiblbjagfiigdaa
open Go.RowKit Go.Vc
variable {w : World} {R : Ending → World → Prop}
/-- Load. -/
theorem load_does {ok : Nat → Prop} {p0 : Option Addr} {xs : List Int} {l : Nat} (hx : Ints .u8 w ok p0 xs) (hl : l = xs.length) {c : Nat} (hlc : l ≤ c) (hs : xs.length ≤ 1000000)
    (hbad : ¬ Loads xs → R (.returned (.tuple #[.pointer none, .int .i64 1])) w)
    (hgood : Loads xs → ∀ b' w', DevX w' w.heap.size (fun _ => False) b' (fresh (chunks xs)) → Ext w w' → R (.returned (.tuple #[.pointer (some ⟨b', 0, none⟩), .int .i64 0])) w') : Does Try.prog 24 #[.slice p0 l c] w R := by
  subst hl
  have td : ((xs.length : Nat) : Int).tdiv 256 = ((xs.length / 256 : Nat) : Int) := by rw [Int.tdiv_eq_ediv_of_nonneg (by omega)]; omega
  have tm : ((xs.length : Nat) : Int).tmod 256 = ((xs.length % 256 : Nat) : Int) := by rw [Int.tmod_eq_emod_of_nonneg (by omega)]; omega
  refine f24_does _ _ _ ?_
  unfold f24_vc
  rw [td, tm]
  refine ⟨by decide, inI64 (by omega) (by omega), by decide, brr (fun h => hbad fun hl => ?_) fun h0 => brr (fun h => hbad fun hl => ?_) fun h1 => brr (fun h => hbad fun hl => ?_) fun h2 => ?_⟩
  · have := hl.1; simp only [bne_iff_ne, ne_eq] at h; omega
  · have := hl.2.1; have := of_decide_eq_true h; omega
  · have := hl.2.2; have := of_decide_eq_true h; omega
  have h0 : xs.length % 256 = 0 := by simp only [bne_eq_false_iff_eq] at h0; omega
  have h1 : 8 ≤ xs.length / 256 := by have := of_decide_eq_false h1; omega
  have h2 : xs.length / 256 ≤ 4096 := by have := of_decide_eq_false h2; omega
  have hld : Loads xs := ⟨h0, h1, h2⟩
  have hin := hx.inK
  generalize hn : xs.length / 256 = n at *
  refine ⟨⟨by omega, Int.le_refl _, by omega, by omega⟩, fun b23 w23 N23 => ?_⟩
  rw [Int.toNat_natCast, zerosL_pgs] at N23
  rw [Int.toNat_natCast]
  have hb23 : b23 = w.heap.size := N23.eq
  have hlen : (pgs (List.replicate n (List.replicate 256 (0 : Int)))).length = n * 256 := by
    unfold pgs; rw [List.length_map, pgs_len fun q hq => by rw [(List.mem_replicate.1 hq).2]; exact pg_zero, List.length_replicate]
  have R23 := N23.row (l := n) (sz := 256) hlen (by simp only [maxLen]; omega)
  have hz := chunksTo_zero xs
  rw [hn] at hz
  rw [← hz] at R23
  refine ⟨fun x m wl => ∃ k : Nat, x = k ∧ k ≤ n ∧ m = n - k ∧ Row wl (fun g => g = b23) 256 (some ⟨b23, 0, none⟩) n n (pgs (chunksTo xs k)) ∧ Ext w wl, ⟨_, 0, rfl, Nat.zero_le _, rfl, R23, N23.ext⟩, ?_⟩
  rintro x m wl ⟨k, rfl, hk, rfl, Rk, hu⟩
  have hck := chunksTo_len xs k
  rw [hn] at hck
  refine brr (fun hc wd xd => ?_) fun hc => ?_
  · have hc : k < n := by have := of_decide_eq_true hc; omega
    have Rd := Rk.ext xd.ext
    have hpk : (pgs (chunksTo xs k)).length = n * 256 := by unfold pgs; rw [List.length_map, pgs_len (chunksTo_pg hin k), hck]
    have e1 : ((k : Int) * 256).toNat = k * 256 := by omega
    have hch := chunk_pg hin (i := k) (by omega)
    have S := (hx.ext (hu.thn xd.ext)).sub (k * 256) xs.length c hlc
    rw [List.take_length] at S
    have hsl : (xs.drop (k * 256)).length = xs.length - k * 256 := List.length_drop
    have hmn : Nat.min (xs.drop (k * 256)).length 256 = 256 := by rw [hsl]; simp only [Nat.min_def]; split <;> omega
    have hcan : ∀ j, j < Nat.min (xs.drop (k * 256)).length 256 → CanStore wd b23 (0 + k * 256 + j) := fun j hj => by
      rw [hmn] at hj
      obtain ⟨g', o', e, _, hc, _⟩ := Rd.can (j := k * 256 + j) (by omega)
      injection e with e; injection e with e1 e2; subst e1; subst e2
      rw [Nat.add_assoc]; exact hc
    have hcp := copy_run (P := Try.prog) (dT := 22) (sT := 22) (ty := 3) (elem := 5) Try.underlying22 rfl S (g := b23) (o := 0 + k * 256) (dl := 256) (m := xs.length - k * 256) 256 (c - k * 256) hsl.symm hcan (by rw [hmn]; decide)
    rw [hmn] at hcp
    refine ⟨⟨by omega, by omega⟩, b23, 0, rfl, inI64 (by omega) (by omega), ⟨by omega, by omega⟩, (256 : Int), wd.setCells b23 (0 + k * 256) (((xs.drop (k * 256)).take 256).map (Value.int .u8)), ?_, inI64 (by omega) (by omega), n - (k + 1), by omega, k + 1, by omega, hc, rfl, ?_, ?_⟩
    · rw [e1, Int.toNat_natCast, subp0]; exact hcp
    · have := setCells_row Rd (j := k * 256) (vs := (chunk xs k).map (Value.int .u8)) (by rw [List.length_map, hch.1, hpk]; omega)
      have e : over (pgs (chunksTo xs k)) (k * 256) ((chunk xs k).map (Value.int .u8)) = pgs (chunksTo xs (k + 1)) := by
        unfold pgs
        rw [← over_map, ← flat_set (chunksTo_pg hin k) k (by omega) hch, chunksTo_succ (by omega)]
      rw [e] at this
      exact this
    · exact Upd.then (hu.thn xd.ext) (setCells_upd _ _ _ _) fun g hg e => by omega
  · have hc : k = n := by have := of_decide_eq_false hc; omega
    subst hc
    have ha := chunksTo_all xs
    rw [hn] at ha
    rw [ha] at Rk
    have hcl := chunks_len xs
    rw [hn] at hcl
    refine Does.imp (madeof_does (base := w.heap.size) (l := chunks xs) hu.size (Rk.ok fun z _ e => by omega) (chunks_pg hin) (by omega) (by omega)) ?_
    rintro e w' ⟨b', rfl, hm, hx'⟩
    exact ⟨_, rfl, hgood hld b' w' ⟨⟨_, hm, fun g hg => ⟨hg, id⟩⟩, fun _ h => h.elim⟩ (hu.thn hx')⟩
end Go.Proofs.Ytiblbjagfiigdaa
