/-
  Devices: the statements' functions answer true: any bytes load, if they are so many whole pages.
-/
import Derived.Test.YtiblbjagfiigdaaDevRef6
namespace Go.Proofs.Ytiblbjagfiigdaa
open Go.RowKit Go.Vc
variable {w : World}
theorem loads_law (a0 a1 a2 : Int) : Does Try.prog 6 #[.int .i64 a0, .int .u8 a1, .int .i64 a2] w (Holds w) := by
  refine f6_does _ _ _ (awake_does.imp ?_)
  rintro e w13 ⟨rfl, x13⟩
  refine ⟨_, rfl, fls rfl (brr (fun _ => ⟨rfl, x13⟩) fun h1 => brr (fun _ => ⟨rfl, x13⟩) fun h2 => brr (fun _ => ⟨rfl, x13⟩) fun h3 => brr (fun _ => ⟨rfl, x13⟩) fun h4 => ?_)⟩
  have h1 : 0 ≤ a0 := by have := of_decide_eq_false h1; omega
  have h2 : a0 ≤ 40 := by have := of_decide_eq_false h2; omega
  have h3 : 0 ≤ a2 := by have := of_decide_eq_false h3; omega
  have h4 : a2 ≤ 300 := by have := of_decide_eq_false h4; omega
  refine ⟨inI64 (by omega) (by omega), inI64 (by omega) (by omega), ⟨by omega, Int.le_refl _, by omega, by omega⟩, ?_⟩
  obtain ⟨L, hL⟩ := Int.eq_ofNat_of_zero_le (show 0 ≤ a0 * 256 + a2 by omega)
  have hLb : L ≤ 11000 := by omega
  rw [hL, Int.toNat_natCast]
  intro b33 w33 N33
  rw [zeros_map] at N33
  have hb33 : b33 = w13.heap.size := N33.eq
  obtain ⟨xs, hxs⟩ : ∃ xs : List Int, xs = (List.range L).map fun (i : Nat) => IntKind.wrap .u8 (a1 + (IntKind.wrap .u8 ((i : Int).tdiv 100))) := ⟨_, rfl⟩
  have hlen : xs.length = L := by rw [hxs, List.length_map, List.length_range]
  have hin : ∀ x ∈ xs, InK .u8 x := fun x hx => by
    rw [hxs] at hx
    obtain ⟨i, _, rfl⟩ := List.mem_map.1 hx
    exact wrapU8 _
  have hget : ∀ k (hk : k < L), xs[k]'(by omega) = IntKind.wrap .u8 (a1 + (IntKind.wrap .u8 ((k : Int).tdiv 100))) := fun k hk => by subst hxs; rw [List.getElem_map, List.getElem_range]
  refine ⟨fun x m wl => ∃ k : Nat, x = k ∧ k ≤ L ∧ m = L - k ∧ Blk wl b33 ((xs.take k ++ List.replicate (L - k) 0).map (Value.int .u8)) ∧ Ext w13 wl, ⟨_, 0, rfl, Nat.zero_le _, rfl, ?_, N33.ext⟩, ?_⟩
  · have := N33.blk
    rw [List.take_zero, List.nil_append]; exact this
  rintro x m wl ⟨k, rfl, hk, rfl, B, hu⟩
  have hbl : ((xs.take k ++ List.replicate (L - k) 0).map (Value.int .u8)).length = L := by rw [List.length_map, List.length_append, List.length_take, List.length_replicate, hlen]; omega
  refine brr (fun hc => ?_) fun hc => ?_
  · have hc : k < L := by have := of_decide_eq_true hc; omega
    have ht : (k : Int).tdiv 100 = (k : Int) / 100 := Int.tdiv_eq_ediv_of_nonneg (by omega)
    refine ⟨by decide, by rw [ht]; exact inI64 (by omega) (by omega), ⟨by omega, by omega⟩, b33, 0, rfl, ?_, fun ws s => ⟨inI64 (by omega) (by omega), L - (k + 1), by omega, k + 1, by omega, by omega, rfl, ?_, Upd.then hu s.upd fun g hg e => by omega⟩⟩
    · rw [Int.toNat_natCast, Nat.zero_add]; exact B.can k (by rw [hbl]; exact hc)
    · rw [Int.toNat_natCast, Nat.zero_add, ← hget k hc] at s
      have B' := B.store s
      have hv : xs.take (k + 1) = xs.take k ++ [xs[k]'(by omega)] := List.take_succ_eq_append_getElem (by omega)
      generalize xs[k]'(by omega) = v at *
      have e : ((xs.take k ++ List.replicate (L - k) 0).map (Value.int .u8)).set k (.int .u8 v) = (xs.take (k + 1) ++ List.replicate (L - (k + 1)) 0).map (Value.int .u8) := by
        rw [← List.map_set]
        refine congrArg (List.map (Value.int .u8)) ?_
        rw [List.set_append_right _ _ (by rw [List.length_take]; omega), List.length_take, hlen, Nat.min_eq_left hk, Nat.sub_self, show L - k = (L - (k + 1)) + 1 by omega, List.replicate_succ, List.set_cons_zero,
          hv, List.append_assoc]
        rfl
      rw [← e]
      exact B'
  have hc : k = L := by have := of_decide_eq_false hc; omega
  subst hc
  rw [Nat.sub_self, List.replicate_zero, List.append_nil, List.take_of_length_le (by omega)] at B
  have I : Ints .u8 wl (fun _ => True) (some ⟨b33, 0, none⟩) xs := fun i hi => ⟨b33, 0, rfl, trivial, by rw [Nat.mul_one, Nat.zero_add]; exact B.cell i (by rw [List.getElem?_map, List.getElem?_eq_getElem hi]; rfl), hin _ (List.getElem_mem hi)⟩
  refine load_does I hlen.symm (Nat.le_refl _) (by omega) (fun hbad => ⟨_, _, rfl, rload_does I hlen.symm (Nat.le_refl _) (by omega) (fun _ w' x' => ⟨_, _, rfl, fls rfl (tru rfl ⟨rfl, (x13.thn hu).thn x'⟩)⟩) fun h => absurd h hbad⟩) fun hok b1 w50 M50 x50 => ⟨_, _, rfl, rload_does (Ints.ext I x50) hlen.symm (Nat.le_refl _) (by omega) (fun h => absurd hok h) fun _ b2 w55 M55 x55 => ⟨_, _, rfl, fls rfl (fls rfl ?_)⟩⟩
  intro wd16 xd
  have xd := xd.ext
  have M1 := (M50.ext x55).ext xd
  have M2 := M55.ext xd
  have hgd := M1.good
  obtain ⟨ps, cs, pn, cn, pw, cw, po, co, vn, vs, vw, A⟩ := id M2
  have hil : (fresh (chunks xs)).image.length ≤ 1048576 := by
    have := pgs_len hgd.now
    have := hgd.max
    unfold Dev.image; omega
  have hnl := hgd.max
  have hcr : (fresh (chunks xs)).crash [] = fresh (chunks xs) := rfl
  have hops : (fresh (chunks xs)).ops < 1000000 := by show (0 : Int) < 1000000; decide
  generalize fresh (chunks xs) = d at *
  refine ⟨fun w => w.cell? ⟨b2, 1, none⟩ = some (.slice pn d.now.length cn), A.blk.cell 1 rfl, (imageX M1).imp ?_⟩
  rintro e w66 ⟨p66, c66, rfl, I66, _, x66⟩
  refine ⟨_, _, _, rfl, x66.cell (A.blk.cell 1 rfl), (rimage_does (M2.ext x66) hnl).imp ?_⟩
  rintro e w68 ⟨p68, c68, rfl, I68, x68⟩
  have y68 := x66.thn x68
  refine ⟨_, _, _, rfl, y68.cell (A.blk.cell 1 rfl), (same_does (Ints.ext I66 x68) I68 rfl rfl _ _ (by omega)).imp ?_⟩
  rintro e w69 ⟨rfl, x69⟩
  have y69 := y68.thn x69
  refine ⟨_, rfl, y69.cell (A.blk.cell 1 rfl), tru (decide_eq_true rfl) ((crashX (M1.ext y69) hops (ok := fun _ => True) (p := none) (choice := []) (by exact RS.nil) rfl 0).imp ?_)⟩
  rintro e w72 ⟨b72, rfl, M72, x72⟩
  rw [hcr] at M72
  have y72 := y69.thn x72
  refine ⟨_, rfl, y72.cell (A.blk.cell 1 rfl), (imageX M72).imp ?_⟩
  rintro e w73 ⟨p73, c73, rfl, I73, _, x73⟩
  have y73 := y72.thn x73
  refine ⟨_, _, _, rfl, y73.cell (A.blk.cell 1 rfl), (rimage_does (M2.ext y73) hnl).imp ?_⟩
  rintro e w75 ⟨p75, c75, rfl, I75, x75⟩
  have y75 := y73.thn x75
  refine ⟨_, _, _, rfl, y75.cell (A.blk.cell 1 rfl), (same_does (Ints.ext I73 x75) I75 rfl rfl _ _ (by omega)).imp ?_⟩
  rintro e w76 ⟨rfl, x76⟩
  have y76 := y75.thn x76
  refine ⟨_, rfl, y76.cell (A.blk.cell 1 rfl), tru (decide_eq_true rfl) (pagesX (M1.ext y76) ⟨_, rfl, y76.cell (A.blk.cell 1 rfl), b2, 0, rfl, _, _, _, fun _ h => h, ?_, (((x13.thn hu).thn (x50.thn x55)).thn xd).thn y76⟩)⟩
  simp
end Go.Proofs.Ytiblbjagfiigdaa
