/-
  Command lines: the examples.
-/
import Derived.Test.YtdkeccgcleamcaaLineResolve2
import Derived.Test.YtdkeccgcleamcaaLineSubst
namespace Go.Proofs.Ytdkeccgcleamcaa
open Go.RowKit Go.Vc
section
variable {w : World}
theorem parse_st (s : ByteArray) {cm : Cm} {n : Int} (hC : parseC (L s) = cm) (hN : parseN (L s) = n) {K : Option Addr → Nat → Nat → ByteArray → Bool → ByteArray → Int → Nat → World → Prop}
    (k : ∀ p c s1 s2 b3 wz, Ext w wz → Blk wz b3 [.slice p cm.al.length c, .string s1, .bool cm.bang, .string s2] → L s1 = cm.name → L s2 = cm.arg → Addrs wz (fun _ => True) p cm.al → cm.al.length ≤ c → K p cm.al.length c s1 cm.bang s2 n b3 wz) :
    Does Try.prog 10 #[.string s] w fun e w16 => ∃ (p : Option Addr) (l c : Nat), ∃ s1 : ByteArray, ∃ b : Bool, ∃ s2 : ByteArray, ∃ n : Int, e = .returned (.tuple #[.agg #[.slice p l c, .string s1, .bool b, .string s2], .int .i64 n]) ∧
      ∀ b3 w3, NewBlk w16 b3 [.slice none 0 0, .string { data := #[] }, .bool false, .string { data := #[] }] 25 w3 → CanStore w3 b3 0 ∧ ∀ ws, Stored w3 b3 0 (.slice p l c) ws → CanStore ws b3 1 ∧ ∀ ws1, Stored ws b3 1 (.string s1) ws1 →
        CanStore ws1 b3 2 ∧ ∀ ws2, Stored ws1 b3 2 (.bool b) ws2 → CanStore ws2 b3 3 ∧ ∀ ws3, Stored ws2 b3 3 (.string s2) ws3 → K p l c s1 b s2 n b3 ws3 := by
  refine (parse_does s rfl).imp ?_
  rw [hC, hN]
  rintro e w16 ⟨p, c, s1, s2, rfl, n1, n2, ho, x16⟩
  have hcap : cm.al.length ≤ c := by obtain ⟨vss, oo, _⟩ := ho; exact oo.cap.1
  refine ⟨_, _, _, _, _, _, _, rfl, fun b3 w3 hb3 => hb3.blk.st4 rfl fun wz B3 u => ?_⟩
  have e3 := hb3.eq
  have z := x16.size
  have xz : Ext w16 wz := hb3.ext.loc (by omega) u
  exact k _ _ _ _ _ _ (Ext.thn x16 xz) B3 n1 n2 (RS.ok (ElemC.widens AddrV.widens) (ho.addrs.ext xz) (fun _ _ _ h => h.1) fun _ _ _ => trivial) hcap
theorem mks_nil (w : World) : Mks w (fun _ => True) none [] := RS.nil
theorem lknown_law : Does Try.prog 8 #[] w (Holds w) := by
  apply f8_does
  refine awake_does.imp ?_
  rintro e w26 ⟨rfl, x26⟩
  refine ⟨_, rfl, fls rfl (parse_st _ (cm := ⟨[a1, aEnd], [115], false, [47, 97, 47, 98, 47, 103]⟩) (n := 0) (by decide +kernel) (by decide +kernel) fun p1 c1 s1 t1 b1 w1 x1 B1 n1 m1 A1 k1 => ?_)⟩
  refine parse_st _ (cm := ⟨[⟨110, 3, 0, 0⟩], [120], false, [121]⟩) (n := 0) (by decide +kernel) (by decide +kernel) fun p2 c2 s2 t2 b2 w2 x2 B2 n2 m2 A2 k2 => ?_
  refine parse_st _ (cm := ⟨[], [100], false, [44]⟩) (n := 0) (by decide +kernel) (by decide +kernel) fun p3 c3 s3 t3 b3 w3 x3 B3 n3 m3 A3 k3 => ?_
  refine parse_st _ (cm := ⟨[⟨110, 2, 0, 0⟩, aEnd], [], false, []⟩) (n := 0) (by decide +kernel) (by decide +kernel) fun p4 c4 s4 t4 b4 w4 x4 B4 n4 m4 A4 k4 => ?_
  refine ⟨_, _, _, B4.cell 0 rfl, _, B4.cell 1 rfl, _, B4.cell 2 rfl, _, B4.cell 3 rfl, (resolve_does A4 k4 (mks_nil _) ⟨by decide, by decide, by decide, by simp, by simp⟩ 0).imp ?_⟩
  rintro e w46 ⟨x46, rfl⟩
  have r1 : resolveF [⟨110, 2, 0, 0⟩, aEnd] 1 5 [] = (2, 5, 0) := by decide +kernel
  rw [r1]
  refine ⟨_, _, _, rfl, parse_st _ (cm := ⟨[⟨110, 0, 0, 0⟩], [], false, []⟩) (n := 0) (by decide +kernel) (by decide +kernel) fun p5 c5 s5 t5 b5 w5 x5 B5 n5 m5 A5 k5 => ?_⟩
  refine ⟨_, _, _, B5.cell 0 rfl, _, B5.cell 1 rfl, _, B5.cell 2 rfl, _, B5.cell 3 rfl, (resolve_does A5 k5 (mks_nil _) ⟨by decide, by decide, by decide, by simp, by simp⟩ 0).imp ?_⟩
  rintro e w56 ⟨x56, rfl⟩
  have r2 : resolveF [⟨110, 0, 0, 0⟩] 1 5 [] = (0, 0, 1) := by decide +kernel
  rw [r2]
  refine ⟨_, _, _, rfl, parse_st _ (cm := ⟨[⟨110, 4, 0, 0⟩, ⟨110, 2, 0, 0⟩], [], false, []⟩) (n := 0) (by decide +kernel) (by decide +kernel) fun p6 c6 s6 t6 b6 w6 x6 B6 n6 m6 A6 k6 => ?_⟩
  refine ⟨_, _, _, B6.cell 0 rfl, _, B6.cell 1 rfl, _, B6.cell 2 rfl, _, B6.cell 3 rfl, (resolve_does A6 k6 (mks_nil _) ⟨by decide, by decide, by decide, by simp, by simp⟩ 0).imp ?_⟩
  rintro e w66 ⟨x66, rfl⟩
  have r3 : resolveF [⟨110, 4, 0, 0⟩, ⟨110, 2, 0, 0⟩] 1 5 [] = (0, 0, 1) := by decide +kernel
  rw [r3]
  refine ⟨_, _, _, rfl, (subst_does (s := { data := #[47, 97, 92, 47, 98, 47, 99] }) rfl (by decide)).imp ?_⟩
  rintro e w71 ⟨x71, u1, u2, ua, uk, rfl, hS⟩
  have hF : substF (L ({ data := #[47, 97, 92, 47, 98, 47, 99] } : ByteArray)) = some ([97, 47, 98], [99], false) := by decide +kernel
  unfold SubstT at hS
  rw [hF] at hS
  obtain ⟨h1, h2, rfl, rfl⟩ := hS
  have xa : Ext w1 w71 := Ext.thn (Ext.thn (Ext.thn (Ext.thn (Ext.thn (Ext.thn (Ext.thn (Ext.thn (Ext.thn x2 x3) x4) x46) x5) x56) x6) x66) x71) (Upd.refl _ _)
  have xb : Ext w2 w71 := Ext.thn (Ext.thn (Ext.thn (Ext.thn (Ext.thn (Ext.thn (Ext.thn x3 x4) x46) x5) x56) x6) x66) x71
  have xc : Ext w3 w71 := Ext.thn (Ext.thn (Ext.thn (Ext.thn (Ext.thn (Ext.thn x4 x46) x5) x56) x6) x66) x71
  have C1 := B1.ext xa
  have C2 := B2.ext xb
  have C3 := B3.ext xc
  have str : ∀ {s : ByteArray} {a : Array UInt8} {l : List Int}, L s = l → L (ByteArray.mk a) = l → (s.toList == (ByteArray.mk a).toList) = true := fun h k => by rw [L_eq]; exact decide_eq_true (h.trans k.symm)
  refine ⟨_, _, _, _, rfl, tru rfl ⟨_, _, _, C1.cell 0 rfl, tru rfl ⟨_, C1.cell 1 rfl, tru (str n1 rfl) ⟨_, C1.cell 3 rfl, tru (str m1 rfl) (tru rfl ⟨_, C2.cell 1 rfl, tru (str n2 rfl) ⟨_, C2.cell 3 rfl, tru (str m2 rfl) (tru rfl ⟨_, C3.cell 1 rfl, tru (str n3 rfl) ⟨_, C3.cell 3 rfl, tru (str m3 rfl) (tru rfl (tru rfl (tru rfl (tru rfl (tru rfl (tru rfl (tru (str h1 rfl) (tru (str h2 rfl) ⟨rfl, ?_⟩))))))))⟩⟩)⟩⟩)⟩⟩⟩⟩
  exact Ext.thn (Ext.thn x26 x1) xa
end
end Go.Proofs.Ytdkeccgcleamcaa
