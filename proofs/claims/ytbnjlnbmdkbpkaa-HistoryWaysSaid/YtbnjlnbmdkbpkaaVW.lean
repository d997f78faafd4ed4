/-
  Of each function of the code: its verification condition, and that it suffices.
-/
import Derived.Test.YtbnjlnbmdkbpkaaVcDoes
import Derived.Test.YtbnjlnbmdkbpkaaProg
import Derived.Test.YtbnjlnbmdkbpkaaV
set_option maxRecDepth 100000
namespace Go.Proofs.Ytbnjlnbmdkbpkaa
open Go.RowKit Go.Vc
theorem call6 : callableB Try.prog 6 = true := by kernel_rfl
theorem call7 : callableB Try.prog 7 = true := by kernel_rfl
/-- Of escritoire/escritoirelaw19.HistoryPlays (function 6): the condition. -/
def f6_vc (p0 : Option Addr) (l0 c0 : Nat) (w : World) (R : Ending → World → Prop) : Prop :=
  Does Try.prog 8 #[] w fun e33 w33 =>
  ∃ b33 : Bool, e33 = .returned (.bool b33) ∧ Br (!b33)
  (R (.returned (.bool false)) w33)
  (Does Try.prog 22 #[.slice p0 l0 c0, .int .i64 80] w33 fun e36 w36 =>
  ∃ b36 : Bool, e36 = .returned (.bool b36) ∧ Br (!b36)
  (R (.returned (.bool true)) w36)
  (Does Try.prog 15 #[] w36 fun e38 w38 =>
  ∃ p38 : Option Addr, e38 = .returned (.pointer p38) ∧ Does Try.prog 27 #[] w38 fun e39 w39 =>
  ∃ p39 : Option Addr, e39 = .returned (.pointer p39) ∧ Br p38.isNone
  (R (.returned (.bool false)) w39)
  (∃ I10 : Int → Nat → World → Prop, (∃ nl10, I10 0 nl10 w39) ∧ ∀ x5 : Int, ∀ (nl10 : Nat) (wl10 : World), I10 x5 nl10 wl10 →
  Br (decide (x5 < ((l0 : Int))))
  (((0 : Int) ≤ x5 ∧ x5 < (l0 : Int)) ∧ ∃ b50 o50, p0 = some ⟨b50, o50, none⟩ ∧ ∃ n51 : Int, wl10.cell? ⟨b50, o50 + (x5).toNat * 4, none⟩ = some (.int .i64 n51) ∧ ∃ n51_1 : Int, wl10.cell? ⟨b50, o50 + (x5).toNat * 4 + 1, none⟩ = some (.int .i64 n51_1) ∧ ∃ n51_2 : Int, wl10.cell? ⟨b50, o50 + (x5).toNat * 4 + 2, none⟩ = some (.int .i64 n51_2) ∧ ∃ (p51 : Option Addr) (l51 c51 : Nat), wl10.cell? ⟨b50, o50 + (x5).toNat * 4 + 3, none⟩ = some (.slice p51 l51 c51) ∧ ∀ b6 w6, NewBlk wl10 b6 [.int .i64 0, .int .i64 0, .int .i64 0, .slice none 0 0] 54 w6 →
  CanStore w6 b6 0 ∧ ∀ ws, Stored w6 b6 0 (.int .i64 n51) ws →
  CanStore ws b6 1 ∧ ∀ ws_1, Stored ws b6 1 (.int .i64 n51_1) ws_1 →
  CanStore ws_1 b6 2 ∧ ∀ ws_2, Stored ws_1 b6 2 (.int .i64 n51_2) ws_2 →
  CanStore ws_2 b6 3 ∧ ∀ ws_3, Stored ws_2 b6 3 (.slice p51 l51 c51) ws_3 →
  ∃ J29 : Bool → Nat → World → Prop, (∃ n83 : Int, ws_3.cell? ⟨b6, 0, none⟩ = some (.int .i64 n83) ∧ Br (decide (n83 ≤ 4))
  (∃ (p88 : Option Addr) (l88 c88 : Nat), ws_3.cell? ⟨b6, 3, none⟩ = some (.slice p88 l88 c88) ∧ ∃ n90 : Int, ws_3.cell? ⟨b6, 2, none⟩ = some (.int .i64 n90) ∧ Does Try.prog 16 #[.pointer p38, .slice p88 l88 c88, .int .i64 n90] ws_3 fun e91 w91 =>
  ∃ n91 : Int, ∃ n91_1 : Int, e91 = .returned (.tuple #[.int .i64 n91, .int .i64 n91_1]) ∧ ∃ (p97 : Option Addr) (l97 c97 : Nat), w91.cell? ⟨b6, 3, none⟩ = some (.slice p97 l97 c97) ∧ ∃ n99 : Int, w91.cell? ⟨b6, 2, none⟩ = some (.int .i64 n99) ∧ Does Try.prog 28 #[.pointer p39, .slice p97 l97 c97, .int .i64 n99] w91 fun e100 w100 =>
  ∃ n100 : Int, ∃ n100_1 : Int, e100 = .returned (.tuple #[.int .i64 n100, .int .i64 n100_1]) ∧ Br (n91 == n100)
  (∃ nc29, J29 (n91_1 == n100_1) nc29 w100)
  (∃ nc29, J29 false nc29 w100))
  (∃ n113 : Int, ws_3.cell? ⟨b6, 0, none⟩ = some (.int .i64 n113) ∧ Br (decide (n113 ≤ 6))
  (Does Try.prog 18 #[.pointer p38] ws_3 fun e117 w117 =>
  ∃ (p117 : Option Addr) (l117 c117 : Nat), ∃ n117 : Int, ∃ b117 : Bool, e117 = .returned (.tuple #[.slice p117 l117 c117, .int .i64 n117, .bool b117]) ∧ Does Try.prog 29 #[.pointer p39] w117 fun e123 w123 =>
  ∃ (p123 : Option Addr) (l123 c123 : Nat), ∃ n123 : Int, ∃ b123 : Bool, e123 = .returned (.tuple #[.slice p123 l123 c123, .int .i64 n123, .bool b123]) ∧ Br (b117 == b123)
  (Br (n117 == n123)
  (Does Try.prog 24 #[.slice p117 l117 c117, .slice p123 l123 c123] w123 fun e138 w138 =>
  ∃ b138 : Bool, e138 = .returned (.bool b138) ∧ ∃ nc29, J29 b138 nc29 w138)
  (∃ nc29, J29 false nc29 w123))
  (∃ nc29, J29 false nc29 w123))
  (∃ n142 : Int, ws_3.cell? ⟨b6, 0, none⟩ = some (.int .i64 n142) ∧ Br (n142 == 7)
  (Does Try.prog 20 #[.pointer p38] ws_3 fun e146 w146 =>
  ∃ (p146 : Option Addr) (l146 c146 : Nat), ∃ n146 : Int, ∃ b146 : Bool, e146 = .returned (.tuple #[.slice p146 l146 c146, .int .i64 n146, .bool b146]) ∧ Does Try.prog 30 #[.pointer p39] w146 fun e152 w152 =>
  ∃ (p152 : Option Addr) (l152 c152 : Nat), ∃ n152 : Int, ∃ b152 : Bool, e152 = .returned (.tuple #[.slice p152 l152 c152, .int .i64 n152, .bool b152]) ∧ Br (b146 == b152)
  (Br (n146 == n152)
  (Does Try.prog 24 #[.slice p146 l146 c146, .slice p152 l152 c152] w152 fun e167 w167 =>
  ∃ b167 : Bool, e167 = .returned (.bool b167) ∧ ∃ nc29, J29 b167 nc29 w167)
  (∃ nc29, J29 false nc29 w152))
  (∃ nc29, J29 false nc29 w152))
  (∃ n55 : Int, ws_3.cell? ⟨b6, 1, none⟩ = some (.int .i64 n55) ∧ Does Try.prog 21 #[.pointer p38, .int .i64 n55] ws_3 fun e56 w56 =>
  ∃ (p56 : Option Addr) (l56 c56 : Nat), ∃ n56 : Int, ∃ b56 : Bool, e56 = .returned (.tuple #[.slice p56 l56 c56, .int .i64 n56, .bool b56]) ∧ ∃ n63 : Int, w56.cell? ⟨b6, 1, none⟩ = some (.int .i64 n63) ∧ Does Try.prog 31 #[.pointer p39, .int .i64 n63] w56 fun e64 w64 =>
  ∃ (p64 : Option Addr) (l64 c64 : Nat), ∃ n64 : Int, ∃ b64 : Bool, e64 = .returned (.tuple #[.slice p64 l64 c64, .int .i64 n64, .bool b64]) ∧ Br (b56 == b64)
  (Br (n56 == n64)
  (Does Try.prog 24 #[.slice p56 l56 c56, .slice p64 l64 c64] w64 fun e79 w79 =>
  ∃ b79 : Bool, e79 = .returned (.bool b79) ∧ ∃ nc29, J29 b79 nc29 w79)
  (∃ nc29, J29 false nc29 w64))
  (∃ nc29, J29 false nc29 w64))))) ∧ ∀ b7 : Bool, ∀ (nc29 : Nat) (wc29 : World), J29 b7 nc29 wc29 →
  ∃ n172 : Int, wc29.cell? ⟨b6, 1, none⟩ = some (.int .i64 n172) ∧ Does Try.prog 26 #[.pointer p38, .int .i64 n172] wc29 fun e173 w173 =>
  ∃ n173 : Int, ∃ (p173 : Option Addr) (l173 c173 : Nat), ∃ n173_1 : Int, ∃ b173 : Bool, e173 = .returned (.tuple #[.agg #[.int .i64 n173, .slice p173 l173 c173, .int .i64 n173_1], .bool b173]) ∧ ∀ b30 w30, NewBlk w173 b30 [.int .i64 0, .slice none 0 0, .int .i64 0] 58 w30 →
  CanStore w30 b30 0 ∧ ∀ ws_4, Stored w30 b30 0 (.int .i64 n173) ws_4 →
  CanStore ws_4 b30 1 ∧ ∀ ws_5, Stored ws_4 b30 1 (.slice p173 l173 c173) ws_5 →
  CanStore ws_5 b30 2 ∧ ∀ ws_6, Stored ws_5 b30 2 (.int .i64 n173_1) ws_6 →
  ∃ J31 : Bool → Nat → World → Prop, (∀ wd30, Drew ws_6 wd30 →
  ∃ n177 : Int, wd30.cell? ⟨b6, 1, none⟩ = some (.int .i64 n177) ∧ Br (decide (n177 ≥ 0))
  (∃ n181 : Int, wd30.cell? ⟨b6, 1, none⟩ = some (.int .i64 n181) ∧ ∃ b183 o183, p39 = some ⟨b183, o183, none⟩ ∧ ∃ (p185 : Option Addr) (l185 c185 : Nat), wd30.cell? ⟨b183, o183, none⟩ = some (.slice p185 l185 c185) ∧ ∃ nc31, J31 (decide (n181 < ((l185 : Int)))) nc31 wd30)
  (∃ nc31, J31 false nc31 wd30)) ∧ ∀ b32 : Bool, ∀ (nc31 : Nat) (wc31 : World), J31 b32 nc31 wc31 →
  ∀ wd31, Drew wc31 wd31 →
  ∃ S31 : World → Prop, S31 wd31 ∧ Br (!b7)
  (R (.returned (.bool false)) wd31)
  (Does Try.prog 13 #[.pointer p38] wd31 fun e193 w193 =>
  ∃ n193 : Int, e193 = .returned (.int .i64 n193) ∧ S31 w193 ∧ ∃ b195 o195, p39 = some ⟨b195, o195, none⟩ ∧ ∃ n197 : Int, (∀ w, S31 w → w.cell? ⟨b195, o195 + 1, none⟩ = some (.int .i64 n197)) ∧ Br (n193 != n197)
  (R (.returned (.bool false)) w193)
  (Does Try.prog 23 #[.pointer p38] w193 fun e202 w202 =>
  ∃ n202 : Int, e202 = .returned (.int .i64 n202) ∧ S31 w202 ∧ ∃ b204 o204, p39 = some ⟨b204, o204, none⟩ ∧ ∃ (p206 : Option Addr) (l206 c206 : Nat), (∀ w, S31 w → w.cell? ⟨b204, o204, none⟩ = some (.slice p206 l206 c206)) ∧ Br (n202 != ((l206 : Int)))
  (R (.returned (.bool false)) w202)
  (Br (!(b173 == b32))
  (R (.returned (.bool false)) w202)
  (Br b32
  (∃ n218 : Int, (∀ w, S31 w → w.cell? ⟨b30, 0, none⟩ = some (.int .i64 n218)) ∧ ∃ (p218 : Option Addr) (l218 c218 : Nat), (∀ w, S31 w → w.cell? ⟨b30, 1, none⟩ = some (.slice p218 l218 c218)) ∧ ∃ n218_1 : Int, (∀ w, S31 w → w.cell? ⟨b30, 2, none⟩ = some (.int .i64 n218_1)) ∧ ∀ b219 w219, NewBlk w202 b219 [.int .i64 n218, .slice p218 l218 c218, .int .i64 n218_1] 58 w219 →
  S31 w219 ∧ ∃ b221 o221, p39 = some ⟨b221, o221, none⟩ ∧ ∃ (p223 : Option Addr) (l223 c223 : Nat), (∀ w, S31 w → w.cell? ⟨b221, o221, none⟩ = some (.slice p223 l223 c223)) ∧ ∃ n225 : Int, (∀ w, S31 w → w.cell? ⟨b6, 1, none⟩ = some (.int .i64 n225)) ∧ ∃ n227 : Int, (∀ w, S31 w → w.cell? ⟨b6, 1, none⟩ = some (.int .i64 n227)) ∧ InK .i64 (n227 + 1) ∧ ((0 : Int) ≤ (n227 + 1) ∧ (n227 + 1) ≤ (c223 : Int)) ∧ ((0 : Int) ≤ n225 ∧ n225 ≤ (n227 + 1)) ∧ Does Try.prog 14 #[.slice (some ⟨b219, 0, none⟩) 1 1, .slice (subp p223 ((n225).toNat) c223 3) (((n227 + 1).toNat) - ((n225).toNat)) (c223 - ((n225).toNat))] w219 fun e230 w230 =>
  ∃ b230 : Bool, e230 = .returned (.bool b230) ∧ S31 w230 ∧ Br (!b230)
  (R (.returned (.bool false)) w230)
  (∃ n237 : Int, (∀ w, S31 w → w.cell? ⟨b6, 1, none⟩ = some (.int .i64 n237)) ∧ Does Try.prog 19 #[.pointer p38, .int .i64 n237] w230 fun e238 w238 =>
  ∃ (p238 : Option Addr) (l238 c238 : Nat), e238 = .returned (.slice p238 l238 c238) ∧ S31 w238 ∧ ∃ n241 : Int, (∀ w, S31 w → w.cell? ⟨b6, 1, none⟩ = some (.int .i64 n241)) ∧ Does Try.prog 33 #[.pointer p39, .int .i64 n241] w238 fun e242 w242 =>
  ∃ (p242 : Option Addr) (l242 c242 : Nat), e242 = .returned (.slice p242 l242 c242) ∧ Does Try.prog 32 #[.slice p238 l238 c238, .slice p242 l242 c242] w242 fun e243 w243 =>
  ∃ b243 : Bool, e243 = .returned (.bool b243) ∧ Br (!b243)
  (R (.returned (.bool false)) w243)
  (InK .i64 (x5 + 1) ∧ ∃ ml10, ml10 < nl10 ∧ I10 (x5 + 1) ml10 w243)))
  (∃ n237_1 : Int, (∀ w, S31 w → w.cell? ⟨b6, 1, none⟩ = some (.int .i64 n237_1)) ∧ Does Try.prog 19 #[.pointer p38, .int .i64 n237_1] w202 fun e238_1 w238_1 =>
  ∃ (p238_1 : Option Addr) (l238_1 c238_1 : Nat), e238_1 = .returned (.slice p238_1 l238_1 c238_1) ∧ S31 w238_1 ∧ ∃ n241_1 : Int, (∀ w, S31 w → w.cell? ⟨b6, 1, none⟩ = some (.int .i64 n241_1)) ∧ Does Try.prog 33 #[.pointer p39, .int .i64 n241_1] w238_1 fun e242_1 w242_1 =>
  ∃ (p242_1 : Option Addr) (l242_1 c242_1 : Nat), e242_1 = .returned (.slice p242_1 l242_1 c242_1) ∧ Does Try.prog 32 #[.slice p238_1 l238_1 c238_1, .slice p242_1 l242_1 c242_1] w242_1 fun e243_1 w243_1 =>
  ∃ b243_1 : Bool, e243_1 = .returned (.bool b243_1) ∧ Br (!b243_1)
  (R (.returned (.bool false)) w243_1)
  (InK .i64 (x5 + 1) ∧ ∃ ml10, ml10 < nl10 ∧ I10 (x5 + 1) ml10 w243_1)))))))
  (∀ wd33, Drew wl10 wd33 →
  ∃ S33 : World → Prop, S33 wd33 ∧ Does Try.prog 12 #[.pointer p38] wd33 fun e247 w247 =>
  ∃ (p247 : Option Addr) (l247 c247 : Nat), e247 = .returned (.slice p247 l247 c247) ∧ S33 w247 ∧ ∃ b249 o249, p39 = some ⟨b249, o249, none⟩ ∧ ∃ (p251 : Option Addr) (l251 c251 : Nat), (∀ w, S33 w → w.cell? ⟨b249, o249, none⟩ = some (.slice p251 l251 c251)) ∧ Does Try.prog 14 #[.slice p247 l247 c247, .slice p251 l251 c251] w247 fun e252 w252 =>
  ∃ b252 : Bool, e252 = .returned (.bool b252) ∧ S33 w252 ∧ Br b252
  (Does Try.prog 34 #[.pointer p38] w252 fun e255 w255 =>
  ∃ p255 : Option Addr, e255 = .returned (.pointer p255) ∧ S33 w255 ∧ Does Try.prog 12 #[.pointer p255] w255 fun e256 w256 =>
  ∃ (p256 : Option Addr) (l256 c256 : Nat), e256 = .returned (.slice p256 l256 c256) ∧ S33 w256 ∧ ∃ b258 o258, p39 = some ⟨b258, o258, none⟩ ∧ ∃ (p260 : Option Addr) (l260 c260 : Nat), (∀ w, S33 w → w.cell? ⟨b258, o258, none⟩ = some (.slice p260 l260 c260)) ∧ Does Try.prog 14 #[.slice p256 l256 c256, .slice p260 l260 c260] w256 fun e261 w261 =>
  ∃ b261 : Bool, e261 = .returned (.bool b261) ∧ R (.returned (.bool b261)) w261)
  (R (.returned (.bool false)) w252)))))
def f6_ann : Ann := { loops := [(10, [(5, .int .i64)])], cuts := [(29, [(7, .bool)]), (31, [(32, .bool)])], flip := [], throws := [] }
theorem f6_eq (p0 : Option Addr) (l0 c0 : Nat) (w : World) (R : Ending → World → Prop) : vc Try.prog f6_ann (bodyOf Try.f6) (retQ Try.prog Try.f6 R) (envOf Try.f6.ntmps [.v (.slice p0 l0 c0)]) [] w = f6_vc p0 l0 c0 w R := by kernel_rfl
theorem f6_does (p0 : Option Addr) (l0 c0 : Nat) {w : World} {R : Ending → World → Prop} (h : f6_vc p0 l0 c0 w R) : Does Try.prog 6 #[.slice p0 l0 c0] w R :=
  does_of_vc (ss := [.v (.slice p0 l0 c0)]) f6_ann mixed call6 Try.func6 rfl rfl (show 1 ≤ Try.f6.ntmps by decide) ((f6_eq p0 l0 c0 w R).symm ▸ h)
/-- Of escritoire/escritoirelaw19.HistoryWays (function 7): the condition. -/
def f7_vc (p0 : Option Addr) (l0 c0 : Nat) (p1 : Option Addr) (l1 c1 : Nat) (w : World) (R : Ending → World → Prop) : Prop :=
  Does Try.prog 8 #[] w fun e17 w17 =>
  ∃ b17 : Bool, e17 = .returned (.bool b17) ∧ Br (!b17)
  (R (.returned (.bool false)) w17)
  (Br (decide (((l0 : Int)) > 300))
  (R (.returned (.bool true)) w17)
  (Does Try.prog 22 #[.slice p1 l1 c1, .int .i64 60] w17 fun e24 w24 =>
  ∃ b24 : Bool, e24 = .returned (.bool b24) ∧ Br (!b24)
  (R (.returned (.bool true)) w24)
  (Does Try.prog 15 #[] w24 fun e27 w27 =>
  ∃ p27 : Option Addr, e27 = .returned (.pointer p27) ∧ Br p27.isNone
  (R (.returned (.bool false)) w27)
  (Does Try.prog 35 #[.slice p0 l0 c0] w27 fun e31 w31 =>
  ∃ (p31 : Option Addr) (l31 c31 : Nat), e31 = .returned (.slice p31 l31 c31) ∧ Does Try.prog 35 #[.slice p31 l31 c31] w31 fun e33 w33 =>
  ∃ (p33 : Option Addr) (l33 c33 : Nat), e33 = .returned (.slice p33 l33 c33) ∧ ∀ b34 w34, NewBlk w33 b34 [.slice p33 l33 c33] 41 w34 →
  ∃ I11 : Option Addr → Nat → Nat → Option Addr → Nat → Nat → Int → Nat → World → Prop, (∃ nl11, I11 p31 l31 c31 (some ⟨b34, 0, none⟩) 1 1 0 nl11 w34) ∧ ∀ (p0 : Option Addr) (l0 c0 : Nat), ∀ (p6 : Option Addr) (l6 c6 : Nat), ∀ x7 : Int, ∀ (nl11 : Nat) (wl11 : World), I11 p0 l0 c0 p6 l6 c6 x7 nl11 wl11 →
  Br (decide (x7 < ((l1 : Int))))
  (((0 : Int) ≤ x7 ∧ x7 < (l1 : Int)) ∧ ∃ b43 o43, p1 = some ⟨b43, o43, none⟩ ∧ ∃ n44 : Int, wl11.cell? ⟨b43, o43 + (x7).toNat * 4, none⟩ = some (.int .i64 n44) ∧ ∃ n44_1 : Int, wl11.cell? ⟨b43, o43 + (x7).toNat * 4 + 1, none⟩ = some (.int .i64 n44_1) ∧ ∃ n44_2 : Int, wl11.cell? ⟨b43, o43 + (x7).toNat * 4 + 2, none⟩ = some (.int .i64 n44_2) ∧ ∃ (p44 : Option Addr) (l44 c44 : Nat), wl11.cell? ⟨b43, o43 + (x7).toNat * 4 + 3, none⟩ = some (.slice p44 l44 c44) ∧ ∀ b8 w8, NewBlk wl11 b8 [.int .i64 0, .int .i64 0, .int .i64 0, .slice none 0 0] 54 w8 →
  CanStore w8 b8 0 ∧ ∀ ws, Stored w8 b8 0 (.int .i64 n44) ws →
  CanStore ws b8 1 ∧ ∀ ws_1, Stored ws b8 1 (.int .i64 n44_1) ws_1 →
  CanStore ws_1 b8 2 ∧ ∀ ws_2, Stored ws_1 b8 2 (.int .i64 n44_2) ws_2 →
  CanStore ws_2 b8 3 ∧ ∀ ws_3, Stored ws_2 b8 3 (.slice p44 l44 c44) ws_3 →
  ∃ J33 : Option Addr → Nat → Nat → Option Addr → Nat → Nat → Option Addr → Nat → Nat → Nat → World → Prop, (∃ n59 : Int, ws_3.cell? ⟨b8, 0, none⟩ = some (.int .i64 n59) ∧ Br (decide (n59 ≤ 4))
  (∃ n62 : Int, ws_3.cell? ⟨b8, 1, none⟩ = some (.int .i64 n62) ∧ ∃ J21 : Int → Nat → World → Prop, (Br (decide (((l0 : Int)) > 0))
  (InK .i64 (((l0 : Int)) + 1) ∧ ((((l0 : Int)) + 1) : Int) ≠ 0 ∧ ∃ nc21, J21 ((bits .and .i64 n62 255).tmod (((l0 : Int)) + 1)) nc21 ws_3)
  (∃ nc21, J21 0 nc21 ws_3)) ∧ ∀ x10 : Int, ∀ (nc21 : Nat) (wc21 : World), J21 x10 nc21 wc21 →
  ∃ n73 : Int, wc21.cell? ⟨b8, 2, none⟩ = some (.int .i64 n73) ∧ InK .i64 (((l0 : Int)) - x10) ∧ InK .i64 (x10 + (if ((l0 : Int)) - x10 < bits .and .i64 n73 3 then ((l0 : Int)) - x10 else bits .and .i64 n73 3)) ∧ ((0 : Int) ≤ (x10 + (if ((l0 : Int)) - x10 < bits .and .i64 n73 3 then ((l0 : Int)) - x10 else bits .and .i64 n73 3)) ∧ (x10 + (if ((l0 : Int)) - x10 < bits .and .i64 n73 3 then ((l0 : Int)) - x10 else bits .and .i64 n73 3)) ≤ (c0 : Int)) ∧ ((0 : Int) ≤ x10 ∧ x10 ≤ (x10 + (if ((l0 : Int)) - x10 < bits .and .i64 n73 3 then ((l0 : Int)) - x10 else bits .and .i64 n73 3))) ∧ Does Try.prog 35 #[.slice (subp p0 ((x10).toNat) c0 1) (((x10 + (if ((l0 : Int)) - x10 < bits .and .i64 n73 3 then ((l0 : Int)) - x10 else bits .and .i64 n73 3)).toNat) - ((x10).toNat)) (c0 - ((x10).toNat))] wc21 fun e87 w87 =>
  ∃ (p87 : Option Addr) (l87 c87 : Nat), e87 = .returned (.slice p87 l87 c87) ∧ (20 : Int) ≠ 0 ∧ InK .i64 (97 + (x7.tmod 20)) ∧ ∀ b92 w92, NewBlk w87 b92 [.int .u8 (IntKind.wrap .u8 (97 + (x7.tmod 20))), .int .u8 120] 5 w92 →
  ∀ b94 w94, NewBlk w92 b94 [.int .i64 x10, .slice p87 l87 c87, .slice (some ⟨b92, 0, none⟩) 2 2] 43 w94 →
  Does Try.prog 36 #[.slice p0 l0 c0, .slice (some ⟨b94, 0, none⟩) 1 1] w94 fun e98 w98 =>
  ∃ (p98 : Option Addr) (l98 c98 : Nat), ∃ n98 : Int, e98 = .returned (.tuple #[.slice p98 l98 c98, .int .i64 n98]) ∧ Br (n98 != 0)
  (R (.returned (.bool false)) w98)
  (Does Try.prog 16 #[.pointer p27, .slice (some ⟨b94, 0, none⟩) 1 1, .int .i64 0] w98 fun e105 w105 =>
  ∃ n105 : Int, ∃ n105_1 : Int, e105 = .returned (.tuple #[.int .i64 n105, .int .i64 n105_1]) ∧ Does Try.prog 35 #[.slice p98 l98 c98] w105 fun e109 w109 =>
  ∃ (p109 : Option Addr) (l109 c109 : Nat), e109 = .returned (.slice p109 l109 c109) ∧ ∀ b110 w110, NewBlk w109 b110 [.slice p109 l109 c109] 41 w110 →
  ∃ (p111 : Option Addr) (l111 c111 : Nat) (w111 : World), (Builtin.append_ #[67, 67] 67 #[.slice p6 l6 c6, .slice (some ⟨b110, 0, none⟩) 1 1]).run Try.prog w110 = .ok (.slice p111 l111 c111) w111 ∧
  ∃ nc33, J33 p98 l98 c98 p111 l111 c111 none 0 0 nc33 w111))
  (∃ n114 : Int, ws_3.cell? ⟨b8, 0, none⟩ = some (.int .i64 n114) ∧ Br (decide (n114 ≤ 6))
  (Does Try.prog 18 #[.pointer p27] ws_3 fun e118 w118 =>
  ∃ (p118 : Option Addr) (l118 c118 : Nat), ∃ n118 : Int, ∃ b118 : Bool, e118 = .returned (.tuple #[.slice p118 l118 c118, .int .i64 n118, .bool b118]) ∧ ∃ nc33, J33 p0 l0 c0 p6 l6 c6 p118 l118 c118 nc33 w118)
  (∃ n124 : Int, ws_3.cell? ⟨b8, 0, none⟩ = some (.int .i64 n124) ∧ Br (n124 == 7)
  (Does Try.prog 20 #[.pointer p27] ws_3 fun e128 w128 =>
  ∃ (p128 : Option Addr) (l128 c128 : Nat), ∃ n128 : Int, ∃ b128 : Bool, e128 = .returned (.tuple #[.slice p128 l128 c128, .int .i64 n128, .bool b128]) ∧ ∃ nc33, J33 p0 l0 c0 p6 l6 c6 p128 l128 c128 nc33 w128)
  (∀ wd15, Drew ws_3 wd15 →
  ∃ S15 : World → Prop, S15 wd15 ∧ ∃ n48 : Int, (∀ w, S15 w → w.cell? ⟨b8, 1, none⟩ = some (.int .i64 n48)) ∧ Does Try.prog 23 #[.pointer p27] wd15 fun e51 w51 =>
  ∃ n51 : Int, e51 = .returned (.int .i64 n51) ∧ S15 w51 ∧ (n51 : Int) ≠ 0 ∧ Does Try.prog 21 #[.pointer p27, .int .i64 ((bits .and .i64 n48 255).tmod n51)] w51 fun e53 w53 =>
  ∃ (p53 : Option Addr) (l53 c53 : Nat), ∃ n53 : Int, ∃ b53 : Bool, e53 = .returned (.tuple #[.slice p53 l53 c53, .int .i64 n53, .bool b53]) ∧ ∃ nc33, J33 p0 l0 c0 p6 l6 c6 p53 l53 c53 nc33 w53)))) ∧ ∀ (p0_1 : Option Addr) (l0_1 c0_1 : Nat), ∀ (p6_1 : Option Addr) (l6_1 c6_1 : Nat), ∀ (p9 : Option Addr) (l9 c9 : Nat), ∀ (nc33 : Nat) (wc33 : World), J33 p0_1 l0_1 c0_1 p6_1 l6_1 c6_1 p9 l9 c9 nc33 wc33 →
  Does Try.prog 36 #[.slice p0_1 l0_1 c0_1, .slice p9 l9 c9] wc33 fun e135 w135 =>
  ∃ (p135 : Option Addr) (l135 c135 : Nat), ∃ n135 : Int, e135 = .returned (.tuple #[.slice p135 l135 c135, .int .i64 n135]) ∧ Br (n135 != 0)
  (R (.returned (.bool false)) w135)
  (Does Try.prog 13 #[.pointer p27] w135 fun e144 w144 =>
  ∃ n144 : Int, e144 = .returned (.int .i64 n144) ∧ ((0 : Int) ≤ n144 ∧ n144 < (l6_1 : Int)) ∧ ∃ b145 o145, p6_1 = some ⟨b145, o145, none⟩ ∧ ∃ (p146 : Option Addr) (l146 c146 : Nat), w144.cell? ⟨b145, o145 + (n144).toNat, none⟩ = some (.slice p146 l146 c146) ∧ Does Try.prog 37 #[.slice p135 l135 c135, .slice p146 l146 c146] w144 fun e147 w147 =>
  ∃ b147 : Bool, e147 = .returned (.bool b147) ∧ Br (!b147)
  (R (.returned (.bool false)) w147)
  (InK .i64 (x7 + 1) ∧ ∃ ml11, ml11 < nl11 ∧ I11 p135 l135 c135 p6_1 l6_1 c6_1 (x7 + 1) ml11 w147)))
  (R (.returned (.bool true)) wl11)))))
def f7_ann : Ann := { loops := [(11, [(0, .slice), (6, .slice), (7, .int .i64)])], cuts := [(33, [(0, .slice), (6, .slice), (9, .slice)]), (21, [(10, .int .i64)])], flip := [], throws := [] }
theorem f7_eq (p0 : Option Addr) (l0 c0 : Nat) (p1 : Option Addr) (l1 c1 : Nat) (w : World) (R : Ending → World → Prop) : vc Try.prog f7_ann (bodyOf Try.f7) (retQ Try.prog Try.f7 R) (envOf Try.f7.ntmps [.v (.slice p0 l0 c0), .v (.slice p1 l1 c1)]) [] w = f7_vc p0 l0 c0 p1 l1 c1 w R := by kernel_rfl
theorem f7_does (p0 : Option Addr) (l0 c0 : Nat) (p1 : Option Addr) (l1 c1 : Nat) {w : World} {R : Ending → World → Prop} (h : f7_vc p0 l0 c0 p1 l1 c1 w R) : Does Try.prog 7 #[.slice p0 l0 c0, .slice p1 l1 c1] w R :=
  does_of_vc (ss := [.v (.slice p0 l0 c0), .v (.slice p1 l1 c1)]) f7_ann mixed call7 Try.func7 rfl rfl (show 2 ≤ Try.f7.ntmps by decide) ((f7_eq p0 l0 c0 p1 l1 c1 w R).symm ▸ h)
end Go.Proofs.Ytbnjlnbmdkbpkaa
