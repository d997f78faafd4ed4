/-
  No cell of these rows narrows 'for every input' (looked for: loops, veiled, ifaces, maps, wideKeys, modest, calm, conditions, laid).
  DERIVED. THE GIVEN ROWS OF THIS SEAT. 6 by the template 'for every input the law returns true; each argument reads behind the call as it read before'; 0 by the template 'total and deterministic' (their statements: YtiblbjagfiigdaaTotals.lean).
  GIVEN WITH THE SEED: the statements are not yours to turn. If you find one false, say at which input.
  Laid BY PROGRAM, IN A SANDBOX (cutbox-rows.mjs): the forced cells as the released guide's own fill.sh prints them over the translation 065504b2f049569d… (all of the seat's roots in one cut). By AI agents, Wed Nov 11 2026. No macro, syntax, notation, axiom, sorry.
-/
import Derived.Test.YtiblbjagfiigdaaChecked
import GoSem.Claim
import GoSem.ClaimJoined
import GoSem.ClaimMapViews
import Derived.JoinedTies
import Derived.KernelRfl
namespace Go.Proofs.Ytiblbjagfiigdaa
/- THE CELL 'sum', in the pinned program and in every row, IS THE sha256 OF THE DUMP (.gsa) THAT YtiblbjagfiigdaaProg.lean LOADS. Nothing in Lean hashes anything: it is a label: what it is worth is what the hold of that sum in a sandbox is worth. -/
noncomputable def Try.pinned : Pinned := { name := "ytiblbjagfiigdaa", sum := "065504b2f049569dd486515f4fc90e8aaba0937f7625f388fa3a3e07963ff67a", checked := Try.checked }
namespace Rows
def none {H : Type} : Left H := { results := [], args := [] }

/-- 'escritoirelaw5.DeviceOutcomes': WHATEVER THE INPUT: true; the input reads as it did. -/
def deviceOutcomesSpec : ChangeSpec := { name := "deviceOutcomes", fn := fun _ => fun
  | [d1, d2] => { results := [.lit (.bool true)], args := [d1, d2] }
  | _ => none }
def deviceOutcomesRow : OpenClaim := { program := "ytiblbjagfiigdaa", sum := "065504b2f049569dd486515f4fc90e8aaba0937f7625f388fa3a3e07963ff67a", func := "escritoire/escritoirelaw5.DeviceOutcomes", spec := "deviceOutcomes", unfollowed := true, recurses := true, apart := false }
def DeviceOutcomesSaid : Prop := deviceOutcomesRow.holds Try.pinned (OpenSpec.ofChange deviceOutcomesSpec)

/-- ITS FALSE NEIGHBOUR: 'it returns false'. Refute it at one input. -/
def deviceOutcomesWrong : ChangeSpec := { name := "deviceOutcomes", fn := fun _ => fun
  | [d1, d2] => { results := [.lit (.bool false)], args := [d1, d2] }
  | _ => none }
def DeviceOutcomesWrongFalsely : Prop := deviceOutcomesRow.holds Try.pinned (OpenSpec.ofChange deviceOutcomesWrong)

/-- 'escritoirelaw5.DeviceLasts': WHATEVER THE INPUT: true; the input reads as it did. -/
def deviceLastsSpec : ChangeSpec := { name := "deviceLasts", fn := fun _ => fun
  | [d1, d2, d3] => { results := [.lit (.bool true)], args := [d1, d2, d3] }
  | _ => none }
def deviceLastsRow : OpenClaim := { program := "ytiblbjagfiigdaa", sum := "065504b2f049569dd486515f4fc90e8aaba0937f7625f388fa3a3e07963ff67a", func := "escritoire/escritoirelaw5.DeviceLasts", spec := "deviceLasts", unfollowed := true, recurses := true, apart := false }
def DeviceLastsSaid : Prop := deviceLastsRow.holds Try.pinned (OpenSpec.ofChange deviceLastsSpec)

/-- ITS FALSE NEIGHBOUR: 'it returns false'. Refute it at one input. -/
def deviceLastsWrong : ChangeSpec := { name := "deviceLasts", fn := fun _ => fun
  | [d1, d2, d3] => { results := [.lit (.bool false)], args := [d1, d2, d3] }
  | _ => none }
def DeviceLastsWrongFalsely : Prop := deviceLastsRow.holds Try.pinned (OpenSpec.ofChange deviceLastsWrong)

/-- 'escritoirelaw5.DeviceKnown': WHATEVER THE INPUT: true; the input reads as it did. -/
def deviceKnownSpec : ChangeSpec := { name := "deviceKnown", fn := fun _ => fun
  | [] => { results := [.lit (.bool true)], args := [] }
  | _ => none }
def deviceKnownRow : OpenClaim := { program := "ytiblbjagfiigdaa", sum := "065504b2f049569dd486515f4fc90e8aaba0937f7625f388fa3a3e07963ff67a", func := "escritoire/escritoirelaw5.DeviceKnown", spec := "deviceKnown", unfollowed := true, recurses := true, apart := false }
def DeviceKnownSaid : Prop := deviceKnownRow.holds Try.pinned (OpenSpec.ofChange deviceKnownSpec)

/-- ITS FALSE NEIGHBOUR: 'it returns false'. Refute it at one input. -/
def deviceKnownWrong : ChangeSpec := { name := "deviceKnown", fn := fun _ => fun
  | [] => { results := [.lit (.bool false)], args := [] }
  | _ => none }
def DeviceKnownWrongFalsely : Prop := deviceKnownRow.holds Try.pinned (OpenSpec.ofChange deviceKnownWrong)

/-- 'escritoirelaw5.DeviceLoads': WHATEVER THE INPUT: true; the input reads as it did. -/
def deviceLoadsSpec : ChangeSpec := { name := "deviceLoads", fn := fun _ => fun
  | [d1, d2, d3] => { results := [.lit (.bool true)], args := [d1, d2, d3] }
  | _ => none }
def deviceLoadsRow : OpenClaim := { program := "ytiblbjagfiigdaa", sum := "065504b2f049569dd486515f4fc90e8aaba0937f7625f388fa3a3e07963ff67a", func := "escritoire/escritoirelaw5.DeviceLoads", spec := "deviceLoads", unfollowed := true, recurses := true, apart := false }
def DeviceLoadsSaid : Prop := deviceLoadsRow.holds Try.pinned (OpenSpec.ofChange deviceLoadsSpec)

/-- ITS FALSE NEIGHBOUR: 'it returns false'. Refute it at one input. -/
def deviceLoadsWrong : ChangeSpec := { name := "deviceLoads", fn := fun _ => fun
  | [d1, d2, d3] => { results := [.lit (.bool false)], args := [d1, d2, d3] }
  | _ => none }
def DeviceLoadsWrongFalsely : Prop := deviceLoadsRow.holds Try.pinned (OpenSpec.ofChange deviceLoadsWrong)

/-- 'escritoirelaw5.DeviceDies': WHATEVER THE INPUT: true; the input reads as it did. -/
def deviceDiesSpec : ChangeSpec := { name := "deviceDies", fn := fun _ => fun
  | [d1, d2] => { results := [.lit (.bool true)], args := [d1, d2] }
  | _ => none }
def deviceDiesRow : OpenClaim := { program := "ytiblbjagfiigdaa", sum := "065504b2f049569dd486515f4fc90e8aaba0937f7625f388fa3a3e07963ff67a", func := "escritoire/escritoirelaw5.DeviceDies", spec := "deviceDies", unfollowed := true, recurses := true, apart := false }
def DeviceDiesSaid : Prop := deviceDiesRow.holds Try.pinned (OpenSpec.ofChange deviceDiesSpec)

/-- ITS FALSE NEIGHBOUR: 'it returns false'. Refute it at one input. -/
def deviceDiesWrong : ChangeSpec := { name := "deviceDies", fn := fun _ => fun
  | [d1, d2] => { results := [.lit (.bool false)], args := [d1, d2] }
  | _ => none }
def DeviceDiesWrongFalsely : Prop := deviceDiesRow.holds Try.pinned (OpenSpec.ofChange deviceDiesWrong)

/-- 'escritoirelaw5.DevicePlays': WHATEVER THE INPUT: true; the input reads as it did. -/
def devicePlaysSpec : ChangeSpec := { name := "devicePlays", fn := fun _ => fun
  | [d1, d2] => { results := [.lit (.bool true)], args := [d1, d2] }
  | _ => none }
def devicePlaysRow : OpenClaim := { program := "ytiblbjagfiigdaa", sum := "065504b2f049569dd486515f4fc90e8aaba0937f7625f388fa3a3e07963ff67a", func := "escritoire/escritoirelaw5.DevicePlays", spec := "devicePlays", unfollowed := true, recurses := true, apart := false }
def DevicePlaysSaid : Prop := devicePlaysRow.holds Try.pinned (OpenSpec.ofChange devicePlaysSpec)

/-- ITS FALSE NEIGHBOUR: 'it returns false'. Refute it at one input. -/
def devicePlaysWrong : ChangeSpec := { name := "devicePlays", fn := fun _ => fun
  | [d1, d2] => { results := [.lit (.bool false)], args := [d1, d2] }
  | _ => none }
def DevicePlaysWrongFalsely : Prop := devicePlaysRow.holds Try.pinned (OpenSpec.ofChange devicePlaysWrong)

/- THE SECOND FORM. 'bulk': how many values and letters a reading holds, each counted each time it is reached (what is shared counts as often as it is met; a slice's spare places count too). A statement '..UptoSaid' is the law's where the arguments, and the package variables that the reading takes, are together of bulk at most 1048576: NARROWER than '..Said'. Prove '..Said' where nothing that the law and all that it calls make is longer than what came in: it says more and counts as full. Else prove '..UptoSaid'. A law counts once. -/
mutual
def uptoBulk {H : Type} : DataW H → Nat
  | .lit (.string bytes) => bytes.length + 1
  | .lit _ => 1
  | .nil => 1
  | .ptr d => uptoBulk d + 1
  | .slice elems spare => uptoBulkAll elems + uptoBulkAll spare + 1
  | .agg parts => uptoBulkAll parts + 1
  | .iface _ d => uptoBulk d + 1
  | .map entries => uptoBulkEntries entries + 1
  | .held _ => 1
def uptoBulkAll {H : Type} : List (DataW H) → Nat
  | [] => 0
  | d :: r => uptoBulk d + uptoBulkAll r
def uptoBulkEntries {H : Type} : List (Lit × DataW H) → Nat
  | [] => 0
  | x :: r => uptoBulkEntry x + uptoBulkEntries r
def uptoBulkEntry {H : Type} : Lit × DataW H → Nat
  | (.string bytes, d) => bytes.length + uptoBulk d + 1
  | (_, d) => uptoBulk d + 1
 end
def uptoSmall : (H : Type) → List (DataW H) → Bool := fun _ ds => decide (uptoBulkAll ds ≤ 1048576)
def OpenSpec.upto (s : _root_.Go.ChangeSpec) : _root_.Go.OpenSpec := { _root_.Go.OpenSpec.ofChange s with cond := some uptoSmall }

/-- 'escritoirelaw5.DeviceOutcomes', WHERE WHAT IT READS IS OF BULK AT MOST 1048576: true; the input reads as it did. -/
def deviceOutcomesUptoRow : OpenClaim := { program := "ytiblbjagfiigdaa", sum := "065504b2f049569dd486515f4fc90e8aaba0937f7625f388fa3a3e07963ff67a", func := "escritoire/escritoirelaw5.DeviceOutcomes", spec := "deviceOutcomes", unfollowed := true, recurses := true, apart := false, narrowed := true }
def DeviceOutcomesUptoSaid : Prop := deviceOutcomesUptoRow.holds Try.pinned (OpenSpec.upto deviceOutcomesSpec)

/-- 'escritoirelaw5.DeviceLasts', WHERE WHAT IT READS IS OF BULK AT MOST 1048576: true; the input reads as it did. -/
def deviceLastsUptoRow : OpenClaim := { program := "ytiblbjagfiigdaa", sum := "065504b2f049569dd486515f4fc90e8aaba0937f7625f388fa3a3e07963ff67a", func := "escritoire/escritoirelaw5.DeviceLasts", spec := "deviceLasts", unfollowed := true, recurses := true, apart := false, narrowed := true }
def DeviceLastsUptoSaid : Prop := deviceLastsUptoRow.holds Try.pinned (OpenSpec.upto deviceLastsSpec)

/-- 'escritoirelaw5.DeviceKnown', WHERE WHAT IT READS IS OF BULK AT MOST 1048576: true; the input reads as it did. -/
def deviceKnownUptoRow : OpenClaim := { program := "ytiblbjagfiigdaa", sum := "065504b2f049569dd486515f4fc90e8aaba0937f7625f388fa3a3e07963ff67a", func := "escritoire/escritoirelaw5.DeviceKnown", spec := "deviceKnown", unfollowed := true, recurses := true, apart := false, narrowed := true }
def DeviceKnownUptoSaid : Prop := deviceKnownUptoRow.holds Try.pinned (OpenSpec.upto deviceKnownSpec)

/-- 'escritoirelaw5.DeviceLoads', WHERE WHAT IT READS IS OF BULK AT MOST 1048576: true; the input reads as it did. -/
def deviceLoadsUptoRow : OpenClaim := { program := "ytiblbjagfiigdaa", sum := "065504b2f049569dd486515f4fc90e8aaba0937f7625f388fa3a3e07963ff67a", func := "escritoire/escritoirelaw5.DeviceLoads", spec := "deviceLoads", unfollowed := true, recurses := true, apart := false, narrowed := true }
def DeviceLoadsUptoSaid : Prop := deviceLoadsUptoRow.holds Try.pinned (OpenSpec.upto deviceLoadsSpec)

/-- 'escritoirelaw5.DeviceDies', WHERE WHAT IT READS IS OF BULK AT MOST 1048576: true; the input reads as it did. -/
def deviceDiesUptoRow : OpenClaim := { program := "ytiblbjagfiigdaa", sum := "065504b2f049569dd486515f4fc90e8aaba0937f7625f388fa3a3e07963ff67a", func := "escritoire/escritoirelaw5.DeviceDies", spec := "deviceDies", unfollowed := true, recurses := true, apart := false, narrowed := true }
def DeviceDiesUptoSaid : Prop := deviceDiesUptoRow.holds Try.pinned (OpenSpec.upto deviceDiesSpec)

/-- 'escritoirelaw5.DevicePlays', WHERE WHAT IT READS IS OF BULK AT MOST 1048576: true; the input reads as it did. -/
def devicePlaysUptoRow : OpenClaim := { program := "ytiblbjagfiigdaa", sum := "065504b2f049569dd486515f4fc90e8aaba0937f7625f388fa3a3e07963ff67a", func := "escritoire/escritoirelaw5.DevicePlays", spec := "devicePlays", unfollowed := true, recurses := true, apart := false, narrowed := true }
def DevicePlaysUptoSaid : Prop := devicePlaysUptoRow.holds Try.pinned (OpenSpec.upto devicePlaysSpec)

end Rows
end Go.Proofs.Ytiblbjagfiigdaa
