/-
  No cell of these rows narrows 'for every input' (looked for: loops, veiled, ifaces, maps, wideKeys, modest, calm, conditions, laid).
  DERIVED. THE GIVEN ROWS OF THIS SEAT. 5 by the template 'for every input the law returns true; each argument reads behind the call as it read before'; 0 by the template 'total and deterministic' (their statements: YtlenmnffdbgkkaaTotals.lean).
  GIVEN WITH THE SEED: the statements are not yours to turn. If you find one false, say at which input.
  Laid BY PROGRAM, IN A SANDBOX (cutbox-rows.mjs): the forced cells as the released guide's own fill.sh prints them over the translation ea029335334f9ed3… (all of the seat's roots in one cut). By AI agents, Wed Nov 11 2026. No macro, syntax, notation, axiom, sorry.
-/
import Derived.Test.YtlenmnffdbgkkaaChecked
import GoSem.Claim
import GoSem.ClaimJoined
import GoSem.ClaimMapViews
import Derived.JoinedTies
import Derived.KernelRfl
namespace Go.Proofs.Ytlenmnffdbgkkaa
/- THE CELL 'sum', in the pinned program and in every row, IS THE sha256 OF THE DUMP (.gsa) THAT YtlenmnffdbgkkaaProg.lean LOADS. Nothing in Lean hashes anything: it is a label: what it is worth is what the hold of that sum in a sandbox is worth. -/
noncomputable def Try.pinned : Pinned := { name := "ytlenmnffdbgkkaa", sum := "ea029335334f9ed3cb2de707584c67b63612ec161bb811ea05a0408f6d10eb1b", checked := Try.checked }
namespace Rows
def none {H : Type} : Left H := { results := [], args := [] }

/-- 'escritoirelaw20.StateKnown': WHATEVER THE INPUT: true; the input reads as it did. -/
def stateKnownSpec : ChangeSpec := { name := "stateKnown", fn := fun _ => fun
  | [] => { results := [.lit (.bool true)], args := [] }
  | _ => none }
def stateKnownRow : OpenClaim := { program := "ytlenmnffdbgkkaa", sum := "ea029335334f9ed3cb2de707584c67b63612ec161bb811ea05a0408f6d10eb1b", func := "escritoire/escritoirelaw20.StateKnown", spec := "stateKnown", unfollowed := true, recurses := true, apart := false }
def StateKnownSaid : Prop := stateKnownRow.holds Try.pinned (OpenSpec.ofChange stateKnownSpec)

/-- ITS FALSE NEIGHBOUR: 'it returns false'. Refute it at one input. -/
def stateKnownWrong : ChangeSpec := { name := "stateKnown", fn := fun _ => fun
  | [] => { results := [.lit (.bool false)], args := [] }
  | _ => none }
def StateKnownWrongFalsely : Prop := stateKnownRow.holds Try.pinned (OpenSpec.ofChange stateKnownWrong)

/-- 'escritoirelaw20.StateEncodes': WHATEVER THE INPUT: true; the input reads as it did. -/
def stateEncodesSpec : ChangeSpec := { name := "stateEncodes", fn := fun _ => fun
  | [d1, d2, d3] => { results := [.lit (.bool true)], args := [d1, d2, d3] }
  | _ => none }
def stateEncodesRow : OpenClaim := { program := "ytlenmnffdbgkkaa", sum := "ea029335334f9ed3cb2de707584c67b63612ec161bb811ea05a0408f6d10eb1b", func := "escritoire/escritoirelaw20.StateEncodes", spec := "stateEncodes", unfollowed := true, recurses := true, apart := false }
def StateEncodesSaid : Prop := stateEncodesRow.holds Try.pinned (OpenSpec.ofChange stateEncodesSpec)

/-- ITS FALSE NEIGHBOUR: 'it returns false'. Refute it at one input. -/
def stateEncodesWrong : ChangeSpec := { name := "stateEncodes", fn := fun _ => fun
  | [d1, d2, d3] => { results := [.lit (.bool false)], args := [d1, d2, d3] }
  | _ => none }
def StateEncodesWrongFalsely : Prop := stateEncodesRow.holds Try.pinned (OpenSpec.ofChange stateEncodesWrong)

/-- 'escritoirelaw20.StateDecodes': WHATEVER THE INPUT: true; the input reads as it did. -/
def stateDecodesSpec : ChangeSpec := { name := "stateDecodes", fn := fun _ => fun
  | [d] => { results := [.lit (.bool true)], args := [d] }
  | _ => none }
def stateDecodesRow : OpenClaim := { program := "ytlenmnffdbgkkaa", sum := "ea029335334f9ed3cb2de707584c67b63612ec161bb811ea05a0408f6d10eb1b", func := "escritoire/escritoirelaw20.StateDecodes", spec := "stateDecodes", unfollowed := true, recurses := true, apart := false }
def StateDecodesSaid : Prop := stateDecodesRow.holds Try.pinned (OpenSpec.ofChange stateDecodesSpec)

/-- ITS FALSE NEIGHBOUR: 'it returns false'. Refute it at one input. -/
def stateDecodesWrong : ChangeSpec := { name := "stateDecodes", fn := fun _ => fun
  | [d] => { results := [.lit (.bool false)], args := [d] }
  | _ => none }
def StateDecodesWrongFalsely : Prop := stateDecodesRow.holds Try.pinned (OpenSpec.ofChange stateDecodesWrong)

/-- 'escritoirelaw20.StateCuts': WHATEVER THE INPUT: true; the input reads as it did. -/
def stateCutsSpec : ChangeSpec := { name := "stateCuts", fn := fun _ => fun
  | [d1, d2, d3] => { results := [.lit (.bool true)], args := [d1, d2, d3] }
  | _ => none }
def stateCutsRow : OpenClaim := { program := "ytlenmnffdbgkkaa", sum := "ea029335334f9ed3cb2de707584c67b63612ec161bb811ea05a0408f6d10eb1b", func := "escritoire/escritoirelaw20.StateCuts", spec := "stateCuts", unfollowed := true, recurses := true, apart := false }
def StateCutsSaid : Prop := stateCutsRow.holds Try.pinned (OpenSpec.ofChange stateCutsSpec)

/-- ITS FALSE NEIGHBOUR: 'it returns false'. Refute it at one input. -/
def stateCutsWrong : ChangeSpec := { name := "stateCuts", fn := fun _ => fun
  | [d1, d2, d3] => { results := [.lit (.bool false)], args := [d1, d2, d3] }
  | _ => none }
def StateCutsWrongFalsely : Prop := stateCutsRow.holds Try.pinned (OpenSpec.ofChange stateCutsWrong)

/-- 'escritoirelaw20.StateOne': WHATEVER THE INPUT: true; the input reads as it did. -/
def stateOneSpec : ChangeSpec := { name := "stateOne", fn := fun _ => fun
  | [d1, d2, d3] => { results := [.lit (.bool true)], args := [d1, d2, d3] }
  | _ => none }
def stateOneRow : OpenClaim := { program := "ytlenmnffdbgkkaa", sum := "ea029335334f9ed3cb2de707584c67b63612ec161bb811ea05a0408f6d10eb1b", func := "escritoire/escritoirelaw20.StateOne", spec := "stateOne", unfollowed := true, recurses := true, apart := false }
def StateOneSaid : Prop := stateOneRow.holds Try.pinned (OpenSpec.ofChange stateOneSpec)

/-- ITS FALSE NEIGHBOUR: 'it returns false'. Refute it at one input. -/
def stateOneWrong : ChangeSpec := { name := "stateOne", fn := fun _ => fun
  | [d1, d2, d3] => { results := [.lit (.bool false)], args := [d1, d2, d3] }
  | _ => none }
def StateOneWrongFalsely : Prop := stateOneRow.holds Try.pinned (OpenSpec.ofChange stateOneWrong)

/- THE SECOND FORM. 'bulk': how many values and letters a reading holds, each counted each time it is reached (what is shared counts as often as it is met; a slice's spare places count too). A statement '..UptoSaid' is the law's where the arguments, and the package variables that the reading takes, are together of bulk at most 1048576: NARROWER than '..Said'. Prove '..Said' where nothing that the law and all that it calls make is longer than what came in: it says more and counts as full. Else prove '..UptoSaid'. A law counts once. -/
mutual
def uptoBulk {H : Type} : DataW H → Nat
  | .lit (.string bytes) => bytes.length + 1
  | .lit _ => 1
  | .nil => 1
  | .ptr d => uptoBulk d + 1
  | .slice elems spare => uptoBulkAll elems + uptoBulkAll spare + 1
  | .agg parts => uptoBulkAll parts + 1
  | .iface _ d => uptoBulk d + 1
  | .map entries => uptoBulkEntries entries + 1
  | .held _ => 1
def uptoBulkAll {H : Type} : List (DataW H) → Nat
  | [] => 0
  | d :: r => uptoBulk d + uptoBulkAll r
def uptoBulkEntries {H : Type} : List (Lit × DataW H) → Nat
  | [] => 0
  | x :: r => uptoBulkEntry x + uptoBulkEntries r
def uptoBulkEntry {H : Type} : Lit × DataW H → Nat
  | (.string bytes, d) => bytes.length + uptoBulk d + 1
  | (_, d) => uptoBulk d + 1
 end
def uptoSmall : (H : Type) → List (DataW H) → Bool := fun _ ds => decide (uptoBulkAll ds ≤ 1048576)
def OpenSpec.upto (s : _root_.Go.ChangeSpec) : _root_.Go.OpenSpec := { _root_.Go.OpenSpec.ofChange s with cond := some uptoSmall }

/-- 'escritoirelaw20.StateKnown', WHERE WHAT IT READS IS OF BULK AT MOST 1048576: true; the input reads as it did. -/
def stateKnownUptoRow : OpenClaim := { program := "ytlenmnffdbgkkaa", sum := "ea029335334f9ed3cb2de707584c67b63612ec161bb811ea05a0408f6d10eb1b", func := "escritoire/escritoirelaw20.StateKnown", spec := "stateKnown", unfollowed := true, recurses := true, apart := false, narrowed := true }
def StateKnownUptoSaid : Prop := stateKnownUptoRow.holds Try.pinned (OpenSpec.upto stateKnownSpec)

/-- 'escritoirelaw20.StateEncodes', WHERE WHAT IT READS IS OF BULK AT MOST 1048576: true; the input reads as it did. -/
def stateEncodesUptoRow : OpenClaim := { program := "ytlenmnffdbgkkaa", sum := "ea029335334f9ed3cb2de707584c67b63612ec161bb811ea05a0408f6d10eb1b", func := "escritoire/escritoirelaw20.StateEncodes", spec := "stateEncodes", unfollowed := true, recurses := true, apart := false, narrowed := true }
def StateEncodesUptoSaid : Prop := stateEncodesUptoRow.holds Try.pinned (OpenSpec.upto stateEncodesSpec)

/-- 'escritoirelaw20.StateDecodes', WHERE WHAT IT READS IS OF BULK AT MOST 1048576: true; the input reads as it did. -/
def stateDecodesUptoRow : OpenClaim := { program := "ytlenmnffdbgkkaa", sum := "ea029335334f9ed3cb2de707584c67b63612ec161bb811ea05a0408f6d10eb1b", func := "escritoire/escritoirelaw20.StateDecodes", spec := "stateDecodes", unfollowed := true, recurses := true, apart := false, narrowed := true }
def StateDecodesUptoSaid : Prop := stateDecodesUptoRow.holds Try.pinned (OpenSpec.upto stateDecodesSpec)

/-- 'escritoirelaw20.StateCuts', WHERE WHAT IT READS IS OF BULK AT MOST 1048576: true; the input reads as it did. -/
def stateCutsUptoRow : OpenClaim := { program := "ytlenmnffdbgkkaa", sum := "ea029335334f9ed3cb2de707584c67b63612ec161bb811ea05a0408f6d10eb1b", func := "escritoire/escritoirelaw20.StateCuts", spec := "stateCuts", unfollowed := true, recurses := true, apart := false, narrowed := true }
def StateCutsUptoSaid : Prop := stateCutsUptoRow.holds Try.pinned (OpenSpec.upto stateCutsSpec)

/-- 'escritoirelaw20.StateOne', WHERE WHAT IT READS IS OF BULK AT MOST 1048576: true; the input reads as it did. -/
def stateOneUptoRow : OpenClaim := { program := "ytlenmnffdbgkkaa", sum := "ea029335334f9ed3cb2de707584c67b63612ec161bb811ea05a0408f6d10eb1b", func := "escritoire/escritoirelaw20.StateOne", spec := "stateOne", unfollowed := true, recurses := true, apart := false, narrowed := true }
def StateOneUptoSaid : Prop := stateOneUptoRow.holds Try.pinned (OpenSpec.upto stateOneSpec)

end Rows
end Go.Proofs.Ytlenmnffdbgkkaa
