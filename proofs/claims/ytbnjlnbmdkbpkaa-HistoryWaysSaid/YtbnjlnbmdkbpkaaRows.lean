/-
  No cell of these rows narrows 'for every input' (looked for: loops, veiled, ifaces, maps, wideKeys, modest, calm, conditions, laid).
  DERIVED. THE GIVEN ROWS OF THIS SEAT. 5 by the template 'for every input the law returns true; each argument reads behind the call as it read before'; 0 by the template 'total and deterministic' (their statements: YtbnjlnbmdkbpkaaTotals.lean).
  GIVEN WITH THE SEED: the statements are not yours to turn. If you find one false, say at which input.
  Laid BY PROGRAM, IN A SANDBOX (cutbox-rows.mjs): the forced cells as the released guide's own fill.sh prints them over the translation c14008baefb65452… (all of the seat's roots in one cut). By AI agents, Wed Nov 11 2026. No macro, syntax, notation, axiom, sorry.
-/
import Derived.Test.YtbnjlnbmdkbpkaaChecked
import GoSem.Claim
import GoSem.ClaimJoined
import GoSem.ClaimMapViews
import Derived.JoinedTies
import Derived.KernelRfl
namespace Go.Proofs.Ytbnjlnbmdkbpkaa
/- THE CELL 'sum', in the pinned program and in every row, IS THE sha256 OF THE DUMP (.gsa) THAT YtbnjlnbmdkbpkaaProg.lean LOADS. Nothing in Lean hashes anything: it is a label: what it is worth is what the hold of that sum in a sandbox is worth. -/
noncomputable def Try.pinned : Pinned := { name := "ytbnjlnbmdkbpkaa", sum := "c14008baefb654521a5229c156f378dcb7a2890289cb40efc82d5be287980020", checked := Try.checked }
namespace Rows
def none {H : Type} : Left H := { results := [], args := [] }

/-- 'escritoirelaw19.HistoryLoads': WHATEVER THE INPUT: true; the input reads as it did. -/
def historyLoadsSpec : ChangeSpec := { name := "historyLoads", fn := fun _ => fun
  | [d1, d2] => { results := [.lit (.bool true)], args := [d1, d2] }
  | _ => none }
def historyLoadsRow : OpenClaim := { program := "ytbnjlnbmdkbpkaa", sum := "c14008baefb654521a5229c156f378dcb7a2890289cb40efc82d5be287980020", func := "escritoire/escritoirelaw19.HistoryLoads", spec := "historyLoads", apart := false }
def HistoryLoadsSaid : Prop := historyLoadsRow.holds Try.pinned (OpenSpec.ofChange historyLoadsSpec)

/-- ITS FALSE NEIGHBOUR: 'it returns false'. Refute it at one input. -/
def historyLoadsWrong : ChangeSpec := { name := "historyLoads", fn := fun _ => fun
  | [d1, d2] => { results := [.lit (.bool false)], args := [d1, d2] }
  | _ => none }
def HistoryLoadsWrongFalsely : Prop := historyLoadsRow.holds Try.pinned (OpenSpec.ofChange historyLoadsWrong)

/-- 'escritoirelaw19.HistoryKnown': WHATEVER THE INPUT: true; the input reads as it did. -/
def historyKnownSpec : ChangeSpec := { name := "historyKnown", fn := fun _ => fun
  | [] => { results := [.lit (.bool true)], args := [] }
  | _ => none }
def historyKnownRow : OpenClaim := { program := "ytbnjlnbmdkbpkaa", sum := "c14008baefb654521a5229c156f378dcb7a2890289cb40efc82d5be287980020", func := "escritoire/escritoirelaw19.HistoryKnown", spec := "historyKnown", unfollowed := true, recurses := true, apart := false }
def HistoryKnownSaid : Prop := historyKnownRow.holds Try.pinned (OpenSpec.ofChange historyKnownSpec)

/-- ITS FALSE NEIGHBOUR: 'it returns false'. Refute it at one input. -/
def historyKnownWrong : ChangeSpec := { name := "historyKnown", fn := fun _ => fun
  | [] => { results := [.lit (.bool false)], args := [] }
  | _ => none }
def HistoryKnownWrongFalsely : Prop := historyKnownRow.holds Try.pinned (OpenSpec.ofChange historyKnownWrong)

/-- 'escritoirelaw19.HistoryShort': WHATEVER THE INPUT: true; the input reads as it did. -/
def historyShortSpec : ChangeSpec := { name := "historyShort", fn := fun _ => fun
  | [d1, d2] => { results := [.lit (.bool true)], args := [d1, d2] }
  | _ => none }
def historyShortRow : OpenClaim := { program := "ytbnjlnbmdkbpkaa", sum := "c14008baefb654521a5229c156f378dcb7a2890289cb40efc82d5be287980020", func := "escritoire/escritoirelaw19.HistoryShort", spec := "historyShort", unfollowed := true, recurses := true, apart := false }
def HistoryShortSaid : Prop := historyShortRow.holds Try.pinned (OpenSpec.ofChange historyShortSpec)

/-- ITS FALSE NEIGHBOUR: 'it returns false'. Refute it at one input. -/
def historyShortWrong : ChangeSpec := { name := "historyShort", fn := fun _ => fun
  | [d1, d2] => { results := [.lit (.bool false)], args := [d1, d2] }
  | _ => none }
def HistoryShortWrongFalsely : Prop := historyShortRow.holds Try.pinned (OpenSpec.ofChange historyShortWrong)

/-- 'escritoirelaw19.HistoryPlays': WHATEVER THE INPUT: true; the input reads as it did. -/
def historyPlaysSpec : ChangeSpec := { name := "historyPlays", fn := fun _ => fun
  | [d] => { results := [.lit (.bool true)], args := [d] }
  | _ => none }
def historyPlaysRow : OpenClaim := { program := "ytbnjlnbmdkbpkaa", sum := "c14008baefb654521a5229c156f378dcb7a2890289cb40efc82d5be287980020", func := "escritoire/escritoirelaw19.HistoryPlays", spec := "historyPlays", unfollowed := true, recurses := true, apart := false }
def HistoryPlaysSaid : Prop := historyPlaysRow.holds Try.pinned (OpenSpec.ofChange historyPlaysSpec)

/-- ITS FALSE NEIGHBOUR: 'it returns false'. Refute it at one input. -/
def historyPlaysWrong : ChangeSpec := { name := "historyPlays", fn := fun _ => fun
  | [d] => { results := [.lit (.bool false)], args := [d] }
  | _ => none }
def HistoryPlaysWrongFalsely : Prop := historyPlaysRow.holds Try.pinned (OpenSpec.ofChange historyPlaysWrong)

/-- 'escritoirelaw19.HistoryWays': WHATEVER THE INPUT: true; the input reads as it did. -/
def historyWaysSpec : ChangeSpec := { name := "historyWays", fn := fun _ => fun
  | [d1, d2] => { results := [.lit (.bool true)], args := [d1, d2] }
  | _ => none }
def historyWaysRow : OpenClaim := { program := "ytbnjlnbmdkbpkaa", sum := "c14008baefb654521a5229c156f378dcb7a2890289cb40efc82d5be287980020", func := "escritoire/escritoirelaw19.HistoryWays", spec := "historyWays", unfollowed := true, recurses := true, apart := false }
def HistoryWaysSaid : Prop := historyWaysRow.holds Try.pinned (OpenSpec.ofChange historyWaysSpec)

/-- ITS FALSE NEIGHBOUR: 'it returns false'. Refute it at one input. -/
def historyWaysWrong : ChangeSpec := { name := "historyWays", fn := fun _ => fun
  | [d1, d2] => { results := [.lit (.bool false)], args := [d1, d2] }
  | _ => none }
def HistoryWaysWrongFalsely : Prop := historyWaysRow.holds Try.pinned (OpenSpec.ofChange historyWaysWrong)

/- THE SECOND FORM. 'bulk': how many values and letters a reading holds, each counted each time it is reached (what is shared counts as often as it is met; a slice's spare places count too). A statement '..UptoSaid' is the law's where the arguments, and the package variables that the reading takes, are together of bulk at most 1048576: NARROWER than '..Said'. Prove '..Said' where nothing that the law and all that it calls make is longer than what came in: it says more and counts as full. Else prove '..UptoSaid'. A law counts once. -/
mutual
def uptoBulk {H : Type} : DataW H → Nat
  | .lit (.string bytes) => bytes.length + 1
  | .lit _ => 1
  | .nil => 1
  | .ptr d => uptoBulk d + 1
  | .slice elems spare => uptoBulkAll elems + uptoBulkAll spare + 1
  | .agg parts => uptoBulkAll parts + 1
  | .iface _ d => uptoBulk d + 1
  | .map entries => uptoBulkEntries entries + 1
  | .held _ => 1
def uptoBulkAll {H : Type} : List (DataW H) → Nat
  | [] => 0
  | d :: r => uptoBulk d + uptoBulkAll r
def uptoBulkEntries {H : Type} : List (Lit × DataW H) → Nat
  | [] => 0
  | x :: r => uptoBulkEntry x + uptoBulkEntries r
def uptoBulkEntry {H : Type} : Lit × DataW H → Nat
  | (.string bytes, d) => bytes.length + uptoBulk d + 1
  | (_, d) => uptoBulk d + 1
 end
def uptoSmall : (H : Type) → List (DataW H) → Bool := fun _ ds => decide (uptoBulkAll ds ≤ 1048576)
def OpenSpec.upto (s : _root_.Go.ChangeSpec) : _root_.Go.OpenSpec := { _root_.Go.OpenSpec.ofChange s with cond := some uptoSmall }

/-- 'escritoirelaw19.HistoryLoads', WHERE WHAT IT READS IS OF BULK AT MOST 1048576: true; the input reads as it did. -/
def historyLoadsUptoRow : OpenClaim := { program := "ytbnjlnbmdkbpkaa", sum := "c14008baefb654521a5229c156f378dcb7a2890289cb40efc82d5be287980020", func := "escritoire/escritoirelaw19.HistoryLoads", spec := "historyLoads", apart := false, narrowed := true }
def HistoryLoadsUptoSaid : Prop := historyLoadsUptoRow.holds Try.pinned (OpenSpec.upto historyLoadsSpec)

/-- 'escritoirelaw19.HistoryKnown', WHERE WHAT IT READS IS OF BULK AT MOST 1048576: true; the input reads as it did. -/
def historyKnownUptoRow : OpenClaim := { program := "ytbnjlnbmdkbpkaa", sum := "c14008baefb654521a5229c156f378dcb7a2890289cb40efc82d5be287980020", func := "escritoire/escritoirelaw19.HistoryKnown", spec := "historyKnown", unfollowed := true, recurses := true, apart := false, narrowed := true }
def HistoryKnownUptoSaid : Prop := historyKnownUptoRow.holds Try.pinned (OpenSpec.upto historyKnownSpec)

/-- 'escritoirelaw19.HistoryShort', WHERE WHAT IT READS IS OF BULK AT MOST 1048576: true; the input reads as it did. -/
def historyShortUptoRow : OpenClaim := { program := "ytbnjlnbmdkbpkaa", sum := "c14008baefb654521a5229c156f378dcb7a2890289cb40efc82d5be287980020", func := "escritoire/escritoirelaw19.HistoryShort", spec := "historyShort", unfollowed := true, recurses := true, apart := false, narrowed := true }
def HistoryShortUptoSaid : Prop := historyShortUptoRow.holds Try.pinned (OpenSpec.upto historyShortSpec)

/-- 'escritoirelaw19.HistoryPlays', WHERE WHAT IT READS IS OF BULK AT MOST 1048576: true; the input reads as it did. -/
def historyPlaysUptoRow : OpenClaim := { program := "ytbnjlnbmdkbpkaa", sum := "c14008baefb654521a5229c156f378dcb7a2890289cb40efc82d5be287980020", func := "escritoire/escritoirelaw19.HistoryPlays", spec := "historyPlays", unfollowed := true, recurses := true, apart := false, narrowed := true }
def HistoryPlaysUptoSaid : Prop := historyPlaysUptoRow.holds Try.pinned (OpenSpec.upto historyPlaysSpec)

/-- 'escritoirelaw19.HistoryWays', WHERE WHAT IT READS IS OF BULK AT MOST 1048576: true; the input reads as it did. -/
def historyWaysUptoRow : OpenClaim := { program := "ytbnjlnbmdkbpkaa", sum := "c14008baefb654521a5229c156f378dcb7a2890289cb40efc82d5be287980020", func := "escritoire/escritoirelaw19.HistoryWays", spec := "historyWays", unfollowed := true, recurses := true, apart := false, narrowed := true }
def HistoryWaysUptoSaid : Prop := historyWaysUptoRow.holds Try.pinned (OpenSpec.upto historyWaysSpec)

end Rows
end Go.Proofs.Ytbnjlnbmdkbpkaa
