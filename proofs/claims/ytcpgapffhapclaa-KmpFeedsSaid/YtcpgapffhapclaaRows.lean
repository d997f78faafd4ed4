/-
  No cell of these rows narrows 'for every input' (looked for: loops, veiled, ifaces, maps, wideKeys, modest, calm, conditions, laid).
  DERIVED. THE GIVEN ROWS OF THIS SEAT. 5 by the template 'for every input the law returns true; each argument reads behind the call as it read before'; 0 by the template 'total and deterministic' (their statements: YtcpgapffhapclaaTotals.lean).
  GIVEN WITH THE SEED: the statements are not yours to turn. If you find one false, say at which input.
  Laid BY PROGRAM, IN A SANDBOX (cutbox-rows.mjs): the forced cells as the released guide's own fill.sh prints them over the translation cb647f1253610cfd… (all of the seat's roots in one cut). By AI agents, Wed Nov 11 2026. No macro, syntax, notation, axiom, sorry.
-/
import Derived.Test.YtcpgapffhapclaaChecked
import GoSem.Claim
import GoSem.ClaimJoined
import GoSem.ClaimMapViews
import Derived.JoinedTies
import Derived.KernelRfl
namespace Go.Proofs.Ytcpgapffhapclaa
/- THE CELL 'sum', in the pinned program and in every row, IS THE sha256 OF THE DUMP (.gsa) THAT YtcpgapffhapclaaProg.lean LOADS. Nothing in Lean hashes anything: it is a label: what it is worth is what the hold of that sum in a sandbox is worth. -/
noncomputable def Try.pinned : Pinned := { name := "ytcpgapffhapclaa", sum := "cb647f1253610cfdf8f6624d173dc024ae756d339fd1fd4e7a008cfaf6ca636b", checked := Try.checked }
namespace Rows
def none {H : Type} : Left H := { results := [], args := [] }

/-- 'escritoirelaw17.KmpFails': WHATEVER THE INPUT: true; the input reads as it did. -/
def kmpFailsSpec : ChangeSpec := { name := "kmpFails", fn := fun _ => fun
  | [d] => { results := [.lit (.bool true)], args := [d] }
  | _ => none }
def kmpFailsRow : OpenClaim := { program := "ytcpgapffhapclaa", sum := "cb647f1253610cfdf8f6624d173dc024ae756d339fd1fd4e7a008cfaf6ca636b", func := "escritoire/escritoirelaw17.KmpFails", spec := "kmpFails", unfollowed := true, recurses := true, apart := false }
def KmpFailsSaid : Prop := kmpFailsRow.holds Try.pinned (OpenSpec.ofChange kmpFailsSpec)

/-- ITS FALSE NEIGHBOUR: 'it returns false'. Refute it at one input. -/
def kmpFailsWrong : ChangeSpec := { name := "kmpFails", fn := fun _ => fun
  | [d] => { results := [.lit (.bool false)], args := [d] }
  | _ => none }
def KmpFailsWrongFalsely : Prop := kmpFailsRow.holds Try.pinned (OpenSpec.ofChange kmpFailsWrong)

/-- 'escritoirelaw17.KmpFinds': WHATEVER THE INPUT: true; the input reads as it did. -/
def kmpFindsSpec : ChangeSpec := { name := "kmpFinds", fn := fun _ => fun
  | [d1, d2, d3] => { results := [.lit (.bool true)], args := [d1, d2, d3] }
  | _ => none }
def kmpFindsRow : OpenClaim := { program := "ytcpgapffhapclaa", sum := "cb647f1253610cfdf8f6624d173dc024ae756d339fd1fd4e7a008cfaf6ca636b", func := "escritoire/escritoirelaw17.KmpFinds", spec := "kmpFinds", unfollowed := true, recurses := true, apart := false }
def KmpFindsSaid : Prop := kmpFindsRow.holds Try.pinned (OpenSpec.ofChange kmpFindsSpec)

/-- ITS FALSE NEIGHBOUR: 'it returns false'. Refute it at one input. -/
def kmpFindsWrong : ChangeSpec := { name := "kmpFinds", fn := fun _ => fun
  | [d1, d2, d3] => { results := [.lit (.bool false)], args := [d1, d2, d3] }
  | _ => none }
def KmpFindsWrongFalsely : Prop := kmpFindsRow.holds Try.pinned (OpenSpec.ofChange kmpFindsWrong)

/-- 'escritoirelaw17.KmpBetween': WHATEVER THE INPUT: true; the input reads as it did. -/
def kmpBetweenSpec : ChangeSpec := { name := "kmpBetween", fn := fun _ => fun
  | [d1, d2] => { results := [.lit (.bool true)], args := [d1, d2] }
  | _ => none }
def kmpBetweenRow : OpenClaim := { program := "ytcpgapffhapclaa", sum := "cb647f1253610cfdf8f6624d173dc024ae756d339fd1fd4e7a008cfaf6ca636b", func := "escritoire/escritoirelaw17.KmpBetween", spec := "kmpBetween", unfollowed := true, recurses := true, apart := false }
def KmpBetweenSaid : Prop := kmpBetweenRow.holds Try.pinned (OpenSpec.ofChange kmpBetweenSpec)

/-- ITS FALSE NEIGHBOUR: 'it returns false'. Refute it at one input. -/
def kmpBetweenWrong : ChangeSpec := { name := "kmpBetween", fn := fun _ => fun
  | [d1, d2] => { results := [.lit (.bool false)], args := [d1, d2] }
  | _ => none }
def KmpBetweenWrongFalsely : Prop := kmpBetweenRow.holds Try.pinned (OpenSpec.ofChange kmpBetweenWrong)

/-- 'escritoirelaw17.KmpFeeds': WHATEVER THE INPUT: true; the input reads as it did. -/
def kmpFeedsSpec : ChangeSpec := { name := "kmpFeeds", fn := fun _ => fun
  | [d1, d2, d3] => { results := [.lit (.bool true)], args := [d1, d2, d3] }
  | _ => none }
def kmpFeedsRow : OpenClaim := { program := "ytcpgapffhapclaa", sum := "cb647f1253610cfdf8f6624d173dc024ae756d339fd1fd4e7a008cfaf6ca636b", func := "escritoire/escritoirelaw17.KmpFeeds", spec := "kmpFeeds", unfollowed := true, recurses := true, apart := false }
def KmpFeedsSaid : Prop := kmpFeedsRow.holds Try.pinned (OpenSpec.ofChange kmpFeedsSpec)

/-- ITS FALSE NEIGHBOUR: 'it returns false'. Refute it at one input. -/
def kmpFeedsWrong : ChangeSpec := { name := "kmpFeeds", fn := fun _ => fun
  | [d1, d2, d3] => { results := [.lit (.bool false)], args := [d1, d2, d3] }
  | _ => none }
def KmpFeedsWrongFalsely : Prop := kmpFeedsRow.holds Try.pinned (OpenSpec.ofChange kmpFeedsWrong)

/-- 'escritoirelaw17.KmpKnown': WHATEVER THE INPUT: true; the input reads as it did. -/
def kmpKnownSpec : ChangeSpec := { name := "kmpKnown", fn := fun _ => fun
  | [] => { results := [.lit (.bool true)], args := [] }
  | _ => none }
def kmpKnownRow : OpenClaim := { program := "ytcpgapffhapclaa", sum := "cb647f1253610cfdf8f6624d173dc024ae756d339fd1fd4e7a008cfaf6ca636b", func := "escritoire/escritoirelaw17.KmpKnown", spec := "kmpKnown", unfollowed := true, recurses := true, apart := false }
def KmpKnownSaid : Prop := kmpKnownRow.holds Try.pinned (OpenSpec.ofChange kmpKnownSpec)

/-- ITS FALSE NEIGHBOUR: 'it returns false'. Refute it at one input. -/
def kmpKnownWrong : ChangeSpec := { name := "kmpKnown", fn := fun _ => fun
  | [] => { results := [.lit (.bool false)], args := [] }
  | _ => none }
def KmpKnownWrongFalsely : Prop := kmpKnownRow.holds Try.pinned (OpenSpec.ofChange kmpKnownWrong)

/- THE SECOND FORM. 'bulk': how many values and letters a reading holds, each counted each time it is reached (what is shared counts as often as it is met; a slice's spare places count too). A statement '..UptoSaid' is the law's where the arguments, and the package variables that the reading takes, are together of bulk at most 1048576: NARROWER than '..Said'. Prove '..Said' where nothing that the law and all that it calls make is longer than what came in: it says more and counts as full. Else prove '..UptoSaid'. A law counts once. -/
mutual
def uptoBulk {H : Type} : DataW H → Nat
  | .lit (.string bytes) => bytes.length + 1
  | .lit _ => 1
  | .nil => 1
  | .ptr d => uptoBulk d + 1
  | .slice elems spare => uptoBulkAll elems + uptoBulkAll spare + 1
  | .agg parts => uptoBulkAll parts + 1
  | .iface _ d => uptoBulk d + 1
  | .map entries => uptoBulkEntries entries + 1
  | .held _ => 1
def uptoBulkAll {H : Type} : List (DataW H) → Nat
  | [] => 0
  | d :: r => uptoBulk d + uptoBulkAll r
def uptoBulkEntries {H : Type} : List (Lit × DataW H) → Nat
  | [] => 0
  | x :: r => uptoBulkEntry x + uptoBulkEntries r
def uptoBulkEntry {H : Type} : Lit × DataW H → Nat
  | (.string bytes, d) => bytes.length + uptoBulk d + 1
  | (_, d) => uptoBulk d + 1
 end
def uptoSmall : (H : Type) → List (DataW H) → Bool := fun _ ds => decide (uptoBulkAll ds ≤ 1048576)
def OpenSpec.upto (s : _root_.Go.ChangeSpec) : _root_.Go.OpenSpec := { _root_.Go.OpenSpec.ofChange s with cond := some uptoSmall }

/-- 'escritoirelaw17.KmpFails', WHERE WHAT IT READS IS OF BULK AT MOST 1048576: true; the input reads as it did. -/
def kmpFailsUptoRow : OpenClaim := { program := "ytcpgapffhapclaa", sum := "cb647f1253610cfdf8f6624d173dc024ae756d339fd1fd4e7a008cfaf6ca636b", func := "escritoire/escritoirelaw17.KmpFails", spec := "kmpFails", unfollowed := true, recurses := true, apart := false, narrowed := true }
def KmpFailsUptoSaid : Prop := kmpFailsUptoRow.holds Try.pinned (OpenSpec.upto kmpFailsSpec)

/-- 'escritoirelaw17.KmpFinds', WHERE WHAT IT READS IS OF BULK AT MOST 1048576: true; the input reads as it did. -/
def kmpFindsUptoRow : OpenClaim := { program := "ytcpgapffhapclaa", sum := "cb647f1253610cfdf8f6624d173dc024ae756d339fd1fd4e7a008cfaf6ca636b", func := "escritoire/escritoirelaw17.KmpFinds", spec := "kmpFinds", unfollowed := true, recurses := true, apart := false, narrowed := true }
def KmpFindsUptoSaid : Prop := kmpFindsUptoRow.holds Try.pinned (OpenSpec.upto kmpFindsSpec)

/-- 'escritoirelaw17.KmpBetween', WHERE WHAT IT READS IS OF BULK AT MOST 1048576: true; the input reads as it did. -/
def kmpBetweenUptoRow : OpenClaim := { program := "ytcpgapffhapclaa", sum := "cb647f1253610cfdf8f6624d173dc024ae756d339fd1fd4e7a008cfaf6ca636b", func := "escritoire/escritoirelaw17.KmpBetween", spec := "kmpBetween", unfollowed := true, recurses := true, apart := false, narrowed := true }
def KmpBetweenUptoSaid : Prop := kmpBetweenUptoRow.holds Try.pinned (OpenSpec.upto kmpBetweenSpec)

/-- 'escritoirelaw17.KmpFeeds', WHERE WHAT IT READS IS OF BULK AT MOST 1048576: true; the input reads as it did. -/
def kmpFeedsUptoRow : OpenClaim := { program := "ytcpgapffhapclaa", sum := "cb647f1253610cfdf8f6624d173dc024ae756d339fd1fd4e7a008cfaf6ca636b", func := "escritoire/escritoirelaw17.KmpFeeds", spec := "kmpFeeds", unfollowed := true, recurses := true, apart := false, narrowed := true }
def KmpFeedsUptoSaid : Prop := kmpFeedsUptoRow.holds Try.pinned (OpenSpec.upto kmpFeedsSpec)

/-- 'escritoirelaw17.KmpKnown', WHERE WHAT IT READS IS OF BULK AT MOST 1048576: true; the input reads as it did. -/
def kmpKnownUptoRow : OpenClaim := { program := "ytcpgapffhapclaa", sum := "cb647f1253610cfdf8f6624d173dc024ae756d339fd1fd4e7a008cfaf6ca636b", func := "escritoire/escritoirelaw17.KmpKnown", spec := "kmpKnown", unfollowed := true, recurses := true, apart := false, narrowed := true }
def KmpKnownUptoSaid : Prop := kmpKnownUptoRow.holds Try.pinned (OpenSpec.upto kmpKnownSpec)

end Rows
end Go.Proofs.Ytcpgapffhapclaa
