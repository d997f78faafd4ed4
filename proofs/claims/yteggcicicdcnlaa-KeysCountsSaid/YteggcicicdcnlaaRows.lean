/-
  No cell of these rows narrows 'for every input' (looked for: loops, veiled, ifaces, maps, wideKeys, modest, calm, conditions, laid).
  DERIVED. THE GIVEN ROWS OF THIS SEAT. 4 by the template 'for every input the law returns true; each argument reads behind the call as it read before'; 0 by the template 'total and deterministic' (their statements: YteggcicicdcnlaaTotals.lean).
  GIVEN WITH THE SEED: the statements are not yours to turn. If you find one false, say at which input.
  Laid BY PROGRAM, IN A SANDBOX (cutbox-rows.mjs): the forced cells as the released guide's own fill.sh prints them over the translation 0879a72d7d61a0cd… (all of the seat's roots in one cut). By AI agents, Wed Nov 11 2026. No macro, syntax, notation, axiom, sorry.
-/
import Derived.Test.YteggcicicdcnlaaChecked
import GoSem.Claim
import GoSem.ClaimJoined
import GoSem.ClaimMapViews
import Derived.JoinedTies
import Derived.KernelRfl
namespace Go.Proofs.Yteggcicicdcnlaa
/- THE CELL 'sum', in the pinned program and in every row, IS THE sha256 OF THE DUMP (.gsa) THAT YteggcicicdcnlaaProg.lean LOADS. Nothing in Lean hashes anything: it is a label: what it is worth is what the hold of that sum in a sandbox is worth. -/
noncomputable def Try.pinned : Pinned := { name := "yteggcicicdcnlaa", sum := "0879a72d7d61a0cde667b1d1126e46a9b92ce4a20f0e5593dc3a0f18d2f392ba", checked := Try.checked }
namespace Rows
def none {H : Type} : Left H := { results := [], args := [] }

/-- 'escritoirelaw24.KeysCounts': WHATEVER THE INPUT: true; the input reads as it did. -/
def keysCountsSpec : ChangeSpec := { name := "keysCounts", fn := fun _ => fun
  | [d1, d2, d3] => { results := [.lit (.bool true)], args := [d1, d2, d3] }
  | _ => none }
def keysCountsRow : OpenClaim := { program := "yteggcicicdcnlaa", sum := "0879a72d7d61a0cde667b1d1126e46a9b92ce4a20f0e5593dc3a0f18d2f392ba", func := "escritoire/escritoirelaw24.KeysCounts", spec := "keysCounts", inPlace := ["internal/bytealg.IndexByteString"], unfollowed := true, recurses := true, apart := false }
def KeysCountsSaid : Prop := keysCountsRow.holds Try.pinned (OpenSpec.ofChange keysCountsSpec)

/-- ITS FALSE NEIGHBOUR: 'it returns false'. Refute it at one input. -/
def keysCountsWrong : ChangeSpec := { name := "keysCounts", fn := fun _ => fun
  | [d1, d2, d3] => { results := [.lit (.bool false)], args := [d1, d2, d3] }
  | _ => none }
def KeysCountsWrongFalsely : Prop := keysCountsRow.holds Try.pinned (OpenSpec.ofChange keysCountsWrong)

/-- 'escritoirelaw24.KeysKnown': WHATEVER THE INPUT: true; the input reads as it did. -/
def keysKnownSpec : ChangeSpec := { name := "keysKnown", fn := fun _ => fun
  | [] => { results := [.lit (.bool true)], args := [] }
  | _ => none }
def keysKnownRow : OpenClaim := { program := "yteggcicicdcnlaa", sum := "0879a72d7d61a0cde667b1d1126e46a9b92ce4a20f0e5593dc3a0f18d2f392ba", func := "escritoire/escritoirelaw24.KeysKnown", spec := "keysKnown", inPlace := ["internal/bytealg.IndexByteString"], unfollowed := true, recurses := true, apart := false }
def KeysKnownSaid : Prop := keysKnownRow.holds Try.pinned (OpenSpec.ofChange keysKnownSpec)

/-- ITS FALSE NEIGHBOUR: 'it returns false'. Refute it at one input. -/
def keysKnownWrong : ChangeSpec := { name := "keysKnown", fn := fun _ => fun
  | [] => { results := [.lit (.bool false)], args := [] }
  | _ => none }
def KeysKnownWrongFalsely : Prop := keysKnownRow.holds Try.pinned (OpenSpec.ofChange keysKnownWrong)

/-- 'escritoirelaw24.KeysFeeds': WHATEVER THE INPUT: true; the input reads as it did. -/
def keysFeedsSpec : ChangeSpec := { name := "keysFeeds", fn := fun _ => fun
  | [d1, d2] => { results := [.lit (.bool true)], args := [d1, d2] }
  | _ => none }
def keysFeedsRow : OpenClaim := { program := "yteggcicicdcnlaa", sum := "0879a72d7d61a0cde667b1d1126e46a9b92ce4a20f0e5593dc3a0f18d2f392ba", func := "escritoire/escritoirelaw24.KeysFeeds", spec := "keysFeeds", inPlace := ["internal/bytealg.IndexByteString"], unfollowed := true, recurses := true, apart := false }
def KeysFeedsSaid : Prop := keysFeedsRow.holds Try.pinned (OpenSpec.ofChange keysFeedsSpec)

/-- ITS FALSE NEIGHBOUR: 'it returns false'. Refute it at one input. -/
def keysFeedsWrong : ChangeSpec := { name := "keysFeeds", fn := fun _ => fun
  | [d1, d2] => { results := [.lit (.bool false)], args := [d1, d2] }
  | _ => none }
def KeysFeedsWrongFalsely : Prop := keysFeedsRow.holds Try.pinned (OpenSpec.ofChange keysFeedsWrong)

/-- 'escritoirelaw24.KeysFresh': WHATEVER THE INPUT: true; the input reads as it did. -/
def keysFreshSpec : ChangeSpec := { name := "keysFresh", fn := fun _ => fun
  | [d1, d2, d3] => { results := [.lit (.bool true)], args := [d1, d2, d3] }
  | _ => none }
def keysFreshRow : OpenClaim := { program := "yteggcicicdcnlaa", sum := "0879a72d7d61a0cde667b1d1126e46a9b92ce4a20f0e5593dc3a0f18d2f392ba", func := "escritoire/escritoirelaw24.KeysFresh", spec := "keysFresh", inPlace := ["internal/bytealg.IndexByteString"], unfollowed := true, recurses := true, apart := false }
def KeysFreshSaid : Prop := keysFreshRow.holds Try.pinned (OpenSpec.ofChange keysFreshSpec)

/-- ITS FALSE NEIGHBOUR: 'it returns false'. Refute it at one input. -/
def keysFreshWrong : ChangeSpec := { name := "keysFresh", fn := fun _ => fun
  | [d1, d2, d3] => { results := [.lit (.bool false)], args := [d1, d2, d3] }
  | _ => none }
def KeysFreshWrongFalsely : Prop := keysFreshRow.holds Try.pinned (OpenSpec.ofChange keysFreshWrong)

/- THE SECOND FORM. 'bulk': how many values and letters a reading holds, each counted each time it is reached (what is shared counts as often as it is met; a slice's spare places count too). A statement '..UptoSaid' is the law's where the arguments, and the package variables that the reading takes, are together of bulk at most 1048576: NARROWER than '..Said'. Prove '..Said' where nothing that the law and all that it calls make is longer than what came in: it says more and counts as full. Else prove '..UptoSaid'. A law counts once. -/
mutual
def uptoBulk {H : Type} : DataW H → Nat
  | .lit (.string bytes) => bytes.length + 1
  | .lit _ => 1
  | .nil => 1
  | .ptr d => uptoBulk d + 1
  | .slice elems spare => uptoBulkAll elems + uptoBulkAll spare + 1
  | .agg parts => uptoBulkAll parts + 1
  | .iface _ d => uptoBulk d + 1
  | .map entries => uptoBulkEntries entries + 1
  | .held _ => 1
def uptoBulkAll {H : Type} : List (DataW H) → Nat
  | [] => 0
  | d :: r => uptoBulk d + uptoBulkAll r
def uptoBulkEntries {H : Type} : List (Lit × DataW H) → Nat
  | [] => 0
  | x :: r => uptoBulkEntry x + uptoBulkEntries r
def uptoBulkEntry {H : Type} : Lit × DataW H → Nat
  | (.string bytes, d) => bytes.length + uptoBulk d + 1
  | (_, d) => uptoBulk d + 1
 end
def uptoSmall : (H : Type) → List (DataW H) → Bool := fun _ ds => decide (uptoBulkAll ds ≤ 1048576)
def OpenSpec.upto (s : _root_.Go.ChangeSpec) : _root_.Go.OpenSpec := { _root_.Go.OpenSpec.ofChange s with cond := some uptoSmall }

/-- 'escritoirelaw24.KeysCounts', WHERE WHAT IT READS IS OF BULK AT MOST 1048576: true; the input reads as it did. -/
def keysCountsUptoRow : OpenClaim := { program := "yteggcicicdcnlaa", sum := "0879a72d7d61a0cde667b1d1126e46a9b92ce4a20f0e5593dc3a0f18d2f392ba", func := "escritoire/escritoirelaw24.KeysCounts", spec := "keysCounts", inPlace := ["internal/bytealg.IndexByteString"], unfollowed := true, recurses := true, apart := false, narrowed := true }
def KeysCountsUptoSaid : Prop := keysCountsUptoRow.holds Try.pinned (OpenSpec.upto keysCountsSpec)

/-- 'escritoirelaw24.KeysKnown', WHERE WHAT IT READS IS OF BULK AT MOST 1048576: true; the input reads as it did. -/
def keysKnownUptoRow : OpenClaim := { program := "yteggcicicdcnlaa", sum := "0879a72d7d61a0cde667b1d1126e46a9b92ce4a20f0e5593dc3a0f18d2f392ba", func := "escritoire/escritoirelaw24.KeysKnown", spec := "keysKnown", inPlace := ["internal/bytealg.IndexByteString"], unfollowed := true, recurses := true, apart := false, narrowed := true }
def KeysKnownUptoSaid : Prop := keysKnownUptoRow.holds Try.pinned (OpenSpec.upto keysKnownSpec)

/-- 'escritoirelaw24.KeysFeeds', WHERE WHAT IT READS IS OF BULK AT MOST 1048576: true; the input reads as it did. -/
def keysFeedsUptoRow : OpenClaim := { program := "yteggcicicdcnlaa", sum := "0879a72d7d61a0cde667b1d1126e46a9b92ce4a20f0e5593dc3a0f18d2f392ba", func := "escritoire/escritoirelaw24.KeysFeeds", spec := "keysFeeds", inPlace := ["internal/bytealg.IndexByteString"], unfollowed := true, recurses := true, apart := false, narrowed := true }
def KeysFeedsUptoSaid : Prop := keysFeedsUptoRow.holds Try.pinned (OpenSpec.upto keysFeedsSpec)

/-- 'escritoirelaw24.KeysFresh', WHERE WHAT IT READS IS OF BULK AT MOST 1048576: true; the input reads as it did. -/
def keysFreshUptoRow : OpenClaim := { program := "yteggcicicdcnlaa", sum := "0879a72d7d61a0cde667b1d1126e46a9b92ce4a20f0e5593dc3a0f18d2f392ba", func := "escritoire/escritoirelaw24.KeysFresh", spec := "keysFresh", inPlace := ["internal/bytealg.IndexByteString"], unfollowed := true, recurses := true, apart := false, narrowed := true }
def KeysFreshUptoSaid : Prop := keysFreshUptoRow.holds Try.pinned (OpenSpec.upto keysFreshSpec)

end Rows
end Go.Proofs.Yteggcicicdcnlaa
