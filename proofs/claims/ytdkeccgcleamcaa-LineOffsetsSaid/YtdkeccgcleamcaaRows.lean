/-
  No cell of these rows narrows 'for every input' (looked for: loops, veiled, ifaces, maps, wideKeys, modest, calm, conditions, laid).
  DERIVED. THE GIVEN ROWS OF THIS SEAT. 6 by the template 'for every input the law returns true; each argument reads behind the call as it read before'; 0 by the template 'total and deterministic' (their statements: YtdkeccgcleamcaaTotals.lean).
  GIVEN WITH THE SEED: the statements are not yours to turn. If you find one false, say at which input.
  Laid BY PROGRAM, IN A SANDBOX (cutbox-rows.mjs): the forced cells as the released guide's own fill.sh prints them over the translation 7cbb38276bd0f75a… (all of the seat's roots in one cut). By AI agents, Wed Nov 11 2026. No macro, syntax, notation, axiom, sorry.
-/
import Derived.Test.YtdkeccgcleamcaaChecked
import GoSem.Claim
import GoSem.ClaimJoined
import GoSem.ClaimMapViews
import Derived.JoinedTies
import Derived.KernelRfl
namespace Go.Proofs.Ytdkeccgcleamcaa
/- THE CELL 'sum', in the pinned program and in every row, IS THE sha256 OF THE DUMP (.gsa) THAT YtdkeccgcleamcaaProg.lean LOADS. Nothing in Lean hashes anything: it is a label: what it is worth is what the hold of that sum in a sandbox is worth. -/
noncomputable def Try.pinned : Pinned := { name := "ytdkeccgcleamcaa", sum := "7cbb38276bd0f75aaf248c6d26d3071291dda25b8c08559ec8c2be1e9617fe27", checked := Try.checked }
namespace Rows
def none {H : Type} : Left H := { results := [], args := [] }

/-- 'escritoirelaw25.LineParses': WHATEVER THE INPUT: true; the input reads as it did. -/
def lineParsesSpec : ChangeSpec := { name := "lineParses", fn := fun _ => fun
  | [d] => { results := [.lit (.bool true)], args := [d] }
  | _ => none }
def lineParsesRow : OpenClaim := { program := "ytdkeccgcleamcaa", sum := "7cbb38276bd0f75aaf248c6d26d3071291dda25b8c08559ec8c2be1e9617fe27", func := "escritoire/escritoirelaw25.LineParses", spec := "lineParses", unfollowed := true, recurses := true, apart := false }
def LineParsesSaid : Prop := lineParsesRow.holds Try.pinned (OpenSpec.ofChange lineParsesSpec)

/-- ITS FALSE NEIGHBOUR: 'it returns false'. Refute it at one input. -/
def lineParsesWrong : ChangeSpec := { name := "lineParses", fn := fun _ => fun
  | [d] => { results := [.lit (.bool false)], args := [d] }
  | _ => none }
def LineParsesWrongFalsely : Prop := lineParsesRow.holds Try.pinned (OpenSpec.ofChange lineParsesWrong)

/-- 'escritoirelaw25.LineBlanks': WHATEVER THE INPUT: true; the input reads as it did. -/
def lineBlanksSpec : ChangeSpec := { name := "lineBlanks", fn := fun _ => fun
  | [d1, d2] => { results := [.lit (.bool true)], args := [d1, d2] }
  | _ => none }
def lineBlanksRow : OpenClaim := { program := "ytdkeccgcleamcaa", sum := "7cbb38276bd0f75aaf248c6d26d3071291dda25b8c08559ec8c2be1e9617fe27", func := "escritoire/escritoirelaw25.LineBlanks", spec := "lineBlanks", unfollowed := true, recurses := true, apart := false }
def LineBlanksSaid : Prop := lineBlanksRow.holds Try.pinned (OpenSpec.ofChange lineBlanksSpec)

/-- ITS FALSE NEIGHBOUR: 'it returns false'. Refute it at one input. -/
def lineBlanksWrong : ChangeSpec := { name := "lineBlanks", fn := fun _ => fun
  | [d1, d2] => { results := [.lit (.bool false)], args := [d1, d2] }
  | _ => none }
def LineBlanksWrongFalsely : Prop := lineBlanksRow.holds Try.pinned (OpenSpec.ofChange lineBlanksWrong)

/-- 'escritoirelaw25.LineSubsts': WHATEVER THE INPUT: true; the input reads as it did. -/
def lineSubstsSpec : ChangeSpec := { name := "lineSubsts", fn := fun _ => fun
  | [d] => { results := [.lit (.bool true)], args := [d] }
  | _ => none }
def lineSubstsRow : OpenClaim := { program := "ytdkeccgcleamcaa", sum := "7cbb38276bd0f75aaf248c6d26d3071291dda25b8c08559ec8c2be1e9617fe27", func := "escritoire/escritoirelaw25.LineSubsts", spec := "lineSubsts", unfollowed := true, recurses := true, apart := false }
def LineSubstsSaid : Prop := lineSubstsRow.holds Try.pinned (OpenSpec.ofChange lineSubstsSpec)

/-- ITS FALSE NEIGHBOUR: 'it returns false'. Refute it at one input. -/
def lineSubstsWrong : ChangeSpec := { name := "lineSubsts", fn := fun _ => fun
  | [d] => { results := [.lit (.bool false)], args := [d] }
  | _ => none }
def LineSubstsWrongFalsely : Prop := lineSubstsRow.holds Try.pinned (OpenSpec.ofChange lineSubstsWrong)

/-- 'escritoirelaw25.LineResolves': WHATEVER THE INPUT: true; the input reads as it did. -/
def lineResolvesSpec : ChangeSpec := { name := "lineResolves", fn := fun _ => fun
  | [d1, d2, d3] => { results := [.lit (.bool true)], args := [d1, d2, d3] }
  | _ => none }
def lineResolvesRow : OpenClaim := { program := "ytdkeccgcleamcaa", sum := "7cbb38276bd0f75aaf248c6d26d3071291dda25b8c08559ec8c2be1e9617fe27", func := "escritoire/escritoirelaw25.LineResolves", spec := "lineResolves", unfollowed := true, recurses := true, apart := false }
def LineResolvesSaid : Prop := lineResolvesRow.holds Try.pinned (OpenSpec.ofChange lineResolvesSpec)

/-- ITS FALSE NEIGHBOUR: 'it returns false'. Refute it at one input. -/
def lineResolvesWrong : ChangeSpec := { name := "lineResolves", fn := fun _ => fun
  | [d1, d2, d3] => { results := [.lit (.bool false)], args := [d1, d2, d3] }
  | _ => none }
def LineResolvesWrongFalsely : Prop := lineResolvesRow.holds Try.pinned (OpenSpec.ofChange lineResolvesWrong)

/-- 'escritoirelaw25.LineOffsets': WHATEVER THE INPUT: true; the input reads as it did. -/
def lineOffsetsSpec : ChangeSpec := { name := "lineOffsets", fn := fun _ => fun
  | [d1, d2] => { results := [.lit (.bool true)], args := [d1, d2] }
  | _ => none }
def lineOffsetsRow : OpenClaim := { program := "ytdkeccgcleamcaa", sum := "7cbb38276bd0f75aaf248c6d26d3071291dda25b8c08559ec8c2be1e9617fe27", func := "escritoire/escritoirelaw25.LineOffsets", spec := "lineOffsets", unfollowed := true, recurses := true, apart := false }
def LineOffsetsSaid : Prop := lineOffsetsRow.holds Try.pinned (OpenSpec.ofChange lineOffsetsSpec)

/-- ITS FALSE NEIGHBOUR: 'it returns false'. Refute it at one input. -/
def lineOffsetsWrong : ChangeSpec := { name := "lineOffsets", fn := fun _ => fun
  | [d1, d2] => { results := [.lit (.bool false)], args := [d1, d2] }
  | _ => none }
def LineOffsetsWrongFalsely : Prop := lineOffsetsRow.holds Try.pinned (OpenSpec.ofChange lineOffsetsWrong)

/-- 'escritoirelaw25.LineKnown': WHATEVER THE INPUT: true; the input reads as it did. -/
def lineKnownSpec : ChangeSpec := { name := "lineKnown", fn := fun _ => fun
  | [] => { results := [.lit (.bool true)], args := [] }
  | _ => none }
def lineKnownRow : OpenClaim := { program := "ytdkeccgcleamcaa", sum := "7cbb38276bd0f75aaf248c6d26d3071291dda25b8c08559ec8c2be1e9617fe27", func := "escritoire/escritoirelaw25.LineKnown", spec := "lineKnown", unfollowed := true, recurses := true, apart := false }
def LineKnownSaid : Prop := lineKnownRow.holds Try.pinned (OpenSpec.ofChange lineKnownSpec)

/-- ITS FALSE NEIGHBOUR: 'it returns false'. Refute it at one input. -/
def lineKnownWrong : ChangeSpec := { name := "lineKnown", fn := fun _ => fun
  | [] => { results := [.lit (.bool false)], args := [] }
  | _ => none }
def LineKnownWrongFalsely : Prop := lineKnownRow.holds Try.pinned (OpenSpec.ofChange lineKnownWrong)

/- THE SECOND FORM. 'bulk': how many values and letters a reading holds, each counted each time it is reached (what is shared counts as often as it is met; a slice's spare places count too). A statement '..UptoSaid' is the law's where the arguments, and the package variables that the reading takes, are together of bulk at most 1048576: NARROWER than '..Said'. Prove '..Said' where nothing that the law and all that it calls make is longer than what came in: it says more and counts as full. Else prove '..UptoSaid'. A law counts once. -/
mutual
def uptoBulk {H : Type} : DataW H → Nat
  | .lit (.string bytes) => bytes.length + 1
  | .lit _ => 1
  | .nil => 1
  | .ptr d => uptoBulk d + 1
  | .slice elems spare => uptoBulkAll elems + uptoBulkAll spare + 1
  | .agg parts => uptoBulkAll parts + 1
  | .iface _ d => uptoBulk d + 1
  | .map entries => uptoBulkEntries entries + 1
  | .held _ => 1
def uptoBulkAll {H : Type} : List (DataW H) → Nat
  | [] => 0
  | d :: r => uptoBulk d + uptoBulkAll r
def uptoBulkEntries {H : Type} : List (Lit × DataW H) → Nat
  | [] => 0
  | x :: r => uptoBulkEntry x + uptoBulkEntries r
def uptoBulkEntry {H : Type} : Lit × DataW H → Nat
  | (.string bytes, d) => bytes.length + uptoBulk d + 1
  | (_, d) => uptoBulk d + 1
 end
def uptoSmall : (H : Type) → List (DataW H) → Bool := fun _ ds => decide (uptoBulkAll ds ≤ 1048576)
def OpenSpec.upto (s : _root_.Go.ChangeSpec) : _root_.Go.OpenSpec := { _root_.Go.OpenSpec.ofChange s with cond := some uptoSmall }

/-- 'escritoirelaw25.LineParses', WHERE WHAT IT READS IS OF BULK AT MOST 1048576: true; the input reads as it did. -/
def lineParsesUptoRow : OpenClaim := { program := "ytdkeccgcleamcaa", sum := "7cbb38276bd0f75aaf248c6d26d3071291dda25b8c08559ec8c2be1e9617fe27", func := "escritoire/escritoirelaw25.LineParses", spec := "lineParses", unfollowed := true, recurses := true, apart := false, narrowed := true }
def LineParsesUptoSaid : Prop := lineParsesUptoRow.holds Try.pinned (OpenSpec.upto lineParsesSpec)

/-- 'escritoirelaw25.LineBlanks', WHERE WHAT IT READS IS OF BULK AT MOST 1048576: true; the input reads as it did. -/
def lineBlanksUptoRow : OpenClaim := { program := "ytdkeccgcleamcaa", sum := "7cbb38276bd0f75aaf248c6d26d3071291dda25b8c08559ec8c2be1e9617fe27", func := "escritoire/escritoirelaw25.LineBlanks", spec := "lineBlanks", unfollowed := true, recurses := true, apart := false, narrowed := true }
def LineBlanksUptoSaid : Prop := lineBlanksUptoRow.holds Try.pinned (OpenSpec.upto lineBlanksSpec)

/-- 'escritoirelaw25.LineSubsts', WHERE WHAT IT READS IS OF BULK AT MOST 1048576: true; the input reads as it did. -/
def lineSubstsUptoRow : OpenClaim := { program := "ytdkeccgcleamcaa", sum := "7cbb38276bd0f75aaf248c6d26d3071291dda25b8c08559ec8c2be1e9617fe27", func := "escritoire/escritoirelaw25.LineSubsts", spec := "lineSubsts", unfollowed := true, recurses := true, apart := false, narrowed := true }
def LineSubstsUptoSaid : Prop := lineSubstsUptoRow.holds Try.pinned (OpenSpec.upto lineSubstsSpec)

/-- 'escritoirelaw25.LineResolves', WHERE WHAT IT READS IS OF BULK AT MOST 1048576: true; the input reads as it did. -/
def lineResolvesUptoRow : OpenClaim := { program := "ytdkeccgcleamcaa", sum := "7cbb38276bd0f75aaf248c6d26d3071291dda25b8c08559ec8c2be1e9617fe27", func := "escritoire/escritoirelaw25.LineResolves", spec := "lineResolves", unfollowed := true, recurses := true, apart := false, narrowed := true }
def LineResolvesUptoSaid : Prop := lineResolvesUptoRow.holds Try.pinned (OpenSpec.upto lineResolvesSpec)

/-- 'escritoirelaw25.LineOffsets', WHERE WHAT IT READS IS OF BULK AT MOST 1048576: true; the input reads as it did. -/
def lineOffsetsUptoRow : OpenClaim := { program := "ytdkeccgcleamcaa", sum := "7cbb38276bd0f75aaf248c6d26d3071291dda25b8c08559ec8c2be1e9617fe27", func := "escritoire/escritoirelaw25.LineOffsets", spec := "lineOffsets", unfollowed := true, recurses := true, apart := false, narrowed := true }
def LineOffsetsUptoSaid : Prop := lineOffsetsUptoRow.holds Try.pinned (OpenSpec.upto lineOffsetsSpec)

/-- 'escritoirelaw25.LineKnown', WHERE WHAT IT READS IS OF BULK AT MOST 1048576: true; the input reads as it did. -/
def lineKnownUptoRow : OpenClaim := { program := "ytdkeccgcleamcaa", sum := "7cbb38276bd0f75aaf248c6d26d3071291dda25b8c08559ec8c2be1e9617fe27", func := "escritoire/escritoirelaw25.LineKnown", spec := "lineKnown", unfollowed := true, recurses := true, apart := false, narrowed := true }
def LineKnownUptoSaid : Prop := lineKnownUptoRow.holds Try.pinned (OpenSpec.upto lineKnownSpec)

end Rows
end Go.Proofs.Ytdkeccgcleamcaa
