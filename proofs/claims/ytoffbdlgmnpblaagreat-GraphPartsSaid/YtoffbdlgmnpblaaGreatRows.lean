/-
  No cell of these rows narrows 'for every input' (looked for: loops, veiled, ifaces, maps, wideKeys, modest, calm, conditions, laid).
  DERIVED. THE GIVEN ROWS OF THIS SEAT. 10 by the template 'for every input the law returns true; each argument reads behind the call as it read before'; 0 by the template 'total and deterministic' (their statements: YtoffbdlgmnpblaaGreatTotals.lean).
  GIVEN WITH THE SEED: the statements are not yours to turn. If you find one false, say at which input.
  Laid BY PROGRAM, IN A SANDBOX (cutbox-rows.mjs): the forced cells as the released guide's own fill.sh prints them over the translation de2a6093890f703a… (all of the seat's roots in one cut). By AI agents, Wed Nov 11 2026. No macro, syntax, notation, axiom, sorry.
-/
import Derived.Test.YtoffbdlgmnpblaaGreatChecked
import GoSem.Claim
import GoSem.ClaimJoined
import GoSem.ClaimMapViews
import Derived.JoinedTies
import Derived.KernelRfl
namespace Go.Proofs.YtoffbdlgmnpblaaGreat
/- THE CELL 'sum', in the pinned program and in every row, IS THE sha256 OF THE DUMP (.gsa) THAT YtoffbdlgmnpblaaGreatProg.lean LOADS. Nothing in Lean hashes anything: it is a label: what it is worth is what the hold of that sum in a sandbox is worth. -/
noncomputable def Tryz.pinned : Pinned := { name := "ytoffbdlgmnpblaagreat", sum := "de2a6093890f703a4af1b342d269910b297b6bac8593c6059137ae11c10d399d", checked := Tryz.checked }
namespace Rows
def none {H : Type} : Left H := { results := [], args := [] }

/-- 'diceboxlaw05.GraphParts': WHATEVER THE INPUT: true; the input reads as it did. -/
def graphPartsSpec : ChangeSpec := { name := "graphParts", fn := fun _ => fun
  | [d] => { results := [.lit (.bool true)], args := [d] }
  | _ => none }
def graphPartsRow : OpenClaim := { program := "ytoffbdlgmnpblaagreat", sum := "de2a6093890f703a4af1b342d269910b297b6bac8593c6059137ae11c10d399d", func := "dicebox/diceboxlaw05.GraphParts", spec := "graphParts", unfollowed := true, recurses := true, named := ["math/bits.overflowError"], apart := false }
def GraphPartsSaid : Prop := graphPartsRow.holds Tryz.pinned (OpenSpec.ofChange graphPartsSpec)

/-- ITS FALSE NEIGHBOUR: 'it returns false'. Refute it at one input. -/
def graphPartsWrong : ChangeSpec := { name := "graphParts", fn := fun _ => fun
  | [d] => { results := [.lit (.bool false)], args := [d] }
  | _ => none }
def GraphPartsWrongFalsely : Prop := graphPartsRow.holds Tryz.pinned (OpenSpec.ofChange graphPartsWrong)

/-- 'diceboxlaw05.GraphSets': WHATEVER THE INPUT: true; the input reads as it did. -/
def graphSetsSpec : ChangeSpec := { name := "graphSets", fn := fun _ => fun
  | [d1, d2] => { results := [.lit (.bool true)], args := [d1, d2] }
  | _ => none }
def graphSetsRow : OpenClaim := { program := "ytoffbdlgmnpblaagreat", sum := "de2a6093890f703a4af1b342d269910b297b6bac8593c6059137ae11c10d399d", func := "dicebox/diceboxlaw05.GraphSets", spec := "graphSets", unfollowed := true, recurses := true, named := ["math/bits.overflowError"], apart := false }
def GraphSetsSaid : Prop := graphSetsRow.holds Tryz.pinned (OpenSpec.ofChange graphSetsSpec)

/-- ITS FALSE NEIGHBOUR: 'it returns false'. Refute it at one input. -/
def graphSetsWrong : ChangeSpec := { name := "graphSets", fn := fun _ => fun
  | [d1, d2] => { results := [.lit (.bool false)], args := [d1, d2] }
  | _ => none }
def GraphSetsWrongFalsely : Prop := graphSetsRow.holds Tryz.pinned (OpenSpec.ofChange graphSetsWrong)

/-- 'diceboxlaw05.GraphLaws': WHATEVER THE INPUT: true; the input reads as it did. -/
def graphLawsSpec : ChangeSpec := { name := "graphLaws", fn := fun _ => fun
  | [d1, d2, d3, d4] => { results := [.lit (.bool true)], args := [d1, d2, d3, d4] }
  | _ => none }
def graphLawsRow : OpenClaim := { program := "ytoffbdlgmnpblaagreat", sum := "de2a6093890f703a4af1b342d269910b297b6bac8593c6059137ae11c10d399d", func := "dicebox/diceboxlaw05.GraphLaws", spec := "graphLaws", unfollowed := true, recurses := true, named := ["math/bits.overflowError"], apart := false }
def GraphLawsSaid : Prop := graphLawsRow.holds Tryz.pinned (OpenSpec.ofChange graphLawsSpec)

/-- ITS FALSE NEIGHBOUR: 'it returns false'. Refute it at one input. -/
def graphLawsWrong : ChangeSpec := { name := "graphLaws", fn := fun _ => fun
  | [d1, d2, d3, d4] => { results := [.lit (.bool false)], args := [d1, d2, d3, d4] }
  | _ => none }
def GraphLawsWrongFalsely : Prop := graphLawsRow.holds Tryz.pinned (OpenSpec.ofChange graphLawsWrong)

/-- 'diceboxlaw05.GraphPaths': WHATEVER THE INPUT: true; the input reads as it did. -/
def graphPathsSpec : ChangeSpec := { name := "graphPaths", fn := fun _ => fun
  | [d1, d2, d3, d4] => { results := [.lit (.bool true)], args := [d1, d2, d3, d4] }
  | _ => none }
def graphPathsRow : OpenClaim := { program := "ytoffbdlgmnpblaagreat", sum := "de2a6093890f703a4af1b342d269910b297b6bac8593c6059137ae11c10d399d", func := "dicebox/diceboxlaw05.GraphPaths", spec := "graphPaths", unfollowed := true, recurses := true, named := ["math/bits.overflowError"], apart := false }
def GraphPathsSaid : Prop := graphPathsRow.holds Tryz.pinned (OpenSpec.ofChange graphPathsSpec)

/-- ITS FALSE NEIGHBOUR: 'it returns false'. Refute it at one input. -/
def graphPathsWrong : ChangeSpec := { name := "graphPaths", fn := fun _ => fun
  | [d1, d2, d3, d4] => { results := [.lit (.bool false)], args := [d1, d2, d3, d4] }
  | _ => none }
def GraphPathsWrongFalsely : Prop := graphPathsRow.holds Tryz.pinned (OpenSpec.ofChange graphPathsWrong)

/-- 'diceboxlaw05.GraphOwn': WHATEVER THE INPUT: true; the input reads as it did. -/
def graphOwnSpec : ChangeSpec := { name := "graphOwn", fn := fun _ => fun
  | [d1, d2, d3, d4] => { results := [.lit (.bool true)], args := [d1, d2, d3, d4] }
  | _ => none }
def graphOwnRow : OpenClaim := { program := "ytoffbdlgmnpblaagreat", sum := "de2a6093890f703a4af1b342d269910b297b6bac8593c6059137ae11c10d399d", func := "dicebox/diceboxlaw05.GraphOwn", spec := "graphOwn", unfollowed := true, recurses := true, named := ["math/bits.overflowError"], apart := false }
def GraphOwnSaid : Prop := graphOwnRow.holds Tryz.pinned (OpenSpec.ofChange graphOwnSpec)

/-- ITS FALSE NEIGHBOUR: 'it returns false'. Refute it at one input. -/
def graphOwnWrong : ChangeSpec := { name := "graphOwn", fn := fun _ => fun
  | [d1, d2, d3, d4] => { results := [.lit (.bool false)], args := [d1, d2, d3, d4] }
  | _ => none }
def GraphOwnWrongFalsely : Prop := graphOwnRow.holds Tryz.pinned (OpenSpec.ofChange graphOwnWrong)

/-- 'diceboxlaw08.EndsIs': WHATEVER THE INPUT: true; the input reads as it did. -/
def endsIsSpec : ChangeSpec := { name := "endsIs", fn := fun _ => fun
  | [d1, d2] => { results := [.lit (.bool true)], args := [d1, d2] }
  | _ => none }
def endsIsRow : OpenClaim := { program := "ytoffbdlgmnpblaagreat", sum := "de2a6093890f703a4af1b342d269910b297b6bac8593c6059137ae11c10d399d", func := "dicebox/diceboxlaw08.EndsIs", spec := "endsIs", unfollowed := true, recurses := true, named := ["math/bits.overflowError"], apart := false }
def EndsIsSaid : Prop := endsIsRow.holds Tryz.pinned (OpenSpec.ofChange endsIsSpec)

/-- ITS FALSE NEIGHBOUR: 'it returns false'. Refute it at one input. -/
def endsIsWrong : ChangeSpec := { name := "endsIs", fn := fun _ => fun
  | [d1, d2] => { results := [.lit (.bool false)], args := [d1, d2] }
  | _ => none }
def EndsIsWrongFalsely : Prop := endsIsRow.holds Tryz.pinned (OpenSpec.ofChange endsIsWrong)

/-- 'diceboxlaw08.EndsMaximal': WHATEVER THE INPUT: true; the input reads as it did. -/
def endsMaximalSpec : ChangeSpec := { name := "endsMaximal", fn := fun _ => fun
  | [d1, d2] => { results := [.lit (.bool true)], args := [d1, d2] }
  | _ => none }
def endsMaximalRow : OpenClaim := { program := "ytoffbdlgmnpblaagreat", sum := "de2a6093890f703a4af1b342d269910b297b6bac8593c6059137ae11c10d399d", func := "dicebox/diceboxlaw08.EndsMaximal", spec := "endsMaximal", unfollowed := true, recurses := true, named := ["math/bits.overflowError"], apart := false }
def EndsMaximalSaid : Prop := endsMaximalRow.holds Tryz.pinned (OpenSpec.ofChange endsMaximalSpec)

/-- ITS FALSE NEIGHBOUR: 'it returns false'. Refute it at one input. -/
def endsMaximalWrong : ChangeSpec := { name := "endsMaximal", fn := fun _ => fun
  | [d1, d2] => { results := [.lit (.bool false)], args := [d1, d2] }
  | _ => none }
def EndsMaximalWrongFalsely : Prop := endsMaximalRow.holds Tryz.pinned (OpenSpec.ofChange endsMaximalWrong)

/-- 'diceboxlaw08.EndsMerge': WHATEVER THE INPUT: true; the input reads as it did. -/
def endsMergeSpec : ChangeSpec := { name := "endsMerge", fn := fun _ => fun
  | [d] => { results := [.lit (.bool true)], args := [d] }
  | _ => none }
def endsMergeRow : OpenClaim := { program := "ytoffbdlgmnpblaagreat", sum := "de2a6093890f703a4af1b342d269910b297b6bac8593c6059137ae11c10d399d", func := "dicebox/diceboxlaw08.EndsMerge", spec := "endsMerge", unfollowed := true, recurses := true, named := ["math/bits.overflowError"], apart := false }
def EndsMergeSaid : Prop := endsMergeRow.holds Tryz.pinned (OpenSpec.ofChange endsMergeSpec)

/-- ITS FALSE NEIGHBOUR: 'it returns false'. Refute it at one input. -/
def endsMergeWrong : ChangeSpec := { name := "endsMerge", fn := fun _ => fun
  | [d] => { results := [.lit (.bool false)], args := [d] }
  | _ => none }
def EndsMergeWrongFalsely : Prop := endsMergeRow.holds Tryz.pinned (OpenSpec.ofChange endsMergeWrong)

/-- 'diceboxlaw08.EndsLaws': WHATEVER THE INPUT: true; the input reads as it did. -/
def endsLawsSpec : ChangeSpec := { name := "endsLaws", fn := fun _ => fun
  | [d1, d2, d3] => { results := [.lit (.bool true)], args := [d1, d2, d3] }
  | _ => none }
def endsLawsRow : OpenClaim := { program := "ytoffbdlgmnpblaagreat", sum := "de2a6093890f703a4af1b342d269910b297b6bac8593c6059137ae11c10d399d", func := "dicebox/diceboxlaw08.EndsLaws", spec := "endsLaws", unfollowed := true, recurses := true, named := ["math/bits.overflowError"], apart := false }
def EndsLawsSaid : Prop := endsLawsRow.holds Tryz.pinned (OpenSpec.ofChange endsLawsSpec)

/-- ITS FALSE NEIGHBOUR: 'it returns false'. Refute it at one input. -/
def endsLawsWrong : ChangeSpec := { name := "endsLaws", fn := fun _ => fun
  | [d1, d2, d3] => { results := [.lit (.bool false)], args := [d1, d2, d3] }
  | _ => none }
def EndsLawsWrongFalsely : Prop := endsLawsRow.holds Tryz.pinned (OpenSpec.ofChange endsLawsWrong)

/-- 'diceboxlaw08.EndsOwn': WHATEVER THE INPUT: true; the input reads as it did. -/
def endsOwnSpec : ChangeSpec := { name := "endsOwn", fn := fun _ => fun
  | [d1, d2, d3] => { results := [.lit (.bool true)], args := [d1, d2, d3] }
  | _ => none }
def endsOwnRow : OpenClaim := { program := "ytoffbdlgmnpblaagreat", sum := "de2a6093890f703a4af1b342d269910b297b6bac8593c6059137ae11c10d399d", func := "dicebox/diceboxlaw08.EndsOwn", spec := "endsOwn", unfollowed := true, recurses := true, named := ["math/bits.overflowError"], apart := false }
def EndsOwnSaid : Prop := endsOwnRow.holds Tryz.pinned (OpenSpec.ofChange endsOwnSpec)

/-- ITS FALSE NEIGHBOUR: 'it returns false'. Refute it at one input. -/
def endsOwnWrong : ChangeSpec := { name := "endsOwn", fn := fun _ => fun
  | [d1, d2, d3] => { results := [.lit (.bool false)], args := [d1, d2, d3] }
  | _ => none }
def EndsOwnWrongFalsely : Prop := endsOwnRow.holds Tryz.pinned (OpenSpec.ofChange endsOwnWrong)

/- THE SECOND FORM. 'bulk': how many values and letters a reading holds, each counted each time it is reached (what is shared counts as often as it is met; a slice's spare places count too). A statement '..UptoSaid' is the law's where the arguments, and the package variables that the reading takes, are together of bulk at most 1048576: NARROWER than '..Said'. Prove '..Said' where nothing that the law and all that it calls make is longer than what came in: it says more and counts as full. Else prove '..UptoSaid'. A law counts once. -/
mutual
def uptoBulk {H : Type} : DataW H → Nat
  | .lit (.string bytes) => bytes.length + 1
  | .lit _ => 1
  | .nil => 1
  | .ptr d => uptoBulk d + 1
  | .slice elems spare => uptoBulkAll elems + uptoBulkAll spare + 1
  | .agg parts => uptoBulkAll parts + 1
  | .iface _ d => uptoBulk d + 1
  | .map entries => uptoBulkEntries entries + 1
  | .held _ => 1
def uptoBulkAll {H : Type} : List (DataW H) → Nat
  | [] => 0
  | d :: r => uptoBulk d + uptoBulkAll r
def uptoBulkEntries {H : Type} : List (Lit × DataW H) → Nat
  | [] => 0
  | x :: r => uptoBulkEntry x + uptoBulkEntries r
def uptoBulkEntry {H : Type} : Lit × DataW H → Nat
  | (.string bytes, d) => bytes.length + uptoBulk d + 1
  | (_, d) => uptoBulk d + 1
 end
def uptoSmall : (H : Type) → List (DataW H) → Bool := fun _ ds => decide (uptoBulkAll ds ≤ 1048576)
def OpenSpec.upto (s : _root_.Go.ChangeSpec) : _root_.Go.OpenSpec := { _root_.Go.OpenSpec.ofChange s with cond := some uptoSmall }

/-- 'diceboxlaw05.GraphParts', WHERE WHAT IT READS IS OF BULK AT MOST 1048576: true; the input reads as it did. -/
def graphPartsUptoRow : OpenClaim := { program := "ytoffbdlgmnpblaagreat", sum := "de2a6093890f703a4af1b342d269910b297b6bac8593c6059137ae11c10d399d", func := "dicebox/diceboxlaw05.GraphParts", spec := "graphParts", unfollowed := true, recurses := true, named := ["math/bits.overflowError"], apart := false, narrowed := true }
def GraphPartsUptoSaid : Prop := graphPartsUptoRow.holds Tryz.pinned (OpenSpec.upto graphPartsSpec)

/-- 'diceboxlaw05.GraphSets', WHERE WHAT IT READS IS OF BULK AT MOST 1048576: true; the input reads as it did. -/
def graphSetsUptoRow : OpenClaim := { program := "ytoffbdlgmnpblaagreat", sum := "de2a6093890f703a4af1b342d269910b297b6bac8593c6059137ae11c10d399d", func := "dicebox/diceboxlaw05.GraphSets", spec := "graphSets", unfollowed := true, recurses := true, named := ["math/bits.overflowError"], apart := false, narrowed := true }
def GraphSetsUptoSaid : Prop := graphSetsUptoRow.holds Tryz.pinned (OpenSpec.upto graphSetsSpec)

/-- 'diceboxlaw05.GraphLaws', WHERE WHAT IT READS IS OF BULK AT MOST 1048576: true; the input reads as it did. -/
def graphLawsUptoRow : OpenClaim := { program := "ytoffbdlgmnpblaagreat", sum := "de2a6093890f703a4af1b342d269910b297b6bac8593c6059137ae11c10d399d", func := "dicebox/diceboxlaw05.GraphLaws", spec := "graphLaws", unfollowed := true, recurses := true, named := ["math/bits.overflowError"], apart := false, narrowed := true }
def GraphLawsUptoSaid : Prop := graphLawsUptoRow.holds Tryz.pinned (OpenSpec.upto graphLawsSpec)

/-- 'diceboxlaw05.GraphPaths', WHERE WHAT IT READS IS OF BULK AT MOST 1048576: true; the input reads as it did. -/
def graphPathsUptoRow : OpenClaim := { program := "ytoffbdlgmnpblaagreat", sum := "de2a6093890f703a4af1b342d269910b297b6bac8593c6059137ae11c10d399d", func := "dicebox/diceboxlaw05.GraphPaths", spec := "graphPaths", unfollowed := true, recurses := true, named := ["math/bits.overflowError"], apart := false, narrowed := true }
def GraphPathsUptoSaid : Prop := graphPathsUptoRow.holds Tryz.pinned (OpenSpec.upto graphPathsSpec)

/-- 'diceboxlaw05.GraphOwn', WHERE WHAT IT READS IS OF BULK AT MOST 1048576: true; the input reads as it did. -/
def graphOwnUptoRow : OpenClaim := { program := "ytoffbdlgmnpblaagreat", sum := "de2a6093890f703a4af1b342d269910b297b6bac8593c6059137ae11c10d399d", func := "dicebox/diceboxlaw05.GraphOwn", spec := "graphOwn", unfollowed := true, recurses := true, named := ["math/bits.overflowError"], apart := false, narrowed := true }
def GraphOwnUptoSaid : Prop := graphOwnUptoRow.holds Tryz.pinned (OpenSpec.upto graphOwnSpec)

/-- 'diceboxlaw08.EndsIs', WHERE WHAT IT READS IS OF BULK AT MOST 1048576: true; the input reads as it did. -/
def endsIsUptoRow : OpenClaim := { program := "ytoffbdlgmnpblaagreat", sum := "de2a6093890f703a4af1b342d269910b297b6bac8593c6059137ae11c10d399d", func := "dicebox/diceboxlaw08.EndsIs", spec := "endsIs", unfollowed := true, recurses := true, named := ["math/bits.overflowError"], apart := false, narrowed := true }
def EndsIsUptoSaid : Prop := endsIsUptoRow.holds Tryz.pinned (OpenSpec.upto endsIsSpec)

/-- 'diceboxlaw08.EndsMaximal', WHERE WHAT IT READS IS OF BULK AT MOST 1048576: true; the input reads as it did. -/
def endsMaximalUptoRow : OpenClaim := { program := "ytoffbdlgmnpblaagreat", sum := "de2a6093890f703a4af1b342d269910b297b6bac8593c6059137ae11c10d399d", func := "dicebox/diceboxlaw08.EndsMaximal", spec := "endsMaximal", unfollowed := true, recurses := true, named := ["math/bits.overflowError"], apart := false, narrowed := true }
def EndsMaximalUptoSaid : Prop := endsMaximalUptoRow.holds Tryz.pinned (OpenSpec.upto endsMaximalSpec)

/-- 'diceboxlaw08.EndsMerge', WHERE WHAT IT READS IS OF BULK AT MOST 1048576: true; the input reads as it did. -/
def endsMergeUptoRow : OpenClaim := { program := "ytoffbdlgmnpblaagreat", sum := "de2a6093890f703a4af1b342d269910b297b6bac8593c6059137ae11c10d399d", func := "dicebox/diceboxlaw08.EndsMerge", spec := "endsMerge", unfollowed := true, recurses := true, named := ["math/bits.overflowError"], apart := false, narrowed := true }
def EndsMergeUptoSaid : Prop := endsMergeUptoRow.holds Tryz.pinned (OpenSpec.upto endsMergeSpec)

/-- 'diceboxlaw08.EndsLaws', WHERE WHAT IT READS IS OF BULK AT MOST 1048576: true; the input reads as it did. -/
def endsLawsUptoRow : OpenClaim := { program := "ytoffbdlgmnpblaagreat", sum := "de2a6093890f703a4af1b342d269910b297b6bac8593c6059137ae11c10d399d", func := "dicebox/diceboxlaw08.EndsLaws", spec := "endsLaws", unfollowed := true, recurses := true, named := ["math/bits.overflowError"], apart := false, narrowed := true }
def EndsLawsUptoSaid : Prop := endsLawsUptoRow.holds Tryz.pinned (OpenSpec.upto endsLawsSpec)

/-- 'diceboxlaw08.EndsOwn', WHERE WHAT IT READS IS OF BULK AT MOST 1048576: true; the input reads as it did. -/
def endsOwnUptoRow : OpenClaim := { program := "ytoffbdlgmnpblaagreat", sum := "de2a6093890f703a4af1b342d269910b297b6bac8593c6059137ae11c10d399d", func := "dicebox/diceboxlaw08.EndsOwn", spec := "endsOwn", unfollowed := true, recurses := true, named := ["math/bits.overflowError"], apart := false, narrowed := true }
def EndsOwnUptoSaid : Prop := endsOwnUptoRow.holds Tryz.pinned (OpenSpec.upto endsOwnSpec)

end Rows
end Go.Proofs.YtoffbdlgmnpblaaGreat
