/-
  No cell of these rows narrows 'for every input' (looked for: loops, veiled, ifaces, maps, wideKeys, modest, calm, conditions, laid).
  DERIVED. THE GIVEN ROWS OF THIS SEAT. 11 by the template 'for every input the law returns true; each argument reads behind the call as it read before'; 0 by the template 'total and deterministic' (their statements: YtcdeidedcbnhaaaTotals.lean).
  GIVEN WITH THE SEED: the statements are not yours to turn. If you find one false, say at which input.
  Laid BY PROGRAM, IN A SANDBOX (cutbox-rows.mjs): the forced cells as the released guide's own fill.sh prints them over the translation 1f6d3b6bd3655b6a… (all of the seat's roots in one cut). By AI agents, Wed Nov 11 2026. No macro, syntax, notation, axiom, sorry.
-/
import Derived.Test.YtcdeidedcbnhaaaChecked
import GoSem.Claim
import GoSem.ClaimJoined
import GoSem.ClaimMapViews
import Derived.JoinedTies
import Derived.KernelRfl
namespace Go.Proofs.Ytcdeidedcbnhaaa
/- THE CELL 'sum', in the pinned program and in every row, IS THE sha256 OF THE DUMP (.gsa) THAT YtcdeidedcbnhaaaProg.lean LOADS. Nothing in Lean hashes anything: it is a label: what it is worth is what the hold of that sum in a sandbox is worth. -/
noncomputable def Try.pinned : Pinned := { name := "ytcdeidedcbnhaaa", sum := "1f6d3b6bd3655b6a832ec4baf6754693b183b90bd8e2aae14bcadaa8763a634e", checked := Try.checked }
namespace Rows
def none {H : Type} : Left H := { results := [], args := [] }

/-- 'warderlaw10.NestAbove': WHATEVER THE INPUT: true; the input reads as it did. -/
def nestAboveSpec : ChangeSpec := { name := "nestAbove", fn := fun _ => fun
  | [d1, d2] => { results := [.lit (.bool true)], args := [d1, d2] }
  | _ => none }
def nestAboveRow : OpenClaim := { program := "ytcdeidedcbnhaaa", sum := "1f6d3b6bd3655b6a832ec4baf6754693b183b90bd8e2aae14bcadaa8763a634e", func := "warder/warderlaw10.NestAbove", spec := "nestAbove", apart := false }
def NestAboveSaid : Prop := nestAboveRow.holds Try.pinned (OpenSpec.ofChange nestAboveSpec)

/-- ITS FALSE NEIGHBOUR: 'it returns false'. Refute it at one input. -/
def nestAboveWrong : ChangeSpec := { name := "nestAbove", fn := fun _ => fun
  | [d1, d2] => { results := [.lit (.bool false)], args := [d1, d2] }
  | _ => none }
def NestAboveWrongFalsely : Prop := nestAboveRow.holds Try.pinned (OpenSpec.ofChange nestAboveWrong)

/-- 'warderlaw10.NestCircles': WHATEVER THE INPUT: true; the input reads as it did. -/
def nestCirclesSpec : ChangeSpec := { name := "nestCircles", fn := fun _ => fun
  | [d] => { results := [.lit (.bool true)], args := [d] }
  | _ => none }
def nestCirclesRow : OpenClaim := { program := "ytcdeidedcbnhaaa", sum := "1f6d3b6bd3655b6a832ec4baf6754693b183b90bd8e2aae14bcadaa8763a634e", func := "warder/warderlaw10.NestCircles", spec := "nestCircles", apart := false }
def NestCirclesSaid : Prop := nestCirclesRow.holds Try.pinned (OpenSpec.ofChange nestCirclesSpec)

/-- ITS FALSE NEIGHBOUR: 'it returns false'. Refute it at one input. -/
def nestCirclesWrong : ChangeSpec := { name := "nestCircles", fn := fun _ => fun
  | [d] => { results := [.lit (.bool false)], args := [d] }
  | _ => none }
def NestCirclesWrongFalsely : Prop := nestCirclesRow.holds Try.pinned (OpenSpec.ofChange nestCirclesWrong)

/-- 'warderlaw10.NestBoth': WHATEVER THE INPUT: true; the input reads as it did. -/
def nestBothSpec : ChangeSpec := { name := "nestBoth", fn := fun _ => fun
  | [d1, d2, d3] => { results := [.lit (.bool true)], args := [d1, d2, d3] }
  | _ => none }
def nestBothRow : OpenClaim := { program := "ytcdeidedcbnhaaa", sum := "1f6d3b6bd3655b6a832ec4baf6754693b183b90bd8e2aae14bcadaa8763a634e", func := "warder/warderlaw10.NestBoth", spec := "nestBoth", apart := false }
def NestBothSaid : Prop := nestBothRow.holds Try.pinned (OpenSpec.ofChange nestBothSpec)

/-- ITS FALSE NEIGHBOUR: 'it returns false'. Refute it at one input. -/
def nestBothWrong : ChangeSpec := { name := "nestBoth", fn := fun _ => fun
  | [d1, d2, d3] => { results := [.lit (.bool false)], args := [d1, d2, d3] }
  | _ => none }
def NestBothWrongFalsely : Prop := nestBothRow.holds Try.pinned (OpenSpec.ofChange nestBothWrong)

/-- 'warderlaw32.LabelSets': WHATEVER THE INPUT: true; the input reads as it did. -/
def labelSetsSpec : ChangeSpec := { name := "labelSets", fn := fun _ => fun
  | [d1, d2] => { results := [.lit (.bool true)], args := [d1, d2] }
  | _ => none }
def labelSetsRow : OpenClaim := { program := "ytcdeidedcbnhaaa", sum := "1f6d3b6bd3655b6a832ec4baf6754693b183b90bd8e2aae14bcadaa8763a634e", func := "warder/warderlaw32.LabelSets", spec := "labelSets", apart := false }
def LabelSetsSaid : Prop := labelSetsRow.holds Try.pinned (OpenSpec.ofChange labelSetsSpec)

/-- ITS FALSE NEIGHBOUR: 'it returns false'. Refute it at one input. -/
def labelSetsWrong : ChangeSpec := { name := "labelSets", fn := fun _ => fun
  | [d1, d2] => { results := [.lit (.bool false)], args := [d1, d2] }
  | _ => none }
def LabelSetsWrongFalsely : Prop := labelSetsRow.holds Try.pinned (OpenSpec.ofChange labelSetsWrong)

/-- 'warderlaw32.LabelWays': WHATEVER THE INPUT: true; the input reads as it did. -/
def labelWaysSpec : ChangeSpec := { name := "labelWays", fn := fun _ => fun
  | [d1, d2, d3] => { results := [.lit (.bool true)], args := [d1, d2, d3] }
  | _ => none }
def labelWaysRow : OpenClaim := { program := "ytcdeidedcbnhaaa", sum := "1f6d3b6bd3655b6a832ec4baf6754693b183b90bd8e2aae14bcadaa8763a634e", func := "warder/warderlaw32.LabelWays", spec := "labelWays", apart := false }
def LabelWaysSaid : Prop := labelWaysRow.holds Try.pinned (OpenSpec.ofChange labelWaysSpec)

/-- ITS FALSE NEIGHBOUR: 'it returns false'. Refute it at one input. -/
def labelWaysWrong : ChangeSpec := { name := "labelWays", fn := fun _ => fun
  | [d1, d2, d3] => { results := [.lit (.bool false)], args := [d1, d2, d3] }
  | _ => none }
def LabelWaysWrongFalsely : Prop := labelWaysRow.holds Try.pinned (OpenSpec.ofChange labelWaysWrong)

/-- 'warderlaw32.LabelFixed': WHATEVER THE INPUT: true; the input reads as it did. -/
def labelFixedSpec : ChangeSpec := { name := "labelFixed", fn := fun _ => fun
  | [d1, d2, d3] => { results := [.lit (.bool true)], args := [d1, d2, d3] }
  | _ => none }
def labelFixedRow : OpenClaim := { program := "ytcdeidedcbnhaaa", sum := "1f6d3b6bd3655b6a832ec4baf6754693b183b90bd8e2aae14bcadaa8763a634e", func := "warder/warderlaw32.LabelFixed", spec := "labelFixed", apart := false }
def LabelFixedSaid : Prop := labelFixedRow.holds Try.pinned (OpenSpec.ofChange labelFixedSpec)

/-- ITS FALSE NEIGHBOUR: 'it returns false'. Refute it at one input. -/
def labelFixedWrong : ChangeSpec := { name := "labelFixed", fn := fun _ => fun
  | [d1, d2, d3] => { results := [.lit (.bool false)], args := [d1, d2, d3] }
  | _ => none }
def LabelFixedWrongFalsely : Prop := labelFixedRow.holds Try.pinned (OpenSpec.ofChange labelFixedWrong)

/-- 'warderlaw32.LabelGrows': WHATEVER THE INPUT: true; the input reads as it did. -/
def labelGrowsSpec : ChangeSpec := { name := "labelGrows", fn := fun _ => fun
  | [d1, d2, d3] => { results := [.lit (.bool true)], args := [d1, d2, d3] }
  | _ => none }
def labelGrowsRow : OpenClaim := { program := "ytcdeidedcbnhaaa", sum := "1f6d3b6bd3655b6a832ec4baf6754693b183b90bd8e2aae14bcadaa8763a634e", func := "warder/warderlaw32.LabelGrows", spec := "labelGrows", apart := false }
def LabelGrowsSaid : Prop := labelGrowsRow.holds Try.pinned (OpenSpec.ofChange labelGrowsSpec)

/-- ITS FALSE NEIGHBOUR: 'it returns false'. Refute it at one input. -/
def labelGrowsWrong : ChangeSpec := { name := "labelGrows", fn := fun _ => fun
  | [d1, d2, d3] => { results := [.lit (.bool false)], args := [d1, d2, d3] }
  | _ => none }
def LabelGrowsWrongFalsely : Prop := labelGrowsRow.holds Try.pinned (OpenSpec.ofChange labelGrowsWrong)

/-- 'warderlaw35.PathShortest': WHATEVER THE INPUT: true; the input reads as it did. -/
def pathShortestSpec : ChangeSpec := { name := "pathShortest", fn := fun _ => fun
  | [d1, d2, d3] => { results := [.lit (.bool true)], args := [d1, d2, d3] }
  | _ => none }
def pathShortestRow : OpenClaim := { program := "ytcdeidedcbnhaaa", sum := "1f6d3b6bd3655b6a832ec4baf6754693b183b90bd8e2aae14bcadaa8763a634e", func := "warder/warderlaw35.PathShortest", spec := "pathShortest", recurses := true, apart := false }
def PathShortestSaid : Prop := pathShortestRow.holds Try.pinned (OpenSpec.ofChange pathShortestSpec)

/-- ITS FALSE NEIGHBOUR: 'it returns false'. Refute it at one input. -/
def pathShortestWrong : ChangeSpec := { name := "pathShortest", fn := fun _ => fun
  | [d1, d2, d3] => { results := [.lit (.bool false)], args := [d1, d2, d3] }
  | _ => none }
def PathShortestWrongFalsely : Prop := pathShortestRow.holds Try.pinned (OpenSpec.ofChange pathShortestWrong)

/-- 'warderlaw35.PathEnds': WHATEVER THE INPUT: true; the input reads as it did. -/
def pathEndsSpec : ChangeSpec := { name := "pathEnds", fn := fun _ => fun
  | [d1, d2, d3] => { results := [.lit (.bool true)], args := [d1, d2, d3] }
  | _ => none }
def pathEndsRow : OpenClaim := { program := "ytcdeidedcbnhaaa", sum := "1f6d3b6bd3655b6a832ec4baf6754693b183b90bd8e2aae14bcadaa8763a634e", func := "warder/warderlaw35.PathEnds", spec := "pathEnds", recurses := true, apart := false }
def PathEndsSaid : Prop := pathEndsRow.holds Try.pinned (OpenSpec.ofChange pathEndsSpec)

/-- ITS FALSE NEIGHBOUR: 'it returns false'. Refute it at one input. -/
def pathEndsWrong : ChangeSpec := { name := "pathEnds", fn := fun _ => fun
  | [d1, d2, d3] => { results := [.lit (.bool false)], args := [d1, d2, d3] }
  | _ => none }
def PathEndsWrongFalsely : Prop := pathEndsRow.holds Try.pinned (OpenSpec.ofChange pathEndsWrong)

/-- 'warderlaw35.PathLasso': WHATEVER THE INPUT: true; the input reads as it did. -/
def pathLassoSpec : ChangeSpec := { name := "pathLasso", fn := fun _ => fun
  | [d1, d2, d3] => { results := [.lit (.bool true)], args := [d1, d2, d3] }
  | _ => none }
def pathLassoRow : OpenClaim := { program := "ytcdeidedcbnhaaa", sum := "1f6d3b6bd3655b6a832ec4baf6754693b183b90bd8e2aae14bcadaa8763a634e", func := "warder/warderlaw35.PathLasso", spec := "pathLasso", recurses := true, apart := false }
def PathLassoSaid : Prop := pathLassoRow.holds Try.pinned (OpenSpec.ofChange pathLassoSpec)

/-- ITS FALSE NEIGHBOUR: 'it returns false'. Refute it at one input. -/
def pathLassoWrong : ChangeSpec := { name := "pathLasso", fn := fun _ => fun
  | [d1, d2, d3] => { results := [.lit (.bool false)], args := [d1, d2, d3] }
  | _ => none }
def PathLassoWrongFalsely : Prop := pathLassoRow.holds Try.pinned (OpenSpec.ofChange pathLassoWrong)

/-- 'warderlaw35.PathLeads': WHATEVER THE INPUT: true; the input reads as it did. -/
def pathLeadsSpec : ChangeSpec := { name := "pathLeads", fn := fun _ => fun
  | [d1, d2, d3] => { results := [.lit (.bool true)], args := [d1, d2, d3] }
  | _ => none }
def pathLeadsRow : OpenClaim := { program := "ytcdeidedcbnhaaa", sum := "1f6d3b6bd3655b6a832ec4baf6754693b183b90bd8e2aae14bcadaa8763a634e", func := "warder/warderlaw35.PathLeads", spec := "pathLeads", recurses := true, apart := false }
def PathLeadsSaid : Prop := pathLeadsRow.holds Try.pinned (OpenSpec.ofChange pathLeadsSpec)

/-- ITS FALSE NEIGHBOUR: 'it returns false'. Refute it at one input. -/
def pathLeadsWrong : ChangeSpec := { name := "pathLeads", fn := fun _ => fun
  | [d1, d2, d3] => { results := [.lit (.bool false)], args := [d1, d2, d3] }
  | _ => none }
def PathLeadsWrongFalsely : Prop := pathLeadsRow.holds Try.pinned (OpenSpec.ofChange pathLeadsWrong)

/- THE SECOND FORM. 'bulk': how many values and letters a reading holds, each counted each time it is reached (what is shared counts as often as it is met; a slice's spare places count too). A statement '..UptoSaid' is the law's where the arguments, and the package variables that the reading takes, are together of bulk at most 1048576: NARROWER than '..Said'. Prove '..Said' where nothing that the law and all that it calls make is longer than what came in: it says more and counts as full. Else prove '..UptoSaid'. A law counts once. -/
mutual
def uptoBulk {H : Type} : DataW H → Nat
  | .lit (.string bytes) => bytes.length + 1
  | .lit _ => 1
  | .nil => 1
  | .ptr d => uptoBulk d + 1
  | .slice elems spare => uptoBulkAll elems + uptoBulkAll spare + 1
  | .agg parts => uptoBulkAll parts + 1
  | .iface _ d => uptoBulk d + 1
  | .map entries => uptoBulkEntries entries + 1
  | .held _ => 1
def uptoBulkAll {H : Type} : List (DataW H) → Nat
  | [] => 0
  | d :: r => uptoBulk d + uptoBulkAll r
def uptoBulkEntries {H : Type} : List (Lit × DataW H) → Nat
  | [] => 0
  | x :: r => uptoBulkEntry x + uptoBulkEntries r
def uptoBulkEntry {H : Type} : Lit × DataW H → Nat
  | (.string bytes, d) => bytes.length + uptoBulk d + 1
  | (_, d) => uptoBulk d + 1
 end
def uptoSmall : (H : Type) → List (DataW H) → Bool := fun _ ds => decide (uptoBulkAll ds ≤ 1048576)
def OpenSpec.upto (s : _root_.Go.ChangeSpec) : _root_.Go.OpenSpec := { _root_.Go.OpenSpec.ofChange s with cond := some uptoSmall }

/-- 'warderlaw10.NestAbove', WHERE WHAT IT READS IS OF BULK AT MOST 1048576: true; the input reads as it did. -/
def nestAboveUptoRow : OpenClaim := { program := "ytcdeidedcbnhaaa", sum := "1f6d3b6bd3655b6a832ec4baf6754693b183b90bd8e2aae14bcadaa8763a634e", func := "warder/warderlaw10.NestAbove", spec := "nestAbove", apart := false, narrowed := true }
def NestAboveUptoSaid : Prop := nestAboveUptoRow.holds Try.pinned (OpenSpec.upto nestAboveSpec)

/-- 'warderlaw10.NestCircles', WHERE WHAT IT READS IS OF BULK AT MOST 1048576: true; the input reads as it did. -/
def nestCirclesUptoRow : OpenClaim := { program := "ytcdeidedcbnhaaa", sum := "1f6d3b6bd3655b6a832ec4baf6754693b183b90bd8e2aae14bcadaa8763a634e", func := "warder/warderlaw10.NestCircles", spec := "nestCircles", apart := false, narrowed := true }
def NestCirclesUptoSaid : Prop := nestCirclesUptoRow.holds Try.pinned (OpenSpec.upto nestCirclesSpec)

/-- 'warderlaw10.NestBoth', WHERE WHAT IT READS IS OF BULK AT MOST 1048576: true; the input reads as it did. -/
def nestBothUptoRow : OpenClaim := { program := "ytcdeidedcbnhaaa", sum := "1f6d3b6bd3655b6a832ec4baf6754693b183b90bd8e2aae14bcadaa8763a634e", func := "warder/warderlaw10.NestBoth", spec := "nestBoth", apart := false, narrowed := true }
def NestBothUptoSaid : Prop := nestBothUptoRow.holds Try.pinned (OpenSpec.upto nestBothSpec)

/-- 'warderlaw32.LabelSets', WHERE WHAT IT READS IS OF BULK AT MOST 1048576: true; the input reads as it did. -/
def labelSetsUptoRow : OpenClaim := { program := "ytcdeidedcbnhaaa", sum := "1f6d3b6bd3655b6a832ec4baf6754693b183b90bd8e2aae14bcadaa8763a634e", func := "warder/warderlaw32.LabelSets", spec := "labelSets", apart := false, narrowed := true }
def LabelSetsUptoSaid : Prop := labelSetsUptoRow.holds Try.pinned (OpenSpec.upto labelSetsSpec)

/-- 'warderlaw32.LabelWays', WHERE WHAT IT READS IS OF BULK AT MOST 1048576: true; the input reads as it did. -/
def labelWaysUptoRow : OpenClaim := { program := "ytcdeidedcbnhaaa", sum := "1f6d3b6bd3655b6a832ec4baf6754693b183b90bd8e2aae14bcadaa8763a634e", func := "warder/warderlaw32.LabelWays", spec := "labelWays", apart := false, narrowed := true }
def LabelWaysUptoSaid : Prop := labelWaysUptoRow.holds Try.pinned (OpenSpec.upto labelWaysSpec)

/-- 'warderlaw32.LabelFixed', WHERE WHAT IT READS IS OF BULK AT MOST 1048576: true; the input reads as it did. -/
def labelFixedUptoRow : OpenClaim := { program := "ytcdeidedcbnhaaa", sum := "1f6d3b6bd3655b6a832ec4baf6754693b183b90bd8e2aae14bcadaa8763a634e", func := "warder/warderlaw32.LabelFixed", spec := "labelFixed", apart := false, narrowed := true }
def LabelFixedUptoSaid : Prop := labelFixedUptoRow.holds Try.pinned (OpenSpec.upto labelFixedSpec)

/-- 'warderlaw32.LabelGrows', WHERE WHAT IT READS IS OF BULK AT MOST 1048576: true; the input reads as it did. -/
def labelGrowsUptoRow : OpenClaim := { program := "ytcdeidedcbnhaaa", sum := "1f6d3b6bd3655b6a832ec4baf6754693b183b90bd8e2aae14bcadaa8763a634e", func := "warder/warderlaw32.LabelGrows", spec := "labelGrows", apart := false, narrowed := true }
def LabelGrowsUptoSaid : Prop := labelGrowsUptoRow.holds Try.pinned (OpenSpec.upto labelGrowsSpec)

/-- 'warderlaw35.PathShortest', WHERE WHAT IT READS IS OF BULK AT MOST 1048576: true; the input reads as it did. -/
def pathShortestUptoRow : OpenClaim := { program := "ytcdeidedcbnhaaa", sum := "1f6d3b6bd3655b6a832ec4baf6754693b183b90bd8e2aae14bcadaa8763a634e", func := "warder/warderlaw35.PathShortest", spec := "pathShortest", recurses := true, apart := false, narrowed := true }
def PathShortestUptoSaid : Prop := pathShortestUptoRow.holds Try.pinned (OpenSpec.upto pathShortestSpec)

/-- 'warderlaw35.PathEnds', WHERE WHAT IT READS IS OF BULK AT MOST 1048576: true; the input reads as it did. -/
def pathEndsUptoRow : OpenClaim := { program := "ytcdeidedcbnhaaa", sum := "1f6d3b6bd3655b6a832ec4baf6754693b183b90bd8e2aae14bcadaa8763a634e", func := "warder/warderlaw35.PathEnds", spec := "pathEnds", recurses := true, apart := false, narrowed := true }
def PathEndsUptoSaid : Prop := pathEndsUptoRow.holds Try.pinned (OpenSpec.upto pathEndsSpec)

/-- 'warderlaw35.PathLasso', WHERE WHAT IT READS IS OF BULK AT MOST 1048576: true; the input reads as it did. -/
def pathLassoUptoRow : OpenClaim := { program := "ytcdeidedcbnhaaa", sum := "1f6d3b6bd3655b6a832ec4baf6754693b183b90bd8e2aae14bcadaa8763a634e", func := "warder/warderlaw35.PathLasso", spec := "pathLasso", recurses := true, apart := false, narrowed := true }
def PathLassoUptoSaid : Prop := pathLassoUptoRow.holds Try.pinned (OpenSpec.upto pathLassoSpec)

/-- 'warderlaw35.PathLeads', WHERE WHAT IT READS IS OF BULK AT MOST 1048576: true; the input reads as it did. -/
def pathLeadsUptoRow : OpenClaim := { program := "ytcdeidedcbnhaaa", sum := "1f6d3b6bd3655b6a832ec4baf6754693b183b90bd8e2aae14bcadaa8763a634e", func := "warder/warderlaw35.PathLeads", spec := "pathLeads", recurses := true, apart := false, narrowed := true }
def PathLeadsUptoSaid : Prop := pathLeadsUptoRow.holds Try.pinned (OpenSpec.upto pathLeadsSpec)

end Rows
end Go.Proofs.Ytcdeidedcbnhaaa
