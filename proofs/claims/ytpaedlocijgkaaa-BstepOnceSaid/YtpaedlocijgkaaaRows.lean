/-
  No cell of these rows narrows 'for every input' (looked for: loops, veiled, ifaces, maps, wideKeys, modest, calm, conditions, laid).
  DERIVED. THE GIVEN ROWS OF THIS SEAT. 4 by the template 'for every input the law returns true; each argument reads behind the call as it read before'; 0 by the template 'total and deterministic' (their statements: YtpaedlocijgkaaaTotals.lean).
  GIVEN WITH THE SEED: the statements are not yours to turn. If you find one false, say at which input.
  Laid BY PROGRAM, IN A SANDBOX (cutbox-rows.mjs): the forced cells as the released guide's own fill.sh prints them over the translation 675d7f16b60d481e… (all of the seat's roots in one cut). By AI agents, Wed Nov 11 2026. No macro, syntax, notation, axiom, sorry.
-/
import Derived.Test.YtpaedlocijgkaaaChecked
import GoSem.Claim
import GoSem.ClaimJoined
import GoSem.ClaimMapViews
import Derived.JoinedTies
import Derived.KernelRfl
namespace Go.Proofs.Ytpaedlocijgkaaa
/- THE CELL 'sum', in the pinned program and in every row, IS THE sha256 OF THE DUMP (.gsa) THAT YtpaedlocijgkaaaProg.lean LOADS. Nothing in Lean hashes anything: it is a label: what it is worth is what the hold of that sum in a sandbox is worth. -/
noncomputable def Try.pinned : Pinned := { name := "ytpaedlocijgkaaa", sum := "675d7f16b60d481e9c2481ef6ed9d8c60fb4561e329863bb602cfa9ad7830c24", checked := Try.checked }
namespace Rows
def none {H : Type} : Left H := { results := [], args := [] }

/-- 'warderlaw16.EvalCompares': WHATEVER THE INPUT: true; the input reads as it did. -/
def evalComparesSpec : ChangeSpec := { name := "evalCompares", fn := fun _ => fun
  | [d1, d2, d3] => { results := [.lit (.bool true)], args := [d1, d2, d3] }
  | _ => none }
def evalComparesRow : OpenClaim := { program := "ytpaedlocijgkaaa", sum := "675d7f16b60d481e9c2481ef6ed9d8c60fb4561e329863bb602cfa9ad7830c24", func := "warder/warderlaw16.EvalCompares", spec := "evalCompares", unfollowed := true, recurses := true, apart := false }
def EvalComparesSaid : Prop := evalComparesRow.holds Try.pinned (OpenSpec.ofChange evalComparesSpec)

/-- ITS FALSE NEIGHBOUR: 'it returns false'. Refute it at one input. -/
def evalComparesWrong : ChangeSpec := { name := "evalCompares", fn := fun _ => fun
  | [d1, d2, d3] => { results := [.lit (.bool false)], args := [d1, d2, d3] }
  | _ => none }
def EvalComparesWrongFalsely : Prop := evalComparesRow.holds Try.pinned (OpenSpec.ofChange evalComparesWrong)

/-- 'warderlaw16.EvalPuts': WHATEVER THE INPUT: true; the input reads as it did. -/
def evalPutsSpec : ChangeSpec := { name := "evalPuts", fn := fun _ => fun
  | [d1, d2, d3] => { results := [.lit (.bool true)], args := [d1, d2, d3] }
  | _ => none }
def evalPutsRow : OpenClaim := { program := "ytpaedlocijgkaaa", sum := "675d7f16b60d481e9c2481ef6ed9d8c60fb4561e329863bb602cfa9ad7830c24", func := "warder/warderlaw16.EvalPuts", spec := "evalPuts", unfollowed := true, recurses := true, apart := false }
def EvalPutsSaid : Prop := evalPutsRow.holds Try.pinned (OpenSpec.ofChange evalPutsSpec)

/-- ITS FALSE NEIGHBOUR: 'it returns false'. Refute it at one input. -/
def evalPutsWrong : ChangeSpec := { name := "evalPuts", fn := fun _ => fun
  | [d1, d2, d3] => { results := [.lit (.bool false)], args := [d1, d2, d3] }
  | _ => none }
def EvalPutsWrongFalsely : Prop := evalPutsRow.holds Try.pinned (OpenSpec.ofChange evalPutsWrong)

/-- 'warderlaw18.BstepKeeps': WHATEVER THE INPUT: true; the input reads as it did. -/
def bstepKeepsSpec : ChangeSpec := { name := "bstepKeeps", fn := fun _ => fun
  | [d1, d2, d3] => { results := [.lit (.bool true)], args := [d1, d2, d3] }
  | _ => none }
def bstepKeepsRow : OpenClaim := { program := "ytpaedlocijgkaaa", sum := "675d7f16b60d481e9c2481ef6ed9d8c60fb4561e329863bb602cfa9ad7830c24", func := "warder/warderlaw18.BstepKeeps", spec := "bstepKeeps", unfollowed := true, recurses := true, apart := false }
def BstepKeepsSaid : Prop := bstepKeepsRow.holds Try.pinned (OpenSpec.ofChange bstepKeepsSpec)

/-- ITS FALSE NEIGHBOUR: 'it returns false'. Refute it at one input. -/
def bstepKeepsWrong : ChangeSpec := { name := "bstepKeeps", fn := fun _ => fun
  | [d1, d2, d3] => { results := [.lit (.bool false)], args := [d1, d2, d3] }
  | _ => none }
def BstepKeepsWrongFalsely : Prop := bstepKeepsRow.holds Try.pinned (OpenSpec.ofChange bstepKeepsWrong)

/-- 'warderlaw18.BstepOnce': WHATEVER THE INPUT: true; the input reads as it did. -/
def bstepOnceSpec : ChangeSpec := { name := "bstepOnce", fn := fun _ => fun
  | [d1, d2, d3] => { results := [.lit (.bool true)], args := [d1, d2, d3] }
  | _ => none }
def bstepOnceRow : OpenClaim := { program := "ytpaedlocijgkaaa", sum := "675d7f16b60d481e9c2481ef6ed9d8c60fb4561e329863bb602cfa9ad7830c24", func := "warder/warderlaw18.BstepOnce", spec := "bstepOnce", unfollowed := true, recurses := true, apart := false }
def BstepOnceSaid : Prop := bstepOnceRow.holds Try.pinned (OpenSpec.ofChange bstepOnceSpec)

/-- ITS FALSE NEIGHBOUR: 'it returns false'. Refute it at one input. -/
def bstepOnceWrong : ChangeSpec := { name := "bstepOnce", fn := fun _ => fun
  | [d1, d2, d3] => { results := [.lit (.bool false)], args := [d1, d2, d3] }
  | _ => none }
def BstepOnceWrongFalsely : Prop := bstepOnceRow.holds Try.pinned (OpenSpec.ofChange bstepOnceWrong)

/- THE SECOND FORM. 'bulk': how many values and letters a reading holds, each counted each time it is reached (what is shared counts as often as it is met; a slice's spare places count too). A statement '..UptoSaid' is the law's where the arguments, and the package variables that the reading takes, are together of bulk at most 1048576: NARROWER than '..Said'. Prove '..Said' where nothing that the law and all that it calls make is longer than what came in: it says more and counts as full. Else prove '..UptoSaid'. A law counts once. -/
mutual
def uptoBulk {H : Type} : DataW H → Nat
  | .lit (.string bytes) => bytes.length + 1
  | .lit _ => 1
  | .nil => 1
  | .ptr d => uptoBulk d + 1
  | .slice elems spare => uptoBulkAll elems + uptoBulkAll spare + 1
  | .agg parts => uptoBulkAll parts + 1
  | .iface _ d => uptoBulk d + 1
  | .map entries => uptoBulkEntries entries + 1
  | .held _ => 1
def uptoBulkAll {H : Type} : List (DataW H) → Nat
  | [] => 0
  | d :: r => uptoBulk d + uptoBulkAll r
def uptoBulkEntries {H : Type} : List (Lit × DataW H) → Nat
  | [] => 0
  | x :: r => uptoBulkEntry x + uptoBulkEntries r
def uptoBulkEntry {H : Type} : Lit × DataW H → Nat
  | (.string bytes, d) => bytes.length + uptoBulk d + 1
  | (_, d) => uptoBulk d + 1
 end
def uptoSmall : (H : Type) → List (DataW H) → Bool := fun _ ds => decide (uptoBulkAll ds ≤ 1048576)
def OpenSpec.upto (s : _root_.Go.ChangeSpec) : _root_.Go.OpenSpec := { _root_.Go.OpenSpec.ofChange s with cond := some uptoSmall }

/-- 'warderlaw16.EvalCompares', WHERE WHAT IT READS IS OF BULK AT MOST 1048576: true; the input reads as it did. -/
def evalComparesUptoRow : OpenClaim := { program := "ytpaedlocijgkaaa", sum := "675d7f16b60d481e9c2481ef6ed9d8c60fb4561e329863bb602cfa9ad7830c24", func := "warder/warderlaw16.EvalCompares", spec := "evalCompares", unfollowed := true, recurses := true, apart := false, narrowed := true }
def EvalComparesUptoSaid : Prop := evalComparesUptoRow.holds Try.pinned (OpenSpec.upto evalComparesSpec)

/-- 'warderlaw16.EvalPuts', WHERE WHAT IT READS IS OF BULK AT MOST 1048576: true; the input reads as it did. -/
def evalPutsUptoRow : OpenClaim := { program := "ytpaedlocijgkaaa", sum := "675d7f16b60d481e9c2481ef6ed9d8c60fb4561e329863bb602cfa9ad7830c24", func := "warder/warderlaw16.EvalPuts", spec := "evalPuts", unfollowed := true, recurses := true, apart := false, narrowed := true }
def EvalPutsUptoSaid : Prop := evalPutsUptoRow.holds Try.pinned (OpenSpec.upto evalPutsSpec)

/-- 'warderlaw18.BstepKeeps', WHERE WHAT IT READS IS OF BULK AT MOST 1048576: true; the input reads as it did. -/
def bstepKeepsUptoRow : OpenClaim := { program := "ytpaedlocijgkaaa", sum := "675d7f16b60d481e9c2481ef6ed9d8c60fb4561e329863bb602cfa9ad7830c24", func := "warder/warderlaw18.BstepKeeps", spec := "bstepKeeps", unfollowed := true, recurses := true, apart := false, narrowed := true }
def BstepKeepsUptoSaid : Prop := bstepKeepsUptoRow.holds Try.pinned (OpenSpec.upto bstepKeepsSpec)

/-- 'warderlaw18.BstepOnce', WHERE WHAT IT READS IS OF BULK AT MOST 1048576: true; the input reads as it did. -/
def bstepOnceUptoRow : OpenClaim := { program := "ytpaedlocijgkaaa", sum := "675d7f16b60d481e9c2481ef6ed9d8c60fb4561e329863bb602cfa9ad7830c24", func := "warder/warderlaw18.BstepOnce", spec := "bstepOnce", unfollowed := true, recurses := true, apart := false, narrowed := true }
def BstepOnceUptoSaid : Prop := bstepOnceUptoRow.holds Try.pinned (OpenSpec.upto bstepOnceSpec)

end Rows
end Go.Proofs.Ytpaedlocijgkaaa
