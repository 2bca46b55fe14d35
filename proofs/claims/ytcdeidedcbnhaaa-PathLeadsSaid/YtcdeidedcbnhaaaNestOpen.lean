/-
  Arguments of layer 10 open.
-/
import Derived.Test.YtcdeidedcbnhaaaNestLaws
set_option linter.unusedVariables false
set_option linter.unusedSimpArgs false
namespace Go.Proofs.Ytcdeidedcbnhaaa
open Go.ChangeShapes Go.WideShapes Go.ChangeAt Go.RowKit

theorem opensInts : Opens Try.prog 22 (sliceR (intR .i64)) := opens_slice Try.underlying22 (by kernel_rfl) (by decide) (opens_int Try.underlying3)
end Go.Proofs.Ytcdeidedcbnhaaa
