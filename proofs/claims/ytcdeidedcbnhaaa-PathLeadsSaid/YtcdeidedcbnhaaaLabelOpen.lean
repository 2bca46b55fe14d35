/-
  Arguments of layer 32 open.
-/
import Derived.Test.YtcdeidedcbnhaaaLabelLaws
import Derived.Test.YtcdeidedcbnhaaaNestOpen
set_option linter.unusedVariables false
set_option linter.unusedSimpArgs false
namespace Go.Proofs.Ytcdeidedcbnhaaa
open Go.ChangeShapes Go.WideShapes Go.ChangeAt Go.RowKit

theorem opensBools : Opens Try.prog 32 (sliceR boolR) := opens_slice Try.underlying32 (by kernel_rfl) (by decide) (opens_bool Try.underlying4)
theorem opensRows : Opens Try.prog 37 (sliceR (sliceR (intR .i64))) := opens_slice Try.underlying37 (by kernel_rfl) (by decide) opensInts
theorem slice_len {α : Type} {r : Rep α} {w : World} {S : Nat → Prop} {v : Value} {l : List α} (h : (sliceR r).one w S v l) : l.length ≤ 9223372036854775807 := by
  obtain ⟨A, c, h1, h2, h3⟩ := slice_form h; omega
end Go.Proofs.Ytcdeidedcbnhaaa
