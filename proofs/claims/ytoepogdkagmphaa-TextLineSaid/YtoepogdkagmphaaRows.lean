/-
  No cell of these rows narrows 'for every input' (looked for: loops, veiled, ifaces, maps, wideKeys, modest, calm, conditions, laid).
  DERIVED. THE GIVEN ROWS OF THIS SEAT. 5 by the template 'for every input the law returns true; each argument reads behind the call as it read before'; 0 by the template 'total and deterministic' (their statements: YtoepogdkagmphaaTotals.lean).
  GIVEN WITH THE SEED: the statements are not yours to turn. If you find one false, say at which input.
  Laid BY PROGRAM, IN A SANDBOX (cutbox-rows.mjs): the forced cells as the released guide's own fill.sh prints them over the translation c27b623213e0fe6d… (all of the seat's roots in one cut). By AI agents, Wed Nov 11 2026. No macro, syntax, notation, axiom, sorry.
-/
import Derived.Test.YtoepogdkagmphaaChecked
import GoSem.Claim
import GoSem.ClaimJoined
import GoSem.ClaimMapViews
import Derived.JoinedTies
import Derived.KernelRfl
namespace Go.Proofs.Ytoepogdkagmphaa
/- THE CELL 'sum', in the pinned program and in every row, IS THE sha256 OF THE DUMP (.gsa) THAT YtoepogdkagmphaaProg.lean LOADS. Nothing in Lean hashes anything: it is a label: what it is worth is what the hold of that sum in a sandbox is worth. -/
noncomputable def Try.pinned : Pinned := { name := "ytoepogdkagmphaa", sum := "c27b623213e0fe6db4027d239ab9c70a15c24a2db1feb2ab879d67127b9a6930", checked := Try.checked }
namespace Rows
def none {H : Type} : Left H := { results := [], args := [] }

/-- 'warderlaw01.TextRunes': WHATEVER THE INPUT: true; the input reads as it did. -/
def textRunesSpec : ChangeSpec := { name := "textRunes", fn := fun _ => fun
  | [d] => { results := [.lit (.bool true)], args := [d] }
  | _ => none }
def textRunesRow : OpenClaim := { program := "ytoepogdkagmphaa", sum := "c27b623213e0fe6db4027d239ab9c70a15c24a2db1feb2ab879d67127b9a6930", func := "warder/warderlaw01.TextRunes", spec := "textRunes", apart := false }
def TextRunesSaid : Prop := textRunesRow.holds Try.pinned (OpenSpec.ofChange textRunesSpec)

/-- ITS FALSE NEIGHBOUR: 'it returns false'. Refute it at one input. -/
def textRunesWrong : ChangeSpec := { name := "textRunes", fn := fun _ => fun
  | [d] => { results := [.lit (.bool false)], args := [d] }
  | _ => none }
def TextRunesWrongFalsely : Prop := textRunesRow.holds Try.pinned (OpenSpec.ofChange textRunesWrong)

/-- 'warderlaw01.TextWhole': WHATEVER THE INPUT: true; the input reads as it did. -/
def textWholeSpec : ChangeSpec := { name := "textWhole", fn := fun _ => fun
  | [d] => { results := [.lit (.bool true)], args := [d] }
  | _ => none }
def textWholeRow : OpenClaim := { program := "ytoepogdkagmphaa", sum := "c27b623213e0fe6db4027d239ab9c70a15c24a2db1feb2ab879d67127b9a6930", func := "warder/warderlaw01.TextWhole", spec := "textWhole", apart := false }
def TextWholeSaid : Prop := textWholeRow.holds Try.pinned (OpenSpec.ofChange textWholeSpec)

/-- ITS FALSE NEIGHBOUR: 'it returns false'. Refute it at one input. -/
def textWholeWrong : ChangeSpec := { name := "textWhole", fn := fun _ => fun
  | [d] => { results := [.lit (.bool false)], args := [d] }
  | _ => none }
def TextWholeWrongFalsely : Prop := textWholeRow.holds Try.pinned (OpenSpec.ofChange textWholeWrong)

/-- 'warderlaw01.TextClass': WHATEVER THE INPUT: true; the input reads as it did. -/
def textClassSpec : ChangeSpec := { name := "textClass", fn := fun _ => fun
  | [d] => { results := [.lit (.bool true)], args := [d] }
  | _ => none }
def textClassRow : OpenClaim := { program := "ytoepogdkagmphaa", sum := "c27b623213e0fe6db4027d239ab9c70a15c24a2db1feb2ab879d67127b9a6930", func := "warder/warderlaw01.TextClass", spec := "textClass", apart := false }
def TextClassSaid : Prop := textClassRow.holds Try.pinned (OpenSpec.ofChange textClassSpec)

/-- ITS FALSE NEIGHBOUR: 'it returns false'. Refute it at one input. -/
def textClassWrong : ChangeSpec := { name := "textClass", fn := fun _ => fun
  | [d] => { results := [.lit (.bool false)], args := [d] }
  | _ => none }
def TextClassWrongFalsely : Prop := textClassRow.holds Try.pinned (OpenSpec.ofChange textClassWrong)

/-- 'warderlaw01.TextAt': WHATEVER THE INPUT: true; the input reads as it did. -/
def textAtSpec : ChangeSpec := { name := "textAt", fn := fun _ => fun
  | [d1, d2] => { results := [.lit (.bool true)], args := [d1, d2] }
  | _ => none }
def textAtRow : OpenClaim := { program := "ytoepogdkagmphaa", sum := "c27b623213e0fe6db4027d239ab9c70a15c24a2db1feb2ab879d67127b9a6930", func := "warder/warderlaw01.TextAt", spec := "textAt", apart := false }
def TextAtSaid : Prop := textAtRow.holds Try.pinned (OpenSpec.ofChange textAtSpec)

/-- ITS FALSE NEIGHBOUR: 'it returns false'. Refute it at one input. -/
def textAtWrong : ChangeSpec := { name := "textAt", fn := fun _ => fun
  | [d1, d2] => { results := [.lit (.bool false)], args := [d1, d2] }
  | _ => none }
def TextAtWrongFalsely : Prop := textAtRow.holds Try.pinned (OpenSpec.ofChange textAtWrong)

/-- 'warderlaw01.TextLine': WHATEVER THE INPUT: true; the input reads as it did. -/
def textLineSpec : ChangeSpec := { name := "textLine", fn := fun _ => fun
  | [d1, d2] => { results := [.lit (.bool true)], args := [d1, d2] }
  | _ => none }
def textLineRow : OpenClaim := { program := "ytoepogdkagmphaa", sum := "c27b623213e0fe6db4027d239ab9c70a15c24a2db1feb2ab879d67127b9a6930", func := "warder/warderlaw01.TextLine", spec := "textLine", inPlace := ["internal/bytealg.IndexByteString", "internal/bytealg.IndexString"], named := ["internal/bytealg.MaxLen"], apart := false }
def TextLineSaid : Prop := textLineRow.holds Try.pinned (OpenSpec.ofChange textLineSpec)

/-- ITS FALSE NEIGHBOUR: 'it returns false'. Refute it at one input. -/
def textLineWrong : ChangeSpec := { name := "textLine", fn := fun _ => fun
  | [d1, d2] => { results := [.lit (.bool false)], args := [d1, d2] }
  | _ => none }
def TextLineWrongFalsely : Prop := textLineRow.holds Try.pinned (OpenSpec.ofChange textLineWrong)

/- THE SECOND FORM. 'bulk': how many values and letters a reading holds, each counted each time it is reached (what is shared counts as often as it is met; a slice's spare places count too). A statement '..UptoSaid' is the law's where the arguments, and the package variables that the reading takes, are together of bulk at most 1048576: NARROWER than '..Said'. Prove '..Said' where nothing that the law and all that it calls make is longer than what came in: it says more and counts as full. Else prove '..UptoSaid'. A law counts once. -/
mutual
def uptoBulk {H : Type} : DataW H → Nat
  | .lit (.string bytes) => bytes.length + 1
  | .lit _ => 1
  | .nil => 1
  | .ptr d => uptoBulk d + 1
  | .slice elems spare => uptoBulkAll elems + uptoBulkAll spare + 1
  | .agg parts => uptoBulkAll parts + 1
  | .iface _ d => uptoBulk d + 1
  | .map entries => uptoBulkEntries entries + 1
  | .held _ => 1
def uptoBulkAll {H : Type} : List (DataW H) → Nat
  | [] => 0
  | d :: r => uptoBulk d + uptoBulkAll r
def uptoBulkEntries {H : Type} : List (Lit × DataW H) → Nat
  | [] => 0
  | x :: r => uptoBulkEntry x + uptoBulkEntries r
def uptoBulkEntry {H : Type} : Lit × DataW H → Nat
  | (.string bytes, d) => bytes.length + uptoBulk d + 1
  | (_, d) => uptoBulk d + 1
 end
def uptoSmall : (H : Type) → List (DataW H) → Bool := fun _ ds => decide (uptoBulkAll ds ≤ 1048576)
def OpenSpec.upto (s : _root_.Go.ChangeSpec) : _root_.Go.OpenSpec := { _root_.Go.OpenSpec.ofChange s with cond := some uptoSmall }

/-- 'warderlaw01.TextRunes', WHERE WHAT IT READS IS OF BULK AT MOST 1048576: true; the input reads as it did. -/
def textRunesUptoRow : OpenClaim := { program := "ytoepogdkagmphaa", sum := "c27b623213e0fe6db4027d239ab9c70a15c24a2db1feb2ab879d67127b9a6930", func := "warder/warderlaw01.TextRunes", spec := "textRunes", apart := false, narrowed := true }
def TextRunesUptoSaid : Prop := textRunesUptoRow.holds Try.pinned (OpenSpec.upto textRunesSpec)

/-- 'warderlaw01.TextWhole', WHERE WHAT IT READS IS OF BULK AT MOST 1048576: true; the input reads as it did. -/
def textWholeUptoRow : OpenClaim := { program := "ytoepogdkagmphaa", sum := "c27b623213e0fe6db4027d239ab9c70a15c24a2db1feb2ab879d67127b9a6930", func := "warder/warderlaw01.TextWhole", spec := "textWhole", apart := false, narrowed := true }
def TextWholeUptoSaid : Prop := textWholeUptoRow.holds Try.pinned (OpenSpec.upto textWholeSpec)

/-- 'warderlaw01.TextClass', WHERE WHAT IT READS IS OF BULK AT MOST 1048576: true; the input reads as it did. -/
def textClassUptoRow : OpenClaim := { program := "ytoepogdkagmphaa", sum := "c27b623213e0fe6db4027d239ab9c70a15c24a2db1feb2ab879d67127b9a6930", func := "warder/warderlaw01.TextClass", spec := "textClass", apart := false, narrowed := true }
def TextClassUptoSaid : Prop := textClassUptoRow.holds Try.pinned (OpenSpec.upto textClassSpec)

/-- 'warderlaw01.TextAt', WHERE WHAT IT READS IS OF BULK AT MOST 1048576: true; the input reads as it did. -/
def textAtUptoRow : OpenClaim := { program := "ytoepogdkagmphaa", sum := "c27b623213e0fe6db4027d239ab9c70a15c24a2db1feb2ab879d67127b9a6930", func := "warder/warderlaw01.TextAt", spec := "textAt", apart := false, narrowed := true }
def TextAtUptoSaid : Prop := textAtUptoRow.holds Try.pinned (OpenSpec.upto textAtSpec)

/-- 'warderlaw01.TextLine', WHERE WHAT IT READS IS OF BULK AT MOST 1048576: true; the input reads as it did. -/
def textLineUptoRow : OpenClaim := { program := "ytoepogdkagmphaa", sum := "c27b623213e0fe6db4027d239ab9c70a15c24a2db1feb2ab879d67127b9a6930", func := "warder/warderlaw01.TextLine", spec := "textLine", inPlace := ["internal/bytealg.IndexByteString", "internal/bytealg.IndexString"], named := ["internal/bytealg.MaxLen"], apart := false, narrowed := true }
def TextLineUptoSaid : Prop := textLineUptoRow.holds Try.pinned (OpenSpec.upto textLineSpec)

end Rows
end Go.Proofs.Ytoepogdkagmphaa
