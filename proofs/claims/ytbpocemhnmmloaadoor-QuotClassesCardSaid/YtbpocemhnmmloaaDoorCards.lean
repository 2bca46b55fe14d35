/-
  DERIVED. GIVEN WITH THE SEED: THE CARDS: each row of YtbpocemhnmmloaaDoorRows.lean that lists a variable, with what it lists TIED to the program's text (the seventh form; the later family's looks); each row that meets fmt, with fmt's text TOLD by the authors' own Lean function (tested against real Go, not proved from fmt's source: count such statements apart). THE CARD IS WHAT COUNTS. Prove the row's statement (the work); the ties are given (YtbpocemhnmmloaaDoorTie.lean); close each card by the builder's one call (the guide's Derived/Test/ToyasCard.lean, 'card_holds'). Laid BY PROGRAM, IN A SANDBOX (cutbox-door.mjs). By AI agents, Wed Nov 11 2026. No macro, syntax, notation, axiom, sorry.
-/
import Derived.Test.YtbpocemhnmmloaaDoorRows
import GoSem.ClaimSeven
namespace Go.Proofs.YtbpocemhnmmloaaDoor
namespace Rows

/-- THE TIED CARD OF 'warderlaw45.QuotClasses'. -/
def quotClassesCard : Claim7 := { stood := { row := quotClassesRow, standIns := [], harness := (true, "fd0b72ced6781f137c84de0d8321da4aee72d2032793da0d886760a9e82c579d"), looks := false }, kinds := [], alts := [], laidByText := true, laidKinds := [.data, .data, .data], laidTests := true, laidLooks := .later }
def QuotClassesCardSaid : Prop := Claim7.holds Tryd.pinned (.plain (OpenSpec.ofChange quotClassesSpec)) quotClassesCard

/-- THE TIED CARD OF 'warderlaw45.QuotCoarse'. -/
def quotCoarseCard : Claim7 := { stood := { row := quotCoarseRow, standIns := [], harness := (true, "fd0b72ced6781f137c84de0d8321da4aee72d2032793da0d886760a9e82c579d"), looks := false }, kinds := [], alts := [], laidByText := true, laidKinds := [.data, .data, .data], laidTests := true, laidLooks := .later }
def QuotCoarseCardSaid : Prop := Claim7.holds Tryd.pinned (.plain (OpenSpec.ofChange quotCoarseSpec)) quotCoarseCard

/-- THE SECOND FORM's CARD OF 'warderlaw45.QuotClasses'. -/
def quotClassesUptoCard : Claim7 := { stood := { row := quotClassesUptoRow, standIns := [], harness := (true, "fd0b72ced6781f137c84de0d8321da4aee72d2032793da0d886760a9e82c579d"), looks := false }, kinds := [], alts := [], laidByText := true, laidKinds := [.data, .data, .data], laidTests := true, laidLooks := .later }
def QuotClassesUptoCardSaid : Prop := Claim7.holds Tryd.pinned (.plain (OpenSpec.upto quotClassesSpec)) quotClassesUptoCard

/-- THE SECOND FORM's CARD OF 'warderlaw45.QuotCoarse'. -/
def quotCoarseUptoCard : Claim7 := { stood := { row := quotCoarseUptoRow, standIns := [], harness := (true, "fd0b72ced6781f137c84de0d8321da4aee72d2032793da0d886760a9e82c579d"), looks := false }, kinds := [], alts := [], laidByText := true, laidKinds := [.data, .data, .data], laidTests := true, laidLooks := .later }
def QuotCoarseUptoCardSaid : Prop := Claim7.holds Tryd.pinned (.plain (OpenSpec.upto quotCoarseSpec)) quotCoarseUptoCard
end Rows
end Go.Proofs.YtbpocemhnmmloaaDoor
