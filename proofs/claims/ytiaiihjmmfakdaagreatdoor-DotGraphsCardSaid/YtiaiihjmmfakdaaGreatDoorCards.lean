/-
  DERIVED. GIVEN WITH THE SEED: THE CARDS: each row of YtiaiihjmmfakdaaGreatDoorRows.lean that lists a variable, with what it lists TIED to the program's text (the seventh form; the later family's looks); each row that meets fmt, with fmt's text TOLD by the authors' own Lean function (tested against real Go, not proved from fmt's source: count such statements apart). THE CARD IS WHAT COUNTS. Prove the row's statement (the work); the ties are given (YtiaiihjmmfakdaaGreatDoorTie.lean); close each card by the builder's one call (the guide's Derived/Test/ToyasCard.lean, 'card_holds'). Laid BY PROGRAM, IN A SANDBOX (cutbox-door.mjs). By AI agents, Wed Nov 11 2026. No macro, syntax, notation, axiom, sorry.
-/
import Derived.Test.YtiaiihjmmfakdaaGreatDoorRows
import GoSem.ClaimSeven
namespace Go.Proofs.YtiaiihjmmfakdaaGreatDoor
namespace Rows

/-- THE TIED CARD OF 'warderlaw45.QuotTrue'. -/
def quotTrueCard : Claim7 := { stood := { row := quotTrueRow, standIns := [], harness := (true, "0ed73400f5e1904f27995d6c82f85a03971ae22d892e45a1d53ca3c2887168b5"), looks := false }, kinds := [], alts := [], laidByText := true, laidKinds := [.data, .data, .data], laidTests := true, laidLooks := .later }
def QuotTrueCardSaid : Prop := Claim7.holds Tryz.pinned (.plain (OpenSpec.ofChange quotTrueSpec)) quotTrueCard

/-- THE TIED CARD OF 'warderlaw46.DotGraphs'. -/
def dotGraphsCard : Claim7 := { stood := { row := dotGraphsRow, standIns := [], harness := (true, "0ed73400f5e1904f27995d6c82f85a03971ae22d892e45a1d53ca3c2887168b5"), looks := false }, kinds := [], alts := [], laidByText := true, laidKinds := [.data, .data, .data], laidTests := true, laidLooks := .later }
def DotGraphsCardSaid : Prop := Claim7.holds Tryz.pinned (.plain (OpenSpec.ofChange dotGraphsSpec)) dotGraphsCard

/-- THE SECOND FORM's CARD OF 'warderlaw45.QuotTrue'. -/
def quotTrueUptoCard : Claim7 := { stood := { row := quotTrueUptoRow, standIns := [], harness := (true, "0ed73400f5e1904f27995d6c82f85a03971ae22d892e45a1d53ca3c2887168b5"), looks := false }, kinds := [], alts := [], laidByText := true, laidKinds := [.data, .data, .data], laidTests := true, laidLooks := .later }
def QuotTrueUptoCardSaid : Prop := Claim7.holds Tryz.pinned (.plain (OpenSpec.upto quotTrueSpec)) quotTrueUptoCard

/-- THE SECOND FORM's CARD OF 'warderlaw46.DotGraphs'. -/
def dotGraphsUptoCard : Claim7 := { stood := { row := dotGraphsUptoRow, standIns := [], harness := (true, "0ed73400f5e1904f27995d6c82f85a03971ae22d892e45a1d53ca3c2887168b5"), looks := false }, kinds := [], alts := [], laidByText := true, laidKinds := [.data, .data, .data], laidTests := true, laidLooks := .later }
def DotGraphsUptoCardSaid : Prop := Claim7.holds Tryz.pinned (.plain (OpenSpec.upto dotGraphsSpec)) dotGraphsUptoCard
end Rows
end Go.Proofs.YtiaiihjmmfakdaaGreatDoor
