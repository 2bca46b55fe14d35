/-
  DERIVED. GIVEN WITH THE SEED: THE CARDS: each row of YtkfampdcigiokaaDoorRows.lean that lists a variable, with what it lists TIED to the program's text (the seventh form; the later family's looks); each row that meets fmt, with fmt's text TOLD by the authors' own Lean function (tested against real Go, not proved from fmt's source: count such statements apart). THE CARD IS WHAT COUNTS. Prove the row's statement (the work); the ties are given (YtkfampdcigiokaaDoorTie.lean); close each card by the builder's one call (the guide's Derived/Test/ToyasCard.lean, 'card_holds'). Laid BY PROGRAM, IN A SANDBOX (cutbox-door.mjs). By AI agents, Wed Nov 11 2026. No macro, syntax, notation, axiom, sorry.
-/
import Derived.Test.YtkfampdcigiokaaDoorRows
import GoSem.ClaimSeven
namespace Go.Proofs.YtkfampdcigiokaaDoor
namespace Rows

/-- THE TIED CARD OF 'warderlaw03.NumReads'. -/
def numReadsCard : Claim7 := { stood := { row := numReadsRow, standIns := [], harness := (true, "804a301766bb3a8338f3d249656dc7ea456df76875cf51c3e241acae555b8c91"), looks := false }, kinds := [], alts := [], laidByText := true, laidKinds := [.data, .data, .data], laidTests := true, laidLooks := .later }
def NumReadsCardSaid : Prop := Claim7.holds Tryd.pinned (.plain (OpenSpec.ofChange numReadsSpec)) numReadsCard

/-- THE TIED CARD OF 'warderlaw03.NumPrints'. -/
def numPrintsCard : Claim7 := { stood := { row := numPrintsRow, standIns := [], harness := (true, "804a301766bb3a8338f3d249656dc7ea456df76875cf51c3e241acae555b8c91"), looks := false }, kinds := [], alts := [], laidByText := true, laidKinds := [.data, .data, .data], laidTests := true, laidLooks := .later }
def NumPrintsCardSaid : Prop := Claim7.holds Tryd.pinned (.plain (OpenSpec.ofChange numPrintsSpec)) numPrintsCard

/-- THE TIED CARD OF 'warderlaw03.NumGaps'. -/
def numGapsCard : Claim7 := { stood := { row := numGapsRow, standIns := [], harness := (true, "804a301766bb3a8338f3d249656dc7ea456df76875cf51c3e241acae555b8c91"), looks := false }, kinds := [], alts := [], laidByText := true, laidKinds := [.data, .data, .data], laidTests := true, laidLooks := .later }
def NumGapsCardSaid : Prop := Claim7.holds Tryd.pinned (.plain (OpenSpec.ofChange numGapsSpec)) numGapsCard

/-- THE TIED CARD OF 'warderlaw03.NumAdds'. -/
def numAddsCard : Claim7 := { stood := { row := numAddsRow, standIns := [], harness := (true, "804a301766bb3a8338f3d249656dc7ea456df76875cf51c3e241acae555b8c91"), looks := false }, kinds := [], alts := [], laidByText := true, laidKinds := [.data, .data, .data], laidTests := true, laidLooks := .later }
def NumAddsCardSaid : Prop := Claim7.holds Tryd.pinned (.plain (OpenSpec.ofChange numAddsSpec)) numAddsCard

/-- THE TIED CARD OF 'warderlaw03.NumSorts'. -/
def numSortsCard : Claim7 := { stood := { row := numSortsRow, standIns := [], harness := (true, "804a301766bb3a8338f3d249656dc7ea456df76875cf51c3e241acae555b8c91"), looks := false }, kinds := [], alts := [], laidByText := true, laidKinds := [.data, .data, .data], laidTests := true, laidLooks := .later }
def NumSortsCardSaid : Prop := Claim7.holds Tryd.pinned (.plain (OpenSpec.ofChange numSortsSpec)) numSortsCard

/-- THE SECOND FORM's CARD OF 'warderlaw03.NumReads'. -/
def numReadsUptoCard : Claim7 := { stood := { row := numReadsUptoRow, standIns := [], harness := (true, "804a301766bb3a8338f3d249656dc7ea456df76875cf51c3e241acae555b8c91"), looks := false }, kinds := [], alts := [], laidByText := true, laidKinds := [.data, .data, .data], laidTests := true, laidLooks := .later }
def NumReadsUptoCardSaid : Prop := Claim7.holds Tryd.pinned (.plain (OpenSpec.upto numReadsSpec)) numReadsUptoCard

/-- THE SECOND FORM's CARD OF 'warderlaw03.NumPrints'. -/
def numPrintsUptoCard : Claim7 := { stood := { row := numPrintsUptoRow, standIns := [], harness := (true, "804a301766bb3a8338f3d249656dc7ea456df76875cf51c3e241acae555b8c91"), looks := false }, kinds := [], alts := [], laidByText := true, laidKinds := [.data, .data, .data], laidTests := true, laidLooks := .later }
def NumPrintsUptoCardSaid : Prop := Claim7.holds Tryd.pinned (.plain (OpenSpec.upto numPrintsSpec)) numPrintsUptoCard

/-- THE SECOND FORM's CARD OF 'warderlaw03.NumGaps'. -/
def numGapsUptoCard : Claim7 := { stood := { row := numGapsUptoRow, standIns := [], harness := (true, "804a301766bb3a8338f3d249656dc7ea456df76875cf51c3e241acae555b8c91"), looks := false }, kinds := [], alts := [], laidByText := true, laidKinds := [.data, .data, .data], laidTests := true, laidLooks := .later }
def NumGapsUptoCardSaid : Prop := Claim7.holds Tryd.pinned (.plain (OpenSpec.upto numGapsSpec)) numGapsUptoCard

/-- THE SECOND FORM's CARD OF 'warderlaw03.NumAdds'. -/
def numAddsUptoCard : Claim7 := { stood := { row := numAddsUptoRow, standIns := [], harness := (true, "804a301766bb3a8338f3d249656dc7ea456df76875cf51c3e241acae555b8c91"), looks := false }, kinds := [], alts := [], laidByText := true, laidKinds := [.data, .data, .data], laidTests := true, laidLooks := .later }
def NumAddsUptoCardSaid : Prop := Claim7.holds Tryd.pinned (.plain (OpenSpec.upto numAddsSpec)) numAddsUptoCard

/-- THE SECOND FORM's CARD OF 'warderlaw03.NumSorts'. -/
def numSortsUptoCard : Claim7 := { stood := { row := numSortsUptoRow, standIns := [], harness := (true, "804a301766bb3a8338f3d249656dc7ea456df76875cf51c3e241acae555b8c91"), looks := false }, kinds := [], alts := [], laidByText := true, laidKinds := [.data, .data, .data], laidTests := true, laidLooks := .later }
def NumSortsUptoCardSaid : Prop := Claim7.holds Tryd.pinned (.plain (OpenSpec.upto numSortsSpec)) numSortsUptoCard
end Rows
end Go.Proofs.YtkfampdcigiokaaDoor
