/-
  DERIVED. GIVEN WITH THE SEED: THE CARDS: each row of YtodbhccfajgekaaDoorRows.lean that lists a variable, with what it lists TIED to the program's text (the seventh form; the later family's looks); each row that meets fmt, with fmt's text TOLD by the authors' own Lean function (tested against real Go, not proved from fmt's source: count such statements apart). THE CARD IS WHAT COUNTS. Prove the row's statement (the work); the ties are given (YtodbhccfajgekaaDoorTie.lean); close each card by the builder's one call (the guide's Derived/Test/ToyasCard.lean, 'card_holds'). Laid BY PROGRAM, IN A SANDBOX (cutbox-door.mjs). By AI agents, Wed Nov 11 2026. No macro, syntax, notation, axiom, sorry.
-/
import Derived.Test.YtodbhccfajgekaaDoorRows
import GoSem.ClaimSeven
namespace Go.Proofs.YtodbhccfajgekaaDoor
namespace Rows

/-- THE TIED CARD OF 'warderlaw15.StateLeft'. -/
def stateLeftCard : Claim7 := { stood := { row := stateLeftRow, standIns := [], harness := (true, "24e862ccdaed024d8f1464096cf45e504008c6a606a3c0275461784573e14ba0"), looks := false }, kinds := [], alts := [], laidByText := true, laidKinds := [.data, .data, .data], laidTests := true, laidLooks := .later }
def StateLeftCardSaid : Prop := Claim7.holds Tryd.pinned (.plain (OpenSpec.ofChange stateLeftSpec)) stateLeftCard

/-- THE TIED CARD OF 'warderlaw15.StateApart'. -/
def stateApartCard : Claim7 := { stood := { row := stateApartRow, standIns := [], harness := (true, "24e862ccdaed024d8f1464096cf45e504008c6a606a3c0275461784573e14ba0"), looks := false }, kinds := [], alts := [], laidByText := true, laidKinds := [.data, .data, .data], laidTests := true, laidLooks := .later }
def StateApartCardSaid : Prop := Claim7.holds Tryd.pinned (.plain (OpenSpec.ofChange stateApartSpec)) stateApartCard

/-- THE TIED CARD OF 'warderlaw15.StateReads'. -/
def stateReadsCard : Claim7 := { stood := { row := stateReadsRow, standIns := [], harness := (true, "24e862ccdaed024d8f1464096cf45e504008c6a606a3c0275461784573e14ba0"), looks := false }, kinds := [], alts := [], laidByText := true, laidKinds := [.data, .data, .data, .data, .pinned], laidTests := true, laidLooks := .later }
def StateReadsCardSaid : Prop := Claim7.holds Tryd.pinned (.plain (OpenSpec.ofChange stateReadsSpec)) stateReadsCard

/-- THE TIED CARD OF 'warderlaw15.StateTexts'. -/
def stateTextsCard : Claim7 := { stood := { row := stateTextsRow, standIns := [], harness := (true, "24e862ccdaed024d8f1464096cf45e504008c6a606a3c0275461784573e14ba0"), looks := false }, kinds := [], alts := [], laidByText := true, laidKinds := [.data, .data, .data, .data, .pinned], laidTests := true, laidLooks := .later }
def StateTextsCardSaid : Prop := Claim7.holds Tryd.pinned (.plain (OpenSpec.ofChange stateTextsSpec)) stateTextsCard

/-- THE TIED CARD OF 'warderlaw22.ZoneTexts'. -/
def zoneTextsCard : Claim7 := { stood := { row := zoneTextsRow, standIns := [], harness := (true, "24e862ccdaed024d8f1464096cf45e504008c6a606a3c0275461784573e14ba0"), looks := false }, kinds := [], alts := [], laidByText := true, laidKinds := [.data, .data, .data], laidTests := true, laidLooks := .later }
def ZoneTextsCardSaid : Prop := Claim7.holds Tryd.pinned (.plain (OpenSpec.ofChange zoneTextsSpec)) zoneTextsCard

/-- THE SECOND FORM's CARD OF 'warderlaw15.StateLeft'. -/
def stateLeftUptoCard : Claim7 := { stood := { row := stateLeftUptoRow, standIns := [], harness := (true, "24e862ccdaed024d8f1464096cf45e504008c6a606a3c0275461784573e14ba0"), looks := false }, kinds := [], alts := [], laidByText := true, laidKinds := [.data, .data, .data], laidTests := true, laidLooks := .later }
def StateLeftUptoCardSaid : Prop := Claim7.holds Tryd.pinned (.plain (OpenSpec.upto stateLeftSpec)) stateLeftUptoCard

/-- THE SECOND FORM's CARD OF 'warderlaw15.StateApart'. -/
def stateApartUptoCard : Claim7 := { stood := { row := stateApartUptoRow, standIns := [], harness := (true, "24e862ccdaed024d8f1464096cf45e504008c6a606a3c0275461784573e14ba0"), looks := false }, kinds := [], alts := [], laidByText := true, laidKinds := [.data, .data, .data], laidTests := true, laidLooks := .later }
def StateApartUptoCardSaid : Prop := Claim7.holds Tryd.pinned (.plain (OpenSpec.upto stateApartSpec)) stateApartUptoCard

/-- THE SECOND FORM's CARD OF 'warderlaw15.StateReads'. -/
def stateReadsUptoCard : Claim7 := { stood := { row := stateReadsUptoRow, standIns := [], harness := (true, "24e862ccdaed024d8f1464096cf45e504008c6a606a3c0275461784573e14ba0"), looks := false }, kinds := [], alts := [], laidByText := true, laidKinds := [.data, .data, .data, .data, .pinned], laidTests := true, laidLooks := .later }
def StateReadsUptoCardSaid : Prop := Claim7.holds Tryd.pinned (.plain (OpenSpec.upto stateReadsSpec)) stateReadsUptoCard

/-- THE SECOND FORM's CARD OF 'warderlaw15.StateTexts'. -/
def stateTextsUptoCard : Claim7 := { stood := { row := stateTextsUptoRow, standIns := [], harness := (true, "24e862ccdaed024d8f1464096cf45e504008c6a606a3c0275461784573e14ba0"), looks := false }, kinds := [], alts := [], laidByText := true, laidKinds := [.data, .data, .data, .data, .pinned], laidTests := true, laidLooks := .later }
def StateTextsUptoCardSaid : Prop := Claim7.holds Tryd.pinned (.plain (OpenSpec.upto stateTextsSpec)) stateTextsUptoCard

/-- THE SECOND FORM's CARD OF 'warderlaw22.ZoneTexts'. -/
def zoneTextsUptoCard : Claim7 := { stood := { row := zoneTextsUptoRow, standIns := [], harness := (true, "24e862ccdaed024d8f1464096cf45e504008c6a606a3c0275461784573e14ba0"), looks := false }, kinds := [], alts := [], laidByText := true, laidKinds := [.data, .data, .data], laidTests := true, laidLooks := .later }
def ZoneTextsUptoCardSaid : Prop := Claim7.holds Tryd.pinned (.plain (OpenSpec.upto zoneTextsSpec)) zoneTextsUptoCard
end Rows
end Go.Proofs.YtodbhccfajgekaaDoor
