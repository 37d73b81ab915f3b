/-
  DERIVED. GIVEN WITH THE SEED: THE CARDS: each row of YtbmfphiecllggaaGreatDoorRows.lean that lists a variable, with what it lists TIED to the program's text (the seventh form; the later family's looks); each row that meets fmt, with fmt's text TOLD by the authors' own Lean function (tested against real Go, not proved from fmt's source: count such statements apart). THE CARD IS WHAT COUNTS. Prove the row's statement (the work); the ties are given (YtbmfphiecllggaaGreatDoorTie.lean); close each card by the builder's one call (the guide's Derived/Test/ToyasCard.lean, 'card_holds'). Laid BY PROGRAM, IN A SANDBOX (cutbox-door.mjs). By AI agents, Wed Nov 11 2026. No macro, syntax, notation, axiom, sorry.
-/
import Derived.Test.YtbmfphiecllggaaGreatDoorRows
import GoSem.ClaimSeven
namespace Go.Proofs.YtbmfphiecllggaaGreatDoor
namespace Rows

/-- THE TIED CARD OF 'blockworkslaw12.JobReads'. -/
def jobReadsCard : Claim7 := { stood := { row := jobReadsRow, standIns := [], harness := (true, "b10382ac8671ca2007e8d9f3e1d106936a675b56188049218c01893cb5a1cd3f"), looks := true }, kinds := [], alts := [], laidByText := true, laidKinds := [.data, .data], laidTests := true, laidLooks := .later }
def JobReadsCardSaid : Prop := Claim7.holds Tryz.pinned (.plain (OpenSpec.ofChange jobReadsSpec)) jobReadsCard

/-- THE TIED CARD OF 'blockworkslaw12.JobLooks'. -/
def jobLooksCard : Claim7 := { stood := { row := jobLooksRow, standIns := [], harness := (true, "b10382ac8671ca2007e8d9f3e1d106936a675b56188049218c01893cb5a1cd3f"), looks := true }, kinds := [], alts := [], laidByText := true, laidKinds := [.data, .data], laidTests := true, laidLooks := .later }
def JobLooksCardSaid : Prop := Claim7.holds Tryz.pinned (.plain (OpenSpec.ofChange jobLooksSpec)) jobLooksCard

/-- THE TIED CARD OF 'blockworkslaw12.JobRounds'. -/
def jobRoundsCard : Claim7 := { stood := { row := jobRoundsRow, standIns := [], harness := (true, "b10382ac8671ca2007e8d9f3e1d106936a675b56188049218c01893cb5a1cd3f"), looks := true }, kinds := [], alts := [], laidByText := true, laidKinds := [.data, .data], laidTests := true, laidLooks := .later }
def JobRoundsCardSaid : Prop := Claim7.holds Tryz.pinned (.plain (OpenSpec.ofChange jobRoundsSpec)) jobRoundsCard

/-- THE SECOND FORM's CARD OF 'blockworkslaw12.JobReads'. -/
def jobReadsUptoCard : Claim7 := { stood := { row := jobReadsUptoRow, standIns := [], harness := (true, "b10382ac8671ca2007e8d9f3e1d106936a675b56188049218c01893cb5a1cd3f"), looks := true }, kinds := [], alts := [], laidByText := true, laidKinds := [.data, .data], laidTests := true, laidLooks := .later }
def JobReadsUptoCardSaid : Prop := Claim7.holds Tryz.pinned (.plain (OpenSpec.upto jobReadsSpec)) jobReadsUptoCard

/-- THE SECOND FORM's CARD OF 'blockworkslaw12.JobLooks'. -/
def jobLooksUptoCard : Claim7 := { stood := { row := jobLooksUptoRow, standIns := [], harness := (true, "b10382ac8671ca2007e8d9f3e1d106936a675b56188049218c01893cb5a1cd3f"), looks := true }, kinds := [], alts := [], laidByText := true, laidKinds := [.data, .data], laidTests := true, laidLooks := .later }
def JobLooksUptoCardSaid : Prop := Claim7.holds Tryz.pinned (.plain (OpenSpec.upto jobLooksSpec)) jobLooksUptoCard

/-- THE SECOND FORM's CARD OF 'blockworkslaw12.JobRounds'. -/
def jobRoundsUptoCard : Claim7 := { stood := { row := jobRoundsUptoRow, standIns := [], harness := (true, "b10382ac8671ca2007e8d9f3e1d106936a675b56188049218c01893cb5a1cd3f"), looks := true }, kinds := [], alts := [], laidByText := true, laidKinds := [.data, .data], laidTests := true, laidLooks := .later }
def JobRoundsUptoCardSaid : Prop := Claim7.holds Tryz.pinned (.plain (OpenSpec.upto jobRoundsSpec)) jobRoundsUptoCard
end Rows
end Go.Proofs.YtbmfphiecllggaaGreatDoor
