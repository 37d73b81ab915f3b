/-
  DERIVED. GIVEN WITH THE SEED: THE CARDS: each row of YtbmfphiecllggaaDoorRows.lean that lists a variable, with what it lists TIED to the program's text (the seventh form; the later family's looks); each row that meets fmt, with fmt's text TOLD by the authors' own Lean function (tested against real Go, not proved from fmt's source: count such statements apart). THE CARD IS WHAT COUNTS. Prove the row's statement (the work); the ties are given (YtbmfphiecllggaaDoorTie.lean); close each card by the builder's one call (the guide's Derived/Test/ToyasCard.lean, 'card_holds'). Laid BY PROGRAM, IN A SANDBOX (cutbox-door.mjs). By AI agents, Wed Nov 11 2026. No macro, syntax, notation, axiom, sorry.
-/
import Derived.Test.YtbmfphiecllggaaDoorRows
import GoSem.ClaimSeven
namespace Go.Proofs.YtbmfphiecllggaaDoor
namespace Rows

/-- THE TIED CARD OF 'blockworkstop.TopServed'. -/
def topServedCard : Claim7 := { stood := { row := topServedRow, standIns := [], harness := (true, "0142e81380ab833cdd0b1d3ff1be0aee862e67f2dcc1be2b06267f938ad4868f"), looks := true }, kinds := [], alts := [], laidByText := true, laidKinds := [.data, .data], laidTests := true, laidLooks := .later }
def TopServedCardSaid : Prop := Claim7.holds Tryd.pinned (.plain (OpenSpec.ofChange topServedSpec)) topServedCard

/-- THE TIED CARD OF 'blockworkslaw12.JobTrue'. -/
def jobTrueCard : Claim7 := { stood := { row := jobTrueRow, standIns := [], harness := (true, "0142e81380ab833cdd0b1d3ff1be0aee862e67f2dcc1be2b06267f938ad4868f"), looks := true }, kinds := [], alts := [], laidByText := true, laidKinds := [.data, .data], laidTests := true, laidLooks := .later }
def JobTrueCardSaid : Prop := Claim7.holds Tryd.pinned (.plain (OpenSpec.ofChange jobTrueSpec)) jobTrueCard

/-- THE TIED CARD OF 'blockworkslaw12.JobCheck'. -/
def jobCheckCard : Claim7 := { stood := { row := jobCheckRow, standIns := [], harness := (true, "0142e81380ab833cdd0b1d3ff1be0aee862e67f2dcc1be2b06267f938ad4868f"), looks := true }, kinds := [], alts := [], laidByText := true, laidKinds := [.data, .data], laidTests := true, laidLooks := .later }
def JobCheckCardSaid : Prop := Claim7.holds Tryd.pinned (.plain (OpenSpec.ofChange jobCheckSpec)) jobCheckCard

/-- THE TIED CARD OF 'blockworkslaw12.JobPlan'. -/
def jobPlanCard : Claim7 := { stood := { row := jobPlanRow, standIns := [], harness := (true, "0142e81380ab833cdd0b1d3ff1be0aee862e67f2dcc1be2b06267f938ad4868f"), looks := true }, kinds := [], alts := [], laidByText := true, laidKinds := [.data, .data], laidTests := true, laidLooks := .later }
def JobPlanCardSaid : Prop := Claim7.holds Tryd.pinned (.plain (OpenSpec.ofChange jobPlanSpec)) jobPlanCard

/-- THE TIED CARD OF 'blockworkslaw12.JobMost'. -/
def jobMostCard : Claim7 := { stood := { row := jobMostRow, standIns := [], harness := (true, "0142e81380ab833cdd0b1d3ff1be0aee862e67f2dcc1be2b06267f938ad4868f"), looks := true }, kinds := [], alts := [], laidByText := true, laidKinds := [.data, .data], laidTests := true, laidLooks := .later }
def JobMostCardSaid : Prop := Claim7.holds Tryd.pinned (.plain (OpenSpec.ofChange jobMostSpec)) jobMostCard

/-- THE TIED CARD OF 'blockworkslaw12.JobTurns'. -/
def jobTurnsCard : Claim7 := { stood := { row := jobTurnsRow, standIns := [], harness := (true, "0142e81380ab833cdd0b1d3ff1be0aee862e67f2dcc1be2b06267f938ad4868f"), looks := true }, kinds := [], alts := [], laidByText := true, laidKinds := [.data, .data], laidTests := true, laidLooks := .later }
def JobTurnsCardSaid : Prop := Claim7.holds Tryd.pinned (.plain (OpenSpec.ofChange jobTurnsSpec)) jobTurnsCard

/-- THE TIED CARD OF 'blockworkslaw12.JobLend'. -/
def jobLendCard : Claim7 := { stood := { row := jobLendRow, standIns := [], harness := (true, "0142e81380ab833cdd0b1d3ff1be0aee862e67f2dcc1be2b06267f938ad4868f"), looks := true }, kinds := [], alts := [], laidByText := true, laidKinds := [.data, .data], laidTests := true, laidLooks := .later }
def JobLendCardSaid : Prop := Claim7.holds Tryd.pinned (.plain (OpenSpec.ofChange jobLendSpec)) jobLendCard

/-- THE TIED CARD OF 'blockworkslaw12.JobMore'. -/
def jobMoreCard : Claim7 := { stood := { row := jobMoreRow, standIns := [], harness := (true, "0142e81380ab833cdd0b1d3ff1be0aee862e67f2dcc1be2b06267f938ad4868f"), looks := true }, kinds := [], alts := [], laidByText := true, laidKinds := [.data, .data], laidTests := true, laidLooks := .later }
def JobMoreCardSaid : Prop := Claim7.holds Tryd.pinned (.plain (OpenSpec.ofChange jobMoreSpec)) jobMoreCard

/-- THE SECOND FORM's CARD OF 'blockworkstop.TopServed'. -/
def topServedUptoCard : Claim7 := { stood := { row := topServedUptoRow, standIns := [], harness := (true, "0142e81380ab833cdd0b1d3ff1be0aee862e67f2dcc1be2b06267f938ad4868f"), looks := true }, kinds := [], alts := [], laidByText := true, laidKinds := [.data, .data], laidTests := true, laidLooks := .later }
def TopServedUptoCardSaid : Prop := Claim7.holds Tryd.pinned (.plain (OpenSpec.upto topServedSpec)) topServedUptoCard

/-- THE SECOND FORM's CARD OF 'blockworkslaw12.JobTrue'. -/
def jobTrueUptoCard : Claim7 := { stood := { row := jobTrueUptoRow, standIns := [], harness := (true, "0142e81380ab833cdd0b1d3ff1be0aee862e67f2dcc1be2b06267f938ad4868f"), looks := true }, kinds := [], alts := [], laidByText := true, laidKinds := [.data, .data], laidTests := true, laidLooks := .later }
def JobTrueUptoCardSaid : Prop := Claim7.holds Tryd.pinned (.plain (OpenSpec.upto jobTrueSpec)) jobTrueUptoCard

/-- THE SECOND FORM's CARD OF 'blockworkslaw12.JobCheck'. -/
def jobCheckUptoCard : Claim7 := { stood := { row := jobCheckUptoRow, standIns := [], harness := (true, "0142e81380ab833cdd0b1d3ff1be0aee862e67f2dcc1be2b06267f938ad4868f"), looks := true }, kinds := [], alts := [], laidByText := true, laidKinds := [.data, .data], laidTests := true, laidLooks := .later }
def JobCheckUptoCardSaid : Prop := Claim7.holds Tryd.pinned (.plain (OpenSpec.upto jobCheckSpec)) jobCheckUptoCard

/-- THE SECOND FORM's CARD OF 'blockworkslaw12.JobPlan'. -/
def jobPlanUptoCard : Claim7 := { stood := { row := jobPlanUptoRow, standIns := [], harness := (true, "0142e81380ab833cdd0b1d3ff1be0aee862e67f2dcc1be2b06267f938ad4868f"), looks := true }, kinds := [], alts := [], laidByText := true, laidKinds := [.data, .data], laidTests := true, laidLooks := .later }
def JobPlanUptoCardSaid : Prop := Claim7.holds Tryd.pinned (.plain (OpenSpec.upto jobPlanSpec)) jobPlanUptoCard

/-- THE SECOND FORM's CARD OF 'blockworkslaw12.JobMost'. -/
def jobMostUptoCard : Claim7 := { stood := { row := jobMostUptoRow, standIns := [], harness := (true, "0142e81380ab833cdd0b1d3ff1be0aee862e67f2dcc1be2b06267f938ad4868f"), looks := true }, kinds := [], alts := [], laidByText := true, laidKinds := [.data, .data], laidTests := true, laidLooks := .later }
def JobMostUptoCardSaid : Prop := Claim7.holds Tryd.pinned (.plain (OpenSpec.upto jobMostSpec)) jobMostUptoCard

/-- THE SECOND FORM's CARD OF 'blockworkslaw12.JobTurns'. -/
def jobTurnsUptoCard : Claim7 := { stood := { row := jobTurnsUptoRow, standIns := [], harness := (true, "0142e81380ab833cdd0b1d3ff1be0aee862e67f2dcc1be2b06267f938ad4868f"), looks := true }, kinds := [], alts := [], laidByText := true, laidKinds := [.data, .data], laidTests := true, laidLooks := .later }
def JobTurnsUptoCardSaid : Prop := Claim7.holds Tryd.pinned (.plain (OpenSpec.upto jobTurnsSpec)) jobTurnsUptoCard

/-- THE SECOND FORM's CARD OF 'blockworkslaw12.JobLend'. -/
def jobLendUptoCard : Claim7 := { stood := { row := jobLendUptoRow, standIns := [], harness := (true, "0142e81380ab833cdd0b1d3ff1be0aee862e67f2dcc1be2b06267f938ad4868f"), looks := true }, kinds := [], alts := [], laidByText := true, laidKinds := [.data, .data], laidTests := true, laidLooks := .later }
def JobLendUptoCardSaid : Prop := Claim7.holds Tryd.pinned (.plain (OpenSpec.upto jobLendSpec)) jobLendUptoCard

/-- THE SECOND FORM's CARD OF 'blockworkslaw12.JobMore'. -/
def jobMoreUptoCard : Claim7 := { stood := { row := jobMoreUptoRow, standIns := [], harness := (true, "0142e81380ab833cdd0b1d3ff1be0aee862e67f2dcc1be2b06267f938ad4868f"), looks := true }, kinds := [], alts := [], laidByText := true, laidKinds := [.data, .data], laidTests := true, laidLooks := .later }
def JobMoreUptoCardSaid : Prop := Claim7.holds Tryd.pinned (.plain (OpenSpec.upto jobMoreSpec)) jobMoreUptoCard
end Rows
end Go.Proofs.YtbmfphiecllggaaDoor
