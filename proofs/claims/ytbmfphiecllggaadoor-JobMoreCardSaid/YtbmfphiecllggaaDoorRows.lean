/-
  NARROWER THAN 'FOR EVERY INPUT', by the rows' own cells (each row's printed sentence says how): TopServed: laid · JobTrue: laid · JobCheck: laid · JobPlan: laid · JobMost: laid · JobTurns: laid · JobLend: laid · JobMore: laid.
  DERIVED. THE GIVEN ROWS OF THIS SEAT. 8 by the template 'for every input the law returns true; each argument reads behind the call as it read before'; 0 by the template 'total and deterministic' (their statements: YtbmfphiecllggaaDoorTotals.lean).
  GIVEN WITH THE SEED: the statements are not yours to turn. If you find one false, say at which input.
  Laid BY PROGRAM, IN A SANDBOX (cutbox-rows.mjs): the forced cells as the released guide's own fill.sh prints them over the translation 6dd45a6f460e98af… (all of the seat's roots in one cut). By AI agents, Wed Nov 11 2026. No macro, syntax, notation, axiom, sorry.
-/
import Derived.Test.YtbmfphiecllggaaDoorChecked
import GoSem.Claim
import GoSem.ClaimJoined
import GoSem.ClaimMapViews
import Derived.JoinedTies
import Derived.KernelRfl
namespace Go.Proofs.YtbmfphiecllggaaDoor
/- THE CELL 'sum', in the pinned program and in every row, IS THE sha256 OF THE DUMP (.gsa) THAT YtbmfphiecllggaaDoorProg.lean LOADS. Nothing in Lean hashes anything: it is a label: what it is worth is what the hold of that sum in a sandbox is worth. -/
noncomputable def Tryd.pinned : Pinned := { name := "ytbmfphiecllggaadoor", sum := "6dd45a6f460e98afc6d224aa354bc43bd9e239ebbdc684b33ffb3cc3d3f8312f", checked := Tryd.checked }
namespace Rows
def none {H : Type} : Left H := { results := [], args := [] }

/- WHAT THE LISTED PACKAGE-LEVEL VARIABLES READ AS WHEN THE CALL BEGINS. Each datum BY PROGRAM (the guide's laid-datum.mjs) off the statement by which the dump's own 'gosem.cut.vars' lays the variable. In a bare row this is a premise. The card (YtbmfphiecllggaaDoorCards.lean) ties it to the program's text. -/
def laid_math_bits_deBruijn32tab {H : Type} : DataW H := .agg [.lit (.int .u8 0), .lit (.int .u8 1), .lit (.int .u8 28), .lit (.int .u8 2), .lit (.int .u8 29), .lit (.int .u8 14), .lit (.int .u8 24), .lit (.int .u8 3), .lit (.int .u8 30), .lit (.int .u8 22), .lit (.int .u8 20), .lit (.int .u8 15), .lit (.int .u8 25), .lit (.int .u8 17), .lit (.int .u8 4), .lit (.int .u8 8), .lit (.int .u8 31), .lit (.int .u8 27), .lit (.int .u8 13), .lit (.int .u8 23), .lit (.int .u8 21), .lit (.int .u8 19), .lit (.int .u8 16), .lit (.int .u8 7), .lit (.int .u8 26), .lit (.int .u8 12), .lit (.int .u8 18), .lit (.int .u8 6), .lit (.int .u8 11), .lit (.int .u8 5), .lit (.int .u8 10), .lit (.int .u8 9)]
def laid_math_bits_deBruijn64tab {H : Type} : DataW H := .agg [.lit (.int .u8 0), .lit (.int .u8 1), .lit (.int .u8 56), .lit (.int .u8 2), .lit (.int .u8 57), .lit (.int .u8 49), .lit (.int .u8 28), .lit (.int .u8 3), .lit (.int .u8 61), .lit (.int .u8 58), .lit (.int .u8 42), .lit (.int .u8 50), .lit (.int .u8 38), .lit (.int .u8 29), .lit (.int .u8 17), .lit (.int .u8 4), .lit (.int .u8 62), .lit (.int .u8 47), .lit (.int .u8 59), .lit (.int .u8 36), .lit (.int .u8 45), .lit (.int .u8 43), .lit (.int .u8 51), .lit (.int .u8 22), .lit (.int .u8 53), .lit (.int .u8 39), .lit (.int .u8 33), .lit (.int .u8 30), .lit (.int .u8 24), .lit (.int .u8 18), .lit (.int .u8 12), .lit (.int .u8 5), .lit (.int .u8 63), .lit (.int .u8 55), .lit (.int .u8 48), .lit (.int .u8 27), .lit (.int .u8 60), .lit (.int .u8 41), .lit (.int .u8 37), .lit (.int .u8 16), .lit (.int .u8 46), .lit (.int .u8 35), .lit (.int .u8 44), .lit (.int .u8 21), .lit (.int .u8 52), .lit (.int .u8 32), .lit (.int .u8 23), .lit (.int .u8 11), .lit (.int .u8 54), .lit (.int .u8 26), .lit (.int .u8 40), .lit (.int .u8 15), .lit (.int .u8 34), .lit (.int .u8 20), .lit (.int .u8 31), .lit (.int .u8 10), .lit (.int .u8 25), .lit (.int .u8 14), .lit (.int .u8 19), .lit (.int .u8 9), .lit (.int .u8 13), .lit (.int .u8 8), .lit (.int .u8 7), .lit (.int .u8 6)]

/-- 'blockworkstop.TopServed': WHATEVER THE INPUT: true; the input reads as it did. -/
def topServedSpec : ChangeSpec := { name := "topServed", fn := fun _ => fun
  | [d1, d2, d3] => { results := [.lit (.bool true)], args := [d1, d2, d3] }
  | _ => none }
def topServedRow : OpenClaim := { program := "ytbmfphiecllggaadoor", sum := "6dd45a6f460e98afc6d224aa354bc43bd9e239ebbdc684b33ffb3cc3d3f8312f", func := "blockworks/blockworkstop.TopServed", spec := "topServed", unfollowed := true, recurses := true, named := ["math/bits.deBruijn32tab", "math/bits.deBruijn64tab"], plainKeys := false, apart := false, laid := [("math/bits.deBruijn32tab", laid_math_bits_deBruijn32tab), ("math/bits.deBruijn64tab", laid_math_bits_deBruijn64tab)] }
def TopServedSaid : Prop := topServedRow.holds Tryd.pinned (OpenSpec.ofChange topServedSpec)

/-- ITS FALSE NEIGHBOUR: 'it returns false'. Refute it at one input. -/
def topServedWrong : ChangeSpec := { name := "topServed", fn := fun _ => fun
  | [d1, d2, d3] => { results := [.lit (.bool false)], args := [d1, d2, d3] }
  | _ => none }
def TopServedWrongFalsely : Prop := topServedRow.holds Tryd.pinned (OpenSpec.ofChange topServedWrong)

/-- 'blockworkslaw12.JobTrue': WHATEVER THE INPUT: true; the input reads as it did. -/
def jobTrueSpec : ChangeSpec := { name := "jobTrue", fn := fun _ => fun
  | [d1, d2] => { results := [.lit (.bool true)], args := [d1, d2] }
  | _ => none }
def jobTrueRow : OpenClaim := { program := "ytbmfphiecllggaadoor", sum := "6dd45a6f460e98afc6d224aa354bc43bd9e239ebbdc684b33ffb3cc3d3f8312f", func := "blockworks/blockworkslaw12.JobTrue", spec := "jobTrue", unfollowed := true, recurses := true, named := ["math/bits.deBruijn32tab", "math/bits.deBruijn64tab"], plainKeys := false, apart := false, laid := [("math/bits.deBruijn32tab", laid_math_bits_deBruijn32tab), ("math/bits.deBruijn64tab", laid_math_bits_deBruijn64tab)] }
def JobTrueSaid : Prop := jobTrueRow.holds Tryd.pinned (OpenSpec.ofChange jobTrueSpec)

/-- ITS FALSE NEIGHBOUR: 'it returns false'. Refute it at one input. -/
def jobTrueWrong : ChangeSpec := { name := "jobTrue", fn := fun _ => fun
  | [d1, d2] => { results := [.lit (.bool false)], args := [d1, d2] }
  | _ => none }
def JobTrueWrongFalsely : Prop := jobTrueRow.holds Tryd.pinned (OpenSpec.ofChange jobTrueWrong)

/-- 'blockworkslaw12.JobCheck': WHATEVER THE INPUT: true; the input reads as it did. -/
def jobCheckSpec : ChangeSpec := { name := "jobCheck", fn := fun _ => fun
  | [d1, d2] => { results := [.lit (.bool true)], args := [d1, d2] }
  | _ => none }
def jobCheckRow : OpenClaim := { program := "ytbmfphiecllggaadoor", sum := "6dd45a6f460e98afc6d224aa354bc43bd9e239ebbdc684b33ffb3cc3d3f8312f", func := "blockworks/blockworkslaw12.JobCheck", spec := "jobCheck", unfollowed := true, recurses := true, named := ["math/bits.deBruijn32tab", "math/bits.deBruijn64tab"], plainKeys := false, apart := false, laid := [("math/bits.deBruijn32tab", laid_math_bits_deBruijn32tab), ("math/bits.deBruijn64tab", laid_math_bits_deBruijn64tab)] }
def JobCheckSaid : Prop := jobCheckRow.holds Tryd.pinned (OpenSpec.ofChange jobCheckSpec)

/-- ITS FALSE NEIGHBOUR: 'it returns false'. Refute it at one input. -/
def jobCheckWrong : ChangeSpec := { name := "jobCheck", fn := fun _ => fun
  | [d1, d2] => { results := [.lit (.bool false)], args := [d1, d2] }
  | _ => none }
def JobCheckWrongFalsely : Prop := jobCheckRow.holds Tryd.pinned (OpenSpec.ofChange jobCheckWrong)

/-- 'blockworkslaw12.JobPlan': WHATEVER THE INPUT: true; the input reads as it did. -/
def jobPlanSpec : ChangeSpec := { name := "jobPlan", fn := fun _ => fun
  | [d1, d2, d3] => { results := [.lit (.bool true)], args := [d1, d2, d3] }
  | _ => none }
def jobPlanRow : OpenClaim := { program := "ytbmfphiecllggaadoor", sum := "6dd45a6f460e98afc6d224aa354bc43bd9e239ebbdc684b33ffb3cc3d3f8312f", func := "blockworks/blockworkslaw12.JobPlan", spec := "jobPlan", unfollowed := true, recurses := true, named := ["math/bits.deBruijn32tab", "math/bits.deBruijn64tab"], plainKeys := false, apart := false, laid := [("math/bits.deBruijn32tab", laid_math_bits_deBruijn32tab), ("math/bits.deBruijn64tab", laid_math_bits_deBruijn64tab)] }
def JobPlanSaid : Prop := jobPlanRow.holds Tryd.pinned (OpenSpec.ofChange jobPlanSpec)

/-- ITS FALSE NEIGHBOUR: 'it returns false'. Refute it at one input. -/
def jobPlanWrong : ChangeSpec := { name := "jobPlan", fn := fun _ => fun
  | [d1, d2, d3] => { results := [.lit (.bool false)], args := [d1, d2, d3] }
  | _ => none }
def JobPlanWrongFalsely : Prop := jobPlanRow.holds Tryd.pinned (OpenSpec.ofChange jobPlanWrong)

/-- 'blockworkslaw12.JobMost': WHATEVER THE INPUT: true; the input reads as it did. -/
def jobMostSpec : ChangeSpec := { name := "jobMost", fn := fun _ => fun
  | [d1, d2] => { results := [.lit (.bool true)], args := [d1, d2] }
  | _ => none }
def jobMostRow : OpenClaim := { program := "ytbmfphiecllggaadoor", sum := "6dd45a6f460e98afc6d224aa354bc43bd9e239ebbdc684b33ffb3cc3d3f8312f", func := "blockworks/blockworkslaw12.JobMost", spec := "jobMost", unfollowed := true, recurses := true, named := ["math/bits.deBruijn32tab", "math/bits.deBruijn64tab"], plainKeys := false, apart := false, laid := [("math/bits.deBruijn32tab", laid_math_bits_deBruijn32tab), ("math/bits.deBruijn64tab", laid_math_bits_deBruijn64tab)] }
def JobMostSaid : Prop := jobMostRow.holds Tryd.pinned (OpenSpec.ofChange jobMostSpec)

/-- ITS FALSE NEIGHBOUR: 'it returns false'. Refute it at one input. -/
def jobMostWrong : ChangeSpec := { name := "jobMost", fn := fun _ => fun
  | [d1, d2] => { results := [.lit (.bool false)], args := [d1, d2] }
  | _ => none }
def JobMostWrongFalsely : Prop := jobMostRow.holds Tryd.pinned (OpenSpec.ofChange jobMostWrong)

/-- 'blockworkslaw12.JobTurns': WHATEVER THE INPUT: true; the input reads as it did. -/
def jobTurnsSpec : ChangeSpec := { name := "jobTurns", fn := fun _ => fun
  | [d1, d2] => { results := [.lit (.bool true)], args := [d1, d2] }
  | _ => none }
def jobTurnsRow : OpenClaim := { program := "ytbmfphiecllggaadoor", sum := "6dd45a6f460e98afc6d224aa354bc43bd9e239ebbdc684b33ffb3cc3d3f8312f", func := "blockworks/blockworkslaw12.JobTurns", spec := "jobTurns", unfollowed := true, recurses := true, named := ["math/bits.deBruijn32tab", "math/bits.deBruijn64tab"], plainKeys := false, apart := false, laid := [("math/bits.deBruijn32tab", laid_math_bits_deBruijn32tab), ("math/bits.deBruijn64tab", laid_math_bits_deBruijn64tab)] }
def JobTurnsSaid : Prop := jobTurnsRow.holds Tryd.pinned (OpenSpec.ofChange jobTurnsSpec)

/-- ITS FALSE NEIGHBOUR: 'it returns false'. Refute it at one input. -/
def jobTurnsWrong : ChangeSpec := { name := "jobTurns", fn := fun _ => fun
  | [d1, d2] => { results := [.lit (.bool false)], args := [d1, d2] }
  | _ => none }
def JobTurnsWrongFalsely : Prop := jobTurnsRow.holds Tryd.pinned (OpenSpec.ofChange jobTurnsWrong)

/-- 'blockworkslaw12.JobLend': WHATEVER THE INPUT: true; the input reads as it did. -/
def jobLendSpec : ChangeSpec := { name := "jobLend", fn := fun _ => fun
  | [d1, d2] => { results := [.lit (.bool true)], args := [d1, d2] }
  | _ => none }
def jobLendRow : OpenClaim := { program := "ytbmfphiecllggaadoor", sum := "6dd45a6f460e98afc6d224aa354bc43bd9e239ebbdc684b33ffb3cc3d3f8312f", func := "blockworks/blockworkslaw12.JobLend", spec := "jobLend", unfollowed := true, recurses := true, named := ["math/bits.deBruijn32tab", "math/bits.deBruijn64tab"], plainKeys := false, apart := false, laid := [("math/bits.deBruijn32tab", laid_math_bits_deBruijn32tab), ("math/bits.deBruijn64tab", laid_math_bits_deBruijn64tab)] }
def JobLendSaid : Prop := jobLendRow.holds Tryd.pinned (OpenSpec.ofChange jobLendSpec)

/-- ITS FALSE NEIGHBOUR: 'it returns false'. Refute it at one input. -/
def jobLendWrong : ChangeSpec := { name := "jobLend", fn := fun _ => fun
  | [d1, d2] => { results := [.lit (.bool false)], args := [d1, d2] }
  | _ => none }
def JobLendWrongFalsely : Prop := jobLendRow.holds Tryd.pinned (OpenSpec.ofChange jobLendWrong)

/-- 'blockworkslaw12.JobMore': WHATEVER THE INPUT: true; the input reads as it did. -/
def jobMoreSpec : ChangeSpec := { name := "jobMore", fn := fun _ => fun
  | [d1, d2, d3, d4] => { results := [.lit (.bool true)], args := [d1, d2, d3, d4] }
  | _ => none }
def jobMoreRow : OpenClaim := { program := "ytbmfphiecllggaadoor", sum := "6dd45a6f460e98afc6d224aa354bc43bd9e239ebbdc684b33ffb3cc3d3f8312f", func := "blockworks/blockworkslaw12.JobMore", spec := "jobMore", unfollowed := true, recurses := true, named := ["math/bits.deBruijn32tab", "math/bits.deBruijn64tab"], plainKeys := false, apart := false, laid := [("math/bits.deBruijn32tab", laid_math_bits_deBruijn32tab), ("math/bits.deBruijn64tab", laid_math_bits_deBruijn64tab)] }
def JobMoreSaid : Prop := jobMoreRow.holds Tryd.pinned (OpenSpec.ofChange jobMoreSpec)

/-- ITS FALSE NEIGHBOUR: 'it returns false'. Refute it at one input. -/
def jobMoreWrong : ChangeSpec := { name := "jobMore", fn := fun _ => fun
  | [d1, d2, d3, d4] => { results := [.lit (.bool false)], args := [d1, d2, d3, d4] }
  | _ => none }
def JobMoreWrongFalsely : Prop := jobMoreRow.holds Tryd.pinned (OpenSpec.ofChange jobMoreWrong)

/- THE SECOND FORM. 'bulk': how many values and letters a reading holds, each counted each time it is reached (what is shared counts as often as it is met; a slice's spare places count too). A statement '..UptoSaid' is the law's where the arguments, and the package variables that the reading takes, are together of bulk at most 1048576: NARROWER than '..Said'. Prove '..Said' where nothing that the law and all that it calls make is longer than what came in: it says more and counts as full. Else prove '..UptoSaid'. A law counts once. -/
mutual
def uptoBulk {H : Type} : DataW H → Nat
  | .lit (.string bytes) => bytes.length + 1
  | .lit _ => 1
  | .nil => 1
  | .ptr d => uptoBulk d + 1
  | .slice elems spare => uptoBulkAll elems + uptoBulkAll spare + 1
  | .agg parts => uptoBulkAll parts + 1
  | .iface _ d => uptoBulk d + 1
  | .map entries => uptoBulkEntries entries + 1
  | .held _ => 1
def uptoBulkAll {H : Type} : List (DataW H) → Nat
  | [] => 0
  | d :: r => uptoBulk d + uptoBulkAll r
def uptoBulkEntries {H : Type} : List (Lit × DataW H) → Nat
  | [] => 0
  | x :: r => uptoBulkEntry x + uptoBulkEntries r
def uptoBulkEntry {H : Type} : Lit × DataW H → Nat
  | (.string bytes, d) => bytes.length + uptoBulk d + 1
  | (_, d) => uptoBulk d + 1
 end
def uptoSmall : (H : Type) → List (DataW H) → Bool := fun _ ds => decide (uptoBulkAll ds ≤ 1048576)
def OpenSpec.upto (s : _root_.Go.ChangeSpec) : _root_.Go.OpenSpec := { _root_.Go.OpenSpec.ofChange s with cond := some uptoSmall }

/-- 'blockworkstop.TopServed', WHERE WHAT IT READS IS OF BULK AT MOST 1048576: true; the input reads as it did. -/
def topServedUptoRow : OpenClaim := { program := "ytbmfphiecllggaadoor", sum := "6dd45a6f460e98afc6d224aa354bc43bd9e239ebbdc684b33ffb3cc3d3f8312f", func := "blockworks/blockworkstop.TopServed", spec := "topServed", unfollowed := true, recurses := true, named := ["math/bits.deBruijn32tab", "math/bits.deBruijn64tab"], plainKeys := false, apart := false, laid := [("math/bits.deBruijn32tab", laid_math_bits_deBruijn32tab), ("math/bits.deBruijn64tab", laid_math_bits_deBruijn64tab)], narrowed := true }
def TopServedUptoSaid : Prop := topServedUptoRow.holds Tryd.pinned (OpenSpec.upto topServedSpec)

/-- 'blockworkslaw12.JobTrue', WHERE WHAT IT READS IS OF BULK AT MOST 1048576: true; the input reads as it did. -/
def jobTrueUptoRow : OpenClaim := { program := "ytbmfphiecllggaadoor", sum := "6dd45a6f460e98afc6d224aa354bc43bd9e239ebbdc684b33ffb3cc3d3f8312f", func := "blockworks/blockworkslaw12.JobTrue", spec := "jobTrue", unfollowed := true, recurses := true, named := ["math/bits.deBruijn32tab", "math/bits.deBruijn64tab"], plainKeys := false, apart := false, laid := [("math/bits.deBruijn32tab", laid_math_bits_deBruijn32tab), ("math/bits.deBruijn64tab", laid_math_bits_deBruijn64tab)], narrowed := true }
def JobTrueUptoSaid : Prop := jobTrueUptoRow.holds Tryd.pinned (OpenSpec.upto jobTrueSpec)

/-- 'blockworkslaw12.JobCheck', WHERE WHAT IT READS IS OF BULK AT MOST 1048576: true; the input reads as it did. -/
def jobCheckUptoRow : OpenClaim := { program := "ytbmfphiecllggaadoor", sum := "6dd45a6f460e98afc6d224aa354bc43bd9e239ebbdc684b33ffb3cc3d3f8312f", func := "blockworks/blockworkslaw12.JobCheck", spec := "jobCheck", unfollowed := true, recurses := true, named := ["math/bits.deBruijn32tab", "math/bits.deBruijn64tab"], plainKeys := false, apart := false, laid := [("math/bits.deBruijn32tab", laid_math_bits_deBruijn32tab), ("math/bits.deBruijn64tab", laid_math_bits_deBruijn64tab)], narrowed := true }
def JobCheckUptoSaid : Prop := jobCheckUptoRow.holds Tryd.pinned (OpenSpec.upto jobCheckSpec)

/-- 'blockworkslaw12.JobPlan', WHERE WHAT IT READS IS OF BULK AT MOST 1048576: true; the input reads as it did. -/
def jobPlanUptoRow : OpenClaim := { program := "ytbmfphiecllggaadoor", sum := "6dd45a6f460e98afc6d224aa354bc43bd9e239ebbdc684b33ffb3cc3d3f8312f", func := "blockworks/blockworkslaw12.JobPlan", spec := "jobPlan", unfollowed := true, recurses := true, named := ["math/bits.deBruijn32tab", "math/bits.deBruijn64tab"], plainKeys := false, apart := false, laid := [("math/bits.deBruijn32tab", laid_math_bits_deBruijn32tab), ("math/bits.deBruijn64tab", laid_math_bits_deBruijn64tab)], narrowed := true }
def JobPlanUptoSaid : Prop := jobPlanUptoRow.holds Tryd.pinned (OpenSpec.upto jobPlanSpec)

/-- 'blockworkslaw12.JobMost', WHERE WHAT IT READS IS OF BULK AT MOST 1048576: true; the input reads as it did. -/
def jobMostUptoRow : OpenClaim := { program := "ytbmfphiecllggaadoor", sum := "6dd45a6f460e98afc6d224aa354bc43bd9e239ebbdc684b33ffb3cc3d3f8312f", func := "blockworks/blockworkslaw12.JobMost", spec := "jobMost", unfollowed := true, recurses := true, named := ["math/bits.deBruijn32tab", "math/bits.deBruijn64tab"], plainKeys := false, apart := false, laid := [("math/bits.deBruijn32tab", laid_math_bits_deBruijn32tab), ("math/bits.deBruijn64tab", laid_math_bits_deBruijn64tab)], narrowed := true }
def JobMostUptoSaid : Prop := jobMostUptoRow.holds Tryd.pinned (OpenSpec.upto jobMostSpec)

/-- 'blockworkslaw12.JobTurns', WHERE WHAT IT READS IS OF BULK AT MOST 1048576: true; the input reads as it did. -/
def jobTurnsUptoRow : OpenClaim := { program := "ytbmfphiecllggaadoor", sum := "6dd45a6f460e98afc6d224aa354bc43bd9e239ebbdc684b33ffb3cc3d3f8312f", func := "blockworks/blockworkslaw12.JobTurns", spec := "jobTurns", unfollowed := true, recurses := true, named := ["math/bits.deBruijn32tab", "math/bits.deBruijn64tab"], plainKeys := false, apart := false, laid := [("math/bits.deBruijn32tab", laid_math_bits_deBruijn32tab), ("math/bits.deBruijn64tab", laid_math_bits_deBruijn64tab)], narrowed := true }
def JobTurnsUptoSaid : Prop := jobTurnsUptoRow.holds Tryd.pinned (OpenSpec.upto jobTurnsSpec)

/-- 'blockworkslaw12.JobLend', WHERE WHAT IT READS IS OF BULK AT MOST 1048576: true; the input reads as it did. -/
def jobLendUptoRow : OpenClaim := { program := "ytbmfphiecllggaadoor", sum := "6dd45a6f460e98afc6d224aa354bc43bd9e239ebbdc684b33ffb3cc3d3f8312f", func := "blockworks/blockworkslaw12.JobLend", spec := "jobLend", unfollowed := true, recurses := true, named := ["math/bits.deBruijn32tab", "math/bits.deBruijn64tab"], plainKeys := false, apart := false, laid := [("math/bits.deBruijn32tab", laid_math_bits_deBruijn32tab), ("math/bits.deBruijn64tab", laid_math_bits_deBruijn64tab)], narrowed := true }
def JobLendUptoSaid : Prop := jobLendUptoRow.holds Tryd.pinned (OpenSpec.upto jobLendSpec)

/-- 'blockworkslaw12.JobMore', WHERE WHAT IT READS IS OF BULK AT MOST 1048576: true; the input reads as it did. -/
def jobMoreUptoRow : OpenClaim := { program := "ytbmfphiecllggaadoor", sum := "6dd45a6f460e98afc6d224aa354bc43bd9e239ebbdc684b33ffb3cc3d3f8312f", func := "blockworks/blockworkslaw12.JobMore", spec := "jobMore", unfollowed := true, recurses := true, named := ["math/bits.deBruijn32tab", "math/bits.deBruijn64tab"], plainKeys := false, apart := false, laid := [("math/bits.deBruijn32tab", laid_math_bits_deBruijn32tab), ("math/bits.deBruijn64tab", laid_math_bits_deBruijn64tab)], narrowed := true }
def JobMoreUptoSaid : Prop := jobMoreUptoRow.holds Tryd.pinned (OpenSpec.upto jobMoreSpec)

end Rows
end Go.Proofs.YtbmfphiecllggaaDoor
