/-
  No cell of these rows narrows 'for every input' (looked for: loops, veiled, ifaces, maps, wideKeys, modest, calm, conditions, laid).
  DERIVED. THE GIVEN ROWS OF THIS SEAT. 5 by the template 'for every input the law returns true; each argument reads behind the call as it read before'; 0 by the template 'total and deterministic' (their statements: YtabbmihakoeegaaGreatTotals.lean).
  GIVEN WITH THE SEED: the statements are not yours to turn. If you find one false, say at which input.
  Laid BY PROGRAM, IN A SANDBOX (cutbox-rows.mjs): the forced cells as the released guide's own fill.sh prints them over the translation 1afeca3ab3208b81… (all of the seat's roots in one cut). By AI agents, Wed Nov 11 2026. No macro, syntax, notation, axiom, sorry.
-/
import Derived.Test.YtabbmihakoeegaaGreatChecked
import GoSem.Claim
import GoSem.ClaimJoined
import GoSem.ClaimMapViews
import Derived.JoinedTies
import Derived.KernelRfl
namespace Go.Proofs.YtabbmihakoeegaaGreat
/- THE CELL 'sum', in the pinned program and in every row, IS THE sha256 OF THE DUMP (.gsa) THAT YtabbmihakoeegaaGreatProg.lean LOADS. Nothing in Lean hashes anything: it is a label: what it is worth is what the hold of that sum in a sandbox is worth. -/
noncomputable def Tryz.pinned : Pinned := { name := "ytabbmihakoeegaagreat", sum := "1afeca3ab3208b8115f9900004889fb5e2629094b31fe07105d0687b67c7afb1", checked := Tryz.checked }
namespace Rows
def none {H : Type} : Left H := { results := [], args := [] }

/-- 'blockworkslaw08.PlanReads': WHATEVER THE INPUT: true; the input reads as it did. -/
def planReadsSpec : ChangeSpec := { name := "planReads", fn := fun _ => fun
  | [d1, d2, d3] => { results := [.lit (.bool true)], args := [d1, d2, d3] }
  | _ => none }
def planReadsRow : OpenClaim := { program := "ytabbmihakoeegaagreat", sum := "1afeca3ab3208b8115f9900004889fb5e2629094b31fe07105d0687b67c7afb1", func := "blockworks/blockworkslaw08.PlanReads", spec := "planReads", unfollowed := true, recurses := true, plainKeys := false, apart := false }
def PlanReadsSaid : Prop := planReadsRow.holds Tryz.pinned (OpenSpec.ofChange planReadsSpec)

/-- ITS FALSE NEIGHBOUR: 'it returns false'. Refute it at one input. -/
def planReadsWrong : ChangeSpec := { name := "planReads", fn := fun _ => fun
  | [d1, d2, d3] => { results := [.lit (.bool false)], args := [d1, d2, d3] }
  | _ => none }
def PlanReadsWrongFalsely : Prop := planReadsRow.holds Tryz.pinned (OpenSpec.ofChange planReadsWrong)

/-- 'blockworkslaw08.PlanLooks': WHATEVER THE INPUT: true; the input reads as it did. -/
def planLooksSpec : ChangeSpec := { name := "planLooks", fn := fun _ => fun
  | [d] => { results := [.lit (.bool true)], args := [d] }
  | _ => none }
def planLooksRow : OpenClaim := { program := "ytabbmihakoeegaagreat", sum := "1afeca3ab3208b8115f9900004889fb5e2629094b31fe07105d0687b67c7afb1", func := "blockworks/blockworkslaw08.PlanLooks", spec := "planLooks", unfollowed := true, recurses := true, plainKeys := false, apart := false }
def PlanLooksSaid : Prop := planLooksRow.holds Tryz.pinned (OpenSpec.ofChange planLooksSpec)

/-- ITS FALSE NEIGHBOUR: 'it returns false'. Refute it at one input. -/
def planLooksWrong : ChangeSpec := { name := "planLooks", fn := fun _ => fun
  | [d] => { results := [.lit (.bool false)], args := [d] }
  | _ => none }
def PlanLooksWrongFalsely : Prop := planLooksRow.holds Tryz.pinned (OpenSpec.ofChange planLooksWrong)

/-- 'blockworkslaw08.PlanOrders': WHATEVER THE INPUT: true; the input reads as it did. -/
def planOrdersSpec : ChangeSpec := { name := "planOrders", fn := fun _ => fun
  | [d] => { results := [.lit (.bool true)], args := [d] }
  | _ => none }
def planOrdersRow : OpenClaim := { program := "ytabbmihakoeegaagreat", sum := "1afeca3ab3208b8115f9900004889fb5e2629094b31fe07105d0687b67c7afb1", func := "blockworks/blockworkslaw08.PlanOrders", spec := "planOrders", unfollowed := true, recurses := true, plainKeys := false, apart := false }
def PlanOrdersSaid : Prop := planOrdersRow.holds Tryz.pinned (OpenSpec.ofChange planOrdersSpec)

/-- ITS FALSE NEIGHBOUR: 'it returns false'. Refute it at one input. -/
def planOrdersWrong : ChangeSpec := { name := "planOrders", fn := fun _ => fun
  | [d] => { results := [.lit (.bool false)], args := [d] }
  | _ => none }
def PlanOrdersWrongFalsely : Prop := planOrdersRow.holds Tryz.pinned (OpenSpec.ofChange planOrdersWrong)

/-- 'blockworkslaw08.PlanCheapest': WHATEVER THE INPUT: true; the input reads as it did. -/
def planCheapestSpec : ChangeSpec := { name := "planCheapest", fn := fun _ => fun
  | [d1, d2] => { results := [.lit (.bool true)], args := [d1, d2] }
  | _ => none }
def planCheapestRow : OpenClaim := { program := "ytabbmihakoeegaagreat", sum := "1afeca3ab3208b8115f9900004889fb5e2629094b31fe07105d0687b67c7afb1", func := "blockworks/blockworkslaw08.PlanCheapest", spec := "planCheapest", unfollowed := true, recurses := true, plainKeys := false, apart := false }
def PlanCheapestSaid : Prop := planCheapestRow.holds Tryz.pinned (OpenSpec.ofChange planCheapestSpec)

/-- ITS FALSE NEIGHBOUR: 'it returns false'. Refute it at one input. -/
def planCheapestWrong : ChangeSpec := { name := "planCheapest", fn := fun _ => fun
  | [d1, d2] => { results := [.lit (.bool false)], args := [d1, d2] }
  | _ => none }
def PlanCheapestWrongFalsely : Prop := planCheapestRow.holds Tryz.pinned (OpenSpec.ofChange planCheapestWrong)

/-- 'blockworkslaw08.PlanOrder': WHATEVER THE INPUT: true; the input reads as it did. -/
def planOrderSpec : ChangeSpec := { name := "planOrder", fn := fun _ => fun
  | [d1, d2] => { results := [.lit (.bool true)], args := [d1, d2] }
  | _ => none }
def planOrderRow : OpenClaim := { program := "ytabbmihakoeegaagreat", sum := "1afeca3ab3208b8115f9900004889fb5e2629094b31fe07105d0687b67c7afb1", func := "blockworks/blockworkslaw08.PlanOrder", spec := "planOrder", unfollowed := true, recurses := true, plainKeys := false, apart := false }
def PlanOrderSaid : Prop := planOrderRow.holds Tryz.pinned (OpenSpec.ofChange planOrderSpec)

/-- ITS FALSE NEIGHBOUR: 'it returns false'. Refute it at one input. -/
def planOrderWrong : ChangeSpec := { name := "planOrder", fn := fun _ => fun
  | [d1, d2] => { results := [.lit (.bool false)], args := [d1, d2] }
  | _ => none }
def PlanOrderWrongFalsely : Prop := planOrderRow.holds Tryz.pinned (OpenSpec.ofChange planOrderWrong)

/- THE SECOND FORM. 'bulk': how many values and letters a reading holds, each counted each time it is reached (what is shared counts as often as it is met; a slice's spare places count too). A statement '..UptoSaid' is the law's where the arguments, and the package variables that the reading takes, are together of bulk at most 1048576: NARROWER than '..Said'. Prove '..Said' where nothing that the law and all that it calls make is longer than what came in: it says more and counts as full. Else prove '..UptoSaid'. A law counts once. -/
mutual
def uptoBulk {H : Type} : DataW H → Nat
  | .lit (.string bytes) => bytes.length + 1
  | .lit _ => 1
  | .nil => 1
  | .ptr d => uptoBulk d + 1
  | .slice elems spare => uptoBulkAll elems + uptoBulkAll spare + 1
  | .agg parts => uptoBulkAll parts + 1
  | .iface _ d => uptoBulk d + 1
  | .map entries => uptoBulkEntries entries + 1
  | .held _ => 1
def uptoBulkAll {H : Type} : List (DataW H) → Nat
  | [] => 0
  | d :: r => uptoBulk d + uptoBulkAll r
def uptoBulkEntries {H : Type} : List (Lit × DataW H) → Nat
  | [] => 0
  | x :: r => uptoBulkEntry x + uptoBulkEntries r
def uptoBulkEntry {H : Type} : Lit × DataW H → Nat
  | (.string bytes, d) => bytes.length + uptoBulk d + 1
  | (_, d) => uptoBulk d + 1
 end
def uptoSmall : (H : Type) → List (DataW H) → Bool := fun _ ds => decide (uptoBulkAll ds ≤ 1048576)
def OpenSpec.upto (s : _root_.Go.ChangeSpec) : _root_.Go.OpenSpec := { _root_.Go.OpenSpec.ofChange s with cond := some uptoSmall }

/-- 'blockworkslaw08.PlanReads', WHERE WHAT IT READS IS OF BULK AT MOST 1048576: true; the input reads as it did. -/
def planReadsUptoRow : OpenClaim := { program := "ytabbmihakoeegaagreat", sum := "1afeca3ab3208b8115f9900004889fb5e2629094b31fe07105d0687b67c7afb1", func := "blockworks/blockworkslaw08.PlanReads", spec := "planReads", unfollowed := true, recurses := true, plainKeys := false, apart := false, narrowed := true }
def PlanReadsUptoSaid : Prop := planReadsUptoRow.holds Tryz.pinned (OpenSpec.upto planReadsSpec)

/-- 'blockworkslaw08.PlanLooks', WHERE WHAT IT READS IS OF BULK AT MOST 1048576: true; the input reads as it did. -/
def planLooksUptoRow : OpenClaim := { program := "ytabbmihakoeegaagreat", sum := "1afeca3ab3208b8115f9900004889fb5e2629094b31fe07105d0687b67c7afb1", func := "blockworks/blockworkslaw08.PlanLooks", spec := "planLooks", unfollowed := true, recurses := true, plainKeys := false, apart := false, narrowed := true }
def PlanLooksUptoSaid : Prop := planLooksUptoRow.holds Tryz.pinned (OpenSpec.upto planLooksSpec)

/-- 'blockworkslaw08.PlanOrders', WHERE WHAT IT READS IS OF BULK AT MOST 1048576: true; the input reads as it did. -/
def planOrdersUptoRow : OpenClaim := { program := "ytabbmihakoeegaagreat", sum := "1afeca3ab3208b8115f9900004889fb5e2629094b31fe07105d0687b67c7afb1", func := "blockworks/blockworkslaw08.PlanOrders", spec := "planOrders", unfollowed := true, recurses := true, plainKeys := false, apart := false, narrowed := true }
def PlanOrdersUptoSaid : Prop := planOrdersUptoRow.holds Tryz.pinned (OpenSpec.upto planOrdersSpec)

/-- 'blockworkslaw08.PlanCheapest', WHERE WHAT IT READS IS OF BULK AT MOST 1048576: true; the input reads as it did. -/
def planCheapestUptoRow : OpenClaim := { program := "ytabbmihakoeegaagreat", sum := "1afeca3ab3208b8115f9900004889fb5e2629094b31fe07105d0687b67c7afb1", func := "blockworks/blockworkslaw08.PlanCheapest", spec := "planCheapest", unfollowed := true, recurses := true, plainKeys := false, apart := false, narrowed := true }
def PlanCheapestUptoSaid : Prop := planCheapestUptoRow.holds Tryz.pinned (OpenSpec.upto planCheapestSpec)

/-- 'blockworkslaw08.PlanOrder', WHERE WHAT IT READS IS OF BULK AT MOST 1048576: true; the input reads as it did. -/
def planOrderUptoRow : OpenClaim := { program := "ytabbmihakoeegaagreat", sum := "1afeca3ab3208b8115f9900004889fb5e2629094b31fe07105d0687b67c7afb1", func := "blockworks/blockworkslaw08.PlanOrder", spec := "planOrder", unfollowed := true, recurses := true, plainKeys := false, apart := false, narrowed := true }
def PlanOrderUptoSaid : Prop := planOrderUptoRow.holds Tryz.pinned (OpenSpec.upto planOrderSpec)

end Rows
end Go.Proofs.YtabbmihakoeegaaGreat
