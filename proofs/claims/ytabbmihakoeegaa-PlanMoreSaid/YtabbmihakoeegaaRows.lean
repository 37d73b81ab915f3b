/-
  No cell of these rows narrows 'for every input' (looked for: loops, veiled, ifaces, maps, wideKeys, modest, calm, conditions, laid).
  DERIVED. THE GIVEN ROWS OF THIS SEAT. 5 by the template 'for every input the law returns true; each argument reads behind the call as it read before'; 0 by the template 'total and deterministic' (their statements: YtabbmihakoeegaaTotals.lean).
  GIVEN WITH THE SEED: the statements are not yours to turn. If you find one false, say at which input.
  Laid BY PROGRAM, IN A SANDBOX (cutbox-rows.mjs): the forced cells as the released guide's own fill.sh prints them over the translation 36b0bc30ac46bc58… (all of the seat's roots in one cut). By AI agents, Wed Nov 11 2026. No macro, syntax, notation, axiom, sorry.
-/
import Derived.Test.YtabbmihakoeegaaChecked
import GoSem.Claim
import GoSem.ClaimJoined
import GoSem.ClaimMapViews
import Derived.JoinedTies
import Derived.KernelRfl
namespace Go.Proofs.Ytabbmihakoeegaa
/- THE CELL 'sum', in the pinned program and in every row, IS THE sha256 OF THE DUMP (.gsa) THAT YtabbmihakoeegaaProg.lean LOADS. Nothing in Lean hashes anything: it is a label: what it is worth is what the hold of that sum in a sandbox is worth. -/
noncomputable def Try.pinned : Pinned := { name := "ytabbmihakoeegaa", sum := "36b0bc30ac46bc582bd38dadfccd164d9d0f26a38d5244271ca83221d8a8a083", checked := Try.checked }
namespace Rows
def none {H : Type} : Left H := { results := [], args := [] }

/-- 'blockworkslaw08.PlanBlocks': WHATEVER THE INPUT: true; the input reads as it did. -/
def planBlocksSpec : ChangeSpec := { name := "planBlocks", fn := fun _ => fun
  | [d1, d2, d3] => { results := [.lit (.bool true)], args := [d1, d2, d3] }
  | _ => none }
def planBlocksRow : OpenClaim := { program := "ytabbmihakoeegaa", sum := "36b0bc30ac46bc582bd38dadfccd164d9d0f26a38d5244271ca83221d8a8a083", func := "blockworks/blockworkslaw08.PlanBlocks", spec := "planBlocks", unfollowed := true, recurses := true, plainKeys := false, apart := false }
def PlanBlocksSaid : Prop := planBlocksRow.holds Try.pinned (OpenSpec.ofChange planBlocksSpec)

/-- ITS FALSE NEIGHBOUR: 'it returns false'. Refute it at one input. -/
def planBlocksWrong : ChangeSpec := { name := "planBlocks", fn := fun _ => fun
  | [d1, d2, d3] => { results := [.lit (.bool false)], args := [d1, d2, d3] }
  | _ => none }
def PlanBlocksWrongFalsely : Prop := planBlocksRow.holds Try.pinned (OpenSpec.ofChange planBlocksWrong)

/-- 'blockworkslaw08.PlanFewest': WHATEVER THE INPUT: true; the input reads as it did. -/
def planFewestSpec : ChangeSpec := { name := "planFewest", fn := fun _ => fun
  | [d1, d2] => { results := [.lit (.bool true)], args := [d1, d2] }
  | _ => none }
def planFewestRow : OpenClaim := { program := "ytabbmihakoeegaa", sum := "36b0bc30ac46bc582bd38dadfccd164d9d0f26a38d5244271ca83221d8a8a083", func := "blockworks/blockworkslaw08.PlanFewest", spec := "planFewest", unfollowed := true, recurses := true, plainKeys := false, apart := false }
def PlanFewestSaid : Prop := planFewestRow.holds Try.pinned (OpenSpec.ofChange planFewestSpec)

/-- ITS FALSE NEIGHBOUR: 'it returns false'. Refute it at one input. -/
def planFewestWrong : ChangeSpec := { name := "planFewest", fn := fun _ => fun
  | [d1, d2] => { results := [.lit (.bool false)], args := [d1, d2] }
  | _ => none }
def PlanFewestWrongFalsely : Prop := planFewestRow.holds Try.pinned (OpenSpec.ofChange planFewestWrong)

/-- 'blockworkslaw08.PlanBest': WHATEVER THE INPUT: true; the input reads as it did. -/
def planBestSpec : ChangeSpec := { name := "planBest", fn := fun _ => fun
  | [d1, d2, d3] => { results := [.lit (.bool true)], args := [d1, d2, d3] }
  | _ => none }
def planBestRow : OpenClaim := { program := "ytabbmihakoeegaa", sum := "36b0bc30ac46bc582bd38dadfccd164d9d0f26a38d5244271ca83221d8a8a083", func := "blockworks/blockworkslaw08.PlanBest", spec := "planBest", unfollowed := true, recurses := true, plainKeys := false, apart := false }
def PlanBestSaid : Prop := planBestRow.holds Try.pinned (OpenSpec.ofChange planBestSpec)

/-- ITS FALSE NEIGHBOUR: 'it returns false'. Refute it at one input. -/
def planBestWrong : ChangeSpec := { name := "planBest", fn := fun _ => fun
  | [d1, d2, d3] => { results := [.lit (.bool false)], args := [d1, d2, d3] }
  | _ => none }
def PlanBestWrongFalsely : Prop := planBestRow.holds Try.pinned (OpenSpec.ofChange planBestWrong)

/-- 'blockworkslaw08.PlanClosed': WHATEVER THE INPUT: true; the input reads as it did. -/
def planClosedSpec : ChangeSpec := { name := "planClosed", fn := fun _ => fun
  | [d1, d2] => { results := [.lit (.bool true)], args := [d1, d2] }
  | _ => none }
def planClosedRow : OpenClaim := { program := "ytabbmihakoeegaa", sum := "36b0bc30ac46bc582bd38dadfccd164d9d0f26a38d5244271ca83221d8a8a083", func := "blockworks/blockworkslaw08.PlanClosed", spec := "planClosed", unfollowed := true, recurses := true, plainKeys := false, apart := false }
def PlanClosedSaid : Prop := planClosedRow.holds Try.pinned (OpenSpec.ofChange planClosedSpec)

/-- ITS FALSE NEIGHBOUR: 'it returns false'. Refute it at one input. -/
def planClosedWrong : ChangeSpec := { name := "planClosed", fn := fun _ => fun
  | [d1, d2] => { results := [.lit (.bool false)], args := [d1, d2] }
  | _ => none }
def PlanClosedWrongFalsely : Prop := planClosedRow.holds Try.pinned (OpenSpec.ofChange planClosedWrong)

/-- 'blockworkslaw08.PlanMore': WHATEVER THE INPUT: true; the input reads as it did. -/
def planMoreSpec : ChangeSpec := { name := "planMore", fn := fun _ => fun
  | [d1, d2, d3, d4, d5] => { results := [.lit (.bool true)], args := [d1, d2, d3, d4, d5] }
  | _ => none }
def planMoreRow : OpenClaim := { program := "ytabbmihakoeegaa", sum := "36b0bc30ac46bc582bd38dadfccd164d9d0f26a38d5244271ca83221d8a8a083", func := "blockworks/blockworkslaw08.PlanMore", spec := "planMore", unfollowed := true, recurses := true, plainKeys := false, apart := false }
def PlanMoreSaid : Prop := planMoreRow.holds Try.pinned (OpenSpec.ofChange planMoreSpec)

/-- ITS FALSE NEIGHBOUR: 'it returns false'. Refute it at one input. -/
def planMoreWrong : ChangeSpec := { name := "planMore", fn := fun _ => fun
  | [d1, d2, d3, d4, d5] => { results := [.lit (.bool false)], args := [d1, d2, d3, d4, d5] }
  | _ => none }
def PlanMoreWrongFalsely : Prop := planMoreRow.holds Try.pinned (OpenSpec.ofChange planMoreWrong)

/- THE SECOND FORM. 'bulk': how many values and letters a reading holds, each counted each time it is reached (what is shared counts as often as it is met; a slice's spare places count too). A statement '..UptoSaid' is the law's where the arguments, and the package variables that the reading takes, are together of bulk at most 1048576: NARROWER than '..Said'. Prove '..Said' where nothing that the law and all that it calls make is longer than what came in: it says more and counts as full. Else prove '..UptoSaid'. A law counts once. -/
mutual
def uptoBulk {H : Type} : DataW H → Nat
  | .lit (.string bytes) => bytes.length + 1
  | .lit _ => 1
  | .nil => 1
  | .ptr d => uptoBulk d + 1
  | .slice elems spare => uptoBulkAll elems + uptoBulkAll spare + 1
  | .agg parts => uptoBulkAll parts + 1
  | .iface _ d => uptoBulk d + 1
  | .map entries => uptoBulkEntries entries + 1
  | .held _ => 1
def uptoBulkAll {H : Type} : List (DataW H) → Nat
  | [] => 0
  | d :: r => uptoBulk d + uptoBulkAll r
def uptoBulkEntries {H : Type} : List (Lit × DataW H) → Nat
  | [] => 0
  | x :: r => uptoBulkEntry x + uptoBulkEntries r
def uptoBulkEntry {H : Type} : Lit × DataW H → Nat
  | (.string bytes, d) => bytes.length + uptoBulk d + 1
  | (_, d) => uptoBulk d + 1
 end
def uptoSmall : (H : Type) → List (DataW H) → Bool := fun _ ds => decide (uptoBulkAll ds ≤ 1048576)
def OpenSpec.upto (s : _root_.Go.ChangeSpec) : _root_.Go.OpenSpec := { _root_.Go.OpenSpec.ofChange s with cond := some uptoSmall }

/-- 'blockworkslaw08.PlanBlocks', WHERE WHAT IT READS IS OF BULK AT MOST 1048576: true; the input reads as it did. -/
def planBlocksUptoRow : OpenClaim := { program := "ytabbmihakoeegaa", sum := "36b0bc30ac46bc582bd38dadfccd164d9d0f26a38d5244271ca83221d8a8a083", func := "blockworks/blockworkslaw08.PlanBlocks", spec := "planBlocks", unfollowed := true, recurses := true, plainKeys := false, apart := false, narrowed := true }
def PlanBlocksUptoSaid : Prop := planBlocksUptoRow.holds Try.pinned (OpenSpec.upto planBlocksSpec)

/-- 'blockworkslaw08.PlanFewest', WHERE WHAT IT READS IS OF BULK AT MOST 1048576: true; the input reads as it did. -/
def planFewestUptoRow : OpenClaim := { program := "ytabbmihakoeegaa", sum := "36b0bc30ac46bc582bd38dadfccd164d9d0f26a38d5244271ca83221d8a8a083", func := "blockworks/blockworkslaw08.PlanFewest", spec := "planFewest", unfollowed := true, recurses := true, plainKeys := false, apart := false, narrowed := true }
def PlanFewestUptoSaid : Prop := planFewestUptoRow.holds Try.pinned (OpenSpec.upto planFewestSpec)

/-- 'blockworkslaw08.PlanBest', WHERE WHAT IT READS IS OF BULK AT MOST 1048576: true; the input reads as it did. -/
def planBestUptoRow : OpenClaim := { program := "ytabbmihakoeegaa", sum := "36b0bc30ac46bc582bd38dadfccd164d9d0f26a38d5244271ca83221d8a8a083", func := "blockworks/blockworkslaw08.PlanBest", spec := "planBest", unfollowed := true, recurses := true, plainKeys := false, apart := false, narrowed := true }
def PlanBestUptoSaid : Prop := planBestUptoRow.holds Try.pinned (OpenSpec.upto planBestSpec)

/-- 'blockworkslaw08.PlanClosed', WHERE WHAT IT READS IS OF BULK AT MOST 1048576: true; the input reads as it did. -/
def planClosedUptoRow : OpenClaim := { program := "ytabbmihakoeegaa", sum := "36b0bc30ac46bc582bd38dadfccd164d9d0f26a38d5244271ca83221d8a8a083", func := "blockworks/blockworkslaw08.PlanClosed", spec := "planClosed", unfollowed := true, recurses := true, plainKeys := false, apart := false, narrowed := true }
def PlanClosedUptoSaid : Prop := planClosedUptoRow.holds Try.pinned (OpenSpec.upto planClosedSpec)

/-- 'blockworkslaw08.PlanMore', WHERE WHAT IT READS IS OF BULK AT MOST 1048576: true; the input reads as it did. -/
def planMoreUptoRow : OpenClaim := { program := "ytabbmihakoeegaa", sum := "36b0bc30ac46bc582bd38dadfccd164d9d0f26a38d5244271ca83221d8a8a083", func := "blockworks/blockworkslaw08.PlanMore", spec := "planMore", unfollowed := true, recurses := true, plainKeys := false, apart := false, narrowed := true }
def PlanMoreUptoSaid : Prop := planMoreUptoRow.holds Try.pinned (OpenSpec.upto planMoreSpec)

end Rows
end Go.Proofs.Ytabbmihakoeegaa
