/-
  No cell of these rows narrows 'for every input' (looked for: loops, veiled, ifaces, maps, wideKeys, modest, calm, conditions, laid).
  DERIVED. THE GIVEN ROWS OF THIS SEAT. 6 by the template 'for every input the law returns true; each argument reads behind the call as it read before'; 0 by the template 'total and deterministic' (their statements: YtagjepclobobjaaTotals.lean).
  GIVEN WITH THE SEED: the statements are not yours to turn. If you find one false, say at which input.
  Laid BY PROGRAM, IN A SANDBOX (cutbox-rows.mjs): the forced cells as the released guide's own fill.sh prints them over the translation 80c125e1a1e89bed… (all of the seat's roots in one cut). By AI agents, Wed Nov 11 2026. No macro, syntax, notation, axiom, sorry.
-/
import Derived.Test.YtagjepclobobjaaChecked
import GoSem.Claim
import GoSem.ClaimJoined
import GoSem.ClaimMapViews
import Derived.JoinedTies
import Derived.KernelRfl
namespace Go.Proofs.Ytagjepclobobjaa
/- THE CELL 'sum', in the pinned program and in every row, IS THE sha256 OF THE DUMP (.gsa) THAT YtagjepclobobjaaProg.lean LOADS. Nothing in Lean hashes anything: it is a label: what it is worth is what the hold of that sum in a sandbox is worth. -/
noncomputable def Try.pinned : Pinned := { name := "ytagjepclobobjaa", sum := "80c125e1a1e89bedf6859a08cbc4d3d36c250b5c524ef3597f282acd1d6e41b2", checked := Try.checked }
namespace Rows
def none {H : Type} : Left H := { results := [], args := [] }

/-- 'blockworkslaw13.LotNames': WHATEVER THE INPUT: true; the input reads as it did. -/
def lotNamesSpec : ChangeSpec := { name := "lotNames", fn := fun _ => fun
  | [] => { results := [.lit (.bool true)], args := [] }
  | _ => none }
def lotNamesRow : OpenClaim := { program := "ytagjepclobobjaa", sum := "80c125e1a1e89bedf6859a08cbc4d3d36c250b5c524ef3597f282acd1d6e41b2", func := "blockworks/blockworkslaw13.LotNames", spec := "lotNames", unfollowed := true, recurses := true, plainKeys := false, apart := false }
def LotNamesSaid : Prop := lotNamesRow.holds Try.pinned (OpenSpec.ofChange lotNamesSpec)

/-- ITS FALSE NEIGHBOUR: 'it returns false'. Refute it at one input. -/
def lotNamesWrong : ChangeSpec := { name := "lotNames", fn := fun _ => fun
  | [] => { results := [.lit (.bool false)], args := [] }
  | _ => none }
def LotNamesWrongFalsely : Prop := lotNamesRow.holds Try.pinned (OpenSpec.ofChange lotNamesWrong)

/-- 'blockworkslaw13.LotSells': WHATEVER THE INPUT: true; the input reads as it did. -/
def lotSellsSpec : ChangeSpec := { name := "lotSells", fn := fun _ => fun
  | [d] => { results := [.lit (.bool true)], args := [d] }
  | _ => none }
def lotSellsRow : OpenClaim := { program := "ytagjepclobobjaa", sum := "80c125e1a1e89bedf6859a08cbc4d3d36c250b5c524ef3597f282acd1d6e41b2", func := "blockworks/blockworkslaw13.LotSells", spec := "lotSells", unfollowed := true, recurses := true, plainKeys := false, apart := false }
def LotSellsSaid : Prop := lotSellsRow.holds Try.pinned (OpenSpec.ofChange lotSellsSpec)

/-- ITS FALSE NEIGHBOUR: 'it returns false'. Refute it at one input. -/
def lotSellsWrong : ChangeSpec := { name := "lotSells", fn := fun _ => fun
  | [d] => { results := [.lit (.bool false)], args := [d] }
  | _ => none }
def LotSellsWrongFalsely : Prop := lotSellsRow.holds Try.pinned (OpenSpec.ofChange lotSellsWrong)

/-- 'blockworkslaw13.LotBest': WHATEVER THE INPUT: true; the input reads as it did. -/
def lotBestSpec : ChangeSpec := { name := "lotBest", fn := fun _ => fun
  | [d1, d2, d3, d4] => { results := [.lit (.bool true)], args := [d1, d2, d3, d4] }
  | _ => none }
def lotBestRow : OpenClaim := { program := "ytagjepclobobjaa", sum := "80c125e1a1e89bedf6859a08cbc4d3d36c250b5c524ef3597f282acd1d6e41b2", func := "blockworks/blockworkslaw13.LotBest", spec := "lotBest", unfollowed := true, recurses := true, plainKeys := false, apart := false }
def LotBestSaid : Prop := lotBestRow.holds Try.pinned (OpenSpec.ofChange lotBestSpec)

/-- ITS FALSE NEIGHBOUR: 'it returns false'. Refute it at one input. -/
def lotBestWrong : ChangeSpec := { name := "lotBest", fn := fun _ => fun
  | [d1, d2, d3, d4] => { results := [.lit (.bool false)], args := [d1, d2, d3, d4] }
  | _ => none }
def LotBestWrongFalsely : Prop := lotBestRow.holds Try.pinned (OpenSpec.ofChange lotBestWrong)

/-- 'blockworkslaw13.LotDeliver': WHATEVER THE INPUT: true; the input reads as it did. -/
def lotDeliverSpec : ChangeSpec := { name := "lotDeliver", fn := fun _ => fun
  | [d1, d2, d3] => { results := [.lit (.bool true)], args := [d1, d2, d3] }
  | _ => none }
def lotDeliverRow : OpenClaim := { program := "ytagjepclobobjaa", sum := "80c125e1a1e89bedf6859a08cbc4d3d36c250b5c524ef3597f282acd1d6e41b2", func := "blockworks/blockworkslaw13.LotDeliver", spec := "lotDeliver", unfollowed := true, recurses := true, plainKeys := false, apart := false }
def LotDeliverSaid : Prop := lotDeliverRow.holds Try.pinned (OpenSpec.ofChange lotDeliverSpec)

/-- ITS FALSE NEIGHBOUR: 'it returns false'. Refute it at one input. -/
def lotDeliverWrong : ChangeSpec := { name := "lotDeliver", fn := fun _ => fun
  | [d1, d2, d3] => { results := [.lit (.bool false)], args := [d1, d2, d3] }
  | _ => none }
def LotDeliverWrongFalsely : Prop := lotDeliverRow.holds Try.pinned (OpenSpec.ofChange lotDeliverWrong)

/-- 'blockworkslaw13.LotCheck': WHATEVER THE INPUT: true; the input reads as it did. -/
def lotCheckSpec : ChangeSpec := { name := "lotCheck", fn := fun _ => fun
  | [d1, d2, d3, d4] => { results := [.lit (.bool true)], args := [d1, d2, d3, d4] }
  | _ => none }
def lotCheckRow : OpenClaim := { program := "ytagjepclobobjaa", sum := "80c125e1a1e89bedf6859a08cbc4d3d36c250b5c524ef3597f282acd1d6e41b2", func := "blockworks/blockworkslaw13.LotCheck", spec := "lotCheck", unfollowed := true, recurses := true, plainKeys := false, apart := false }
def LotCheckSaid : Prop := lotCheckRow.holds Try.pinned (OpenSpec.ofChange lotCheckSpec)

/-- ITS FALSE NEIGHBOUR: 'it returns false'. Refute it at one input. -/
def lotCheckWrong : ChangeSpec := { name := "lotCheck", fn := fun _ => fun
  | [d1, d2, d3, d4] => { results := [.lit (.bool false)], args := [d1, d2, d3, d4] }
  | _ => none }
def LotCheckWrongFalsely : Prop := lotCheckRow.holds Try.pinned (OpenSpec.ofChange lotCheckWrong)

/-- 'blockworkslaw13.LotMore': WHATEVER THE INPUT: true; the input reads as it did. -/
def lotMoreSpec : ChangeSpec := { name := "lotMore", fn := fun _ => fun
  | [d1, d2, d3] => { results := [.lit (.bool true)], args := [d1, d2, d3] }
  | _ => none }
def lotMoreRow : OpenClaim := { program := "ytagjepclobobjaa", sum := "80c125e1a1e89bedf6859a08cbc4d3d36c250b5c524ef3597f282acd1d6e41b2", func := "blockworks/blockworkslaw13.LotMore", spec := "lotMore", unfollowed := true, recurses := true, plainKeys := false, apart := false }
def LotMoreSaid : Prop := lotMoreRow.holds Try.pinned (OpenSpec.ofChange lotMoreSpec)

/-- ITS FALSE NEIGHBOUR: 'it returns false'. Refute it at one input. -/
def lotMoreWrong : ChangeSpec := { name := "lotMore", fn := fun _ => fun
  | [d1, d2, d3] => { results := [.lit (.bool false)], args := [d1, d2, d3] }
  | _ => none }
def LotMoreWrongFalsely : Prop := lotMoreRow.holds Try.pinned (OpenSpec.ofChange lotMoreWrong)

/- THE SECOND FORM. 'bulk': how many values and letters a reading holds, each counted each time it is reached (what is shared counts as often as it is met; a slice's spare places count too). A statement '..UptoSaid' is the law's where the arguments, and the package variables that the reading takes, are together of bulk at most 1048576: NARROWER than '..Said'. Prove '..Said' where nothing that the law and all that it calls make is longer than what came in: it says more and counts as full. Else prove '..UptoSaid'. A law counts once. -/
mutual
def uptoBulk {H : Type} : DataW H → Nat
  | .lit (.string bytes) => bytes.length + 1
  | .lit _ => 1
  | .nil => 1
  | .ptr d => uptoBulk d + 1
  | .slice elems spare => uptoBulkAll elems + uptoBulkAll spare + 1
  | .agg parts => uptoBulkAll parts + 1
  | .iface _ d => uptoBulk d + 1
  | .map entries => uptoBulkEntries entries + 1
  | .held _ => 1
def uptoBulkAll {H : Type} : List (DataW H) → Nat
  | [] => 0
  | d :: r => uptoBulk d + uptoBulkAll r
def uptoBulkEntries {H : Type} : List (Lit × DataW H) → Nat
  | [] => 0
  | x :: r => uptoBulkEntry x + uptoBulkEntries r
def uptoBulkEntry {H : Type} : Lit × DataW H → Nat
  | (.string bytes, d) => bytes.length + uptoBulk d + 1
  | (_, d) => uptoBulk d + 1
 end
def uptoSmall : (H : Type) → List (DataW H) → Bool := fun _ ds => decide (uptoBulkAll ds ≤ 1048576)
def OpenSpec.upto (s : _root_.Go.ChangeSpec) : _root_.Go.OpenSpec := { _root_.Go.OpenSpec.ofChange s with cond := some uptoSmall }

/-- 'blockworkslaw13.LotNames', WHERE WHAT IT READS IS OF BULK AT MOST 1048576: true; the input reads as it did. -/
def lotNamesUptoRow : OpenClaim := { program := "ytagjepclobobjaa", sum := "80c125e1a1e89bedf6859a08cbc4d3d36c250b5c524ef3597f282acd1d6e41b2", func := "blockworks/blockworkslaw13.LotNames", spec := "lotNames", unfollowed := true, recurses := true, plainKeys := false, apart := false, narrowed := true }
def LotNamesUptoSaid : Prop := lotNamesUptoRow.holds Try.pinned (OpenSpec.upto lotNamesSpec)

/-- 'blockworkslaw13.LotSells', WHERE WHAT IT READS IS OF BULK AT MOST 1048576: true; the input reads as it did. -/
def lotSellsUptoRow : OpenClaim := { program := "ytagjepclobobjaa", sum := "80c125e1a1e89bedf6859a08cbc4d3d36c250b5c524ef3597f282acd1d6e41b2", func := "blockworks/blockworkslaw13.LotSells", spec := "lotSells", unfollowed := true, recurses := true, plainKeys := false, apart := false, narrowed := true }
def LotSellsUptoSaid : Prop := lotSellsUptoRow.holds Try.pinned (OpenSpec.upto lotSellsSpec)

/-- 'blockworkslaw13.LotBest', WHERE WHAT IT READS IS OF BULK AT MOST 1048576: true; the input reads as it did. -/
def lotBestUptoRow : OpenClaim := { program := "ytagjepclobobjaa", sum := "80c125e1a1e89bedf6859a08cbc4d3d36c250b5c524ef3597f282acd1d6e41b2", func := "blockworks/blockworkslaw13.LotBest", spec := "lotBest", unfollowed := true, recurses := true, plainKeys := false, apart := false, narrowed := true }
def LotBestUptoSaid : Prop := lotBestUptoRow.holds Try.pinned (OpenSpec.upto lotBestSpec)

/-- 'blockworkslaw13.LotDeliver', WHERE WHAT IT READS IS OF BULK AT MOST 1048576: true; the input reads as it did. -/
def lotDeliverUptoRow : OpenClaim := { program := "ytagjepclobobjaa", sum := "80c125e1a1e89bedf6859a08cbc4d3d36c250b5c524ef3597f282acd1d6e41b2", func := "blockworks/blockworkslaw13.LotDeliver", spec := "lotDeliver", unfollowed := true, recurses := true, plainKeys := false, apart := false, narrowed := true }
def LotDeliverUptoSaid : Prop := lotDeliverUptoRow.holds Try.pinned (OpenSpec.upto lotDeliverSpec)

/-- 'blockworkslaw13.LotCheck', WHERE WHAT IT READS IS OF BULK AT MOST 1048576: true; the input reads as it did. -/
def lotCheckUptoRow : OpenClaim := { program := "ytagjepclobobjaa", sum := "80c125e1a1e89bedf6859a08cbc4d3d36c250b5c524ef3597f282acd1d6e41b2", func := "blockworks/blockworkslaw13.LotCheck", spec := "lotCheck", unfollowed := true, recurses := true, plainKeys := false, apart := false, narrowed := true }
def LotCheckUptoSaid : Prop := lotCheckUptoRow.holds Try.pinned (OpenSpec.upto lotCheckSpec)

/-- 'blockworkslaw13.LotMore', WHERE WHAT IT READS IS OF BULK AT MOST 1048576: true; the input reads as it did. -/
def lotMoreUptoRow : OpenClaim := { program := "ytagjepclobobjaa", sum := "80c125e1a1e89bedf6859a08cbc4d3d36c250b5c524ef3597f282acd1d6e41b2", func := "blockworks/blockworkslaw13.LotMore", spec := "lotMore", unfollowed := true, recurses := true, plainKeys := false, apart := false, narrowed := true }
def LotMoreUptoSaid : Prop := lotMoreUptoRow.holds Try.pinned (OpenSpec.upto lotMoreSpec)

end Rows
end Go.Proofs.Ytagjepclobobjaa
