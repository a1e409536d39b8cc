/-
  No cell of these rows narrows 'for every input' (looked for: loops, veiled, ifaces, maps, wideKeys, modest, calm, conditions, laid).
  DERIVED. THE GIVEN ROWS OF THIS SEAT. 5 by the template 'for every input the law returns true; each argument reads behind the call as it read before'; 0 by the template 'total and deterministic' (their statements: YtljnalobedkohaaTotals.lean).
  GIVEN WITH THE SEED: the statements are not yours to turn. If you find one false, say at which input.
  Laid BY PROGRAM, IN A SANDBOX (cutbox-rows.mjs): the forced cells as the released guide's own fill.sh prints them over the translation 3f3d9ced10f4dccb… (all of the seat's roots in one cut). By AI agents, Wed Nov 11 2026. No macro, syntax, notation, axiom, sorry.
-/
import Derived.Test.YtljnalobedkohaaChecked
import GoSem.Claim
import GoSem.ClaimJoined
import GoSem.ClaimMapViews
import Derived.JoinedTies
import Derived.KernelRfl
namespace Go.Proofs.Ytljnalobedkohaa
/- THE CELL 'sum', in the pinned program and in every row, IS THE sha256 OF THE DUMP (.gsa) THAT YtljnalobedkohaaProg.lean LOADS. Nothing in Lean hashes anything: it is a label: what it is worth is what the hold of that sum in a sandbox is worth. -/
noncomputable def Try.pinned : Pinned := { name := "ytljnalobedkohaa", sum := "3f3d9ced10f4dccb197dd106448f5d221b9389204057504db321fd9fb13d2b3b", checked := Try.checked }
namespace Rows
def none {H : Type} : Left H := { results := [], args := [] }

/-- 'laws.FnExactIsRing': WHATEVER THE INPUT: true; the input reads as it did. -/
def fnExactIsRingSpec : ChangeSpec := { name := "fnExactIsRing", fn := fun _ => fun
  | [d] => { results := [.lit (.bool true)], args := [d] }
  | _ => none }
def fnExactIsRingRow : OpenClaim := { program := "ytljnalobedkohaa", sum := "3f3d9ced10f4dccb197dd106448f5d221b9389204057504db321fd9fb13d2b3b", func := "loop.example/g01132/laws.FnExactIsRing", spec := "fnExactIsRing", unfollowed := true, recurses := true, plainKeys := false, apart := false }
def FnExactIsRingSaid : Prop := fnExactIsRingRow.holds Try.pinned (OpenSpec.ofChange fnExactIsRingSpec)

/-- ITS FALSE NEIGHBOUR: 'it returns false'. Refute it at one input. -/
def fnExactIsRingWrong : ChangeSpec := { name := "fnExactIsRing", fn := fun _ => fun
  | [d] => { results := [.lit (.bool false)], args := [d] }
  | _ => none }
def FnExactIsRingWrongFalsely : Prop := fnExactIsRingRow.holds Try.pinned (OpenSpec.ofChange fnExactIsRingWrong)

/-- 'laws.FnExactIsSelfDual': WHATEVER THE INPUT: true; the input reads as it did. -/
def fnExactIsSelfDualSpec : ChangeSpec := { name := "fnExactIsSelfDual", fn := fun _ => fun
  | [d] => { results := [.lit (.bool true)], args := [d] }
  | _ => none }
def fnExactIsSelfDualRow : OpenClaim := { program := "ytljnalobedkohaa", sum := "3f3d9ced10f4dccb197dd106448f5d221b9389204057504db321fd9fb13d2b3b", func := "loop.example/g01132/laws.FnExactIsSelfDual", spec := "fnExactIsSelfDual", unfollowed := true, recurses := true, plainKeys := false, apart := false }
def FnExactIsSelfDualSaid : Prop := fnExactIsSelfDualRow.holds Try.pinned (OpenSpec.ofChange fnExactIsSelfDualSpec)

/-- ITS FALSE NEIGHBOUR: 'it returns false'. Refute it at one input. -/
def fnExactIsSelfDualWrong : ChangeSpec := { name := "fnExactIsSelfDual", fn := fun _ => fun
  | [d] => { results := [.lit (.bool false)], args := [d] }
  | _ => none }
def FnExactIsSelfDualWrongFalsely : Prop := fnExactIsSelfDualRow.holds Try.pinned (OpenSpec.ofChange fnExactIsSelfDualWrong)

/-- 'laws.FnExactRingFault': WHATEVER THE INPUT: true; the input reads as it did. -/
def fnExactRingFaultSpec : ChangeSpec := { name := "fnExactRingFault", fn := fun _ => fun
  | [d] => { results := [.lit (.bool true)], args := [d] }
  | _ => none }
def fnExactRingFaultRow : OpenClaim := { program := "ytljnalobedkohaa", sum := "3f3d9ced10f4dccb197dd106448f5d221b9389204057504db321fd9fb13d2b3b", func := "loop.example/g01132/laws.FnExactRingFault", spec := "fnExactRingFault", unfollowed := true, recurses := true, plainKeys := false, apart := false }
def FnExactRingFaultSaid : Prop := fnExactRingFaultRow.holds Try.pinned (OpenSpec.ofChange fnExactRingFaultSpec)

/-- ITS FALSE NEIGHBOUR: 'it returns false'. Refute it at one input. -/
def fnExactRingFaultWrong : ChangeSpec := { name := "fnExactRingFault", fn := fun _ => fun
  | [d] => { results := [.lit (.bool false)], args := [d] }
  | _ => none }
def FnExactRingFaultWrongFalsely : Prop := fnExactRingFaultRow.holds Try.pinned (OpenSpec.ofChange fnExactRingFaultWrong)

/-- 'laws.FnExactDualsOf': WHATEVER THE INPUT: true; the input reads as it did. -/
def fnExactDualsOfSpec : ChangeSpec := { name := "fnExactDualsOf", fn := fun _ => fun
  | [d] => { results := [.lit (.bool true)], args := [d] }
  | _ => none }
def fnExactDualsOfRow : OpenClaim := { program := "ytljnalobedkohaa", sum := "3f3d9ced10f4dccb197dd106448f5d221b9389204057504db321fd9fb13d2b3b", func := "loop.example/g01132/laws.FnExactDualsOf", spec := "fnExactDualsOf", unfollowed := true, recurses := true, plainKeys := false, apart := false }
def FnExactDualsOfSaid : Prop := fnExactDualsOfRow.holds Try.pinned (OpenSpec.ofChange fnExactDualsOfSpec)

/-- ITS FALSE NEIGHBOUR: 'it returns false'. Refute it at one input. -/
def fnExactDualsOfWrong : ChangeSpec := { name := "fnExactDualsOf", fn := fun _ => fun
  | [d] => { results := [.lit (.bool false)], args := [d] }
  | _ => none }
def FnExactDualsOfWrongFalsely : Prop := fnExactDualsOfRow.holds Try.pinned (OpenSpec.ofChange fnExactDualsOfWrong)

/-- 'laws.FnExactCountRingTables': WHATEVER THE INPUT: true; the input reads as it did. -/
def fnExactCountRingTablesSpec : ChangeSpec := { name := "fnExactCountRingTables", fn := fun _ => fun
  | [d1, d2] => { results := [.lit (.bool true)], args := [d1, d2] }
  | _ => none }
def fnExactCountRingTablesRow : OpenClaim := { program := "ytljnalobedkohaa", sum := "3f3d9ced10f4dccb197dd106448f5d221b9389204057504db321fd9fb13d2b3b", func := "loop.example/g01132/laws.FnExactCountRingTables", spec := "fnExactCountRingTables", unfollowed := true, recurses := true, plainKeys := false, apart := false }
def FnExactCountRingTablesSaid : Prop := fnExactCountRingTablesRow.holds Try.pinned (OpenSpec.ofChange fnExactCountRingTablesSpec)

/-- ITS FALSE NEIGHBOUR: 'it returns false'. Refute it at one input. -/
def fnExactCountRingTablesWrong : ChangeSpec := { name := "fnExactCountRingTables", fn := fun _ => fun
  | [d1, d2] => { results := [.lit (.bool false)], args := [d1, d2] }
  | _ => none }
def FnExactCountRingTablesWrongFalsely : Prop := fnExactCountRingTablesRow.holds Try.pinned (OpenSpec.ofChange fnExactCountRingTablesWrong)

/- THE SECOND FORM. 'bulk': how many values and letters a reading holds, each counted each time it is reached (what is shared counts as often as it is met; a slice's spare places count too). A statement '..UptoSaid' is the law's where the arguments, and the package variables that the reading takes, are together of bulk at most 1048576: NARROWER than '..Said'. Prove '..Said' where nothing that the law and all that it calls make is longer than what came in: it says more and counts as full. Else prove '..UptoSaid'. A law counts once. -/
mutual
def uptoBulk {H : Type} : DataW H → Nat
  | .lit (.string bytes) => bytes.length + 1
  | .lit _ => 1
  | .nil => 1
  | .ptr d => uptoBulk d + 1
  | .slice elems spare => uptoBulkAll elems + uptoBulkAll spare + 1
  | .agg parts => uptoBulkAll parts + 1
  | .iface _ d => uptoBulk d + 1
  | .map entries => uptoBulkEntries entries + 1
  | .held _ => 1
def uptoBulkAll {H : Type} : List (DataW H) → Nat
  | [] => 0
  | d :: r => uptoBulk d + uptoBulkAll r
def uptoBulkEntries {H : Type} : List (Lit × DataW H) → Nat
  | [] => 0
  | x :: r => uptoBulkEntry x + uptoBulkEntries r
def uptoBulkEntry {H : Type} : Lit × DataW H → Nat
  | (.string bytes, d) => bytes.length + uptoBulk d + 1
  | (_, d) => uptoBulk d + 1
 end
def uptoSmall : (H : Type) → List (DataW H) → Bool := fun _ ds => decide (uptoBulkAll ds ≤ 1048576)
def OpenSpec.upto (s : _root_.Go.ChangeSpec) : _root_.Go.OpenSpec := { _root_.Go.OpenSpec.ofChange s with cond := some uptoSmall }

/-- 'laws.FnExactIsRing', WHERE WHAT IT READS IS OF BULK AT MOST 1048576: true; the input reads as it did. -/
def fnExactIsRingUptoRow : OpenClaim := { program := "ytljnalobedkohaa", sum := "3f3d9ced10f4dccb197dd106448f5d221b9389204057504db321fd9fb13d2b3b", func := "loop.example/g01132/laws.FnExactIsRing", spec := "fnExactIsRing", unfollowed := true, recurses := true, plainKeys := false, apart := false, narrowed := true }
def FnExactIsRingUptoSaid : Prop := fnExactIsRingUptoRow.holds Try.pinned (OpenSpec.upto fnExactIsRingSpec)

/-- 'laws.FnExactIsSelfDual', WHERE WHAT IT READS IS OF BULK AT MOST 1048576: true; the input reads as it did. -/
def fnExactIsSelfDualUptoRow : OpenClaim := { program := "ytljnalobedkohaa", sum := "3f3d9ced10f4dccb197dd106448f5d221b9389204057504db321fd9fb13d2b3b", func := "loop.example/g01132/laws.FnExactIsSelfDual", spec := "fnExactIsSelfDual", unfollowed := true, recurses := true, plainKeys := false, apart := false, narrowed := true }
def FnExactIsSelfDualUptoSaid : Prop := fnExactIsSelfDualUptoRow.holds Try.pinned (OpenSpec.upto fnExactIsSelfDualSpec)

/-- 'laws.FnExactRingFault', WHERE WHAT IT READS IS OF BULK AT MOST 1048576: true; the input reads as it did. -/
def fnExactRingFaultUptoRow : OpenClaim := { program := "ytljnalobedkohaa", sum := "3f3d9ced10f4dccb197dd106448f5d221b9389204057504db321fd9fb13d2b3b", func := "loop.example/g01132/laws.FnExactRingFault", spec := "fnExactRingFault", unfollowed := true, recurses := true, plainKeys := false, apart := false, narrowed := true }
def FnExactRingFaultUptoSaid : Prop := fnExactRingFaultUptoRow.holds Try.pinned (OpenSpec.upto fnExactRingFaultSpec)

/-- 'laws.FnExactDualsOf', WHERE WHAT IT READS IS OF BULK AT MOST 1048576: true; the input reads as it did. -/
def fnExactDualsOfUptoRow : OpenClaim := { program := "ytljnalobedkohaa", sum := "3f3d9ced10f4dccb197dd106448f5d221b9389204057504db321fd9fb13d2b3b", func := "loop.example/g01132/laws.FnExactDualsOf", spec := "fnExactDualsOf", unfollowed := true, recurses := true, plainKeys := false, apart := false, narrowed := true }
def FnExactDualsOfUptoSaid : Prop := fnExactDualsOfUptoRow.holds Try.pinned (OpenSpec.upto fnExactDualsOfSpec)

/-- 'laws.FnExactCountRingTables', WHERE WHAT IT READS IS OF BULK AT MOST 1048576: true; the input reads as it did. -/
def fnExactCountRingTablesUptoRow : OpenClaim := { program := "ytljnalobedkohaa", sum := "3f3d9ced10f4dccb197dd106448f5d221b9389204057504db321fd9fb13d2b3b", func := "loop.example/g01132/laws.FnExactCountRingTables", spec := "fnExactCountRingTables", unfollowed := true, recurses := true, plainKeys := false, apart := false, narrowed := true }
def FnExactCountRingTablesUptoSaid : Prop := fnExactCountRingTablesUptoRow.holds Try.pinned (OpenSpec.upto fnExactCountRingTablesSpec)

end Rows
end Go.Proofs.Ytljnalobedkohaa
