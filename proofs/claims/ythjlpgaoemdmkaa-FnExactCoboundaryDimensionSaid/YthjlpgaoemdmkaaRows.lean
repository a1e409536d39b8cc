/-
  No cell of these rows narrows 'for every input' (looked for: loops, veiled, ifaces, maps, wideKeys, modest, calm, conditions, laid).
  DERIVED. THE GIVEN ROWS OF THIS SEAT. 10 by the template 'for every input the law returns true; each argument reads behind the call as it read before'; 0 by the template 'total and deterministic' (their statements: YthjlpgaoemdmkaaTotals.lean).
  GIVEN WITH THE SEED: the statements are not yours to turn. If you find one false, say at which input.
  Laid BY PROGRAM, IN A SANDBOX (cutbox-rows.mjs): the forced cells as the released guide's own fill.sh prints them over the translation 50602573a6781351… (all of the seat's roots in one cut). By AI agents, Wed Nov 11 2026. No macro, syntax, notation, axiom, sorry.
-/
import Derived.Test.YthjlpgaoemdmkaaChecked
import GoSem.Claim
import GoSem.ClaimJoined
import GoSem.ClaimMapViews
import Derived.JoinedTies
import Derived.KernelRfl
namespace Go.Proofs.Ythjlpgaoemdmkaa
/- THE CELL 'sum', in the pinned program and in every row, IS THE sha256 OF THE DUMP (.gsa) THAT YthjlpgaoemdmkaaProg.lean LOADS. Nothing in Lean hashes anything: it is a label: what it is worth is what the hold of that sum in a sandbox is worth. -/
noncomputable def Try.pinned : Pinned := { name := "ythjlpgaoemdmkaa", sum := "50602573a6781351409fc80f6605b59f388b3e118f32439d6ae4fb0f0d594210", checked := Try.checked }
namespace Rows
def none {H : Type} : Left H := { results := [], args := [] }

/-- 'laws.FnExactTripleCocycle': WHATEVER THE INPUT: true; the input reads as it did. -/
def fnExactTripleCocycleSpec : ChangeSpec := { name := "fnExactTripleCocycle", fn := fun _ => fun
  | [] => { results := [.lit (.bool true)], args := [] }
  | _ => none }
def fnExactTripleCocycleRow : OpenClaim := { program := "ythjlpgaoemdmkaa", sum := "50602573a6781351409fc80f6605b59f388b3e118f32439d6ae4fb0f0d594210", func := "loop.example/g01132/laws.FnExactTripleCocycle", spec := "fnExactTripleCocycle", unfollowed := true, recurses := true, apart := false }
def FnExactTripleCocycleSaid : Prop := fnExactTripleCocycleRow.holds Try.pinned (OpenSpec.ofChange fnExactTripleCocycleSpec)

/-- ITS FALSE NEIGHBOUR: 'it returns false'. Refute it at one input. -/
def fnExactTripleCocycleWrong : ChangeSpec := { name := "fnExactTripleCocycle", fn := fun _ => fun
  | [] => { results := [.lit (.bool false)], args := [] }
  | _ => none }
def FnExactTripleCocycleWrongFalsely : Prop := fnExactTripleCocycleRow.holds Try.pinned (OpenSpec.ofChange fnExactTripleCocycleWrong)

/-- 'laws.FnExactCyclicCocycle': WHATEVER THE INPUT: true; the input reads as it did. -/
def fnExactCyclicCocycleSpec : ChangeSpec := { name := "fnExactCyclicCocycle", fn := fun _ => fun
  | [d1, d2] => { results := [.lit (.bool true)], args := [d1, d2] }
  | _ => none }
def fnExactCyclicCocycleRow : OpenClaim := { program := "ythjlpgaoemdmkaa", sum := "50602573a6781351409fc80f6605b59f388b3e118f32439d6ae4fb0f0d594210", func := "loop.example/g01132/laws.FnExactCyclicCocycle", spec := "fnExactCyclicCocycle", unfollowed := true, recurses := true, apart := false }
def FnExactCyclicCocycleSaid : Prop := fnExactCyclicCocycleRow.holds Try.pinned (OpenSpec.ofChange fnExactCyclicCocycleSpec)

/-- ITS FALSE NEIGHBOUR: 'it returns false'. Refute it at one input. -/
def fnExactCyclicCocycleWrong : ChangeSpec := { name := "fnExactCyclicCocycle", fn := fun _ => fun
  | [d1, d2] => { results := [.lit (.bool false)], args := [d1, d2] }
  | _ => none }
def FnExactCyclicCocycleWrongFalsely : Prop := fnExactCyclicCocycleRow.holds Try.pinned (OpenSpec.ofChange fnExactCyclicCocycleWrong)

/-- 'laws.FnExactMixedCocycle': WHATEVER THE INPUT: true; the input reads as it did. -/
def fnExactMixedCocycleSpec : ChangeSpec := { name := "fnExactMixedCocycle", fn := fun _ => fun
  | [d1, d2, d3] => { results := [.lit (.bool true)], args := [d1, d2, d3] }
  | _ => none }
def fnExactMixedCocycleRow : OpenClaim := { program := "ythjlpgaoemdmkaa", sum := "50602573a6781351409fc80f6605b59f388b3e118f32439d6ae4fb0f0d594210", func := "loop.example/g01132/laws.FnExactMixedCocycle", spec := "fnExactMixedCocycle", unfollowed := true, recurses := true, apart := false }
def FnExactMixedCocycleSaid : Prop := fnExactMixedCocycleRow.holds Try.pinned (OpenSpec.ofChange fnExactMixedCocycleSpec)

/-- ITS FALSE NEIGHBOUR: 'it returns false'. Refute it at one input. -/
def fnExactMixedCocycleWrong : ChangeSpec := { name := "fnExactMixedCocycle", fn := fun _ => fun
  | [d1, d2, d3] => { results := [.lit (.bool false)], args := [d1, d2, d3] }
  | _ => none }
def FnExactMixedCocycleWrongFalsely : Prop := fnExactMixedCocycleRow.holds Try.pinned (OpenSpec.ofChange fnExactMixedCocycleWrong)

/-- 'laws.FnExactStandardBraiding': WHATEVER THE INPUT: true; the input reads as it did. -/
def fnExactStandardBraidingSpec : ChangeSpec := { name := "fnExactStandardBraiding", fn := fun _ => fun
  | [d1, d2] => { results := [.lit (.bool true)], args := [d1, d2] }
  | _ => none }
def fnExactStandardBraidingRow : OpenClaim := { program := "ythjlpgaoemdmkaa", sum := "50602573a6781351409fc80f6605b59f388b3e118f32439d6ae4fb0f0d594210", func := "loop.example/g01132/laws.FnExactStandardBraiding", spec := "fnExactStandardBraiding", unfollowed := true, recurses := true, apart := false }
def FnExactStandardBraidingSaid : Prop := fnExactStandardBraidingRow.holds Try.pinned (OpenSpec.ofChange fnExactStandardBraidingSpec)

/-- ITS FALSE NEIGHBOUR: 'it returns false'. Refute it at one input. -/
def fnExactStandardBraidingWrong : ChangeSpec := { name := "fnExactStandardBraiding", fn := fun _ => fun
  | [d1, d2] => { results := [.lit (.bool false)], args := [d1, d2] }
  | _ => none }
def FnExactStandardBraidingWrongFalsely : Prop := fnExactStandardBraidingRow.holds Try.pinned (OpenSpec.ofChange fnExactStandardBraidingWrong)

/-- 'laws.FnExactCocycleDimension': WHATEVER THE INPUT: true; the input reads as it did. -/
def fnExactCocycleDimensionSpec : ChangeSpec := { name := "fnExactCocycleDimension", fn := fun _ => fun
  | [d1, d2] => { results := [.lit (.bool true)], args := [d1, d2] }
  | _ => none }
def fnExactCocycleDimensionRow : OpenClaim := { program := "ythjlpgaoemdmkaa", sum := "50602573a6781351409fc80f6605b59f388b3e118f32439d6ae4fb0f0d594210", func := "loop.example/g01132/laws.FnExactCocycleDimension", spec := "fnExactCocycleDimension", unfollowed := true, recurses := true, apart := false }
def FnExactCocycleDimensionSaid : Prop := fnExactCocycleDimensionRow.holds Try.pinned (OpenSpec.ofChange fnExactCocycleDimensionSpec)

/-- ITS FALSE NEIGHBOUR: 'it returns false'. Refute it at one input. -/
def fnExactCocycleDimensionWrong : ChangeSpec := { name := "fnExactCocycleDimension", fn := fun _ => fun
  | [d1, d2] => { results := [.lit (.bool false)], args := [d1, d2] }
  | _ => none }
def FnExactCocycleDimensionWrongFalsely : Prop := fnExactCocycleDimensionRow.holds Try.pinned (OpenSpec.ofChange fnExactCocycleDimensionWrong)

/-- 'laws.FnExactIsCocycle': WHATEVER THE INPUT: true; the input reads as it did. -/
def fnExactIsCocycleSpec : ChangeSpec := { name := "fnExactIsCocycle", fn := fun _ => fun
  | [d] => { results := [.lit (.bool true)], args := [d] }
  | _ => none }
def fnExactIsCocycleRow : OpenClaim := { program := "ythjlpgaoemdmkaa", sum := "50602573a6781351409fc80f6605b59f388b3e118f32439d6ae4fb0f0d594210", func := "loop.example/g01132/laws.FnExactIsCocycle", spec := "fnExactIsCocycle", unfollowed := true, recurses := true, apart := false }
def FnExactIsCocycleSaid : Prop := fnExactIsCocycleRow.holds Try.pinned (OpenSpec.ofChange fnExactIsCocycleSpec)

/-- ITS FALSE NEIGHBOUR: 'it returns false'. Refute it at one input. -/
def fnExactIsCocycleWrong : ChangeSpec := { name := "fnExactIsCocycle", fn := fun _ => fun
  | [d] => { results := [.lit (.bool false)], args := [d] }
  | _ => none }
def FnExactIsCocycleWrongFalsely : Prop := fnExactIsCocycleRow.holds Try.pinned (OpenSpec.ofChange fnExactIsCocycleWrong)

/-- 'laws.FnExactCoboundaryDimension': WHATEVER THE INPUT: true; the input reads as it did. -/
def fnExactCoboundaryDimensionSpec : ChangeSpec := { name := "fnExactCoboundaryDimension", fn := fun _ => fun
  | [d1, d2] => { results := [.lit (.bool true)], args := [d1, d2] }
  | _ => none }
def fnExactCoboundaryDimensionRow : OpenClaim := { program := "ythjlpgaoemdmkaa", sum := "50602573a6781351409fc80f6605b59f388b3e118f32439d6ae4fb0f0d594210", func := "loop.example/g01132/laws.FnExactCoboundaryDimension", spec := "fnExactCoboundaryDimension", unfollowed := true, recurses := true, apart := false }
def FnExactCoboundaryDimensionSaid : Prop := fnExactCoboundaryDimensionRow.holds Try.pinned (OpenSpec.ofChange fnExactCoboundaryDimensionSpec)

/-- ITS FALSE NEIGHBOUR: 'it returns false'. Refute it at one input. -/
def fnExactCoboundaryDimensionWrong : ChangeSpec := { name := "fnExactCoboundaryDimension", fn := fun _ => fun
  | [d1, d2] => { results := [.lit (.bool false)], args := [d1, d2] }
  | _ => none }
def FnExactCoboundaryDimensionWrongFalsely : Prop := fnExactCoboundaryDimensionRow.holds Try.pinned (OpenSpec.ofChange fnExactCoboundaryDimensionWrong)

/-- 'laws.FnExactInvariantOf': WHATEVER THE INPUT: true; the input reads as it did. -/
def fnExactInvariantOfSpec : ChangeSpec := { name := "fnExactInvariantOf", fn := fun _ => fun
  | [d1, d2] => { results := [.lit (.bool true)], args := [d1, d2] }
  | _ => none }
def fnExactInvariantOfRow : OpenClaim := { program := "ythjlpgaoemdmkaa", sum := "50602573a6781351409fc80f6605b59f388b3e118f32439d6ae4fb0f0d594210", func := "loop.example/g01132/laws.FnExactInvariantOf", spec := "fnExactInvariantOf", unfollowed := true, recurses := true, apart := false }
def FnExactInvariantOfSaid : Prop := fnExactInvariantOfRow.holds Try.pinned (OpenSpec.ofChange fnExactInvariantOfSpec)

/-- ITS FALSE NEIGHBOUR: 'it returns false'. Refute it at one input. -/
def fnExactInvariantOfWrong : ChangeSpec := { name := "fnExactInvariantOf", fn := fun _ => fun
  | [d1, d2] => { results := [.lit (.bool false)], args := [d1, d2] }
  | _ => none }
def FnExactInvariantOfWrongFalsely : Prop := fnExactInvariantOfRow.holds Try.pinned (OpenSpec.ofChange fnExactInvariantOfWrong)

/-- 'laws.FnExactCocycleFault': WHATEVER THE INPUT: true; the input reads as it did. -/
def fnExactCocycleFaultSpec : ChangeSpec := { name := "fnExactCocycleFault", fn := fun _ => fun
  | [d] => { results := [.lit (.bool true)], args := [d] }
  | _ => none }
def fnExactCocycleFaultRow : OpenClaim := { program := "ythjlpgaoemdmkaa", sum := "50602573a6781351409fc80f6605b59f388b3e118f32439d6ae4fb0f0d594210", func := "loop.example/g01132/laws.FnExactCocycleFault", spec := "fnExactCocycleFault", unfollowed := true, recurses := true, apart := false }
def FnExactCocycleFaultSaid : Prop := fnExactCocycleFaultRow.holds Try.pinned (OpenSpec.ofChange fnExactCocycleFaultSpec)

/-- ITS FALSE NEIGHBOUR: 'it returns false'. Refute it at one input. -/
def fnExactCocycleFaultWrong : ChangeSpec := { name := "fnExactCocycleFault", fn := fun _ => fun
  | [d] => { results := [.lit (.bool false)], args := [d] }
  | _ => none }
def FnExactCocycleFaultWrongFalsely : Prop := fnExactCocycleFaultRow.holds Try.pinned (OpenSpec.ofChange fnExactCocycleFaultWrong)

/-- 'laws.FnExactCoboundaryOf': WHATEVER THE INPUT: true; the input reads as it did. -/
def fnExactCoboundaryOfSpec : ChangeSpec := { name := "fnExactCoboundaryOf", fn := fun _ => fun
  | [d1, d2, d3] => { results := [.lit (.bool true)], args := [d1, d2, d3] }
  | _ => none }
def fnExactCoboundaryOfRow : OpenClaim := { program := "ythjlpgaoemdmkaa", sum := "50602573a6781351409fc80f6605b59f388b3e118f32439d6ae4fb0f0d594210", func := "loop.example/g01132/laws.FnExactCoboundaryOf", spec := "fnExactCoboundaryOf", unfollowed := true, recurses := true, apart := false }
def FnExactCoboundaryOfSaid : Prop := fnExactCoboundaryOfRow.holds Try.pinned (OpenSpec.ofChange fnExactCoboundaryOfSpec)

/-- ITS FALSE NEIGHBOUR: 'it returns false'. Refute it at one input. -/
def fnExactCoboundaryOfWrong : ChangeSpec := { name := "fnExactCoboundaryOf", fn := fun _ => fun
  | [d1, d2, d3] => { results := [.lit (.bool false)], args := [d1, d2, d3] }
  | _ => none }
def FnExactCoboundaryOfWrongFalsely : Prop := fnExactCoboundaryOfRow.holds Try.pinned (OpenSpec.ofChange fnExactCoboundaryOfWrong)

/- THE SECOND FORM. 'bulk': how many values and letters a reading holds, each counted each time it is reached (what is shared counts as often as it is met; a slice's spare places count too). A statement '..UptoSaid' is the law's where the arguments, and the package variables that the reading takes, are together of bulk at most 1048576: NARROWER than '..Said'. Prove '..Said' where nothing that the law and all that it calls make is longer than what came in: it says more and counts as full. Else prove '..UptoSaid'. A law counts once. -/
mutual
def uptoBulk {H : Type} : DataW H → Nat
  | .lit (.string bytes) => bytes.length + 1
  | .lit _ => 1
  | .nil => 1
  | .ptr d => uptoBulk d + 1
  | .slice elems spare => uptoBulkAll elems + uptoBulkAll spare + 1
  | .agg parts => uptoBulkAll parts + 1
  | .iface _ d => uptoBulk d + 1
  | .map entries => uptoBulkEntries entries + 1
  | .held _ => 1
def uptoBulkAll {H : Type} : List (DataW H) → Nat
  | [] => 0
  | d :: r => uptoBulk d + uptoBulkAll r
def uptoBulkEntries {H : Type} : List (Lit × DataW H) → Nat
  | [] => 0
  | x :: r => uptoBulkEntry x + uptoBulkEntries r
def uptoBulkEntry {H : Type} : Lit × DataW H → Nat
  | (.string bytes, d) => bytes.length + uptoBulk d + 1
  | (_, d) => uptoBulk d + 1
 end
def uptoSmall : (H : Type) → List (DataW H) → Bool := fun _ ds => decide (uptoBulkAll ds ≤ 1048576)
def OpenSpec.upto (s : _root_.Go.ChangeSpec) : _root_.Go.OpenSpec := { _root_.Go.OpenSpec.ofChange s with cond := some uptoSmall }

/-- 'laws.FnExactTripleCocycle', WHERE WHAT IT READS IS OF BULK AT MOST 1048576: true; the input reads as it did. -/
def fnExactTripleCocycleUptoRow : OpenClaim := { program := "ythjlpgaoemdmkaa", sum := "50602573a6781351409fc80f6605b59f388b3e118f32439d6ae4fb0f0d594210", func := "loop.example/g01132/laws.FnExactTripleCocycle", spec := "fnExactTripleCocycle", unfollowed := true, recurses := true, apart := false, narrowed := true }
def FnExactTripleCocycleUptoSaid : Prop := fnExactTripleCocycleUptoRow.holds Try.pinned (OpenSpec.upto fnExactTripleCocycleSpec)

/-- 'laws.FnExactCyclicCocycle', WHERE WHAT IT READS IS OF BULK AT MOST 1048576: true; the input reads as it did. -/
def fnExactCyclicCocycleUptoRow : OpenClaim := { program := "ythjlpgaoemdmkaa", sum := "50602573a6781351409fc80f6605b59f388b3e118f32439d6ae4fb0f0d594210", func := "loop.example/g01132/laws.FnExactCyclicCocycle", spec := "fnExactCyclicCocycle", unfollowed := true, recurses := true, apart := false, narrowed := true }
def FnExactCyclicCocycleUptoSaid : Prop := fnExactCyclicCocycleUptoRow.holds Try.pinned (OpenSpec.upto fnExactCyclicCocycleSpec)

/-- 'laws.FnExactMixedCocycle', WHERE WHAT IT READS IS OF BULK AT MOST 1048576: true; the input reads as it did. -/
def fnExactMixedCocycleUptoRow : OpenClaim := { program := "ythjlpgaoemdmkaa", sum := "50602573a6781351409fc80f6605b59f388b3e118f32439d6ae4fb0f0d594210", func := "loop.example/g01132/laws.FnExactMixedCocycle", spec := "fnExactMixedCocycle", unfollowed := true, recurses := true, apart := false, narrowed := true }
def FnExactMixedCocycleUptoSaid : Prop := fnExactMixedCocycleUptoRow.holds Try.pinned (OpenSpec.upto fnExactMixedCocycleSpec)

/-- 'laws.FnExactStandardBraiding', WHERE WHAT IT READS IS OF BULK AT MOST 1048576: true; the input reads as it did. -/
def fnExactStandardBraidingUptoRow : OpenClaim := { program := "ythjlpgaoemdmkaa", sum := "50602573a6781351409fc80f6605b59f388b3e118f32439d6ae4fb0f0d594210", func := "loop.example/g01132/laws.FnExactStandardBraiding", spec := "fnExactStandardBraiding", unfollowed := true, recurses := true, apart := false, narrowed := true }
def FnExactStandardBraidingUptoSaid : Prop := fnExactStandardBraidingUptoRow.holds Try.pinned (OpenSpec.upto fnExactStandardBraidingSpec)

/-- 'laws.FnExactCocycleDimension', WHERE WHAT IT READS IS OF BULK AT MOST 1048576: true; the input reads as it did. -/
def fnExactCocycleDimensionUptoRow : OpenClaim := { program := "ythjlpgaoemdmkaa", sum := "50602573a6781351409fc80f6605b59f388b3e118f32439d6ae4fb0f0d594210", func := "loop.example/g01132/laws.FnExactCocycleDimension", spec := "fnExactCocycleDimension", unfollowed := true, recurses := true, apart := false, narrowed := true }
def FnExactCocycleDimensionUptoSaid : Prop := fnExactCocycleDimensionUptoRow.holds Try.pinned (OpenSpec.upto fnExactCocycleDimensionSpec)

/-- 'laws.FnExactIsCocycle', WHERE WHAT IT READS IS OF BULK AT MOST 1048576: true; the input reads as it did. -/
def fnExactIsCocycleUptoRow : OpenClaim := { program := "ythjlpgaoemdmkaa", sum := "50602573a6781351409fc80f6605b59f388b3e118f32439d6ae4fb0f0d594210", func := "loop.example/g01132/laws.FnExactIsCocycle", spec := "fnExactIsCocycle", unfollowed := true, recurses := true, apart := false, narrowed := true }
def FnExactIsCocycleUptoSaid : Prop := fnExactIsCocycleUptoRow.holds Try.pinned (OpenSpec.upto fnExactIsCocycleSpec)

/-- 'laws.FnExactCoboundaryDimension', WHERE WHAT IT READS IS OF BULK AT MOST 1048576: true; the input reads as it did. -/
def fnExactCoboundaryDimensionUptoRow : OpenClaim := { program := "ythjlpgaoemdmkaa", sum := "50602573a6781351409fc80f6605b59f388b3e118f32439d6ae4fb0f0d594210", func := "loop.example/g01132/laws.FnExactCoboundaryDimension", spec := "fnExactCoboundaryDimension", unfollowed := true, recurses := true, apart := false, narrowed := true }
def FnExactCoboundaryDimensionUptoSaid : Prop := fnExactCoboundaryDimensionUptoRow.holds Try.pinned (OpenSpec.upto fnExactCoboundaryDimensionSpec)

/-- 'laws.FnExactInvariantOf', WHERE WHAT IT READS IS OF BULK AT MOST 1048576: true; the input reads as it did. -/
def fnExactInvariantOfUptoRow : OpenClaim := { program := "ythjlpgaoemdmkaa", sum := "50602573a6781351409fc80f6605b59f388b3e118f32439d6ae4fb0f0d594210", func := "loop.example/g01132/laws.FnExactInvariantOf", spec := "fnExactInvariantOf", unfollowed := true, recurses := true, apart := false, narrowed := true }
def FnExactInvariantOfUptoSaid : Prop := fnExactInvariantOfUptoRow.holds Try.pinned (OpenSpec.upto fnExactInvariantOfSpec)

/-- 'laws.FnExactCocycleFault', WHERE WHAT IT READS IS OF BULK AT MOST 1048576: true; the input reads as it did. -/
def fnExactCocycleFaultUptoRow : OpenClaim := { program := "ythjlpgaoemdmkaa", sum := "50602573a6781351409fc80f6605b59f388b3e118f32439d6ae4fb0f0d594210", func := "loop.example/g01132/laws.FnExactCocycleFault", spec := "fnExactCocycleFault", unfollowed := true, recurses := true, apart := false, narrowed := true }
def FnExactCocycleFaultUptoSaid : Prop := fnExactCocycleFaultUptoRow.holds Try.pinned (OpenSpec.upto fnExactCocycleFaultSpec)

/-- 'laws.FnExactCoboundaryOf', WHERE WHAT IT READS IS OF BULK AT MOST 1048576: true; the input reads as it did. -/
def fnExactCoboundaryOfUptoRow : OpenClaim := { program := "ythjlpgaoemdmkaa", sum := "50602573a6781351409fc80f6605b59f388b3e118f32439d6ae4fb0f0d594210", func := "loop.example/g01132/laws.FnExactCoboundaryOf", spec := "fnExactCoboundaryOf", unfollowed := true, recurses := true, apart := false, narrowed := true }
def FnExactCoboundaryOfUptoSaid : Prop := fnExactCoboundaryOfUptoRow.holds Try.pinned (OpenSpec.upto fnExactCoboundaryOfSpec)

end Rows
end Go.Proofs.Ythjlpgaoemdmkaa
