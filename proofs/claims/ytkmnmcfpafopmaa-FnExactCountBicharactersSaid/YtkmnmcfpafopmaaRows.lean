/-
  No cell of these rows narrows 'for every input' (looked for: loops, veiled, ifaces, maps, wideKeys, modest, calm, conditions, laid).
  DERIVED. THE GIVEN ROWS OF THIS SEAT. 6 by the template 'for every input the law returns true; each argument reads behind the call as it read before'; 0 by the template 'total and deterministic' (their statements: YtkmnmcfpafopmaaTotals.lean).
  GIVEN WITH THE SEED: the statements are not yours to turn. If you find one false, say at which input.
  Laid BY PROGRAM, IN A SANDBOX (cutbox-rows.mjs): the forced cells as the released guide's own fill.sh prints them over the translation 7bd688bf30f16c42… (all of the seat's roots in one cut). By AI agents, Wed Nov 11 2026. No macro, syntax, notation, axiom, sorry.
-/
import Derived.Test.YtkmnmcfpafopmaaChecked
import GoSem.Claim
import GoSem.ClaimJoined
import GoSem.ClaimMapViews
import Derived.JoinedTies
import Derived.KernelRfl
namespace Go.Proofs.Ytkmnmcfpafopmaa
/- THE CELL 'sum', in the pinned program and in every row, IS THE sha256 OF THE DUMP (.gsa) THAT YtkmnmcfpafopmaaProg.lean LOADS. Nothing in Lean hashes anything: it is a label: what it is worth is what the hold of that sum in a sandbox is worth. -/
noncomputable def Try.pinned : Pinned := { name := "ytkmnmcfpafopmaa", sum := "7bd688bf30f16c420da70011a43e9e43d15d3128f959003b2087ba7ff795e701", checked := Try.checked }
namespace Rows
def none {H : Type} : Left H := { results := [], args := [] }

/-- 'laws.FnExactHyperbolicMetric': WHATEVER THE INPUT: true; the input reads as it did. -/
def fnExactHyperbolicMetricSpec : ChangeSpec := { name := "fnExactHyperbolicMetric", fn := fun _ => fun
  | [d] => { results := [.lit (.bool true)], args := [d] }
  | _ => none }
def fnExactHyperbolicMetricRow : OpenClaim := { program := "ytkmnmcfpafopmaa", sum := "7bd688bf30f16c420da70011a43e9e43d15d3128f959003b2087ba7ff795e701", func := "loop.example/g01132/laws.FnExactHyperbolicMetric", spec := "fnExactHyperbolicMetric", apart := false }
def FnExactHyperbolicMetricSaid : Prop := fnExactHyperbolicMetricRow.holds Try.pinned (OpenSpec.ofChange fnExactHyperbolicMetricSpec)

/-- ITS FALSE NEIGHBOUR: 'it returns false'. Refute it at one input. -/
def fnExactHyperbolicMetricWrong : ChangeSpec := { name := "fnExactHyperbolicMetric", fn := fun _ => fun
  | [d] => { results := [.lit (.bool false)], args := [d] }
  | _ => none }
def FnExactHyperbolicMetricWrongFalsely : Prop := fnExactHyperbolicMetricRow.holds Try.pinned (OpenSpec.ofChange fnExactHyperbolicMetricWrong)

/-- 'laws.FnExactCyclicMetric': WHATEVER THE INPUT: true; the input reads as it did. -/
def fnExactCyclicMetricSpec : ChangeSpec := { name := "fnExactCyclicMetric", fn := fun _ => fun
  | [d1, d2] => { results := [.lit (.bool true)], args := [d1, d2] }
  | _ => none }
def fnExactCyclicMetricRow : OpenClaim := { program := "ytkmnmcfpafopmaa", sum := "7bd688bf30f16c420da70011a43e9e43d15d3128f959003b2087ba7ff795e701", func := "loop.example/g01132/laws.FnExactCyclicMetric", spec := "fnExactCyclicMetric", apart := false }
def FnExactCyclicMetricSaid : Prop := fnExactCyclicMetricRow.holds Try.pinned (OpenSpec.ofChange fnExactCyclicMetricSpec)

/-- ITS FALSE NEIGHBOUR: 'it returns false'. Refute it at one input. -/
def fnExactCyclicMetricWrong : ChangeSpec := { name := "fnExactCyclicMetric", fn := fun _ => fun
  | [d1, d2] => { results := [.lit (.bool false)], args := [d1, d2] }
  | _ => none }
def FnExactCyclicMetricWrongFalsely : Prop := fnExactCyclicMetricRow.holds Try.pinned (OpenSpec.ofChange fnExactCyclicMetricWrong)

/-- 'laws.FnExactCountBicharacters': WHATEVER THE INPUT: true; the input reads as it did. -/
def fnExactCountBicharactersSpec : ChangeSpec := { name := "fnExactCountBicharacters", fn := fun _ => fun
  | [d1, d2] => { results := [.lit (.bool true)], args := [d1, d2] }
  | _ => none }
def fnExactCountBicharactersRow : OpenClaim := { program := "ytkmnmcfpafopmaa", sum := "7bd688bf30f16c420da70011a43e9e43d15d3128f959003b2087ba7ff795e701", func := "loop.example/g01132/laws.FnExactCountBicharacters", spec := "fnExactCountBicharacters", apart := false }
def FnExactCountBicharactersSaid : Prop := fnExactCountBicharactersRow.holds Try.pinned (OpenSpec.ofChange fnExactCountBicharactersSpec)

/-- ITS FALSE NEIGHBOUR: 'it returns false'. Refute it at one input. -/
def fnExactCountBicharactersWrong : ChangeSpec := { name := "fnExactCountBicharacters", fn := fun _ => fun
  | [d1, d2] => { results := [.lit (.bool false)], args := [d1, d2] }
  | _ => none }
def FnExactCountBicharactersWrongFalsely : Prop := fnExactCountBicharactersRow.holds Try.pinned (OpenSpec.ofChange fnExactCountBicharactersWrong)

/-- 'laws.FnExactTripleCocycle': WHATEVER THE INPUT: true; the input reads as it did. -/
def fnExactTripleCocycleSpec : ChangeSpec := { name := "fnExactTripleCocycle", fn := fun _ => fun
  | [] => { results := [.lit (.bool true)], args := [] }
  | _ => none }
def fnExactTripleCocycleRow : OpenClaim := { program := "ytkmnmcfpafopmaa", sum := "7bd688bf30f16c420da70011a43e9e43d15d3128f959003b2087ba7ff795e701", func := "loop.example/g01132/laws.FnExactTripleCocycle", spec := "fnExactTripleCocycle", unfollowed := true, recurses := true, apart := false }
def FnExactTripleCocycleSaid : Prop := fnExactTripleCocycleRow.holds Try.pinned (OpenSpec.ofChange fnExactTripleCocycleSpec)

/-- ITS FALSE NEIGHBOUR: 'it returns false'. Refute it at one input. -/
def fnExactTripleCocycleWrong : ChangeSpec := { name := "fnExactTripleCocycle", fn := fun _ => fun
  | [] => { results := [.lit (.bool false)], args := [] }
  | _ => none }
def FnExactTripleCocycleWrongFalsely : Prop := fnExactTripleCocycleRow.holds Try.pinned (OpenSpec.ofChange fnExactTripleCocycleWrong)

/-- 'laws.FnExactCyclicCocycle': WHATEVER THE INPUT: true; the input reads as it did. -/
def fnExactCyclicCocycleSpec : ChangeSpec := { name := "fnExactCyclicCocycle", fn := fun _ => fun
  | [d1, d2] => { results := [.lit (.bool true)], args := [d1, d2] }
  | _ => none }
def fnExactCyclicCocycleRow : OpenClaim := { program := "ytkmnmcfpafopmaa", sum := "7bd688bf30f16c420da70011a43e9e43d15d3128f959003b2087ba7ff795e701", func := "loop.example/g01132/laws.FnExactCyclicCocycle", spec := "fnExactCyclicCocycle", unfollowed := true, recurses := true, apart := false }
def FnExactCyclicCocycleSaid : Prop := fnExactCyclicCocycleRow.holds Try.pinned (OpenSpec.ofChange fnExactCyclicCocycleSpec)

/-- ITS FALSE NEIGHBOUR: 'it returns false'. Refute it at one input. -/
def fnExactCyclicCocycleWrong : ChangeSpec := { name := "fnExactCyclicCocycle", fn := fun _ => fun
  | [d1, d2] => { results := [.lit (.bool false)], args := [d1, d2] }
  | _ => none }
def FnExactCyclicCocycleWrongFalsely : Prop := fnExactCyclicCocycleRow.holds Try.pinned (OpenSpec.ofChange fnExactCyclicCocycleWrong)

/-- 'laws.FnExactMixedCocycle': WHATEVER THE INPUT: true; the input reads as it did. -/
def fnExactMixedCocycleSpec : ChangeSpec := { name := "fnExactMixedCocycle", fn := fun _ => fun
  | [d1, d2, d3] => { results := [.lit (.bool true)], args := [d1, d2, d3] }
  | _ => none }
def fnExactMixedCocycleRow : OpenClaim := { program := "ytkmnmcfpafopmaa", sum := "7bd688bf30f16c420da70011a43e9e43d15d3128f959003b2087ba7ff795e701", func := "loop.example/g01132/laws.FnExactMixedCocycle", spec := "fnExactMixedCocycle", unfollowed := true, recurses := true, apart := false }
def FnExactMixedCocycleSaid : Prop := fnExactMixedCocycleRow.holds Try.pinned (OpenSpec.ofChange fnExactMixedCocycleSpec)

/-- ITS FALSE NEIGHBOUR: 'it returns false'. Refute it at one input. -/
def fnExactMixedCocycleWrong : ChangeSpec := { name := "fnExactMixedCocycle", fn := fun _ => fun
  | [d1, d2, d3] => { results := [.lit (.bool false)], args := [d1, d2, d3] }
  | _ => none }
def FnExactMixedCocycleWrongFalsely : Prop := fnExactMixedCocycleRow.holds Try.pinned (OpenSpec.ofChange fnExactMixedCocycleWrong)

/- THE SECOND FORM. 'bulk': how many values and letters a reading holds, each counted each time it is reached (what is shared counts as often as it is met; a slice's spare places count too). A statement '..UptoSaid' is the law's where the arguments, and the package variables that the reading takes, are together of bulk at most 1048576: NARROWER than '..Said'. Prove '..Said' where nothing that the law and all that it calls make is longer than what came in: it says more and counts as full. Else prove '..UptoSaid'. A law counts once. -/
mutual
def uptoBulk {H : Type} : DataW H → Nat
  | .lit (.string bytes) => bytes.length + 1
  | .lit _ => 1
  | .nil => 1
  | .ptr d => uptoBulk d + 1
  | .slice elems spare => uptoBulkAll elems + uptoBulkAll spare + 1
  | .agg parts => uptoBulkAll parts + 1
  | .iface _ d => uptoBulk d + 1
  | .map entries => uptoBulkEntries entries + 1
  | .held _ => 1
def uptoBulkAll {H : Type} : List (DataW H) → Nat
  | [] => 0
  | d :: r => uptoBulk d + uptoBulkAll r
def uptoBulkEntries {H : Type} : List (Lit × DataW H) → Nat
  | [] => 0
  | x :: r => uptoBulkEntry x + uptoBulkEntries r
def uptoBulkEntry {H : Type} : Lit × DataW H → Nat
  | (.string bytes, d) => bytes.length + uptoBulk d + 1
  | (_, d) => uptoBulk d + 1
 end
def uptoSmall : (H : Type) → List (DataW H) → Bool := fun _ ds => decide (uptoBulkAll ds ≤ 1048576)
def OpenSpec.upto (s : _root_.Go.ChangeSpec) : _root_.Go.OpenSpec := { _root_.Go.OpenSpec.ofChange s with cond := some uptoSmall }

/-- 'laws.FnExactHyperbolicMetric', WHERE WHAT IT READS IS OF BULK AT MOST 1048576: true; the input reads as it did. -/
def fnExactHyperbolicMetricUptoRow : OpenClaim := { program := "ytkmnmcfpafopmaa", sum := "7bd688bf30f16c420da70011a43e9e43d15d3128f959003b2087ba7ff795e701", func := "loop.example/g01132/laws.FnExactHyperbolicMetric", spec := "fnExactHyperbolicMetric", apart := false, narrowed := true }
def FnExactHyperbolicMetricUptoSaid : Prop := fnExactHyperbolicMetricUptoRow.holds Try.pinned (OpenSpec.upto fnExactHyperbolicMetricSpec)

/-- 'laws.FnExactCyclicMetric', WHERE WHAT IT READS IS OF BULK AT MOST 1048576: true; the input reads as it did. -/
def fnExactCyclicMetricUptoRow : OpenClaim := { program := "ytkmnmcfpafopmaa", sum := "7bd688bf30f16c420da70011a43e9e43d15d3128f959003b2087ba7ff795e701", func := "loop.example/g01132/laws.FnExactCyclicMetric", spec := "fnExactCyclicMetric", apart := false, narrowed := true }
def FnExactCyclicMetricUptoSaid : Prop := fnExactCyclicMetricUptoRow.holds Try.pinned (OpenSpec.upto fnExactCyclicMetricSpec)

/-- 'laws.FnExactCountBicharacters', WHERE WHAT IT READS IS OF BULK AT MOST 1048576: true; the input reads as it did. -/
def fnExactCountBicharactersUptoRow : OpenClaim := { program := "ytkmnmcfpafopmaa", sum := "7bd688bf30f16c420da70011a43e9e43d15d3128f959003b2087ba7ff795e701", func := "loop.example/g01132/laws.FnExactCountBicharacters", spec := "fnExactCountBicharacters", apart := false, narrowed := true }
def FnExactCountBicharactersUptoSaid : Prop := fnExactCountBicharactersUptoRow.holds Try.pinned (OpenSpec.upto fnExactCountBicharactersSpec)

/-- 'laws.FnExactTripleCocycle', WHERE WHAT IT READS IS OF BULK AT MOST 1048576: true; the input reads as it did. -/
def fnExactTripleCocycleUptoRow : OpenClaim := { program := "ytkmnmcfpafopmaa", sum := "7bd688bf30f16c420da70011a43e9e43d15d3128f959003b2087ba7ff795e701", func := "loop.example/g01132/laws.FnExactTripleCocycle", spec := "fnExactTripleCocycle", unfollowed := true, recurses := true, apart := false, narrowed := true }
def FnExactTripleCocycleUptoSaid : Prop := fnExactTripleCocycleUptoRow.holds Try.pinned (OpenSpec.upto fnExactTripleCocycleSpec)

/-- 'laws.FnExactCyclicCocycle', WHERE WHAT IT READS IS OF BULK AT MOST 1048576: true; the input reads as it did. -/
def fnExactCyclicCocycleUptoRow : OpenClaim := { program := "ytkmnmcfpafopmaa", sum := "7bd688bf30f16c420da70011a43e9e43d15d3128f959003b2087ba7ff795e701", func := "loop.example/g01132/laws.FnExactCyclicCocycle", spec := "fnExactCyclicCocycle", unfollowed := true, recurses := true, apart := false, narrowed := true }
def FnExactCyclicCocycleUptoSaid : Prop := fnExactCyclicCocycleUptoRow.holds Try.pinned (OpenSpec.upto fnExactCyclicCocycleSpec)

/-- 'laws.FnExactMixedCocycle', WHERE WHAT IT READS IS OF BULK AT MOST 1048576: true; the input reads as it did. -/
def fnExactMixedCocycleUptoRow : OpenClaim := { program := "ytkmnmcfpafopmaa", sum := "7bd688bf30f16c420da70011a43e9e43d15d3128f959003b2087ba7ff795e701", func := "loop.example/g01132/laws.FnExactMixedCocycle", spec := "fnExactMixedCocycle", unfollowed := true, recurses := true, apart := false, narrowed := true }
def FnExactMixedCocycleUptoSaid : Prop := fnExactMixedCocycleUptoRow.holds Try.pinned (OpenSpec.upto fnExactMixedCocycleSpec)

end Rows
end Go.Proofs.Ytkmnmcfpafopmaa
