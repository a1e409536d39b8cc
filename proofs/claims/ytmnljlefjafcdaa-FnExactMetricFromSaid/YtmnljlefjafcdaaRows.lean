/-
  No cell of these rows narrows 'for every input' (looked for: loops, veiled, ifaces, maps, wideKeys, modest, calm, conditions, laid).
  DERIVED. THE GIVEN ROWS OF THIS SEAT. 12 by the template 'for every input the law returns true; each argument reads behind the call as it read before'; 0 by the template 'total and deterministic' (their statements: YtmnljlefjafcdaaTotals.lean).
  GIVEN WITH THE SEED: the statements are not yours to turn. If you find one false, say at which input.
  Laid BY PROGRAM, IN A SANDBOX (cutbox-rows.mjs): the forced cells as the released guide's own fill.sh prints them over the translation cbddece8e827c8cf… (all of the seat's roots in one cut). By AI agents, Wed Nov 11 2026. No macro, syntax, notation, axiom, sorry.
-/
import Derived.Test.YtmnljlefjafcdaaChecked
import GoSem.Claim
import GoSem.ClaimJoined
import GoSem.ClaimMapViews
import Derived.JoinedTies
import Derived.KernelRfl
namespace Go.Proofs.Ytmnljlefjafcdaa
/- THE CELL 'sum', in the pinned program and in every row, IS THE sha256 OF THE DUMP (.gsa) THAT YtmnljlefjafcdaaProg.lean LOADS. Nothing in Lean hashes anything: it is a label: what it is worth is what the hold of that sum in a sandbox is worth. -/
noncomputable def Try.pinned : Pinned := { name := "ytmnljlefjafcdaa", sum := "cbddece8e827c8cf092882dc75185012a09f7f42852aba6d2b153e007d7bc937", checked := Try.checked }
namespace Rows
def none {H : Type} : Left H := { results := [], args := [] }

/-- 'laws.FnExactIsNondegenerate': WHATEVER THE INPUT: true; the input reads as it did. -/
def fnExactIsNondegenerateSpec : ChangeSpec := { name := "fnExactIsNondegenerate", fn := fun _ => fun
  | [d] => { results := [.lit (.bool true)], args := [d] }
  | _ => none }
def fnExactIsNondegenerateRow : OpenClaim := { program := "ytmnljlefjafcdaa", sum := "cbddece8e827c8cf092882dc75185012a09f7f42852aba6d2b153e007d7bc937", func := "loop.example/g01132/laws.FnExactIsNondegenerate", spec := "fnExactIsNondegenerate", unfollowed := true, recurses := true, apart := false }
def FnExactIsNondegenerateSaid : Prop := fnExactIsNondegenerateRow.holds Try.pinned (OpenSpec.ofChange fnExactIsNondegenerateSpec)

/-- ITS FALSE NEIGHBOUR: 'it returns false'. Refute it at one input. -/
def fnExactIsNondegenerateWrong : ChangeSpec := { name := "fnExactIsNondegenerate", fn := fun _ => fun
  | [d] => { results := [.lit (.bool false)], args := [d] }
  | _ => none }
def FnExactIsNondegenerateWrongFalsely : Prop := fnExactIsNondegenerateRow.holds Try.pinned (OpenSpec.ofChange fnExactIsNondegenerateWrong)

/-- 'laws.FnExactRadicalOf': WHATEVER THE INPUT: true; the input reads as it did. -/
def fnExactRadicalOfSpec : ChangeSpec := { name := "fnExactRadicalOf", fn := fun _ => fun
  | [d] => { results := [.lit (.bool true)], args := [d] }
  | _ => none }
def fnExactRadicalOfRow : OpenClaim := { program := "ytmnljlefjafcdaa", sum := "cbddece8e827c8cf092882dc75185012a09f7f42852aba6d2b153e007d7bc937", func := "loop.example/g01132/laws.FnExactRadicalOf", spec := "fnExactRadicalOf", unfollowed := true, recurses := true, apart := false }
def FnExactRadicalOfSaid : Prop := fnExactRadicalOfRow.holds Try.pinned (OpenSpec.ofChange fnExactRadicalOfSpec)

/-- ITS FALSE NEIGHBOUR: 'it returns false'. Refute it at one input. -/
def fnExactRadicalOfWrong : ChangeSpec := { name := "fnExactRadicalOf", fn := fun _ => fun
  | [d] => { results := [.lit (.bool false)], args := [d] }
  | _ => none }
def FnExactRadicalOfWrongFalsely : Prop := fnExactRadicalOfRow.holds Try.pinned (OpenSpec.ofChange fnExactRadicalOfWrong)

/-- 'laws.FnExactNegativeMetric': WHATEVER THE INPUT: true; the input reads as it did. -/
def fnExactNegativeMetricSpec : ChangeSpec := { name := "fnExactNegativeMetric", fn := fun _ => fun
  | [d] => { results := [.lit (.bool true)], args := [d] }
  | _ => none }
def fnExactNegativeMetricRow : OpenClaim := { program := "ytmnljlefjafcdaa", sum := "cbddece8e827c8cf092882dc75185012a09f7f42852aba6d2b153e007d7bc937", func := "loop.example/g01132/laws.FnExactNegativeMetric", spec := "fnExactNegativeMetric", unfollowed := true, recurses := true, apart := false }
def FnExactNegativeMetricSaid : Prop := fnExactNegativeMetricRow.holds Try.pinned (OpenSpec.ofChange fnExactNegativeMetricSpec)

/-- ITS FALSE NEIGHBOUR: 'it returns false'. Refute it at one input. -/
def fnExactNegativeMetricWrong : ChangeSpec := { name := "fnExactNegativeMetric", fn := fun _ => fun
  | [d] => { results := [.lit (.bool false)], args := [d] }
  | _ => none }
def FnExactNegativeMetricWrongFalsely : Prop := fnExactNegativeMetricRow.holds Try.pinned (OpenSpec.ofChange fnExactNegativeMetricWrong)

/-- 'laws.FnExactMetricFrom': WHATEVER THE INPUT: true; the input reads as it did. -/
def fnExactMetricFromSpec : ChangeSpec := { name := "fnExactMetricFrom", fn := fun _ => fun
  | [d1, d2, d3, d4] => { results := [.lit (.bool true)], args := [d1, d2, d3, d4] }
  | _ => none }
def fnExactMetricFromRow : OpenClaim := { program := "ytmnljlefjafcdaa", sum := "cbddece8e827c8cf092882dc75185012a09f7f42852aba6d2b153e007d7bc937", func := "loop.example/g01132/laws.FnExactMetricFrom", spec := "fnExactMetricFrom", unfollowed := true, recurses := true, apart := false }
def FnExactMetricFromSaid : Prop := fnExactMetricFromRow.holds Try.pinned (OpenSpec.ofChange fnExactMetricFromSpec)

/-- ITS FALSE NEIGHBOUR: 'it returns false'. Refute it at one input. -/
def fnExactMetricFromWrong : ChangeSpec := { name := "fnExactMetricFrom", fn := fun _ => fun
  | [d1, d2, d3, d4] => { results := [.lit (.bool false)], args := [d1, d2, d3, d4] }
  | _ => none }
def FnExactMetricFromWrongFalsely : Prop := fnExactMetricFromRow.holds Try.pinned (OpenSpec.ofChange fnExactMetricFromWrong)

/-- 'laws.FnExactSumOfMetrics': WHATEVER THE INPUT: true; the input reads as it did. -/
def fnExactSumOfMetricsSpec : ChangeSpec := { name := "fnExactSumOfMetrics", fn := fun _ => fun
  | [d1, d2] => { results := [.lit (.bool true)], args := [d1, d2] }
  | _ => none }
def fnExactSumOfMetricsRow : OpenClaim := { program := "ytmnljlefjafcdaa", sum := "cbddece8e827c8cf092882dc75185012a09f7f42852aba6d2b153e007d7bc937", func := "loop.example/g01132/laws.FnExactSumOfMetrics", spec := "fnExactSumOfMetrics", unfollowed := true, recurses := true, apart := false }
def FnExactSumOfMetricsSaid : Prop := fnExactSumOfMetricsRow.holds Try.pinned (OpenSpec.ofChange fnExactSumOfMetricsSpec)

/-- ITS FALSE NEIGHBOUR: 'it returns false'. Refute it at one input. -/
def fnExactSumOfMetricsWrong : ChangeSpec := { name := "fnExactSumOfMetrics", fn := fun _ => fun
  | [d1, d2] => { results := [.lit (.bool false)], args := [d1, d2] }
  | _ => none }
def FnExactSumOfMetricsWrongFalsely : Prop := fnExactSumOfMetricsRow.holds Try.pinned (OpenSpec.ofChange fnExactSumOfMetricsWrong)

/-- 'laws.FnExactIsSubgroup': WHATEVER THE INPUT: true; the input reads as it did. -/
def fnExactIsSubgroupSpec : ChangeSpec := { name := "fnExactIsSubgroup", fn := fun _ => fun
  | [d1, d2] => { results := [.lit (.bool true)], args := [d1, d2] }
  | _ => none }
def fnExactIsSubgroupRow : OpenClaim := { program := "ytmnljlefjafcdaa", sum := "cbddece8e827c8cf092882dc75185012a09f7f42852aba6d2b153e007d7bc937", func := "loop.example/g01132/laws.FnExactIsSubgroup", spec := "fnExactIsSubgroup", unfollowed := true, recurses := true, apart := false }
def FnExactIsSubgroupSaid : Prop := fnExactIsSubgroupRow.holds Try.pinned (OpenSpec.ofChange fnExactIsSubgroupSpec)

/-- ITS FALSE NEIGHBOUR: 'it returns false'. Refute it at one input. -/
def fnExactIsSubgroupWrong : ChangeSpec := { name := "fnExactIsSubgroup", fn := fun _ => fun
  | [d1, d2] => { results := [.lit (.bool false)], args := [d1, d2] }
  | _ => none }
def FnExactIsSubgroupWrongFalsely : Prop := fnExactIsSubgroupRow.holds Try.pinned (OpenSpec.ofChange fnExactIsSubgroupWrong)

/-- 'laws.FnExactIsIsotropicSubgroup': WHATEVER THE INPUT: true; the input reads as it did. -/
def fnExactIsIsotropicSubgroupSpec : ChangeSpec := { name := "fnExactIsIsotropicSubgroup", fn := fun _ => fun
  | [d1, d2] => { results := [.lit (.bool true)], args := [d1, d2] }
  | _ => none }
def fnExactIsIsotropicSubgroupRow : OpenClaim := { program := "ytmnljlefjafcdaa", sum := "cbddece8e827c8cf092882dc75185012a09f7f42852aba6d2b153e007d7bc937", func := "loop.example/g01132/laws.FnExactIsIsotropicSubgroup", spec := "fnExactIsIsotropicSubgroup", unfollowed := true, recurses := true, apart := false }
def FnExactIsIsotropicSubgroupSaid : Prop := fnExactIsIsotropicSubgroupRow.holds Try.pinned (OpenSpec.ofChange fnExactIsIsotropicSubgroupSpec)

/-- ITS FALSE NEIGHBOUR: 'it returns false'. Refute it at one input. -/
def fnExactIsIsotropicSubgroupWrong : ChangeSpec := { name := "fnExactIsIsotropicSubgroup", fn := fun _ => fun
  | [d1, d2] => { results := [.lit (.bool false)], args := [d1, d2] }
  | _ => none }
def FnExactIsIsotropicSubgroupWrongFalsely : Prop := fnExactIsIsotropicSubgroupRow.holds Try.pinned (OpenSpec.ofChange fnExactIsIsotropicSubgroupWrong)

/-- 'laws.FnExactOrthogonalSubgroup': WHATEVER THE INPUT: true; the input reads as it did. -/
def fnExactOrthogonalSubgroupSpec : ChangeSpec := { name := "fnExactOrthogonalSubgroup", fn := fun _ => fun
  | [d1, d2] => { results := [.lit (.bool true)], args := [d1, d2] }
  | _ => none }
def fnExactOrthogonalSubgroupRow : OpenClaim := { program := "ytmnljlefjafcdaa", sum := "cbddece8e827c8cf092882dc75185012a09f7f42852aba6d2b153e007d7bc937", func := "loop.example/g01132/laws.FnExactOrthogonalSubgroup", spec := "fnExactOrthogonalSubgroup", unfollowed := true, recurses := true, apart := false }
def FnExactOrthogonalSubgroupSaid : Prop := fnExactOrthogonalSubgroupRow.holds Try.pinned (OpenSpec.ofChange fnExactOrthogonalSubgroupSpec)

/-- ITS FALSE NEIGHBOUR: 'it returns false'. Refute it at one input. -/
def fnExactOrthogonalSubgroupWrong : ChangeSpec := { name := "fnExactOrthogonalSubgroup", fn := fun _ => fun
  | [d1, d2] => { results := [.lit (.bool false)], args := [d1, d2] }
  | _ => none }
def FnExactOrthogonalSubgroupWrongFalsely : Prop := fnExactOrthogonalSubgroupRow.holds Try.pinned (OpenSpec.ofChange fnExactOrthogonalSubgroupWrong)

/-- 'laws.FnExactSubgroupFrom': WHATEVER THE INPUT: true; the input reads as it did. -/
def fnExactSubgroupFromSpec : ChangeSpec := { name := "fnExactSubgroupFrom", fn := fun _ => fun
  | [d1, d2] => { results := [.lit (.bool true)], args := [d1, d2] }
  | _ => none }
def fnExactSubgroupFromRow : OpenClaim := { program := "ytmnljlefjafcdaa", sum := "cbddece8e827c8cf092882dc75185012a09f7f42852aba6d2b153e007d7bc937", func := "loop.example/g01132/laws.FnExactSubgroupFrom", spec := "fnExactSubgroupFrom", unfollowed := true, recurses := true, apart := false }
def FnExactSubgroupFromSaid : Prop := fnExactSubgroupFromRow.holds Try.pinned (OpenSpec.ofChange fnExactSubgroupFromSpec)

/-- ITS FALSE NEIGHBOUR: 'it returns false'. Refute it at one input. -/
def fnExactSubgroupFromWrong : ChangeSpec := { name := "fnExactSubgroupFrom", fn := fun _ => fun
  | [d1, d2] => { results := [.lit (.bool false)], args := [d1, d2] }
  | _ => none }
def FnExactSubgroupFromWrongFalsely : Prop := fnExactSubgroupFromRow.holds Try.pinned (OpenSpec.ofChange fnExactSubgroupFromWrong)

/-- 'laws.FnExactQuotientGauss': WHATEVER THE INPUT: true; the input reads as it did. -/
def fnExactQuotientGaussSpec : ChangeSpec := { name := "fnExactQuotientGauss", fn := fun _ => fun
  | [d1, d2] => { results := [.lit (.bool true)], args := [d1, d2] }
  | _ => none }
def fnExactQuotientGaussRow : OpenClaim := { program := "ytmnljlefjafcdaa", sum := "cbddece8e827c8cf092882dc75185012a09f7f42852aba6d2b153e007d7bc937", func := "loop.example/g01132/laws.FnExactQuotientGauss", spec := "fnExactQuotientGauss", unfollowed := true, recurses := true, apart := false }
def FnExactQuotientGaussSaid : Prop := fnExactQuotientGaussRow.holds Try.pinned (OpenSpec.ofChange fnExactQuotientGaussSpec)

/-- ITS FALSE NEIGHBOUR: 'it returns false'. Refute it at one input. -/
def fnExactQuotientGaussWrong : ChangeSpec := { name := "fnExactQuotientGauss", fn := fun _ => fun
  | [d1, d2] => { results := [.lit (.bool false)], args := [d1, d2] }
  | _ => none }
def FnExactQuotientGaussWrongFalsely : Prop := fnExactQuotientGaussRow.holds Try.pinned (OpenSpec.ofChange fnExactQuotientGaussWrong)

/-- 'laws.FnExactCondenseMetric': WHATEVER THE INPUT: true; the input reads as it did. -/
def fnExactCondenseMetricSpec : ChangeSpec := { name := "fnExactCondenseMetric", fn := fun _ => fun
  | [d1, d2] => { results := [.lit (.bool true)], args := [d1, d2] }
  | _ => none }
def fnExactCondenseMetricRow : OpenClaim := { program := "ytmnljlefjafcdaa", sum := "cbddece8e827c8cf092882dc75185012a09f7f42852aba6d2b153e007d7bc937", func := "loop.example/g01132/laws.FnExactCondenseMetric", spec := "fnExactCondenseMetric", unfollowed := true, recurses := true, apart := false }
def FnExactCondenseMetricSaid : Prop := fnExactCondenseMetricRow.holds Try.pinned (OpenSpec.ofChange fnExactCondenseMetricSpec)

/-- ITS FALSE NEIGHBOUR: 'it returns false'. Refute it at one input. -/
def fnExactCondenseMetricWrong : ChangeSpec := { name := "fnExactCondenseMetric", fn := fun _ => fun
  | [d1, d2] => { results := [.lit (.bool false)], args := [d1, d2] }
  | _ => none }
def FnExactCondenseMetricWrongFalsely : Prop := fnExactCondenseMetricRow.holds Try.pinned (OpenSpec.ofChange fnExactCondenseMetricWrong)

/-- 'laws.FnExactValuesInOrder': WHATEVER THE INPUT: true; the input reads as it did. -/
def fnExactValuesInOrderSpec : ChangeSpec := { name := "fnExactValuesInOrder", fn := fun _ => fun
  | [d1, d2] => { results := [.lit (.bool true)], args := [d1, d2] }
  | _ => none }
def fnExactValuesInOrderRow : OpenClaim := { program := "ytmnljlefjafcdaa", sum := "cbddece8e827c8cf092882dc75185012a09f7f42852aba6d2b153e007d7bc937", func := "loop.example/g01132/laws.FnExactValuesInOrder", spec := "fnExactValuesInOrder", unfollowed := true, recurses := true, apart := false }
def FnExactValuesInOrderSaid : Prop := fnExactValuesInOrderRow.holds Try.pinned (OpenSpec.ofChange fnExactValuesInOrderSpec)

/-- ITS FALSE NEIGHBOUR: 'it returns false'. Refute it at one input. -/
def fnExactValuesInOrderWrong : ChangeSpec := { name := "fnExactValuesInOrder", fn := fun _ => fun
  | [d1, d2] => { results := [.lit (.bool false)], args := [d1, d2] }
  | _ => none }
def FnExactValuesInOrderWrongFalsely : Prop := fnExactValuesInOrderRow.holds Try.pinned (OpenSpec.ofChange fnExactValuesInOrderWrong)

/- THE SECOND FORM. 'bulk': how many values and letters a reading holds, each counted each time it is reached (what is shared counts as often as it is met; a slice's spare places count too). A statement '..UptoSaid' is the law's where the arguments, and the package variables that the reading takes, are together of bulk at most 1048576: NARROWER than '..Said'. Prove '..Said' where nothing that the law and all that it calls make is longer than what came in: it says more and counts as full. Else prove '..UptoSaid'. A law counts once. -/
mutual
def uptoBulk {H : Type} : DataW H → Nat
  | .lit (.string bytes) => bytes.length + 1
  | .lit _ => 1
  | .nil => 1
  | .ptr d => uptoBulk d + 1
  | .slice elems spare => uptoBulkAll elems + uptoBulkAll spare + 1
  | .agg parts => uptoBulkAll parts + 1
  | .iface _ d => uptoBulk d + 1
  | .map entries => uptoBulkEntries entries + 1
  | .held _ => 1
def uptoBulkAll {H : Type} : List (DataW H) → Nat
  | [] => 0
  | d :: r => uptoBulk d + uptoBulkAll r
def uptoBulkEntries {H : Type} : List (Lit × DataW H) → Nat
  | [] => 0
  | x :: r => uptoBulkEntry x + uptoBulkEntries r
def uptoBulkEntry {H : Type} : Lit × DataW H → Nat
  | (.string bytes, d) => bytes.length + uptoBulk d + 1
  | (_, d) => uptoBulk d + 1
 end
def uptoSmall : (H : Type) → List (DataW H) → Bool := fun _ ds => decide (uptoBulkAll ds ≤ 1048576)
def OpenSpec.upto (s : _root_.Go.ChangeSpec) : _root_.Go.OpenSpec := { _root_.Go.OpenSpec.ofChange s with cond := some uptoSmall }

/-- 'laws.FnExactIsNondegenerate', WHERE WHAT IT READS IS OF BULK AT MOST 1048576: true; the input reads as it did. -/
def fnExactIsNondegenerateUptoRow : OpenClaim := { program := "ytmnljlefjafcdaa", sum := "cbddece8e827c8cf092882dc75185012a09f7f42852aba6d2b153e007d7bc937", func := "loop.example/g01132/laws.FnExactIsNondegenerate", spec := "fnExactIsNondegenerate", unfollowed := true, recurses := true, apart := false, narrowed := true }
def FnExactIsNondegenerateUptoSaid : Prop := fnExactIsNondegenerateUptoRow.holds Try.pinned (OpenSpec.upto fnExactIsNondegenerateSpec)

/-- 'laws.FnExactRadicalOf', WHERE WHAT IT READS IS OF BULK AT MOST 1048576: true; the input reads as it did. -/
def fnExactRadicalOfUptoRow : OpenClaim := { program := "ytmnljlefjafcdaa", sum := "cbddece8e827c8cf092882dc75185012a09f7f42852aba6d2b153e007d7bc937", func := "loop.example/g01132/laws.FnExactRadicalOf", spec := "fnExactRadicalOf", unfollowed := true, recurses := true, apart := false, narrowed := true }
def FnExactRadicalOfUptoSaid : Prop := fnExactRadicalOfUptoRow.holds Try.pinned (OpenSpec.upto fnExactRadicalOfSpec)

/-- 'laws.FnExactNegativeMetric', WHERE WHAT IT READS IS OF BULK AT MOST 1048576: true; the input reads as it did. -/
def fnExactNegativeMetricUptoRow : OpenClaim := { program := "ytmnljlefjafcdaa", sum := "cbddece8e827c8cf092882dc75185012a09f7f42852aba6d2b153e007d7bc937", func := "loop.example/g01132/laws.FnExactNegativeMetric", spec := "fnExactNegativeMetric", unfollowed := true, recurses := true, apart := false, narrowed := true }
def FnExactNegativeMetricUptoSaid : Prop := fnExactNegativeMetricUptoRow.holds Try.pinned (OpenSpec.upto fnExactNegativeMetricSpec)

/-- 'laws.FnExactMetricFrom', WHERE WHAT IT READS IS OF BULK AT MOST 1048576: true; the input reads as it did. -/
def fnExactMetricFromUptoRow : OpenClaim := { program := "ytmnljlefjafcdaa", sum := "cbddece8e827c8cf092882dc75185012a09f7f42852aba6d2b153e007d7bc937", func := "loop.example/g01132/laws.FnExactMetricFrom", spec := "fnExactMetricFrom", unfollowed := true, recurses := true, apart := false, narrowed := true }
def FnExactMetricFromUptoSaid : Prop := fnExactMetricFromUptoRow.holds Try.pinned (OpenSpec.upto fnExactMetricFromSpec)

/-- 'laws.FnExactSumOfMetrics', WHERE WHAT IT READS IS OF BULK AT MOST 1048576: true; the input reads as it did. -/
def fnExactSumOfMetricsUptoRow : OpenClaim := { program := "ytmnljlefjafcdaa", sum := "cbddece8e827c8cf092882dc75185012a09f7f42852aba6d2b153e007d7bc937", func := "loop.example/g01132/laws.FnExactSumOfMetrics", spec := "fnExactSumOfMetrics", unfollowed := true, recurses := true, apart := false, narrowed := true }
def FnExactSumOfMetricsUptoSaid : Prop := fnExactSumOfMetricsUptoRow.holds Try.pinned (OpenSpec.upto fnExactSumOfMetricsSpec)

/-- 'laws.FnExactIsSubgroup', WHERE WHAT IT READS IS OF BULK AT MOST 1048576: true; the input reads as it did. -/
def fnExactIsSubgroupUptoRow : OpenClaim := { program := "ytmnljlefjafcdaa", sum := "cbddece8e827c8cf092882dc75185012a09f7f42852aba6d2b153e007d7bc937", func := "loop.example/g01132/laws.FnExactIsSubgroup", spec := "fnExactIsSubgroup", unfollowed := true, recurses := true, apart := false, narrowed := true }
def FnExactIsSubgroupUptoSaid : Prop := fnExactIsSubgroupUptoRow.holds Try.pinned (OpenSpec.upto fnExactIsSubgroupSpec)

/-- 'laws.FnExactIsIsotropicSubgroup', WHERE WHAT IT READS IS OF BULK AT MOST 1048576: true; the input reads as it did. -/
def fnExactIsIsotropicSubgroupUptoRow : OpenClaim := { program := "ytmnljlefjafcdaa", sum := "cbddece8e827c8cf092882dc75185012a09f7f42852aba6d2b153e007d7bc937", func := "loop.example/g01132/laws.FnExactIsIsotropicSubgroup", spec := "fnExactIsIsotropicSubgroup", unfollowed := true, recurses := true, apart := false, narrowed := true }
def FnExactIsIsotropicSubgroupUptoSaid : Prop := fnExactIsIsotropicSubgroupUptoRow.holds Try.pinned (OpenSpec.upto fnExactIsIsotropicSubgroupSpec)

/-- 'laws.FnExactOrthogonalSubgroup', WHERE WHAT IT READS IS OF BULK AT MOST 1048576: true; the input reads as it did. -/
def fnExactOrthogonalSubgroupUptoRow : OpenClaim := { program := "ytmnljlefjafcdaa", sum := "cbddece8e827c8cf092882dc75185012a09f7f42852aba6d2b153e007d7bc937", func := "loop.example/g01132/laws.FnExactOrthogonalSubgroup", spec := "fnExactOrthogonalSubgroup", unfollowed := true, recurses := true, apart := false, narrowed := true }
def FnExactOrthogonalSubgroupUptoSaid : Prop := fnExactOrthogonalSubgroupUptoRow.holds Try.pinned (OpenSpec.upto fnExactOrthogonalSubgroupSpec)

/-- 'laws.FnExactSubgroupFrom', WHERE WHAT IT READS IS OF BULK AT MOST 1048576: true; the input reads as it did. -/
def fnExactSubgroupFromUptoRow : OpenClaim := { program := "ytmnljlefjafcdaa", sum := "cbddece8e827c8cf092882dc75185012a09f7f42852aba6d2b153e007d7bc937", func := "loop.example/g01132/laws.FnExactSubgroupFrom", spec := "fnExactSubgroupFrom", unfollowed := true, recurses := true, apart := false, narrowed := true }
def FnExactSubgroupFromUptoSaid : Prop := fnExactSubgroupFromUptoRow.holds Try.pinned (OpenSpec.upto fnExactSubgroupFromSpec)

/-- 'laws.FnExactQuotientGauss', WHERE WHAT IT READS IS OF BULK AT MOST 1048576: true; the input reads as it did. -/
def fnExactQuotientGaussUptoRow : OpenClaim := { program := "ytmnljlefjafcdaa", sum := "cbddece8e827c8cf092882dc75185012a09f7f42852aba6d2b153e007d7bc937", func := "loop.example/g01132/laws.FnExactQuotientGauss", spec := "fnExactQuotientGauss", unfollowed := true, recurses := true, apart := false, narrowed := true }
def FnExactQuotientGaussUptoSaid : Prop := fnExactQuotientGaussUptoRow.holds Try.pinned (OpenSpec.upto fnExactQuotientGaussSpec)

/-- 'laws.FnExactCondenseMetric', WHERE WHAT IT READS IS OF BULK AT MOST 1048576: true; the input reads as it did. -/
def fnExactCondenseMetricUptoRow : OpenClaim := { program := "ytmnljlefjafcdaa", sum := "cbddece8e827c8cf092882dc75185012a09f7f42852aba6d2b153e007d7bc937", func := "loop.example/g01132/laws.FnExactCondenseMetric", spec := "fnExactCondenseMetric", unfollowed := true, recurses := true, apart := false, narrowed := true }
def FnExactCondenseMetricUptoSaid : Prop := fnExactCondenseMetricUptoRow.holds Try.pinned (OpenSpec.upto fnExactCondenseMetricSpec)

/-- 'laws.FnExactValuesInOrder', WHERE WHAT IT READS IS OF BULK AT MOST 1048576: true; the input reads as it did. -/
def fnExactValuesInOrderUptoRow : OpenClaim := { program := "ytmnljlefjafcdaa", sum := "cbddece8e827c8cf092882dc75185012a09f7f42852aba6d2b153e007d7bc937", func := "loop.example/g01132/laws.FnExactValuesInOrder", spec := "fnExactValuesInOrder", unfollowed := true, recurses := true, apart := false, narrowed := true }
def FnExactValuesInOrderUptoSaid : Prop := fnExactValuesInOrderUptoRow.holds Try.pinned (OpenSpec.upto fnExactValuesInOrderSpec)

end Rows
end Go.Proofs.Ytmnljlefjafcdaa
