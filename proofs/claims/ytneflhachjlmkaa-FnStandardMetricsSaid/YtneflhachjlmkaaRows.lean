/-
  No cell of these rows narrows 'for every input' (looked for: loops, veiled, ifaces, maps, wideKeys, modest, calm, conditions, laid).
  DERIVED. THE GIVEN ROWS OF THIS SEAT. 10 by the template 'for every input the law returns true; each argument reads behind the call as it read before'; 0 by the template 'total and deterministic' (their statements: YtneflhachjlmkaaTotals.lean).
  GIVEN WITH THE SEED: the statements are not yours to turn. If you find one false, say at which input.
  Laid BY PROGRAM, IN A SANDBOX (cutbox-rows.mjs): the forced cells as the released guide's own fill.sh prints them over the translation 1b075cd969038bbf… (all of the seat's roots in one cut). By AI agents, Wed Nov 11 2026. No macro, syntax, notation, axiom, sorry.
-/
import Derived.Test.YtneflhachjlmkaaChecked
import GoSem.Claim
import GoSem.ClaimJoined
import GoSem.ClaimMapViews
import Derived.JoinedTies
import Derived.KernelRfl
namespace Go.Proofs.Ytneflhachjlmkaa
/- THE CELL 'sum', in the pinned program and in every row, IS THE sha256 OF THE DUMP (.gsa) THAT YtneflhachjlmkaaProg.lean LOADS. Nothing in Lean hashes anything: it is a label: what it is worth is what the hold of that sum in a sandbox is worth. -/
noncomputable def Try.pinned : Pinned := { name := "ytneflhachjlmkaa", sum := "1b075cd969038bbf2a991e550b36a899f0cbeec033fa09cea96fe413134e2dad", checked := Try.checked }
namespace Rows
def none {H : Type} : Left H := { results := [], args := [] }

/-- 'laws.FnExactSubgroupFrom': WHATEVER THE INPUT: true; the input reads as it did. -/
def fnExactSubgroupFromSpec : ChangeSpec := { name := "fnExactSubgroupFrom", fn := fun _ => fun
  | [d1, d2] => { results := [.lit (.bool true)], args := [d1, d2] }
  | _ => none }
def fnExactSubgroupFromRow : OpenClaim := { program := "ytneflhachjlmkaa", sum := "1b075cd969038bbf2a991e550b36a899f0cbeec033fa09cea96fe413134e2dad", func := "loop.example/g01132/laws.FnExactSubgroupFrom", spec := "fnExactSubgroupFrom", unfollowed := true, recurses := true, apart := false }
def FnExactSubgroupFromSaid : Prop := fnExactSubgroupFromRow.holds Try.pinned (OpenSpec.ofChange fnExactSubgroupFromSpec)

/-- ITS FALSE NEIGHBOUR: 'it returns false'. Refute it at one input. -/
def fnExactSubgroupFromWrong : ChangeSpec := { name := "fnExactSubgroupFrom", fn := fun _ => fun
  | [d1, d2] => { results := [.lit (.bool false)], args := [d1, d2] }
  | _ => none }
def FnExactSubgroupFromWrongFalsely : Prop := fnExactSubgroupFromRow.holds Try.pinned (OpenSpec.ofChange fnExactSubgroupFromWrong)

/-- 'laws.FnExactQuotientGauss': WHATEVER THE INPUT: true; the input reads as it did. -/
def fnExactQuotientGaussSpec : ChangeSpec := { name := "fnExactQuotientGauss", fn := fun _ => fun
  | [d1, d2] => { results := [.lit (.bool true)], args := [d1, d2] }
  | _ => none }
def fnExactQuotientGaussRow : OpenClaim := { program := "ytneflhachjlmkaa", sum := "1b075cd969038bbf2a991e550b36a899f0cbeec033fa09cea96fe413134e2dad", func := "loop.example/g01132/laws.FnExactQuotientGauss", spec := "fnExactQuotientGauss", unfollowed := true, recurses := true, apart := false }
def FnExactQuotientGaussSaid : Prop := fnExactQuotientGaussRow.holds Try.pinned (OpenSpec.ofChange fnExactQuotientGaussSpec)

/-- ITS FALSE NEIGHBOUR: 'it returns false'. Refute it at one input. -/
def fnExactQuotientGaussWrong : ChangeSpec := { name := "fnExactQuotientGauss", fn := fun _ => fun
  | [d1, d2] => { results := [.lit (.bool false)], args := [d1, d2] }
  | _ => none }
def FnExactQuotientGaussWrongFalsely : Prop := fnExactQuotientGaussRow.holds Try.pinned (OpenSpec.ofChange fnExactQuotientGaussWrong)

/-- 'laws.FnExactCondenseMetric': WHATEVER THE INPUT: true; the input reads as it did. -/
def fnExactCondenseMetricSpec : ChangeSpec := { name := "fnExactCondenseMetric", fn := fun _ => fun
  | [d1, d2] => { results := [.lit (.bool true)], args := [d1, d2] }
  | _ => none }
def fnExactCondenseMetricRow : OpenClaim := { program := "ytneflhachjlmkaa", sum := "1b075cd969038bbf2a991e550b36a899f0cbeec033fa09cea96fe413134e2dad", func := "loop.example/g01132/laws.FnExactCondenseMetric", spec := "fnExactCondenseMetric", unfollowed := true, recurses := true, apart := false }
def FnExactCondenseMetricSaid : Prop := fnExactCondenseMetricRow.holds Try.pinned (OpenSpec.ofChange fnExactCondenseMetricSpec)

/-- ITS FALSE NEIGHBOUR: 'it returns false'. Refute it at one input. -/
def fnExactCondenseMetricWrong : ChangeSpec := { name := "fnExactCondenseMetric", fn := fun _ => fun
  | [d1, d2] => { results := [.lit (.bool false)], args := [d1, d2] }
  | _ => none }
def FnExactCondenseMetricWrongFalsely : Prop := fnExactCondenseMetricRow.holds Try.pinned (OpenSpec.ofChange fnExactCondenseMetricWrong)

/-- 'laws.FnExactValuesInOrder': WHATEVER THE INPUT: true; the input reads as it did. -/
def fnExactValuesInOrderSpec : ChangeSpec := { name := "fnExactValuesInOrder", fn := fun _ => fun
  | [d1, d2] => { results := [.lit (.bool true)], args := [d1, d2] }
  | _ => none }
def fnExactValuesInOrderRow : OpenClaim := { program := "ytneflhachjlmkaa", sum := "1b075cd969038bbf2a991e550b36a899f0cbeec033fa09cea96fe413134e2dad", func := "loop.example/g01132/laws.FnExactValuesInOrder", spec := "fnExactValuesInOrder", unfollowed := true, recurses := true, apart := false }
def FnExactValuesInOrderSaid : Prop := fnExactValuesInOrderRow.holds Try.pinned (OpenSpec.ofChange fnExactValuesInOrderSpec)

/-- ITS FALSE NEIGHBOUR: 'it returns false'. Refute it at one input. -/
def fnExactValuesInOrderWrong : ChangeSpec := { name := "fnExactValuesInOrder", fn := fun _ => fun
  | [d1, d2] => { results := [.lit (.bool false)], args := [d1, d2] }
  | _ => none }
def FnExactValuesInOrderWrongFalsely : Prop := fnExactValuesInOrderRow.holds Try.pinned (OpenSpec.ofChange fnExactValuesInOrderWrong)

/-- 'laws.FnExactCountIsometries': WHATEVER THE INPUT: true; the input reads as it did. -/
def fnExactCountIsometriesSpec : ChangeSpec := { name := "fnExactCountIsometries", fn := fun _ => fun
  | [d1, d2] => { results := [.lit (.bool true)], args := [d1, d2] }
  | _ => none }
def fnExactCountIsometriesRow : OpenClaim := { program := "ytneflhachjlmkaa", sum := "1b075cd969038bbf2a991e550b36a899f0cbeec033fa09cea96fe413134e2dad", func := "loop.example/g01132/laws.FnExactCountIsometries", spec := "fnExactCountIsometries", unfollowed := true, recurses := true, apart := false }
def FnExactCountIsometriesSaid : Prop := fnExactCountIsometriesRow.holds Try.pinned (OpenSpec.ofChange fnExactCountIsometriesSpec)

/-- ITS FALSE NEIGHBOUR: 'it returns false'. Refute it at one input. -/
def fnExactCountIsometriesWrong : ChangeSpec := { name := "fnExactCountIsometries", fn := fun _ => fun
  | [d1, d2] => { results := [.lit (.bool false)], args := [d1, d2] }
  | _ => none }
def FnExactCountIsometriesWrongFalsely : Prop := fnExactCountIsometriesRow.holds Try.pinned (OpenSpec.ofChange fnExactCountIsometriesWrong)

/-- 'laws.FnExactIsometryOf': WHATEVER THE INPUT: true; the input reads as it did. -/
def fnExactIsometryOfSpec : ChangeSpec := { name := "fnExactIsometryOf", fn := fun _ => fun
  | [d1, d2] => { results := [.lit (.bool true)], args := [d1, d2] }
  | _ => none }
def fnExactIsometryOfRow : OpenClaim := { program := "ytneflhachjlmkaa", sum := "1b075cd969038bbf2a991e550b36a899f0cbeec033fa09cea96fe413134e2dad", func := "loop.example/g01132/laws.FnExactIsometryOf", spec := "fnExactIsometryOf", unfollowed := true, recurses := true, apart := false }
def FnExactIsometryOfSaid : Prop := fnExactIsometryOfRow.holds Try.pinned (OpenSpec.ofChange fnExactIsometryOfSpec)

/-- ITS FALSE NEIGHBOUR: 'it returns false'. Refute it at one input. -/
def fnExactIsometryOfWrong : ChangeSpec := { name := "fnExactIsometryOf", fn := fun _ => fun
  | [d1, d2] => { results := [.lit (.bool false)], args := [d1, d2] }
  | _ => none }
def FnExactIsometryOfWrongFalsely : Prop := fnExactIsometryOfRow.holds Try.pinned (OpenSpec.ofChange fnExactIsometryOfWrong)

/-- 'laws.FnExactDataOfMetric': WHATEVER THE INPUT: true; the input reads as it did. -/
def fnExactDataOfMetricSpec : ChangeSpec := { name := "fnExactDataOfMetric", fn := fun _ => fun
  | [d] => { results := [.lit (.bool true)], args := [d] }
  | _ => none }
def fnExactDataOfMetricRow : OpenClaim := { program := "ytneflhachjlmkaa", sum := "1b075cd969038bbf2a991e550b36a899f0cbeec033fa09cea96fe413134e2dad", func := "loop.example/g01132/laws.FnExactDataOfMetric", spec := "fnExactDataOfMetric", unfollowed := true, recurses := true, apart := false }
def FnExactDataOfMetricSaid : Prop := fnExactDataOfMetricRow.holds Try.pinned (OpenSpec.ofChange fnExactDataOfMetricSpec)

/-- ITS FALSE NEIGHBOUR: 'it returns false'. Refute it at one input. -/
def fnExactDataOfMetricWrong : ChangeSpec := { name := "fnExactDataOfMetric", fn := fun _ => fun
  | [d] => { results := [.lit (.bool false)], args := [d] }
  | _ => none }
def FnExactDataOfMetricWrongFalsely : Prop := fnExactDataOfMetricRow.holds Try.pinned (OpenSpec.ofChange fnExactDataOfMetricWrong)

/-- 'laws.FnMetrics': WHATEVER THE INPUT: true; the input reads as it did. -/
def fnMetricsSpec : ChangeSpec := { name := "fnMetrics", fn := fun _ => fun
  | [d] => { results := [.lit (.bool true)], args := [d] }
  | _ => none }
def fnMetricsRow : OpenClaim := { program := "ytneflhachjlmkaa", sum := "1b075cd969038bbf2a991e550b36a899f0cbeec033fa09cea96fe413134e2dad", func := "loop.example/g01132/laws.FnMetrics", spec := "fnMetrics", unfollowed := true, recurses := true, apart := false }
def FnMetricsSaid : Prop := fnMetricsRow.holds Try.pinned (OpenSpec.ofChange fnMetricsSpec)

/-- ITS FALSE NEIGHBOUR: 'it returns false'. Refute it at one input. -/
def fnMetricsWrong : ChangeSpec := { name := "fnMetrics", fn := fun _ => fun
  | [d] => { results := [.lit (.bool false)], args := [d] }
  | _ => none }
def FnMetricsWrongFalsely : Prop := fnMetricsRow.holds Try.pinned (OpenSpec.ofChange fnMetricsWrong)

/-- 'laws.FnGaussSums': WHATEVER THE INPUT: true; the input reads as it did. -/
def fnGaussSumsSpec : ChangeSpec := { name := "fnGaussSums", fn := fun _ => fun
  | [d] => { results := [.lit (.bool true)], args := [d] }
  | _ => none }
def fnGaussSumsRow : OpenClaim := { program := "ytneflhachjlmkaa", sum := "1b075cd969038bbf2a991e550b36a899f0cbeec033fa09cea96fe413134e2dad", func := "loop.example/g01132/laws.FnGaussSums", spec := "fnGaussSums", unfollowed := true, recurses := true, apart := false }
def FnGaussSumsSaid : Prop := fnGaussSumsRow.holds Try.pinned (OpenSpec.ofChange fnGaussSumsSpec)

/-- ITS FALSE NEIGHBOUR: 'it returns false'. Refute it at one input. -/
def fnGaussSumsWrong : ChangeSpec := { name := "fnGaussSums", fn := fun _ => fun
  | [d] => { results := [.lit (.bool false)], args := [d] }
  | _ => none }
def FnGaussSumsWrongFalsely : Prop := fnGaussSumsRow.holds Try.pinned (OpenSpec.ofChange fnGaussSumsWrong)

/-- 'laws.FnStandardMetrics': WHATEVER THE INPUT: true; the input reads as it did. -/
def fnStandardMetricsSpec : ChangeSpec := { name := "fnStandardMetrics", fn := fun _ => fun
  | [d] => { results := [.lit (.bool true)], args := [d] }
  | _ => none }
def fnStandardMetricsRow : OpenClaim := { program := "ytneflhachjlmkaa", sum := "1b075cd969038bbf2a991e550b36a899f0cbeec033fa09cea96fe413134e2dad", func := "loop.example/g01132/laws.FnStandardMetrics", spec := "fnStandardMetrics", unfollowed := true, recurses := true, apart := false }
def FnStandardMetricsSaid : Prop := fnStandardMetricsRow.holds Try.pinned (OpenSpec.ofChange fnStandardMetricsSpec)

/-- ITS FALSE NEIGHBOUR: 'it returns false'. Refute it at one input. -/
def fnStandardMetricsWrong : ChangeSpec := { name := "fnStandardMetrics", fn := fun _ => fun
  | [d] => { results := [.lit (.bool false)], args := [d] }
  | _ => none }
def FnStandardMetricsWrongFalsely : Prop := fnStandardMetricsRow.holds Try.pinned (OpenSpec.ofChange fnStandardMetricsWrong)

/- THE SECOND FORM. 'bulk': how many values and letters a reading holds, each counted each time it is reached (what is shared counts as often as it is met; a slice's spare places count too). A statement '..UptoSaid' is the law's where the arguments, and the package variables that the reading takes, are together of bulk at most 1048576: NARROWER than '..Said'. Prove '..Said' where nothing that the law and all that it calls make is longer than what came in: it says more and counts as full. Else prove '..UptoSaid'. A law counts once. -/
mutual
def uptoBulk {H : Type} : DataW H → Nat
  | .lit (.string bytes) => bytes.length + 1
  | .lit _ => 1
  | .nil => 1
  | .ptr d => uptoBulk d + 1
  | .slice elems spare => uptoBulkAll elems + uptoBulkAll spare + 1
  | .agg parts => uptoBulkAll parts + 1
  | .iface _ d => uptoBulk d + 1
  | .map entries => uptoBulkEntries entries + 1
  | .held _ => 1
def uptoBulkAll {H : Type} : List (DataW H) → Nat
  | [] => 0
  | d :: r => uptoBulk d + uptoBulkAll r
def uptoBulkEntries {H : Type} : List (Lit × DataW H) → Nat
  | [] => 0
  | x :: r => uptoBulkEntry x + uptoBulkEntries r
def uptoBulkEntry {H : Type} : Lit × DataW H → Nat
  | (.string bytes, d) => bytes.length + uptoBulk d + 1
  | (_, d) => uptoBulk d + 1
 end
def uptoSmall : (H : Type) → List (DataW H) → Bool := fun _ ds => decide (uptoBulkAll ds ≤ 1048576)
def OpenSpec.upto (s : _root_.Go.ChangeSpec) : _root_.Go.OpenSpec := { _root_.Go.OpenSpec.ofChange s with cond := some uptoSmall }

/-- 'laws.FnExactSubgroupFrom', WHERE WHAT IT READS IS OF BULK AT MOST 1048576: true; the input reads as it did. -/
def fnExactSubgroupFromUptoRow : OpenClaim := { program := "ytneflhachjlmkaa", sum := "1b075cd969038bbf2a991e550b36a899f0cbeec033fa09cea96fe413134e2dad", func := "loop.example/g01132/laws.FnExactSubgroupFrom", spec := "fnExactSubgroupFrom", unfollowed := true, recurses := true, apart := false, narrowed := true }
def FnExactSubgroupFromUptoSaid : Prop := fnExactSubgroupFromUptoRow.holds Try.pinned (OpenSpec.upto fnExactSubgroupFromSpec)

/-- 'laws.FnExactQuotientGauss', WHERE WHAT IT READS IS OF BULK AT MOST 1048576: true; the input reads as it did. -/
def fnExactQuotientGaussUptoRow : OpenClaim := { program := "ytneflhachjlmkaa", sum := "1b075cd969038bbf2a991e550b36a899f0cbeec033fa09cea96fe413134e2dad", func := "loop.example/g01132/laws.FnExactQuotientGauss", spec := "fnExactQuotientGauss", unfollowed := true, recurses := true, apart := false, narrowed := true }
def FnExactQuotientGaussUptoSaid : Prop := fnExactQuotientGaussUptoRow.holds Try.pinned (OpenSpec.upto fnExactQuotientGaussSpec)

/-- 'laws.FnExactCondenseMetric', WHERE WHAT IT READS IS OF BULK AT MOST 1048576: true; the input reads as it did. -/
def fnExactCondenseMetricUptoRow : OpenClaim := { program := "ytneflhachjlmkaa", sum := "1b075cd969038bbf2a991e550b36a899f0cbeec033fa09cea96fe413134e2dad", func := "loop.example/g01132/laws.FnExactCondenseMetric", spec := "fnExactCondenseMetric", unfollowed := true, recurses := true, apart := false, narrowed := true }
def FnExactCondenseMetricUptoSaid : Prop := fnExactCondenseMetricUptoRow.holds Try.pinned (OpenSpec.upto fnExactCondenseMetricSpec)

/-- 'laws.FnExactValuesInOrder', WHERE WHAT IT READS IS OF BULK AT MOST 1048576: true; the input reads as it did. -/
def fnExactValuesInOrderUptoRow : OpenClaim := { program := "ytneflhachjlmkaa", sum := "1b075cd969038bbf2a991e550b36a899f0cbeec033fa09cea96fe413134e2dad", func := "loop.example/g01132/laws.FnExactValuesInOrder", spec := "fnExactValuesInOrder", unfollowed := true, recurses := true, apart := false, narrowed := true }
def FnExactValuesInOrderUptoSaid : Prop := fnExactValuesInOrderUptoRow.holds Try.pinned (OpenSpec.upto fnExactValuesInOrderSpec)

/-- 'laws.FnExactCountIsometries', WHERE WHAT IT READS IS OF BULK AT MOST 1048576: true; the input reads as it did. -/
def fnExactCountIsometriesUptoRow : OpenClaim := { program := "ytneflhachjlmkaa", sum := "1b075cd969038bbf2a991e550b36a899f0cbeec033fa09cea96fe413134e2dad", func := "loop.example/g01132/laws.FnExactCountIsometries", spec := "fnExactCountIsometries", unfollowed := true, recurses := true, apart := false, narrowed := true }
def FnExactCountIsometriesUptoSaid : Prop := fnExactCountIsometriesUptoRow.holds Try.pinned (OpenSpec.upto fnExactCountIsometriesSpec)

/-- 'laws.FnExactIsometryOf', WHERE WHAT IT READS IS OF BULK AT MOST 1048576: true; the input reads as it did. -/
def fnExactIsometryOfUptoRow : OpenClaim := { program := "ytneflhachjlmkaa", sum := "1b075cd969038bbf2a991e550b36a899f0cbeec033fa09cea96fe413134e2dad", func := "loop.example/g01132/laws.FnExactIsometryOf", spec := "fnExactIsometryOf", unfollowed := true, recurses := true, apart := false, narrowed := true }
def FnExactIsometryOfUptoSaid : Prop := fnExactIsometryOfUptoRow.holds Try.pinned (OpenSpec.upto fnExactIsometryOfSpec)

/-- 'laws.FnExactDataOfMetric', WHERE WHAT IT READS IS OF BULK AT MOST 1048576: true; the input reads as it did. -/
def fnExactDataOfMetricUptoRow : OpenClaim := { program := "ytneflhachjlmkaa", sum := "1b075cd969038bbf2a991e550b36a899f0cbeec033fa09cea96fe413134e2dad", func := "loop.example/g01132/laws.FnExactDataOfMetric", spec := "fnExactDataOfMetric", unfollowed := true, recurses := true, apart := false, narrowed := true }
def FnExactDataOfMetricUptoSaid : Prop := fnExactDataOfMetricUptoRow.holds Try.pinned (OpenSpec.upto fnExactDataOfMetricSpec)

/-- 'laws.FnMetrics', WHERE WHAT IT READS IS OF BULK AT MOST 1048576: true; the input reads as it did. -/
def fnMetricsUptoRow : OpenClaim := { program := "ytneflhachjlmkaa", sum := "1b075cd969038bbf2a991e550b36a899f0cbeec033fa09cea96fe413134e2dad", func := "loop.example/g01132/laws.FnMetrics", spec := "fnMetrics", unfollowed := true, recurses := true, apart := false, narrowed := true }
def FnMetricsUptoSaid : Prop := fnMetricsUptoRow.holds Try.pinned (OpenSpec.upto fnMetricsSpec)

/-- 'laws.FnGaussSums', WHERE WHAT IT READS IS OF BULK AT MOST 1048576: true; the input reads as it did. -/
def fnGaussSumsUptoRow : OpenClaim := { program := "ytneflhachjlmkaa", sum := "1b075cd969038bbf2a991e550b36a899f0cbeec033fa09cea96fe413134e2dad", func := "loop.example/g01132/laws.FnGaussSums", spec := "fnGaussSums", unfollowed := true, recurses := true, apart := false, narrowed := true }
def FnGaussSumsUptoSaid : Prop := fnGaussSumsUptoRow.holds Try.pinned (OpenSpec.upto fnGaussSumsSpec)

/-- 'laws.FnStandardMetrics', WHERE WHAT IT READS IS OF BULK AT MOST 1048576: true; the input reads as it did. -/
def fnStandardMetricsUptoRow : OpenClaim := { program := "ytneflhachjlmkaa", sum := "1b075cd969038bbf2a991e550b36a899f0cbeec033fa09cea96fe413134e2dad", func := "loop.example/g01132/laws.FnStandardMetrics", spec := "fnStandardMetrics", unfollowed := true, recurses := true, apart := false, narrowed := true }
def FnStandardMetricsUptoSaid : Prop := fnStandardMetricsUptoRow.holds Try.pinned (OpenSpec.upto fnStandardMetricsSpec)

end Rows
end Go.Proofs.Ytneflhachjlmkaa
