/-
  No cell of these rows narrows 'for every input' (looked for: loops, veiled, ifaces, maps, wideKeys, modest, calm, conditions, laid).
  DERIVED. THE GIVEN ROWS OF THIS SEAT. 12 by the template 'for every input the law returns true; each argument reads behind the call as it read before'; 0 by the template 'total and deterministic' (their statements: YtpafkgfjbdhpkaaTotals.lean).
  GIVEN WITH THE SEED: the statements are not yours to turn. If you find one false, say at which input.
  Laid BY PROGRAM, IN A SANDBOX (cutbox-rows.mjs): the forced cells as the released guide's own fill.sh prints them over the translation 2593cc51f305b655… (all of the seat's roots in one cut). By AI agents, Wed Nov 11 2026. No macro, syntax, notation, axiom, sorry.
-/
import Derived.Test.YtpafkgfjbdhpkaaChecked
import GoSem.Claim
import GoSem.ClaimJoined
import GoSem.ClaimMapViews
import Derived.JoinedTies
import Derived.KernelRfl
namespace Go.Proofs.Ytpafkgfjbdhpkaa
/- THE CELL 'sum', in the pinned program and in every row, IS THE sha256 OF THE DUMP (.gsa) THAT YtpafkgfjbdhpkaaProg.lean LOADS. Nothing in Lean hashes anything: it is a label: what it is worth is what the hold of that sum in a sandbox is worth. -/
noncomputable def Try.pinned : Pinned := { name := "ytpafkgfjbdhpkaa", sum := "2593cc51f305b655f955862622f59c3d6ea6c95fdd69831aada857e1817dfe2d", checked := Try.checked }
namespace Rows
def none {H : Type} : Left H := { results := [], args := [] }

/-- 'laws.FnExactIsMetric': WHATEVER THE INPUT: true; the input reads as it did. -/
def fnExactIsMetricSpec : ChangeSpec := { name := "fnExactIsMetric", fn := fun _ => fun
  | [d] => { results := [.lit (.bool true)], args := [d] }
  | _ => none }
def fnExactIsMetricRow : OpenClaim := { program := "ytpafkgfjbdhpkaa", sum := "2593cc51f305b655f955862622f59c3d6ea6c95fdd69831aada857e1817dfe2d", func := "loop.example/g01132/laws.FnExactIsMetric", spec := "fnExactIsMetric", unfollowed := true, recurses := true, apart := false }
def FnExactIsMetricSaid : Prop := fnExactIsMetricRow.holds Try.pinned (OpenSpec.ofChange fnExactIsMetricSpec)

/-- ITS FALSE NEIGHBOUR: 'it returns false'. Refute it at one input. -/
def fnExactIsMetricWrong : ChangeSpec := { name := "fnExactIsMetric", fn := fun _ => fun
  | [d] => { results := [.lit (.bool false)], args := [d] }
  | _ => none }
def FnExactIsMetricWrongFalsely : Prop := fnExactIsMetricRow.holds Try.pinned (OpenSpec.ofChange fnExactIsMetricWrong)

/-- 'laws.FnExactIsAnisotropic': WHATEVER THE INPUT: true; the input reads as it did. -/
def fnExactIsAnisotropicSpec : ChangeSpec := { name := "fnExactIsAnisotropic", fn := fun _ => fun
  | [d] => { results := [.lit (.bool true)], args := [d] }
  | _ => none }
def fnExactIsAnisotropicRow : OpenClaim := { program := "ytpafkgfjbdhpkaa", sum := "2593cc51f305b655f955862622f59c3d6ea6c95fdd69831aada857e1817dfe2d", func := "loop.example/g01132/laws.FnExactIsAnisotropic", spec := "fnExactIsAnisotropic", unfollowed := true, recurses := true, apart := false }
def FnExactIsAnisotropicSaid : Prop := fnExactIsAnisotropicRow.holds Try.pinned (OpenSpec.ofChange fnExactIsAnisotropicSpec)

/-- ITS FALSE NEIGHBOUR: 'it returns false'. Refute it at one input. -/
def fnExactIsAnisotropicWrong : ChangeSpec := { name := "fnExactIsAnisotropic", fn := fun _ => fun
  | [d] => { results := [.lit (.bool false)], args := [d] }
  | _ => none }
def FnExactIsAnisotropicWrongFalsely : Prop := fnExactIsAnisotropicRow.holds Try.pinned (OpenSpec.ofChange fnExactIsAnisotropicWrong)

/-- 'laws.FnExactAddElements': WHATEVER THE INPUT: true; the input reads as it did. -/
def fnExactAddElementsSpec : ChangeSpec := { name := "fnExactAddElements", fn := fun _ => fun
  | [d1, d2, d3] => { results := [.lit (.bool true)], args := [d1, d2, d3] }
  | _ => none }
def fnExactAddElementsRow : OpenClaim := { program := "ytpafkgfjbdhpkaa", sum := "2593cc51f305b655f955862622f59c3d6ea6c95fdd69831aada857e1817dfe2d", func := "loop.example/g01132/laws.FnExactAddElements", spec := "fnExactAddElements", unfollowed := true, recurses := true, apart := false }
def FnExactAddElementsSaid : Prop := fnExactAddElementsRow.holds Try.pinned (OpenSpec.ofChange fnExactAddElementsSpec)

/-- ITS FALSE NEIGHBOUR: 'it returns false'. Refute it at one input. -/
def fnExactAddElementsWrong : ChangeSpec := { name := "fnExactAddElements", fn := fun _ => fun
  | [d1, d2, d3] => { results := [.lit (.bool false)], args := [d1, d2, d3] }
  | _ => none }
def FnExactAddElementsWrongFalsely : Prop := fnExactAddElementsRow.holds Try.pinned (OpenSpec.ofChange fnExactAddElementsWrong)

/-- 'laws.FnExactNegateElement': WHATEVER THE INPUT: true; the input reads as it did. -/
def fnExactNegateElementSpec : ChangeSpec := { name := "fnExactNegateElement", fn := fun _ => fun
  | [d1, d2] => { results := [.lit (.bool true)], args := [d1, d2] }
  | _ => none }
def fnExactNegateElementRow : OpenClaim := { program := "ytpafkgfjbdhpkaa", sum := "2593cc51f305b655f955862622f59c3d6ea6c95fdd69831aada857e1817dfe2d", func := "loop.example/g01132/laws.FnExactNegateElement", spec := "fnExactNegateElement", unfollowed := true, recurses := true, apart := false }
def FnExactNegateElementSaid : Prop := fnExactNegateElementRow.holds Try.pinned (OpenSpec.ofChange fnExactNegateElementSpec)

/-- ITS FALSE NEIGHBOUR: 'it returns false'. Refute it at one input. -/
def fnExactNegateElementWrong : ChangeSpec := { name := "fnExactNegateElement", fn := fun _ => fun
  | [d1, d2] => { results := [.lit (.bool false)], args := [d1, d2] }
  | _ => none }
def FnExactNegateElementWrongFalsely : Prop := fnExactNegateElementRow.holds Try.pinned (OpenSpec.ofChange fnExactNegateElementWrong)

/-- 'laws.FnExactPairElements': WHATEVER THE INPUT: true; the input reads as it did. -/
def fnExactPairElementsSpec : ChangeSpec := { name := "fnExactPairElements", fn := fun _ => fun
  | [d1, d2, d3] => { results := [.lit (.bool true)], args := [d1, d2, d3] }
  | _ => none }
def fnExactPairElementsRow : OpenClaim := { program := "ytpafkgfjbdhpkaa", sum := "2593cc51f305b655f955862622f59c3d6ea6c95fdd69831aada857e1817dfe2d", func := "loop.example/g01132/laws.FnExactPairElements", spec := "fnExactPairElements", unfollowed := true, recurses := true, apart := false }
def FnExactPairElementsSaid : Prop := fnExactPairElementsRow.holds Try.pinned (OpenSpec.ofChange fnExactPairElementsSpec)

/-- ITS FALSE NEIGHBOUR: 'it returns false'. Refute it at one input. -/
def fnExactPairElementsWrong : ChangeSpec := { name := "fnExactPairElements", fn := fun _ => fun
  | [d1, d2, d3] => { results := [.lit (.bool false)], args := [d1, d2, d3] }
  | _ => none }
def FnExactPairElementsWrongFalsely : Prop := fnExactPairElementsRow.holds Try.pinned (OpenSpec.ofChange fnExactPairElementsWrong)

/-- 'laws.FnExactIsNondegenerate': WHATEVER THE INPUT: true; the input reads as it did. -/
def fnExactIsNondegenerateSpec : ChangeSpec := { name := "fnExactIsNondegenerate", fn := fun _ => fun
  | [d] => { results := [.lit (.bool true)], args := [d] }
  | _ => none }
def fnExactIsNondegenerateRow : OpenClaim := { program := "ytpafkgfjbdhpkaa", sum := "2593cc51f305b655f955862622f59c3d6ea6c95fdd69831aada857e1817dfe2d", func := "loop.example/g01132/laws.FnExactIsNondegenerate", spec := "fnExactIsNondegenerate", unfollowed := true, recurses := true, apart := false }
def FnExactIsNondegenerateSaid : Prop := fnExactIsNondegenerateRow.holds Try.pinned (OpenSpec.ofChange fnExactIsNondegenerateSpec)

/-- ITS FALSE NEIGHBOUR: 'it returns false'. Refute it at one input. -/
def fnExactIsNondegenerateWrong : ChangeSpec := { name := "fnExactIsNondegenerate", fn := fun _ => fun
  | [d] => { results := [.lit (.bool false)], args := [d] }
  | _ => none }
def FnExactIsNondegenerateWrongFalsely : Prop := fnExactIsNondegenerateRow.holds Try.pinned (OpenSpec.ofChange fnExactIsNondegenerateWrong)

/-- 'laws.FnExactOrderOfElement': WHATEVER THE INPUT: true; the input reads as it did. -/
def fnExactOrderOfElementSpec : ChangeSpec := { name := "fnExactOrderOfElement", fn := fun _ => fun
  | [d1, d2] => { results := [.lit (.bool true)], args := [d1, d2] }
  | _ => none }
def fnExactOrderOfElementRow : OpenClaim := { program := "ytpafkgfjbdhpkaa", sum := "2593cc51f305b655f955862622f59c3d6ea6c95fdd69831aada857e1817dfe2d", func := "loop.example/g01132/laws.FnExactOrderOfElement", spec := "fnExactOrderOfElement", unfollowed := true, recurses := true, apart := false }
def FnExactOrderOfElementSaid : Prop := fnExactOrderOfElementRow.holds Try.pinned (OpenSpec.ofChange fnExactOrderOfElementSpec)

/-- ITS FALSE NEIGHBOUR: 'it returns false'. Refute it at one input. -/
def fnExactOrderOfElementWrong : ChangeSpec := { name := "fnExactOrderOfElement", fn := fun _ => fun
  | [d1, d2] => { results := [.lit (.bool false)], args := [d1, d2] }
  | _ => none }
def FnExactOrderOfElementWrongFalsely : Prop := fnExactOrderOfElementRow.holds Try.pinned (OpenSpec.ofChange fnExactOrderOfElementWrong)

/-- 'laws.FnExactRadicalOf': WHATEVER THE INPUT: true; the input reads as it did. -/
def fnExactRadicalOfSpec : ChangeSpec := { name := "fnExactRadicalOf", fn := fun _ => fun
  | [d] => { results := [.lit (.bool true)], args := [d] }
  | _ => none }
def fnExactRadicalOfRow : OpenClaim := { program := "ytpafkgfjbdhpkaa", sum := "2593cc51f305b655f955862622f59c3d6ea6c95fdd69831aada857e1817dfe2d", func := "loop.example/g01132/laws.FnExactRadicalOf", spec := "fnExactRadicalOf", unfollowed := true, recurses := true, apart := false }
def FnExactRadicalOfSaid : Prop := fnExactRadicalOfRow.holds Try.pinned (OpenSpec.ofChange fnExactRadicalOfSpec)

/-- ITS FALSE NEIGHBOUR: 'it returns false'. Refute it at one input. -/
def fnExactRadicalOfWrong : ChangeSpec := { name := "fnExactRadicalOf", fn := fun _ => fun
  | [d] => { results := [.lit (.bool false)], args := [d] }
  | _ => none }
def FnExactRadicalOfWrongFalsely : Prop := fnExactRadicalOfRow.holds Try.pinned (OpenSpec.ofChange fnExactRadicalOfWrong)

/-- 'laws.FnExactNegativeMetric': WHATEVER THE INPUT: true; the input reads as it did. -/
def fnExactNegativeMetricSpec : ChangeSpec := { name := "fnExactNegativeMetric", fn := fun _ => fun
  | [d] => { results := [.lit (.bool true)], args := [d] }
  | _ => none }
def fnExactNegativeMetricRow : OpenClaim := { program := "ytpafkgfjbdhpkaa", sum := "2593cc51f305b655f955862622f59c3d6ea6c95fdd69831aada857e1817dfe2d", func := "loop.example/g01132/laws.FnExactNegativeMetric", spec := "fnExactNegativeMetric", unfollowed := true, recurses := true, apart := false }
def FnExactNegativeMetricSaid : Prop := fnExactNegativeMetricRow.holds Try.pinned (OpenSpec.ofChange fnExactNegativeMetricSpec)

/-- ITS FALSE NEIGHBOUR: 'it returns false'. Refute it at one input. -/
def fnExactNegativeMetricWrong : ChangeSpec := { name := "fnExactNegativeMetric", fn := fun _ => fun
  | [d] => { results := [.lit (.bool false)], args := [d] }
  | _ => none }
def FnExactNegativeMetricWrongFalsely : Prop := fnExactNegativeMetricRow.holds Try.pinned (OpenSpec.ofChange fnExactNegativeMetricWrong)

/-- 'laws.FnExactElementValue': WHATEVER THE INPUT: true; the input reads as it did. -/
def fnExactElementValueSpec : ChangeSpec := { name := "fnExactElementValue", fn := fun _ => fun
  | [d1, d2] => { results := [.lit (.bool true)], args := [d1, d2] }
  | _ => none }
def fnExactElementValueRow : OpenClaim := { program := "ytpafkgfjbdhpkaa", sum := "2593cc51f305b655f955862622f59c3d6ea6c95fdd69831aada857e1817dfe2d", func := "loop.example/g01132/laws.FnExactElementValue", spec := "fnExactElementValue", unfollowed := true, recurses := true, apart := false }
def FnExactElementValueSaid : Prop := fnExactElementValueRow.holds Try.pinned (OpenSpec.ofChange fnExactElementValueSpec)

/-- ITS FALSE NEIGHBOUR: 'it returns false'. Refute it at one input. -/
def fnExactElementValueWrong : ChangeSpec := { name := "fnExactElementValue", fn := fun _ => fun
  | [d1, d2] => { results := [.lit (.bool false)], args := [d1, d2] }
  | _ => none }
def FnExactElementValueWrongFalsely : Prop := fnExactElementValueRow.holds Try.pinned (OpenSpec.ofChange fnExactElementValueWrong)

/-- 'laws.FnExactMetricGauss': WHATEVER THE INPUT: true; the input reads as it did. -/
def fnExactMetricGaussSpec : ChangeSpec := { name := "fnExactMetricGauss", fn := fun _ => fun
  | [d1, d2] => { results := [.lit (.bool true)], args := [d1, d2] }
  | _ => none }
def fnExactMetricGaussRow : OpenClaim := { program := "ytpafkgfjbdhpkaa", sum := "2593cc51f305b655f955862622f59c3d6ea6c95fdd69831aada857e1817dfe2d", func := "loop.example/g01132/laws.FnExactMetricGauss", spec := "fnExactMetricGauss", unfollowed := true, recurses := true, apart := false }
def FnExactMetricGaussSaid : Prop := fnExactMetricGaussRow.holds Try.pinned (OpenSpec.ofChange fnExactMetricGaussSpec)

/-- ITS FALSE NEIGHBOUR: 'it returns false'. Refute it at one input. -/
def fnExactMetricGaussWrong : ChangeSpec := { name := "fnExactMetricGauss", fn := fun _ => fun
  | [d1, d2] => { results := [.lit (.bool false)], args := [d1, d2] }
  | _ => none }
def FnExactMetricGaussWrongFalsely : Prop := fnExactMetricGaussRow.holds Try.pinned (OpenSpec.ofChange fnExactMetricGaussWrong)

/-- 'laws.FnExactMetricFrom': WHATEVER THE INPUT: true; the input reads as it did. -/
def fnExactMetricFromSpec : ChangeSpec := { name := "fnExactMetricFrom", fn := fun _ => fun
  | [d1, d2, d3, d4] => { results := [.lit (.bool true)], args := [d1, d2, d3, d4] }
  | _ => none }
def fnExactMetricFromRow : OpenClaim := { program := "ytpafkgfjbdhpkaa", sum := "2593cc51f305b655f955862622f59c3d6ea6c95fdd69831aada857e1817dfe2d", func := "loop.example/g01132/laws.FnExactMetricFrom", spec := "fnExactMetricFrom", unfollowed := true, recurses := true, apart := false }
def FnExactMetricFromSaid : Prop := fnExactMetricFromRow.holds Try.pinned (OpenSpec.ofChange fnExactMetricFromSpec)

/-- ITS FALSE NEIGHBOUR: 'it returns false'. Refute it at one input. -/
def fnExactMetricFromWrong : ChangeSpec := { name := "fnExactMetricFrom", fn := fun _ => fun
  | [d1, d2, d3, d4] => { results := [.lit (.bool false)], args := [d1, d2, d3, d4] }
  | _ => none }
def FnExactMetricFromWrongFalsely : Prop := fnExactMetricFromRow.holds Try.pinned (OpenSpec.ofChange fnExactMetricFromWrong)

/- THE SECOND FORM. 'bulk': how many values and letters a reading holds, each counted each time it is reached (what is shared counts as often as it is met; a slice's spare places count too). A statement '..UptoSaid' is the law's where the arguments, and the package variables that the reading takes, are together of bulk at most 1048576: NARROWER than '..Said'. Prove '..Said' where nothing that the law and all that it calls make is longer than what came in: it says more and counts as full. Else prove '..UptoSaid'. A law counts once. -/
mutual
def uptoBulk {H : Type} : DataW H → Nat
  | .lit (.string bytes) => bytes.length + 1
  | .lit _ => 1
  | .nil => 1
  | .ptr d => uptoBulk d + 1
  | .slice elems spare => uptoBulkAll elems + uptoBulkAll spare + 1
  | .agg parts => uptoBulkAll parts + 1
  | .iface _ d => uptoBulk d + 1
  | .map entries => uptoBulkEntries entries + 1
  | .held _ => 1
def uptoBulkAll {H : Type} : List (DataW H) → Nat
  | [] => 0
  | d :: r => uptoBulk d + uptoBulkAll r
def uptoBulkEntries {H : Type} : List (Lit × DataW H) → Nat
  | [] => 0
  | x :: r => uptoBulkEntry x + uptoBulkEntries r
def uptoBulkEntry {H : Type} : Lit × DataW H → Nat
  | (.string bytes, d) => bytes.length + uptoBulk d + 1
  | (_, d) => uptoBulk d + 1
 end
def uptoSmall : (H : Type) → List (DataW H) → Bool := fun _ ds => decide (uptoBulkAll ds ≤ 1048576)
def OpenSpec.upto (s : _root_.Go.ChangeSpec) : _root_.Go.OpenSpec := { _root_.Go.OpenSpec.ofChange s with cond := some uptoSmall }

/-- 'laws.FnExactIsMetric', WHERE WHAT IT READS IS OF BULK AT MOST 1048576: true; the input reads as it did. -/
def fnExactIsMetricUptoRow : OpenClaim := { program := "ytpafkgfjbdhpkaa", sum := "2593cc51f305b655f955862622f59c3d6ea6c95fdd69831aada857e1817dfe2d", func := "loop.example/g01132/laws.FnExactIsMetric", spec := "fnExactIsMetric", unfollowed := true, recurses := true, apart := false, narrowed := true }
def FnExactIsMetricUptoSaid : Prop := fnExactIsMetricUptoRow.holds Try.pinned (OpenSpec.upto fnExactIsMetricSpec)

/-- 'laws.FnExactIsAnisotropic', WHERE WHAT IT READS IS OF BULK AT MOST 1048576: true; the input reads as it did. -/
def fnExactIsAnisotropicUptoRow : OpenClaim := { program := "ytpafkgfjbdhpkaa", sum := "2593cc51f305b655f955862622f59c3d6ea6c95fdd69831aada857e1817dfe2d", func := "loop.example/g01132/laws.FnExactIsAnisotropic", spec := "fnExactIsAnisotropic", unfollowed := true, recurses := true, apart := false, narrowed := true }
def FnExactIsAnisotropicUptoSaid : Prop := fnExactIsAnisotropicUptoRow.holds Try.pinned (OpenSpec.upto fnExactIsAnisotropicSpec)

/-- 'laws.FnExactAddElements', WHERE WHAT IT READS IS OF BULK AT MOST 1048576: true; the input reads as it did. -/
def fnExactAddElementsUptoRow : OpenClaim := { program := "ytpafkgfjbdhpkaa", sum := "2593cc51f305b655f955862622f59c3d6ea6c95fdd69831aada857e1817dfe2d", func := "loop.example/g01132/laws.FnExactAddElements", spec := "fnExactAddElements", unfollowed := true, recurses := true, apart := false, narrowed := true }
def FnExactAddElementsUptoSaid : Prop := fnExactAddElementsUptoRow.holds Try.pinned (OpenSpec.upto fnExactAddElementsSpec)

/-- 'laws.FnExactNegateElement', WHERE WHAT IT READS IS OF BULK AT MOST 1048576: true; the input reads as it did. -/
def fnExactNegateElementUptoRow : OpenClaim := { program := "ytpafkgfjbdhpkaa", sum := "2593cc51f305b655f955862622f59c3d6ea6c95fdd69831aada857e1817dfe2d", func := "loop.example/g01132/laws.FnExactNegateElement", spec := "fnExactNegateElement", unfollowed := true, recurses := true, apart := false, narrowed := true }
def FnExactNegateElementUptoSaid : Prop := fnExactNegateElementUptoRow.holds Try.pinned (OpenSpec.upto fnExactNegateElementSpec)

/-- 'laws.FnExactPairElements', WHERE WHAT IT READS IS OF BULK AT MOST 1048576: true; the input reads as it did. -/
def fnExactPairElementsUptoRow : OpenClaim := { program := "ytpafkgfjbdhpkaa", sum := "2593cc51f305b655f955862622f59c3d6ea6c95fdd69831aada857e1817dfe2d", func := "loop.example/g01132/laws.FnExactPairElements", spec := "fnExactPairElements", unfollowed := true, recurses := true, apart := false, narrowed := true }
def FnExactPairElementsUptoSaid : Prop := fnExactPairElementsUptoRow.holds Try.pinned (OpenSpec.upto fnExactPairElementsSpec)

/-- 'laws.FnExactIsNondegenerate', WHERE WHAT IT READS IS OF BULK AT MOST 1048576: true; the input reads as it did. -/
def fnExactIsNondegenerateUptoRow : OpenClaim := { program := "ytpafkgfjbdhpkaa", sum := "2593cc51f305b655f955862622f59c3d6ea6c95fdd69831aada857e1817dfe2d", func := "loop.example/g01132/laws.FnExactIsNondegenerate", spec := "fnExactIsNondegenerate", unfollowed := true, recurses := true, apart := false, narrowed := true }
def FnExactIsNondegenerateUptoSaid : Prop := fnExactIsNondegenerateUptoRow.holds Try.pinned (OpenSpec.upto fnExactIsNondegenerateSpec)

/-- 'laws.FnExactOrderOfElement', WHERE WHAT IT READS IS OF BULK AT MOST 1048576: true; the input reads as it did. -/
def fnExactOrderOfElementUptoRow : OpenClaim := { program := "ytpafkgfjbdhpkaa", sum := "2593cc51f305b655f955862622f59c3d6ea6c95fdd69831aada857e1817dfe2d", func := "loop.example/g01132/laws.FnExactOrderOfElement", spec := "fnExactOrderOfElement", unfollowed := true, recurses := true, apart := false, narrowed := true }
def FnExactOrderOfElementUptoSaid : Prop := fnExactOrderOfElementUptoRow.holds Try.pinned (OpenSpec.upto fnExactOrderOfElementSpec)

/-- 'laws.FnExactRadicalOf', WHERE WHAT IT READS IS OF BULK AT MOST 1048576: true; the input reads as it did. -/
def fnExactRadicalOfUptoRow : OpenClaim := { program := "ytpafkgfjbdhpkaa", sum := "2593cc51f305b655f955862622f59c3d6ea6c95fdd69831aada857e1817dfe2d", func := "loop.example/g01132/laws.FnExactRadicalOf", spec := "fnExactRadicalOf", unfollowed := true, recurses := true, apart := false, narrowed := true }
def FnExactRadicalOfUptoSaid : Prop := fnExactRadicalOfUptoRow.holds Try.pinned (OpenSpec.upto fnExactRadicalOfSpec)

/-- 'laws.FnExactNegativeMetric', WHERE WHAT IT READS IS OF BULK AT MOST 1048576: true; the input reads as it did. -/
def fnExactNegativeMetricUptoRow : OpenClaim := { program := "ytpafkgfjbdhpkaa", sum := "2593cc51f305b655f955862622f59c3d6ea6c95fdd69831aada857e1817dfe2d", func := "loop.example/g01132/laws.FnExactNegativeMetric", spec := "fnExactNegativeMetric", unfollowed := true, recurses := true, apart := false, narrowed := true }
def FnExactNegativeMetricUptoSaid : Prop := fnExactNegativeMetricUptoRow.holds Try.pinned (OpenSpec.upto fnExactNegativeMetricSpec)

/-- 'laws.FnExactElementValue', WHERE WHAT IT READS IS OF BULK AT MOST 1048576: true; the input reads as it did. -/
def fnExactElementValueUptoRow : OpenClaim := { program := "ytpafkgfjbdhpkaa", sum := "2593cc51f305b655f955862622f59c3d6ea6c95fdd69831aada857e1817dfe2d", func := "loop.example/g01132/laws.FnExactElementValue", spec := "fnExactElementValue", unfollowed := true, recurses := true, apart := false, narrowed := true }
def FnExactElementValueUptoSaid : Prop := fnExactElementValueUptoRow.holds Try.pinned (OpenSpec.upto fnExactElementValueSpec)

/-- 'laws.FnExactMetricGauss', WHERE WHAT IT READS IS OF BULK AT MOST 1048576: true; the input reads as it did. -/
def fnExactMetricGaussUptoRow : OpenClaim := { program := "ytpafkgfjbdhpkaa", sum := "2593cc51f305b655f955862622f59c3d6ea6c95fdd69831aada857e1817dfe2d", func := "loop.example/g01132/laws.FnExactMetricGauss", spec := "fnExactMetricGauss", unfollowed := true, recurses := true, apart := false, narrowed := true }
def FnExactMetricGaussUptoSaid : Prop := fnExactMetricGaussUptoRow.holds Try.pinned (OpenSpec.upto fnExactMetricGaussSpec)

/-- 'laws.FnExactMetricFrom', WHERE WHAT IT READS IS OF BULK AT MOST 1048576: true; the input reads as it did. -/
def fnExactMetricFromUptoRow : OpenClaim := { program := "ytpafkgfjbdhpkaa", sum := "2593cc51f305b655f955862622f59c3d6ea6c95fdd69831aada857e1817dfe2d", func := "loop.example/g01132/laws.FnExactMetricFrom", spec := "fnExactMetricFrom", unfollowed := true, recurses := true, apart := false, narrowed := true }
def FnExactMetricFromUptoSaid : Prop := fnExactMetricFromUptoRow.holds Try.pinned (OpenSpec.upto fnExactMetricFromSpec)

end Rows
end Go.Proofs.Ytpafkgfjbdhpkaa
