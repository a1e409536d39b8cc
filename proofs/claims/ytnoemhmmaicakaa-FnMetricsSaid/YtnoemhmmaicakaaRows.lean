/-
  No cell of these rows narrows 'for every input' (looked for: loops, veiled, ifaces, maps, wideKeys, modest, calm, conditions, laid).
  DERIVED. THE GIVEN ROWS OF THIS SEAT. 2 by the template 'for every input the law returns true; each argument reads behind the call as it read before'; 0 by the template 'total and deterministic' (their statements: YtnoemhmmaicakaaTotals.lean).
  GIVEN WITH THE SEED: the statements are not yours to turn. If you find one false, say at which input.
  Laid BY PROGRAM, IN A SANDBOX (cutbox-rows.mjs): the forced cells as the released guide's own fill.sh prints them over the translation c1d0a585597351c2… (all of the seat's roots in one cut). By AI agents, Wed Nov 11 2026. No macro, syntax, notation, axiom, sorry.
-/
import Derived.Test.YtnoemhmmaicakaaChecked
import GoSem.Claim
import GoSem.ClaimJoined
import GoSem.ClaimMapViews
import Derived.JoinedTies
import Derived.KernelRfl
namespace Go.Proofs.Ytnoemhmmaicakaa
/- THE CELL 'sum', in the pinned program and in every row, IS THE sha256 OF THE DUMP (.gsa) THAT YtnoemhmmaicakaaProg.lean LOADS. Nothing in Lean hashes anything: it is a label: what it is worth is what the hold of that sum in a sandbox is worth. -/
noncomputable def Try.pinned : Pinned := { name := "ytnoemhmmaicakaa", sum := "c1d0a585597351c271c880c70f32f2759eb017d94a20758e4490c3f213f26f39", checked := Try.checked }
namespace Rows
def none {H : Type} : Left H := { results := [], args := [] }

/-- 'laws.FnMetrics': WHATEVER THE INPUT: true; the input reads as it did. -/
def fnMetricsSpec : ChangeSpec := { name := "fnMetrics", fn := fun _ => fun
  | [d] => { results := [.lit (.bool true)], args := [d] }
  | _ => none }
def fnMetricsRow : OpenClaim := { program := "ytnoemhmmaicakaa", sum := "c1d0a585597351c271c880c70f32f2759eb017d94a20758e4490c3f213f26f39", func := "loop.example/g01132/laws.FnMetrics", spec := "fnMetrics", unfollowed := true, recurses := true, apart := false }
def FnMetricsSaid : Prop := fnMetricsRow.holds Try.pinned (OpenSpec.ofChange fnMetricsSpec)

/-- ITS FALSE NEIGHBOUR: 'it returns false'. Refute it at one input. -/
def fnMetricsWrong : ChangeSpec := { name := "fnMetrics", fn := fun _ => fun
  | [d] => { results := [.lit (.bool false)], args := [d] }
  | _ => none }
def FnMetricsWrongFalsely : Prop := fnMetricsRow.holds Try.pinned (OpenSpec.ofChange fnMetricsWrong)

/-- 'laws.FnGaussSums': WHATEVER THE INPUT: true; the input reads as it did. -/
def fnGaussSumsSpec : ChangeSpec := { name := "fnGaussSums", fn := fun _ => fun
  | [d] => { results := [.lit (.bool true)], args := [d] }
  | _ => none }
def fnGaussSumsRow : OpenClaim := { program := "ytnoemhmmaicakaa", sum := "c1d0a585597351c271c880c70f32f2759eb017d94a20758e4490c3f213f26f39", func := "loop.example/g01132/laws.FnGaussSums", spec := "fnGaussSums", unfollowed := true, recurses := true, apart := false }
def FnGaussSumsSaid : Prop := fnGaussSumsRow.holds Try.pinned (OpenSpec.ofChange fnGaussSumsSpec)

/-- ITS FALSE NEIGHBOUR: 'it returns false'. Refute it at one input. -/
def fnGaussSumsWrong : ChangeSpec := { name := "fnGaussSums", fn := fun _ => fun
  | [d] => { results := [.lit (.bool false)], args := [d] }
  | _ => none }
def FnGaussSumsWrongFalsely : Prop := fnGaussSumsRow.holds Try.pinned (OpenSpec.ofChange fnGaussSumsWrong)

/- THE SECOND FORM. 'bulk': how many values and letters a reading holds, each counted each time it is reached (what is shared counts as often as it is met; a slice's spare places count too). A statement '..UptoSaid' is the law's where the arguments, and the package variables that the reading takes, are together of bulk at most 1048576: NARROWER than '..Said'. Prove '..Said' where nothing that the law and all that it calls make is longer than what came in: it says more and counts as full. Else prove '..UptoSaid'. A law counts once. -/
mutual
def uptoBulk {H : Type} : DataW H → Nat
  | .lit (.string bytes) => bytes.length + 1
  | .lit _ => 1
  | .nil => 1
  | .ptr d => uptoBulk d + 1
  | .slice elems spare => uptoBulkAll elems + uptoBulkAll spare + 1
  | .agg parts => uptoBulkAll parts + 1
  | .iface _ d => uptoBulk d + 1
  | .map entries => uptoBulkEntries entries + 1
  | .held _ => 1
def uptoBulkAll {H : Type} : List (DataW H) → Nat
  | [] => 0
  | d :: r => uptoBulk d + uptoBulkAll r
def uptoBulkEntries {H : Type} : List (Lit × DataW H) → Nat
  | [] => 0
  | x :: r => uptoBulkEntry x + uptoBulkEntries r
def uptoBulkEntry {H : Type} : Lit × DataW H → Nat
  | (.string bytes, d) => bytes.length + uptoBulk d + 1
  | (_, d) => uptoBulk d + 1
 end
def uptoSmall : (H : Type) → List (DataW H) → Bool := fun _ ds => decide (uptoBulkAll ds ≤ 1048576)
def OpenSpec.upto (s : _root_.Go.ChangeSpec) : _root_.Go.OpenSpec := { _root_.Go.OpenSpec.ofChange s with cond := some uptoSmall }

/-- 'laws.FnMetrics', WHERE WHAT IT READS IS OF BULK AT MOST 1048576: true; the input reads as it did. -/
def fnMetricsUptoRow : OpenClaim := { program := "ytnoemhmmaicakaa", sum := "c1d0a585597351c271c880c70f32f2759eb017d94a20758e4490c3f213f26f39", func := "loop.example/g01132/laws.FnMetrics", spec := "fnMetrics", unfollowed := true, recurses := true, apart := false, narrowed := true }
def FnMetricsUptoSaid : Prop := fnMetricsUptoRow.holds Try.pinned (OpenSpec.upto fnMetricsSpec)

/-- 'laws.FnGaussSums', WHERE WHAT IT READS IS OF BULK AT MOST 1048576: true; the input reads as it did. -/
def fnGaussSumsUptoRow : OpenClaim := { program := "ytnoemhmmaicakaa", sum := "c1d0a585597351c271c880c70f32f2759eb017d94a20758e4490c3f213f26f39", func := "loop.example/g01132/laws.FnGaussSums", spec := "fnGaussSums", unfollowed := true, recurses := true, apart := false, narrowed := true }
def FnGaussSumsUptoSaid : Prop := fnGaussSumsUptoRow.holds Try.pinned (OpenSpec.upto fnGaussSumsSpec)

end Rows
end Go.Proofs.Ytnoemhmmaicakaa
