
/- The walks of impl.within, spec.l01In, Metric.rest, impl.HyperbolicMetric, spec.HyperbolicMetric. -/
import Derived.Test.YtnoemhmmaicakaaW3
import Derived.Test.YtnoemhmmaicakaaGa
namespace Go.Proofs.Ytnoemhmmaicakaa
open Go Go.RowKit
set_option linter.unusedSimpArgs false
set_option linter.unusedVariables false

def hypAt (n : Int) (k : Nat) : List Int := (List.range k).map fun (x : Nat) => ((x : Int) / n * ((x : Int) % n)) % n
theorem hypAt_succ (n : Int) (k : Nat) : hypAt n (k + 1) = hypAt n k ++ [((k : Int) / n * ((k : Int) % n)) % n] := by simp [hypAt, List.range_succ]
theorem hypAt_len (n : Int) (k : Nat) : (hypAt n k).length = k := by simp [hypAt]

/-- What the loop keeps: the result's slot, the orders, the metric with the values so far. -/
structure HypIm (w : World) (n : Nat) (xs : List Int) (vv : Value) (wr : World) : Prop where
  res : Blk wr w.heap.size 26 #[.slice none 0 0, .int .i64 0, .slice none 0 0]
  ords : Ow wr w.heap.size (.slice (some ⟨w.heap.size + 1, 0, none⟩) 2 2) [(n : Int), n]
  out : Blk wr (w.heap.size + 1 + 1) 26 #[.slice (some ⟨w.heap.size + 1, 0, none⟩) 2 2, .int .i64 n, vv]
  vals : Ow wr w.heap.size vv xs
  apart : Apart (.slice (some ⟨w.heap.size + 1, 0, none⟩) 2 2) vv
  below : Below w.heap.size w wr

end Go.Proofs.Ytnoemhmmaicakaa
