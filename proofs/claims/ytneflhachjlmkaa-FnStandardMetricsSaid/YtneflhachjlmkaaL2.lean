
/- The law FnExactCyclicMetric: its walk out of the contracts. -/
import Derived.Test.YtneflhachjlmkaaL1
import Derived.Test.YtneflhachjlmkaaW5
namespace Go.Proofs.Ytneflhachjlmkaa
open Go Go.RowKit
theorem cycTo_rng (a q : Int) (k : Nat) (h1 : 1 ≤ q) (h2 : q ≤ 1000) : ∀ x ∈ cycTo a q k, i64ok x := by
  intro x hx
  simp only [cycTo, List.mem_map, List.mem_range] at hx
  obtain ⟨j, _, rfl⟩ := hx
  have h3 := Int.emod_nonneg (a * (j : Int) * (j : Int)) (show q ≠ 0 by omega)
  have h4 := Int.emod_lt_of_pos (a * (j : Int) * (j : Int)) (show 0 < q by omega)
  exact ⟨by omega, by omega⟩
end Go.Proofs.Ytneflhachjlmkaa
