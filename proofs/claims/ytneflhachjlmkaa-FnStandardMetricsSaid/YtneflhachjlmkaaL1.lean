
/- The law FnExactHyperbolicMetric: its walk out of the contracts. -/
import Derived.Test.YtneflhachjlmkaaLa
import Derived.Test.YtneflhachjlmkaaW4
namespace Go.Proofs.Ytneflhachjlmkaa
open Go Go.RowKit

theorem hyp_same (n : Nat) (h2 : 2 ≤ n) (h4 : n ≤ 4) : hypTo n n = hypAt n (n * n) := by
  have : n = 2 ∨ n = 3 ∨ n = 4 := by omega
  rcases this with rfl | rfl | rfl <;> decide
theorem hypAt_rng (n k : Nat) (h2 : 2 ≤ n) (h4 : n ≤ 4) : ∀ x ∈ hypAt n k, i64ok x := by
  intro x hx
  simp only [hypAt, List.mem_map, List.mem_range] at hx
  obtain ⟨j, _, rfl⟩ := hx
  have h1 := Int.emod_nonneg ((j : Int) / n * ((j : Int) % n)) (show (n : Int) ≠ 0 by omega)
  have h2 := Int.emod_lt_of_pos ((j : Int) / n * ((j : Int) % n)) (show (0 : Int) < n by omega)
  exact ⟨by omega, by omega⟩

end Go.Proofs.Ytneflhachjlmkaa
