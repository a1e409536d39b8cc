
/- The walks of CyclicCocycle of both sides. -/
import Derived.Test.YtnhgflmmfppmnaaCB3
namespace Go.Proofs.Ytnhgflmmfppmnaa
open Go Go.RowKit Grp
set_option linter.unusedSimpArgs false
set_option linter.unusedVariables false
set_option maxRecDepth 100000

def cyc (n : Nat) (k : Int) (x y z : Nat) : Int := (if (n : Int) ≤ (y : Int) + z then k * (x : Int) else 0) % n
/-- What CyclicCocycle returns. -/
def cycB (n k : Int) : Bool := inB n 1 8 && inB k 0 (n - 1)
def cycC (n k : Int) : cocycle_T := if cycB n k = true then ([n], n, cub n.toNat (cyc n.toNat k)) else ([], 0, [])
def cycK (n k : Int) : Int := if cycB n k = true then 0 else 2
theorem cocycle_zero (w : World) (fp : Nat → Prop) (hb : ∀ b, fp b → b < w.heap.size) : cocycle_E w (.agg #[.slice none 0 0, .int .i64 0, .slice none 0 0]) ([], 0, []) fp :=
  ⟨⟨by simp, by simp⟩, _, _, fun _ => False, fun _ => False, rfl, E1.nil _ _ (fun _ h => h.elim), ⟨⟨[], fun _ _ => False, World.ownsRow_nil _ _ _ _, rfl, fun k u x h => by simp at h, fun _ _ _ h => h.elim, fun _ _ h => h.elim⟩, fun b hb => by simp [Value.ownBlock] at hb, fun _ h => h.elim⟩, fun _ h => h.elim, fun _ h => h.elim, fun _ h => h.elim, hb⟩
theorem cyc_1 {n k : Int} (h : cycB n k = false) : cycC n k = ([], 0, []) ∧ cycK n k = 2 := by unfold cycC cycK; rw [h]; exact ⟨rfl, rfl⟩
theorem cyc_2 {n : Nat} {k : Int} (h : cycB n k = true) : cycC n k = (([(n : Int)], (n : Int), cub n (cyc n k)) : cocycle_T) ∧ cycK n k = 0 := by unfold cycC cycK; rw [h]; exact ⟨rfl, rfl⟩
theorem tot3_cub (n : Nat) (h : n ≤ 8) (f : Nat → Nat → Nat → Int) : tot3 (cub n f) ≤ 600 := by
  have h1 : ∀ g, tot2 (mat n g) = n + n * n := fun g => by
    unfold tot2 totL mat
    simp only [List.length_map, List.length_range, List.map_map]
    congr 1
    have : ∀ k, ((List.range k).map (List.length ∘ fun y => (List.range n).map fun z => g y z)).sum = k * n := by
      intro k
      induction k with
      | zero => simp
      | succ k ih => rw [List.range_succ, List.map_append, List.sum_append, ih]; simp [Nat.succ_mul]
    exact this n
  have h2 : tot3 (cub n f) = n + n * (n + n * n) := by
    unfold tot3 totL cub
    simp only [List.length_map, List.length_range, List.map_map]
    congr 1
    have : ∀ k, ((List.range k).map (tot2 ∘ fun x => mat n (f x))).sum = k * (n + n * n) := by
      intro k
      induction k with
      | zero => simp
      | succ k ih => rw [List.range_succ, List.map_append, List.sum_append, ih]; simp [h1, Nat.succ_mul]
    exact this n
  rw [h2]
  have a : n * n ≤ 8 * 8 := Nat.mul_le_mul h h
  have b : n * (n + n * n) ≤ 8 * (8 + 64) := Nat.mul_le_mul h (by omega)
  omega
theorem cycC_tot (n k : Int) : cocycle_tot (cycC n k) ≤ 1048576 := by
  unfold cycC
  split
  · rename_i h
    have h8 : n.toNat ≤ 8 := by
      unfold cycB at h
      rw [Bool.and_eq_true] at h
      have := h.1
      simp only [inB, decide_eq_true_eq] at this
      omega
    have := tot3_cub n.toNat h8 (cyc n.toNat k)
    unfold cocycle_tot
    simp only [List.length_cons, List.length_nil]
    omega
  · decide
end Go.Proofs.Ytnhgflmmfppmnaa
