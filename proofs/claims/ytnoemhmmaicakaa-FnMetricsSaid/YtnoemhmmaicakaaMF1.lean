
/- The walk of spec.MetricFrom. -/
import Derived.Test.YtnoemhmmaicakaaFR
import Derived.Test.YtnoemhmmaicakaaEa
import Derived.WalkLawsBesides
namespace Go.Proofs.Ytnoemhmmaicakaa
open Go Go.RowKit Grp
set_option linter.unusedSimpArgs false
set_option linter.unusedVariables false

/-- The arguments are in range. -/
def frm (os : List Int) (D : Int) (sq pr : List Int) : Bool := okG os && ordB D && decide (sq.length = os.length) && decide (pr.length = tri os.length) && allIn 0 (D - 1) sq && allIn 0 (D - 1) pr
def valsF (os : List Int) (D : Int) (sq pr : List Int) : List Int := fromL os D sq pr (prodL os).toNat
noncomputable def mfC (os : List Int) (D : Int) (sq pr : List Int) : Int := if frm os D sq pr = true then if isM os D (valsF os D sq pr) = true then 0 else 5 else 2
def gF (k : Int) (xs : List Int) : List Int := if k = 0 then xs else []
def gFI (k x : Int) : Int := if k = 0 then x else 0
theorem gF_0 (xs : List Int) : gF 0 xs = xs := rfl
theorem gFI_0 (x : Int) : gFI 0 x = x := rfl
theorem gF_n {k : Int} (h : k ≠ 0) (xs : List Int) : gF k xs = [] := by unfold gF; rw [if_neg h]
theorem gFI_n {k : Int} (h : k ≠ 0) (x : Int) : gFI k x = 0 := by unfold gFI; rw [if_neg h]
theorem frm_t {os : List Int} {D : Int} {sq pr : List Int} (h1 : okG os = true) (h2 : ordB D = true) (h3 : sq.length = os.length) (h4 : pr.length = tri os.length) (h5 : allIn 0 (D - 1) sq = true) (h6 : allIn 0 (D - 1) pr = true) : frm os D sq pr = true := by
  simp [frm, h1, h2, h3, h4, h5, h6]
theorem tri_eq : ∀ n : Nat, n ≤ 4 → 0 ≤ (n : Int) * ((n : Int) - 1) ∧ (n : Int) * ((n : Int) - 1) ≤ 12 ∧ ((n : Int) * ((n : Int) - 1)).tdiv 2 = (tri n : Int) := by decide
theorem allIn_mem {lo hi : Int} {xs : List Int} (h : allIn lo hi xs = true) : ∀ x ∈ xs, lo ≤ x ∧ x ≤ hi := fun x hx => by
  have := List.all_eq_true.1 h x hx
  simpa [inB] using this
theorem fromL_rng {os : List Int} {D : Int} (hD : 1 ≤ D) {sq pr : List Int} {k : Nat} : ∀ x ∈ fromL os D sq pr k, 0 ≤ x ∧ x < D := fun x hx => by
  unfold fromL at hx
  obtain ⟨j, hj, rfl⟩ := List.mem_map.1 hx
  exact ⟨Int.emod_nonneg _ (by omega), Int.emod_lt_of_pos _ (by omega)⟩

end Go.Proofs.Ytnoemhmmaicakaa
