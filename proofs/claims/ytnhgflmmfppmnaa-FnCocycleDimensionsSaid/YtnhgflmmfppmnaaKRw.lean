
/- The kind of rows of integers. -/
import Derived.Test.YtnhgflmmfppmnaaKD0
import Derived.Test.YtnhgflmmfppmnaaNW2
import Derived.Test.YtnhgflmmfppmnaaOpN
namespace Go.Proofs.Ytnhgflmmfppmnaa
open Go Go.RowKit
set_option linter.unusedSimpArgs false
set_option linter.unusedVariables false
abbrev rows_T := List (List Int)
def rows_R (w : World) (B : Nat) (v : Value) (x : rows_T) : Prop := S2 w B v x
def rows_E : Own rows_T := E2
def rows_Big (x : rows_T) : Prop := Big2 x
def rows_tot (x : rows_T) : Nat := tot2 x
def rows_Sh (x : rows_T) : Prop := tot2 x ≤ 1048576
def rows_sum (x : rows_T) : Nat := sum2 x
def rows_mk (q : Int) (x : rows_T) : rows_T := mark2 q x
def rows_held (q : Int) (x : rows_T) : Int := held2 q x
theorem sh2_of {t : List (List Int)} (h : tot2 t ≤ 1048576) : t.length ≤ 1048576 ∧ ∀ xs ∈ t, xs.length ≤ 1048576 := by
  refine ⟨by unfold tot2 totL at h; omega, fun ys hy => ?_⟩
  have := totL_mem (f := List.length) hy
  unfold tot2 at h
  omega
theorem tot2_mk (q : Int) (t : List (List Int)) : tot2 (mark2 q t) = tot2 t := by
  have key : ∀ (xs : List (List Int)) q, totL List.length (markL mark1 List.length q xs) = totL List.length xs := by
    intro xs
    intro q
    unfold totL
    rw [markL_length]
    congr 1
    induction xs generalizing q with
    | nil => rfl
    | cons x r ih => simp only [markL, List.map_cons, List.sum_cons, ih]; unfold mark1; rw [marks_length]
  exact key t q
section
variable {w w' : World} {B B' : Nat} {v : Value} {x : rows_T} {fp fq : Nat → Prop}
theorem rows_form (h : rows_R w B v x) : ∃ A n c, v = .slice A n c ∧ Sl2 w B A n c x := h
theorem rows_keep (h : rows_R w B v x) (hb : Below B w w') (hB : B ≤ B') : rows_R w' B' v x := by
  obtain ⟨A, n, c, e, hs⟩ := h
  exact ⟨A, n, c, e, (hs.below hb).more hB⟩
theorem rows_rd (h : rows_E w v x fp) : rows_R w w.heap.size v x := E2.s2 h
theorem rows_below (h : rows_E w v x fp) (hb : Below w.heap.size w w') : rows_E w' v x fp := E2.below h hb
theorem rows_wr (h : rows_E w v x fp) (hw : Wr w w' fq) (hd : ∀ b, fp b → fq b → False) : rows_E w' v x fp := kp2 _ _ _ _ _ h (fun b hb => hw.block b (OwL.bd h b hb) (hd b hb)) hw.size
theorem rows_sh (h : rows_tot x ≤ 1048576) : rows_Sh x := h
theorem rows_sumle (x : rows_T) : rows_sum x ≤ rows_tot x := sum2_le_tot2 x
theorem rows_shmk {q : Int} (h : rows_Sh x) : rows_Sh (rows_mk q x) := by unfold rows_Sh rows_mk; rw [tot2_mk]; exact h
theorem rows_heldmk1 : rows_held 1 (rows_mk 1 x) = 1 + (rows_sum x : Int) := held2_mark2 _ _ (by omega)
end
end Go.Proofs.Ytnhgflmmfppmnaa
