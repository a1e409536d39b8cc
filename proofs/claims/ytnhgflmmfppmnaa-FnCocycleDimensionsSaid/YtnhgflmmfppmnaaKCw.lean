
/- The kind of a cocycle whose orders and whose table are each of at most 2^20 parts. -/
import Derived.Test.YtnhgflmmfppmnaaKC
namespace Go.Proofs.Ytnhgflmmfppmnaa
open Go Go.RowKit
set_option linter.unusedSimpArgs false
set_option linter.unusedVariables false
set_option maxRecDepth 100000
abbrev cocycleW_T := cocycle_T
abbrev cocycleW_R := cocycle_R
abbrev cocycleW_E := cocycle_E
abbrev cocycleW_mk := cocycle_mk
abbrev cocycleW_sum := cocycle_sum
abbrev cocycleW_held := cocycle_held
def cocycleW_tot (x : cocycle_T) : Nat := max x.1.length (tot3 x.2.2)
def cocycleW_Sh (x : cocycle_T) : Prop := x.1.length ≤ 1048576 ∧ tot3 x.2.2 ≤ 1048576
theorem cocycleW_sh {x : cocycle_T} (h : cocycleW_tot x ≤ 1048576) : cocycleW_Sh x := by unfold cocycleW_tot at h; exact ⟨by omega, by omega⟩
theorem cocycleW_sumle (x : cocycle_T) : cocycleW_sum x ≤ 2 * cocycleW_tot x := by unfold cocycleW_sum cocycle_sum cocycleW_tot; have := sum3_le_tot3 x.2.2; omega
theorem cocycleW_shmk {x : cocycle_T} {q : Int} (h : cocycleW_Sh x) : cocycleW_Sh (cocycle_mk q x) := by
  unfold cocycleW_Sh cocycle_mk mark1 at *
  rw [marks_length, tot3_mark]; exact h
theorem cocycleW_heldmk1 {x : cocycle_T} : cocycle_held 1 (cocycle_mk 1 x) = 1 + (cocycle_sum x : Int) := cocycle_heldmk1
section
variable {w w' : World} {B B' : Nat} {v : Value} {x : cocycle_T} {fp fq : Nat → Prop}
theorem cocycleW_form (h : cocycle_R w B v x) : ∃ A n c z D m e, v = .agg #[.slice A n c, .int .i64 z, .slice D m e] ∧ x.2.1 = z := cocycle_form h
theorem cocycleW_keep (h : cocycle_R w B v x) (hb : Below B w w') (hB : B ≤ B') : cocycle_R w' B' v x := cocycle_keep h hb hB
theorem cocycleW_rd (h : cocycle_E w v x fp) : cocycle_R w w.heap.size v x := cocycle_rd h
theorem cocycleW_below (h : cocycle_E w v x fp) (hb : Below w.heap.size w w') : cocycle_E w' v x fp := cocycle_below h hb
theorem cocycleW_wr (h : cocycle_E w v x fp) (hw : Wr w w' fq) (hd : ∀ b, fp b → fq b → False) : cocycle_E w' v x fp := cocycle_wr h hw hd
end
end Go.Proofs.Ytnhgflmmfppmnaa
