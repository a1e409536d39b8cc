
/- The walks of delta, isCube, onlyOf, dualFault of the program. -/
import Derived.Test.YteobaodabjdcaaaRS1
import Derived.Test.YteobaodabjdcaaaGa
namespace Go.Proofs.Yteobaodabjdcaaa
open Go Go.RowKit
set_option linter.unusedSimpArgs false
set_option linter.unusedVariables false
set_option maxRecDepth 100000

theorem delta_any (w : World) (i k : Nat) : Calls Try.prog 37 #[.int .i64 i, .int .i64 k] w (Qt w (.int .i64 (dl i k))) := by
  by_cases h : i = k
  · subst h
    have hE := hide (show dl i i = 1 from if_pos rfl)
    go_enter Try.func37, Try.ntmps37
    go_wp2_with fail
    go_ret
    exact Qt.mk' 0 rfl (int_eq hE.out.symm)
  · have hE := hide (show dl i k = 0 from if_neg h)
    have hb : ((i : Int) == (k : Int)) = false := by simp; omega
    clear h
    go_enter Try.func37, Try.ntmps37
    go_wp2_with fail
    go_ret
    exact Qt.mk' 0 rfl (int_eq hE.out.symm)

def badB (n : Nat) (r : List Int) : Bool := !(decide (r.length = n) && allIn 0 1000 r)
theorem badB_ok {n : Nat} {r : List Int} (h : badB n r = false) : RowOk n r := by
  simp only [badB, Bool.not_eq_false', Bool.and_eq_true, decide_eq_true_eq] at h
  refine ⟨h.1, fun x hx => ?_⟩
  have := List.all_eq_true.1 h.2 x hx
  simpa [inB] using this
theorem badB_no {n : Nat} {r : List Int} (h : badB n r = true) : ¬ RowOk n r := by
  intro hr
  simp only [badB, Bool.not_eq_true', Bool.and_eq_false_iff, decide_eq_false_iff_not] at h
  rcases h with h | h
  · exact h hr.1
  · have : allIn 0 1000 r = true := List.all_eq_true.2 fun x hx => by have := hr.2 x hx; simp [inB, this]
    rw [this] at h; cases h
theorem cb_iff {t : Tb} (h : ∀ m ∈ t, MatOk t.length m) : cbB t = decide (1 ≤ t.length ∧ t.length ≤ 16) := by
  by_cases h1 : 1 ≤ t.length ∧ t.length ≤ 16
  · rw [cbB_t ⟨h1.1, h1.2, h⟩]; simp [h1]
  · rw [cbB_f fun hc => h1 ⟨hc.pos, hc.le⟩]; simp [h1]
end Go.Proofs.Yteobaodabjdcaaa
