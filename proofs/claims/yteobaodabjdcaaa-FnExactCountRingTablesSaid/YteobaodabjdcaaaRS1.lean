
/- The walks of l03Cube, l03Dual. -/
import Derived.Test.YteobaodabjdcaaaRG
import Derived.Test.YteobaodabjdcaaaGa
import Derived.WalkLawsBesides
namespace Go.Proofs.Yteobaodabjdcaaa
open Go Go.RowKit
set_option linter.unusedSimpArgs false
set_option linter.unusedVariables false
set_option maxRecDepth 100000

theorem not_cb_row {t : Tb} {m : List (List Int)} {k : Nat} (h : t[k]? = some m) (hl : m.length ≠ t.length) : cbB t = false := cbB_f fun hc => hl (hc.row m (get_mem h)).1
theorem not_cb_col {t : Tb} {m : List (List Int)} {r : List Int} {k j : Nat} (h : t[k]? = some m) (h2 : m[j]? = some r) (hl : r.length ≠ t.length) : cbB t = false := cbB_f fun hc => hl ((hc.row m (get_mem h)).2 r (get_mem h2)).1
theorem not_cb_num {t : Tb} {m : List (List Int)} {r : List Int} {k j i : Nat} (h : t[k]? = some m) (h2 : m[j]? = some r) (hi : i < r.length) (hl : ¬ (0 ≤ gi r i ∧ gi r i ≤ 1000)) : cbB t = false := cbB_f fun hc => hl (((hc.row m (get_mem h)).2 r (get_mem h2)).2 _ (gi_mem hi))
/-- The first k rows fit. -/
def RowOk (n : Nat) (r : List Int) : Prop := r.length = n ∧ ∀ x ∈ r, 0 ≤ x ∧ x ≤ 1000
def MatOk (n : Nat) (m : List (List Int)) : Prop := m.length = n ∧ ∀ r ∈ m, RowOk n r
theorem rowOk_of {n : Nat} {r : List Int} (hl : r.length = n) (h : ∀ j, j < n → 0 ≤ gi r j ∧ gi r j ≤ 1000) : RowOk n r := by
  refine ⟨hl, fun x hx => ?_⟩
  obtain ⟨j, hj, rfl⟩ := List.getElem_of_mem hx
  have := h j (by omega)
  unfold gi at this
  rwa [List.getD_eq_getElem?_getD, List.getElem?_eq_getElem hj] at this
theorem all_get {α : Type} {p : α → Prop} {xs : List α} (h : ∀ (j : Nat) x, xs[j]? = some x → p x) : ∀ x ∈ xs, p x := by
  intro x hx
  obtain ⟨j, hj, rfl⟩ := List.getElem_of_mem hx
  exact h j _ (List.getElem?_eq_getElem hj)
theorem cb_of {t : Tb} (h1 : 1 ≤ t.length) (h2 : t.length ≤ 16) (h : ∀ (j : Nat) m, t[j]? = some m → MatOk t.length m) : IsCb t := ⟨h1, h2, all_get h⟩

end Go.Proofs.Yteobaodabjdcaaa
