
/- The table of math/bits out of a card's condition. -/
import Derived.Test.YtlekbkjkkoefnaaDoorRows
import Derived.Test.YtlekbkjkkoefnaaDoorMW1
import Derived.Lib.LaidTab
import Derived.LaidMore
namespace Go.Proofs.YtlekbkjkkoefnaaDoor
open Go
theorem tb_of_laid {W : World} (h : laidMetH Tryd.prog [("math/bits.deBruijn64tab", Rows.laid_math_bits_deBruijn64tab)] W) : Tb W := by
  rw [MakeChecks.laidMetH_plain _ _ _ (by kernel_rfl)] at h
  have hT := Lib.tabIs_of_head (P := Tryd.prog) (W := W) (name := "math/bits.deBruijn64tab") (k := .u8) (zs := Lib.deBruijn64tab.map fun (n : Nat) => (n : Int)) (rest := []) (g := 0) (t := 121) (e := 5) (n := 64)
    (by kernel_rfl) (by kernel_rfl) Tryd.underlying121 Tryd.underlying5 (by kernel_rfl) (by kernel_rfl) h
  have hc : ∀ i, i < 64 → W.cell? ⟨0, i, none⟩ = some (.int .u8 ((Lib.deBruijn64tab.map fun (n : Nat) => (n : Int)).getD i 0)) := fun i hi =>
    hT.cell (by kernel_rfl) i (by simpa [Lib.deBruijn64tab] using hi)
  refine ⟨?_, fun j hj => ?_⟩
  · have h0 := hc 0 (by omega)
    rcases Nat.lt_or_ge 0 W.heap.size with hl | hl
    · exact hl
    · rw [World.cell?, Array.getElem?_eq_none hl] at h0
      cases h0
  · have h0 := hc j (by simpa [Lib.deBruijn64tab] using hj)
    rw [h0]
    simp only [List.getD_eq_getElem?_getD, List.getElem?_map, List.getElem?_eq_getElem hj, Option.map_some, Option.getD_some]
end Go.Proofs.YtlekbkjkkoefnaaDoor
