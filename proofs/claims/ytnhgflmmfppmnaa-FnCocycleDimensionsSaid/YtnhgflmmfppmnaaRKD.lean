
/- The ranks of the equations and of the coboundaries of all groups with at most six elements, computed by the kernel. -/
import Derived.Test.YtnhgflmmfppmnaaRKC
namespace Go.Proofs.Ytnhgflmmfppmnaa
open Go Go.RowKit Grp Rk
namespace Pk
set_option maxRecDepth 100000
theorem eq_2_2 : rankE 2 1 (eqNs [2] 2 2) = some 0 := by decide +kernel
theorem bd_2_2 : rankE 2 8 ((blL [2] 2 2 2 1).map natL) = some 0 := by decide +kernel
theorem eq_2_3 : rankE 3 1 (eqNs [2] 3 2) = some 1 := by decide +kernel
theorem bd_2_3 : rankE 3 8 ((blL [2] 3 2 2 1).map natL) = some 0 := by decide +kernel
theorem eq_2_5 : rankE 5 1 (eqNs [2] 5 2) = some 1 := by decide +kernel
theorem bd_2_5 : rankE 5 8 ((blL [2] 5 2 2 1).map natL) = some 0 := by decide +kernel
theorem eq_2_7 : rankE 7 1 (eqNs [2] 7 2) = some 1 := by decide +kernel
theorem bd_2_7 : rankE 7 8 ((blL [2] 7 2 2 1).map natL) = some 0 := by decide +kernel
theorem eq_3_2 : rankE 2 8 (eqNs [3] 2 3) = some 6 := by decide +kernel
theorem bd_3_2 : rankE 2 27 ((blL [3] 2 3 3 1).map natL) = some 2 := by decide +kernel
theorem eq_3_3 : rankE 3 8 (eqNs [3] 3 3) = some 5 := by decide +kernel
theorem bd_3_3 : rankE 3 27 ((blL [3] 3 3 3 1).map natL) = some 2 := by decide +kernel
theorem eq_3_5 : rankE 5 8 (eqNs [3] 5 3) = some 6 := by decide +kernel
theorem bd_3_5 : rankE 5 27 ((blL [3] 5 3 3 1).map natL) = some 2 := by decide +kernel
theorem eq_3_7 : rankE 7 8 (eqNs [3] 7 3) = some 6 := by decide +kernel
theorem bd_3_7 : rankE 7 27 ((blL [3] 7 3 3 1).map natL) = some 2 := by decide +kernel
theorem eq_4_2 : rankE 2 27 (eqNs [4] 2 4) = some 20 := by decide +kernel
theorem bd_4_2 : rankE 2 64 ((blL [4] 2 4 4 1).map natL) = some 6 := by decide +kernel
theorem eq_4_3 : rankE 3 27 (eqNs [4] 3 4) = some 21 := by decide +kernel
theorem bd_4_3 : rankE 3 64 ((blL [4] 3 4 4 1).map natL) = some 6 := by decide +kernel
theorem eq_4_5 : rankE 5 27 (eqNs [4] 5 4) = some 21 := by decide +kernel
theorem bd_4_5 : rankE 5 64 ((blL [4] 5 4 4 1).map natL) = some 6 := by decide +kernel
theorem eq_4_7 : rankE 7 27 (eqNs [4] 7 4) = some 21 := by decide +kernel
theorem bd_4_7 : rankE 7 64 ((blL [4] 7 4 4 1).map natL) = some 6 := by decide +kernel
theorem eq_5_2 : rankE 2 64 (eqNs [5] 2 5) = some 52 := by decide +kernel
theorem bd_5_2 : rankE 2 125 ((blL [5] 2 5 5 1).map natL) = some 12 := by decide +kernel
theorem eq_5_3 : rankE 3 64 (eqNs [5] 3 5) = some 52 := by decide +kernel
theorem bd_5_3 : rankE 3 125 ((blL [5] 3 5 5 1).map natL) = some 12 := by decide +kernel
theorem eq_5_5 : rankE 5 64 (eqNs [5] 5 5) = some 51 := by decide +kernel
theorem bd_5_5 : rankE 5 125 ((blL [5] 5 5 5 1).map natL) = some 12 := by decide +kernel
theorem eq_5_7 : rankE 7 64 (eqNs [5] 7 5) = some 52 := by decide +kernel
theorem bd_5_7 : rankE 7 125 ((blL [5] 7 5 5 1).map natL) = some 12 := by decide +kernel
theorem eq_6_2 : rankE 2 125 (eqNs [6] 2 6) = some 104 := by decide +kernel
theorem bd_6_2 : rankE 2 216 ((blL [6] 2 6 6 1).map natL) = some 20 := by decide +kernel
theorem eq_6_3 : rankE 3 125 (eqNs [6] 3 6) = some 104 := by decide +kernel
theorem bd_6_3 : rankE 3 216 ((blL [6] 3 6 6 1).map natL) = some 20 := by decide +kernel
theorem eq_6_5 : rankE 5 125 (eqNs [6] 5 6) = some 105 := by decide +kernel
theorem bd_6_5 : rankE 5 216 ((blL [6] 5 6 6 1).map natL) = some 20 := by decide +kernel
theorem eq_6_7 : rankE 7 125 (eqNs [6] 7 6) = some 105 := by decide +kernel
theorem bd_6_7 : rankE 7 216 ((blL [6] 7 6 6 1).map natL) = some 20 := by decide +kernel
theorem eq_2_2_2 : rankE 2 27 (eqNs [2, 2] 2 4) = some 18 := by decide +kernel
theorem bd_2_2_2 : rankE 2 64 ((blL [2, 2] 2 4 4 1).map natL) = some 5 := by decide +kernel
theorem eq_2_2_3 : rankE 3 27 (eqNs [2, 2] 3 4) = some 21 := by decide +kernel
theorem bd_2_2_3 : rankE 3 64 ((blL [2, 2] 3 4 4 1).map natL) = some 6 := by decide +kernel
theorem eq_2_2_5 : rankE 5 27 (eqNs [2, 2] 5 4) = some 21 := by decide +kernel
theorem bd_2_2_5 : rankE 5 64 ((blL [2, 2] 5 4 4 1).map natL) = some 6 := by decide +kernel
theorem eq_2_2_7 : rankE 7 27 (eqNs [2, 2] 7 4) = some 21 := by decide +kernel
theorem bd_2_2_7 : rankE 7 64 ((blL [2, 2] 7 4 4 1).map natL) = some 6 := by decide +kernel
theorem eq_2_3_2 : rankE 2 125 (eqNs [2, 3] 2 6) = some 104 := by decide +kernel
theorem bd_2_3_2 : rankE 2 216 ((blL [2, 3] 2 6 6 1).map natL) = some 20 := by decide +kernel
theorem eq_2_3_3 : rankE 3 125 (eqNs [2, 3] 3 6) = some 104 := by decide +kernel
theorem bd_2_3_3 : rankE 3 216 ((blL [2, 3] 3 6 6 1).map natL) = some 20 := by decide +kernel
theorem eq_2_3_5 : rankE 5 125 (eqNs [2, 3] 5 6) = some 105 := by decide +kernel
theorem bd_2_3_5 : rankE 5 216 ((blL [2, 3] 5 6 6 1).map natL) = some 20 := by decide +kernel
theorem eq_2_3_7 : rankE 7 125 (eqNs [2, 3] 7 6) = some 105 := by decide +kernel
theorem bd_2_3_7 : rankE 7 216 ((blL [2, 3] 7 6 6 1).map natL) = some 20 := by decide +kernel
theorem eq_3_2_2 : rankE 2 125 (eqNs [3, 2] 2 6) = some 104 := by decide +kernel
theorem bd_3_2_2 : rankE 2 216 ((blL [3, 2] 2 6 6 1).map natL) = some 20 := by decide +kernel
theorem eq_3_2_3 : rankE 3 125 (eqNs [3, 2] 3 6) = some 104 := by decide +kernel
theorem bd_3_2_3 : rankE 3 216 ((blL [3, 2] 3 6 6 1).map natL) = some 20 := by decide +kernel
theorem eq_3_2_5 : rankE 5 125 (eqNs [3, 2] 5 6) = some 105 := by decide +kernel
theorem bd_3_2_5 : rankE 5 216 ((blL [3, 2] 5 6 6 1).map natL) = some 20 := by decide +kernel
theorem eq_3_2_7 : rankE 7 125 (eqNs [3, 2] 7 6) = some 105 := by decide +kernel
theorem bd_3_2_7 : rankE 7 216 ((blL [3, 2] 7 6 6 1).map natL) = some 20 := by decide +kernel
end Pk
end Go.Proofs.Ytnhgflmmfppmnaa
