
/- The laws' own helpers on metrics: szInt64S, szMetric, toMetric. -/
import Derived.Test.YthjlpgaoemdmkaaW1
import Derived.Test.YthjlpgaoemdmkaaW2
import Derived.Test.YthjlpgaoemdmkaaOrd
import Derived.WalkLawsBesides
namespace Go.Proofs.Ythjlpgaoemdmkaa
open Go Go.RowKit
set_option linter.unusedSimpArgs false
set_option linter.unusedVariables false

/-- What is left when n more have come. -/
def szI (l : Int) (n : Nat) : Int := if l - n < 0 then -1 else l - n
theorem szInt64S_any (w : World) (A : Option Addr) (n c : Nat) (l : Int) (hl : 0 ≤ l) (hl1 : l ≤ 1048576) (hn : n ≤ 9223372036854775807) : Calls Try.prog 78 #[.slice A n c, .int .i64 l] w (Qt w (.int .i64 (szI l n))) := by
  have hw : wrap64 (l - n) = l - n := wrap64_ok _ ⟨by omega, by omega⟩
  have hw' : IntKind.i64.wrap (l - n) = l - n := by rw [wrap_eq, hw]
  by_cases h : l - n < 0
  · have e : szI l n = -1 := if_pos h
    have hE := hide e
    clear e
    go_enter Try.func78, Try.ntmps78
    go_wp2
    go_ret
    exact Qt.mk' 0 rfl (int_eq hE.out.symm)
  · have e : szI l n = l - n := if_neg h
    have hE := hide e
    clear e
    go_enter Try.func78, Try.ntmps78
    go_wp2
    go_ret
    exact Qt.mk' 0 rfl (int_eq hE.out.symm)
theorem szI_pos {l : Int} {n : Nat} (h : 0 ≤ szI l n) : szI l n = l - n ∧ (n : Int) ≤ l := by
  unfold szI at *
  split at h
  · omega
  · rename_i h2; rw [if_neg h2]; omega
def szM (l : Int) (n m : Nat) : Int := if szI l n < 0 then -1 else if szI (szI l n) m < 0 then -1 else szI (szI l n) m
theorem szM_pos {l : Int} {n m : Nat} (h : 0 ≤ szM l n m) : szM l n m = l - n - m ∧ (n : Int) + m ≤ l := by
  unfold szM at *
  split at h
  · omega
  · rename_i h1
    split at h
    · omega
    · rename_i h2
      rw [if_neg h1, if_neg h2]
      have a := szI_pos (l := l) (n := n) (by omega)
      have b := szI_pos (l := szI l n) (n := m) (by omega)
      omega
/-- A metric of its own that reads as these lists. -/
def MkS (w : World) (os : List Int) (D : Int) (vs : List Int) (e : Ending) (w' : World) : Prop :=
  ∃ A1 c1 A2 c2, e = .returned (.agg #[.slice A1 os.length c1, .int .i64 D, .slice A2 vs.length c2]) ∧ Sl w' w'.heap.size A1 os.length c1 os ∧ Sl w' w'.heap.size A2 vs.length c2 vs ∧ Below w.heap.size w w'
end Go.Proofs.Ythjlpgaoemdmkaa
