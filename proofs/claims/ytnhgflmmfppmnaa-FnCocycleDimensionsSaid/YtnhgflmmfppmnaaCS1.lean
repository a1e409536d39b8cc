
/- The walks of l17Size, l17Shape, l17Normal of the reference. -/
import Derived.Test.YtnhgflmmfppmnaaCC
namespace Go.Proofs.Ytnhgflmmfppmnaa
open Go Go.RowKit Grp
set_option linter.unusedSimpArgs false
set_option linter.unusedVariables false
set_option maxRecDepth 100000

theorem l17Size_any (w : World) (B : Nat) (A : Option Addr) (n c : Nat) (xs : List Int) (h : Sl w B A n c xs) (hn : n ≤ 1048576) (hp : Pos xs) : Calls Try.prog 21 #[.slice A n c] w (Qt w (.int .i64 (min 9 (prodL xs)))) := by
  have hc := l06Size_any w B A n c xs 8 h hn hp (by omega) (by omega)
  obtain ⟨y, hy⟩ : ∃ y, min (9 : Int) (prodL xs) = y := ⟨_, rfl⟩
  rw [show (8 : Int) + 1 = 9 by omega, hy] at hc
  rw [hy]
  have HC := hide hc
  clear hc hy
  go_enter Try.func21, Try.ntmps21
  go_wp2_with fail
  refine HC.out.mono ?_
  rintro e w' ⟨rfl, d, rfl⟩
  go_wp2_with fail
  go_ret
  exact Qt.mk' d rfl rfl
/-- No list of a cocycle is longer than 2^20. -/
def ShC (os : List Int) (t : Tb) : Prop := os.length ≤ 1048576 ∧ t.length ≤ 1048576 ∧ ∀ xs ∈ t, xs.length ≤ 1048576 ∧ ∀ ys ∈ xs, ys.length ≤ 1048576
theorem not_ch_row {os : List Int} {m : Int} {t : Tb} {a : List (List Int)} {k : Nat} (h : t[k]? = some a) (hl : a.length ≠ t.length) : chB os m t = false := chB_f fun hc => hl (hc.mat a (get_mem h)).1
theorem not_ch_col {os : List Int} {m : Int} {t : Tb} {a : List (List Int)} {r : List Int} {k j : Nat} (h : t[k]? = some a) (h2 : a[j]? = some r) (hl : r.length ≠ t.length) : chB os m t = false := chB_f fun hc => hl ((hc.mat a (get_mem h)).2 r (get_mem h2)).1
theorem not_ch_num {os : List Int} {m : Int} {t : Tb} {a : List (List Int)} {r : List Int} {k j i : Nat} (h : t[k]? = some a) (h2 : a[j]? = some r) (hi : i < r.length) (hl : ¬ (0 ≤ gi r i ∧ gi r i ≤ m - 1)) : chB os m t = false := chB_f fun hc => hl (((hc.mat a (get_mem h)).2 r (get_mem h2)).2 _ (gi_mem hi))

end Go.Proofs.Ytnhgflmmfppmnaa
