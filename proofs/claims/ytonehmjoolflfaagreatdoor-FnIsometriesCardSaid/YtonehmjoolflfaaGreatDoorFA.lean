
/- Squares and products of a tuple, told plainly, and the walk of formAt. -/
import Derived.Test.YtonehmjoolflfaaGreatDoorSa
import Derived.Test.YtonehmjoolflfaaGreatDoorBa
import Derived.WalkLawsBesides
namespace Go.Proofs.YtonehmjoolflfaaGreatDoor
open Go Go.RowKit Grp
set_option linter.unusedSimpArgs false
set_option linter.unusedVariables false

/-- 0 + 1 + .. + (n - 1). -/
def tri : Nat → Nat
  | 0 => 0
  | n + 1 => tri n + n
/-- The products of t with the numbers behind it, each times its factor. -/
def rowF (t : Int) : List Int → List Int → Int
  | y :: ts, p :: ps => p * t * y + rowF t ts ps
  | _, _ => 0
/-- Squares alone, products alone, both. -/
def fS : List Int → List Int → Int
  | t :: ts, s :: ss => s * t * t + fS ts ss
  | _, _ => 0
def fP : List Int → List Int → Int
  | [], _ => 0
  | t :: ts, ps => rowF t ts ps + fP ts (ps.drop ts.length)
def fA (tu sq pr : List Int) : Int := fS tu sq + fP tu pr
theorem rowF_snoc (t : Int) : ∀ (ts ps : List Int) (j : Nat), j < ts.length → j < ps.length → rowF t (ts.take (j + 1)) ps = rowF t (ts.take j) ps + gi ps j * t * gi ts j := by
  intro ts
  induction ts with
  | nil => intro ps j h; simp at h
  | cons y ts ih =>
    intro ps j h1 h2
    cases ps with
    | nil => simp at h2
    | cons p ps =>
      cases j with
      | zero => simp [rowF, gi]
      | succ j =>
        have := ih ps j (by simpa using h1) (by simpa using h2)
        simp only [List.take_succ_cons, rowF]
        rw [this]
        simp only [gi, List.getD_cons_succ]
        omega
theorem fS_snoc : ∀ (ts ss : List Int) (k : Nat), k < ts.length → k < ss.length → fS (ts.take (k + 1)) ss = fS (ts.take k) ss + gi ss k * gi ts k * gi ts k := by
  intro ts
  induction ts with
  | nil => intro ss k h; simp at h
  | cons t ts ih =>
    intro ss k h1 h2
    cases ss with
    | nil => simp at h2
    | cons s ss =>
      cases k with
      | zero => simp [fS, gi]
      | succ k =>
        have := ih ss k (by simpa using h1) (by simpa using h2)
        simp only [List.take_succ_cons, fS]
        rw [this]
        simp only [gi, List.getD_cons_succ]
        omega
theorem fP_drop {tu pr : List Int} {k : Nat} (hk : k < tu.length) : fP (tu.drop k) pr = rowF (gi tu k) (tu.drop (k + 1)) pr + fP (tu.drop (k + 1)) (pr.drop (tu.drop (k + 1)).length) := by
  rw [drop_gi hk]; rfl
theorem term_bd {s t u : Int} (s0 : 0 ≤ s) (s1 : s ≤ 55440) (t0 : 0 ≤ t) (t1 : t ≤ 16) (u0 : 0 ≤ u) (u1 : u ≤ 16) : 0 ≤ s * t ∧ s * t ≤ 887040 ∧ 0 ≤ s * t * u ∧ s * t * u ≤ 14192640 := by
  have e1 : 0 ≤ s * t := Int.mul_nonneg s0 t0
  have e2 : s * t ≤ 55440 * 16 := Int.mul_le_mul s1 t1 t0 (by omega)
  have e3 : 0 ≤ s * t * u := Int.mul_nonneg e1 u0
  have e4 : s * t * u ≤ 887040 * 16 := Int.mul_le_mul (by omega) u1 u0 (by omega)
  exact ⟨e1, by omega, e3, by omega⟩
theorem tri_le : ∀ n, n ≤ 4 → tri n ≤ 6 := by decide
theorem tri_drop {n k : Nat} (hk : k < n) : tri (n - k) = tri (n - (k + 1)) + (n - (k + 1)) := by
  obtain ⟨m, hm⟩ : ∃ m, n - (k + 1) = m := ⟨_, rfl⟩
  rw [hm, show n - k = m + 1 by omega]; rfl

theorem gi_dropn {xs : List Int} (m j : Nat) : gi (xs.drop m) j = gi xs (m + j) := by
  unfold gi; rw [List.getD_eq_getElem?_getD, List.getD_eq_getElem?_getD, List.getElem?_drop]
theorem fS_drop {tu sq : List Int} {k : Nat} (hk : k < tu.length) (hs : k < sq.length) : fS (tu.drop k) (sq.drop k) = gi sq k * gi tu k * gi tu k + fS (tu.drop (k + 1)) (sq.drop (k + 1)) := by
  rw [drop_gi hk, drop_gi hs]; rfl
end Go.Proofs.YtonehmjoolflfaaGreatDoor
