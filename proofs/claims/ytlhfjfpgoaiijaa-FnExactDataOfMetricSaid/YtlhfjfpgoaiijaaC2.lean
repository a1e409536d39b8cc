
/- The walks of l01Own, slices.Clone over int64: a copy of a list. -/
import Derived.Test.YtlhfjfpgoaiijaaBa
import Derived.WalkLawsBesides
import Derived.WalkSpells
import Derived.Lib.SliceRun
import Derived.Laws.AppendOwn
import Derived.Laws.AppendOwnNone
namespace Go.Proofs.Ytlhfjfpgoaiijaa
open Go Go.RowKit
set_option linter.unusedSimpArgs false
set_option linter.unusedVariables false

theorem add_at (b off j : Nat) : (⟨b, off, none⟩ : Addr).add j = ⟨b, off + j, none⟩ := by unfold Addr.add; split <;> simp_all
theorem Sl.news {w : World} {B : Nat} {ad : Addr} {n c : Nat} {xs : List Int} (h : Sl w B (some ad) n c xs) : ∀ (j : Nat) u, (xs.map (Value.int .i64))[j]? = some u → w.cell? (ad.add j) = some u := by
  intro j u hu
  have hj : j < xs.length := by
    rcases Nat.lt_or_ge j xs.length with h' | h'
    · exact h'
    · rw [List.getElem?_eq_none (by simpa using h')] at hu; cases hu
  rw [List.getElem?_map, gi_get hj] at hu
  obtain ⟨b, off, e, hb, hc⟩ := h.at_ (by rw [← h.len]; omega)
  cases e
  rw [add_at, hc j (by rw [← h.len]; exact hj)]
  simpa using hu
theorem Sl.none_nil {w : World} {B n c : Nat} {xs : List Int} (h : Sl w B none n c xs) : n = 0 ∧ c = 0 ∧ xs = [] := by
  have hn : n = 0 := by
    rcases Nat.eq_zero_or_pos n with h' | h'
    · exact h'
    · obtain ⟨_, _, e, _⟩ := h.at_ h'; cases e
  subst hn
  exact ⟨rfl, h.nil_ rfl, List.eq_nil_of_length_eq_zero h.len⟩
theorem ints_one {xs : List Int} : ∀ u ∈ xs.map (Value.int .i64), u.oneCell' = true := by
  intro u hu
  obtain ⟨x, _, rfl⟩ := List.mem_map.1 hu
  rfl

end Go.Proofs.Ytlhfjfpgoaiijaa
