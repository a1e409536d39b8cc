
/- The walks of l01Own, slices.Clone over int64: a copy of a list. -/
import Derived.Test.YtonehmjoolflfaaGreatDoorBa
import Derived.WalkLawsBesides
import Derived.WalkSpells
import Derived.Lib.SliceRun
import Derived.Laws.AppendOwn
import Derived.Laws.AppendOwnNone
namespace Go.Proofs.YtonehmjoolflfaaGreatDoor
open Go Go.RowKit
set_option linter.unusedSimpArgs false
set_option linter.unusedVariables false

theorem add_at (b off j : Nat) : (⟨b, off, none⟩ : Addr).add j = ⟨b, off + j, none⟩ := by unfold Addr.add; split <;> simp_all
theorem Sl.news {w : World} {B : Nat} {ad : Addr} {n c : Nat} {xs : List Int} (h : Sl w B (some ad) n c xs) : ∀ (j : Nat) u, (xs.map (Value.int .i64))[j]? = some u → w.cell? (ad.add j) = some u := by
  intro j u hu
  have hj : j < xs.length := by
    rcases Nat.lt_or_ge j xs.length with h' | h'
    · exact h'
    · rw [List.getElem?_eq_none (by simpa using h')] at hu; cases hu
  rw [List.getElem?_map, gi_get hj] at hu
  obtain ⟨b, off, e, hb, hc⟩ := h.at_ (by rw [← h.len]; omega)
  cases e
  rw [add_at, hc j (by rw [← h.len]; exact hj)]
  simpa using hu
theorem Sl.none_nil {w : World} {B n c : Nat} {xs : List Int} (h : Sl w B none n c xs) : n = 0 ∧ c = 0 ∧ xs = [] := by
  have hn : n = 0 := by
    rcases Nat.eq_zero_or_pos n with h' | h'
    · exact h'
    · obtain ⟨_, _, e, _⟩ := h.at_ h'; cases e
  subst hn
  exact ⟨rfl, h.nil_ rfl, List.eq_nil_of_length_eq_zero h.len⟩
theorem ints_one {xs : List Int} : ∀ u ∈ xs.map (Value.int .i64), u.oneCell' = true := by
  intro u hu
  obtain ⟨x, _, rfl⟩ := List.mem_map.1 hu
  rfl

set_option maxRecDepth 100000 in
theorem l01Own_any (w : World) (B : Nat) (A : Option Addr) (n c : Nat) (xs : List Int) (h : Sl w B A n c xs) (hB : B ≤ w.heap.size) (hn : n ≤ 1073741824) : Calls Tryz.prog 48 #[.slice A n c] w (Mk w xs) := by
  obtain ⟨i0, hi0, hz0, hz1, hz2⟩ := info_parts int_info
  obtain rfl := h.len
  cases A with
  | none =>
    obtain ⟨h0, rfl, rfl⟩ := h.none_nil
    clear h0
    go_enter Tryz.func48, Tryz.ntmps48
    have hO : Ow (w.alloc (.cells #[] 2)) w.heap.size (.slice (some ⟨w.heap.size, 0, none⟩) 0 0) [] := Ow.made' (xs := []) w #[] w.heap.size 0 rfl rfl (Nat.le_refl _) rfl (by unfold maxLen; omega)
    go_wp2_with (at_builtin; refine wpList_append_own_none rfl _ _ 24 rfl w.heap.size 2 i0 1 Tryz.underlying24 hi0 _ 0 [] rfl hO rfl ?_)
    go_ret
    exact ⟨_, rfl, hO, (Below.refl _ _).alloc (Nat.le_refl _) _⟩
  | some ad =>
    go_enter Tryz.func48, Tryz.ntmps48
    have hO : Ow (w.alloc (.cells #[] 2)) w.heap.size (.slice (some ⟨w.heap.size, 0, none⟩) 0 0) [] := Ow.made' (xs := []) w #[] w.heap.size 0 rfl rfl (Nat.le_refl _) rfl (by unfold maxLen; omega)
    have hs := h.alloc hB (.cells #[] 2)
    go_wp2_with (at_builtin; refine wpList_append_own _ rfl _ _ 24 rfl w.heap.size 2 i0 _ 1 8 Tryz.underlying24 hi0 hz0 hz1 hz2 rfl (by omega) _ 0 [] rfl hO ad xs.length c (xs.map (Value.int .i64)) rfl (by simp) hs.news ints_one (by unfold maxLen; omega) (by omega) (by simp) ?_; intro v' w' h2 h3 h4)
    go_ret
    refine ⟨v', rfl, ?_, ((Below.refl _ _).alloc (Nat.le_refl _) _).grown h3 (by simp) (fun k hk => (hO.lt k hk).1)⟩
    unfold Ow
    simpa using h2
set_option maxRecDepth 100000 in
theorem clone_any (w : World) (B : Nat) (A : Option Addr) (n c : Nat) (xs : List Int) (h : Sl w B A n c xs) (hB : B ≤ w.heap.size) (hn : n ≤ 1073741824) : Calls Tryz.prog 26 #[.slice A n c] w (Mk w xs) := by
  obtain ⟨i0, hi0, hz0, hz1, hz2⟩ := info_parts int_info
  obtain rfl := h.len
  have hq := fun W => Lib.run_eql_slice_nil (P := Tryz.prog) W 24 _ A xs.length c 0 0 Tryz.underlying24
  cases A with
  | none =>
    obtain ⟨h0, rfl, rfl⟩ := h.none_nil
    clear h0
    simp only [Option.isNone_none, List.length_nil] at hq
    go_enter Tryz.func26, Tryz.ntmps26
    go_wp2_with fail
    go_ret
    exact ⟨_, rfl, Ow.nil _ _, Below.refl _ _⟩
  | some ad =>
    simp only [Option.isNone_some] at hq
    go_enter Tryz.func26, Tryz.ntmps26
    have hO : Ow (w.alloc (.cells #[] 2)) w.heap.size (.slice (some ⟨w.heap.size, 0, none⟩) 0 0) [] := Ow.made' (xs := []) w #[] w.heap.size 0 rfl rfl (Nat.le_refl _) rfl (by unfold maxLen; omega)
    have hs := h.alloc hB (.cells #[] 2)
    go_wp2_with (at_builtin; refine wpList_append_own _ rfl _ _ 24 rfl w.heap.size 2 i0 _ 1 8 Tryz.underlying24 hi0 hz0 hz1 hz2 rfl (by omega) _ 0 [] rfl hO ad xs.length c (xs.map (Value.int .i64)) rfl (by simp) hs.news ints_one (by unfold maxLen; omega) (by omega) (by simp) ?_; intro v' w' h2 h3 h4)
    go_ret
    refine ⟨v', rfl, ?_, ((Below.refl _ _).alloc (Nat.le_refl _) _).grown h3 (by simp) (fun k hk => (hO.lt k hk).1)⟩
    unfold Ow
    simpa using h2
end Go.Proofs.YtonehmjoolflfaaGreatDoor
