
/- What came in, opened: nested slices of int64, a ring. -/
import Derived.Test.YtnhgflmmfppmnaaOa
import Derived.Test.YtnhgflmmfppmnaaNW1
import Derived.Deep.Slices
import Derived.Deep.Strs
import Derived.ChangeSame
namespace Go.Proofs.Ytnhgflmmfppmnaa
open Go Go.ChangeShapes Go.WideShapes Go.ChangeAt Go.RowKit Go.Joins
set_option linter.unusedSimpArgs false
set_option linter.unusedVariables false

structure Sl2In (w : World) (A : Option Addr) (n c : Nat) (xs : List (List Int)) : Prop where
  sl : Sl2 w w.heap.size A n c xs
  big : Big2 xs
structure Sl3In (w : World) (A : Option Addr) (n c : Nat) (xs : List (List (List Int))) : Prop where
  sl : Sl3 w w.heap.size A n c xs
  big : Big3 xs
theorem map_get {α : Type} (f : Nat → α) (n k : Nat) (x : α) (h : ((List.range n).map f)[k]? = some x) : k < n ∧ x = f k := by
  rw [List.getElem?_map] at h
  rcases Nat.lt_or_ge k n with hk | hk
  · rw [List.getElem?_range hk] at h; simp at h; exact ⟨hk, h.symm⟩
  · rw [List.getElem?_eq_none (by simpa using hk)] at h; cases h
section
variable {H : Type} {enc : TypeId × Value → H} {W : World} {base : Nat} {spare : Nat → Bool} {held : Bool}
theorem rd_of_trod {α : Type} [Inhabited α] {P : Value → α → Prop} {bigP : α → Prop} {st et : TypeId} (hu : Try.prog.underlying st = some (.slice et)) (hc : Try.prog.cellsOf et = 1)
    (hel : ∀ {fuel : Nat} {v : Value} {y : DataW H × List MemPlace}, DataW.trod enc Try.prog W base spare held fuel et [v] = some y → ∃ x, P v x ∧ bigP x)
    {fuel : Nat} {v : Value} {y : DataW H × List MemPlace} (h : DataW.trod enc Try.prog W base spare held fuel st [v] = some y) :
    ∃ A n c xs, v = .slice A n c ∧ RdL P W W.heap.size A n c xs ∧ n ≤ 9223372036854775807 ∧ ∀ x ∈ xs, bigP x := by
  rcases Go.Deep.open_slice1 hu hc h with ⟨hcs, _⟩ | ⟨a, len, cap, m, k, V, D, Pl, hcs, _, hl, hm, hmm, _, hx⟩
  · simp at hcs
    exact ⟨none, 0, 0, [], hcs, ⟨rfl, by omega, fun h => absurd h (by omega), fun _ => rfl⟩, by omega, by simp⟩
  · simp at hcs
    have hlm : len ≤ m := by rw [hmm]; split <;> omega
    have hmax : maxLen = 9223372036854775807 := rfl
    obtain ⟨f, hf⟩ := Go.Deep.choose_lt (n := len) (α := α) (p := fun i x => P (V i) x ∧ bigP x) fun i hi => hel (hx i (by omega)).2
    refine ⟨some a, len, cap, (List.range len).map f, hcs, ⟨by simp, hl, fun hpos => ?_, fun h => by cases h⟩, by omega, ?_⟩
    · obtain ⟨b, off, spot⟩ := a
      have h0 := (hx 0 (by omega)).1
      have hs : spot = none := by simpa [Addr.add] using World.cell?_spot h0
      subst hs
      have hb := World.block_lt_of_cell? _ _ h0
      have ha : ∀ k, (⟨b, off, none⟩ : Addr).add k = ⟨b, off + k, none⟩ := by intro k; unfold Addr.add; split <;> simp_all
      rw [ha] at hb
      refine ⟨b, off, rfl, hb, fun k x hk => ?_⟩
      obtain ⟨hkl, rfl⟩ := map_get f len k x hk
      have h1 := (hx k (by omega)).1
      rw [ha] at h1
      exact ⟨V k, h1, (hf k hkl).1⟩
    · intro x hxm
      obtain ⟨i, hi, rfl⟩ := List.mem_map.1 hxm
      exact (hf i (List.mem_range.1 hi)).2
theorem s1_of_trod {fuel : Nat} {v : Value} {y : DataW H × List MemPlace} (h : DataW.trod enc Try.prog W base spare held fuel 24 [v] = some y) : ∃ x, S1 W W.heap.size v x ∧ x.length ≤ 9223372036854775807 := by
  obtain ⟨A, n, c, xs, rfl, hs⟩ := sl_of_trod h
  exact ⟨xs, ⟨A, n, c, rfl, hs.sl⟩, by rw [hs.sl.len]; exact hs.big⟩
theorem s2_of_trod {fuel : Nat} {v : Value} {y : DataW H × List MemPlace} (h : DataW.trod enc Try.prog W base spare held fuel 39 [v] = some y) : ∃ x, S2 W W.heap.size v x ∧ Big2 x := by
  obtain ⟨A, n, c, xs, rfl, hs, hn, hb⟩ := rd_of_trod Try.underlying39 (by kernel_rfl) s1_of_trod h
  exact ⟨xs, ⟨A, n, c, rfl, hs⟩, by rw [hs.len]; exact hn, hb⟩
theorem s3_of_trod {fuel : Nat} {v : Value} {y : DataW H × List MemPlace} (h : DataW.trod enc Try.prog W base spare held fuel 35 [v] = some y) : ∃ x, S3 W W.heap.size v x ∧ Big3 x := by
  obtain ⟨A, n, c, xs, rfl, hs, hn, hb⟩ := rd_of_trod Try.underlying35 (by kernel_rfl) s2_of_trod h
  exact ⟨xs, ⟨A, n, c, rfl, hs⟩, by rw [hs.len]; exact hn, hb⟩
set_option maxRecDepth 100000 in
theorem open_rows {r : Reach} {b0 : Nat} {v : Value} {d : DataW H} {p : List MemPlace} (hv : Value.okWide Try.prog W r b0 39 v) (h : DataW.Trod enc Try.prog W base spare held 39 v d p) :
    ∃ A n c x, v = .slice A n c ∧ Sl2In W A n c x := by
  obtain ⟨a0, len0, cap0, rfl⟩ := okWide_slice Try.underlying39 hv
  obtain ⟨fuel, hf⟩ := h
  obtain ⟨x, ⟨A, n, c, e, hs⟩, hb⟩ := s2_of_trod (v := .slice a0 len0 cap0) (by simpa [Value.cells] using hf)
  exact ⟨A, n, c, x, e, hs, hb⟩
end
end Go.Proofs.Ytnhgflmmfppmnaa
