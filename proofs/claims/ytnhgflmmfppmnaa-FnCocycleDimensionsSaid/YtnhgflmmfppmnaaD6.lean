
/- A slice of bytes that came in, opened. -/
import Derived.Test.YtnhgflmmfppmnaaOa
import Derived.Test.YtnhgflmmfppmnaaD1
namespace Go.Proofs.Ytnhgflmmfppmnaa
open Go Go.ChangeShapes Go.WideShapes Go.ChangeAt Go.RowKit Go.Joins
set_option linter.unusedSimpArgs false
set_option linter.unusedVariables false

/-- A slice of bytes that came in. -/
structure BlIn (w : World) (A : Option Addr) (n c : Nat) (xs : List Int) : Prop where
  sl : SlB w w.heap.size A n c xs
  big : n ≤ 9223372036854775807

section
variable {H : Type} {enc : TypeId × Value → H} {W : World} {base : Nat} {spare : Nat → Bool} {held : Bool}
theorem bl_of_trod {fuel : Nat} {v : Value} {y : DataW H × List MemPlace} (h : DataW.trod enc Try.prog W base spare held fuel 22 [v] = some y) : ∃ A n c xs, v = .slice A n c ∧ BlIn W A n c xs := by
  rcases open_ints Try.underlying22 Try.underlying5 (by kernel_rfl) h with ⟨hcs, _⟩ | ⟨x, l, c, zs, hcs, _, hl, hm, hz, _, hcell, hwz⟩
  · simp at hcs
    exact ⟨none, 0, 0, [], hcs, ⟨rfl, by omega, by simp, fun h => absurd h (by omega)⟩, by omega⟩
  · simp at hcs
    have hlz : l ≤ zs.length := by rw [hz]; split <;> omega
    have hmax : maxLen = 9223372036854775807 := rfl
    refine ⟨some x, l, c, zs.take l, hcs, ⟨by simp; omega, hl, ?_, ?_⟩, by omega⟩
    · intro q hq
      have := hwz q (List.mem_of_mem_take hq)
      simp [Lit.wf, IntKind.min, IntKind.max, IntKind.signed, IntKind.bits] at this
      omega
    · intro hpos
      obtain ⟨b, off, spot⟩ := x
      have h0 := hcell 0 (by omega)
      have hs : spot = none := by simpa [Addr.add] using World.cell?_spot h0
      subst hs
      have hb := World.block_lt_of_cell? _ _ h0
      have ha : ∀ k, (⟨b, off, none⟩ : Addr).add k = ⟨b, off + k, none⟩ := by intro k; unfold Addr.add; split <;> simp_all
      rw [ha] at hb
      refine ⟨b, off, rfl, hb, fun k hk => ?_⟩
      have h1 := hcell k (by omega)
      rw [ha] at h1
      rw [h1]
      congr 2
      unfold gi
      simp [List.getD, List.getElem?_take, hk]
set_option maxRecDepth 100000 in
theorem open_bytes {r : Reach} {b0 : Nat} {v : Value} {d : DataW H} {p : List MemPlace} (hv : Value.okWide Try.prog W r b0 22 v) (h : DataW.Trod enc Try.prog W base spare held 22 v d p) :
    ∃ A n c xs, v = .slice A n c ∧ BlIn W A n c xs := by
  obtain ⟨a0, len0, cap0, rfl⟩ := okWide_slice Try.underlying22 hv
  obtain ⟨fuel, hf⟩ := h
  exact bl_of_trod (by simpa [Value.cells] using hf)
end
end Go.Proofs.Ytnhgflmmfppmnaa
