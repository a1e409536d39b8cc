
/- What came in, opened: a slice of int64, a struct of a metric. What came in, opened: a struct of a metric. -/
import Derived.Test.YtbpihnpakolooaaGreatDoorChecked
import Derived.Test.YtbpihnpakolooaaGreatDoorBa
import Derived.ProofKit
import Derived.OpenShut
import Derived.ChangeOld
import Derived.Lib.SmallJoins
import Derived.Deep.Strs
namespace Go.Proofs.YtbpihnpakolooaaGreatDoor
open Go Go.ChangeShapes Go.WideShapes Go.ChangeAt Go.RowKit Go.Joins
set_option linter.unusedSimpArgs false
set_option linter.unusedVariables false

/-- A slice of int64 that came in. -/
structure SlIn (w : World) (A : Option Addr) (n c : Nat) (xs : List Int) : Prop where
  sl : Sl w w.heap.size A n c xs
  big : n ≤ 9223372036854775807

section
variable {H : Type} {enc : TypeId × Value → H} {W : World} {base : Nat} {spare : Nat → Bool} {held : Bool}
theorem sl_of_trod {fuel : Nat} {v : Value} {y : DataW H × List MemPlace} (h : DataW.trod enc Tryz.prog W base spare held fuel 24 [v] = some y) : ∃ A n c xs, v = .slice A n c ∧ SlIn W A n c xs := by
  rcases open_ints Tryz.underlying24 Tryz.underlying2 (by kernel_rfl) h with ⟨hcs, _⟩ | ⟨x, l, c, zs, hcs, _, hl, hm, hz, _, hcell, hwz⟩
  · simp at hcs
    exact ⟨none, 0, 0, [], hcs, Sl.nil _ _, by omega⟩
  · simp at hcs
    have hlz : l ≤ zs.length := by rw [hz]; split <;> omega
    have hmax : maxLen = 9223372036854775807 := rfl
    refine ⟨some x, l, c, zs.take l, hcs, ⟨by simp; omega, hl, ?_, ?_, fun h => by cases h⟩, by omega⟩
    · intro q hq
      have := hwz q (List.mem_of_mem_take hq)
      simpa [Lit.wf, IntKind.min, IntKind.max, IntKind.signed, IntKind.bits, i64ok] using this
    · intro hpos
      obtain ⟨b, off, spot⟩ := x
      have h0 := hcell 0 (by omega)
      have hs : spot = none := by simpa [Addr.add] using World.cell?_spot h0
      subst hs
      have hb := World.block_lt_of_cell? _ _ h0
      have ha : ∀ k, (⟨b, off, none⟩ : Addr).add k = ⟨b, off + k, none⟩ := by intro k; unfold Addr.add; split <;> simp_all
      rw [ha] at hb
      refine ⟨b, off, rfl, hb, fun k hk => ?_⟩
      have h1 := hcell k (by omega)
      rw [ha] at h1
      rw [h1]
      congr 2
      unfold gi
      simp [List.getD, List.getElem?_take, hk]
set_option maxRecDepth 100000 in
theorem open_sl {r : Reach} {b0 : Nat} {v : Value} {d : DataW H} {p : List MemPlace} (hv : Value.okWide Tryz.prog W r b0 24 v) (h : DataW.Trod enc Tryz.prog W base spare held 24 v d p) :
    ∃ A n c xs, v = .slice A n c ∧ SlIn W A n c xs := by
  obtain ⟨a0, len0, cap0, rfl⟩ := okWide_slice Tryz.underlying24 hv
  obtain ⟨fuel, hf⟩ := h
  exact sl_of_trod (by simpa [Value.cells] using hf)
end

section
variable {H : Type} {enc : TypeId × Value → H} {W : World} {base : Nat} {spare : Nat → Bool} {held : Bool}
end
theorem i64_of_wf {x : Int} (h : (Lit.int .i64 x).wf = true) : i64ok x := by
  simpa [Lit.wf, IntKind.min, IntKind.max, IntKind.signed, IntKind.bits, i64ok] using h
end Go.Proofs.YtbpihnpakolooaaGreatDoor
