
/- The walks of likeInts, likeMetrics5; a slice of bytes that came in. A slice of bytes that came in, opened. -/
import Derived.Test.YtbpihnpakolooaaGreatDoorDAa
import Derived.Test.YtbpihnpakolooaaGreatDoorLa
import Derived.Test.YtbpihnpakolooaaGreatDoorOa
namespace Go.Proofs.YtbpihnpakolooaaGreatDoor
open Go Go.RowKit Go.ChangeShapes Go.WideShapes Go.ChangeAt Go.Joins
set_option linter.unusedSimpArgs false
set_option linter.unusedVariables false

theorem likeInts_any (w : World) (B B' : Nat) (A A' : Option Addr) (n n' c c' : Nat) (xs ys : List Int) (h : Sl w B A n c xs) (h' : Sl w B' A' n' c' ys) (hn : n ≤ 1048576) :
    Calls Tryz.prog 12 #[.slice A n c, .slice A' n' c'] w (Qt w (.bool (xs == ys))) := by
  by_cases hne : n = n'
  · obtain rfl := hne
    go_enter Tryz.func12, Tryz.ntmps12
    go_wp2
    go_loopw [5] (fun i wr => ∃ k : Nat, k ≤ n ∧ i = .int .i64 k ∧ xs.take k = ys.take k ∧ ∃ m, w.drewN m = wr) (fun i _ => n - (intOf i).toNat)
    case atStart => exact ⟨0, by omega, rfl, rfl, 0, rfl⟩
    case round =>
      obtain ⟨k, hk, rfl, hpre, m, rfl⟩ := hrel
      have hP := hide hpre
      clear hpre
      by_cases hlt : k < n
      · obtain ⟨b, off, rfl, hb, hc⟩ := h.at_ (by omega)
        obtain ⟨b', off', rfl, hb', hc'⟩ := h'.at_ (by omega)
        have c1 := hc k hlt
        have c2 := hc' k hlt
        clear hc hc'
        by_cases hq : gi xs k = gi ys k
        · have hq1 : (gi xs k != gi ys k) = false := by simp [hq]
          have hQ := hide hq
          clear hq
          go_wp2
          go_quiet (fail)
          go_wp2
          go_roundw
          case rel => exact ⟨k + 1, by omega, by go_num, take_step (by rw [h.len]; exact hlt) (by rw [h'.len]; exact hlt) hP.out hQ.out, _, rfl⟩
          case measure => simp [intOf]; omega
        · have hq1 : (gi xs k != gi ys k) = true := by simp [hq]
          go_wp2
          go_quiet (fail)
          go_wp2
          go_ret
          exact Qt.d2 (bool_eq (ne_of_gi hq).symm)
      · go_wp2
        go_ret
        have : xs = ys := by
          have e := hP.out
          rwa [List.take_of_length_le (by rw [h.len]; omega), List.take_of_length_le (by rw [h'.len]; omega)] at e
        exact Qt.d1 (bool_eq (by simp [this]))
  · go_enter Tryz.func12, Tryz.ntmps12
    go_wp2
    go_ret
    exact Qt.mk' 0 rfl (bool_eq (by symm; rw [beq_eq_false_iff_ne]; rintro rfl; exact hne (h.len.symm.trans h'.len)))



/-- A slice of bytes that came in. -/
structure BlIn (w : World) (A : Option Addr) (n c : Nat) (xs : List Int) : Prop where
  sl : SlB w w.heap.size A n c xs
  big : n ≤ 9223372036854775807

section
variable {H : Type} {enc : TypeId × Value → H} {W : World} {base : Nat} {spare : Nat → Bool} {held : Bool}
theorem bl_of_trod {fuel : Nat} {v : Value} {y : DataW H × List MemPlace} (h : DataW.trod enc Tryz.prog W base spare held fuel 22 [v] = some y) : ∃ A n c xs, v = .slice A n c ∧ BlIn W A n c xs := by
  rcases open_ints Tryz.underlying22 Tryz.underlying5 (by kernel_rfl) h with ⟨hcs, _⟩ | ⟨x, l, c, zs, hcs, _, hl, hm, hz, _, hcell, hwz⟩
  · simp at hcs
    exact ⟨none, 0, 0, [], hcs, ⟨rfl, by omega, by simp, fun h => absurd h (by omega)⟩, by omega⟩
  · simp at hcs
    have hlz : l ≤ zs.length := by rw [hz]; split <;> omega
    have hmax : maxLen = 9223372036854775807 := rfl
    refine ⟨some x, l, c, zs.take l, hcs, ⟨by simp; omega, hl, ?_, ?_⟩, by omega⟩
    · intro q hq
      have := hwz q (List.mem_of_mem_take hq)
      simp [Lit.wf, IntKind.min, IntKind.max, IntKind.signed, IntKind.bits] at this
      omega
    · intro hpos
      obtain ⟨b, off, spot⟩ := x
      have h0 := hcell 0 (by omega)
      have hs : spot = none := by simpa [Addr.add] using World.cell?_spot h0
      subst hs
      have hb := World.block_lt_of_cell? _ _ h0
      have ha : ∀ k, (⟨b, off, none⟩ : Addr).add k = ⟨b, off + k, none⟩ := by intro k; unfold Addr.add; split <;> simp_all
      rw [ha] at hb
      refine ⟨b, off, rfl, hb, fun k hk => ?_⟩
      have h1 := hcell k (by omega)
      rw [ha] at h1
      rw [h1]
      congr 2
      unfold gi
      simp [List.getD, List.getElem?_take, hk]
set_option maxRecDepth 100000 in
theorem open_bytes {r : Reach} {b0 : Nat} {v : Value} {d : DataW H} {p : List MemPlace} (hv : Value.okWide Tryz.prog W r b0 22 v) (h : DataW.Trod enc Tryz.prog W base spare held 22 v d p) :
    ∃ A n c xs, v = .slice A n c ∧ BlIn W A n c xs := by
  obtain ⟨a0, len0, cap0, rfl⟩ := okWide_slice Tryz.underlying22 hv
  obtain ⟨fuel, hf⟩ := h
  exact bl_of_trod (by simpa [Value.cells] using hf)
end
end Go.Proofs.YtbpihnpakolooaaGreatDoor
