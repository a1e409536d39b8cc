
/- Integer matrices of words, told plainly; the walks of letterMatrix, l16Letter. -/
import Derived.Test.YtlekbkjkkoefnaaDoorNa
import Derived.WalkLawsBesides
namespace Go.Proofs.YtlekbkjkkoefnaaDoor
open Go Go.RowKit
set_option linter.unusedSimpArgs false
set_option linter.unusedVariables false
set_option maxRecDepth 100000
/-! ### plain -/
/-- A matrix of two rows. -/
def mt2 (a b c d : Int) : List (List Int) := [[a, b], [c, d]]
/-- The matrix of a letter. -/
def lmx (x : Nat) : List (List Int) := if x = 115 then mt2 0 (-1) 1 0 else if x = 116 then mt2 1 1 0 1 else if x = 83 then mt2 0 1 (-1) 0 else mt2 1 (-1) 0 1
def en (m : List (List Int)) (i j : Nat) : Int := gi (m.getD i []) j
theorem lmx_two (x : Nat) : ∃ a b c d, lmx x = mt2 a b c d ∧ (-1 ≤ a ∧ a ≤ 1) ∧ (-1 ≤ b ∧ b ≤ 1) ∧ (-1 ≤ c ∧ c ≤ 1) ∧ (-1 ≤ d ∧ d ≤ 1) := by
  unfold lmx
  split
  · exact ⟨_, _, _, _, rfl, by omega, by omega, by omega, by omega⟩
  · split
    · exact ⟨_, _, _, _, rfl, by omega, by omega, by omega, by omega⟩
    · split <;> exact ⟨_, _, _, _, rfl, by omega, by omega, by omega, by omega⟩
/-! ### two rows in memory -/
theorem E1.two' (w : World) (g : Nat) (hg : w.heap.size = g) (a b : Int) (ha : i64ok a) (hb : i64ok b) : E1 (w.alloc (.cells #[.int .i64 a, .int .i64 b] 2)) (.slice (some ⟨g, 0, none⟩) 2 2) [a, b] (fun x => x = g) := by
  refine ⟨Ow.made' (xs := [a, b]) w _ g 2 hg rfl (Nat.zero_le _) rfl (by unfold maxLen; omega), ?_, fun x hx => ?_, fun x hx => by rw [hx]; simp; omega⟩
  · intro x hx
    rcases List.mem_cons.1 hx with rfl | hx
    · exact ha
    · rw [List.mem_singleton.1 hx]; exact hb
  · simpa [Value.ownBlock] using hx.symm
theorem E2.two' (w : World) (g : Nat) (hg : w.heap.size = g) (a b c d : Int) (ha : i64ok a) (hb : i64ok b) (hc : i64ok c) (hd : i64ok d) :
    E2 (((w.alloc (.cells #[.int .i64 a, .int .i64 b] 2)).alloc (.cells #[.int .i64 c, .int .i64 d] 2)).alloc (.cells #[.slice (some ⟨g, 0, none⟩) 2 2, .slice (some ⟨g + 1, 0, none⟩) 2 2] 22))
      (.slice (some ⟨g + 2, 0, none⟩) 2 2) (mt2 a b c d) (fun x => g ≤ x ∧ x < g + 3) := by
  have k1 := E1.two' w g hg a b ha hb
  have hg1 : (w.alloc (.cells #[.int .i64 a, .int .i64 b] 2)).heap.size = g + 1 := by simp; omega
  have k2 := E1.two' _ (g + 1) hg1 c d hc hd
  obtain ⟨w1, hw1⟩ : ∃ w1, w.alloc (.cells #[.int .i64 a, .int .i64 b] 2) = w1 := ⟨_, rfl⟩
  rw [hw1] at k1 k2 hg1 ⊢
  have hg2 : (w1.alloc (.cells #[.int .i64 c, .int .i64 d] 2)).heap.size = g + 2 := by simp; omega
  have k3 := E1.below k1 ((Below.refl w1.heap.size w1).alloc (Nat.le_refl _) (.cells #[.int .i64 c, .int .i64 d] 2))
  obtain ⟨w2, hw2⟩ : ∃ w2, w1.alloc (.cells #[.int .i64 c, .int .i64 d] 2) = w2 := ⟨_, rfl⟩
  rw [hw2] at k2 k3 hg2 ⊢
  have k4 := E1.below k3 ((Below.refl w2.heap.size w2).alloc (Nat.le_refl _) (.cells #[.slice (some ⟨g, 0, none⟩) 2 2, .slice (some ⟨g + 1, 0, none⟩) 2 2] 22))
  have k5 := E1.below k2 ((Below.refl w2.heap.size w2).alloc (Nat.le_refl _) (.cells #[.slice (some ⟨g, 0, none⟩) 2 2, .slice (some ⟨g + 1, 0, none⟩) 2 2] 22))
  have hb : Blk (w2.alloc (.cells #[.slice (some ⟨g, 0, none⟩) 2 2, .slice (some ⟨g + 1, 0, none⟩) 2 2] 22)) (g + 2) 22 #[.slice (some ⟨g, 0, none⟩) 2 2, .slice (some ⟨g + 1, 0, none⟩) 2 2] := Blk.new' _ _ _ _ hg2
  have hs : (w2.alloc (.cells #[.slice (some ⟨g, 0, none⟩) 2 2, .slice (some ⟨g + 1, 0, none⟩) 2 2] 22)).heap.size = g + 3 := by simp; omega
  obtain ⟨w3, hw3⟩ : ∃ w3, w2.alloc (.cells #[.slice (some ⟨g, 0, none⟩) 2 2, .slice (some ⟨g + 1, 0, none⟩) 2 2] 22) = w3 := ⟨_, rfl⟩
  rw [hw3] at k4 k5 hb hs ⊢
  refine ⟨⟨[.slice (some ⟨g, 0, none⟩) 2 2, .slice (some ⟨g + 1, 0, none⟩) 2 2], fun k b => b = g + k ∧ k < 2, ?_, rfl, fun k u x hu hx => ?_, fun j k b hj hk => by omega, fun k b hk => ⟨by omega, ?_⟩⟩, fun b hb => ?_, fun b hb => by omega⟩
  · exact ⟨rfl, .inr ⟨g + 2, 2, _, rfl, Nat.zero_le _, hb, Nat.le_refl _, by unfold maxLen; omega, rfl, rfl⟩⟩
  · rcases k with _ | _ | k
    · simp only [mt2, List.getElem?_cons_zero, Option.some.injEq] at hu hx
      subst hu hx
      exact E1.mono k4 (fun b hb => by omega) (fun b hb => by omega)
    · simp only [mt2, List.getElem?_cons_succ, List.getElem?_cons_zero, Option.some.injEq] at hu hx
      subst hu hx
      exact E1.mono k5 (fun b hb => by omega) (fun b hb => by omega)
    · simp at hu
  · simp only [Value.ownBlock, ne_eq, Option.some.injEq]; omega
  · simp only [Value.ownBlock, Option.some.injEq] at hb; omega
set_option maxHeartbeats 2000000 in
theorem l16Letter_any (w : World) (x : Nat) (hx : x < 256) : Calls Tryd.prog 96 #[.int .u8 x] w (MkE E2 w (lmx x)) := by
  have H1 : i64ok 1 := ⟨by omega, by omega⟩
  have H0 : i64ok 0 := ⟨by omega, by omega⟩
  have Hn : i64ok (-1) := ⟨by omega, by omega⟩
  by_cases h1 : x = 115
  · subst h1
    go_enter Tryd.func96, Tryd.ntmps96
    go_wp2_with fail
    go_ret
    exact ⟨_, rfl, (E2.two' w _ rfl 0 (-1) 1 0 H0 Hn H1 H0).mono (fun b hb => ⟨hb.1, by simp; omega⟩) (fun b hb => hb.2), (by repeat (first | assumption | exact Below.refl _ _ | apply below_drewN | apply Below.drew | apply Below.alloc | apply Below.setCell | omega | (focus (simp; done)) | (focus (simp; omega))))⟩
  · have h1b : ((x : Int) == 115) = false := by rw [beq_eq_false_iff_ne]; omega
    by_cases h2 : x = 116
    · subst h2
      go_enter Tryd.func96, Tryd.ntmps96
      go_wp2_with fail
      go_ret
      exact ⟨_, rfl, (E2.two' w _ rfl 1 1 0 1 H1 H1 H0 H1).mono (fun b hb => ⟨hb.1, by simp; omega⟩) (fun b hb => hb.2), (by repeat (first | assumption | exact Below.refl _ _ | apply below_drewN | apply Below.drew | apply Below.alloc | apply Below.setCell | omega | (focus (simp; done)) | (focus (simp; omega))))⟩
    · have h2b : ((x : Int) == 116) = false := by rw [beq_eq_false_iff_ne]; omega
      by_cases h3 : x = 83
      · subst h3
        go_enter Tryd.func96, Tryd.ntmps96
        go_wp2_with fail
        go_ret
        exact ⟨_, rfl, (E2.two' w _ rfl 0 1 (-1) 0 H0 H1 Hn H0).mono (fun b hb => ⟨hb.1, by simp; omega⟩) (fun b hb => hb.2), (by repeat (first | assumption | exact Below.refl _ _ | apply below_drewN | apply Below.drew | apply Below.alloc | apply Below.setCell | omega | (focus (simp; done)) | (focus (simp; omega))))⟩
      · have h3b : ((x : Int) == 83) = false := by rw [beq_eq_false_iff_ne]; omega
        have hl : lmx x = mt2 1 (-1) 0 1 := by unfold lmx; rw [if_neg h1, if_neg h2, if_neg h3]
        have HL := hide hl
        clear hl h1 h2 h3
        go_enter Tryd.func96, Tryd.ntmps96
        go_wp2_with fail
        go_ret
        rw [HL.out]
        exact ⟨_, rfl, (E2.two' w _ rfl 1 (-1) 0 1 H1 Hn H0 H1).mono (fun b hb => ⟨hb.1, by simp; omega⟩) (fun b hb => hb.2), (by repeat (first | assumption | exact Below.refl _ _ | apply below_drewN | apply Below.drew | apply Below.alloc | apply Below.setCell | omega | (focus (simp; done)) | (focus (simp; omega))))⟩
set_option maxHeartbeats 2000000 in
theorem letterMatrix_any (w : World) (x : Nat) (hx : x < 256) : Calls Tryd.prog 58 #[.int .u8 x] w (MkE E2 w (lmx x)) := by
  have H1 : i64ok 1 := ⟨by omega, by omega⟩
  have H0 : i64ok 0 := ⟨by omega, by omega⟩
  have Hn : i64ok (-1) := ⟨by omega, by omega⟩
  by_cases h1 : x = 115
  · subst h1
    go_enter Tryd.func58, Tryd.ntmps58
    go_wp2_with fail
    go_ret
    exact ⟨_, rfl, (E2.two' w _ rfl 0 (-1) 1 0 H0 Hn H1 H0).mono (fun b hb => ⟨hb.1, by simp; omega⟩) (fun b hb => hb.2), (by repeat (first | assumption | exact Below.refl _ _ | apply below_drewN | apply Below.drew | apply Below.alloc | apply Below.setCell | omega | (focus (simp; done)) | (focus (simp; omega))))⟩
  · have h1b : ((x : Int) == 115) = false := by rw [beq_eq_false_iff_ne]; omega
    by_cases h2 : x = 116
    · subst h2
      go_enter Tryd.func58, Tryd.ntmps58
      go_wp2_with fail
      go_ret
      exact ⟨_, rfl, (E2.two' w _ rfl 1 1 0 1 H1 H1 H0 H1).mono (fun b hb => ⟨hb.1, by simp; omega⟩) (fun b hb => hb.2), (by repeat (first | assumption | exact Below.refl _ _ | apply below_drewN | apply Below.drew | apply Below.alloc | apply Below.setCell | omega | (focus (simp; done)) | (focus (simp; omega))))⟩
    · have h2b : ((x : Int) == 116) = false := by rw [beq_eq_false_iff_ne]; omega
      by_cases h3 : x = 83
      · subst h3
        go_enter Tryd.func58, Tryd.ntmps58
        go_wp2_with fail
        go_ret
        exact ⟨_, rfl, (E2.two' w _ rfl 0 1 (-1) 0 H0 H1 Hn H0).mono (fun b hb => ⟨hb.1, by simp; omega⟩) (fun b hb => hb.2), (by repeat (first | assumption | exact Below.refl _ _ | apply below_drewN | apply Below.drew | apply Below.alloc | apply Below.setCell | omega | (focus (simp; done)) | (focus (simp; omega))))⟩
      · have h3b : ((x : Int) == 83) = false := by rw [beq_eq_false_iff_ne]; omega
        have hl : lmx x = mt2 1 (-1) 0 1 := by unfold lmx; rw [if_neg h1, if_neg h2, if_neg h3]
        have HL := hide hl
        clear hl h1 h2 h3
        go_enter Tryd.func58, Tryd.ntmps58
        go_wp2_with fail
        go_ret
        rw [HL.out]
        exact ⟨_, rfl, (E2.two' w _ rfl 1 (-1) 0 1 H1 Hn H0 H1).mono (fun b hb => ⟨hb.1, by simp; omega⟩) (fun b hb => hb.2), (by repeat (first | assumption | exact Below.refl _ _ | apply below_drewN | apply Below.drew | apply Below.alloc | apply Below.setCell | omega | (focus (simp; done)) | (focus (simp; omega))))⟩
end Go.Proofs.YtlekbkjkkoefnaaDoor
