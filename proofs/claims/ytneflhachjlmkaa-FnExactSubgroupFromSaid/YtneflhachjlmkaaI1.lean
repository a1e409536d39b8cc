
/- The walks of allWithin, isGroup. -/
import Derived.Test.YtneflhachjlmkaaS2
import Derived.Test.YtneflhachjlmkaaAW
import Derived.Test.YtneflhachjlmkaaOd
import Derived.WalkLawsBesides
namespace Go.Proofs.Ytneflhachjlmkaa
open Go Go.RowKit Grp
set_option linter.unusedSimpArgs false
set_option linter.unusedVariables false

theorem gsL_min (r : List Int) : ∀ s : Int, 1 ≤ s → (∀ m ∈ r, 2 ≤ m ∧ m ≤ 16) → gsL (min 17 s) r = min 17 (s * prodL r) := by
  induction r with
  | nil => intro s _ _; simp [gsL, prodL]
  | cons m r ih =>
    intro s hs h
    have hm := h m (by simp)
    have e1 : s * 2 ≤ s * m := Int.mul_le_mul_of_nonneg_left hm.1 (by omega)
    have e2 : min 17 (min 17 s * min m 17) = min 17 (s * m) := by
      rw [show min m 17 = m by omega]
      by_cases h17 : s ≤ 17
      · rw [show min 17 s = s by omega]
      · rw [show min 17 s = 17 by omega]
        omega
    unfold gsL
    rw [if_neg (by omega), e2, ih (s * m) (by omega) (fun k hk => h k (by simp [hk]))]
    simp only [prodL, Int.mul_assoc]
theorem isGroup_eq (xs : List Int) : okG xs = (decide (xs.length ≤ 4) && allIn 2 16 xs && inB (gsz xs) 2 16) := by
  by_cases h4 : xs.length ≤ 4
  · by_cases ha : allIn 2 16 xs = true
    · have hr : ∀ m ∈ xs, 2 ≤ m ∧ m ≤ 16 := fun m hm => by
        have := List.all_eq_true.1 ha m hm
        simpa [inB] using this
      cases xs with
      | nil => decide
      | cons m r =>
        have hg : gsz (m :: r) = min 17 (prodL (m :: r)) := by
          unfold gsz
          rw [if_neg (by simp)]
          have := gsL_min (m :: r) 1 (by omega) hr
          rw [show min (17 : Int) 1 = 1 by omega] at this
          rw [this, Int.one_mul]
        have h2 : 2 ≤ prodL (m :: r) := by
          have h1 : 1 ≤ prodL r := prodL_pos (fun k hk => by have := hr k (by simp [hk]); omega)
          have := (hr m (by simp)).1
          have : 2 * 1 ≤ m * prodL r := Int.mul_le_mul this h1 (by omega) (by omega)
          simp only [prodL]; omega
        rw [ha, hg, okG_end (by simp) h4 hr]
        simp only [h4, decide_true, Bool.true_and, inB]
        exact decide_eq_decide.2 (by omega)
    · rw [show allIn 2 16 xs = false by simpa using ha]
      rw [Bool.and_false, Bool.false_and]
      refine Bool.eq_false_iff.2 fun hb => ha ?_
      have := okG_iff.1 hb
      exact allIn_t fun k hk => inB_t (this.m2 _ (gi_mem hk)) (this.m16 _ (gi_mem hk))
  · rw [okG_len (by omega)]; simp [h4]

theorem isGroup_any (w : World) (B : Nat) (A : Option Addr) (n c : Nat) (xs : List Int) (h : Sl w B A n c xs) (hB : B ≤ w.heap.size) (hn : n ≤ 1048576) :
    Calls Try.prog 115 #[.slice A n c] w (Re w (.bool (okG xs))) := by
  obtain rfl := h.len
  have hE := hide (isGroup_eq xs)
  by_cases h4 : xs.length ≤ 4
  case neg =>
    go_enter Try.func115, Try.ntmps115
    go_wp2_with fail
    go_ret
    exact ⟨by rw [hE.out]; simp [h4], (by repeat (first | assumption | exact Below.refl _ _ | apply below_drewN | apply Below.drew | apply Below.alloc | apply Below.setCell | omega | (focus (simp; done)) | (focus (simp; omega))))⟩
  by_cases ha : allIn 2 16 xs = true
  case neg =>
    have ha' : allIn 2 16 xs = false := by simpa using ha
    have hA := hide ha'
    clear ha ha'
    go_enter Try.func115, Try.ntmps115
    go_wp2_with fail
    refine (allWithin_any _ _ _ _ _ _ _ _ (h.below (by repeat (first | assumption | exact Below.refl _ _ | apply below_drewN | apply Below.drew | apply Below.alloc | apply Below.setCell | omega | (focus (simp; done)) | (focus (simp; omega))))) hB hn).mono ?_
    rintro e w' ⟨rfl, hb⟩
    rw [hA.out]
    go_wp2_with fail
    go_ret
    exact ⟨by rw [hE.out, hA.out]; simp, hb⟩
  have hA := hide ha
  clear ha
  go_enter Try.func115, Try.ntmps115
  go_wp2_with fail
  refine (allWithin_any _ _ _ _ _ _ _ _ (h.below (by repeat (first | assumption | exact Below.refl _ _ | apply below_drewN | apply Below.drew | apply Below.alloc | apply Below.setCell | omega | (focus (simp; done)) | (focus (simp; omega))))) hB hn).mono ?_
  rintro e w' ⟨rfl, hb⟩
  rw [hA.out]
  go_wp2_with fail
  refine (groupSize_any _ _ _ _ _ _ (h.below (hb.mono hB)) hn).mono ?_
  rintro e w' ⟨rfl, m, rfl⟩
  go_wp2_with fail
  refine (within_any _ _ _ _).mono ?_
  rintro e w' ⟨rfl, m, rfl⟩
  go_wp2_with fail
  go_ret
  exact ⟨by rw [hE.out, hA.out]; simp [h4], (by repeat (first | assumption | exact Below.refl _ _ | apply below_drewN | apply Below.drew | apply Below.alloc | apply Below.setCell | omega | (focus (simp; done)) | (focus (simp; omega))))⟩
end Go.Proofs.Ytneflhachjlmkaa
