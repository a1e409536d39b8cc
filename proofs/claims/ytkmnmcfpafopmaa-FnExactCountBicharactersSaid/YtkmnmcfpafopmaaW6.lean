/- The walks of the functions on orders of groups (groupSize, ordersCode, l06Orders, l06Size, l18Group) and of the greatest common divisors. -/
import Derived.Test.YtkmnmcfpafopmaaW5
import Derived.WalkLawsBesides
namespace Go.Proofs.Ytkmnmcfpafopmaa
open Go Go.RowKit
set_option linter.unusedSimpArgs false
set_option linter.unusedVariables false


/-- The size of the group of orders, 17 for a greater one, 0 where an order is less than 1. -/
def gsL (s : Int) : List Int → Int
  | [] => s
  | m :: r => if m < 1 then 0 else gsL (min 17 (s * min m 17)) r
def gsz (os : List Int) : Int := if os = [] then 0 else gsL 1 os

theorem gs_bd {s m : Int} (h0 : 1 ≤ s) (h1 : s ≤ 17) (hm : ¬ m < 1) : 1 ≤ s * min m 17 ∧ s * min m 17 ≤ 289 := by
  have a1 : 1 ≤ min m 17 := by omega
  have a2 : min m 17 ≤ 17 := by omega
  have e1 : 1 * 1 ≤ s * min m 17 := Int.mul_le_mul h0 a1 (by omega) (by omega)
  have e2 : s * min m 17 ≤ 17 * 17 := Int.mul_le_mul h1 a2 (by omega) (by omega)
  exact ⟨by omega, by omega⟩

theorem gs_step {q m : Int} (h0 : 1 ≤ q) (h1 : q ≤ 17) (hm : ¬ m < 1) :
    (if wrap64 (q * if 17 < m then 17 else m) < 17 then wrap64 (q * if 17 < m then 17 else m) else 17) = min 17 (q * min m 17) := by
  obtain ⟨e1, e2⟩ := gs_bd h0 h1 hm
  have e : (if 17 < m then (17 : Int) else m) = min m 17 := by split <;> omega
  rw [e, wrap64_ok _ ⟨by omega, by omega⟩]
  split <;> omega
theorem groupSize_any (w : World) (B : Nat) (A : Option Addr) (n c : Nat) (xs : List Int) (h : Sl w B A n c xs) (hn : n ≤ 1048576) : Calls Try.prog 56 #[.slice A n c] w (Qt w (.int .i64 (gsz xs))) := by
  by_cases hn0 : n = 0
  · obtain rfl := hn0
    obtain rfl := List.eq_nil_of_length_eq_zero h.len
    go_enter Try.func56, Try.ntmps56
    go_wp2
    refine wp_loop_rounds 1 ?_
    rw [rounds_succ]
    go_wp2
    go_ret
    exact Qt.mk' 0 rfl rfl
  · have hg : gsz xs = gsL 1 xs := by unfold gsz; rw [if_neg (by rintro rfl; exact hn0 h.len.symm)]
    have hnb : ((n : Int) == 0) = false := by rw [beq_eq_false_iff_ne]; omega
    have hG := hide hg
    clear hg
    go_enter Try.func56, Try.ntmps56
    go_wp2
    go_loop [3, 8] (fun s i => ∃ (k : Nat) (q : Int), k ≤ n ∧ i = .int .i64 k ∧ s = .int .i64 q ∧ 1 ≤ q ∧ q ≤ 17 ∧ gsL 1 xs = gsL q (xs.drop k)) (fun _ i => n - (intOf i).toNat)
    case atStart => exact ⟨0, 1, by omega, rfl, rfl, by omega, by omega, rfl⟩
    case round =>
      obtain ⟨k, q, hk, rfl, rfl, hq1, hq2, hpre⟩ := hrel
      have hP := hide hpre
      clear hpre
      by_cases hlt : k < n
      · obtain ⟨b, off, rfl, hb, hc⟩ := h.at_ (by omega)
        have c1 := hc k hlt
        clear hc
        have hst : gsL 1 xs = gsL q (gi xs k :: xs.drop (k + 1)) := by rw [hP.out, drop_gi (by rw [h.len]; exact hlt)]
        have hS := hide hst
        clear hst
        by_cases hm : gi xs k < 1
        · go_wp2
          go_ret
          exact Qt.mk' 0 rfl (int_eq (by rw [hG.out, hS.out, gsL, if_pos hm]))
        · obtain ⟨e1, e2⟩ := gs_bd hq1 hq2 hm
          go_wp2
          go_round
          case rel => exact ⟨k + 1, min 17 (q * min (gi xs k) 17), by omega, by go_num, int_eq (gs_step hq1 hq2 hm), by omega, by omega, by rw [hS.out, gsL, if_neg (by omega)]⟩
          case measure => simp [intOf]; omega
      · go_wp2
        go_ret
        exact Qt.mk' 0 rfl (int_eq (by rw [hG.out, hP.out, List.drop_of_length_le (by rw [h.len]; omega)]; rfl))

/-- The reference's: whether all orders are at least 1, and there is one. -/
def okL : List Int → Bool
  | [] => true
  | m :: r => if m < 1 then false else okL r
def okOs (os : List Int) : Bool := okL os && decide (0 < os.length)
theorem l06Orders_any (w : World) (B : Nat) (A : Option Addr) (n c : Nat) (xs : List Int) (h : Sl w B A n c xs) (hn : n ≤ 1048576) : Calls Try.prog 54 #[.slice A n c] w (Qt w (.bool (okOs xs))) := by
  have hl : decide (0 < xs.length) = decide (0 < n) := by rw [h.len]
  have hL := hide hl
  clear hl
  go_enter Try.func54, Try.ntmps54
  go_wp2
  go_loop [3] (fun i => ∃ (k : Nat), k ≤ n ∧ i = .int .i64 k ∧ okL xs = okL (xs.drop k)) (fun i => n - (intOf i).toNat)
  case atStart => exact ⟨0, by omega, rfl, rfl⟩
  case round =>
    obtain ⟨k, hk, rfl, hpre⟩ := hrel
    have hP := hide hpre
    clear hpre
    by_cases hlt : k < n
    · obtain ⟨b, off, rfl, hb, hc⟩ := h.at_ (by omega)
      have c1 := hc k hlt
      clear hc
      have hst : okL xs = okL (gi xs k :: xs.drop (k + 1)) := by rw [hP.out, drop_gi (by rw [h.len]; exact hlt)]
      have hS := hide hst
      clear hst
      by_cases hm : gi xs k < 1
      · go_wp2
        go_ret
        exact Qt.mk' 0 rfl (bool_eq (by unfold okOs; rw [hS.out, okL, if_pos hm]; rfl))
      · go_wp2
        go_round
        case rel => exact ⟨k + 1, by omega, by go_num, by rw [hS.out, okL, if_neg (by omega)]⟩
        case measure => simp [intOf]; omega
    · have hkn : okL xs = true := by rw [hP.out, List.drop_of_length_le (by rw [h.len]; omega)]; rfl
      have hK := hide hkn
      clear hkn
      by_cases h0 : 0 < n
      · have hd : decide ((0 : Int) < (n : Int)) = true := by simpa using h0
        go_wp2
        go_ret
        exact Qt.mk' 0 rfl (bool_eq (by unfold okOs; rw [hK.out, hL.out]; simp [h0]))
      · have hd : decide ((0 : Int) < (n : Int)) = false := by simpa using h0
        go_wp2
        go_ret
        exact Qt.mk' 0 rfl (bool_eq (by unfold okOs; rw [hK.out, hL.out]; simp [h0]))

/-- The reference's size with a limit. -/
def szL (lim s : Int) : List Int → Int
  | [] => s
  | m :: r => if lim < m then lim + 1 else if lim < s * m then lim + 1 else szL lim (s * m) r
theorem okL_gi {xs : List Int} : ∀ {k : Nat}, okL xs = true → k < xs.length → ¬ gi xs k < 1 := by
  induction xs with
  | nil => intro k _ hk; simp at hk
  | cons x xs ih =>
    intro k h hk
    unfold okL at h
    split at h
    · cases h
    · cases k with
      | zero => simpa [gi] using (by assumption : ¬ x < 1)
      | succ k => simpa [gi] using ih h (by simpa using hk)
theorem l06Size_any (w : World) (B : Nat) (A : Option Addr) (n c : Nat) (xs : List Int) (lim : Int) (h : Sl w B A n c xs) (hn : n ≤ 1048576) (hok : okL xs = true) (l0 : 1 ≤ lim) (l1 : lim ≤ 1000) :
    Calls Try.prog 63 #[.slice A n c, .int .i64 lim] w (Qt w (.int .i64 (szL lim 1 xs))) := by
  have hO := hide hok
  clear hok
  go_enter Try.func63, Try.ntmps63
  go_wp2
  go_loop [5, 6] (fun s i => ∃ (k : Nat) (q : Int), k ≤ n ∧ i = .int .i64 k ∧ s = .int .i64 q ∧ 1 ≤ q ∧ q ≤ lim ∧ szL lim 1 xs = szL lim q (xs.drop k)) (fun _ i => n - (intOf i).toNat)
  case atStart => exact ⟨0, 1, by omega, rfl, rfl, by omega, by omega, rfl⟩
  case round =>
    obtain ⟨k, q, hk, rfl, rfl, hq1, hq2, hpre⟩ := hrel
    have hP := hide hpre
    clear hpre
    by_cases hlt : k < n
    · obtain ⟨b, off, rfl, hb, hc⟩ := h.at_ (by omega)
      have c1 := hc k hlt
      clear hc
      have hst : szL lim 1 xs = szL lim q (gi xs k :: xs.drop (k + 1)) := by rw [hP.out, drop_gi (by rw [h.len]; exact hlt)]
      have hS := hide hst
      clear hst
      have hpos := okL_gi hO.out (show k < xs.length by rw [h.len]; exact hlt)
      by_cases hm : lim < gi xs k
      · go_wp2
        go_ret
        exact Qt.mk' 0 rfl (int_eq (by rw [hS.out, szL, if_pos hm]))
      · have e1 : 1 * 1 ≤ q * gi xs k := Int.mul_le_mul hq1 (by omega) (by omega) (by omega)
        have e2 : q * gi xs k ≤ 1000 * 1000 := Int.mul_le_mul (by omega) (by omega) (by omega) (by omega)
        by_cases hm2 : lim < q * gi xs k
        · go_wp2
          go_ret
          exact Qt.mk' 0 rfl (int_eq (by rw [hS.out, szL, if_neg (by omega), if_pos hm2]))
        · go_wp2
          go_round
          case rel => exact ⟨k + 1, q * gi xs k, by omega, by go_num, rfl, by omega, by omega, by rw [hS.out, szL, if_neg (by omega), if_neg (by omega)]⟩
          case measure => simp [intOf]; omega
    · go_wp2
      go_ret
      exact Qt.mk' 0 rfl (int_eq (by rw [hP.out, List.drop_of_length_le (by rw [h.len]; omega)]; rfl))

/-- Both sizes are one. -/
theorem gsL_ge (os : List Int) : ∀ s : Int, okL os = true → 1 ≤ s → 1 ≤ gsL s os := by
  induction os with
  | nil => intro s _ h; exact h
  | cons m r ih =>
    intro s h hs
    unfold okL at h
    split at h
    · cases h
    · unfold gsL
      rw [if_neg (by assumption)]
      refine ih _ h ?_
      have : 1 * 1 ≤ s * min m 17 := Int.mul_le_mul hs (by omega) (by omega) (by omega)
      omega
theorem gsL_mono (os : List Int) : ∀ s : Int, okL os = true → 1 ≤ s → s ≤ 17 → s ≤ gsL s os := by
  induction os with
  | nil => intro s _ h _; exact Int.le_refl _
  | cons m r ih =>
    intro s h hs h17
    unfold okL at h
    split at h
    · cases h
    · unfold gsL
      rw [if_neg (by assumption)]
      have h1 : s * 1 ≤ s * min m 17 := Int.mul_le_mul (Int.le_refl _) (by omega) (by omega) (by omega)
      exact Int.le_trans (by omega) (ih _ h (by omega) (by omega))
theorem gsL_not {os : List Int} : ∀ s : Int, okL os = false → gsL s os = 0 := by
  induction os with
  | nil => intro s h; cases h
  | cons m r ih =>
    intro s h
    unfold okL at h
    unfold gsL
    split
    · rfl
    · rw [if_neg (by assumption)] at h; exact ih _ h
theorem szL_gsL (lim : Int) (h1 : 1 ≤ lim) (h2 : lim ≤ 16) (os : List Int) : ∀ s : Int, okL os = true → 1 ≤ s → s ≤ lim → szL lim s os = min (lim + 1) (gsL s os) := by
  induction os with
  | nil => intro s _ _ h; simp only [szL, gsL]; omega
  | cons m r ih =>
    intro s h hs hl
    unfold okL at h
    split at h
    · cases h
    · rename_i hm
      unfold szL gsL
      rw [if_neg hm]
      have e : ∀ t : Int, lim + 1 ≤ t → t ≤ 17 → min (lim + 1) (gsL t r) = lim + 1 := fun t ht ht' => by
        have := gsL_mono r t h (by omega) ht'; omega
      by_cases c1 : lim < m
      · rw [if_pos c1]
        have h3 : 1 * (lim + 1) ≤ s * min m 17 := Int.mul_le_mul hs (by omega) (by omega) (by omega)
        rw [e _ (by omega) (by omega)]
      · rw [if_neg c1]
        have h3 : min m 17 = m := by omega
        rw [h3]
        by_cases c2 : lim < s * m
        · rw [if_pos c2, e _ (by omega) (by omega)]
        · rw [if_neg c2]
          have h4 : 1 * 1 ≤ s * m := Int.mul_le_mul hs (by omega) (by omega) (by omega)
          have h5 : min 17 (s * m) = s * m := by omega
          rw [h5]
          exact ih _ h (by omega) (by omega)
theorem okOs_gsz {os : List Int} : okOs os = true ↔ gsz os ≠ 0 := by
  unfold okOs gsz
  cases os with
  | nil => simp [okL]
  | cons m r =>
    simp only [List.length_cons, Nat.zero_lt_succ, decide_true, Bool.and_true]
    rw [if_neg (by simp)]
    cases h : okL (m :: r)
    · simp [gsL_not 1 h]
    · have := gsL_ge (m :: r) 1 h (by omega); simp; omega
end Go.Proofs.Ytkmnmcfpafopmaa
