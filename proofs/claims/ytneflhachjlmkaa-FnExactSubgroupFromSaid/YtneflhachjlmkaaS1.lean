
/- The walks of the reference's functions on groups: l09Orders, l09Group, l09Add and their names of layer 10. -/
import Derived.Test.YtneflhachjlmkaaG1
import Derived.WalkLawsBesides
namespace Go.Proofs.Ytneflhachjlmkaa
open Go Go.RowKit Grp
set_option linter.unusedSimpArgs false
set_option linter.unusedVariables false

theorem prodL_snoc (xs : List Int) (x : Int) : prodL (xs ++ [x]) = prodL xs * x := by rw [prodL_append]; simp [prodL]
theorem okG_f {xs : List Int} {k : Nat} (hk : k < xs.length) (h : ¬ (2 ≤ gi xs k ∧ gi xs k ≤ 16)) : okG xs = false := by
  refine Bool.eq_false_iff.2 fun hb => h ?_
  have := okG_iff.1 hb
  exact ⟨this.m2 _ (gi_mem hk), this.m16 _ (gi_mem hk)⟩
theorem okG_len {xs : List Int} (h : ¬ (1 ≤ xs.length ∧ xs.length ≤ 4)) : okG xs = false := by
  refine Bool.eq_false_iff.2 fun hb => h ?_
  have := okG_iff.1 hb
  exact ⟨this.l1, this.l4⟩
theorem okG_end {xs : List Int} (h1 : 1 ≤ xs.length) (h4 : xs.length ≤ 4) (h : ∀ m ∈ xs, 2 ≤ m ∧ m ≤ 16) : okG xs = decide (prodL xs ≤ 16) := by
  unfold okG; exact decide_eq_decide.2 ⟨fun h => h.2.2.2, fun k => ⟨h1, h4, h, k⟩⟩
theorem pow16 {q m : Int} {k : Nat} (hk : k < 4) (h0 : 1 ≤ q) (h1 : q ≤ 16 ^ k) (m0 : 2 ≤ m) (m1 : m ≤ 16) : 1 ≤ q * m ∧ q * m ≤ 16 ^ (k + 1) ∧ q * m ≤ 65536 := by
  have e1 : 1 * 2 ≤ q * m := Int.mul_le_mul h0 m0 (by omega) (by omega)
  have e2 : q * m ≤ 16 ^ k * 16 := Int.mul_le_mul h1 m1 (by omega) (by omega)
  have e3 : (16 : Int) ^ k * 16 = 16 ^ (k + 1) := by rw [Int.pow_succ]
  have e4 : (16 : Int) ^ (k + 1) ≤ 65536 := by
    obtain rfl | rfl | rfl | rfl : k = 0 ∨ k = 1 ∨ k = 2 ∨ k = 3 := by omega
    all_goals decide
  exact ⟨by omega, by omega, by omega⟩

theorem l09Orders_any (w : World) (B : Nat) (A : Option Addr) (n c : Nat) (xs : List Int) (h : Sl w B A n c xs) (hn : n ≤ 1048576) : Calls Try.prog 175 #[.slice A n c, .int .i64 16] w (Qt w (.bool (okG xs))) := by
  obtain rfl := h.len
  by_cases h1 : 1 ≤ xs.length
  · by_cases h4 : xs.length ≤ 4
    · go_enter Try.func175, Try.ntmps175
      go_wp2_with fail
      go_loopw [5, 6] (fun s i w' => ∃ (k : Nat) (q : Int), k ≤ xs.length ∧ i = .int .i64 k ∧ s = .int .i64 q ∧ 1 ≤ q ∧ q ≤ 16 ^ k ∧ q = prodL (xs.take k) ∧ (∀ m ∈ xs.take k, 2 ≤ m ∧ m ≤ 16) ∧ ∃ m, w' = w.drewN m) (fun _ i _ => xs.length - (intOf i).toNat)
      case atStart => exact ⟨0, 1, by omega, rfl, rfl, by omega, by simp, rfl, by simp, 0, rfl⟩
      case round =>
        obtain ⟨k, q, hk, rfl, rfl, hq1, hq2, hq3, hpre, mm, rfl⟩ := hrel
        have hP := hide hpre
        clear hpre
        have hQ := hide hq3
        clear hq3
        by_cases hlt : k < xs.length
        · obtain ⟨b, off, rfl, hb, hc⟩ := h.at_ (by omega)
          have c1 := hc k hlt
          clear hc
          by_cases hm : 2 ≤ gi xs k ∧ gi xs k ≤ 16
          · obtain ⟨p1, p2, p3⟩ := pow16 (show k < 4 by omega) hq1 hq2 hm.1 hm.2
            have hm' := hide hm
            clear hm
            have hnew : ∀ m ∈ xs.take (k + 1), 2 ≤ m ∧ m ≤ 16 := by
              rw [take_gi hlt]
              intro m hm
              rcases List.mem_append.1 hm with hm | hm
              · exact hP.out m hm
              · obtain rfl : m = gi xs k := by simpa using hm
                exact hm'.out
            have hN := hide hnew
            clear hnew
            go_wp2_with fail
            refine (l01In_t _ _ _ _ hm'.out.1 hm'.out.2).mono ?_
            rintro e w' ⟨rfl, m, rfl⟩
            go_wp2_with fail
            go_roundw
            case rel => exact ⟨k + 1, q * gi xs k, by omega, by go_num, rfl, by omega, by omega, by rw [take_gi hlt, prodL_snoc, hQ.out], hN.out, _, rfl⟩
            case measure => simp [intOf]; omega
          · have hf := okG_f hlt hm
            have hF := hide hf
            clear hf
            go_wp2_with fail
            refine (l01In_f _ _ _ _ hm).mono ?_
            rintro e w' ⟨rfl, m, rfl⟩
            go_wp2_with fail
            go_ret
            exact Qt.d1 (bool_eq hF.out.symm)
        · obtain rfl : k = xs.length := by omega
          have he : okG xs = decide (q ≤ 16) := by rw [hQ.out, List.take_length]; exact okG_end h1 h4 (fun m hm => hP.out m (by rw [List.take_length]; exact hm))
          have hE := hide he
          clear he
          go_wp2
          go_ret
          exact Qt.d1 (bool_eq hE.out.symm)
    · have hf := okG_len (xs := xs) (by omega)
      have hF := hide hf
      clear hf
      go_enter Try.func175, Try.ntmps175
      go_wp2_with fail
      go_ret
      exact Qt.mk' 0 rfl (bool_eq hF.out.symm)
  · have hf := okG_len (xs := xs) (by omega)
    have hF := hide hf
    clear hf
    go_enter Try.func175, Try.ntmps175
    go_wp2_with fail
    go_ret
    exact Qt.mk' 0 rfl (bool_eq hF.out.symm)
theorem l10Orders_any (w : World) (B : Nat) (A : Option Addr) (n c : Nat) (xs : List Int) (h : Sl w B A n c xs) (hn : n ≤ 1048576) : Calls Try.prog 126 #[.slice A n c] w (Qt w (.bool (okG xs))) := by
  go_enter Try.func126, Try.ntmps126
  go_wp2_with fail
  refine (l09Orders_any _ _ _ _ _ _ h hn).mono ?_
  rintro e w' ⟨rfl, m, rfl⟩
  go_wp2
  go_ret
  exact Qt.d1 rfl

theorem OkG.take_le {xs : List Int} (h : OkG xs) (k : Nat) : 1 ≤ prodL (xs.take k) ∧ prodL (xs.take k) ≤ 16 := by
  have e : prodL (xs.take k) * prodL (xs.drop k) = prodL xs := by rw [← prodL_append, List.take_append_drop]
  have p1 : 1 ≤ prodL (xs.take k) := prodL_pos (fun m hm => h.pos m (List.mem_of_mem_take hm))
  have p2 : 1 ≤ prodL (xs.drop k) := prodL_pos (fun m hm => h.pos m (List.mem_of_mem_drop hm))
  have : prodL (xs.take k) * 1 ≤ prodL (xs.take k) * prodL (xs.drop k) := Int.mul_le_mul_of_nonneg_left p2 (by omega)
  have := h.p16
  exact ⟨p1, by omega⟩
theorem l09Group_any (w : World) (B : Nat) (A : Option Addr) (n c : Nat) (xs : List Int) (h : Sl w B A n c xs) (hG : OkG xs) : Calls Try.prog 148 #[.slice A n c] w (Qt w (.int .i64 (prodL xs))) := by
  obtain rfl := h.len
  have h4 := hG.l4
  go_enter Try.func148, Try.ntmps148
  go_wp2
  go_loop [3, 4] (fun s i => ∃ (k : Nat) (q : Int), k ≤ xs.length ∧ i = .int .i64 k ∧ s = .int .i64 q ∧ q = prodL (xs.take k)) (fun _ i => xs.length - (intOf i).toNat)
  case atStart => exact ⟨0, 1, by omega, rfl, rfl, rfl⟩
  case round =>
    obtain ⟨k, q, hk, rfl, rfl, hq⟩ := hrel
    by_cases hlt : k < xs.length
    · obtain ⟨b, off, rfl, hb, hc⟩ := h.at_ (by omega)
      have c1 := hc k hlt
      clear hc
      have e1 := hG.take_le (k + 1)
      have e2 : prodL (xs.take (k + 1)) = q * gi xs k := by rw [take_gi hlt, prodL_snoc, hq]
      rw [e2] at e1
      have hQ := hide e2
      clear e2 hq
      go_wp2
      go_round
      case rel => exact ⟨k + 1, q * gi xs k, by omega, by go_num, rfl, hQ.out.symm⟩
      case measure => simp [intOf]; omega
    · obtain rfl : k = xs.length := by omega
      go_wp2
      go_ret
      exact Qt.mk' 0 rfl (int_eq (by first | rfl | (rw [List.take_length] at hq; exact hq)))
theorem l10Size_any (w : World) (B : Nat) (A : Option Addr) (n c : Nat) (xs : List Int) (h : Sl w B A n c xs) (hG : OkG xs) : Calls Try.prog 82 #[.slice A n c] w (Qt w (.int .i64 (prodL xs))) := by
  go_enter Try.func82, Try.ntmps82
  go_wp2_with fail
  refine (l09Group_any _ _ _ _ _ _ h hG).mono ?_
  rintro e w' ⟨rfl, m, rfl⟩
  go_wp2
  go_ret
  exact Qt.d1 rfl
end Go.Proofs.Ytneflhachjlmkaa
