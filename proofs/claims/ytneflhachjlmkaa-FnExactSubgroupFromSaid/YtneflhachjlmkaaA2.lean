
/- The walk of groupSize. -/
import Derived.Test.YtneflhachjlmkaaA1
import Derived.WalkLawsBesides
namespace Go.Proofs.Ytneflhachjlmkaa
open Go Go.RowKit
set_option linter.unusedSimpArgs false
set_option linter.unusedVariables false

/-- The size of the group of orders, 17 for a greater one, 0 where an order is less than 1. -/
def gsL (s : Int) : List Int → Int
  | [] => s
  | m :: r => if m < 1 then 0 else gsL (min 17 (s * min m 17)) r
def gsz (os : List Int) : Int := if os = [] then 0 else gsL 1 os

theorem gs_bd {s m : Int} (h0 : 1 ≤ s) (h1 : s ≤ 17) (hm : ¬ m < 1) : 1 ≤ s * min m 17 ∧ s * min m 17 ≤ 289 := by
  have a1 : 1 ≤ min m 17 := by omega
  have a2 : min m 17 ≤ 17 := by omega
  have e1 : 1 * 1 ≤ s * min m 17 := Int.mul_le_mul h0 a1 (by omega) (by omega)
  have e2 : s * min m 17 ≤ 17 * 17 := Int.mul_le_mul h1 a2 (by omega) (by omega)
  exact ⟨by omega, by omega⟩

theorem gs_step {q m : Int} (h0 : 1 ≤ q) (h1 : q ≤ 17) (hm : ¬ m < 1) :
    (if wrap64 (q * if 17 < m then 17 else m) < 17 then wrap64 (q * if 17 < m then 17 else m) else 17) = min 17 (q * min m 17) := by
  obtain ⟨e1, e2⟩ := gs_bd h0 h1 hm
  have e : (if 17 < m then (17 : Int) else m) = min m 17 := by split <;> omega
  rw [e, wrap64_ok _ ⟨by omega, by omega⟩]
  split <;> omega
theorem groupSize_any (w : World) (B : Nat) (A : Option Addr) (n c : Nat) (xs : List Int) (h : Sl w B A n c xs) (hn : n ≤ 1048576) : Calls Try.prog 118 #[.slice A n c] w (Qt w (.int .i64 (gsz xs))) := by
  by_cases hn0 : n = 0
  · obtain rfl := hn0
    obtain rfl := List.eq_nil_of_length_eq_zero h.len
    go_enter Try.func118, Try.ntmps118
    go_wp2
    refine wp_loop_rounds 1 ?_
    rw [rounds_succ]
    go_wp2
    go_ret
    exact Qt.mk' 0 rfl rfl
  · have hg : gsz xs = gsL 1 xs := by unfold gsz; rw [if_neg (by rintro rfl; exact hn0 h.len.symm)]
    have hnb : ((n : Int) == 0) = false := by rw [beq_eq_false_iff_ne]; omega
    have hG := hide hg
    clear hg
    go_enter Try.func118, Try.ntmps118
    go_wp2
    go_loop [3, 8] (fun s i => ∃ (k : Nat) (q : Int), k ≤ n ∧ i = .int .i64 k ∧ s = .int .i64 q ∧ 1 ≤ q ∧ q ≤ 17 ∧ gsL 1 xs = gsL q (xs.drop k)) (fun _ i => n - (intOf i).toNat)
    case atStart => exact ⟨0, 1, by omega, rfl, rfl, by omega, by omega, rfl⟩
    case round =>
      obtain ⟨k, q, hk, rfl, rfl, hq1, hq2, hpre⟩ := hrel
      have hP := hide hpre
      clear hpre
      by_cases hlt : k < n
      · obtain ⟨b, off, rfl, hb, hc⟩ := h.at_ (by omega)
        have c1 := hc k hlt
        clear hc
        have hst : gsL 1 xs = gsL q (gi xs k :: xs.drop (k + 1)) := by rw [hP.out, drop_gi (by rw [h.len]; exact hlt)]
        have hS := hide hst
        clear hst
        by_cases hm : gi xs k < 1
        · go_wp2
          go_ret
          exact Qt.mk' 0 rfl (int_eq (by rw [hG.out, hS.out, gsL, if_pos hm]))
        · obtain ⟨e1, e2⟩ := gs_bd hq1 hq2 hm
          go_wp2
          go_round
          case rel => exact ⟨k + 1, min 17 (q * min (gi xs k) 17), by omega, by go_num, int_eq (gs_step hq1 hq2 hm), by omega, by omega, by rw [hS.out, gsL, if_neg (by omega)]⟩
          case measure => simp [intOf]; omega
      · go_wp2
        go_ret
        exact Qt.mk' 0 rfl (int_eq (by rw [hG.out, hP.out, List.drop_of_length_le (by rw [h.len]; omega)]; rfl))

end Go.Proofs.Ytneflhachjlmkaa
