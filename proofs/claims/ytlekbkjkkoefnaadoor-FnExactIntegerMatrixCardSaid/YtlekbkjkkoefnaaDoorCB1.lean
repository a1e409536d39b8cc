
/- The walks of zeros, l06Empty: tables of zeros. -/
import Derived.Test.YtlekbkjkkoefnaaDoorNa
import Derived.WalkLawsBesides
namespace Go.Proofs.YtlekbkjkkoefnaaDoor
open Go Go.RowKit
set_option linter.unusedSimpArgs false
set_option linter.unusedVariables false
set_option maxRecDepth 100000

theorem rep_snoc {α : Type} (k : Nat) (x : α) : List.replicate k x ++ [x] = List.replicate (k + 1) x := by rw [List.replicate_succ']
/-- It returned rows of its own. -/
def MkG {α : Type} (E : Own α) (t : TypeId) (w : World) (xs : List α) (e : Ending) (w' : World) : Prop := ∃ v, e = .returned v ∧ Grow E t w.heap.size w' v xs ∧ Below w.heap.size w w'
set_option maxHeartbeats 2000000 in
theorem zeros_any (w : World) (r n : Nat) (hr : r ≤ 64) (hn : n ≤ 64) : Calls Tryd.prog 98 #[.int .i64 r, .int .i64 n] w (MkG E1 22 w (List.replicate r (List.replicate n 0))) := by
  obtain ⟨i0, hi0, hz0, hz1, hz2⟩ := info_parts int_info
  have hmk := fun W => run_make (P := Tryd.prog) (w := W) 22 2 i0 (.int .i64 0) Tryd.underlying22 hi0 hz0 .i64 .i64 n n (by omega) (by omega) (by rw [hz2]; omega) (by omega)
  simp only [hz1, Int.toNat_natCast, Nat.mul_one] at hmk
  go_enter Tryd.func98, Tryd.ntmps98
  go_wp2_with fail
  have hG0 : Grow E1 22 w.heap.size (w.alloc (.cells #[] 22)) (.slice (some ⟨w.heap.size, 0, none⟩) 0 0) (List.replicate 0 (List.replicate n 0)) := Grow.start rfl (Nat.le_refl _)
  go_loopw [5, 8] (fun o i wr => ∃ (k : Nat) (vv : Value), k ≤ r ∧ i = .int .i64 k ∧ vv = o ∧ Grow E1 22 w.heap.size wr vv (List.replicate k (List.replicate n 0)) ∧ Below w.heap.size w wr) (fun _ i _ => r - (intOf i).toNat)
  case atStart => exact ⟨0, _, by omega, rfl, rfl, hG0, (Below.refl _ _).alloc (Nat.le_refl _) _⟩
  case round =>
    clear hG0
    obtain ⟨k, vv, hk, rfl, rfl, hG, hBe⟩ := hrel
    by_cases hlt : k < r
    · have hE := E1.zeros wr n wr.heap.size rfl (by unfold maxLen; omega)
      have hbw : Below wr.heap.size wr ((wr.alloc (.cells (madeCells #[.int .i64 0] n) 2)).alloc (.cells #[.slice (some ⟨wr.heap.size, 0, none⟩) n n] 22)) := ((Below.refl _ _).alloc (Nat.le_refl _) _).alloc (by simp) _
      have hE2 := E1.below hE ((Below.refl _ _).alloc (Nat.le_refl _) (.cells #[.slice (some ⟨wr.heap.size, 0, none⟩) n n] 22))
      have hsz := hBe.size
      have hlen : (List.replicate k (List.replicate n (0 : Int))).length ≤ 1048576 := by simp; omega
      go_wp2_with (at_builtin; refine list_pushG kp1 40 22 _ 24 Tryd.underlying40 rows_info (by omega) rfl _ rfl _ _ rfl w.heap.size vv _ rfl wr hG hbw (.slice (some ⟨wr.heap.size, 0, none⟩) n n) _ _ hE2 (by rintro b rfl; exact ⟨Nat.le_refl _, by simp; omega⟩) rfl (wr.heap.size + 1) _ rfl (Blk.new' _ _ _ _ (by simp)) hlen hsz (by simp) ?_; intro g cap w4 hG4 hB4 hW4 hg4 hg5)
      have hbx := (hBe.trans (hbw.mono hsz)).trans hB4
      clear hmk
      go_roundw
      case rel => exact ⟨k + 1, _, by omega, by go_num, rfl, by (have h9 := hG4); rw [List.length_replicate] at h9; rw [← rep_snoc]; exact h9, hbx⟩
      case measure => simp [intOf] <;> omega
    · obtain rfl : k = r := by omega
      clear hmk
      go_wp2_with fail
      go_ret
      exact ⟨vv, rfl, hG, hBe⟩
end Go.Proofs.YtlekbkjkkoefnaaDoor
