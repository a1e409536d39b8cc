
/- The walks of the small functions of package laws that compare, copy, mark and hold slices of int64. -/
import Derived.Test.YtneflhachjlmkaaChecked
import Derived.Test.YtneflhachjlmkaaPush
import Derived.WalkSpells
import Derived.Deep.QuietTactic
import Derived.BigQuiet
import Derived.Outline
namespace Go.Proofs.Ytneflhachjlmkaa
open Go Go.RowKit

theorem take_step {xs ys : List Int} {k : Nat} (hx : k < xs.length) (hy : k < ys.length) (h : xs.take k = ys.take k) (he : gi xs k = gi ys k) : xs.take (k + 1) = ys.take (k + 1) := by
  rw [take_gi hx, take_gi hy, h, he]
theorem ne_of_gi {xs ys : List Int} {k : Nat} (he : gi xs k ≠ gi ys k) : (xs == ys) = false := by
  rw [beq_eq_false_iff_ne]; rintro rfl; exact he rfl

theorem eqInt64S_any (w : World) (B B' : Nat) (A A' : Option Addr) (n n' c c' : Nat) (xs ys : List Int) (h : Sl w B A n c xs) (h' : Sl w B' A' n' c' ys) (hn : n ≤ 1048576) :
    Calls Try.prog 18 #[.slice A n c, .slice A' n' c'] w (Qt w (.bool (xs == ys))) := by
  by_cases hne : n = n'
  · obtain rfl := hne
    go_enter Try.func18, Try.ntmps18
    go_wp2
    go_loopw [5] (fun i wr => ∃ k : Nat, k ≤ n ∧ i = .int .i64 k ∧ xs.take k = ys.take k ∧ ∃ m, w.drewN m = wr) (fun i _ => n - (intOf i).toNat)
    case atStart => exact ⟨0, by omega, rfl, rfl, 0, rfl⟩
    case round =>
      obtain ⟨k, hk, rfl, hpre, m, rfl⟩ := hrel
      have hP := hide hpre
      clear hpre
      by_cases hlt : k < n
      · obtain ⟨b, off, rfl, hb, hc⟩ := h.at_ (by omega)
        obtain ⟨b', off', rfl, hb', hc'⟩ := h'.at_ (by omega)
        have c1 := hc k hlt
        have c2 := hc' k hlt
        clear hc hc'
        by_cases hq : gi xs k = gi ys k
        · have hq1 : (gi xs k != gi ys k) = false := by simp [hq]
          have hQ := hide hq
          clear hq
          go_wp2
          go_quiet (fail)
          go_wp2
          go_roundw
          case rel => exact ⟨k + 1, by omega, by go_num, take_step (by rw [h.len]; exact hlt) (by rw [h'.len]; exact hlt) hP.out hQ.out, _, rfl⟩
          case measure => simp [intOf]; omega
        · have hq1 : (gi xs k != gi ys k) = true := by simp [hq]
          go_wp2
          go_quiet (fail)
          go_wp2
          go_ret
          exact Qt.d2 (bool_eq (ne_of_gi hq).symm)
      · go_wp2
        go_ret
        have : xs = ys := by
          have e := hP.out
          rwa [List.take_of_length_le (by rw [h.len]; omega), List.take_of_length_le (by rw [h'.len]; omega)] at e
        exact Qt.d1 (bool_eq (by simp [this]))
  · go_enter Try.func18, Try.ntmps18
    go_wp2
    go_ret
    exact Qt.mk' 0 rfl (bool_eq (by symm; rw [beq_eq_false_iff_ne]; rintro rfl; exact hne (h.len.symm.trans h'.len)))


theorem heldI_step {xs : List Int} {k : Nat} {q r : Int} (hx : k < xs.length) (h : heldI r xs = heldI q (xs.drop k)) (he : gi xs k = q) : heldI r xs = heldI (q + 1) (xs.drop (k + 1)) := by
  rw [h, drop_gi hx, heldI, if_pos he]
theorem heldI_stop {xs : List Int} {k : Nat} {q r : Int} (hx : k < xs.length) (h : heldI r xs = heldI q (xs.drop k)) (he : gi xs k ≠ q) : heldI r xs = -1 := by
  rw [h, drop_gi hx, heldI, if_neg he]

theorem heldInt64S_any (w : World) (B : Nat) (A : Option Addr) (n c : Nat) (q : Int) (xs : List Int) (h : Sl w B A n c xs) (hn : n ≤ 1048576) (hq0 : 0 ≤ q) (hq1 : q ≤ 1000000000) :
    Calls Try.prog 22 #[.slice A n c, .int .i64 q] w (Qt w (.int .i64 (heldI q xs))) := by
  go_enter Try.func22, Try.ntmps22
  go_wp2
  go_loop [1, 5] (fun q' i => ∃ k : Nat, k ≤ n ∧ i = .int .i64 k ∧ q' = .int .i64 (q + k) ∧ heldI q xs = heldI (q + k) (xs.drop k)) (fun _ i => n - (intOf i).toNat)
  case atStart => exact ⟨0, by omega, rfl, by simp, by simp⟩
  case round =>
    obtain ⟨k, hk, rfl, rfl, hpre⟩ := hrel
    have hP := hide hpre
    clear hpre
    by_cases hlt : k < n
    · obtain ⟨b, off, rfl, hb, hc⟩ := h.at_ (by omega)
      have c1 := hc k hlt
      clear hc
      by_cases hq : gi xs k = q + k
      · have hq1 : (gi xs k != q + k) = false := by simp [hq]
        have hQ := hide hq
        clear hq
        go_wp2
        go_round
        case rel => exact ⟨k + 1, by omega, by go_num, by go_num, by rw [heldI_step (by rw [h.len]; exact hlt) hP.out hQ.out]; congr 1; omega⟩
        case measure => simp [intOf]; omega
      · have hq1 : (gi xs k != q + k) = true := by simp [hq]
        have hr := heldI_stop (by rw [h.len]; exact hlt) hP.out hq
        have hR := hide hr
        clear hr hq
        go_wp2
        go_ret
        exact Qt.mk' 0 rfl (int_eq hR.out.symm)
    · go_wp2
      go_ret
      exact Qt.mk' 0 rfl (int_eq (by rw [hP.out, List.drop_of_length_le (by rw [h.len]; omega)]; rfl))

theorem toInt64S_any (w : World) (B : Nat) (A : Option Addr) (n c : Nat) (xs : List Int) (h : Sl w B A n c xs) (hB : B ≤ w.heap.size) (hn : n ≤ 1048576) :
    Calls Try.prog 16 #[.slice A n c] w (Mk w xs) := by
  obtain ⟨i0, hi0, hz0, hz1, hz2⟩ := info_parts int_info
  have hmk := fun W => run_make (P := Try.prog) (w := W) 22 2 i0 (.int .i64 0) Try.underlying22 hi0 hz0 .i64 .i64 n n (by omega) (by omega) (by rw [hz2]; omega) (by omega)
  simp only [hz1, Int.toNat_natCast, Nat.mul_one] at hmk
  go_enter Try.func16, Try.ntmps16
  go_wp2
  go_loopw [4] (fun i wr => ∃ (k : Nat) (cs : Array Value), k ≤ n ∧ i = .int .i64 k ∧ Filled cs n k xs ∧ w.alloc (.cells cs 2) = wr) (fun i _ => n - (intOf i).toNat)
  case atStart => exact ⟨0, _, by omega, rfl, ⟨size_madeCells _ _, fun j hj => absurd hj (by omega)⟩, rfl⟩
  case round =>
    obtain ⟨k, cs, hk, rfl, hF, rfl⟩ := hrel
    by_cases hlt : k < n
    · obtain ⟨b, off, rfl, hb, hc⟩ := h.at_ (by omega)
      have hbw : b < w.heap.size := by omega
      have c1 := hc k hlt
      obtain ⟨u, c2⟩ := hF.some_ hlt
      clear hc hmk
      go_wp2
      go_roundw
      case rel => exact ⟨k + 1, _, by omega, by go_num, hF.set_ hlt, rfl⟩
      case measure => simp [intOf]; omega
    · go_wp2
      go_ret
      obtain rfl : k = n := by omega
      obtain rfl := h.len
      exact ⟨_, rfl, Ow.made _ _ (hF.done rfl) (Nat.le_refl _) (by unfold maxLen; omega), (Below.refl _ _).alloc (Nat.le_refl _) _⟩

theorem markInt64S_any (w : World) (B : Nat) (v : Value) (q : Int) (xs : List Int) (h : Ow w B v xs) (hn : xs.length ≤ 1048576) (hq0 : 0 ≤ q) (hq1 : q ≤ 1000000000) :
    Calls Try.prog 21 #[v, .int .i64 q] w (Mrk w B v xs q) := by
  rcases h.form with ⟨rfl, rfl⟩ | ⟨g, cap, rfl, hg, hgl, hcap⟩
  · go_enter Try.func21, Try.ntmps21
    go_wp2
    refine wp_loop_rounds 1 ?_
    rw [rounds_succ]
    go_wp2
    go_ret
    exact ⟨by simp, h, World.grownBy.refl _ _⟩
  · obtain ⟨n, hl⟩ : ∃ n, n = xs.length := ⟨_, rfl⟩
    rw [← hl] at h hn hcap ⊢
    have hL := hide hl
    clear hl
    go_enter Try.func21, Try.ntmps21
    go_wp2
    go_loopw [1, 5] (fun q' i wr => ∃ k : Nat, k ≤ n ∧ i = .int .i64 k ∧ q' = .int .i64 (q + k) ∧ Ow wr B (.slice (some ⟨g, 0, none⟩) n cap) (marks q k ++ xs.drop k) ∧ w.grownBy wr (some g)) (fun _ i _ => n - (intOf i).toNat)
    case atStart => exact ⟨0, by omega, rfl, by simp, by simpa [marks] using h, World.grownBy.refl _ _⟩
    case round =>
      obtain ⟨k, hk, rfl, rfl, hO, hG⟩ := hrel
      have hlen : n = (marks q k ++ xs.drop k).length := by rw [List.length_append, marks_length, List.length_drop, ← hL.out]; omega
      by_cases hlt : k < n
      · have c1 := hO.cell hlen hlt
        have c2 := hO.frozen hlen k
        have hN := hide hlen
        clear hlen
        go_wp2
        go_roundw
        case rel =>
          refine ⟨k + 1, by omega, by go_num, by go_num, ?_, ?_⟩
          · rw [← mark_next (by rw [← hL.out]; exact hlt)]; exact hO.store hN.out k _
          · exact grownBy_setCell hG (.inl rfl) _
        case measure => simp [intOf]; omega
      · clear hlen
        go_wp2
        go_ret
        obtain rfl : k = n := by omega
        refine ⟨by rw [← hL.out]; rfl, ?_, hG⟩
        rw [List.drop_of_length_le (by rw [← hL.out]; omega), List.append_nil] at hO
        rw [← hL.out]; exact hO
end Go.Proofs.Ytneflhachjlmkaa
