
/- The walks of l01Own2 and l03Own: copies of rows and of cubes. -/
import Derived.Test.YteobaodabjdcaaaCB1
import Derived.Test.YteobaodabjdcaaaC2
import Derived.Test.YteobaodabjdcaaaCT3
import Derived.WalkLawsBesides
namespace Go.Proofs.Yteobaodabjdcaaa
open Go Go.RowKit
set_option linter.unusedSimpArgs false
set_option linter.unusedVariables false
set_option maxRecDepth 100000
/-- A list of the call's own is a row. -/
theorem E1.of_owr {w : World} {B : Nat} {v : Value} {xs : List Int} (h : Ow w B v xs) (hr : ∀ x ∈ xs, i64ok x) : E1 w v xs (fun b => B ≤ b ∧ b < w.heap.size) := ⟨h.less (Nat.zero_le _), hr, fun b hb => h.lt b hb, fun b hb => hb.2⟩
set_option maxHeartbeats 2000000 in
theorem l01Own2_any (w : World) (B : Nat) (A : Option Addr) (n c : Nat) (xss : List (List Int)) (h : Sl2 w B A n c xss) (hB : B ≤ w.heap.size) (hn : n ≤ 64) (hr : ∀ r ∈ xss, r.length ≤ 64) :
    Calls Try.prog 28 #[.slice A n c] w (MkG E1 35 w xss) := by
  have hlen : xss.length = n := h.len
  go_enter Try.func28, Try.ntmps28
  go_wp2_with fail
  have hG0 : Grow E1 35 w.heap.size (w.alloc (.cells #[] 35)) (.slice (some ⟨w.heap.size, 0, none⟩) 0 0) (xss.take 0) := Grow.start rfl (Nat.le_refl _)
  go_loopw [3, 4] (fun o i wr => ∃ (k : Nat) (vv : Value), k ≤ n ∧ i = .int .i64 k ∧ vv = o ∧ Grow E1 35 w.heap.size wr vv (xss.take k) ∧ Below w.heap.size w wr) (fun _ i _ => n - (intOf i).toNat)
  case atStart => exact ⟨0, _, by omega, rfl, rfl, hG0, (Below.refl _ _).alloc (Nat.le_refl _) _⟩
  case round =>
    clear hG0
    obtain ⟨k, vv, hk, rfl, rfl, hG, hBe⟩ := hrel
    by_cases hlt : k < n
    · obtain ⟨b, off, rfl, hb, hc⟩ := h.at_ (by omega)
      have hk1 : xss[k]? = some (xss.getD k []) := by
        rw [List.getD_eq_getElem?_getD, List.getElem?_eq_getElem (by omega)]
        rfl
      obtain ⟨r, hrr⟩ : ∃ r, xss.getD k [] = r := ⟨_, rfl⟩
      rw [hrr] at hk1
      obtain ⟨u, hu, A1, n1, c1, rfl, hs⟩ := hc k r hk1
      have hu' := (hBe.cell (p := ⟨b, off + k, none⟩) (by show b < _; omega)).trans hu
      have hs' := hs.below (hBe.mono (by omega))
      have hn1 : n1 ≤ 64 := by rw [← hs.len]; exact hr r (List.mem_of_getElem? hk1)
      have hcap := h.cap
      have HK := hide hk1
      clear hk1 hrr hc hu
      go_wp2_with fail
      refine (l01Own_any wr B A1 n1 c1 r hs' (by have := hBe.size; omega) (by omega)).mono ?_
      rintro e w2 ⟨v2, rfl, o2, hb2⟩
      obtain ⟨A2, n2, c2, rfl⟩ : ∃ A n c, v2 = Value.slice A n c := by rcases o2.form with ⟨rfl, _⟩ | ⟨g, cap, rfl, _⟩ <;> exact ⟨_, _, _, rfl⟩
      have hE := E1.of_owr o2 hs.rng
      have hbw : Below wr.heap.size wr (w2.alloc (.cells #[.slice A2 n2 c2] 35)) := hb2.alloc hb2.size _
      have hE2 := E1.below hE ((Below.refl _ _).alloc (Nat.le_refl _) (.cells #[.slice A2 n2 c2] 35))
      have hsz := hBe.size
      have hl : (xss.take k).length = k := by rw [List.length_take]; omega
      have HL := hide hl
      clear hl hs' hu' hE
      go_wp2_with (at_builtin; go_loud (refine list_pushG kp1 33 35 _ 24 Try.underlying33 rows_info (by omega) rfl _ rfl _ _ rfl w.heap.size vv _ rfl wr hG hbw (.slice A2 n2 c2) _ _ hE2 (fun b hb => ⟨hb.1, by simp; have := hb.2; omega⟩) rfl w2.heap.size _ rfl (Blk.new _ _ _) (by rw [HL.out]; omega) hsz (by simp) ?_); intro g cap w4 hG4 hB4 hW4 hg4 hg5)
      rw [HL.out] at hG4
      have hbx := (hBe.trans (hbw.mono hsz)).trans hB4
      go_roundw
      case rel => exact ⟨k + 1, _, by omega, by go_num, rfl, by rw [List.take_add_one, HK.out]; exact hG4, hbx⟩
      case measure => simp [intOf] <;> omega
    · obtain rfl : k = n := by omega
      have ht : xss.take k = xss := List.take_of_length_le (by omega)
      rw [ht] at hG
      clear ht
      go_wp2_with fail
      go_ret
      exact ⟨vv, rfl, hG, hBe⟩
end Go.Proofs.Yteobaodabjdcaaa
