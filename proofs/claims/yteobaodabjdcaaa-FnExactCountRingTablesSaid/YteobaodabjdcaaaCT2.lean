
/- The walk of l07Fits. -/
import Derived.Test.YteobaodabjdcaaaRS2
import Derived.Test.YteobaodabjdcaaaCT1
namespace Go.Proofs.Yteobaodabjdcaaa
open Go Go.RowKit
set_option linter.unusedSimpArgs false
set_option linter.unusedVariables false
theorem t3_cbA {n : Nat} {f : F3} {i j k : Nat} (hi : i < n) (hj : j < n) (hk : k < n) : t3 (cub n f) i j k = f i j k := by
  simp [t3, cub, mat, gi, hi, hj, hk]
set_option maxHeartbeats 2000000 in
theorem l07Fits_any (w : World) (n c b off : Nat) (b1 o1 c1 : Nat → Nat) (b2 o2 c2 : Nat → Nat → Nat) (f : F3) (i j k : Nat) (hV : View w w.heap.size n b off b1 o1 c1 b2 o2 c2 (t3 (cub n f))) (hn16 : n ≤ 16) (hc : n ≤ c) (hi : i < n) (hj : j < n) (hk : k < n) (hd : 0 ≤ du (cub n f) i) :
    Calls Try.prog 20 #[.slice (some ⟨b, off, none⟩) n c, .int .i64 i, .int .i64 j, .int .i64 k] w (Re w (.bool (fitB n f i j k))) := by
  obtain ⟨a, ha⟩ : ∃ a : Nat, du (cub n f) i = a := ⟨_, (Int.toNat_of_nonneg hd).symm⟩
  have hlen : (cub n f).length = n := by simp [cub]
  have han : a < n := by have := du_lt hd; rw [hlen, ha] at this; omega
  have HD := hide (fun W h => l03Dual_any W w.heap.size n c b off b1 o1 c1 b2 o2 c2 (cub n f) i h hlen hn16 hi hc)
  rw [ha] at HD
  obtain ⟨x, hx⟩ : ∃ x, f i j k = x := ⟨_, rfl⟩
  obtain ⟨y, hy⟩ : ∃ y, f a k j = y := ⟨_, rfl⟩
  have HF : Hid (fitB n f i j k = (decide ((i : Int) < a) || (decide ((a : Int) = i) && decide (j < k)) || decide (x = y))) := hide (by
    unfold fitB
    rw [ha, Int.toNat_natCast, hx, hy])
  have HX := hide ((t3_cbA hi hj hk).trans hx)
  have HY := hide ((t3_cbA han hk hj).trans hy)
  clear hd ha hlen hx hy
  go_enter Try.func20, Try.ntmps20
  go_wp2_with fail
  refine (HD.out _ hV).mono ?_
  rintro e w1 ⟨rfl, m, rfl⟩
  have hbw : Below w.heap.size w (w.drewN m) := below_drewN (Below.refl _ _) m
  have V0 := hV.le hbw
  have hsz := hbw.size
  obtain ⟨W, hW⟩ : ∃ W, w.drewN m = W := ⟨_, rfl⟩
  rw [hW] at V0 hbw hsz ⊢
  clear hW HD hV
  have hxy : (x == y) = decide (x = y) := by by_cases h : x = y <;> simp [h]
  by_cases h1 : (i : Int) < a
  · go_wp2_with fail
    go_ret
    exact ⟨by rw [HF.out, decide_eq_true h1]; rfl, hbw⟩
  · by_cases h2 : (a : Int) = i
    · by_cases h3 : j < k
      · have h3' : (j : Int) < k := by omega
        go_wp2_with fail
        go_ret
        exact ⟨by rw [HF.out, decide_eq_true h2, decide_eq_true h3]; simp, hbw⟩
      · have h3' : ¬ (j : Int) < k := by omega
        have HF2 := hide (show fitB n f i j k = decide (x = y) by rw [HF.out, decide_eq_false h1, decide_eq_false h3]; simp)
        have hai : i = a := by omega
        subst hai
        clear h2 h1
        go_wp2_with fail
        refine wp_region_be [0, 1, 2, 3, 4, 5, 6, 7, 8, 9, 10, 11, 12, 13, 14, 15, 16, 17, 18, 19, 20, 21] 21 w.heap.size W (by kernel_rfl) (by kernel_rfl) (by kernel_rfl) (fun _ _ _ _ _ h => h) (Below.refl _ _) (fun wd hBe => ?_)
        repeat (first | (apply ord_tk rfl (by rfl) (by rfl) (by rfl); (focus (intro wx hSw; have V := V0.le hSw; have r1 := (V.h1 i hi).1; have r2 := (V.h1 i hi).1; have r3 := (V.h2 i j hi hj).1; have r4 := (V.h2 i k hi hk).1; have r5 := V.h3 i j k hi hj hk; have r6 := V.h3 i k j hi hk hj; rw [HX.out] at r5; rw [HY.out] at r6; go_simp; (try with_reducible rfl))); (try simp only [Act.put, List.setIfInBounds_toArray, List.set_cons_zero, List.set_cons_succ])) | (apply ord_skip rfl (by rfl) (by rfl) (fun _ => hBe); (try simp only [Act.put, List.setIfInBounds_toArray, List.set_cons_zero, List.set_cons_succ])))
        refine ord_do rfl (by rfl) (by rfl) (fun K hK => ?_)
        go_simp
        refine hK.out _ _ (fun h => absurd h (by omega)) ?_
        (try simp only [Act.put, List.setIfInBounds_toArray, List.set_cons_zero, List.set_cons_succ])
        clear hK K
        refine ord_nil ?_
        go_wp2_with fail
        go_ret
        exact ⟨by rw [HF2.out, ← hxy]; rfl, hbw.trans hBe⟩
    · have HF2 := hide (show fitB n f i j k = decide (x = y) by rw [HF.out, decide_eq_false h1, decide_eq_false h2]; simp)
      go_wp2_with fail
      refine wp_region_be [0, 1, 2, 3, 4, 5, 6, 7, 8, 9, 10, 11, 12, 13, 14, 15, 16, 17, 18, 19, 20, 21] 21 w.heap.size W (by kernel_rfl) (by kernel_rfl) (by kernel_rfl) (fun _ _ _ _ _ h => h) (Below.refl _ _) (fun wd hBe => ?_)
      repeat (first | (apply ord_tk rfl (by rfl) (by rfl) (by rfl); (focus (intro wx hSw; have V := V0.le hSw; have r1 := (V.h1 i hi).1; have r2 := (V.h1 a han).1; have r3 := (V.h2 i j hi hj).1; have r4 := (V.h2 a k han hk).1; have r5 := V.h3 i j k hi hj hk; have r6 := V.h3 a k j han hk hj; rw [HX.out] at r5; rw [HY.out] at r6; go_simp; (try with_reducible rfl))); (try simp only [Act.put, List.setIfInBounds_toArray, List.set_cons_zero, List.set_cons_succ])) | (apply ord_skip rfl (by rfl) (by rfl) (fun _ => hBe); (try simp only [Act.put, List.setIfInBounds_toArray, List.set_cons_zero, List.set_cons_succ])))
      refine ord_do rfl (by rfl) (by rfl) (fun K hK => ?_)
      go_simp
      refine hK.out _ _ (fun h => absurd h (by omega)) ?_
      (try simp only [Act.put, List.setIfInBounds_toArray, List.set_cons_zero, List.set_cons_succ])
      clear hK K
      refine ord_nil ?_
      go_wp2_with fail
      go_ret
      exact ⟨by rw [HF2.out, ← hxy]; rfl, hbw.trans hBe⟩
end Go.Proofs.Yteobaodabjdcaaa
