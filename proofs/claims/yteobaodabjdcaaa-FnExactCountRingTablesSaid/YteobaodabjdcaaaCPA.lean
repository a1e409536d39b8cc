
/- The walks of eachTable, isList, the program's CountRingTables, and of the law. -/
import Derived.Test.YteobaodabjdcaaaCP9
import Derived.Test.YteobaodabjdcaaaCG5
namespace Go.Proofs.Yteobaodabjdcaaa
open Go Go.RowKit
set_option linter.unusedSimpArgs false
set_option linter.unusedVariables false
set_option maxRecDepth 100000
theorem sl_blk3 {w : World} {g n : Nat} {T : TypeId} {a b c : Int} (hb : Blk w g T #[.int .i64 a, .int .i64 b, .int .i64 c]) (hn : n ≤ 3) (hr : ∀ x ∈ [a, b, c], i64ok x) : Sl w w.heap.size (some ⟨g, 0, none⟩) n 3 ([a, b, c].take n) := by
  refine ⟨by simp; omega, hn, fun x hx => hr x (List.mem_of_mem_take hx), fun h0 => ⟨g, 0, rfl, hb.lt, fun k hk => ?_⟩, fun h => by cases h⟩
  rw [Nat.zero_add]
  have h3 : k = 0 ∨ k = 1 ∨ k = 2 := by omega
  have hg : gi ([a, b, c].take n) k = gi [a, b, c] k := by
    unfold gi; rw [List.getD_eq_getElem?_getD, List.getD_eq_getElem?_getD, List.getElem?_take, if_pos hk]
  rw [hg]
  rcases h3 with rfl | rfl | rfl
  · exact hb.cell 0
  · exact hb.cell 1
  · exact hb.cell 2
def osI (n : Nat) : List (List T3) := if n = 1 then [] else if n = 2 then [[(1, 1, 1)]] else trI
theorem du3_own {n : Nat} (h1 : 1 ≤ n) (h3 : n ≤ 3) : Du3 n dI (osI n) := by
  have h : n = 1 ∨ n = 2 ∨ n = 3 := by omega
  rcases h with rfl | rfl | rfl
  · exact du3_1
  · exact du3_2
  · exact du3_I
set_option maxHeartbeats 4000000 in
theorem eachTable_any (w : World) (n m X cnt : Nat) (h1 : 1 ≤ n) (h3 : n ≤ 3) (hm : m ≤ 4) (hX : Blk w X 2 #[.int .i64 cnt]) (hc : cnt = 0) :
    Calls Try.prog 9 #[.int .i64 n, .int .i64 m, .func (.func 10) #[] #[.pointer (some ⟨X, 0, none⟩)]] w (fun e w' => e = .returned (.tuple #[]) ∧ Blk w' X 2 #[.int .i64 (ringsC n m)] ∧ Wr w w' (fun b => b = X)) := by
  have hXl := hX.lt
  have hb1 : Below w.heap.size w (w.alloc (.cells #[.int .i64 0, .int .i64 1, .int .i64 2] 3)) := (by repeat (first | assumption | exact Below.refl _ _ | apply below_drewN | apply Below.drew | apply Below.alloc | apply Below.setCell | omega | (focus (simp; done)) | (focus (simp; omega))))
  have b1 : Blk (w.alloc (.cells #[.int .i64 0, .int .i64 1, .int .i64 2] 3)) w.heap.size 3 #[.int .i64 0, .int .i64 1, .int .i64 2] := Blk.new _ _ _
  obtain ⟨W1, hW1⟩ : ∃ W, w.alloc (.cells #[.int .i64 0, .int .i64 1, .int .i64 2] 3) = W := ⟨_, rfl⟩
  rw [hW1] at hb1 b1
  have hp5 : ∀ k : Nat, k ≤ 4 → (m + 1) ^ k ≤ 5 ^ 4 := fun k hk => Nat.le_trans (Nat.pow_le_pow_left (by omega) _) (Nat.pow_le_pow_right (by omega) hk)
  have hoI : (osI n).length ≤ 4 := by unfold osI; split; simp; split; simp; decide
  have hA := hide (ringsWith_any W1 W1.heap.size (some ⟨w.heap.size, 0, none⟩) n 3 m X cnt ([0, 1, 2].take n) dI (osI n) (sl_blk3 b1 h3 (by unfold i64ok; decide)) (Nat.le_refl _) h1 h3 hm (fun i hi => by
    have h : n = 1 ∨ n = 2 ∨ n = 3 := by omega
    rcases h with rfl | rfl | rfl
    · obtain rfl : i = 0 := by omega
      rfl
    · have h : i = 0 ∨ i = 1 := by omega
      rcases h with rfl | rfl <;> rfl
    · have h : i = 0 ∨ i = 1 ∨ i = 2 := by omega
      rcases h with rfl | rfl | rfl <;> rfl) (du3_own h1 h3) (hX.all hb1) (by have := hp5 _ hoI; omega))
  have hF := hide (fillC_le n m (osI n) (baseT dI))
  obtain ⟨cI, hcI⟩ : ∃ c, fillC n m (osI n) (baseT dI) = c := ⟨_, rfl⟩
  have HCI := hide hcI
  rw [hcI] at hA hF
  clear hcI
  have hcI2 : cI ≤ 5 ^ 4 := Nat.le_trans hF.out (hp5 _ hoI)
  subst hc
  rw [Nat.zero_add] at hA
  go_enter Try.func9, Try.ntmps9
  go_wp2_with fail
  clear hW1
  refine hA.out.mono ?_
  rintro e w2 ⟨rfl, hX2, hW2⟩
  by_cases hn3 : n = 3
  · subst hn3
    have hb2 : Below w2.heap.size w2 (w2.alloc (.cells #[.int .i64 0, .int .i64 2, .int .i64 1] 3)) := (by repeat (first | assumption | exact Below.refl _ _ | apply below_drewN | apply Below.drew | apply Below.alloc | apply Below.setCell | omega | (focus (simp; done)) | (focus (simp; omega))))
    have b2 : Blk (w2.alloc (.cells #[.int .i64 0, .int .i64 2, .int .i64 1] 3)) w2.heap.size 3 #[.int .i64 0, .int .i64 2, .int .i64 1] := Blk.new _ _ _
    obtain ⟨W3, hW3⟩ : ∃ W, w2.alloc (.cells #[.int .i64 0, .int .i64 2, .int .i64 1] 3) = W := ⟨_, rfl⟩
    rw [hW3] at hb2 b2
    have hB := hide (ringsWith_any W3 W3.heap.size (some ⟨w2.heap.size, 0, none⟩) 3 3 m X cI ([0, 2, 1].take 3) dS trS (sl_blk3 b2 (by omega) (by unfold i64ok; decide)) (Nat.le_refl _) (by omega) (by omega) hm (fun i hi => by
      have h : i = 0 ∨ i = 1 ∨ i = 2 := by omega
      rcases h with rfl | rfl | rfl <;> rfl) du3_S (hX2.all hb2) (by have := hp5 trS.length (by decide); omega))
    go_wp2_with fail
    clear hW3
    refine hB.out.mono ?_
    rintro e w4 ⟨rfl, hX4, hW4⟩
    have hr : cI + fillC 3 m trS (baseT dS) = ringsC 3 m := by rw [← HCI.out]; rfl
    rw [hr] at hX4
    have hWz : Wr w w4 (fun b => b = X) := (((Wr.of_below hb1).trans hW2).trans (Wr.of_below hb2)).trans hW4
    go_wp2_with fail
    refine bodyPost_end (v := .tuple #[]) (by simp [results, Try.results9, go_sem]) rfl ?_
    exact ⟨rfl, hX4, hWz⟩
  · have hne : ((n : Int) == 3) = false := by rw [beq_eq_false_iff_ne]; omega
    have hr : cI = ringsC n m := by
      rw [← HCI.out]
      have h : n = 1 ∨ n = 2 := by omega
      rcases h with rfl | rfl <;> rfl
    rw [hr] at hX2
    have hWz : Wr w w2 (fun b => b = X) := (Wr.of_below hb1).trans hW2
    go_wp2_with fail
    refine bodyPost_end (v := .tuple #[]) (by simp [results, Try.results9, go_sem]) rfl ?_
    exact ⟨rfl, hX2, hWz⟩
theorem isList_any (w : World) (n m : Int) : Calls Try.prog 8 #[.int .i64 n, .int .i64 m] w (Qt w (.bool (crtB n m))) := by
  obtain ⟨x1, h1⟩ : ∃ x, inB n 1 3 = x := ⟨_, rfl⟩
  obtain ⟨x2, h2⟩ : ∃ x, inB m 0 4 = x := ⟨_, rfl⟩
  have i1 := hide (fun W => within_v x1 n 1 3 W h1)
  have i2 := hide (fun W => within_v x2 m 0 4 W h2)
  have hc := hide (show crtB n m = (x1 && x2) by unfold crtB; rw [h1, h2])
  clear h1 h2
  go_enter Try.func8, Try.ntmps8
  go_wp2_with fail
  refine (i1.out _).mono ?_
  rintro e w1 ⟨rfl, d1, rfl⟩
  cases x1 with
  | false =>
    go_wp2_with fail
    go_ret
    exact Qt.mk' _ rfl (by rw [hc.out]; rfl)
  | true =>
    go_wp2_with fail
    refine (i2.out _).mono ?_
    rintro e w2 ⟨rfl, d2, rfl⟩
    go_wp2_with fail
    go_ret
    exact Qt.mk' _ rfl (by rw [hc.out]; simp)
theorem implCount_any (w : World) (n m : Int) : Calls Try.prog 5 #[.int .i64 n, .int .i64 m] w (R2 w (crtN n m) (crtC n m)) := by
  have hL := hide (isList_any w n m)
  obtain ⟨b, hb⟩ : ∃ b, crtB n m = b := ⟨_, rfl⟩
  rw [hb] at hL
  cases b with
  | false =>
    have hN := hide (show crtN n m = 0 by unfold crtN; rw [if_neg (by rw [hb]; decide)])
    have hC := hide (show crtC n m = 2 by unfold crtC; rw [if_neg (by rw [hb]; decide)])
    clear hb
    go_enter Try.func5, Try.ntmps5
    go_wp2_with fail
    refine hL.out.mono ?_
    rintro e w1 ⟨rfl, d1, rfl⟩
    go_wp2_with fail
    refine bodyPost_ret (v := .tuple #[.int .i64 0, .int .i64 2]) (by simp [results, Try.results5, go_sem]) rfl ?_
    exact ⟨by rw [hN.out, hC.out], below_drewN (Below.refl w.heap.size w) _⟩
  | true =>
    have h2 : inB n 1 3 = true ∧ inB m 0 4 = true := by simpa [crtB] using hb
    have h3 : (1 ≤ n ∧ n ≤ 3) ∧ (0 ≤ m ∧ m ≤ 4) := by simpa [inB] using h2
    obtain ⟨k, rfl⟩ : ∃ k : Nat, n = k := ⟨n.toNat, by omega⟩
    obtain ⟨j, rfl⟩ : ∃ k : Nat, m = k := ⟨m.toNat, by omega⟩
    have hN := hide (show crtN k j = ringsC k j by unfold crtN; rw [if_pos hb]; rfl)
    have hC := hide (show crtC k j = 0 by unfold crtC; rw [if_pos hb])
    have hk : 1 ≤ k ∧ k ≤ 3 ∧ j ≤ 4 := by omega
    clear hb h2 h3
    go_enter Try.func5, Try.ntmps5
    go_wp2_with fail
    refine hL.out.mono ?_
    rintro e w1 ⟨rfl, d1, rfl⟩
    obtain ⟨W1, hW1⟩ : ∃ W, w.drewN d1 = W := ⟨_, rfl⟩
    have hB1 : Below w.heap.size w W1 := by rw [← hW1]; exact below_drewN (Below.refl _ _) _
    have hz1 := hB1.size
    rw [hW1]
    clear hW1
    have bX : Blk (W1.alloc (.cells #[.int .i64 0] 2)) W1.heap.size 2 #[.int .i64 (0 : Nat)] := Blk.new _ _ _
    have hbX : Below W1.heap.size W1 (W1.alloc (.cells #[.int .i64 0] 2)) := (by repeat (first | assumption | exact Below.refl _ _ | apply below_drewN | apply Below.drew | apply Below.alloc | apply Below.setCell | omega | (focus (simp; done)) | (focus (simp; omega))))
    go_upto_region 4 with fail
    obtain ⟨W2, hW2⟩ : ∃ W, W1.alloc (.cells #[.int .i64 0] 2) = W := ⟨_, rfl⟩
    rw [hW2] at bX hbX ⊢
    have hT := hide (eachTable_any W2 k j W1.heap.size 0 hk.1 hk.2.1 hk.2.2 bX rfl)
    clear hW2 hk
    go_wp2_with fail
    refine hT.out.mono ?_
    rintro e w3 ⟨rfl, bX3, hW3⟩
    have q0 := bX3.cell 0
    have hBz : Below w.heap.size w w3 := (hB1.trans (hbX.mono hz1)).trans (hW3.below (fun b hb => by omega) (by have := hbX.size; omega))
    go_wp2_with fail
    refine bodyPost_ret (v := .tuple #[.int .i64 (ringsC k j), .int .i64 0]) (by simp [results, Try.results5, go_sem]) rfl ?_
    exact ⟨by rw [hN.out, hC.out], hBz⟩
theorem law_CountRingTables (n : Int) (hn : (Lit.int .i64 n).wf = true) (m : Int) (hm : (Lit.int .i64 m).wf = true) (w : World) : Calls Try.prog 3 #[.int .i64 n, .int .i64 m] w (Re w (.bool true)) := by
  have h1 := hide (specCount_any w n m)
  have h2 := hide (fun W => implCount_any W n m)
  clear hn hm
  go_enter Try.func3, Try.ntmps3
  go_wp2_with fail
  refine h1.out.mono ?_
  rintro e w1 ⟨rfl, hb1⟩
  go_wp2_with fail
  refine (h2.out _).mono ?_
  rintro e w2 ⟨rfl, hb2⟩
  have hbz := hb1.trans (hb2.mono hb1.size)
  go_wp2_with fail
  go_ret
  exact ⟨rfl, hbz⟩
end Go.Proofs.Yteobaodabjdcaaa
