
/- The walks of SumOfMetrics of both sides, the other cases. -/
import Derived.Test.YtlekbkjkkoefnaaDoorX3
import Derived.WalkLawsBesides
namespace Go.Proofs.YtlekbkjkkoefnaaDoor
open Go Go.RowKit Grp
set_option linter.unusedSimpArgs false
set_option linter.unusedVariables false

noncomputable def noC (os1 : List Int) (D1 : Int) (vs1 os2 : List Int) (D2 : Int) (vs2 : List Int) : Int := if (isM os1 D1 vs1 && isM os2 D2 vs2) = true then 3 else 1
set_option maxHeartbeats 8000000 in
theorem impl_Sum_no (w : World) (A1 : Option Addr) (n1 c1 : Nat) (os1 : List Int) (D1 : Int) (B1 : Option Addr) (m1 k1 : Nat) (vs1 : List Int) (A2 : Option Addr) (n2 c2 : Nat) (os2 : List Int) (D2 : Int) (B2 : Option Addr) (m2 k2 : Nat) (vs2 : List Int)
    (h1 : Sl w w.heap.size A1 n1 c1 os1) (g1 : Sl w w.heap.size B1 m1 k1 vs1) (h2 : Sl w w.heap.size A2 n2 c2 os2) (g2 : Sl w w.heap.size B2 m2 k2 vs2) (hn1 : n1 ≤ 1048576) (hm1 : m1 ≤ 1048576) (hn2 : n2 ≤ 1048576) (hm2 : m2 ≤ 1048576)
    (hno : ¬ (IsM os1 D1 vs1 ∧ IsM os2 D2 vs2 ∧ prodL os1 * prodL os2 ≤ 16 ∧ os1.length + os2.length ≤ 4)) :
    Calls Tryd.prog 50 #[.agg #[.slice A1 n1 c1, .int .i64 D1, .slice B1 m1 k1], .agg #[.slice A2 n2 c2, .int .i64 D2, .slice B2 m2 k2]] w (NoM w (noC os1 D1 vs1 os2 D2 vs2)) := by
  obtain rfl := h1.len
  obtain rfl := g1.len
  obtain rfl := h2.len
  obtain rfl := g2.len
  cases i1 : isM os1 D1 vs1 with
  | false =>
    have hC := hide (show noC os1 D1 vs1 os2 D2 vs2 = 1 by unfold noC; rw [i1]; rfl)
    go_enter Tryd.func50, Tryd.ntmps50
    go_wp2_with fail
    obtain ⟨W, hW⟩ : ∃ W, ((w.alloc (.cells #[.slice A1 os1.length c1, .int .i64 D1, .slice B1 vs1.length k1] 28)).alloc (.cells #[.slice A2 os2.length c2, .int .i64 D2, .slice B2 vs2.length k2] 28)).alloc (.cells #[.slice none 0 0, .int .i64 0, .slice none 0 0] 28) = W := ⟨_, rfl⟩
    have hbW : Below w.heap.size w W := by rw [← hW]; exact (by repeat (first | assumption | exact Below.refl _ _ | apply below_drewN | apply Below.drew | apply Below.alloc | apply Below.setCell | omega | (focus (simp; done)) | (focus (simp; omega))))
    have hsW := hide (show W.heap.size = w.heap.size + 3 by rw [← hW]; simp)
    have hszW : w.heap.size < W.heap.size := by rw [hsW.out]; omega
    have hszW1 : w.heap.size + 1 < W.heap.size := by rw [hsW.out]; omega
    have hszW2 : w.heap.size + 1 + 1 < W.heap.size := by rw [hsW.out]; omega
    have bM : Blk W w.heap.size 28 #[.slice A1 os1.length c1, .int .i64 D1, .slice B1 vs1.length k1] := by rw [← hW]; exact ((Blk.new _ _ _).alloc _).alloc _
    have bN : Blk W (w.heap.size + 1) 28 #[.slice A2 os2.length c2, .int .i64 D2, .slice B2 vs2.length k2] := by rw [← hW]; exact (Blk.new' _ _ _ _ (by simp)).alloc _
    have bR : Blk W (w.heap.size + 1 + 1) 28 #[.slice none 0 0, .int .i64 0, .slice none 0 0] := by rw [← hW]; exact Blk.new' _ _ _ _ (by simp)
    have q0 := bM.cell 0
    have q1 := bM.cell 1
    have q2 := bM.cell 2
    have p0 := bN.cell 0
    have p1 := bN.cell 1
    have p2 := bN.cell 2
    rw [hW]
    clear hW
    have hs1 := h1.below hbW
    have hg1 := g1.below hbW
    have hs2 := h2.below hbW
    have hg2 := g2.below hbW
    go_wp2_with fail
    refine (implIs_v false _ _ _ _ _ _ _ _ _ _ (hs1.more (Nat.le_of_lt hszW)) (hg1.more (Nat.le_of_lt hszW)) hn1 hm1 i1).mono ?_
    rintro e w2 ⟨rfl, hb2⟩
    replace hb2 : Below W.heap.size W w2 := hb2
    have hsW' := hsW.out
    have hres := bR.all hb2
    have r0 := hres.cell 0
    have r1 := hres.cell 1
    have r2 := hres.cell 2
    have f0 := hres.frozen 0
    have f1 := hres.frozen 1
    have f2 := hres.frozen 2
    go_wp2
    have hb3 := put3_blk (x := .slice none 0 0) (y := .int .i64 0) (z := .slice none 0 0) hres
    have q0 := hb3.cell 0
    have q1 := hb3.cell 1
    have q2 := hb3.cell 2
    unfold put3 at q0 q1 q2
    refine bodyPost_ret (v := .tuple #[.agg #[.slice none 0 0, .int .i64 0, .slice none 0 0], .int .i64 1]) (by simp [results, Tryd.results50, go_sem, q0, q1, q2]) rfl ?_
    exact ⟨by rw [hC.out], put3_below (hbW.trans (hb2.mono (Nat.le_of_lt hszW))) (by omega)⟩
  | true =>
    cases i2 : isM os2 D2 vs2 with
    | false =>
      have hC := hide (show noC os1 D1 vs1 os2 D2 vs2 = 1 by unfold noC; rw [i1, i2]; rfl)
      go_enter Tryd.func50, Tryd.ntmps50
      go_wp2_with fail
      obtain ⟨W, hW⟩ : ∃ W, ((w.alloc (.cells #[.slice A1 os1.length c1, .int .i64 D1, .slice B1 vs1.length k1] 28)).alloc (.cells #[.slice A2 os2.length c2, .int .i64 D2, .slice B2 vs2.length k2] 28)).alloc (.cells #[.slice none 0 0, .int .i64 0, .slice none 0 0] 28) = W := ⟨_, rfl⟩
      have hbW : Below w.heap.size w W := by rw [← hW]; exact (by repeat (first | assumption | exact Below.refl _ _ | apply below_drewN | apply Below.drew | apply Below.alloc | apply Below.setCell | omega | (focus (simp; done)) | (focus (simp; omega))))
      have hsW := hide (show W.heap.size = w.heap.size + 3 by rw [← hW]; simp)
      have hszW : w.heap.size < W.heap.size := by rw [hsW.out]; omega
      have hszW1 : w.heap.size + 1 < W.heap.size := by rw [hsW.out]; omega
      have hszW2 : w.heap.size + 1 + 1 < W.heap.size := by rw [hsW.out]; omega
      have bM : Blk W w.heap.size 28 #[.slice A1 os1.length c1, .int .i64 D1, .slice B1 vs1.length k1] := by rw [← hW]; exact ((Blk.new _ _ _).alloc _).alloc _
      have bN : Blk W (w.heap.size + 1) 28 #[.slice A2 os2.length c2, .int .i64 D2, .slice B2 vs2.length k2] := by rw [← hW]; exact (Blk.new' _ _ _ _ (by simp)).alloc _
      have bR : Blk W (w.heap.size + 1 + 1) 28 #[.slice none 0 0, .int .i64 0, .slice none 0 0] := by rw [← hW]; exact Blk.new' _ _ _ _ (by simp)
      have q0 := bM.cell 0
      have q1 := bM.cell 1
      have q2 := bM.cell 2
      have p0 := bN.cell 0
      have p1 := bN.cell 1
      have p2 := bN.cell 2
      rw [hW]
      clear hW
      have hs1 := h1.below hbW
      have hg1 := g1.below hbW
      have hs2 := h2.below hbW
      have hg2 := g2.below hbW
      go_wp2_with fail
      refine (implIs_v true _ _ _ _ _ _ _ _ _ _ (hs1.more (Nat.le_of_lt hszW)) (hg1.more (Nat.le_of_lt hszW)) hn1 hm1 i1).mono ?_
      rintro e w2 ⟨rfl, hb2⟩
      replace hb2 : Below W.heap.size W w2 := hb2
      have r3 := (hb2.cell (p := ⟨w.heap.size + 1, 0, none⟩) hszW1).trans p0
      have r4 := (hb2.cell (p := ⟨w.heap.size + 1, 1, none⟩) hszW1).trans p1
      have r5 := (hb2.cell (p := ⟨w.heap.size + 1, 2, none⟩) hszW1).trans p2
      go_wp2_with fail
      clear r3 r4 r5
      refine (implIs_v false _ _ _ _ _ _ _ _ _ _ ((hs2.below (hb2.mono (Nat.le_of_lt hszW))).more (by have := hb2.size; omega)) ((hg2.below (hb2.mono (Nat.le_of_lt hszW))).more (by have := hb2.size; omega)) hn2 hm2 i2).mono ?_
      rintro e w3 ⟨rfl, hb3⟩
      have k3 := hb2.trans (hb3.mono hb2.size)
      have hsW' := hsW.out
      clear hb2 hb3
      have hres := bR.all k3
      have r0 := hres.cell 0
      have r1 := hres.cell 1
      have r2 := hres.cell 2
      have f0 := hres.frozen 0
      have f1 := hres.frozen 1
      have f2 := hres.frozen 2
      go_wp2
      have hb3 := put3_blk (x := .slice none 0 0) (y := .int .i64 0) (z := .slice none 0 0) hres
      have q0 := hb3.cell 0
      have q1 := hb3.cell 1
      have q2 := hb3.cell 2
      unfold put3 at q0 q1 q2
      refine bodyPost_ret (v := .tuple #[.agg #[.slice none 0 0, .int .i64 0, .slice none 0 0], .int .i64 1]) (by simp [results, Tryd.results50, go_sem, q0, q1, q2]) rfl ?_
      exact ⟨by rw [hC.out], put3_below (hbW.trans (k3.mono (Nat.le_of_lt hszW))) (by omega)⟩
    | true =>
      have hM1 := isM_iff.1 i1
      have hM2 := isM_iff.1 i2
      have hG1 := hM1.ok.g
      have hG2 := hM2.ok.g
      have hp1 := hG1.p16
      have hp2 := hG2.p16
      have hq1 := hG1.ge
      have hq2 := hG2.ge
      have hC := hide (show noC os1 D1 vs1 os2 D2 vs2 = 3 by unfold noC; rw [i1, i2]; rfl)
      have hb1 : 0 ≤ prodL os1 * prodL os2 := Int.mul_nonneg (by omega) (by omega)
      have hb2 : prodL os1 * prodL os2 ≤ 16 * 16 := Int.mul_le_mul hp1 hp2 (by omega) (by omega)
      have hor : ¬ prodL os1 * prodL os2 ≤ 16 ∨ ¬ os1.length + os2.length ≤ 4 := by
        by_cases ha : prodL os1 * prodL os2 ≤ 16
        · by_cases hb : os1.length + os2.length ≤ 4
          · exact absurd ⟨hM1, hM2, ha, hb⟩ hno
          · exact .inr hb
        · exact .inl ha
      have hle1 := hG1.l4
      have hle2 := hG2.l4
      obtain ⟨P0, hP0⟩ : ∃ P0, prodL os1 * prodL os2 = P0 := ⟨_, rfl⟩
      rw [hP0] at hb1 hb2 hor
      have s1 : IntKind.i64.wrap ((vs1.length : Int) * (vs2.length : Int)) = P0 := by rw [hM1.ok.len, hM2.ok.len, hP0]; exact wrap_in (by omega) (by omega)
      have s2 : IntKind.i64.wrap ((os1.length : Int) + (os2.length : Int)) = (os1.length : Int) + (os2.length : Int) := wrap_in (by omega) (by omega)
      clear hP0 hno
      by_cases hP : P0 ≤ 16
      · have hL : ¬ os1.length + os2.length ≤ 4 := by rcases hor with h | h; exact absurd hP h; exact h
        have s4 : decide ((16 : Int) < P0) = false := by rw [decide_eq_false_iff_not]; omega
        have s5 : decide ((4 : Int) < (os1.length : Int) + (os2.length : Int)) = true := by rw [decide_eq_true_eq]; omega
        clear hor
        go_enter Tryd.func50, Tryd.ntmps50
        go_wp2_with fail
        obtain ⟨W, hW⟩ : ∃ W, ((w.alloc (.cells #[.slice A1 os1.length c1, .int .i64 D1, .slice B1 vs1.length k1] 28)).alloc (.cells #[.slice A2 os2.length c2, .int .i64 D2, .slice B2 vs2.length k2] 28)).alloc (.cells #[.slice none 0 0, .int .i64 0, .slice none 0 0] 28) = W := ⟨_, rfl⟩
        have hbW : Below w.heap.size w W := by rw [← hW]; exact (by repeat (first | assumption | exact Below.refl _ _ | apply below_drewN | apply Below.drew | apply Below.alloc | apply Below.setCell | omega | (focus (simp; done)) | (focus (simp; omega))))
        have hsW := hide (show W.heap.size = w.heap.size + 3 by rw [← hW]; simp)
        have hszW : w.heap.size < W.heap.size := by rw [hsW.out]; omega
        have hszW1 : w.heap.size + 1 < W.heap.size := by rw [hsW.out]; omega
        have hszW2 : w.heap.size + 1 + 1 < W.heap.size := by rw [hsW.out]; omega
        have bM : Blk W w.heap.size 28 #[.slice A1 os1.length c1, .int .i64 D1, .slice B1 vs1.length k1] := by rw [← hW]; exact ((Blk.new _ _ _).alloc _).alloc _
        have bN : Blk W (w.heap.size + 1) 28 #[.slice A2 os2.length c2, .int .i64 D2, .slice B2 vs2.length k2] := by rw [← hW]; exact (Blk.new' _ _ _ _ (by simp)).alloc _
        have bR : Blk W (w.heap.size + 1 + 1) 28 #[.slice none 0 0, .int .i64 0, .slice none 0 0] := by rw [← hW]; exact Blk.new' _ _ _ _ (by simp)
        have q0 := bM.cell 0
        have q1 := bM.cell 1
        have q2 := bM.cell 2
        have p0 := bN.cell 0
        have p1 := bN.cell 1
        have p2 := bN.cell 2
        rw [hW]
        clear hW
        have hs1 := h1.below hbW
        have hg1 := g1.below hbW
        have hs2 := h2.below hbW
        have hg2 := g2.below hbW
        go_wp2_with fail
        refine (implIs_v true _ _ _ _ _ _ _ _ _ _ (hs1.more (Nat.le_of_lt hszW)) (hg1.more (Nat.le_of_lt hszW)) hn1 hm1 i1).mono ?_
        rintro e w2 ⟨rfl, hb2⟩
        replace hb2 : Below W.heap.size W w2 := hb2
        have r3 := (hb2.cell (p := ⟨w.heap.size + 1, 0, none⟩) hszW1).trans p0
        have r4 := (hb2.cell (p := ⟨w.heap.size + 1, 1, none⟩) hszW1).trans p1
        have r5 := (hb2.cell (p := ⟨w.heap.size + 1, 2, none⟩) hszW1).trans p2
        go_wp2_with fail
        clear r3 r4 r5
        refine (implIs_v true _ _ _ _ _ _ _ _ _ _ ((hs2.below (hb2.mono (Nat.le_of_lt hszW))).more (by have := hb2.size; omega)) ((hg2.below (hb2.mono (Nat.le_of_lt hszW))).more (by have := hb2.size; omega)) hn2 hm2 i2).mono ?_
        rintro e w3 ⟨rfl, hb3⟩
        have k3 := hb2.trans (hb3.mono hb2.size)
        have hsW' := hsW.out
        clear hb2 hb3
        go_wp2_with fail
        refine wp_region_be [0, 2, 1, 3, 4, 5, 6, 7, 8, 9, 10, 11, 12, 13, 14, 15] 16 W.heap.size W (by kernel_rfl) (by kernel_rfl) (by kernel_rfl) (fun _ _ _ _ _ h => h) k3 (fun wd hBe => ?_)
        repeat (first | (apply ord_tk rfl (by rfl) (by rfl) (by rfl); (focus (intro wx hSw; have r0 := (hSw.cell (p := ⟨w.heap.size, 0, none⟩) hszW).trans q0; have r1 := (hSw.cell (p := ⟨w.heap.size, 1, none⟩) hszW).trans q1; have r2 := (hSw.cell (p := ⟨w.heap.size, 2, none⟩) hszW).trans q2; have r3 := (hSw.cell (p := ⟨w.heap.size + 1, 0, none⟩) hszW1).trans p0; have r4 := (hSw.cell (p := ⟨w.heap.size + 1, 1, none⟩) hszW1).trans p1; have r5 := (hSw.cell (p := ⟨w.heap.size + 1, 2, none⟩) hszW1).trans p2; go_simp; (try with_reducible rfl))); (try simp only [Act.put, List.setIfInBounds_toArray, List.set_cons_zero, List.set_cons_succ])) | (apply ord_skip rfl (by rfl) (by rfl) (fun _ => hBe); (try simp only [Act.put, List.setIfInBounds_toArray, List.set_cons_zero, List.set_cons_succ])))
        refine ord_do rfl (by rfl) (by rfl) (fun K hK => ?_)
        go_simp
        refine (size_any _ _ _ _ _ _).mono ?_
        rintro e wd' ⟨rfl, hwd⟩
        replace hBe := hBe.trans (hwd.mono hBe.size)
        clear hwd
        refine hK.out _ _ (fun _ => hBe) ?_
        (try simp only [Act.put, List.setIfInBounds_toArray, List.set_cons_zero, List.set_cons_succ])
        clear hK K
        repeat (first | (apply ord_tk rfl (by rfl) (by rfl) (by rfl); (focus (intro wx hSw; have r0 := (hSw.cell (p := ⟨w.heap.size, 0, none⟩) hszW).trans q0; have r1 := (hSw.cell (p := ⟨w.heap.size, 1, none⟩) hszW).trans q1; have r2 := (hSw.cell (p := ⟨w.heap.size, 2, none⟩) hszW).trans q2; have r3 := (hSw.cell (p := ⟨w.heap.size + 1, 0, none⟩) hszW1).trans p0; have r4 := (hSw.cell (p := ⟨w.heap.size + 1, 1, none⟩) hszW1).trans p1; have r5 := (hSw.cell (p := ⟨w.heap.size + 1, 2, none⟩) hszW1).trans p2; go_simp; (try with_reducible rfl))); (try simp only [Act.put, List.setIfInBounds_toArray, List.set_cons_zero, List.set_cons_succ])) | (apply ord_skip rfl (by rfl) (by rfl) (fun _ => hBe); (try simp only [Act.put, List.setIfInBounds_toArray, List.set_cons_zero, List.set_cons_succ])))
        refine ord_do rfl (by rfl) (by rfl) (fun K hK => ?_)
        go_simp
        refine (size_any _ _ _ _ _ _).mono ?_
        rintro e wd' ⟨rfl, hwd⟩
        replace hBe := hBe.trans (hwd.mono hBe.size)
        clear hwd
        refine hK.out _ _ (fun _ => hBe) ?_
        (try simp only [Act.put, List.setIfInBounds_toArray, List.set_cons_zero, List.set_cons_succ])
        clear hK K
        repeat (first | (apply ord_tk rfl (by rfl) (by rfl) (by rfl); (focus (intro wx hSw; have r0 := (hSw.cell (p := ⟨w.heap.size, 0, none⟩) hszW).trans q0; have r1 := (hSw.cell (p := ⟨w.heap.size, 1, none⟩) hszW).trans q1; have r2 := (hSw.cell (p := ⟨w.heap.size, 2, none⟩) hszW).trans q2; have r3 := (hSw.cell (p := ⟨w.heap.size + 1, 0, none⟩) hszW1).trans p0; have r4 := (hSw.cell (p := ⟨w.heap.size + 1, 1, none⟩) hszW1).trans p1; have r5 := (hSw.cell (p := ⟨w.heap.size + 1, 2, none⟩) hszW1).trans p2; go_simp; (try with_reducible rfl))); (try simp only [Act.put, List.setIfInBounds_toArray, List.set_cons_zero, List.set_cons_succ])) | (apply ord_skip rfl (by rfl) (by rfl) (fun _ => hBe); (try simp only [Act.put, List.setIfInBounds_toArray, List.set_cons_zero, List.set_cons_succ])))
        refine ord_nil ?_
        clear s1 s2 k3
        have hres := bR.all hBe
        have r0 := hres.cell 0
        have r1 := hres.cell 1
        have r2 := hres.cell 2
        have f0 := hres.frozen 0
        have f1 := hres.frozen 1
        have f2 := hres.frozen 2
        go_wp2
        have hb3 := put3_blk (x := .slice none 0 0) (y := .int .i64 0) (z := .slice none 0 0) hres
        have q0 := hb3.cell 0
        have q1 := hb3.cell 1
        have q2 := hb3.cell 2
        unfold put3 at q0 q1 q2
        refine bodyPost_ret (v := .tuple #[.agg #[.slice none 0 0, .int .i64 0, .slice none 0 0], .int .i64 3]) (by simp [results, Tryd.results50, go_sem, q0, q1, q2]) rfl ?_
        exact ⟨by rw [hC.out], put3_below (hbW.trans (hBe.mono (Nat.le_of_lt hszW))) (by omega)⟩
      · have s4 : decide ((16 : Int) < P0) = true := by rw [decide_eq_true_eq]; omega
        clear hor
        go_enter Tryd.func50, Tryd.ntmps50
        go_wp2_with fail
        obtain ⟨W, hW⟩ : ∃ W, ((w.alloc (.cells #[.slice A1 os1.length c1, .int .i64 D1, .slice B1 vs1.length k1] 28)).alloc (.cells #[.slice A2 os2.length c2, .int .i64 D2, .slice B2 vs2.length k2] 28)).alloc (.cells #[.slice none 0 0, .int .i64 0, .slice none 0 0] 28) = W := ⟨_, rfl⟩
        have hbW : Below w.heap.size w W := by rw [← hW]; exact (by repeat (first | assumption | exact Below.refl _ _ | apply below_drewN | apply Below.drew | apply Below.alloc | apply Below.setCell | omega | (focus (simp; done)) | (focus (simp; omega))))
        have hsW := hide (show W.heap.size = w.heap.size + 3 by rw [← hW]; simp)
        have hszW : w.heap.size < W.heap.size := by rw [hsW.out]; omega
        have hszW1 : w.heap.size + 1 < W.heap.size := by rw [hsW.out]; omega
        have hszW2 : w.heap.size + 1 + 1 < W.heap.size := by rw [hsW.out]; omega
        have bM : Blk W w.heap.size 28 #[.slice A1 os1.length c1, .int .i64 D1, .slice B1 vs1.length k1] := by rw [← hW]; exact ((Blk.new _ _ _).alloc _).alloc _
        have bN : Blk W (w.heap.size + 1) 28 #[.slice A2 os2.length c2, .int .i64 D2, .slice B2 vs2.length k2] := by rw [← hW]; exact (Blk.new' _ _ _ _ (by simp)).alloc _
        have bR : Blk W (w.heap.size + 1 + 1) 28 #[.slice none 0 0, .int .i64 0, .slice none 0 0] := by rw [← hW]; exact Blk.new' _ _ _ _ (by simp)
        have q0 := bM.cell 0
        have q1 := bM.cell 1
        have q2 := bM.cell 2
        have p0 := bN.cell 0
        have p1 := bN.cell 1
        have p2 := bN.cell 2
        rw [hW]
        clear hW
        have hs1 := h1.below hbW
        have hg1 := g1.below hbW
        have hs2 := h2.below hbW
        have hg2 := g2.below hbW
        go_wp2_with fail
        refine (implIs_v true _ _ _ _ _ _ _ _ _ _ (hs1.more (Nat.le_of_lt hszW)) (hg1.more (Nat.le_of_lt hszW)) hn1 hm1 i1).mono ?_
        rintro e w2 ⟨rfl, hb2⟩
        replace hb2 : Below W.heap.size W w2 := hb2
        have r3 := (hb2.cell (p := ⟨w.heap.size + 1, 0, none⟩) hszW1).trans p0
        have r4 := (hb2.cell (p := ⟨w.heap.size + 1, 1, none⟩) hszW1).trans p1
        have r5 := (hb2.cell (p := ⟨w.heap.size + 1, 2, none⟩) hszW1).trans p2
        go_wp2_with fail
        clear r3 r4 r5
        refine (implIs_v true _ _ _ _ _ _ _ _ _ _ ((hs2.below (hb2.mono (Nat.le_of_lt hszW))).more (by have := hb2.size; omega)) ((hg2.below (hb2.mono (Nat.le_of_lt hszW))).more (by have := hb2.size; omega)) hn2 hm2 i2).mono ?_
        rintro e w3 ⟨rfl, hb3⟩
        have k3 := hb2.trans (hb3.mono hb2.size)
        have hsW' := hsW.out
        clear hb2 hb3
        go_wp2_with fail
        refine wp_region_be [0, 2, 1, 3, 4, 5, 6, 7, 8, 9, 10, 11, 12, 13, 14, 15] 16 W.heap.size W (by kernel_rfl) (by kernel_rfl) (by kernel_rfl) (fun _ _ _ _ _ h => h) k3 (fun wd hBe => ?_)
        repeat (first | (apply ord_tk rfl (by rfl) (by rfl) (by rfl); (focus (intro wx hSw; have r0 := (hSw.cell (p := ⟨w.heap.size, 0, none⟩) hszW).trans q0; have r1 := (hSw.cell (p := ⟨w.heap.size, 1, none⟩) hszW).trans q1; have r2 := (hSw.cell (p := ⟨w.heap.size, 2, none⟩) hszW).trans q2; have r3 := (hSw.cell (p := ⟨w.heap.size + 1, 0, none⟩) hszW1).trans p0; have r4 := (hSw.cell (p := ⟨w.heap.size + 1, 1, none⟩) hszW1).trans p1; have r5 := (hSw.cell (p := ⟨w.heap.size + 1, 2, none⟩) hszW1).trans p2; go_simp; (try with_reducible rfl))); (try simp only [Act.put, List.setIfInBounds_toArray, List.set_cons_zero, List.set_cons_succ])) | (apply ord_skip rfl (by rfl) (by rfl) (fun _ => hBe); (try simp only [Act.put, List.setIfInBounds_toArray, List.set_cons_zero, List.set_cons_succ])))
        refine ord_do rfl (by rfl) (by rfl) (fun K hK => ?_)
        go_simp
        refine (size_any _ _ _ _ _ _).mono ?_
        rintro e wd' ⟨rfl, hwd⟩
        replace hBe := hBe.trans (hwd.mono hBe.size)
        clear hwd
        refine hK.out _ _ (fun _ => hBe) ?_
        (try simp only [Act.put, List.setIfInBounds_toArray, List.set_cons_zero, List.set_cons_succ])
        clear hK K
        repeat (first | (apply ord_tk rfl (by rfl) (by rfl) (by rfl); (focus (intro wx hSw; have r0 := (hSw.cell (p := ⟨w.heap.size, 0, none⟩) hszW).trans q0; have r1 := (hSw.cell (p := ⟨w.heap.size, 1, none⟩) hszW).trans q1; have r2 := (hSw.cell (p := ⟨w.heap.size, 2, none⟩) hszW).trans q2; have r3 := (hSw.cell (p := ⟨w.heap.size + 1, 0, none⟩) hszW1).trans p0; have r4 := (hSw.cell (p := ⟨w.heap.size + 1, 1, none⟩) hszW1).trans p1; have r5 := (hSw.cell (p := ⟨w.heap.size + 1, 2, none⟩) hszW1).trans p2; go_simp; (try with_reducible rfl))); (try simp only [Act.put, List.setIfInBounds_toArray, List.set_cons_zero, List.set_cons_succ])) | (apply ord_skip rfl (by rfl) (by rfl) (fun _ => hBe); (try simp only [Act.put, List.setIfInBounds_toArray, List.set_cons_zero, List.set_cons_succ])))
        refine ord_do rfl (by rfl) (by rfl) (fun K hK => ?_)
        go_simp
        refine (size_any _ _ _ _ _ _).mono ?_
        rintro e wd' ⟨rfl, hwd⟩
        replace hBe := hBe.trans (hwd.mono hBe.size)
        clear hwd
        refine hK.out _ _ (fun _ => hBe) ?_
        (try simp only [Act.put, List.setIfInBounds_toArray, List.set_cons_zero, List.set_cons_succ])
        clear hK K
        repeat (first | (apply ord_tk rfl (by rfl) (by rfl) (by rfl); (focus (intro wx hSw; have r0 := (hSw.cell (p := ⟨w.heap.size, 0, none⟩) hszW).trans q0; have r1 := (hSw.cell (p := ⟨w.heap.size, 1, none⟩) hszW).trans q1; have r2 := (hSw.cell (p := ⟨w.heap.size, 2, none⟩) hszW).trans q2; have r3 := (hSw.cell (p := ⟨w.heap.size + 1, 0, none⟩) hszW1).trans p0; have r4 := (hSw.cell (p := ⟨w.heap.size + 1, 1, none⟩) hszW1).trans p1; have r5 := (hSw.cell (p := ⟨w.heap.size + 1, 2, none⟩) hszW1).trans p2; go_simp; (try with_reducible rfl))); (try simp only [Act.put, List.setIfInBounds_toArray, List.set_cons_zero, List.set_cons_succ])) | (apply ord_skip rfl (by rfl) (by rfl) (fun _ => hBe); (try simp only [Act.put, List.setIfInBounds_toArray, List.set_cons_zero, List.set_cons_succ])))
        refine ord_nil ?_
        clear s1 s2 k3
        have hres := bR.all hBe
        have r0 := hres.cell 0
        have r1 := hres.cell 1
        have r2 := hres.cell 2
        have f0 := hres.frozen 0
        have f1 := hres.frozen 1
        have f2 := hres.frozen 2
        go_wp2
        have hb3 := put3_blk (x := .slice none 0 0) (y := .int .i64 0) (z := .slice none 0 0) hres
        have q0 := hb3.cell 0
        have q1 := hb3.cell 1
        have q2 := hb3.cell 2
        unfold put3 at q0 q1 q2
        refine bodyPost_ret (v := .tuple #[.agg #[.slice none 0 0, .int .i64 0, .slice none 0 0], .int .i64 3]) (by simp [results, Tryd.results50, go_sem, q0, q1, q2]) rfl ?_
        exact ⟨by rw [hC.out], put3_below (hbW.trans (hBe.mono (Nat.le_of_lt hszW))) (by omega)⟩

end Go.Proofs.YtlekbkjkkoefnaaDoor
