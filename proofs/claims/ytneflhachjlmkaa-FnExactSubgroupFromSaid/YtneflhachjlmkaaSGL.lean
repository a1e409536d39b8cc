
/- The walk of the law FnExactSubgroupFrom. -/
import Derived.Test.YtneflhachjlmkaaLO
import Derived.Test.YtneflhachjlmkaaSG2
import Derived.Test.YtneflhachjlmkaaOpM
import Derived.WalkLawsBesides
namespace Go.Proofs.Ytneflhachjlmkaa
open Go Go.RowKit
set_option linter.unusedSimpArgs false
set_option linter.unusedVariables false
set_option maxHeartbeats 8000000 in
theorem law_SubgroupFrom {w : World} (A : Option Addr) (n c : Nat) (os : List Int) (z : Int) (A' : Option Addr) (n' c' : Nat) (vs : List Int) (h0 : SlIn w A n c os) (h1 : SlIn w A' n' c' vs) (hz : i64ok z) (L : Option Addr) (m lc : Nat) (ys : List Int) (h2 : SlIn w L m lc ys) :
    Calls Try.prog 3 #[.agg #[.slice A n c, .int .i64 z, .slice A' n' c'], .slice L m lc] w (Re w (.bool true)) := by
  obtain ⟨h, hnm⟩ := h0
  obtain ⟨h', hnm'⟩ := h1
  obtain ⟨hy, hnmy⟩ := h2
  obtain rfl := h.len
  obtain rfl := h'.len
  obtain rfl := hy.len
  by_cases hll : ys.length ≤ 1048576
  case neg =>
    have hli : (1048576 : Int) < (ys.length : Int) := by omega
    go_enter Try.func3, Try.ntmps3
    go_wp2
    go_ret
    exact ⟨rfl, (by repeat (first | assumption | exact Below.refl _ _ | apply below_drewN | apply Below.drew | apply Below.alloc | apply Below.setCell | omega | (focus (simp; done)) | (focus (simp; omega))))⟩
  have hli : (ys.length : Int) ≤ (1048576 : Int) := by omega
  have hsz := fun W => szMetric_any W A A' os.length c vs.length c' z 1048576 (by omega) (by omega) hnm hnm'
  obtain ⟨l, hl⟩ : ∃ l, szM 1048576 os.length vs.length = l := ⟨_, rfl⟩
  have hp := szM_pos (l := 1048576) (n := os.length) (m := vs.length)
  rw [hl] at hsz hp
  clear hl
  by_cases hneg : l < 0
  case pos =>
    clear hp
    go_enter Try.func3, Try.ntmps3
    go_wp2_with fail
    refine (hsz _).mono ?_
    rintro e w' ⟨rfl, hb⟩
    go_wp2
    go_ret
    exact ⟨rfl, Below.trans (by repeat (first | assumption | exact Below.refl _ _ | apply below_drewN | apply Below.drew | apply Below.alloc | apply Below.setCell | omega | (focus (simp; done)) | (focus (simp; omega)))) (hb.mono (by simp))⟩
  have hp := hp (by omega)
  have hn : os.length ≤ 1048576 := by omega
  have hn' : vs.length ≤ 1048576 := by omega
  clear hp
  have hPos : 0 ≤ l := by omega
  have hsp := fun W A n c A' n' c' LL l lc h h' hx hn hn' hl => spec_Gen_any W A n c os z A' n' c' vs LL l lc ys h h' hx hn hn' hl
  have him := fun W A n c A' n' c' LL l lc h h' hx hn hn' hl => impl_Gen_any W A n c os z A' n' c' vs LL l lc ys h h' hx hn hn' hl
  have hxr := hide (show ∀ x ∈ sgfL os z vs ys, i64ok x by
    unfold sgfL
    split
    · intro x hx; have := mem_genL.1 hx; exact ⟨by omega, by omega⟩
    · simp)
  have hxl := hide (show (sgfL os z vs ys).length ≤ 1048576 by unfold sgfL; split; exact Nat.le_trans (genL_len _ _ _) hn'; simp)
  obtain ⟨b, hb⟩ : ∃ b, codeL os z vs ys = b := ⟨_, rfl⟩
  obtain ⟨xs, ha⟩ : ∃ a, sgfL os z vs ys = a := ⟨_, rfl⟩
  rw [hb, ha] at hsp him
  rw [ha] at hxr hxl
  clear hb ha
  go_enter Try.func3, Try.ntmps3
  go_wp2_with fail
  obtain ⟨W, hW⟩ : ∃ W, w.alloc (.cells #[.slice A os.length c, .int .i64 z, .slice A' vs.length c'] 24) = W := ⟨_, rfl⟩
  have hbW : Below w.heap.size w W := by rw [← hW]; exact (by repeat (first | assumption | exact Below.refl _ _ | apply below_drewN | apply Below.drew | apply Below.alloc | apply Below.setCell | omega | (focus (simp; done)) | (focus (simp; omega))))
  have hszW : w.heap.size < W.heap.size := by rw [← hW]; simp
  have bW : Blk W w.heap.size 24 #[.slice A os.length c, .int .i64 z, .slice A' vs.length c'] := by rw [← hW]; exact Blk.new _ _ _
  have q0 := bW.cell 0
  have q1 := bW.cell 1
  have q2 := bW.cell 2
  rw [hW]
  clear hW
  have hs := h.below hbW
  have hs' := h'.below hbW
  have hsy := hy.below hbW
  go_wp2_with fail
  refine (hsz _).mono ?_
  rintro e w1 ⟨rfl, hb1⟩
  have k1 : Below W.heap.size W w1 := hb1
  have r0 := (k1.cell (p := ⟨w.heap.size, 0, none⟩) hszW).trans q0
  have r1 := (k1.cell (p := ⟨w.heap.size, 1, none⟩) hszW).trans q1
  have r2 := (k1.cell (p := ⟨w.heap.size, 2, none⟩) hszW).trans q2
  go_wp2_with fail
  clear r0 r1 r2
  refine (toMetric_any _ w.heap.size _ _ _ _ _ _ _ _ _ (hs.below (k1.mono (Nat.le_of_lt hszW))) (hs'.below (k1.mono (Nat.le_of_lt hszW))) (by have := k1.size; omega) hn hn').mono ?_
  rintro e w1a ⟨B1, d1, B2, d2, rfl, t1, t2, hb1a⟩
  have k1a := k1.trans (hb1a.mono k1.size)
  go_wp2_with fail
  refine (toInt64S_any _ w.heap.size _ _ _ _ (hsy.below (k1a.mono (Nat.le_of_lt hszW))) (by have := k1a.size; omega) hll).mono ?_
  rintro e w2 ⟨vy, rfl, hoy, hb2⟩
  obtain ⟨By, dy, rfl, ty⟩ := hoy.sl hy.rng
  have k2 := k1a.trans (hb2.mono k1a.size)
  have t1 := (t1.below hb2).more hb2.size
  have t2 := (t2.below hb2).more hb2.size
  clear hoy
  go_wp2_with fail
  refine (hsp _ _ _ _ _ _ _ _ _ _ t1 t2 ty hn hn' hll).mono ?_
  rintro e w3 ⟨vw, rfl, how, hb3⟩
  obtain ⟨Aw, cw, rfl, sw⟩ := how.sl hxr.out
  have k3 := k2.trans (hb3.mono k2.size)
  clear how
  have r0 := (k3.cell (p := ⟨w.heap.size, 0, none⟩) hszW).trans q0
  have r1 := (k3.cell (p := ⟨w.heap.size, 1, none⟩) hszW).trans q1
  have r2 := (k3.cell (p := ⟨w.heap.size, 2, none⟩) hszW).trans q2
  go_wp2_with fail
  clear r0 r1 r2
  refine (toMetric_own _ w.heap.size _ _ _ _ _ _ _ _ _ (hs.below (k3.mono (Nat.le_of_lt hszW))) (hs'.below (k3.mono (Nat.le_of_lt hszW))) (by have := k3.size; omega) hn hn').mono ?_
  rintro e w4 ⟨x1, x2, rfl, hx1, hx2, hxap, hb4⟩
  obtain ⟨B3, d3, rfl, t3⟩ := hx1.sl h.rng
  obtain ⟨B4, d4, rfl, t4⟩ := hx2.sl h'.rng
  have k4 := k3.trans (hb4.mono k3.size)
  have sw := sw.below hb4
  obtain ⟨X, hXX⟩ : ∃ X, w4.heap.size = X := ⟨_, rfl⟩
  obtain ⟨w4', hWX⟩ : ∃ wn, w4.alloc (.cells #[.slice B3 os.length d3, .int .i64 z, .slice B4 vs.length d4] 28) = wn := ⟨_, rfl⟩
  have bX : Blk w4' X 28 #[.slice B3 os.length d3, .int .i64 z, .slice B4 vs.length d4] := by rw [← hWX]; exact Blk.new' _ _ _ _ hXX
  have hb4' : Below w4.heap.size w4 w4' := by rw [← hWX]; exact (Below.refl _ _).alloc (Nat.le_refl _) _
  have k4' := k4.trans (hb4'.mono k4.size)
  have hs34 := hb4.size
  have hs44 := hb4'.size
  have sw := sw.below (hb4'.mono hs34)
  have hx1' := hx1.below hb4'
  have hx2' := hx2.below hb4'
  have t3 := (t3.below hb4').more hs44
  have t4 := (t4.below hb4').more hs44
  go_wp2_with fail
  clear hXX hWX
  refine (toInt64S_any _ w.heap.size _ _ _ _ (hsy.below (k4'.mono (Nat.le_of_lt hszW))) (by have := k4'.size; omega) hll).mono ?_
  rintro e w5 ⟨vx, rfl, hox, hb5⟩
  obtain ⟨Bx, dx, rfl, tx⟩ := hox.sl hy.rng
  have k5 := k4'.trans (hb5.mono k4'.size)
  have hs45 := hb5.size
  have t3 := (t3.below hb5).more hs45
  have t4 := (t4.below hb5).more hs45
  have bX := bX.all hb5
  have sw := sw.below (hb5.mono (by omega))
  have hx1' := hx1'.below hb5
  have hx2' := hx2'.below hb5
  have apx1 := (hx1.apart hox hs44)
  have apx2 := (hx2.apart hox hs44)
  have x0 := bX.cell 0
  have x1 := bX.cell 1
  have x2 := bX.cell 2
  go_wp2_with fail
  clear x0 x1 x2
  refine (him _ _ _ _ _ _ _ _ _ _ t3 t4 tx hn hn' hll).mono ?_
  rintro e w6 ⟨g, rfl, hog, hb6⟩
  obtain ⟨G, dg, rfl, sg⟩ := hog.sl hxr.out
  have k6 := k5.trans (hb6.mono k5.size)
  have hs56 := hb6.size
  have t3 := t3.below hb6
  have t4 := t4.below hb6
  have tx := tx.below hb6
  have bX := bX.all hb6
  have sw := sw.below (hb6.mono (by omega))
  have ap1 := (hx1.apart hog (by omega)).symm
  have ap2 := (hx2.apart hog (by omega)).symm
  have ap3 := (hox.apart hog (Nat.le_refl _)).symm
  have hx1' := hx1'.below hb6
  have hx2' := hx2'.below hb6
  have hox' := hox.below hb6
  go_wp2_with fail
  refine ((eqInt64S_any _ _ _ _ _ _ _ _ _ _ _ sg (sw.more (show _ ≤ w6.heap.size by omega)) hxl.out).mono fun _ _ h => Qt.re h).mono ?_
  rintro e w6b ⟨rfl, hb6b⟩
  simp only [beq_self_eq_true]
  have k6 := k6.trans (hb6b.mono k6.size)
  have hs66 := hb6b.size
  have t3' := (t3.below (hb6b.mono (by omega))).more (show _ ≤ w6b.heap.size by omega)
  have t4' := (t4.below (hb6b.mono (by omega))).more (show _ ≤ w6b.heap.size by omega)
  have tx' := (tx.below (hb6b.mono (by omega))).more (show _ ≤ w6b.heap.size by omega)
  have bX6 := bX.all hb6b
  have bW6 := bW.all k6
  have sw := sw.below (hb6b.mono (by omega))
  have hx1' := hx1'.below hb6b
  have hx2' := hx2'.below hb6b
  have hox' := hox'.below hb6b
  have hog' := hog.below hb6b
  have hs6 := hs.below (k6.mono (Nat.le_of_lt hszW))
  have hs6' := hs'.below (k6.mono (Nat.le_of_lt hszW))
  clear t3 t4 tx bX sg
  have x0 := bX6.cell 0
  have x1 := bX6.cell 1
  have x2 := bX6.cell 2
  have y0 := bW6.cell 0
  have y1 := bW6.cell 1
  have y2 := bW6.cell 2
  have hXl := bX6.lt
  have hwl := bW6.lt
  go_wp2_with fail
  refine wp_region_be [0, 1, 2, 3, 4] 5 w6b.heap.size w6b (by kernel_rfl) (by kernel_rfl) (by kernel_rfl) (fun _ _ _ _ _ h => h) (Below.refl _ _) (fun wd hBe => ?_)
  repeat (first | (apply ord_tk rfl (by rfl) (by rfl) (by rfl); (focus (intro wx hSw; have r0 := (hSw.cell (p := ⟨w.heap.size, 0, none⟩) hwl).trans y0; have r1 := (hSw.cell (p := ⟨w.heap.size, 1, none⟩) hwl).trans y1; have r2 := (hSw.cell (p := ⟨w.heap.size, 2, none⟩) hwl).trans y2; have r3 := (hSw.cell (p := ⟨X, 0, none⟩) hXl).trans x0; have r4 := (hSw.cell (p := ⟨X, 1, none⟩) hXl).trans x1; have r5 := (hSw.cell (p := ⟨X, 2, none⟩) hXl).trans x2; go_simp; (try with_reducible rfl))); (try simp only [Act.put, List.setIfInBounds_toArray, List.set_cons_zero, List.set_cons_succ])) | (apply ord_skip rfl (by rfl) (by rfl) (fun _ => hBe); (try simp only [Act.put, List.setIfInBounds_toArray, List.set_cons_zero, List.set_cons_succ])))
  refine ord_do rfl (by rfl) (by rfl) (fun K hK => ?_)
  go_simp
  refine (toMetric_any _ w.heap.size _ _ _ _ _ _ _ _ _ (hs6.below (hBe.mono (Nat.le_of_lt hwl))) (hs6'.below (hBe.mono (Nat.le_of_lt hwl))) (by have := hBe.size; omega) hn hn').mono ?_
  rintro e w7 ⟨B5, d5, B6, d6, rfl, t5, t6, hb7⟩
  replace hBe := hBe.trans (hb7.mono hBe.size)
  refine hK.out _ _ (fun _ => hBe) ?_
  (try simp only [Act.put, List.setIfInBounds_toArray, List.set_cons_zero, List.set_cons_succ])
  clear hK K
  repeat (first | (apply ord_tk rfl (by rfl) (by rfl) (by rfl); (focus (intro wx hSw; have r0 := (hSw.cell (p := ⟨w.heap.size, 0, none⟩) hwl).trans y0; have r1 := (hSw.cell (p := ⟨w.heap.size, 1, none⟩) hwl).trans y1; have r2 := (hSw.cell (p := ⟨w.heap.size, 2, none⟩) hwl).trans y2; have r3 := (hSw.cell (p := ⟨X, 0, none⟩) hXl).trans x0; have r4 := (hSw.cell (p := ⟨X, 1, none⟩) hXl).trans x1; have r5 := (hSw.cell (p := ⟨X, 2, none⟩) hXl).trans x2; go_simp; (try with_reducible rfl))); (try simp only [Act.put, List.setIfInBounds_toArray, List.set_cons_zero, List.set_cons_succ])) | (apply ord_skip rfl (by rfl) (by rfl) (fun _ => hBe); (try simp only [Act.put, List.setIfInBounds_toArray, List.set_cons_zero, List.set_cons_succ])))
  have hz6 := hBe.size
  refine ord_do rfl (by rfl) (by rfl) (fun K hK => ?_)
  go_simp
  refine (eqMetric_any _ _ _ _ _ _ _ _ _ _ _ _ _ _ _ _ _ _ _ _ ((t3'.below hBe).more hz6) ((t4'.below hBe).more hz6) t5 t6 (Nat.le_refl _) hn hn').mono ?_
  rintro e wd' ⟨rfl, hwd⟩
  replace hBe := hBe.trans (hwd.mono hBe.size)
  clear hwd
  refine hK.out _ _ (fun _ => hBe) ?_
  (try simp only [Act.put, List.setIfInBounds_toArray, List.set_cons_zero, List.set_cons_succ])
  clear hK K
  simp only [beq_self_eq_true, Bool.and_self]
  repeat (first | (apply ord_tk rfl (by rfl) (by rfl) (by rfl); (focus (intro wx hSw; have r0 := (hSw.cell (p := ⟨w.heap.size, 0, none⟩) hwl).trans y0; have r1 := (hSw.cell (p := ⟨w.heap.size, 1, none⟩) hwl).trans y1; have r2 := (hSw.cell (p := ⟨w.heap.size, 2, none⟩) hwl).trans y2; have r3 := (hSw.cell (p := ⟨X, 0, none⟩) hXl).trans x0; have r4 := (hSw.cell (p := ⟨X, 1, none⟩) hXl).trans x1; have r5 := (hSw.cell (p := ⟨X, 2, none⟩) hXl).trans x2; go_simp; (try with_reducible rfl))); (try simp only [Act.put, List.setIfInBounds_toArray, List.set_cons_zero, List.set_cons_succ])) | (apply ord_skip rfl (by rfl) (by rfl) (fun _ => hBe); (try simp only [Act.put, List.setIfInBounds_toArray, List.set_cons_zero, List.set_cons_succ])))
  refine ord_nil ?_
  clear x0 x1 x2 y0 y1 y2 t5 t6 hb7 hz6 t3' t4' bW6 hs6 hs6'
  have k8 := k6.trans (hBe.mono k6.size)
  have hs68 := hBe.size
  have tx8 := (tx'.below hBe).more hs68
  have bX8 := bX6.all hBe
  have sw := sw.below (hBe.mono (by omega))
  have hx1' := hx1'.below hBe
  have hx2' := hx2'.below hBe
  have hox' := hox'.below hBe
  have hog' := hog'.below hBe
  clear tx' bX6
  go_wp2_with fail
  refine (toInt64S_any _ w.heap.size _ _ _ _ (hsy.below (k8.mono (Nat.le_of_lt hszW))) (by have := k8.size; omega) hll).mono ?_
  rintro e w9 ⟨vz, rfl, hoz, hb9⟩
  obtain ⟨Bz, dz, rfl, tz⟩ := hoz.sl hy.rng
  have k9 := k8.trans (hb9.mono k8.size)
  have hs89 := hb9.size
  have tx8 := tx8.below hb9
  have bX9 := bX8.all hb9
  have sw := sw.below (hb9.mono (by omega))
  have hx1' := hx1'.below hb9
  have hx2' := hx2'.below hb9
  have hox' := hox'.below hb9
  have hog' := hog'.below hb9
  clear hoz bX8
  go_wp2_with fail
  refine ((eqInt64S_any _ _ _ _ _ _ _ _ _ _ _ tx8 tz hll).mono fun _ _ h => Qt.re h).mono ?_
  rintro e w10 ⟨rfl, hb10⟩
  simp only [beq_self_eq_true]
  have k10 := k9.trans (hb10.mono k9.size)
  have hs90 := hb10.size
  have bX10 := bX9.all hb10
  have sw := sw.below (hb10.mono (by omega))
  have hx1' := hx1'.below hb10
  have hx2' := hx2'.below hb10
  have hox' := hox'.below hb10
  have hog' := hog'.below hb10
  clear tx8 tz bX9
  have x0 := bX10.cell 0
  have x1 := bX10.cell 1
  have x2 := bX10.cell 2
  go_wp2_with fail
  clear x0 x1 x2
  refine (markMetric_any _ _ _ _ _ _ _ _ hx1' hx2' hxap hn hn' (by omega) (by omega)).mono ?_
  rintro e w11 hM
  have hb11 : Below w3.heap.size w10 w11 := hM.keep (Nat.le_refl _) (by omega) hx1' hx2'
  have hox' := hM.ow hox' apx1.symm apx2.symm
  have hog' := hM.ow hog' ap1 ap2
  have k3s := k3.size
  have k11 := k10.trans (hb11.mono k3s)
  have sw := sw.below hb11
  have hs11 := hb11.size
  obtain ⟨rfl, -⟩ := hM
  obtain ⟨kk, hkk, hkk0, hkk1⟩ : ∃ kk : Int, 1 + (os.length : Int) + (vs.length : Int) = kk ∧ 0 ≤ kk ∧ kk ≤ 100000000 := ⟨_, rfl, by omega, by omega⟩
  rw [hkk]
  have HKK := hide hkk
  clear hkk hx1' hx2' bX10
  go_wp2_with fail
  refine (markInt64S_any _ _ _ _ _ hox' hll hkk0 (by omega)).mono ?_
  rintro e w12 hM
  have hb12 : Below w4'.heap.size w11 w12 := hM.keep hox' (Nat.le_refl _) (by omega)
  have hog' : Ow w12 _ _ xs := hog'.far hM.2.2 ap3
  have k12 := k11.trans (hb12.mono k4'.size)
  have sw := sw.below (hb12.mono (by omega))
  have hs12 := hb12.size
  obtain ⟨rfl, -⟩ := hM
  obtain ⟨kl, hkl, hkl0⟩ : ∃ kl : Int, kk + (ys.length : Int) = kl ∧ 0 ≤ kl := ⟨_, rfl, by omega⟩
  rw [hkl]
  have HKL := hide hkl
  clear hkl hox'
  have sg9 := hog.two rfl hog' rfl hxr.out
  go_wp2_with fail
  refine ((eqInt64S_any _ _ _ _ _ _ _ _ _ _ _ sg9 (sw.more (show _ ≤ w12.heap.size by omega)) hxl.out).mono fun _ _ h => Qt.re h).mono ?_
  rintro e w13 ⟨rfl, hb13⟩
  simp only [beq_self_eq_true]
  have k13 := k12.trans (hb13.mono k12.size)
  have hog' := hog'.below hb13
  have sw := sw.below (hb13.mono (by omega))
  have hs13 := hb13.size
  have hL := hxl.out
  clear sg9
  go_wp2_with fail
  refine (markInt64S_any _ _ _ _ _ hog' hxl.out (by omega) (by omega)).mono ?_
  rintro e w14 hM
  have hb14 : Below w5.heap.size w13 w14 := hM.keep hog' (Nat.le_refl _) (by omega)
  have k14 := k13.trans (hb14.mono k5.size)
  have hs14 := hb14.size
  have sw := sw.below (hb14.mono (by omega))
  obtain ⟨rfl, hog14, -⟩ := hM
  have sm := hog.two rfl hog14 (marks_length _ _) (marks_rng _ _ (by omega) (by omega) hL)
  obtain ⟨mm, hmm, hmm0⟩ : ∃ mm : Int, 1 + (xs.length : Int) = mm ∧ 0 ≤ mm := ⟨_, rfl, by omega⟩
  have hmk : heldI 1 (marks 1 xs.length) = mm := by rw [heldI_marks, hmm]
  rw [hmm]
  have HMM := hide hmm
  have HMK := hide hmk
  clear hmm hmk hog' hog14
  go_wp2_with fail
  refine ((heldInt64S_any _ _ _ _ _ 1 _ sm hL (by omega) (by omega)).mono fun _ _ h => Qt.re h).mono ?_
  rintro e w15 ⟨rfl, hb15⟩
  rw [HMK.out]
  have k15 := k14.trans (hb15.mono k14.size)
  have hs15 := hb15.size
  have sw := sw.below (hb15.mono (by omega))
  have sm := sm.below (hb15.mono (by omega))
  have r0 := (k15.cell (p := ⟨w.heap.size, 0, none⟩) hszW).trans q0
  have r1 := (k15.cell (p := ⟨w.heap.size, 1, none⟩) hszW).trans q1
  have r2 := (k15.cell (p := ⟨w.heap.size, 2, none⟩) hszW).trans q2
  go_wp2_with fail
  clear r0 r1 r2
  refine (toMetric_any _ w.heap.size _ _ _ _ _ _ _ _ _ (hs.below (k15.mono (Nat.le_of_lt hszW))) (hs'.below (k15.mono (Nat.le_of_lt hszW))) (by have := k15.size; omega) hn hn').mono ?_
  rintro e w16 ⟨B7, d7, B8, d8, rfl, t7, t8, hb16⟩
  have k16 := k15.trans (hb16.mono k15.size)
  have hs16 := hb16.size
  have sw := sw.below (hb16.mono (by omega))
  have sm := sm.below (hb16.mono (by omega))
  go_wp2_with fail
  refine (toInt64S_any _ w.heap.size _ _ _ _ (hsy.below (k16.mono (Nat.le_of_lt hszW))) (by have := k16.size; omega) hll).mono ?_
  rintro e w17 ⟨vu, rfl, hou, hb17⟩
  obtain ⟨Bu, du, rfl, tu⟩ := hou.sl hy.rng
  have k17 := k16.trans (hb17.mono k16.size)
  have hs17 := hb17.size
  have sw := sw.below (hb17.mono (by omega))
  have sm := sm.below (hb17.mono (by omega))
  have t7 := (t7.below hb17).more hs17
  have t8 := (t8.below hb17).more hs17
  clear hou
  go_wp2_with fail
  refine (him _ _ _ _ _ _ _ _ _ _ t7 t8 tu hn hn' hll).mono ?_
  rintro e w18 ⟨g, rfl, hoh, hb18⟩
  obtain ⟨H, dh, rfl, sh⟩ := hoh.sl hxr.out
  have k18 := k17.trans (hb18.mono k17.size)
  have hs18 := hb18.size
  have sw := sw.below (hb18.mono (by omega))
  have sm := sm.below (hb18.mono (by omega))
  clear t7 t8 tu hoh
  go_wp2_with fail
  refine ((eqInt64S_any _ _ _ _ _ _ _ _ _ _ _ sh (sw.more (show _ ≤ w18.heap.size by omega)) hxl.out).mono fun _ _ h => Qt.re h).mono ?_
  rintro e w19 ⟨rfl, hb19⟩
  simp only [beq_self_eq_true]
  have k19 := k18.trans (hb19.mono k18.size)
  have sm := sm.below (hb19.mono (by omega))
  go_wp2_with fail
  refine ((heldInt64S_any _ _ _ _ _ 1 _ sm hL (by omega) (by omega)).mono fun _ _ h => Qt.re h).mono ?_
  rintro e w20 ⟨rfl, hb20⟩
  rw [HMK.out]
  have k20 := k19.trans (hb20.mono k19.size)
  go_wp2_with fail
  go_ret
  exact ⟨rfl, hbW.trans (k20.mono (Nat.le_of_lt hszW))⟩
end Go.Proofs.Ytneflhachjlmkaa
