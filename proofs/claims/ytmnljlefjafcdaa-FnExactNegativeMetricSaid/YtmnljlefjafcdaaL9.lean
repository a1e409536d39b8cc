/- The walk of the law FnExactNegativeMetric. -/
import Derived.Test.YtmnljlefjafcdaaLO
import Derived.Test.YtmnljlefjafcdaaM2
import Derived.Test.YtmnljlefjafcdaaOpM
import Derived.WalkLawsBesides
namespace Go.Proofs.Ytmnljlefjafcdaa
open Go Go.RowKit
set_option linter.unusedSimpArgs false
set_option linter.unusedVariables false
theorem negL_rng {D : Int} {vs : List Int} (h1 : 1 ≤ D) (h2 : D ≤ 55440) : ∀ x ∈ negL D vs, i64ok x := by
  intro x hx
  unfold negL at hx
  obtain ⟨v, _, rfl⟩ := List.mem_map.1 hx
  have a := Int.emod_nonneg (-v) (show D ≠ 0 by omega)
  have b := Int.emod_lt_of_pos (-v) (show 0 < D by omega)
  exact ⟨by omega, by omega⟩
set_option maxHeartbeats 8000000 in
theorem law_NegativeMetric {w : World} (A : Option Addr) (n c : Nat) (os : List Int) (z : Int) (A' : Option Addr) (n' c' : Nat) (vs : List Int) (h0 : SlIn w A n c os) (h1 : SlIn w A' n' c' vs) (hz : i64ok z) :
    Calls Try.prog 5 #[.agg #[.slice A n c, .int .i64 z, .slice A' n' c']] w (Re w (.bool true)) := by
  obtain ⟨h, hnm⟩ := h0
  obtain ⟨h', hnm'⟩ := h1
  obtain rfl := h.len
  obtain rfl := h'.len
  have hsz := fun W => szMetric_any W A A' os.length c vs.length c' z 1048576 (by omega) (by omega) hnm hnm'
  obtain ⟨l, hl⟩ : ∃ l, szM 1048576 os.length vs.length = l := ⟨_, rfl⟩
  have hp := szM_pos (l := 1048576) (n := os.length) (m := vs.length)
  rw [hl] at hsz hp
  clear hl
  by_cases hneg : l < 0
  · clear hp
    go_enter Try.func5, Try.ntmps5
    go_wp2_with fail
    refine (hsz _).mono ?_
    rintro e w' ⟨rfl, hb⟩
    go_wp2
    go_ret
    exact ⟨rfl, Below.trans (by repeat (first | assumption | exact Below.refl _ _ | apply below_drewN | apply Below.drew | apply Below.alloc | apply Below.setCell | omega | (focus (simp; done)) | (focus (simp; omega)))) (hb.mono (by simp))⟩
  · have hp := hp (by omega)
    have hn : os.length ≤ 1048576 := by omega
    have hn' : vs.length ≤ 1048576 := by omega
    clear hp
    have hPos : 0 ≤ l := by omega
    have hsp := fun W A n c A' n' c' h h' hn hn' => spec_Negm_any W A n c os z A' n' c' vs h h' hn hn'
    have him := fun W A n c A' n' c' h h' hn hn' => impl_Negm_any W A n c os z A' n' c' vs h h' hn hn'
    have hr1 := hide (show ∀ x ∈ gIf os z vs os, i64ok x by unfold gIf; split; exact h.rng; simp)
    have hr2 := hide (show ∀ x ∈ gIf os z vs (negL z vs), i64ok x by
      unfold gIf
      split
      · rename_i hh; have := isM_iff.1 hh; exact negL_rng this.ok.d1 this.ok.d2
      · simp)
    have hl1 := hide (show (gIf os z vs os).length ≤ 1048576 by unfold gIf; split; exact hn; simp)
    have hl2 := hide (show (gIf os z vs (negL z vs)).length ≤ 1048576 by unfold gIf; split; rw [negL_len]; exact hn'; simp)
    obtain ⟨b, hb⟩ : ∃ b, codeM os z vs = b := ⟨_, rfl⟩
    obtain ⟨ro, ho⟩ : ∃ xs, gIf os z vs os = xs := ⟨_, rfl⟩
    obtain ⟨rv, hv⟩ : ∃ xs, gIf os z vs (negL z vs) = xs := ⟨_, rfl⟩
    obtain ⟨rq, hq⟩ : ∃ x, gIfI os z vs z = x := ⟨_, rfl⟩
    rw [hb, ho, hv, hq] at hsp him
    rw [ho] at hr1 hl1
    rw [hv] at hr2 hl2
    clear hb ho hv hq
    go_enter Try.func5, Try.ntmps5
    go_wp2_with fail
    obtain ⟨W, hW⟩ : ∃ W, w.alloc (.cells #[.slice A os.length c, .int .i64 z, .slice A' vs.length c'] 24) = W := ⟨_, rfl⟩
    have hbW : Below w.heap.size w W := by rw [← hW]; exact (by repeat (first | assumption | exact Below.refl _ _ | apply below_drewN | apply Below.drew | apply Below.alloc | apply Below.setCell | omega | (focus (simp; done)) | (focus (simp; omega))))
    have hszW : w.heap.size < W.heap.size := by rw [← hW]; simp
    have bW : Blk W w.heap.size 24 #[.slice A os.length c, .int .i64 z, .slice A' vs.length c'] := by rw [← hW]; exact Blk.new _ _ _
    have q0 := bW.cell 0
    have q1 := bW.cell 1
    have q2 := bW.cell 2
    rw [hW]
    clear hW
    have hs := h.below hbW
    have hs' := h'.below hbW
    go_wp2_with fail
    refine (hsz _).mono ?_
    rintro e w1 ⟨rfl, hb1⟩
    have k1 : Below W.heap.size W w1 := hb1
    have r0 := (k1.cell (p := ⟨w.heap.size, 0, none⟩) hszW).trans q0
    have r1 := (k1.cell (p := ⟨w.heap.size, 1, none⟩) hszW).trans q1
    have r2 := (k1.cell (p := ⟨w.heap.size, 2, none⟩) hszW).trans q2
    go_wp2_with fail
    clear r0 r1 r2
    refine (toMetric_any _ w.heap.size _ _ _ _ _ _ _ _ _ (hs.below (k1.mono (Nat.le_of_lt hszW))) (hs'.below (k1.mono (Nat.le_of_lt hszW))) (by have := k1.size; omega) hn hn').mono ?_
    rintro e w2 ⟨B1, d1, B2, d2, rfl, t1, t2, hb2⟩
    have k2 := k1.trans (hb2.mono k1.size)
    go_wp2_with fail
    refine (hsp _ _ _ _ _ _ _ t1 t2 hn hn').mono ?_
    rintro e w3 ⟨a1, a2, rfl, ha1, ha2, -, hb3⟩
    obtain ⟨Aw1, cw1, rfl, sw1⟩ := ha1.sl hr1.out
    obtain ⟨Aw2, cw2, rfl, sw2⟩ := ha2.sl hr2.out
    have k3 := k2.trans (hb3.mono k2.size)
    clear ha1 ha2 hb2 hb3 t1 t2
    obtain ⟨Y, hXY⟩ : ∃ X, w3.heap.size = X := ⟨_, rfl⟩
    obtain ⟨w3', hWY⟩ : ∃ wn, w3.alloc (.cells #[.slice Aw1 ro.length cw1, .int .i64 rq, .slice Aw2 rv.length cw2] 28) = wn := ⟨_, rfl⟩
    have bY : Blk w3' Y 28 #[.slice Aw1 ro.length cw1, .int .i64 rq, .slice Aw2 rv.length cw2] := by rw [← hWY]; exact Blk.new' _ _ _ _ hXY
    have hb3' : Below w3.heap.size w3 w3' := by rw [← hWY]; exact (Below.refl _ _).alloc (Nat.le_refl _) _
    have k3' := k3.trans (hb3'.mono k3.size)
    have hs33 := hb3'.size
    have sw1 := (sw1.below hb3').more hs33
    have sw2 := (sw2.below hb3').more hs33
    have r0 := (k3'.cell (p := ⟨w.heap.size, 0, none⟩) hszW).trans q0
    have r1 := (k3'.cell (p := ⟨w.heap.size, 1, none⟩) hszW).trans q1
    have r2 := (k3'.cell (p := ⟨w.heap.size, 2, none⟩) hszW).trans q2
    go_wp2_with fail
    clear r0 r1 r2 hXY hWY
    refine (toMetric_own _ w.heap.size _ _ _ _ _ _ _ _ _ (hs.below (k3'.mono (Nat.le_of_lt hszW))) (hs'.below (k3'.mono (Nat.le_of_lt hszW))) (by have := k3'.size; omega) hn hn').mono ?_
    rintro e w4 ⟨x1, x2, rfl, hx1, hx2, hxap, hb4⟩
    obtain ⟨B3, d3, rfl, t3⟩ := hx1.sl h.rng
    obtain ⟨B4, d4, rfl, t4⟩ := hx2.sl h'.rng
    have k4 := k3'.trans (hb4.mono k3'.size)
    have sw1 := sw1.below hb4
    have sw2 := sw2.below hb4
    have bY := bY.all hb4
    obtain ⟨X, hXX⟩ : ∃ X, w4.heap.size = X := ⟨_, rfl⟩
    obtain ⟨w4', hWX⟩ : ∃ wn, w4.alloc (.cells #[.slice B3 os.length d3, .int .i64 z, .slice B4 vs.length d4] 28) = wn := ⟨_, rfl⟩
    have bX : Blk w4' X 28 #[.slice B3 os.length d3, .int .i64 z, .slice B4 vs.length d4] := by rw [← hWX]; exact Blk.new' _ _ _ _ hXX
    have hb4' : Below w4.heap.size w4 w4' := by rw [← hWX]; exact (Below.refl _ _).alloc (Nat.le_refl _) _
    have k4' := k4.trans (hb4'.mono k4.size)
    have hs34 := hb4.size
    have hs44 := hb4'.size
    have sw1 := sw1.below (hb4'.mono hs34)
    have sw2 := sw2.below (hb4'.mono hs34)
    have bY := bY.all hb4'
    have hx1' := hx1.below hb4'
    have hx2' := hx2.below hb4'
    have t3' := (t3.below hb4').more hs44
    have t4' := (t4.below hb4').more hs44
    have x0 := bX.cell 0
    have x1 := bX.cell 1
    have x2 := bX.cell 2
    go_wp2_with fail
    clear x0 x1 x2 hXX hWX
    refine (him _ _ _ _ _ _ _ t3' t4' hn hn').mono ?_
    rintro e w5 ⟨g1, g2, rfl, hog1, hog2, hgap, hb5⟩
    obtain ⟨G1, dg1, rfl, sg1⟩ := hog1.sl hr1.out
    obtain ⟨G2, dg2, rfl, sg2⟩ := hog2.sl hr2.out
    have k5 := k4'.trans (hb5.mono k4'.size)
    have hs45 := hb5.size
    have sw1 := sw1.below (hb5.mono (by omega))
    have sw2 := sw2.below (hb5.mono (by omega))
    have hx1' := hx1'.below hb5
    have hx2' := hx2'.below hb5
    have t3' := t3'.below hb5
    have t4' := t4'.below hb5
    have bX := bX.all hb5
    have bY := bY.all hb5
    have ap11 := (hx1.apart hog1 hs44).symm
    have ap12 := (hx2.apart hog1 hs44).symm
    have ap21 := (hx1.apart hog2 hs44).symm
    have ap22 := (hx2.apart hog2 hs44).symm
    clear hx1 hx2 t3 t4
    obtain ⟨Z, hXZ⟩ : ∃ X, w5.heap.size = X := ⟨_, rfl⟩
    obtain ⟨w5', hWZ⟩ : ∃ wn, w5.alloc (.cells #[.slice G1 ro.length dg1, .int .i64 rq, .slice G2 rv.length dg2] 28) = wn := ⟨_, rfl⟩
    have bZ : Blk w5' Z 28 #[.slice G1 ro.length dg1, .int .i64 rq, .slice G2 rv.length dg2] := by rw [← hWZ]; exact Blk.new' _ _ _ _ hXZ
    have hb5' : Below w5.heap.size w5 w5' := by rw [← hWZ]; exact (Below.refl _ _).alloc (Nat.le_refl _) _
    have k5' := k5.trans (hb5'.mono k5.size)
    have hs55 := hb5'.size
    have sw1 := sw1.below (hb5'.mono (by omega))
    have sw2 := sw2.below (hb5'.mono (by omega))
    have hx1' := hx1'.below hb5'
    have hx2' := hx2'.below hb5'
    have t3' := t3'.below (hb5'.mono (by omega))
    have t4' := t4'.below (hb5'.mono (by omega))
    have bX := bX.all hb5'
    have bY := bY.all hb5'
    have hog1' := hog1.below hb5'
    have hog2' := hog2.below hb5'
    have y0 := bY.cell 0
    have y1 := bY.cell 1
    have y2 := bY.cell 2
    have v0 := bZ.cell 0
    have v1 := bZ.cell 1
    have v2 := bZ.cell 2
    go_wp2_with fail
    clear y0 y1 y2 v0 v1 v2 hXZ hWZ
    refine (eqMetric_any _ _ _ _ _ _ _ _ _ _ _ _ _ _ _ _ _ _ _ _ ((sg1.below hb5').more hs55) ((sg2.below hb5').more hs55) (sw1.more (by omega)) (sw2.more (by omega)) (Nat.le_refl _) hl1.out hl2.out).mono ?_
    rintro e w6 ⟨rfl, hb6⟩
    simp only [beq_self_eq_true, Bool.and_self]
    have k6 := k5'.trans (hb6.mono k5'.size)
    have hs56 := hb6.size
    have sw1 := sw1.below (hb6.mono (by omega))
    have sw2 := sw2.below (hb6.mono (by omega))
    have hx1' := hx1'.below hb6
    have hx2' := hx2'.below hb6
    have t3' := (t3'.below (hb6.mono (by omega))).more (show _ ≤ w6.heap.size by omega)
    have t4' := (t4'.below (hb6.mono (by omega))).more (show _ ≤ w6.heap.size by omega)
    have bX := bX.all hb6
    have bY := bY.all hb6
    have bZ := bZ.all hb6
    have hog1' := hog1'.below hb6
    have hog2' := hog2'.below hb6
    have bW6 := bW.all k6
    have x0 := bX.cell 0
    have x1 := bX.cell 1
    have x2 := bX.cell 2
    have y0 := bW6.cell 0
    have y1 := bW6.cell 1
    have y2 := bW6.cell 2
    have hXl := bX.lt
    have hwl := bW6.lt
    have hs6 := hs.below (k6.mono (Nat.le_of_lt hszW))
    have hs6' := hs'.below (k6.mono (Nat.le_of_lt hszW))
    go_wp2_with fail
    refine wp_region_be [0, 1, 2, 3, 4] 5 w6.heap.size w6 (by kernel_rfl) (by kernel_rfl) (by kernel_rfl) (fun _ _ _ _ _ h => h) (Below.refl _ _) (fun wd hBe => ?_)
    repeat (first | (apply ord_tk rfl (by rfl) (by rfl) (by rfl); (focus (intro wx hSw; have r0 := (hSw.cell (p := ⟨w.heap.size, 0, none⟩) hwl).trans y0; have r1 := (hSw.cell (p := ⟨w.heap.size, 1, none⟩) hwl).trans y1; have r2 := (hSw.cell (p := ⟨w.heap.size, 2, none⟩) hwl).trans y2; have r3 := (hSw.cell (p := ⟨X, 0, none⟩) hXl).trans x0; have r4 := (hSw.cell (p := ⟨X, 1, none⟩) hXl).trans x1; have r5 := (hSw.cell (p := ⟨X, 2, none⟩) hXl).trans x2; go_simp; (try with_reducible rfl))); (try simp only [Act.put, List.setIfInBounds_toArray, List.set_cons_zero, List.set_cons_succ])) | (apply ord_skip rfl (by rfl) (by rfl) (fun _ => hBe); (try simp only [Act.put, List.setIfInBounds_toArray, List.set_cons_zero, List.set_cons_succ])))
    refine ord_do rfl (by rfl) (by rfl) (fun K hK => ?_)
    go_simp
    refine (toMetric_any _ w.heap.size _ _ _ _ _ _ _ _ _ (hs6.below (hBe.mono (Nat.le_of_lt hwl))) (hs6'.below (hBe.mono (Nat.le_of_lt hwl))) (by have := hBe.size; omega) hn hn').mono ?_
    rintro e w7 ⟨B5, d5, B6, d6, rfl, t5, t6, hb7⟩
    replace hBe := hBe.trans (hb7.mono hBe.size)
    refine hK.out _ _ (fun _ => hBe) ?_
    (try simp only [Act.put, List.setIfInBounds_toArray, List.set_cons_zero, List.set_cons_succ])
    clear hK K
    repeat (first | (apply ord_tk rfl (by rfl) (by rfl) (by rfl); (focus (intro wx hSw; have r0 := (hSw.cell (p := ⟨w.heap.size, 0, none⟩) hwl).trans y0; have r1 := (hSw.cell (p := ⟨w.heap.size, 1, none⟩) hwl).trans y1; have r2 := (hSw.cell (p := ⟨w.heap.size, 2, none⟩) hwl).trans y2; have r3 := (hSw.cell (p := ⟨X, 0, none⟩) hXl).trans x0; have r4 := (hSw.cell (p := ⟨X, 1, none⟩) hXl).trans x1; have r5 := (hSw.cell (p := ⟨X, 2, none⟩) hXl).trans x2; go_simp; (try with_reducible rfl))); (try simp only [Act.put, List.setIfInBounds_toArray, List.set_cons_zero, List.set_cons_succ])) | (apply ord_skip rfl (by rfl) (by rfl) (fun _ => hBe); (try simp only [Act.put, List.setIfInBounds_toArray, List.set_cons_zero, List.set_cons_succ])))
    have hz6 := hBe.size
    refine ord_do rfl (by rfl) (by rfl) (fun K hK => ?_)
    go_simp
    refine (eqMetric_any _ _ _ _ _ _ _ _ _ _ _ _ _ _ _ _ _ _ _ _ ((t3'.below hBe).more hz6) ((t4'.below hBe).more hz6) t5 t6 (Nat.le_refl _) hn hn').mono ?_
    rintro e wd' ⟨rfl, hwd⟩
    replace hBe := hBe.trans (hwd.mono hBe.size)
    clear hwd
    refine hK.out _ _ (fun _ => hBe) ?_
    (try simp only [Act.put, List.setIfInBounds_toArray, List.set_cons_zero, List.set_cons_succ])
    clear hK K
    simp only [beq_self_eq_true, Bool.and_self]
    repeat (first | (apply ord_tk rfl (by rfl) (by rfl) (by rfl); (focus (intro wx hSw; have r0 := (hSw.cell (p := ⟨w.heap.size, 0, none⟩) hwl).trans y0; have r1 := (hSw.cell (p := ⟨w.heap.size, 1, none⟩) hwl).trans y1; have r2 := (hSw.cell (p := ⟨w.heap.size, 2, none⟩) hwl).trans y2; have r3 := (hSw.cell (p := ⟨X, 0, none⟩) hXl).trans x0; have r4 := (hSw.cell (p := ⟨X, 1, none⟩) hXl).trans x1; have r5 := (hSw.cell (p := ⟨X, 2, none⟩) hXl).trans x2; go_simp; (try with_reducible rfl))); (try simp only [Act.put, List.setIfInBounds_toArray, List.set_cons_zero, List.set_cons_succ])) | (apply ord_skip rfl (by rfl) (by rfl) (fun _ => hBe); (try simp only [Act.put, List.setIfInBounds_toArray, List.set_cons_zero, List.set_cons_succ])))
    refine ord_nil ?_
    clear x0 x1 x2 y0 y1 y2 t5 t6 hb7 hz6 t3' t4' bW6 hs6 hs6'
    have k8 := k6.trans (hBe.mono k6.size)
    have hs68 := hBe.size
    have hx1' := hx1'.below hBe
    have hx2' := hx2'.below hBe
    have bX := bX.all hBe
    have bY := bY.all hBe
    have bZ := bZ.all hBe
    have hog1' := hog1'.below hBe
    have hog2' := hog2'.below hBe
    have sw1 := sw1.below (hBe.mono (by omega))
    have sw2 := sw2.below (hBe.mono (by omega))
    have x0 := bX.cell 0
    have x1 := bX.cell 1
    have x2 := bX.cell 2
    go_wp2_with fail
    clear x0 x1 x2
    refine (markMetric_any _ _ _ _ _ _ _ _ hx1' hx2' hxap hn hn' (by omega) (by omega)).mono ?_
    rintro e w9 hM
    have hb9 : Below w3'.heap.size wd' w9 := hM.keep (Nat.le_refl _) (by omega) hx1' hx2'
    have hog1' := hM.ow hog1' ap11 ap12
    have hog2' := hM.ow hog2' ap21 ap22
    have bY := hM.blk bY (by decide) hx1' hx2'
    have bZ := hM.blk bZ (by decide) hx1' hx2'
    have k3s := k3'.size
    have k9 := k8.trans (hb9.mono k3s)
    have sw1 := sw1.below hb9
    have sw2 := sw2.below hb9
    have hs89 := hb9.size
    obtain ⟨rfl, -⟩ := hM
    obtain ⟨kk, hkk, hkk0⟩ : ∃ kk : Int, 1 + (os.length : Int) + (vs.length : Int) = kk ∧ 0 ≤ kk := ⟨_, rfl, by omega⟩
    rw [hkk]
    have HKK := hide hkk
    clear hkk hx1' hx2' bX
    have sg1' := hog1.two rfl hog1' rfl hr1.out
    have sg2' := hog2.two rfl hog2' rfl hr2.out
    have y0 := bY.cell 0
    have y1 := bY.cell 1
    have y2 := bY.cell 2
    have v0 := bZ.cell 0
    have v1 := bZ.cell 1
    have v2 := bZ.cell 2
    go_wp2_with fail
    clear y0 y1 y2 v0 v1 v2
    refine (eqMetric_any _ _ _ _ _ _ _ _ _ _ _ _ _ _ _ _ _ _ _ _ sg1' sg2' (sw1.more (by omega)) (sw2.more (by omega)) (Nat.le_refl _) hl1.out hl2.out).mono ?_
    rintro e w10 ⟨rfl, hb10⟩
    simp only [beq_self_eq_true, Bool.and_self]
    have k10 := k9.trans (hb10.mono k9.size)
    have hog1' := hog1'.below hb10
    have hog2' := hog2'.below hb10
    have sw1 := sw1.below (hb10.mono (by omega))
    have sw2 := sw2.below (hb10.mono (by omega))
    have bY := bY.all hb10
    have bZ := bZ.all hb10
    have hs90 := hb10.size
    have hL1 := hl1.out
    have hL2 := hl2.out
    clear sg1' sg2'
    have v0 := bZ.cell 0
    have v1 := bZ.cell 1
    have v2 := bZ.cell 2
    go_wp2_with fail
    clear v0 v1 v2
    refine (markMetric_any _ _ _ _ _ _ _ _ hog1' hog2' hgap hL1 hL2 (by omega) (by omega)).mono ?_
    rintro e w11 hM
    have hb11 : Below w4'.heap.size w10 w11 := hM.keep (Nat.le_refl _) (by omega) hog1' hog2'
    have bY := hM.blk bY (by decide) hog1' hog2'
    have bZ := hM.blk bZ (by decide) hog1' hog2'
    have k11 := k10.trans (hb11.mono k4'.size)
    have hs11 := hb11.size
    have sw1 := sw1.below (hb11.mono (by omega))
    have sw2 := sw2.below (hb11.mono (by omega))
    obtain ⟨rfl, hm1, hm2, -⟩ := hM
    have sm1 := hog1.two rfl hm1 (marks_length _ _) (marks_rng _ _ (by omega) (by omega) hL1)
    have sm2 := hog2.two rfl hm2 (marks_length _ _) (marks_rng _ _ (by omega) (by omega) hL2)
    obtain ⟨mm, hmm, hmm0⟩ : ∃ mm : Int, 1 + (ro.length : Int) + (rv.length : Int) = mm ∧ 0 ≤ mm := ⟨_, rfl, by omega⟩
    have hmk : heldM 1 (marks 1 ro.length) (marks (1 + ro.length) rv.length) = mm := by
      have e1 : heldI 1 (marks 1 ro.length) = 1 + ro.length := heldI_marks _ _
      have e2 : heldI (1 + ro.length) (marks (1 + ro.length) rv.length) = 1 + ro.length + rv.length := heldI_marks _ _
      rw [heldM_3 (by rw [e1]; omega) (by rw [e1, e2]; omega), e1, e2, hmm]
    rw [hmm]
    have HMM := hide hmm
    have HMK := hide hmk
    clear hmm hmk hog1' hog2' hm1 hm2
    have v0 := bZ.cell 0
    have v1 := bZ.cell 1
    have v2 := bZ.cell 2
    go_wp2_with fail
    clear v0 v1 v2
    refine (heldMetric_any _ _ _ _ _ _ _ _ _ 1 _ _ sm1 sm2 (Nat.le_refl _) hL1 hL2 (by omega) (by omega)).mono ?_
    rintro e w12 ⟨rfl, hb12⟩
    rw [HMK.out]
    have k12 := k11.trans (hb12.mono k11.size)
    have hs12 := hb12.size
    have sw1 := sw1.below (hb12.mono (by omega))
    have sw2 := sw2.below (hb12.mono (by omega))
    have sm1 := sm1.below hb12
    have sm2 := sm2.below hb12
    have bY := bY.all hb12
    have bZ := bZ.all hb12
    have r0 := (k12.cell (p := ⟨w.heap.size, 0, none⟩) hszW).trans q0
    have r1 := (k12.cell (p := ⟨w.heap.size, 1, none⟩) hszW).trans q1
    have r2 := (k12.cell (p := ⟨w.heap.size, 2, none⟩) hszW).trans q2
    go_wp2_with fail
    clear r0 r1 r2
    refine (toMetric_any _ w.heap.size _ _ _ _ _ _ _ _ _ (hs.below (k12.mono (Nat.le_of_lt hszW))) (hs'.below (k12.mono (Nat.le_of_lt hszW))) (by have := k12.size; omega) hn hn').mono ?_
    rintro e w13 ⟨B7, d7, B8, d8, rfl, t7, t8, hb13⟩
    have k13 := k12.trans (hb13.mono k12.size)
    have hs13 := hb13.size
    have sw1 := sw1.below (hb13.mono (by omega))
    have sw2 := sw2.below (hb13.mono (by omega))
    have sm1 := sm1.below (hb13.mono (by omega))
    have sm2 := sm2.below (hb13.mono (by omega))
    have bY := bY.all hb13
    have bZ := bZ.all hb13
    go_wp2_with fail
    refine (him _ _ _ _ _ _ _ t7 t8 hn hn').mono ?_
    rintro e w14 ⟨e1, e2, rfl, hoh1, hoh2, -, hb14⟩
    obtain ⟨H1, dh1, rfl, sh1⟩ := hoh1.sl hr1.out
    obtain ⟨H2, dh2, rfl, sh2⟩ := hoh2.sl hr2.out
    have k14 := k13.trans (hb14.mono k13.size)
    have hs14 := hb14.size
    have sw1 := sw1.below (hb14.mono (by omega))
    have sw2 := sw2.below (hb14.mono (by omega))
    have sm1 := sm1.below (hb14.mono (by omega))
    have sm2 := sm2.below (hb14.mono (by omega))
    have bY := bY.all hb14
    have bZ := bZ.all hb14
    clear t7 t8 hoh1 hoh2
    obtain ⟨V, hXV⟩ : ∃ X, w14.heap.size = X := ⟨_, rfl⟩
    obtain ⟨w14', hWV⟩ : ∃ wn, w14.alloc (.cells #[.slice H1 ro.length dh1, .int .i64 rq, .slice H2 rv.length dh2] 28) = wn := ⟨_, rfl⟩
    have bV : Blk w14' V 28 #[.slice H1 ro.length dh1, .int .i64 rq, .slice H2 rv.length dh2] := by rw [← hWV]; exact Blk.new' _ _ _ _ hXV
    have hb14' : Below w14.heap.size w14 w14' := by rw [← hWV]; exact (Below.refl _ _).alloc (Nat.le_refl _) _
    have k14' := k14.trans (hb14'.mono k14.size)
    have hs144 := hb14'.size
    have sw1 := sw1.below (hb14'.mono (by omega))
    have sw2 := sw2.below (hb14'.mono (by omega))
    have sm1 := sm1.below (hb14'.mono (by omega))
    have sm2 := sm2.below (hb14'.mono (by omega))
    have bY := bY.all hb14'
    have bZ := bZ.all hb14'
    have x0 := bV.cell 0
    have x1 := bV.cell 1
    have x2 := bV.cell 2
    have y0 := bY.cell 0
    have y1 := bY.cell 1
    have y2 := bY.cell 2
    go_wp2_with fail
    clear y0 y1 y2 x0 x1 x2 hXV hWV
    refine (eqMetric_any _ _ _ _ _ _ _ _ _ _ _ _ _ _ _ _ _ _ _ _ ((sh1.below hb14').more hs144) ((sh2.below hb14').more hs144) (sw1.more (by omega)) (sw2.more (by omega)) (Nat.le_refl _) hl1.out hl2.out).mono ?_
    rintro e w15 ⟨rfl, hb15⟩
    simp only [beq_self_eq_true, Bool.and_self]
    have k15 := k14'.trans (hb15.mono k14'.size)
    have hs15 := hb15.size
    have sm1 := sm1.below (hb15.mono (by omega))
    have sm2 := sm2.below (hb15.mono (by omega))
    have bZ := bZ.all hb15
    have v0 := bZ.cell 0
    have v1 := bZ.cell 1
    have v2 := bZ.cell 2
    go_wp2_with fail
    clear v0 v1 v2
    refine (heldMetric_any _ _ _ _ _ _ _ _ _ 1 _ _ (sm1.more (by omega)) (sm2.more (by omega)) (Nat.le_refl _) hL1 hL2 (by omega) (by omega)).mono ?_
    rintro e w16 ⟨rfl, hb16⟩
    rw [HMK.out]
    have k16 := k15.trans (hb16.mono k15.size)
    go_wp2_with fail
    go_ret
    exact ⟨rfl, hbW.trans (k16.mono (Nat.le_of_lt hszW))⟩
end Go.Proofs.Ytmnljlefjafcdaa
