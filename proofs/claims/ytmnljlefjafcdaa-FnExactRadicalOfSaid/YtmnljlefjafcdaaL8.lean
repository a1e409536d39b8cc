/- The walks of the laws FnExactIsNondegenerate, FnExactRadicalOf. -/
import Derived.Test.YtmnljlefjafcdaaLO
import Derived.Test.YtmnljlefjafcdaaR2
import Derived.Test.YtmnljlefjafcdaaOpM
import Derived.WalkLawsBesides
namespace Go.Proofs.Ytmnljlefjafcdaa
open Go Go.RowKit
set_option linter.unusedSimpArgs false
set_option linter.unusedVariables false
set_option maxHeartbeats 1000000 in
theorem law_IsNondegenerate {w : World} (A : Option Addr) (n c : Nat) (os : List Int) (z : Int) (A' : Option Addr) (n' c' : Nat) (vs : List Int) (h0 : SlIn w A n c os) (h1 : SlIn w A' n' c' vs) (hz : i64ok z) :
    Calls Try.prog 3 #[.agg #[.slice A n c, .int .i64 z, .slice A' n' c']] w (Re w (.bool true)) := by
  obtain ⟨h, hnm⟩ := h0
  obtain ⟨h', hnm'⟩ := h1
  obtain rfl := h.len
  obtain rfl := h'.len
  have hsz := fun W => szMetric_any W A A' os.length c vs.length c' z 1048576 (by omega) (by omega) hnm hnm'
  obtain ⟨l, hl⟩ : ∃ l, szM 1048576 os.length vs.length = l := ⟨_, rfl⟩
  have hp := szM_pos (l := 1048576) (n := os.length) (m := vs.length)
  rw [hl] at hsz hp
  clear hl
  by_cases hneg : l < 0
  · clear hp
    go_enter Try.func3, Try.ntmps3
    go_wp2_with fail
    refine (hsz _).mono ?_
    rintro e w' ⟨rfl, hb⟩
    go_wp2
    go_ret
    exact ⟨rfl, Below.trans (by repeat (first | assumption | exact Below.refl _ _ | apply below_drewN | apply Below.drew | apply Below.alloc | apply Below.setCell | omega | (focus (simp; done)) | (focus (simp; omega)))) (hb.mono (by simp))⟩
  · have hp := hp (by omega)
    have hn : os.length ≤ 1048576 := by omega
    have hn' : vs.length ≤ 1048576 := by omega
    clear hp
    have hPos : 0 ≤ l := by omega
    have hsp := fun W A n c A' n' c' h h' hn hn' => spec_Ndg_any W A n c os z A' n' c' vs h h' hn hn'
    have him := fun W A n c A' n' c' h h' hn hn' => impl_Ndg_any W A n c os z A' n' c' vs h h' hn hn'
    obtain ⟨b, hb⟩ : ∃ b, codeM os z vs = b := ⟨_, rfl⟩
    obtain ⟨a, ha⟩ : ∃ a, ndgM os z vs = a := ⟨_, rfl⟩
    rw [hb, ha] at hsp him
    clear hb ha
    go_enter Try.func3, Try.ntmps3
    go_wp2_with fail
    obtain ⟨W, hW⟩ : ∃ W, w.alloc (.cells #[.slice A os.length c, .int .i64 z, .slice A' vs.length c'] 24) = W := ⟨_, rfl⟩
    have hbW : Below w.heap.size w W := by rw [← hW]; exact (by repeat (first | assumption | exact Below.refl _ _ | apply below_drewN | apply Below.drew | apply Below.alloc | apply Below.setCell | omega | (focus (simp; done)) | (focus (simp; omega))))
    have hszW : w.heap.size < W.heap.size := by rw [← hW]; simp
    have bW : Blk W w.heap.size 24 #[.slice A os.length c, .int .i64 z, .slice A' vs.length c'] := by rw [← hW]; exact Blk.new _ _ _
    have q0 := bW.cell 0
    have q1 := bW.cell 1
    have q2 := bW.cell 2
    rw [hW]
    clear hW
    have hs := h.below hbW
    have hs' := h'.below hbW
    go_wp2_with fail
    refine (hsz _).mono ?_
    rintro e w1 ⟨rfl, hb1⟩
    have k1 : Below W.heap.size W w1 := hb1
    have r0 := (k1.cell (p := ⟨w.heap.size, 0, none⟩) hszW).trans q0
    have r1 := (k1.cell (p := ⟨w.heap.size, 1, none⟩) hszW).trans q1
    have r2 := (k1.cell (p := ⟨w.heap.size, 2, none⟩) hszW).trans q2
    go_wp2_with fail
    clear r0 r1 r2
    refine (toMetric_any _ w.heap.size _ _ _ _ _ _ _ _ _ (hs.below (k1.mono (Nat.le_of_lt hszW))) (hs'.below (k1.mono (Nat.le_of_lt hszW))) (by have := k1.size; omega) hn hn').mono ?_
    rintro e w2 ⟨B1, d1, B2, d2, rfl, t1, t2, hb2⟩
    have k2 := k1.trans (hb2.mono k1.size)
    go_wp2_with fail
    refine (hsp _ _ _ _ _ _ _ t1 t2 hn hn').mono ?_
    rintro e w3 ⟨rfl, hb3⟩
    have k3 := k2.trans (hb3.mono k2.size)
    have r0 := (k3.cell (p := ⟨w.heap.size, 0, none⟩) hszW).trans q0
    have r1 := (k3.cell (p := ⟨w.heap.size, 1, none⟩) hszW).trans q1
    have r2 := (k3.cell (p := ⟨w.heap.size, 2, none⟩) hszW).trans q2
    go_wp2_with fail
    clear r0 r1 r2
    refine (toMetric_any _ w.heap.size _ _ _ _ _ _ _ _ _ (hs.below (k3.mono (Nat.le_of_lt hszW))) (hs'.below (k3.mono (Nat.le_of_lt hszW))) (by have := k3.size; omega) hn hn').mono ?_
    rintro e w4 ⟨B3, d3, B4, d4, rfl, t3, t4, hb4⟩
    have k4 := k3.trans (hb4.mono k3.size)
    obtain ⟨X, hX⟩ : ∃ X, w4.heap.size = X := ⟨_, rfl⟩
    have t3 := t3.alloc (Nat.le_refl _) (.cells #[.slice B3 os.length d3, .int .i64 z, .slice B4 vs.length d4] 28)
    have t4 := t4.alloc (Nat.le_refl _) (.cells #[.slice B3 os.length d3, .int .i64 z, .slice B4 vs.length d4] 28)
    have bX : Blk (w4.alloc (.cells #[.slice B3 os.length d3, .int .i64 z, .slice B4 vs.length d4] 28)) X 28 #[.slice B3 os.length d3, .int .i64 z, .slice B4 vs.length d4] := Blk.new' _ _ _ _ hX
    go_wp2_with fail
    refine (him _ _ _ _ _ _ _ (t3.more (by simp)) (t4.more (by simp)) hn hn').mono ?_
    rintro e w5 ⟨rfl, hb5⟩
    have k4a := k4.alloc k4.size (.cells #[.slice B3 os.length d3, .int .i64 z, .slice B4 vs.length d4] 28)
    have k5 := k4a.trans (hb5.mono k4a.size)
    have t3' : Sl w5 w5.heap.size B3 os.length d3 os := (t3.below (hb5.mono (by simp))).more (by have := hb5.size; simp at this; omega)
    have t4' : Sl w5 w5.heap.size B4 vs.length d4 vs := (t4.below (hb5.mono (by simp))).more (by have := hb5.size; simp at this; omega)
    have bX5 := bX.all hb5
    have bW5 := bW.all k5
    have hs5 := (hs.below (k5.mono (Nat.le_of_lt hszW)))
    have hs5' := (hs'.below (k5.mono (Nat.le_of_lt hszW)))
    clear bX t3 t4 k4a
    have x0 := bX5.cell 0
    have x1 := bX5.cell 1
    have x2 := bX5.cell 2
    have y0 := bW5.cell 0
    have y1 := bW5.cell 1
    have y2 := bW5.cell 2
    have hXl := bX5.lt
    have hwl := bW5.lt
    go_wp2_with fail
    refine wp_region_be [0, 1, 2, 3, 4] 5 w5.heap.size w5 (by kernel_rfl) (by kernel_rfl) (by kernel_rfl) (fun _ _ _ _ _ h => h) (Below.refl _ _) (fun wd hBe => ?_)
    repeat (first | (apply ord_tk rfl (by rfl) (by rfl) (by rfl); (focus (intro wx hSw; have r0 := (hSw.cell (p := ⟨w.heap.size, 0, none⟩) hwl).trans y0; have r1 := (hSw.cell (p := ⟨w.heap.size, 1, none⟩) hwl).trans y1; have r2 := (hSw.cell (p := ⟨w.heap.size, 2, none⟩) hwl).trans y2; have r3 := (hSw.cell (p := ⟨X, 0, none⟩) hXl).trans x0; have r4 := (hSw.cell (p := ⟨X, 1, none⟩) hXl).trans x1; have r5 := (hSw.cell (p := ⟨X, 2, none⟩) hXl).trans x2; go_simp; (try with_reducible rfl))); (try simp only [Act.put, List.setIfInBounds_toArray, List.set_cons_zero, List.set_cons_succ])) | (apply ord_skip rfl (by rfl) (by rfl) (fun _ => hBe); (try simp only [Act.put, List.setIfInBounds_toArray, List.set_cons_zero, List.set_cons_succ])))
    refine ord_do rfl (by rfl) (by rfl) (fun K hK => ?_)
    go_simp
    refine (toMetric_any _ w.heap.size _ _ _ _ _ _ _ _ _ (hs5.below (hBe.mono (Nat.le_of_lt hwl))) (hs5'.below (hBe.mono (Nat.le_of_lt hwl))) (by have := hBe.size; omega) hn hn').mono ?_
    rintro e w6 ⟨B5, d5, B6, d6, rfl, t5, t6, hb6⟩
    replace hBe := hBe.trans (hb6.mono hBe.size)
    refine hK.out _ _ (fun _ => hBe) ?_
    (try simp only [Act.put, List.setIfInBounds_toArray, List.set_cons_zero, List.set_cons_succ])
    clear hK K
    repeat (first | (apply ord_tk rfl (by rfl) (by rfl) (by rfl); (focus (intro wx hSw; have r0 := (hSw.cell (p := ⟨w.heap.size, 0, none⟩) hwl).trans y0; have r1 := (hSw.cell (p := ⟨w.heap.size, 1, none⟩) hwl).trans y1; have r2 := (hSw.cell (p := ⟨w.heap.size, 2, none⟩) hwl).trans y2; have r3 := (hSw.cell (p := ⟨X, 0, none⟩) hXl).trans x0; have r4 := (hSw.cell (p := ⟨X, 1, none⟩) hXl).trans x1; have r5 := (hSw.cell (p := ⟨X, 2, none⟩) hXl).trans x2; go_simp; (try with_reducible rfl))); (try simp only [Act.put, List.setIfInBounds_toArray, List.set_cons_zero, List.set_cons_succ])) | (apply ord_skip rfl (by rfl) (by rfl) (fun _ => hBe); (try simp only [Act.put, List.setIfInBounds_toArray, List.set_cons_zero, List.set_cons_succ])))
    have hz6 := hBe.size
    refine ord_do rfl (by rfl) (by rfl) (fun K hK => ?_)
    go_simp
    refine (eqMetric_any _ _ _ _ _ _ _ _ _ _ _ _ _ _ _ _ _ _ _ _ ((t3'.below hBe).more hz6) ((t4'.below hBe).more hz6) t5 t6 (Nat.le_refl _) hn hn').mono ?_
    rintro e wd' ⟨rfl, hwd⟩
    replace hBe := hBe.trans (hwd.mono hBe.size)
    clear hwd
    refine hK.out _ _ (fun _ => hBe) ?_
    (try simp only [Act.put, List.setIfInBounds_toArray, List.set_cons_zero, List.set_cons_succ])
    clear hK K
    simp only [beq_self_eq_true, Bool.and_self]
    repeat (first | (apply ord_tk rfl (by rfl) (by rfl) (by rfl); (focus (intro wx hSw; have r0 := (hSw.cell (p := ⟨w.heap.size, 0, none⟩) hwl).trans y0; have r1 := (hSw.cell (p := ⟨w.heap.size, 1, none⟩) hwl).trans y1; have r2 := (hSw.cell (p := ⟨w.heap.size, 2, none⟩) hwl).trans y2; have r3 := (hSw.cell (p := ⟨X, 0, none⟩) hXl).trans x0; have r4 := (hSw.cell (p := ⟨X, 1, none⟩) hXl).trans x1; have r5 := (hSw.cell (p := ⟨X, 2, none⟩) hXl).trans x2; go_simp; (try with_reducible rfl))); (try simp only [Act.put, List.setIfInBounds_toArray, List.set_cons_zero, List.set_cons_succ])) | (apply ord_skip rfl (by rfl) (by rfl) (fun _ => hBe); (try simp only [Act.put, List.setIfInBounds_toArray, List.set_cons_zero, List.set_cons_succ])))
    refine ord_nil ?_
    go_wp2
    go_ret
    exact ⟨rfl, hbW.trans ((k5.trans (hBe.mono k5.size)).mono (Nat.le_of_lt hszW))⟩
set_option maxHeartbeats 4000000 in
theorem law_RadicalOf {w : World} (A : Option Addr) (n c : Nat) (os : List Int) (z : Int) (A' : Option Addr) (n' c' : Nat) (vs : List Int) (h0 : SlIn w A n c os) (h1 : SlIn w A' n' c' vs) (hz : i64ok z) :
    Calls Try.prog 4 #[.agg #[.slice A n c, .int .i64 z, .slice A' n' c']] w (Re w (.bool true)) := by
  obtain ⟨h, hnm⟩ := h0
  obtain ⟨h', hnm'⟩ := h1
  obtain rfl := h.len
  obtain rfl := h'.len
  have hsz := fun W => szMetric_any W A A' os.length c vs.length c' z 1048576 (by omega) (by omega) hnm hnm'
  obtain ⟨l, hl⟩ : ∃ l, szM 1048576 os.length vs.length = l := ⟨_, rfl⟩
  have hp := szM_pos (l := 1048576) (n := os.length) (m := vs.length)
  rw [hl] at hsz hp
  clear hl
  by_cases hneg : l < 0
  · clear hp
    go_enter Try.func4, Try.ntmps4
    go_wp2_with fail
    refine (hsz _).mono ?_
    rintro e w' ⟨rfl, hb⟩
    go_wp2
    go_ret
    exact ⟨rfl, Below.trans (by repeat (first | assumption | exact Below.refl _ _ | apply below_drewN | apply Below.drew | apply Below.alloc | apply Below.setCell | omega | (focus (simp; done)) | (focus (simp; omega)))) (hb.mono (by simp))⟩
  · have hp := hp (by omega)
    have hn : os.length ≤ 1048576 := by omega
    have hn' : vs.length ≤ 1048576 := by omega
    clear hp
    have hPos : 0 ≤ l := by omega
    have hsp := fun W A n c A' n' c' h h' hn hn' => spec_Rad_any W A n c os z A' n' c' vs h h' hn hn'
    have him := fun W A n c A' n' c' h h' hn hn' => impl_Rad_any W A n c os z A' n' c' vs h h' hn hn'
    have hxr := hide (show ∀ x ∈ radM os z vs, i64ok x by unfold radM; split; exact radL_rng hn'; simp)
    have hxl := hide (show (radM os z vs).length ≤ 1048576 by unfold radM; split; exact Nat.le_trans (radL_len _ _ _ _) hn'; simp)
    obtain ⟨b, hb⟩ : ∃ b, codeM os z vs = b := ⟨_, rfl⟩
    obtain ⟨xs, ha⟩ : ∃ xs, radM os z vs = xs := ⟨_, rfl⟩
    rw [hb, ha] at hsp him
    rw [ha] at hxr hxl
    clear hb ha
    go_enter Try.func4, Try.ntmps4
    go_wp2_with fail
    obtain ⟨W, hW⟩ : ∃ W, w.alloc (.cells #[.slice A os.length c, .int .i64 z, .slice A' vs.length c'] 24) = W := ⟨_, rfl⟩
    have hbW : Below w.heap.size w W := by rw [← hW]; exact (by repeat (first | assumption | exact Below.refl _ _ | apply below_drewN | apply Below.drew | apply Below.alloc | apply Below.setCell | omega | (focus (simp; done)) | (focus (simp; omega))))
    have hszW : w.heap.size < W.heap.size := by rw [← hW]; simp
    have bW : Blk W w.heap.size 24 #[.slice A os.length c, .int .i64 z, .slice A' vs.length c'] := by rw [← hW]; exact Blk.new _ _ _
    have q0 := bW.cell 0
    have q1 := bW.cell 1
    have q2 := bW.cell 2
    rw [hW]
    clear hW
    have hs := h.below hbW
    have hs' := h'.below hbW
    go_wp2_with fail
    refine (hsz _).mono ?_
    rintro e w1 ⟨rfl, hb1⟩
    have k1 : Below W.heap.size W w1 := hb1
    have r0 := (k1.cell (p := ⟨w.heap.size, 0, none⟩) hszW).trans q0
    have r1 := (k1.cell (p := ⟨w.heap.size, 1, none⟩) hszW).trans q1
    have r2 := (k1.cell (p := ⟨w.heap.size, 2, none⟩) hszW).trans q2
    go_wp2_with fail
    clear r0 r1 r2
    refine (toMetric_any _ w.heap.size _ _ _ _ _ _ _ _ _ (hs.below (k1.mono (Nat.le_of_lt hszW))) (hs'.below (k1.mono (Nat.le_of_lt hszW))) (by have := k1.size; omega) hn hn').mono ?_
    rintro e w2 ⟨B1, d1, B2, d2, rfl, t1, t2, hb2⟩
    have k2 := k1.trans (hb2.mono k1.size)
    go_wp2_with fail
    refine (hsp _ _ _ _ _ _ _ t1 t2 hn hn').mono ?_
    rintro e w3 ⟨vw, rfl, how, hb3⟩
    obtain ⟨Aw, cw, rfl, sw⟩ := how.sl hxr.out
    have k3 := k2.trans (hb3.mono k2.size)
    clear how hb2 hb3 t1 t2
    have r0 := (k3.cell (p := ⟨w.heap.size, 0, none⟩) hszW).trans q0
    have r1 := (k3.cell (p := ⟨w.heap.size, 1, none⟩) hszW).trans q1
    have r2 := (k3.cell (p := ⟨w.heap.size, 2, none⟩) hszW).trans q2
    go_wp2_with fail
    clear r0 r1 r2
    refine (toMetric_own _ w.heap.size _ _ _ _ _ _ _ _ _ (hs.below (k3.mono (Nat.le_of_lt hszW))) (hs'.below (k3.mono (Nat.le_of_lt hszW))) (by have := k3.size; omega) hn hn').mono ?_
    rintro e w4 ⟨x1, x2, rfl, hx1, hx2, hxap, hb4⟩
    obtain ⟨B3, d3, rfl, t3⟩ := hx1.sl h.rng
    obtain ⟨B4, d4, rfl, t4⟩ := hx2.sl h'.rng
    have k4 := k3.trans (hb4.mono k3.size)
    have sw4 := sw.below hb4
    obtain ⟨X, hX⟩ : ∃ X, w4.heap.size = X := ⟨_, rfl⟩
    obtain ⟨w4', hw4'⟩ : ∃ w4', w4.alloc (.cells #[.slice B3 os.length d3, .int .i64 z, .slice B4 vs.length d4] 28) = w4' := ⟨_, rfl⟩
    have bX : Blk w4' X 28 #[.slice B3 os.length d3, .int .i64 z, .slice B4 vs.length d4] := by rw [← hw4']; exact Blk.new' _ _ _ _ hX
    have hb4' : Below w4.heap.size w4 w4' := by rw [← hw4']; exact (Below.refl _ _).alloc (Nat.le_refl _) _
    have k4' := k4.trans (hb4'.mono k4.size)
    have sw4' := sw4.below (hb4'.mono hb4.size)
    have hx1' := hx1.below hb4'
    have hx2' := hx2.below hb4'
    have t3' := (t3.below hb4').more hb4'.size
    have t4' := (t4.below hb4').more hb4'.size
    have hs34 := hb4.size
    have hs44 := hb4'.size
    have x0 := bX.cell 0
    have x1 := bX.cell 1
    have x2 := bX.cell 2
    go_wp2_with fail
    clear x0 x1 x2
    refine (him _ _ _ _ _ _ _ t3' t4' hn hn').mono ?_
    rintro e w5 ⟨g, rfl, hog, hb5⟩
    obtain ⟨G, dg, rfl, sg⟩ := hog.sl hxr.out
    have k5 := k4'.trans (hb5.mono k4'.size)
    have hs45 := hb5.size
    have sw5 := sw4'.below (hb5.mono (by omega))
    have hx15 := hx1'.below hb5
    have hx25 := hx2'.below hb5
    have t35 := t3'.below hb5
    have t45 := t4'.below hb5
    have bX5 := bX.all hb5
    have ap1 := (hx1.apart hog hb4'.size).symm
    have ap2 := (hx2.apart hog hb4'.size).symm
    clear hx1 hx2 hx1' hx2' t3 t4 t3' t4' bX hw4' sw4 sw4' sw
    go_wp2_with fail
    refine ((eqInt64S_any _ _ _ _ _ _ _ _ _ _ _ sg sw5 hxl.out).mono fun _ _ h => Qt.re h).mono ?_
    rintro e w6 ⟨rfl, hb6⟩
    simp only [beq_self_eq_true]
    have k6 := k5.trans (hb6.mono k5.size)
    have hs56 := hb6.size
    have sw6 := sw5.below (hb6.mono (by omega))
    have hx16 := hx15.below hb6
    have hx26 := hx25.below hb6
    have t36 := (t35.below (hb6.mono (by omega))).more (show _ ≤ w6.heap.size by omega)
    have t46 := (t45.below (hb6.mono (by omega))).more (show _ ≤ w6.heap.size by omega)
    have bX6 := bX5.all hb6
    have hog6 := hog.below hb6
    clear hx15 hx25 t35 t45 bX5 sw5 sg
    have bW6 := bW.all k6
    have x0 := bX6.cell 0
    have x1 := bX6.cell 1
    have x2 := bX6.cell 2
    have y0 := bW6.cell 0
    have y1 := bW6.cell 1
    have y2 := bW6.cell 2
    have hXl := bX6.lt
    have hwl := bW6.lt
    have hs6 := hs.below (k6.mono (Nat.le_of_lt hszW))
    have hs6' := hs'.below (k6.mono (Nat.le_of_lt hszW))
    go_wp2_with fail
    refine wp_region_be [0, 1, 2, 3, 4] 5 w6.heap.size w6 (by kernel_rfl) (by kernel_rfl) (by kernel_rfl) (fun _ _ _ _ _ h => h) (Below.refl _ _) (fun wd hBe => ?_)
    repeat (first | (apply ord_tk rfl (by rfl) (by rfl) (by rfl); (focus (intro wx hSw; have r0 := (hSw.cell (p := ⟨w.heap.size, 0, none⟩) hwl).trans y0; have r1 := (hSw.cell (p := ⟨w.heap.size, 1, none⟩) hwl).trans y1; have r2 := (hSw.cell (p := ⟨w.heap.size, 2, none⟩) hwl).trans y2; have r3 := (hSw.cell (p := ⟨X, 0, none⟩) hXl).trans x0; have r4 := (hSw.cell (p := ⟨X, 1, none⟩) hXl).trans x1; have r5 := (hSw.cell (p := ⟨X, 2, none⟩) hXl).trans x2; go_simp; (try with_reducible rfl))); (try simp only [Act.put, List.setIfInBounds_toArray, List.set_cons_zero, List.set_cons_succ])) | (apply ord_skip rfl (by rfl) (by rfl) (fun _ => hBe); (try simp only [Act.put, List.setIfInBounds_toArray, List.set_cons_zero, List.set_cons_succ])))
    refine ord_do rfl (by rfl) (by rfl) (fun K hK => ?_)
    go_simp
    refine (toMetric_any _ w.heap.size _ _ _ _ _ _ _ _ _ (hs6.below (hBe.mono (Nat.le_of_lt hwl))) (hs6'.below (hBe.mono (Nat.le_of_lt hwl))) (by have := hBe.size; omega) hn hn').mono ?_
    rintro e w7 ⟨B5, d5, B6, d6, rfl, t5, t6, hb7⟩
    replace hBe := hBe.trans (hb7.mono hBe.size)
    refine hK.out _ _ (fun _ => hBe) ?_
    (try simp only [Act.put, List.setIfInBounds_toArray, List.set_cons_zero, List.set_cons_succ])
    clear hK K
    repeat (first | (apply ord_tk rfl (by rfl) (by rfl) (by rfl); (focus (intro wx hSw; have r0 := (hSw.cell (p := ⟨w.heap.size, 0, none⟩) hwl).trans y0; have r1 := (hSw.cell (p := ⟨w.heap.size, 1, none⟩) hwl).trans y1; have r2 := (hSw.cell (p := ⟨w.heap.size, 2, none⟩) hwl).trans y2; have r3 := (hSw.cell (p := ⟨X, 0, none⟩) hXl).trans x0; have r4 := (hSw.cell (p := ⟨X, 1, none⟩) hXl).trans x1; have r5 := (hSw.cell (p := ⟨X, 2, none⟩) hXl).trans x2; go_simp; (try with_reducible rfl))); (try simp only [Act.put, List.setIfInBounds_toArray, List.set_cons_zero, List.set_cons_succ])) | (apply ord_skip rfl (by rfl) (by rfl) (fun _ => hBe); (try simp only [Act.put, List.setIfInBounds_toArray, List.set_cons_zero, List.set_cons_succ])))
    have hz6 := hBe.size
    refine ord_do rfl (by rfl) (by rfl) (fun K hK => ?_)
    go_simp
    refine (eqMetric_any _ _ _ _ _ _ _ _ _ _ _ _ _ _ _ _ _ _ _ _ ((t36.below hBe).more hz6) ((t46.below hBe).more hz6) t5 t6 (Nat.le_refl _) hn hn').mono ?_
    rintro e wd' ⟨rfl, hwd⟩
    replace hBe := hBe.trans (hwd.mono hBe.size)
    clear hwd
    refine hK.out _ _ (fun _ => hBe) ?_
    (try simp only [Act.put, List.setIfInBounds_toArray, List.set_cons_zero, List.set_cons_succ])
    clear hK K
    simp only [beq_self_eq_true, Bool.and_self]
    repeat (first | (apply ord_tk rfl (by rfl) (by rfl) (by rfl); (focus (intro wx hSw; have r0 := (hSw.cell (p := ⟨w.heap.size, 0, none⟩) hwl).trans y0; have r1 := (hSw.cell (p := ⟨w.heap.size, 1, none⟩) hwl).trans y1; have r2 := (hSw.cell (p := ⟨w.heap.size, 2, none⟩) hwl).trans y2; have r3 := (hSw.cell (p := ⟨X, 0, none⟩) hXl).trans x0; have r4 := (hSw.cell (p := ⟨X, 1, none⟩) hXl).trans x1; have r5 := (hSw.cell (p := ⟨X, 2, none⟩) hXl).trans x2; go_simp; (try with_reducible rfl))); (try simp only [Act.put, List.setIfInBounds_toArray, List.set_cons_zero, List.set_cons_succ])) | (apply ord_skip rfl (by rfl) (by rfl) (fun _ => hBe); (try simp only [Act.put, List.setIfInBounds_toArray, List.set_cons_zero, List.set_cons_succ])))
    refine ord_nil ?_
    clear x0 x1 x2 y0 y1 y2 t5 t6 hb7 hz6 t36 t46
    have k8 := k6.trans (hBe.mono k6.size)
    have hs68 := hBe.size
    have hx18 := hx16.below hBe
    have hx28 := hx26.below hBe
    have bX8 := bX6.all hBe
    have hog8 := hog6.below hBe
    have sw8 := sw6.below (hBe.mono (by omega))
    clear hx16 hx26 bX6 hog6 sw6 bW6 hs6 hs6'
    have x0 := bX8.cell 0
    have x1 := bX8.cell 1
    have x2 := bX8.cell 2
    go_wp2_with fail
    refine (markMetric_any _ _ _ _ _ _ _ _ hx18 hx28 hxap hn hn' (by omega) (by omega)).mono ?_
    rintro e w9 hM
    have hb9 : Below w3.heap.size wd' w9 := hM.keep (Nat.le_refl _) (by omega) hx18 hx28
    have hog9 := hM.ow hog8 ap1 ap2
    have k3s := k3.size
    have k9 := k8.trans (hb9.mono k3s)
    have sw9 := sw8.below hb9
    have hs89 := hb9.size
    obtain ⟨rfl, -⟩ := hM
    obtain ⟨kk, hkk, hkk0⟩ : ∃ kk : Int, 1 + (os.length : Int) + (vs.length : Int) = kk ∧ 0 ≤ kk := ⟨_, rfl, by omega⟩
    rw [hkk]
    have HKK := hide hkk
    clear hkk x0 x1 x2 hx18 hx28 bX8 hog8 sw8
    have sg9 := hog.two rfl hog9 rfl hxr.out
    go_wp2_with fail
    refine ((eqInt64S_any _ _ _ _ _ _ _ _ _ _ _ sg9 sw9 hxl.out).mono fun _ _ h => Qt.re h).mono ?_
    rintro e w10 ⟨rfl, hb10⟩
    simp only [beq_self_eq_true]
    have k10 := k9.trans (hb10.mono k9.size)
    have hog10 := hog9.below hb10
    have sw10 := sw9.below (hb10.mono (by omega))
    have hs90 := hb10.size
    have hL := hxl.out
    clear hog9 sw9 sg9
    go_wp2_with fail
    refine (markInt64S_any _ _ _ _ _ hog10 hxl.out (by omega) (by omega)).mono ?_
    rintro e w11 hM
    have hb11 : Below w4'.heap.size w10 w11 := hM.keep hog10 (Nat.le_refl _) (by omega)
    have k11 := k10.trans (hb11.mono k4'.size)
    have hs11 := hb11.size
    have sw11 := sw10.below (hb11.mono (by omega))
    obtain ⟨rfl, hog11, -⟩ := hM
    have sm11 := hog.two rfl hog11 (marks_length _ _) (marks_rng _ _ (by omega) (by omega) hL)
    obtain ⟨mm, hmm, hmm0⟩ : ∃ mm : Int, 1 + (xs.length : Int) = mm ∧ 0 ≤ mm := ⟨_, rfl, by omega⟩
    have hmk : heldI 1 (marks 1 xs.length) = mm := by rw [heldI_marks, hmm]
    rw [hmm]
    have HMM := hide hmm
    have HMK := hide hmk
    clear hmm hmk sw10 hog10
    go_wp2_with fail
    refine ((heldInt64S_any _ _ _ _ _ 1 _ sm11 hL (by omega) (by omega)).mono fun _ _ h => Qt.re h).mono ?_
    rintro e w12 ⟨rfl, hb12⟩
    rw [HMK.out]
    have k12 := k11.trans (hb12.mono k11.size)
    have hs12 := hb12.size
    have sw12 := sw11.below (hb12.mono (by omega))
    have sm12 := sm11.below (hb12.mono (by omega))
    clear sw11 sm11 hog11
    have r0 := (k12.cell (p := ⟨w.heap.size, 0, none⟩) hszW).trans q0
    have r1 := (k12.cell (p := ⟨w.heap.size, 1, none⟩) hszW).trans q1
    have r2 := (k12.cell (p := ⟨w.heap.size, 2, none⟩) hszW).trans q2
    go_wp2_with fail
    clear r0 r1 r2
    refine (toMetric_any _ w.heap.size _ _ _ _ _ _ _ _ _ (hs.below (k12.mono (Nat.le_of_lt hszW))) (hs'.below (k12.mono (Nat.le_of_lt hszW))) (by have := k12.size; omega) hn hn').mono ?_
    rintro e w13 ⟨B7, d7, B8, d8, rfl, t7, t8, hb13⟩
    have k13 := k12.trans (hb13.mono k12.size)
    have hs13 := hb13.size
    have sw13 := sw12.below (hb13.mono (by omega))
    have sm13 := sm12.below (hb13.mono (by omega))
    clear sw12 sm12
    go_wp2_with fail
    refine (him _ _ _ _ _ _ _ t7 t8 hn hn').mono ?_
    rintro e w14 ⟨g, rfl, hoh, hb14⟩
    obtain ⟨H, dh, rfl, sh⟩ := hoh.sl hxr.out
    have k14 := k13.trans (hb14.mono k13.size)
    have hs14 := hb14.size
    have sw14 := sw13.below (hb14.mono (by omega))
    have sm14 := sm13.below (hb14.mono (by omega))
    clear sw13 sm13 t7 t8 hoh
    go_wp2_with fail
    refine ((eqInt64S_any _ _ _ _ _ _ _ _ _ _ _ sh sw14 hxl.out).mono fun _ _ h => Qt.re h).mono ?_
    rintro e w15 ⟨rfl, hb15⟩
    simp only [beq_self_eq_true]
    have k15 := k14.trans (hb15.mono k14.size)
    have sm15 := sm14.below (hb15.mono (by omega))
    go_wp2_with fail
    refine ((heldInt64S_any _ _ _ _ _ 1 _ sm15 hL (by omega) (by omega)).mono fun _ _ h => Qt.re h).mono ?_
    rintro e w16 ⟨rfl, hb16⟩
    rw [HMK.out]
    have k16 := k15.trans (hb16.mono k15.size)
    go_wp2_with fail
    go_ret
    exact ⟨rfl, hbW.trans (k16.mono (Nat.le_of_lt hszW))⟩
end Go.Proofs.Ytmnljlefjafcdaa
