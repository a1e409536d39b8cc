/- The walks of the laws FnExactElementValue, FnExactMetricGauss. -/
import Derived.Test.YtpafkgfjbdhpkaaLM
import Derived.Test.YtpafkgfjbdhpkaaP4
import Derived.Test.YtpafkgfjbdhpkaaOpM
import Derived.WalkLawsBesides
namespace Go.Proofs.Ytpafkgfjbdhpkaa
open Go Go.RowKit
set_option linter.unusedSimpArgs false
set_option linter.unusedVariables false
set_option maxHeartbeats 1000000 in
theorem law_ElementValue {w : World} (A : Option Addr) (n c : Nat) (os : List Int) (z : Int) (A' : Option Addr) (n' c' : Nat) (vs : List Int) (h0 : SlIn w A n c os) (h1 : SlIn w A' n' c' vs) (hz : i64ok z) (x : Int) (hxw : (Lit.int .i64 x).wf = true) :
    Calls Try.prog 12 #[.agg #[.slice A n c, .int .i64 z, .slice A' n' c'], .int .i64 x] w (Re w (.bool true)) := by
  obtain ⟨h, hnm⟩ := h0
  obtain ⟨h', hnm'⟩ := h1
  obtain rfl := h.len
  obtain rfl := h'.len
  have hsz := fun W => szMetric_any W A A' os.length c vs.length c' z 1048576 (by omega) (by omega) hnm hnm'
  obtain ⟨l, hl⟩ : ∃ l, szM 1048576 os.length vs.length = l := ⟨_, rfl⟩
  have hp := szM_pos (l := 1048576) (n := os.length) (m := vs.length)
  rw [hl] at hsz hp
  clear hl
  by_cases hneg : l < 0
  · clear hp
    go_enter Try.func12, Try.ntmps12
    go_wp2_with fail
    refine (hsz _).mono ?_
    rintro e w' ⟨rfl, hb⟩
    go_wp2
    go_ret
    exact ⟨rfl, Below.trans (by repeat (first | assumption | exact Below.refl _ _ | apply below_drewN | apply Below.drew | apply Below.alloc | apply Below.setCell | omega | (focus (simp; done)) | (focus (simp; omega)))) (hb.mono (by simp))⟩
  · have hp := hp (by omega)
    have hn : os.length ≤ 1048576 := by omega
    have hn' : vs.length ≤ 1048576 := by omega
    clear hp
    have hPos : 0 ≤ l := by omega
    have hx := i64_of_wf hxw
    have hsp := fun W A n c A' n' c' h h' hn hn' => spec_Val_any W A n c os z A' n' c' vs x hx h h' hn hn'
    have him := fun W A n c A' n' c' h h' hn hn' => impl_Val_any W A n c os z A' n' c' vs x hx h h' hn hn'
    obtain ⟨b, hb⟩ : ∃ b, codeE os z vs [x] = b := ⟨_, rfl⟩
    obtain ⟨a, ha⟩ : ∃ a, (if b = 0 then (rp z.toNat (Vl vs x) : Int) else 0) = a := ⟨_, rfl⟩
    rw [hb, ha] at hsp him
    clear hb ha hx hxw
    go_enter Try.func12, Try.ntmps12
    go_wp2_with fail
    obtain ⟨W, hW⟩ : ∃ W, w.alloc (.cells #[.slice A os.length c, .int .i64 z, .slice A' vs.length c'] 24) = W := ⟨_, rfl⟩
    have hbW : Below w.heap.size w W := by rw [← hW]; exact (by repeat (first | assumption | exact Below.refl _ _ | apply below_drewN | apply Below.drew | apply Below.alloc | apply Below.setCell | omega | (focus (simp; done)) | (focus (simp; omega))))
    have hszW : w.heap.size < W.heap.size := by rw [← hW]; simp
    have bW : Blk W w.heap.size 24 #[.slice A os.length c, .int .i64 z, .slice A' vs.length c'] := by rw [← hW]; exact Blk.new _ _ _
    have q0 := bW.cell 0
    have q1 := bW.cell 1
    have q2 := bW.cell 2
    rw [hW]
    clear hW
    have hs := h.below hbW
    have hs' := h'.below hbW
    go_wp2_with fail
    refine (hsz _).mono ?_
    rintro e w1 ⟨rfl, hb1⟩
    have k1 : Below W.heap.size W w1 := hb1
    have r0 := (k1.cell (p := ⟨w.heap.size, 0, none⟩) hszW).trans q0
    have r1 := (k1.cell (p := ⟨w.heap.size, 1, none⟩) hszW).trans q1
    have r2 := (k1.cell (p := ⟨w.heap.size, 2, none⟩) hszW).trans q2
    go_wp2_with fail
    clear r0 r1 r2
    refine (toMetric_any _ w.heap.size _ _ _ _ _ _ _ _ _ (hs.below (k1.mono (Nat.le_of_lt hszW))) (hs'.below (k1.mono (Nat.le_of_lt hszW))) (by have := k1.size; omega) hn hn').mono ?_
    rintro e w2 ⟨B1, d1, B2, d2, rfl, t1, t2, hb2⟩
    have k2 := k1.trans (hb2.mono k1.size)
    go_wp2_with fail
    refine (hsp _ _ _ _ _ _ _ t1 t2 hn hn').mono ?_
    rintro e w3 ⟨rfl, hb3⟩
    have k3 := k2.trans (hb3.mono k2.size)
    have r0 := (k3.cell (p := ⟨w.heap.size, 0, none⟩) hszW).trans q0
    have r1 := (k3.cell (p := ⟨w.heap.size, 1, none⟩) hszW).trans q1
    have r2 := (k3.cell (p := ⟨w.heap.size, 2, none⟩) hszW).trans q2
    go_wp2_with fail
    clear r0 r1 r2
    refine (toMetric_any _ w.heap.size _ _ _ _ _ _ _ _ _ (hs.below (k3.mono (Nat.le_of_lt hszW))) (hs'.below (k3.mono (Nat.le_of_lt hszW))) (by have := k3.size; omega) hn hn').mono ?_
    rintro e w4 ⟨B3, d3, B4, d4, rfl, t3, t4, hb4⟩
    have k4 := k3.trans (hb4.mono k3.size)
    obtain ⟨X, hX⟩ : ∃ X, w4.heap.size = X := ⟨_, rfl⟩
    have t3 := t3.alloc (Nat.le_refl _) (.cells #[.slice B3 os.length d3, .int .i64 z, .slice B4 vs.length d4] 27)
    have t4 := t4.alloc (Nat.le_refl _) (.cells #[.slice B3 os.length d3, .int .i64 z, .slice B4 vs.length d4] 27)
    have bX : Blk (w4.alloc (.cells #[.slice B3 os.length d3, .int .i64 z, .slice B4 vs.length d4] 27)) X 27 #[.slice B3 os.length d3, .int .i64 z, .slice B4 vs.length d4] := Blk.new' _ _ _ _ hX
    go_wp2_with fail
    refine (him _ _ _ _ _ _ _ (t3.more (by simp)) (t4.more (by simp)) hn hn').mono ?_
    rintro e w5 ⟨rfl, hb5⟩
    have k4a := k4.alloc k4.size (.cells #[.slice B3 os.length d3, .int .i64 z, .slice B4 vs.length d4] 27)
    have k5 := k4a.trans (hb5.mono k4a.size)
    have t3' : Sl w5 w5.heap.size B3 os.length d3 os := (t3.below (hb5.mono (by simp))).more (by have := hb5.size; simp at this; omega)
    have t4' : Sl w5 w5.heap.size B4 vs.length d4 vs := (t4.below (hb5.mono (by simp))).more (by have := hb5.size; simp at this; omega)
    have bX5 := bX.all hb5
    have bW5 := bW.all k5
    have hs5 := (hs.below (k5.mono (Nat.le_of_lt hszW)))
    have hs5' := (hs'.below (k5.mono (Nat.le_of_lt hszW)))
    clear bX t3 t4 k4a
    have x0 := bX5.cell 0
    have x1 := bX5.cell 1
    have x2 := bX5.cell 2
    have y0 := bW5.cell 0
    have y1 := bW5.cell 1
    have y2 := bW5.cell 2
    have hXl := bX5.lt
    have hwl := bW5.lt
    go_wp2_with fail
    refine wp_region_be [0, 1, 2, 3, 4] 5 w5.heap.size w5 (by kernel_rfl) (by kernel_rfl) (by kernel_rfl) (fun _ _ _ _ _ h => h) (Below.refl _ _) (fun wd hBe => ?_)
    repeat (first | (apply ord_tk rfl (by rfl) (by rfl) (by rfl); (focus (intro wx hSw; have r0 := (hSw.cell (p := ⟨w.heap.size, 0, none⟩) hwl).trans y0; have r1 := (hSw.cell (p := ⟨w.heap.size, 1, none⟩) hwl).trans y1; have r2 := (hSw.cell (p := ⟨w.heap.size, 2, none⟩) hwl).trans y2; have r3 := (hSw.cell (p := ⟨X, 0, none⟩) hXl).trans x0; have r4 := (hSw.cell (p := ⟨X, 1, none⟩) hXl).trans x1; have r5 := (hSw.cell (p := ⟨X, 2, none⟩) hXl).trans x2; go_simp; (try with_reducible rfl))); (try simp only [Act.put, List.setIfInBounds_toArray, List.set_cons_zero, List.set_cons_succ])) | (apply ord_skip rfl (by rfl) (by rfl) (fun _ => hBe); (try simp only [Act.put, List.setIfInBounds_toArray, List.set_cons_zero, List.set_cons_succ])))
    refine ord_do rfl (by rfl) (by rfl) (fun K hK => ?_)
    go_simp
    refine (toMetric_any _ w.heap.size _ _ _ _ _ _ _ _ _ (hs5.below (hBe.mono (Nat.le_of_lt hwl))) (hs5'.below (hBe.mono (Nat.le_of_lt hwl))) (by have := hBe.size; omega) hn hn').mono ?_
    rintro e w6 ⟨B5, d5, B6, d6, rfl, t5, t6, hb6⟩
    replace hBe := hBe.trans (hb6.mono hBe.size)
    refine hK.out _ _ (fun _ => hBe) ?_
    (try simp only [Act.put, List.setIfInBounds_toArray, List.set_cons_zero, List.set_cons_succ])
    clear hK K
    repeat (first | (apply ord_tk rfl (by rfl) (by rfl) (by rfl); (focus (intro wx hSw; have r0 := (hSw.cell (p := ⟨w.heap.size, 0, none⟩) hwl).trans y0; have r1 := (hSw.cell (p := ⟨w.heap.size, 1, none⟩) hwl).trans y1; have r2 := (hSw.cell (p := ⟨w.heap.size, 2, none⟩) hwl).trans y2; have r3 := (hSw.cell (p := ⟨X, 0, none⟩) hXl).trans x0; have r4 := (hSw.cell (p := ⟨X, 1, none⟩) hXl).trans x1; have r5 := (hSw.cell (p := ⟨X, 2, none⟩) hXl).trans x2; go_simp; (try with_reducible rfl))); (try simp only [Act.put, List.setIfInBounds_toArray, List.set_cons_zero, List.set_cons_succ])) | (apply ord_skip rfl (by rfl) (by rfl) (fun _ => hBe); (try simp only [Act.put, List.setIfInBounds_toArray, List.set_cons_zero, List.set_cons_succ])))
    have hz6 := hBe.size
    refine ord_do rfl (by rfl) (by rfl) (fun K hK => ?_)
    go_simp
    refine (eqMetric_any _ _ _ _ _ _ _ _ _ _ _ _ _ _ _ _ _ _ _ _ ((t3'.below hBe).more hz6) ((t4'.below hBe).more hz6) t5 t6 (Nat.le_refl _) hn hn').mono ?_
    rintro e wd' ⟨rfl, hwd⟩
    replace hBe := hBe.trans (hwd.mono hBe.size)
    clear hwd
    refine hK.out _ _ (fun _ => hBe) ?_
    (try simp only [Act.put, List.setIfInBounds_toArray, List.set_cons_zero, List.set_cons_succ])
    clear hK K
    simp only [beq_self_eq_true, Bool.and_self]
    repeat (first | (apply ord_tk rfl (by rfl) (by rfl) (by rfl); (focus (intro wx hSw; have r0 := (hSw.cell (p := ⟨w.heap.size, 0, none⟩) hwl).trans y0; have r1 := (hSw.cell (p := ⟨w.heap.size, 1, none⟩) hwl).trans y1; have r2 := (hSw.cell (p := ⟨w.heap.size, 2, none⟩) hwl).trans y2; have r3 := (hSw.cell (p := ⟨X, 0, none⟩) hXl).trans x0; have r4 := (hSw.cell (p := ⟨X, 1, none⟩) hXl).trans x1; have r5 := (hSw.cell (p := ⟨X, 2, none⟩) hXl).trans x2; go_simp; (try with_reducible rfl))); (try simp only [Act.put, List.setIfInBounds_toArray, List.set_cons_zero, List.set_cons_succ])) | (apply ord_skip rfl (by rfl) (by rfl) (fun _ => hBe); (try simp only [Act.put, List.setIfInBounds_toArray, List.set_cons_zero, List.set_cons_succ])))
    refine ord_nil ?_
    go_wp2
    go_ret
    exact ⟨rfl, hbW.trans ((k5.trans (hBe.mono k5.size)).mono (Nat.le_of_lt hszW))⟩
set_option maxHeartbeats 1000000 in
theorem law_MetricGauss {w : World} (A : Option Addr) (n c : Nat) (os : List Int) (z : Int) (A' : Option Addr) (n' c' : Nat) (vs : List Int) (h0 : SlIn w A n c os) (h1 : SlIn w A' n' c' vs) (hz : i64ok z) (x : Int) (hxw : (Lit.int .i64 x).wf = true) :
    Calls Try.prog 13 #[.agg #[.slice A n c, .int .i64 z, .slice A' n' c'], .int .i64 x] w (Re w (.bool true)) := by
  obtain ⟨h, hnm⟩ := h0
  obtain ⟨h', hnm'⟩ := h1
  obtain rfl := h.len
  obtain rfl := h'.len
  have hsz := fun W => szMetric_any W A A' os.length c vs.length c' z 1048576 (by omega) (by omega) hnm hnm'
  obtain ⟨l, hl⟩ : ∃ l, szM 1048576 os.length vs.length = l := ⟨_, rfl⟩
  have hp := szM_pos (l := 1048576) (n := os.length) (m := vs.length)
  rw [hl] at hsz hp
  clear hl
  by_cases hneg : l < 0
  · clear hp
    go_enter Try.func13, Try.ntmps13
    go_wp2_with fail
    refine (hsz _).mono ?_
    rintro e w' ⟨rfl, hb⟩
    go_wp2
    go_ret
    exact ⟨rfl, Below.trans (by repeat (first | assumption | exact Below.refl _ _ | apply below_drewN | apply Below.drew | apply Below.alloc | apply Below.setCell | omega | (focus (simp; done)) | (focus (simp; omega)))) (hb.mono (by simp))⟩
  · have hp := hp (by omega)
    have hn : os.length ≤ 1048576 := by omega
    have hn' : vs.length ≤ 1048576 := by omega
    clear hp
    have hPos : 0 ≤ l := by omega
    have hx := i64_of_wf hxw
    have hsp := fun W A n c A' n' c' h h' hn hn' => spec_Gauss_any W A n c os z A' n' c' vs x h h' hn hn'
    have him := fun W A n c A' n' c' h h' hn hn' => impl_Gauss_any W A n c os z A' n' c' vs x h h' hn hn'
    obtain ⟨b, hb⟩ : ∃ b, codeG os z vs x = b := ⟨_, rfl⟩
    obtain ⟨a, ha⟩ : ∃ a, gaG os z vs x = a := ⟨_, rfl⟩
    rw [hb, ha] at hsp him
    clear hb ha hx hxw
    go_enter Try.func13, Try.ntmps13
    go_wp2_with fail
    obtain ⟨W, hW⟩ : ∃ W, w.alloc (.cells #[.slice A os.length c, .int .i64 z, .slice A' vs.length c'] 24) = W := ⟨_, rfl⟩
    have hbW : Below w.heap.size w W := by rw [← hW]; exact (by repeat (first | assumption | exact Below.refl _ _ | apply below_drewN | apply Below.drew | apply Below.alloc | apply Below.setCell | omega | (focus (simp; done)) | (focus (simp; omega))))
    have hszW : w.heap.size < W.heap.size := by rw [← hW]; simp
    have bW : Blk W w.heap.size 24 #[.slice A os.length c, .int .i64 z, .slice A' vs.length c'] := by rw [← hW]; exact Blk.new _ _ _
    have q0 := bW.cell 0
    have q1 := bW.cell 1
    have q2 := bW.cell 2
    rw [hW]
    clear hW
    have hs := h.below hbW
    have hs' := h'.below hbW
    go_wp2_with fail
    refine (hsz _).mono ?_
    rintro e w1 ⟨rfl, hb1⟩
    have k1 : Below W.heap.size W w1 := hb1
    have r0 := (k1.cell (p := ⟨w.heap.size, 0, none⟩) hszW).trans q0
    have r1 := (k1.cell (p := ⟨w.heap.size, 1, none⟩) hszW).trans q1
    have r2 := (k1.cell (p := ⟨w.heap.size, 2, none⟩) hszW).trans q2
    go_wp2_with fail
    clear r0 r1 r2
    refine (toMetric_any _ w.heap.size _ _ _ _ _ _ _ _ _ (hs.below (k1.mono (Nat.le_of_lt hszW))) (hs'.below (k1.mono (Nat.le_of_lt hszW))) (by have := k1.size; omega) hn hn').mono ?_
    rintro e w2 ⟨B1, d1, B2, d2, rfl, t1, t2, hb2⟩
    have k2 := k1.trans (hb2.mono k1.size)
    go_wp2_with fail
    refine (hsp _ _ _ _ _ _ _ t1 t2 hn hn').mono ?_
    rintro e w3 ⟨rfl, hb3⟩
    have k3 := k2.trans (hb3.mono k2.size)
    have r0 := (k3.cell (p := ⟨w.heap.size, 0, none⟩) hszW).trans q0
    have r1 := (k3.cell (p := ⟨w.heap.size, 1, none⟩) hszW).trans q1
    have r2 := (k3.cell (p := ⟨w.heap.size, 2, none⟩) hszW).trans q2
    go_wp2_with fail
    clear r0 r1 r2
    refine (toMetric_any _ w.heap.size _ _ _ _ _ _ _ _ _ (hs.below (k3.mono (Nat.le_of_lt hszW))) (hs'.below (k3.mono (Nat.le_of_lt hszW))) (by have := k3.size; omega) hn hn').mono ?_
    rintro e w4 ⟨B3, d3, B4, d4, rfl, t3, t4, hb4⟩
    have k4 := k3.trans (hb4.mono k3.size)
    obtain ⟨X, hX⟩ : ∃ X, w4.heap.size = X := ⟨_, rfl⟩
    have t3 := t3.alloc (Nat.le_refl _) (.cells #[.slice B3 os.length d3, .int .i64 z, .slice B4 vs.length d4] 27)
    have t4 := t4.alloc (Nat.le_refl _) (.cells #[.slice B3 os.length d3, .int .i64 z, .slice B4 vs.length d4] 27)
    have bX : Blk (w4.alloc (.cells #[.slice B3 os.length d3, .int .i64 z, .slice B4 vs.length d4] 27)) X 27 #[.slice B3 os.length d3, .int .i64 z, .slice B4 vs.length d4] := Blk.new' _ _ _ _ hX
    go_wp2_with fail
    refine (him _ _ _ _ _ _ _ (t3.more (by simp)) (t4.more (by simp)) hn hn').mono ?_
    rintro e w5 ⟨rfl, hb5⟩
    have k4a := k4.alloc k4.size (.cells #[.slice B3 os.length d3, .int .i64 z, .slice B4 vs.length d4] 27)
    have k5 := k4a.trans (hb5.mono k4a.size)
    have t3' : Sl w5 w5.heap.size B3 os.length d3 os := (t3.below (hb5.mono (by simp))).more (by have := hb5.size; simp at this; omega)
    have t4' : Sl w5 w5.heap.size B4 vs.length d4 vs := (t4.below (hb5.mono (by simp))).more (by have := hb5.size; simp at this; omega)
    have bX5 := bX.all hb5
    have bW5 := bW.all k5
    have hs5 := (hs.below (k5.mono (Nat.le_of_lt hszW)))
    have hs5' := (hs'.below (k5.mono (Nat.le_of_lt hszW)))
    clear bX t3 t4 k4a
    have x0 := bX5.cell 0
    have x1 := bX5.cell 1
    have x2 := bX5.cell 2
    have y0 := bW5.cell 0
    have y1 := bW5.cell 1
    have y2 := bW5.cell 2
    have hXl := bX5.lt
    have hwl := bW5.lt
    go_wp2_with fail
    refine wp_region_be [0, 1, 2, 3, 4] 5 w5.heap.size w5 (by kernel_rfl) (by kernel_rfl) (by kernel_rfl) (fun _ _ _ _ _ h => h) (Below.refl _ _) (fun wd hBe => ?_)
    repeat (first | (apply ord_tk rfl (by rfl) (by rfl) (by rfl); (focus (intro wx hSw; have r0 := (hSw.cell (p := ⟨w.heap.size, 0, none⟩) hwl).trans y0; have r1 := (hSw.cell (p := ⟨w.heap.size, 1, none⟩) hwl).trans y1; have r2 := (hSw.cell (p := ⟨w.heap.size, 2, none⟩) hwl).trans y2; have r3 := (hSw.cell (p := ⟨X, 0, none⟩) hXl).trans x0; have r4 := (hSw.cell (p := ⟨X, 1, none⟩) hXl).trans x1; have r5 := (hSw.cell (p := ⟨X, 2, none⟩) hXl).trans x2; go_simp; (try with_reducible rfl))); (try simp only [Act.put, List.setIfInBounds_toArray, List.set_cons_zero, List.set_cons_succ])) | (apply ord_skip rfl (by rfl) (by rfl) (fun _ => hBe); (try simp only [Act.put, List.setIfInBounds_toArray, List.set_cons_zero, List.set_cons_succ])))
    refine ord_do rfl (by rfl) (by rfl) (fun K hK => ?_)
    go_simp
    refine (toMetric_any _ w.heap.size _ _ _ _ _ _ _ _ _ (hs5.below (hBe.mono (Nat.le_of_lt hwl))) (hs5'.below (hBe.mono (Nat.le_of_lt hwl))) (by have := hBe.size; omega) hn hn').mono ?_
    rintro e w6 ⟨B5, d5, B6, d6, rfl, t5, t6, hb6⟩
    replace hBe := hBe.trans (hb6.mono hBe.size)
    refine hK.out _ _ (fun _ => hBe) ?_
    (try simp only [Act.put, List.setIfInBounds_toArray, List.set_cons_zero, List.set_cons_succ])
    clear hK K
    repeat (first | (apply ord_tk rfl (by rfl) (by rfl) (by rfl); (focus (intro wx hSw; have r0 := (hSw.cell (p := ⟨w.heap.size, 0, none⟩) hwl).trans y0; have r1 := (hSw.cell (p := ⟨w.heap.size, 1, none⟩) hwl).trans y1; have r2 := (hSw.cell (p := ⟨w.heap.size, 2, none⟩) hwl).trans y2; have r3 := (hSw.cell (p := ⟨X, 0, none⟩) hXl).trans x0; have r4 := (hSw.cell (p := ⟨X, 1, none⟩) hXl).trans x1; have r5 := (hSw.cell (p := ⟨X, 2, none⟩) hXl).trans x2; go_simp; (try with_reducible rfl))); (try simp only [Act.put, List.setIfInBounds_toArray, List.set_cons_zero, List.set_cons_succ])) | (apply ord_skip rfl (by rfl) (by rfl) (fun _ => hBe); (try simp only [Act.put, List.setIfInBounds_toArray, List.set_cons_zero, List.set_cons_succ])))
    have hz6 := hBe.size
    refine ord_do rfl (by rfl) (by rfl) (fun K hK => ?_)
    go_simp
    refine (eqMetric_any _ _ _ _ _ _ _ _ _ _ _ _ _ _ _ _ _ _ _ _ ((t3'.below hBe).more hz6) ((t4'.below hBe).more hz6) t5 t6 (Nat.le_refl _) hn hn').mono ?_
    rintro e wd' ⟨rfl, hwd⟩
    replace hBe := hBe.trans (hwd.mono hBe.size)
    clear hwd
    refine hK.out _ _ (fun _ => hBe) ?_
    (try simp only [Act.put, List.setIfInBounds_toArray, List.set_cons_zero, List.set_cons_succ])
    clear hK K
    simp only [beq_self_eq_true, Bool.and_self]
    repeat (first | (apply ord_tk rfl (by rfl) (by rfl) (by rfl); (focus (intro wx hSw; have r0 := (hSw.cell (p := ⟨w.heap.size, 0, none⟩) hwl).trans y0; have r1 := (hSw.cell (p := ⟨w.heap.size, 1, none⟩) hwl).trans y1; have r2 := (hSw.cell (p := ⟨w.heap.size, 2, none⟩) hwl).trans y2; have r3 := (hSw.cell (p := ⟨X, 0, none⟩) hXl).trans x0; have r4 := (hSw.cell (p := ⟨X, 1, none⟩) hXl).trans x1; have r5 := (hSw.cell (p := ⟨X, 2, none⟩) hXl).trans x2; go_simp; (try with_reducible rfl))); (try simp only [Act.put, List.setIfInBounds_toArray, List.set_cons_zero, List.set_cons_succ])) | (apply ord_skip rfl (by rfl) (by rfl) (fun _ => hBe); (try simp only [Act.put, List.setIfInBounds_toArray, List.set_cons_zero, List.set_cons_succ])))
    refine ord_nil ?_
    go_wp2
    go_ret
    exact ⟨rfl, hbW.trans ((k5.trans (hBe.mono k5.size)).mono (Nat.le_of_lt hszW))⟩
end Go.Proofs.Ytpafkgfjbdhpkaa
