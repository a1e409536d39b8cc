
/- The walk of CyclicCocycle of the program, and of its law. -/
import Derived.Test.YthjlpgaoemdmkaaCB4
namespace Go.Proofs.Ythjlpgaoemdmkaa
open Go Go.RowKit Grp
set_option linter.unusedSimpArgs false
set_option linter.unusedVariables false
set_option maxRecDepth 100000
theorem cyc_okH {n : Nat} (h : 1 ≤ n) (h8 : n ≤ 8) : OkH [(n : Int)] := ⟨by simp, by simp, by simp; omega, by simp [prodL]; omega⟩
set_option maxHeartbeats 8000000 in
theorem implCyc_c (w : World) (n : Int) (wn : i64ok n) (k : Int) (wk : i64ok k) : Calls Try.prog 19 #[.int .i64 n, .int .i64 k] w (MkEC cocycle_E w (cycC n k) (cycK n k)) := by
  by_cases h1 : 1 ≤ n ∧ n ≤ 8
  rotate_left
  · have hE := hide (cyc_1 (n := n) (k := k) (by unfold cycB; rw [inB_f h1]; rfl))
    have hi := inB_f h1
    clear h1
    go_enter Try.func19, Try.ntmps19
    go_wp2_with fail
    obtain ⟨W, hW⟩ : ∃ W, ((w.alloc (.cells #[.int .i64 n] 2)).alloc (.cells #[.int .i64 k] 2)).alloc (.cells #[.slice none 0 0, .int .i64 0, .slice none 0 0] 25) = W := ⟨_, rfl⟩
    have hb0 : Below w.heap.size w W := by rw [← hW]; exact (by repeat (first | assumption | exact Below.refl _ _ | apply below_drewN | apply Below.drew | apply Below.alloc | apply Below.setCell | omega | (focus (simp; done)) | (focus (simp; omega))))
    have bn : Blk W w.heap.size 2 #[.int .i64 n] := by rw [← hW]; exact ((Blk.new _ _ _).alloc _).alloc _
    have bk : Blk W (w.heap.size + 1) 2 #[.int .i64 k] := by rw [← hW]; exact (Blk.new' _ _ _ _ (by simp)).alloc _
    have br : Blk W (w.heap.size + 1 + 1) 25 #[.slice none 0 0, .int .i64 0, .slice none 0 0] := by rw [← hW]; exact Blk.new' _ _ _ _ (by simp)
    rw [hW]
    clear hW
    refine (within_v false n 1 8 _ hi).mono ?_
    rintro e w1 ⟨rfl, d, rfl⟩
    obtain ⟨w1, hw1⟩ : ∃ w1, W.drewN d = w1 := ⟨_, rfl⟩
    have hb1 : Below W.heap.size W w1 := by rw [← hw1]; exact below_drewN (Below.refl _ _) _
    rw [hw1]
    clear hw1
    have br1 := br.all hb1
    have hbw := hb0.trans (hb1.mono hb0.size)
    clear br bn bk
    have g0 := br1.frozen 0
    have g1 := br1.frozen 1
    have g2 := br1.frozen 2
    have y0 := br1.cell 0
    have y1 := br1.cell 1
    have y2 := br1.cell 2
    have hb3 := put3_blk (x := .slice none 0 0) (y := .int .i64 0) (z := .slice none 0 0) br1
    have q0 := hb3.cell 0
    have q1 := hb3.cell 1
    have q2 := hb3.cell 2
    unfold put3 at q0 q1 q2
    go_wp2_with fail
    refine bodyPost_ret (v := .tuple #[.agg #[.slice none 0 0, .int .i64 0, .slice none 0 0], .int .i64 2]) (by simp [results, Try.results19, go_sem, q0, q1, q2]) rfl ?_
    rw [hE.out.1, hE.out.2]
    exact ⟨_, rfl, cocycle_zero _ _ (fun b hb => hb.2), put3_below hbw (by omega)⟩
  obtain ⟨hn1, hn8⟩ := h1
  obtain ⟨n, rfl⟩ : ∃ m : Nat, n = (m : Int) := ⟨n.toNat, by omega⟩
  have hi := inB_t hn1 hn8
  have hw1 : IntKind.i64.wrap ((n : Int) - 1) = (n : Int) - 1 := wr64 _ ⟨by omega, by omega⟩
  by_cases h2 : 0 ≤ k ∧ k ≤ (n : Int) - 1
  rotate_left
  · have hi2 := inB_f h2
    have hE := hide (cyc_1 (n := n) (k := k) (by unfold cycB; rw [hi2, Bool.and_false]))
    clear h2
    go_enter Try.func19, Try.ntmps19
    go_wp2_with fail
    obtain ⟨W, hW⟩ : ∃ W, ((w.alloc (.cells #[.int .i64 (n : Int)] 2)).alloc (.cells #[.int .i64 k] 2)).alloc (.cells #[.slice none 0 0, .int .i64 0, .slice none 0 0] 25) = W := ⟨_, rfl⟩
    have hb0 : Below w.heap.size w W := by rw [← hW]; exact (by repeat (first | assumption | exact Below.refl _ _ | apply below_drewN | apply Below.drew | apply Below.alloc | apply Below.setCell | omega | (focus (simp; done)) | (focus (simp; omega))))
    have bn : Blk W w.heap.size 2 #[.int .i64 (n : Int)] := by rw [← hW]; exact ((Blk.new _ _ _).alloc _).alloc _
    have bk : Blk W (w.heap.size + 1) 2 #[.int .i64 k] := by rw [← hW]; exact (Blk.new' _ _ _ _ (by simp)).alloc _
    have br : Blk W (w.heap.size + 1 + 1) 25 #[.slice none 0 0, .int .i64 0, .slice none 0 0] := by rw [← hW]; exact Blk.new' _ _ _ _ (by simp)
    rw [hW]
    clear hW
    refine (within_v true n 1 8 _ hi).mono ?_
    rintro e w1 ⟨rfl, d, rfl⟩
    have c1 := (bn.drewN d).cell 0
    have c2 := (bk.drewN d).cell 0
    go_wp2_with fail
    clear c1 c2
    refine (within_v false k 0 (n - 1) _ hi2).mono ?_
    rintro e w1 ⟨rfl, d2, rfl⟩
    obtain ⟨w1, hw1'⟩ : ∃ w1, (W.drewN d).drewN d2 = w1 := ⟨_, rfl⟩
    have hb1 : Below W.heap.size W w1 := by rw [← hw1']; exact below_drewN (below_drewN (Below.refl _ _) _) _
    rw [hw1']
    clear hw1'
    have br1 := br.all hb1
    have hbw := hb0.trans (hb1.mono hb0.size)
    clear br bn bk
    have g0 := br1.frozen 0
    have g1 := br1.frozen 1
    have g2 := br1.frozen 2
    have y0 := br1.cell 0
    have y1 := br1.cell 1
    have y2 := br1.cell 2
    have hb3 := put3_blk (x := .slice none 0 0) (y := .int .i64 0) (z := .slice none 0 0) br1
    have q0 := hb3.cell 0
    have q1 := hb3.cell 1
    have q2 := hb3.cell 2
    unfold put3 at q0 q1 q2
    go_wp2_with fail
    refine bodyPost_ret (v := .tuple #[.agg #[.slice none 0 0, .int .i64 0, .slice none 0 0], .int .i64 2]) (by simp [results, Try.results19, go_sem, q0, q1, q2]) rfl ?_
    rw [hE.out.1, hE.out.2]
    exact ⟨_, rfl, cocycle_zero _ _ (fun b hb => hb.2), put3_below hbw (by omega)⟩
  have hi2 := inB_t h2.1 h2.2
  have hE := hide (cyc_2 (n := n) (k := k) (by unfold cycB; rw [hi, hi2]; rfl))
  obtain ⟨hk0, hk1⟩ := h2
  have hH := cyc_okH (n := n) (by omega) (by omega)
  have hpr : (prodL [(n : Int)]).toNat = n := by simp [prodL]
  go_enter Try.func19, Try.ntmps19
  go_wp2_with fail
  obtain ⟨W, hW⟩ : ∃ W, ((w.alloc (.cells #[.int .i64 (n : Int)] 2)).alloc (.cells #[.int .i64 k] 2)).alloc (.cells #[.slice none 0 0, .int .i64 0, .slice none 0 0] 25) = W := ⟨_, rfl⟩
  have hb0 : Below w.heap.size w W := by rw [← hW]; exact (by repeat (first | assumption | exact Below.refl _ _ | apply below_drewN | apply Below.drew | apply Below.alloc | apply Below.setCell | omega | (focus (simp; done)) | (focus (simp; omega))))
  have bn : Blk W w.heap.size 2 #[.int .i64 (n : Int)] := by rw [← hW]; exact ((Blk.new _ _ _).alloc _).alloc _
  have bk : Blk W (w.heap.size + 1) 2 #[.int .i64 k] := by rw [← hW]; exact (Blk.new' _ _ _ _ (by simp)).alloc _
  have br : Blk W (w.heap.size + 1 + 1) 25 #[.slice none 0 0, .int .i64 0, .slice none 0 0] := by rw [← hW]; exact Blk.new' _ _ _ _ (by simp)
  rw [hW]
  clear hW
  refine (within_v true n 1 8 _ hi).mono ?_
  rintro e w1 ⟨rfl, d, rfl⟩
  have c1 := (bn.drewN d).cell 0
  have c2 := (bk.drewN d).cell 0
  go_wp2_with fail
  clear c1 c2
  refine (within_v true k 0 (n - 1) _ hi2).mono ?_
  rintro e w1 ⟨rfl, d2, rfl⟩
  obtain ⟨w1, hw1'⟩ : ∃ w1, (W.drewN d).drewN d2 = w1 := ⟨_, rfl⟩
  have hb1 : Below W.heap.size W w1 := by rw [← hw1']; exact below_drewN (below_drewN (Below.refl _ _) _) _
  rw [hw1']
  clear hw1'
  have br1 := br.all hb1
  have bn1 := bn.all hb1
  have bk1 := bk.all hb1
  have hbw := hb0.trans (hb1.mono hb0.size)
  clear br bn bk
  have c1 := bn1.cell 0
  have c2 := bk1.cell 0
  have l1 := bn1.lt
  have l2 := bk1.lt
  have l3 := br1.lt
  go_wp2_with fail
  clear c1 c2
  obtain ⟨w2, hw2⟩ : ∃ w2, w1.alloc (.cells #[.int .i64 n] 2) = w2 := ⟨_, rfl⟩
  have hb2 : Below w1.heap.size w1 w2 := by rw [← hw2]; exact (Below.refl _ _).alloc (Nat.le_refl _) _
  have ho : Sl w2 w2.heap.size (some ⟨w1.heap.size, 0, none⟩) 1 1 [(n : Int)] := by
    have h1 : Ow w2 w1.heap.size (.slice (some ⟨w1.heap.size, 0, none⟩) 1 1) [(n : Int)] := by rw [← hw2]; exact Ow.made' (xs := [(n : Int)]) _ _ w1.heap.size 1 rfl rfl (Nat.le_refl _) rfl (by unfold maxLen; omega)
    obtain ⟨A, c, e, hs⟩ := h1.sl (by unfold i64ok; simp; omega)
    cases e
    exact hs
  have bn2 := bn1.all hb2
  have bk2 := bk1.all hb2
  have br2 := br1.all hb2
  have hbw2 := hbw.trans (hb2.mono hbw.size)
  rw [hw2]
  clear hw2 bn1 bk1 br1
  have hcb := cby_cyc w2 _ 1 1 [(n : Int)] n (w.heap.size + 1) w.heap.size (fun x y z => if (n : Int) ≤ (y : Int) + z then k * (x : Int) else 0) ho (by omega) hH (by simp [prodL]; omega) (by omega) (by omega)
    (fun x y z hx hy hz wd hwd => cycF_any wd _ _ x y z n k ((bk2.all hwd).cell 0) ((bn2.all hwd).cell 0) (by omega) (by omega) (by omega) hk0 (by omega) (by omega))
  rw [hpr] at hcb
  refine hcb.mono ?_
  rintro e w3 ⟨v, rfl, he, hb3⟩
  obtain ⟨A1, n1, c1, z1, D1, m1, e1, rfl, hz1⟩ := cocycle_form (cocycle_rd he)
  have br3 := br2.all hb3
  have hbw3 := hbw2.trans (hb3.mono hbw2.size)
  have hl2 := br2.lt
  clear br2 hz1 hcb
  have g0 := br3.frozen 0
  have g1 := br3.frozen 1
  have g2 := br3.frozen 2
  have y0 := br3.cell 0
  have y1 := br3.cell 1
  have y2 := br3.cell 2
  have hb3 := put3_blk (x := .slice A1 n1 c1) (y := .int .i64 z1) (z := .slice D1 m1 e1) br3
  have q0 := hb3.cell 0
  have q1 := hb3.cell 1
  have q2 := hb3.cell 2
  unfold put3 at q0 q1 q2
  go_wp2_with fail
  refine bodyPost_ret (v := .tuple #[.agg #[.slice A1 n1 c1, .int .i64 z1, .slice D1 m1 e1], .int .i64 0]) (by simp [results, Try.results19, go_sem, q0, q1, q2]) rfl ?_
  rw [hE.out.1, hE.out.2]
  exact ⟨_, rfl, cocycle_put he hbw3 hl2 (by omega), put3_below hbw3 (by omega)⟩
set_option maxHeartbeats 8000000 in
set_option maxRecDepth 100000 in
theorem law_CyclicCocycle {w : World} (a0 : Int) (wa0 : i64ok a0) (a1 : Int) (wa1 : i64ok a1) : Calls Try.prog 4 #[.int .i64 a0, .int .i64 a1] w (Re w (.bool true)) := by
  obtain ⟨y0, hy0⟩ : ∃ y : cocycle_T, cycC a0 a1 = y := ⟨_, rfl⟩
  have HY0 := hide hy0
  clear hy0
  obtain ⟨y1, hy1⟩ : ∃ y : Int, cycK a0 a1 = y := ⟨_, rfl⟩
  have HY1 := hide hy1
  clear hy1
  have SY0 : cocycle_tot y0 ≤ 1048576 := by rw [← HY0.out]; exact cycC_tot a0 a1
  have SY := cocycle_sh SY0
  have SY2 := cocycle_sumle y0
  go_enter Try.func4, Try.ntmps4
  go_wp2_with fail
  have kw := Below.refl w.heap.size w
  have hcl := (specCyc_c w a0 wa0 a1 wa1)
  rw [HY0.out, HY1.out] at hcl
  have HCL := hide hcl
  clear hcl
  refine HCL.out.mono ?_
  rintro e t1 ⟨u, rfl, he, hb⟩
  clear HCL
  obtain ⟨Aw, nw, cw, zw, Dw, mw, ew, rfl, hf⟩ := cocycle_form (cocycle_rd he)
  clear hf
  replace kw := kw.trans (hb.mono kw.size)
  clear hb
  have Kt1 := kw.size
  have Zt1 := Nat.le_refl t1.heap.size
  have Rw := cocycle_rd he
  clear he
  obtain ⟨Xw, hXw⟩ : ∃ X, t1.heap.size = X := ⟨_, rfl⟩
  go_wp2_with fail
  obtain ⟨t2, ht2⟩ : ∃ w5, t1.alloc (.cells #[.slice Aw nw cw, .int .i64 zw, .slice Dw mw ew] 25) = w5 := ⟨_, rfl⟩
  have hb : Below t1.heap.size t1 t2 := by rw [← ht2]; exact (Below.refl _ _).alloc (Nat.le_refl _) _
  have bw : Blk t2 Xw 25 #[.slice Aw nw cw, .int .i64 zw, .slice Dw mw ew] := by rw [← ht2]; exact Blk.new' _ _ _ _ hXw
  rw [ht2]
  clear ht2
  replace kw := kw.trans (hb.mono kw.size)
  replace Rw := cocycle_keep Rw (hb.mono Zt1) (Nat.le_refl _)
  replace Zt1 := Nat.le_trans Zt1 hb.size
  clear hb
  have Ot1t2 := Zt1
  have Gbwt2 := bw.lt
  have Kt2 := kw.size
  have Zt2 := Nat.le_refl t2.heap.size
  have hcl := (implCyc_c t2 a0 wa0 a1 wa1)
  rw [HY0.out, HY1.out] at hcl
  have HCL := hide hcl
  clear hcl
  refine HCL.out.mono ?_
  rintro e t3 ⟨u, rfl, he, hb⟩
  clear HCL
  obtain ⟨Ag, ng, cg, zg, Dg, mg, eg, rfl, hf⟩ := cocycle_form (cocycle_rd he)
  clear hf
  replace kw := kw.trans (hb.mono kw.size)
  replace bw := bw.all hb
  replace Rw := cocycle_keep Rw (hb.mono Zt1) (Nat.le_refl _)
  replace Zt1 := Nat.le_trans Zt1 hb.size
  replace Zt2 := Nat.le_trans Zt2 hb.size
  clear hb
  have Eg := he
  clear he
  have Ot1t3 := Zt1
  have Ot2t3 := Zt2
  have Gbwt3 := bw.lt
  have Kt3 := kw.size
  have Zt3 := Nat.le_refl t3.heap.size
  obtain ⟨Xg, hXg⟩ : ∃ X, t3.heap.size = X := ⟨_, rfl⟩
  have bwl2 : Xw < Xg := by have := bw.lt; omega
  have bwc0 := bw.cell 0
  have bwc1 := bw.cell 1
  have bwc2 := bw.cell 2
  have bwlt := bw.lt
  go_wp2_with fail
  clear bwc0 bwc1 bwc2 bwlt
  clear bwl2
  obtain ⟨t4, ht4⟩ : ∃ w5, t3.alloc (.cells #[.slice Ag ng cg, .int .i64 zg, .slice Dg mg eg] 25) = w5 := ⟨_, rfl⟩
  have hb : Below t3.heap.size t3 t4 := by rw [← ht4]; exact (Below.refl _ _).alloc (Nat.le_refl _) _
  have bg : Blk t4 Xg 25 #[.slice Ag ng cg, .int .i64 zg, .slice Dg mg eg] := by rw [← ht4]; exact Blk.new' _ _ _ _ hXg
  rw [ht4]
  clear ht4
  replace kw := kw.trans (hb.mono kw.size)
  replace bw := bw.all hb
  replace Eg := cocycle_below Eg hb
  replace Rw := cocycle_keep Rw (hb.mono Zt1) (Nat.le_refl _)
  replace Zt1 := Nat.le_trans Zt1 hb.size
  replace Zt2 := Nat.le_trans Zt2 hb.size
  replace Zt3 := Nat.le_trans Zt3 hb.size
  clear hb
  have Ot1t4 := Zt1
  have Ot2t4 := Zt2
  have Ot3t4 := Zt3
  have Gbwt4 := bw.lt
  have Gbgt4 := bg.lt
  have Kt4 := kw.size
  have Zt4 := Nat.le_refl t4.heap.size
  refine (cocycle_eq _ _ _ y0 y0 (cocycle_rd Eg) (cocycle_keep Rw (Below.refl _ _) Zt1) SY).mono ?_
  rintro e t5 ⟨rfl, hb⟩
  simp only [beq_self_eq_true]
  replace kw := kw.trans (hb.mono kw.size)
  replace bw := bw.all hb
  replace bg := bg.all hb
  replace Eg := cocycle_below Eg hb
  replace Rw := cocycle_keep Rw (hb.mono Zt1) (Nat.le_refl _)
  replace Zt1 := Nat.le_trans Zt1 hb.size
  replace Zt2 := Nat.le_trans Zt2 hb.size
  replace Zt3 := Nat.le_trans Zt3 hb.size
  replace Zt4 := Nat.le_trans Zt4 hb.size
  clear hb
  have bwc0 := bw.cell 0
  have bwc1 := bw.cell 1
  have bwc2 := bw.cell 2
  have bgc0 := bg.cell 0
  have bgc1 := bg.cell 1
  have bgc2 := bg.cell 2
  have bwlt := bw.lt
  have bglt := bg.lt
  go_wp2_with fail
  clear bwc0 bwc1 bwc2 bgc0 bgc1 bgc2 bwlt bglt
  refine (cocycle_mark _ _ y0 _ 1 Eg (by omega) (by omega) (by omega)).mono ?_
  rintro e t6 ⟨rfl, he, hw⟩
  have hbb := hw.below (B := t2.heap.size) (fun b hf => hf.1) Zt2
  replace kw := kw.trans (hbb.mono Kt2)
  replace bw := hw.blk bw (fun hf => by have a1 := hf.1; have a2 := hf.2; omega)
  replace bg := hw.blk bg (fun hf => by have a1 := hf.1; have a2 := hf.2; omega)
  replace Rw := cocycle_keep Rw (hbb.mono (by omega)) (Nat.le_refl _)
  replace Zt1 := Nat.le_trans Zt1 hw.size
  replace Zt2 := Nat.le_trans Zt2 hw.size
  replace Zt3 := Nat.le_trans Zt3 hw.size
  replace Zt4 := Nat.le_trans Zt4 hw.size
  replace Eg := he
  clear hbb hw he
  obtain ⟨mm, hmm, hmma, hmmb⟩ : ∃ z : Int, 1 + (cocycle_sum y0 : Int) = z ∧ 0 ≤ z ∧ z ≤ 4000000 := ⟨_, rfl, by omega, by omega⟩
  rw [hmm]
  have Hmm := hide hmm
  clear hmm
  have bwc0 := bw.cell 0
  have bwc1 := bw.cell 1
  have bwc2 := bw.cell 2
  have bgc0 := bg.cell 0
  have bgc1 := bg.cell 1
  have bgc2 := bg.cell 2
  have bwlt := bw.lt
  have bglt := bg.lt
  go_wp2_with fail
  clear bwc0 bwc1 bwc2 bgc0 bgc1 bgc2 bwlt bglt
  refine (cocycle_heldc _ _ _ 1 (cocycle_rd Eg) (cocycle_shmk SY) (by omega) (by omega)).mono ?_
  rw [cocycle_heldmk1, Hmm.out]
  rintro e t7 ⟨rfl, hb⟩
  replace kw := kw.trans (hb.mono kw.size)
  replace bw := bw.all hb
  replace bg := bg.all hb
  replace Eg := cocycle_below Eg hb
  replace Rw := cocycle_keep Rw (hb.mono Zt1) (Nat.le_refl _)
  replace Zt1 := Nat.le_trans Zt1 hb.size
  replace Zt2 := Nat.le_trans Zt2 hb.size
  replace Zt3 := Nat.le_trans Zt3 hb.size
  replace Zt4 := Nat.le_trans Zt4 hb.size
  clear hb
  have bwc0 := bw.cell 0
  have bwc1 := bw.cell 1
  have bwc2 := bw.cell 2
  have bgc0 := bg.cell 0
  have bgc1 := bg.cell 1
  have bgc2 := bg.cell 2
  have bwlt := bw.lt
  have bglt := bg.lt
  go_wp2_with fail
  clear bwc0 bwc1 bwc2 bgc0 bgc1 bgc2 bwlt bglt
  have hcl := (implCyc_c t7 a0 wa0 a1 wa1)
  rw [HY0.out, HY1.out] at hcl
  have HCL := hide hcl
  clear hcl
  refine HCL.out.mono ?_
  rintro e t8 ⟨u, rfl, he, hb⟩
  clear HCL
  obtain ⟨Ah, nh, ch, zh, Dh, mh, eh, rfl, hf⟩ := cocycle_form (cocycle_rd he)
  clear hf
  replace kw := kw.trans (hb.mono kw.size)
  replace bw := bw.all hb
  replace bg := bg.all hb
  replace Eg := cocycle_below Eg hb
  replace Rw := cocycle_keep Rw (hb.mono Zt1) (Nat.le_refl _)
  replace Zt1 := Nat.le_trans Zt1 hb.size
  replace Zt2 := Nat.le_trans Zt2 hb.size
  replace Zt3 := Nat.le_trans Zt3 hb.size
  replace Zt4 := Nat.le_trans Zt4 hb.size
  clear hb
  have Eh := he
  clear he
  obtain ⟨Xh, hXh⟩ : ∃ X, t8.heap.size = X := ⟨_, rfl⟩
  have Ot1t8 := Zt1
  have Ot2t8 := Zt2
  have Ot3t8 := Zt3
  have Ot4t8 := Zt4
  have Gbwt8 := bw.lt
  have Gbgt8 := bg.lt
  have Kt8 := kw.size
  have Zt8 := Nat.le_refl t8.heap.size
  have bwl2 : Xw < Xh := by have := bw.lt; omega
  have bgl2 : Xg < Xh := by have := bg.lt; omega
  have bwc0 := bw.cell 0
  have bwc1 := bw.cell 1
  have bwc2 := bw.cell 2
  have bgc0 := bg.cell 0
  have bgc1 := bg.cell 1
  have bgc2 := bg.cell 2
  have bwlt := bw.lt
  have bglt := bg.lt
  go_wp2_with fail
  clear bwc0 bwc1 bwc2 bgc0 bgc1 bgc2 bwlt bglt
  clear bwl2 bgl2
  obtain ⟨t9, ht9⟩ : ∃ w5, t8.alloc (.cells #[.slice Ah nh ch, .int .i64 zh, .slice Dh mh eh] 25) = w5 := ⟨_, rfl⟩
  have hb : Below t8.heap.size t8 t9 := by rw [← ht9]; exact (Below.refl _ _).alloc (Nat.le_refl _) _
  have bh : Blk t9 Xh 25 #[.slice Ah nh ch, .int .i64 zh, .slice Dh mh eh] := by rw [← ht9]; exact Blk.new' _ _ _ _ hXh
  rw [ht9]
  clear ht9
  replace kw := kw.trans (hb.mono kw.size)
  replace bw := bw.all hb
  replace bg := bg.all hb
  replace Eg := cocycle_below Eg hb
  replace Eh := cocycle_below Eh hb
  replace Rw := cocycle_keep Rw (hb.mono Zt1) (Nat.le_refl _)
  replace Zt1 := Nat.le_trans Zt1 hb.size
  replace Zt2 := Nat.le_trans Zt2 hb.size
  replace Zt3 := Nat.le_trans Zt3 hb.size
  replace Zt4 := Nat.le_trans Zt4 hb.size
  replace Zt8 := Nat.le_trans Zt8 hb.size
  clear hb
  have Ot1t9 := Zt1
  have Ot2t9 := Zt2
  have Ot3t9 := Zt3
  have Ot4t9 := Zt4
  have Ot8t9 := Zt8
  have Gbwt9 := bw.lt
  have Gbgt9 := bg.lt
  have Gbht9 := bh.lt
  have Kt9 := kw.size
  have Zt9 := Nat.le_refl t9.heap.size
  refine (cocycle_eq _ _ _ y0 y0 (cocycle_rd Eh) (cocycle_keep Rw (Below.refl _ _) Zt1) SY).mono ?_
  rintro e t10 ⟨rfl, hb⟩
  simp only [beq_self_eq_true]
  replace kw := kw.trans (hb.mono kw.size)
  replace bw := bw.all hb
  replace bg := bg.all hb
  replace bh := bh.all hb
  replace Eg := cocycle_below Eg hb
  replace Eh := cocycle_below Eh hb
  replace Rw := cocycle_keep Rw (hb.mono Zt1) (Nat.le_refl _)
  replace Zt1 := Nat.le_trans Zt1 hb.size
  replace Zt2 := Nat.le_trans Zt2 hb.size
  replace Zt3 := Nat.le_trans Zt3 hb.size
  replace Zt4 := Nat.le_trans Zt4 hb.size
  replace Zt8 := Nat.le_trans Zt8 hb.size
  replace Zt9 := Nat.le_trans Zt9 hb.size
  clear hb
  have bwc0 := bw.cell 0
  have bwc1 := bw.cell 1
  have bwc2 := bw.cell 2
  have bgc0 := bg.cell 0
  have bgc1 := bg.cell 1
  have bgc2 := bg.cell 2
  have bhc0 := bh.cell 0
  have bhc1 := bh.cell 1
  have bhc2 := bh.cell 2
  have bwlt := bw.lt
  have bglt := bg.lt
  have bhlt := bh.lt
  go_wp2_with fail
  clear bwc0 bwc1 bwc2 bgc0 bgc1 bgc2 bhc0 bhc1 bhc2 bwlt bglt bhlt
  refine (cocycle_heldc _ _ _ 1 (cocycle_rd Eg) (cocycle_shmk SY) (by omega) (by omega)).mono ?_
  rw [cocycle_heldmk1, Hmm.out]
  rintro e t11 ⟨rfl, hb⟩
  replace kw := kw.trans (hb.mono kw.size)
  replace bw := bw.all hb
  replace bg := bg.all hb
  replace bh := bh.all hb
  replace Eg := cocycle_below Eg hb
  replace Eh := cocycle_below Eh hb
  replace Rw := cocycle_keep Rw (hb.mono Zt1) (Nat.le_refl _)
  replace Zt1 := Nat.le_trans Zt1 hb.size
  replace Zt2 := Nat.le_trans Zt2 hb.size
  replace Zt3 := Nat.le_trans Zt3 hb.size
  replace Zt4 := Nat.le_trans Zt4 hb.size
  replace Zt8 := Nat.le_trans Zt8 hb.size
  replace Zt9 := Nat.le_trans Zt9 hb.size
  clear hb
  go_wp2_with fail
  go_ret
  exact ⟨rfl, kw⟩
end Go.Proofs.Ythjlpgaoemdmkaa
