
/- The law of ParseMetric. -/
import Derived.Test.YtkhkejdkakmiiaaGreatDoorPM11
namespace Go.Proofs.YtkhkejdkakmiiaaGreatDoor
open Go Go.RowKit
set_option linter.unusedSimpArgs false
set_option linter.unusedVariables false
theorem pm_sh (s : ByteArray) : metric_tot (pmX s) ≤ 1048576 := by
  have := pm_small (s := s)
  unfold metric_tot
  omega
set_option maxHeartbeats 8000000 in
set_option maxRecDepth 100000 in
theorem law_ParseMetric {w : World} (hT : TbZ w) (s0 : ByteArray) (ws0 : s0.size ≤ maxLen) : Calls Tryz.prog 3 #[.string s0] w (Re w (.bool true)) := by
  by_cases hq0 : (1048576 : Int) < ((s0.size : Nat) : Int)
  · skip
    go_enter Tryz.func3, Tryz.ntmps3
    go_wp2_with fail
    have kw := Below.refl w.heap.size w
    go_ret
    exact ⟨rfl, kw⟩
  · skip
    have hs0 : s0.size ≤ 1048576 := by omega
    obtain ⟨y0, hy0⟩ : ∃ y : metric_T, pmX s0 = y := ⟨_, rfl⟩
    have HY0 := hide hy0
    clear hy0
    obtain ⟨y1, hy1⟩ : ∃ y : Int, pmC s0 = y := ⟨_, rfl⟩
    have HY1 := hide hy1
    clear hy1
    have SY0 : metric_tot y0 ≤ 1048576 := by rw [← HY0.out]; exact pm_sh s0
    have SY := metric_sh SY0
    have SY2 := metric_sumle y0
    go_enter Tryz.func3, Tryz.ntmps3
    go_wp2_with fail
    have kw := Below.refl w.heap.size w
    have hcl := (specPM_any w s0 hs0)
    rw [HY0.out, HY1.out] at hcl
    have HCL := hide hcl
    clear hcl
    refine HCL.out.mono ?_
    rintro e t1 ⟨u, rfl, he, hb⟩
    clear HCL
    obtain ⟨Aw, nw, cw, zw, Dw, mw, ew, rfl, hf⟩ := metric_form (metric_rd he)
    clear hf
    replace kw := kw.trans (hb.mono kw.size)
    clear hb
    have Kt1 := kw.size
    have Zt1 := Nat.le_refl t1.heap.size
    have Rw := metric_rd he
    clear he
    obtain ⟨Xw, hXw⟩ : ∃ X, t1.heap.size = X := ⟨_, rfl⟩
    go_wp2_with fail
    obtain ⟨t2, ht2⟩ : ∃ w5, t1.alloc (.cells #[.slice Aw nw cw, .int .i64 zw, .slice Dw mw ew] 24) = w5 := ⟨_, rfl⟩
    have hb : Below t1.heap.size t1 t2 := by rw [← ht2]; exact (Below.refl _ _).alloc (Nat.le_refl _) _
    have bw : Blk t2 Xw 24 #[.slice Aw nw cw, .int .i64 zw, .slice Dw mw ew] := by rw [← ht2]; exact Blk.new' _ _ _ _ hXw
    rw [ht2]
    clear ht2
    replace kw := kw.trans (hb.mono kw.size)
    replace Rw := metric_keep Rw (hb.mono Zt1) (Nat.le_refl _)
    replace Zt1 := Nat.le_trans Zt1 hb.size
    clear hb
    have Ot1t2 := Zt1
    have Gbwt2 := bw.lt
    have Kt2 := kw.size
    have Zt2 := Nat.le_refl t2.heap.size
    have hcl := (implPM_any t2 s0 hs0 (hT.bel kw))
    rw [HY0.out, HY1.out] at hcl
    have HCL := hide hcl
    clear hcl
    refine HCL.out.mono ?_
    rintro e t3 ⟨u, rfl, he, hb⟩
    clear HCL
    obtain ⟨Ag, ng, cg, zg, Dg, mg, eg, rfl, hf⟩ := metric_form (metric_rd he)
    clear hf
    replace kw := kw.trans (hb.mono kw.size)
    replace bw := bw.all hb
    replace Rw := metric_keep Rw (hb.mono Zt1) (Nat.le_refl _)
    replace Zt1 := Nat.le_trans Zt1 hb.size
    replace Zt2 := Nat.le_trans Zt2 hb.size
    clear hb
    have Eg := he
    clear he
    have Ot1t3 := Zt1
    have Ot2t3 := Zt2
    have Gbwt3 := bw.lt
    have Kt3 := kw.size
    have Zt3 := Nat.le_refl t3.heap.size
    obtain ⟨Xg, hXg⟩ : ∃ X, t3.heap.size = X := ⟨_, rfl⟩
    have bwl2 : Xw < Xg := by have := bw.lt; omega
    have bwc0 := bw.cell 0
    have bwc1 := bw.cell 1
    have bwc2 := bw.cell 2
    have bwlt := bw.lt
    go_wp2_with fail
    clear bwc0 bwc1 bwc2 bwlt
    clear bwl2
    obtain ⟨t4, ht4⟩ : ∃ w5, t3.alloc (.cells #[.slice Ag ng cg, .int .i64 zg, .slice Dg mg eg] 24) = w5 := ⟨_, rfl⟩
    have hb : Below t3.heap.size t3 t4 := by rw [← ht4]; exact (Below.refl _ _).alloc (Nat.le_refl _) _
    have bg : Blk t4 Xg 24 #[.slice Ag ng cg, .int .i64 zg, .slice Dg mg eg] := by rw [← ht4]; exact Blk.new' _ _ _ _ hXg
    rw [ht4]
    clear ht4
    replace kw := kw.trans (hb.mono kw.size)
    replace bw := bw.all hb
    replace Eg := metric_below Eg hb
    replace Rw := metric_keep Rw (hb.mono Zt1) (Nat.le_refl _)
    replace Zt1 := Nat.le_trans Zt1 hb.size
    replace Zt2 := Nat.le_trans Zt2 hb.size
    replace Zt3 := Nat.le_trans Zt3 hb.size
    clear hb
    have Ot1t4 := Zt1
    have Ot2t4 := Zt2
    have Ot3t4 := Zt3
    have Gbwt4 := bw.lt
    have Gbgt4 := bg.lt
    have Kt4 := kw.size
    have Zt4 := Nat.le_refl t4.heap.size
    refine (metric_eq _ _ _ y0 y0 (metric_rd Eg) (metric_keep Rw (Below.refl _ _) Zt1) SY).mono ?_
    rintro e t5 ⟨rfl, hb⟩
    simp only [beq_self_eq_true]
    replace kw := kw.trans (hb.mono kw.size)
    replace bw := bw.all hb
    replace bg := bg.all hb
    replace Eg := metric_below Eg hb
    replace Rw := metric_keep Rw (hb.mono Zt1) (Nat.le_refl _)
    replace Zt1 := Nat.le_trans Zt1 hb.size
    replace Zt2 := Nat.le_trans Zt2 hb.size
    replace Zt3 := Nat.le_trans Zt3 hb.size
    replace Zt4 := Nat.le_trans Zt4 hb.size
    clear hb
    have bwc0 := bw.cell 0
    have bwc1 := bw.cell 1
    have bwc2 := bw.cell 2
    have bgc0 := bg.cell 0
    have bgc1 := bg.cell 1
    have bgc2 := bg.cell 2
    have bwlt := bw.lt
    have bglt := bg.lt
    go_wp2_with fail
    clear bwc0 bwc1 bwc2 bgc0 bgc1 bgc2 bwlt bglt
    refine (metric_mark _ _ y0 _ 1 Eg (by omega) (by omega) (by omega)).mono ?_
    rintro e t6 ⟨rfl, he, hw⟩
    have hbb := hw.below (B := t2.heap.size) (fun b hf => hf.1) Zt2
    replace kw := kw.trans (hbb.mono Kt2)
    replace bw := hw.blk bw (fun hf => by have a1 := hf.1; have a2 := hf.2; omega)
    replace bg := hw.blk bg (fun hf => by have a1 := hf.1; have a2 := hf.2; omega)
    replace Rw := metric_keep Rw (hbb.mono (by omega)) (Nat.le_refl _)
    replace Zt1 := Nat.le_trans Zt1 hw.size
    replace Zt2 := Nat.le_trans Zt2 hw.size
    replace Zt3 := Nat.le_trans Zt3 hw.size
    replace Zt4 := Nat.le_trans Zt4 hw.size
    replace Eg := he
    clear hbb hw he
    obtain ⟨mm, hmm, hmma, hmmb⟩ : ∃ z : Int, 1 + (metric_sum y0 : Int) = z ∧ 0 ≤ z ∧ z ≤ 4000000 := ⟨_, rfl, by omega, by omega⟩
    rw [hmm]
    have Hmm := hide hmm
    clear hmm
    have bwc0 := bw.cell 0
    have bwc1 := bw.cell 1
    have bwc2 := bw.cell 2
    have bgc0 := bg.cell 0
    have bgc1 := bg.cell 1
    have bgc2 := bg.cell 2
    have bwlt := bw.lt
    have bglt := bg.lt
    go_wp2_with fail
    clear bwc0 bwc1 bwc2 bgc0 bgc1 bgc2 bwlt bglt
    refine (metric_heldc _ _ _ 1 (metric_rd Eg) (metric_shmk SY) (by omega) (by omega)).mono ?_
    rw [metric_heldmk1, Hmm.out]
    rintro e t7 ⟨rfl, hb⟩
    replace kw := kw.trans (hb.mono kw.size)
    replace bw := bw.all hb
    replace bg := bg.all hb
    replace Eg := metric_below Eg hb
    replace Rw := metric_keep Rw (hb.mono Zt1) (Nat.le_refl _)
    replace Zt1 := Nat.le_trans Zt1 hb.size
    replace Zt2 := Nat.le_trans Zt2 hb.size
    replace Zt3 := Nat.le_trans Zt3 hb.size
    replace Zt4 := Nat.le_trans Zt4 hb.size
    clear hb
    have bwc0 := bw.cell 0
    have bwc1 := bw.cell 1
    have bwc2 := bw.cell 2
    have bgc0 := bg.cell 0
    have bgc1 := bg.cell 1
    have bgc2 := bg.cell 2
    have bwlt := bw.lt
    have bglt := bg.lt
    go_wp2_with fail
    clear bwc0 bwc1 bwc2 bgc0 bgc1 bgc2 bwlt bglt
    have hcl := (implPM_any t7 s0 hs0 (hT.bel kw))
    rw [HY0.out, HY1.out] at hcl
    have HCL := hide hcl
    clear hcl
    refine HCL.out.mono ?_
    rintro e t8 ⟨u, rfl, he, hb⟩
    clear HCL
    obtain ⟨Ah, nh, ch, zh, Dh, mh, eh, rfl, hf⟩ := metric_form (metric_rd he)
    clear hf
    replace kw := kw.trans (hb.mono kw.size)
    replace bw := bw.all hb
    replace bg := bg.all hb
    replace Eg := metric_below Eg hb
    replace Rw := metric_keep Rw (hb.mono Zt1) (Nat.le_refl _)
    replace Zt1 := Nat.le_trans Zt1 hb.size
    replace Zt2 := Nat.le_trans Zt2 hb.size
    replace Zt3 := Nat.le_trans Zt3 hb.size
    replace Zt4 := Nat.le_trans Zt4 hb.size
    clear hb
    have Eh := he
    clear he
    obtain ⟨Xh, hXh⟩ : ∃ X, t8.heap.size = X := ⟨_, rfl⟩
    have Ot1t8 := Zt1
    have Ot2t8 := Zt2
    have Ot3t8 := Zt3
    have Ot4t8 := Zt4
    have Gbwt8 := bw.lt
    have Gbgt8 := bg.lt
    have Kt8 := kw.size
    have Zt8 := Nat.le_refl t8.heap.size
    have bwl2 : Xw < Xh := by have := bw.lt; omega
    have bgl2 : Xg < Xh := by have := bg.lt; omega
    have bwc0 := bw.cell 0
    have bwc1 := bw.cell 1
    have bwc2 := bw.cell 2
    have bgc0 := bg.cell 0
    have bgc1 := bg.cell 1
    have bgc2 := bg.cell 2
    have bwlt := bw.lt
    have bglt := bg.lt
    go_wp2_with fail
    clear bwc0 bwc1 bwc2 bgc0 bgc1 bgc2 bwlt bglt
    clear bwl2 bgl2
    obtain ⟨t9, ht9⟩ : ∃ w5, t8.alloc (.cells #[.slice Ah nh ch, .int .i64 zh, .slice Dh mh eh] 24) = w5 := ⟨_, rfl⟩
    have hb : Below t8.heap.size t8 t9 := by rw [← ht9]; exact (Below.refl _ _).alloc (Nat.le_refl _) _
    have bh : Blk t9 Xh 24 #[.slice Ah nh ch, .int .i64 zh, .slice Dh mh eh] := by rw [← ht9]; exact Blk.new' _ _ _ _ hXh
    rw [ht9]
    clear ht9
    replace kw := kw.trans (hb.mono kw.size)
    replace bw := bw.all hb
    replace bg := bg.all hb
    replace Eg := metric_below Eg hb
    replace Eh := metric_below Eh hb
    replace Rw := metric_keep Rw (hb.mono Zt1) (Nat.le_refl _)
    replace Zt1 := Nat.le_trans Zt1 hb.size
    replace Zt2 := Nat.le_trans Zt2 hb.size
    replace Zt3 := Nat.le_trans Zt3 hb.size
    replace Zt4 := Nat.le_trans Zt4 hb.size
    replace Zt8 := Nat.le_trans Zt8 hb.size
    clear hb
    have Ot1t9 := Zt1
    have Ot2t9 := Zt2
    have Ot3t9 := Zt3
    have Ot4t9 := Zt4
    have Ot8t9 := Zt8
    have Gbwt9 := bw.lt
    have Gbgt9 := bg.lt
    have Gbht9 := bh.lt
    have Kt9 := kw.size
    have Zt9 := Nat.le_refl t9.heap.size
    refine (metric_eq _ _ _ y0 y0 (metric_rd Eh) (metric_keep Rw (Below.refl _ _) Zt1) SY).mono ?_
    rintro e t10 ⟨rfl, hb⟩
    simp only [beq_self_eq_true]
    replace kw := kw.trans (hb.mono kw.size)
    replace bw := bw.all hb
    replace bg := bg.all hb
    replace bh := bh.all hb
    replace Eg := metric_below Eg hb
    replace Eh := metric_below Eh hb
    replace Rw := metric_keep Rw (hb.mono Zt1) (Nat.le_refl _)
    replace Zt1 := Nat.le_trans Zt1 hb.size
    replace Zt2 := Nat.le_trans Zt2 hb.size
    replace Zt3 := Nat.le_trans Zt3 hb.size
    replace Zt4 := Nat.le_trans Zt4 hb.size
    replace Zt8 := Nat.le_trans Zt8 hb.size
    replace Zt9 := Nat.le_trans Zt9 hb.size
    clear hb
    have bwc0 := bw.cell 0
    have bwc1 := bw.cell 1
    have bwc2 := bw.cell 2
    have bgc0 := bg.cell 0
    have bgc1 := bg.cell 1
    have bgc2 := bg.cell 2
    have bhc0 := bh.cell 0
    have bhc1 := bh.cell 1
    have bhc2 := bh.cell 2
    have bwlt := bw.lt
    have bglt := bg.lt
    have bhlt := bh.lt
    go_wp2_with fail
    clear bwc0 bwc1 bwc2 bgc0 bgc1 bgc2 bhc0 bhc1 bhc2 bwlt bglt bhlt
    refine (metric_heldc _ _ _ 1 (metric_rd Eg) (metric_shmk SY) (by omega) (by omega)).mono ?_
    rw [metric_heldmk1, Hmm.out]
    rintro e t11 ⟨rfl, hb⟩
    replace kw := kw.trans (hb.mono kw.size)
    replace bw := bw.all hb
    replace bg := bg.all hb
    replace bh := bh.all hb
    replace Eg := metric_below Eg hb
    replace Eh := metric_below Eh hb
    replace Rw := metric_keep Rw (hb.mono Zt1) (Nat.le_refl _)
    replace Zt1 := Nat.le_trans Zt1 hb.size
    replace Zt2 := Nat.le_trans Zt2 hb.size
    replace Zt3 := Nat.le_trans Zt3 hb.size
    replace Zt4 := Nat.le_trans Zt4 hb.size
    replace Zt8 := Nat.le_trans Zt8 hb.size
    replace Zt9 := Nat.le_trans Zt9 hb.size
    clear hb
    go_wp2_with fail
    go_ret
    exact ⟨rfl, kw⟩
end Go.Proofs.YtkhkejdkakmiiaaGreatDoor
