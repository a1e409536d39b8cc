
/- The walk of the law of CoboundaryOf. -/
import Derived.Test.YthjlpgaoemdmkaaCO5
namespace Go.Proofs.Ythjlpgaoemdmkaa
open Go Go.RowKit Grp
set_option linter.unusedSimpArgs false
set_option linter.unusedVariables false
set_option maxRecDepth 100000
set_option maxHeartbeats 8000000 in
set_option maxRecDepth 100000 in
theorem law_CoboundaryOf {w : World} (v0 : Value) (x0 : ints_T) (HA0 : ints_R w w.heap.size v0 x0) (HB0 : ints_Big x0) (a1 : Int) (wa1 : i64ok a1) (v2 : Value) (x2 : rows_T) (HA2 : rows_R w w.heap.size v2 x2) (HB2 : rows_Big x2) : Calls Try.prog 12 #[v0, .int .i64 a1, v2] w (Re w (.bool true)) := by
  obtain ⟨A0, n0, c0, rfl, hf⟩ := ints_form HA0
  have hL0 := hf.len
  clear hf
  obtain ⟨A2, n2, c2, rfl, hf⟩ := rows_form HA2
  clear hf
  by_cases hq0 : (1048576 : Int) < (n0 : Int)
  · skip
    go_enter Try.func12, Try.ntmps12
    go_wp2_with fail
    have kw := Below.refl w.heap.size w
    go_ret
    exact ⟨rfl, kw⟩
  · skip
    have HS0 : ints_tot x0 ≤ 1048576 := by unfold ints_tot; omega
    by_cases q0 : (1048576 : Int) - (rows_tot x2 : Int) < 0
    · have HZ0 := hide (fun (W : World) (h : Below w.heap.size w W) => rows_sz W _ x2 1048576 (rows_keep HA2 h h.size) HB2 (by omega) (by omega))
      rw [szI_no q0] at HZ0
      go_enter Try.func12, Try.ntmps12
      go_wp2_with fail
      have kw := Below.refl w.heap.size w
      refine (HZ0.out _ kw).mono ?_
      rintro e ws0 ⟨rfl, hb⟩
      replace kw := kw.trans (hb.mono kw.size)
      clear hb
      go_wp2_with fail
      go_ret
      exact ⟨rfl, kw⟩
    · have HZ0 := hide (fun (W : World) (h : Below w.heap.size w W) => rows_sz W _ x2 1048576 (rows_keep HA2 h h.size) HB2 (by omega) (by omega))
      rw [szI_ok q0] at HZ0
      have HS2 : rows_tot x2 ≤ 1048576 := by omega
      obtain ⟨l1, el1⟩ : ∃ l, (1048576 : Int) - (rows_tot x2 : Int) = l := ⟨_, rfl⟩
      have bl1a : 0 ≤ l1 := by omega
      have bl1b : l1 ≤ 1048576 := by omega
      rw [el1] at HZ0
      clear el1 q0
      have SH0 := ints_sh HS0
      have SL0 := ints_sumle x0
      have SH2 := rows_sh HS2
      have SL2 := rows_sumle x2
      obtain ⟨y0, hy0⟩ : ∃ y : cocycle_T, cobR x0 a1 x2 = y := ⟨_, rfl⟩
      have HY0 := hide hy0
      clear hy0
      obtain ⟨y1, hy1⟩ : ∃ y : Int, cobK x0 a1 x2 = y := ⟨_, rfl⟩
      have HY1 := hide hy1
      clear hy1
      have SY0 : cocycleW_tot y0 ≤ 1048576 := by rw [← HY0.out]; exact cobR_tot HS0
      have SY := cocycleW_sh SY0
      have SY2 := cocycleW_sumle y0
      go_enter Try.func12, Try.ntmps12
      go_wp2_with fail
      have kw := Below.refl w.heap.size w
      refine (HZ0.out _ kw).mono ?_
      rintro e ws0 ⟨rfl, hb⟩
      replace kw := kw.trans (hb.mono kw.size)
      clear hb
      go_wp2_with fail
      refine (ints_to _ _ x0 (ints_keep HA0 kw kw.size) SH0).mono ?_
      rintro e t1 ⟨u, rfl, he, hb⟩
      obtain ⟨As0, ns0, cs0, rfl, hf⟩ := ints_form (ints_rd he)
      clear hf
      have hbs := hb.size
      replace kw := kw.trans (hb.mono kw.size)
      clear hb
      clear hbs
      have Es0 := he
      clear he
      go_wp2_with fail
      refine (rows_to _ _ x2 (rows_keep HA2 kw kw.size) SH2).mono ?_
      rintro e t2 ⟨u, rfl, he, hb⟩
      obtain ⟨As2, ns2, cs2, rfl, hf⟩ := rows_form (rows_rd he)
      clear hf
      have hbs := hb.size
      replace kw := kw.trans (hb.mono kw.size)
      replace Es0 := ints_below Es0 hb
      clear hb
      clear hbs
      have Es2 := he
      clear he
      go_wp2_with fail
      have hcl := (specCob_c t2 _ x0 (ints_rd Es0) SH0 a1 wa1 _ x2 (rows_rd Es2) SH2)
      rw [HY0.out, HY1.out] at hcl
      have HCL := hide hcl
      clear hcl
      refine HCL.out.mono ?_
      rintro e t3 ⟨u, rfl, he, hb⟩
      clear HCL
      obtain ⟨Aw, nw, cw, zw, Dw, mw, ew, rfl, hf⟩ := cocycleW_form (cocycleW_rd he)
      clear hf
      replace kw := kw.trans (hb.mono kw.size)
      replace Es0 := ints_below Es0 hb
      replace Es2 := rows_below Es2 hb
      clear hb
      clear Es0
      clear Es2
      have Kt3 := kw.size
      have Zt3 := Nat.le_refl t3.heap.size
      have Rw := cocycleW_rd he
      clear he
      obtain ⟨Xw, hXw⟩ : ∃ X, t3.heap.size = X := ⟨_, rfl⟩
      go_wp2_with fail
      obtain ⟨t4, ht4⟩ : ∃ w5, t3.alloc (.cells #[.slice Aw nw cw, .int .i64 zw, .slice Dw mw ew] 25) = w5 := ⟨_, rfl⟩
      have hb : Below t3.heap.size t3 t4 := by rw [← ht4]; exact (Below.refl _ _).alloc (Nat.le_refl _) _
      have bw : Blk t4 Xw 25 #[.slice Aw nw cw, .int .i64 zw, .slice Dw mw ew] := by rw [← ht4]; exact Blk.new' _ _ _ _ hXw
      rw [ht4]
      clear ht4
      replace kw := kw.trans (hb.mono kw.size)
      replace Rw := cocycleW_keep Rw (hb.mono Zt3) (Nat.le_refl _)
      replace Zt3 := Nat.le_trans Zt3 hb.size
      clear hb
      have Ot3t4 := Zt3
      have Gbwt4 := bw.lt
      have Kt4 := kw.size
      have Zt4 := Nat.le_refl t4.heap.size
      refine (ints_to _ _ x0 (ints_keep HA0 kw kw.size) SH0).mono ?_
      rintro e t5 ⟨u, rfl, he, hb⟩
      obtain ⟨Ax0, nx0, cx0, rfl, hf⟩ := ints_form (ints_rd he)
      clear hf
      have hbs := hb.size
      replace kw := kw.trans (hb.mono kw.size)
      replace bw := bw.all hb
      replace Rw := cocycleW_keep Rw (hb.mono Zt3) (Nat.le_refl _)
      replace Zt3 := Nat.le_trans Zt3 hb.size
      replace Zt4 := Nat.le_trans Zt4 hb.size
      clear hb
      clear hbs
      have EX0 := he
      clear he
      have Ot3t5 := Zt3
      have Ot4t5 := Zt4
      have Gbwt5 := bw.lt
      have Kt5 := kw.size
      have Zt5 := Nat.le_refl t5.heap.size
      have bwc0 := bw.cell 0
      have bwc1 := bw.cell 1
      have bwc2 := bw.cell 2
      have bwlt := bw.lt
      go_wp2_with fail
      clear bwc0 bwc1 bwc2 bwlt
      refine (rows_to _ _ x2 (rows_keep HA2 kw kw.size) SH2).mono ?_
      rintro e t6 ⟨u, rfl, he, hb⟩
      obtain ⟨Ax2, nx2, cx2, rfl, hf⟩ := rows_form (rows_rd he)
      clear hf
      have hbs := hb.size
      replace kw := kw.trans (hb.mono kw.size)
      replace bw := bw.all hb
      replace EX0 := ints_below EX0 hb
      replace Rw := cocycleW_keep Rw (hb.mono Zt3) (Nat.le_refl _)
      replace Zt3 := Nat.le_trans Zt3 hb.size
      replace Zt4 := Nat.le_trans Zt4 hb.size
      replace Zt5 := Nat.le_trans Zt5 hb.size
      clear hb
      clear hbs
      have EX2 := he
      clear he
      have Ot3t6 := Zt3
      have Ot4t6 := Zt4
      have Ot5t6 := Zt5
      have Gbwt6 := bw.lt
      have Kt6 := kw.size
      have Zt6 := Nat.le_refl t6.heap.size
      have bwc0 := bw.cell 0
      have bwc1 := bw.cell 1
      have bwc2 := bw.cell 2
      have bwlt := bw.lt
      go_wp2_with fail
      clear bwc0 bwc1 bwc2 bwlt
      have hcl := (implCob_c t6 _ x0 (ints_rd EX0) SH0 a1 wa1 _ x2 (rows_rd EX2) SH2)
      rw [HY0.out, HY1.out] at hcl
      have HCL := hide hcl
      clear hcl
      refine HCL.out.mono ?_
      rintro e t7 ⟨u, rfl, he, hb⟩
      clear HCL
      obtain ⟨Ag, ng, cg, zg, Dg, mg, eg, rfl, hf⟩ := cocycleW_form (cocycleW_rd he)
      clear hf
      replace kw := kw.trans (hb.mono kw.size)
      replace bw := bw.all hb
      replace EX0 := ints_below EX0 hb
      replace EX2 := rows_below EX2 hb
      replace Rw := cocycleW_keep Rw (hb.mono Zt3) (Nat.le_refl _)
      replace Zt3 := Nat.le_trans Zt3 hb.size
      replace Zt4 := Nat.le_trans Zt4 hb.size
      replace Zt5 := Nat.le_trans Zt5 hb.size
      replace Zt6 := Nat.le_trans Zt6 hb.size
      clear hb
      have Eg := he
      clear he
      have Ot3t7 := Zt3
      have Ot4t7 := Zt4
      have Ot5t7 := Zt5
      have Ot6t7 := Zt6
      have Gbwt7 := bw.lt
      have Kt7 := kw.size
      have Zt7 := Nat.le_refl t7.heap.size
      obtain ⟨Xg, hXg⟩ : ∃ X, t7.heap.size = X := ⟨_, rfl⟩
      have bwl2 : Xw < Xg := by have := bw.lt; omega
      have bwc0 := bw.cell 0
      have bwc1 := bw.cell 1
      have bwc2 := bw.cell 2
      have bwlt := bw.lt
      go_wp2_with fail
      clear bwc0 bwc1 bwc2 bwlt
      clear bwl2
      obtain ⟨t8, ht8⟩ : ∃ w5, t7.alloc (.cells #[.slice Ag ng cg, .int .i64 zg, .slice Dg mg eg] 25) = w5 := ⟨_, rfl⟩
      have hb : Below t7.heap.size t7 t8 := by rw [← ht8]; exact (Below.refl _ _).alloc (Nat.le_refl _) _
      have bg : Blk t8 Xg 25 #[.slice Ag ng cg, .int .i64 zg, .slice Dg mg eg] := by rw [← ht8]; exact Blk.new' _ _ _ _ hXg
      rw [ht8]
      clear ht8
      replace kw := kw.trans (hb.mono kw.size)
      replace bw := bw.all hb
      replace EX0 := ints_below EX0 hb
      replace EX2 := rows_below EX2 hb
      replace Eg := cocycleW_below Eg hb
      replace Rw := cocycleW_keep Rw (hb.mono Zt3) (Nat.le_refl _)
      replace Zt3 := Nat.le_trans Zt3 hb.size
      replace Zt4 := Nat.le_trans Zt4 hb.size
      replace Zt5 := Nat.le_trans Zt5 hb.size
      replace Zt6 := Nat.le_trans Zt6 hb.size
      replace Zt7 := Nat.le_trans Zt7 hb.size
      clear hb
      have Ot3t8 := Zt3
      have Ot4t8 := Zt4
      have Ot5t8 := Zt5
      have Ot6t8 := Zt6
      have Ot7t8 := Zt7
      have Gbwt8 := bw.lt
      have Gbgt8 := bg.lt
      have Kt8 := kw.size
      have Zt8 := Nat.le_refl t8.heap.size
      refine (cocycleW_eq _ _ _ y0 y0 (cocycleW_rd Eg) (cocycleW_keep Rw (Below.refl _ _) Zt3) SY).mono ?_
      rintro e t9 ⟨rfl, hb⟩
      simp only [beq_self_eq_true]
      replace kw := kw.trans (hb.mono kw.size)
      replace bw := bw.all hb
      replace bg := bg.all hb
      replace EX0 := ints_below EX0 hb
      replace EX2 := rows_below EX2 hb
      replace Eg := cocycleW_below Eg hb
      replace Rw := cocycleW_keep Rw (hb.mono Zt3) (Nat.le_refl _)
      replace Zt3 := Nat.le_trans Zt3 hb.size
      replace Zt4 := Nat.le_trans Zt4 hb.size
      replace Zt5 := Nat.le_trans Zt5 hb.size
      replace Zt6 := Nat.le_trans Zt6 hb.size
      replace Zt7 := Nat.le_trans Zt7 hb.size
      replace Zt8 := Nat.le_trans Zt8 hb.size
      clear hb
      have bwc0 := bw.cell 0
      have bwc1 := bw.cell 1
      have bwc2 := bw.cell 2
      have bgc0 := bg.cell 0
      have bgc1 := bg.cell 1
      have bgc2 := bg.cell 2
      have bwlt := bw.lt
      have bglt := bg.lt
      go_wp2_with fail
      clear bwc0 bwc1 bwc2 bgc0 bgc1 bgc2 bwlt bglt
      refine (ints_to _ _ x0 (ints_keep HA0 kw kw.size) SH0).mono ?_
      rintro e t10 ⟨u, rfl, he, hb⟩
      obtain ⟨Ar0, nr0, cr0, rfl, hf⟩ := ints_form (ints_rd he)
      clear hf
      have hbs := hb.size
      replace kw := kw.trans (hb.mono kw.size)
      replace bw := bw.all hb
      replace bg := bg.all hb
      replace EX0 := ints_below EX0 hb
      replace EX2 := rows_below EX2 hb
      replace Eg := cocycleW_below Eg hb
      replace Rw := cocycleW_keep Rw (hb.mono Zt3) (Nat.le_refl _)
      replace Zt3 := Nat.le_trans Zt3 hb.size
      replace Zt4 := Nat.le_trans Zt4 hb.size
      replace Zt5 := Nat.le_trans Zt5 hb.size
      replace Zt6 := Nat.le_trans Zt6 hb.size
      replace Zt7 := Nat.le_trans Zt7 hb.size
      replace Zt8 := Nat.le_trans Zt8 hb.size
      clear hb
      clear hbs
      have Er0 := he
      clear he
      have bwc0 := bw.cell 0
      have bwc1 := bw.cell 1
      have bwc2 := bw.cell 2
      have bgc0 := bg.cell 0
      have bgc1 := bg.cell 1
      have bgc2 := bg.cell 2
      have bwlt := bw.lt
      have bglt := bg.lt
      go_wp2_with fail
      clear bwc0 bwc1 bwc2 bgc0 bgc1 bgc2 bwlt bglt
      refine (ints_eq _ _ _ x0 x0 (ints_rd EX0) (ints_rd Er0) SH0).mono ?_
      rintro e t11 ⟨rfl, hb⟩
      simp only [beq_self_eq_true]
      replace kw := kw.trans (hb.mono kw.size)
      replace bw := bw.all hb
      replace bg := bg.all hb
      replace EX0 := ints_below EX0 hb
      replace EX2 := rows_below EX2 hb
      replace Eg := cocycleW_below Eg hb
      replace Er0 := ints_below Er0 hb
      replace Rw := cocycleW_keep Rw (hb.mono Zt3) (Nat.le_refl _)
      replace Zt3 := Nat.le_trans Zt3 hb.size
      replace Zt4 := Nat.le_trans Zt4 hb.size
      replace Zt5 := Nat.le_trans Zt5 hb.size
      replace Zt6 := Nat.le_trans Zt6 hb.size
      replace Zt7 := Nat.le_trans Zt7 hb.size
      replace Zt8 := Nat.le_trans Zt8 hb.size
      clear hb
      clear Er0
      have bwc0 := bw.cell 0
      have bwc1 := bw.cell 1
      have bwc2 := bw.cell 2
      have bgc0 := bg.cell 0
      have bgc1 := bg.cell 1
      have bgc2 := bg.cell 2
      have bwlt := bw.lt
      have bglt := bg.lt
      go_wp2_with fail
      clear bwc0 bwc1 bwc2 bgc0 bgc1 bgc2 bwlt bglt
      refine (rows_to _ _ x2 (rows_keep HA2 kw kw.size) SH2).mono ?_
      rintro e t12 ⟨u, rfl, he, hb⟩
      obtain ⟨Ar2, nr2, cr2, rfl, hf⟩ := rows_form (rows_rd he)
      clear hf
      have hbs := hb.size
      replace kw := kw.trans (hb.mono kw.size)
      replace bw := bw.all hb
      replace bg := bg.all hb
      replace EX0 := ints_below EX0 hb
      replace EX2 := rows_below EX2 hb
      replace Eg := cocycleW_below Eg hb
      replace Rw := cocycleW_keep Rw (hb.mono Zt3) (Nat.le_refl _)
      replace Zt3 := Nat.le_trans Zt3 hb.size
      replace Zt4 := Nat.le_trans Zt4 hb.size
      replace Zt5 := Nat.le_trans Zt5 hb.size
      replace Zt6 := Nat.le_trans Zt6 hb.size
      replace Zt7 := Nat.le_trans Zt7 hb.size
      replace Zt8 := Nat.le_trans Zt8 hb.size
      clear hb
      clear hbs
      have Er2 := he
      clear he
      have bwc0 := bw.cell 0
      have bwc1 := bw.cell 1
      have bwc2 := bw.cell 2
      have bgc0 := bg.cell 0
      have bgc1 := bg.cell 1
      have bgc2 := bg.cell 2
      have bwlt := bw.lt
      have bglt := bg.lt
      go_wp2_with fail
      clear bwc0 bwc1 bwc2 bgc0 bgc1 bgc2 bwlt bglt
      refine (rows_eq _ _ _ x2 x2 (rows_rd EX2) (rows_rd Er2) SH2).mono ?_
      rintro e t13 ⟨rfl, hb⟩
      simp only [beq_self_eq_true]
      replace kw := kw.trans (hb.mono kw.size)
      replace bw := bw.all hb
      replace bg := bg.all hb
      replace EX0 := ints_below EX0 hb
      replace EX2 := rows_below EX2 hb
      replace Eg := cocycleW_below Eg hb
      replace Er2 := rows_below Er2 hb
      replace Rw := cocycleW_keep Rw (hb.mono Zt3) (Nat.le_refl _)
      replace Zt3 := Nat.le_trans Zt3 hb.size
      replace Zt4 := Nat.le_trans Zt4 hb.size
      replace Zt5 := Nat.le_trans Zt5 hb.size
      replace Zt6 := Nat.le_trans Zt6 hb.size
      replace Zt7 := Nat.le_trans Zt7 hb.size
      replace Zt8 := Nat.le_trans Zt8 hb.size
      clear hb
      clear Er2
      have bwc0 := bw.cell 0
      have bwc1 := bw.cell 1
      have bwc2 := bw.cell 2
      have bgc0 := bg.cell 0
      have bgc1 := bg.cell 1
      have bgc2 := bg.cell 2
      have bwlt := bw.lt
      have bglt := bg.lt
      go_wp2_with fail
      clear bwc0 bwc1 bwc2 bgc0 bgc1 bgc2 bwlt bglt
      refine (ints_mark _ _ x0 _ 1 EX0 (by omega) (by omega) (by omega)).mono ?_
      rintro e t14 ⟨rfl, he, hw⟩
      have hbb := hw.below (B := t4.heap.size) (fun b hf => hf.1) Zt4
      replace kw := kw.trans (hbb.mono Kt4)
      replace bw := hw.blk bw (fun hf => by have a1 := hf.1; have a2 := hf.2; omega)
      replace bg := hw.blk bg (fun hf => by have a1 := hf.1; have a2 := hf.2; omega)
      replace EX2 := rows_wr EX2 hw (fun b h1 h2 => by have a1 := h1.1; have a2 := h1.2; have a3 := h2.1; have a4 := h2.2; omega)
      replace Eg := cocycleW_wr Eg hw (fun b h1 h2 => by have a1 := h1.1; have a2 := h1.2; have a3 := h2.1; have a4 := h2.2; omega)
      replace Rw := cocycleW_keep Rw (hbb.mono (by omega)) (Nat.le_refl _)
      replace Zt3 := Nat.le_trans Zt3 hw.size
      replace Zt4 := Nat.le_trans Zt4 hw.size
      replace Zt5 := Nat.le_trans Zt5 hw.size
      replace Zt6 := Nat.le_trans Zt6 hw.size
      replace Zt7 := Nat.le_trans Zt7 hw.size
      replace Zt8 := Nat.le_trans Zt8 hw.size
      replace EX0 := he
      clear hbb hw he
      obtain ⟨kk0, hkk0, hkk0a, hkk0b⟩ : ∃ z : Int, 1 + (ints_sum x0 : Int) = z ∧ 0 ≤ z ∧ z ≤ 4000000 := ⟨_, rfl, by omega, by omega⟩
      rw [hkk0]
      have Hkk0 := hide hkk0
      clear hkk0
      clear EX0
      have bwc0 := bw.cell 0
      have bwc1 := bw.cell 1
      have bwc2 := bw.cell 2
      have bgc0 := bg.cell 0
      have bgc1 := bg.cell 1
      have bgc2 := bg.cell 2
      have bwlt := bw.lt
      have bglt := bg.lt
      go_wp2_with fail
      clear bwc0 bwc1 bwc2 bgc0 bgc1 bgc2 bwlt bglt
      refine (rows_mark _ _ x2 _ kk0 EX2 (by omega) (by omega) (by omega)).mono ?_
      rintro e t15 ⟨rfl, he, hw⟩
      have hbb := hw.below (B := t5.heap.size) (fun b hf => hf.1) Zt5
      replace kw := kw.trans (hbb.mono Kt5)
      replace bw := hw.blk bw (fun hf => by have a1 := hf.1; have a2 := hf.2; omega)
      replace bg := hw.blk bg (fun hf => by have a1 := hf.1; have a2 := hf.2; omega)
      replace Eg := cocycleW_wr Eg hw (fun b h1 h2 => by have a1 := h1.1; have a2 := h1.2; have a3 := h2.1; have a4 := h2.2; omega)
      replace Rw := cocycleW_keep Rw (hbb.mono (by omega)) (Nat.le_refl _)
      replace Zt3 := Nat.le_trans Zt3 hw.size
      replace Zt4 := Nat.le_trans Zt4 hw.size
      replace Zt5 := Nat.le_trans Zt5 hw.size
      replace Zt6 := Nat.le_trans Zt6 hw.size
      replace Zt7 := Nat.le_trans Zt7 hw.size
      replace Zt8 := Nat.le_trans Zt8 hw.size
      replace EX2 := he
      clear hbb hw he
      obtain ⟨kk1, hkk1, hkk1a, hkk1b⟩ : ∃ z : Int, kk0 + (rows_sum x2 : Int) = z ∧ 0 ≤ z ∧ z ≤ 8000000 := ⟨_, rfl, by omega, by omega⟩
      rw [hkk1]
      have Hkk1 := hide hkk1
      clear hkk1
      clear EX2
      have bwc0 := bw.cell 0
      have bwc1 := bw.cell 1
      have bwc2 := bw.cell 2
      have bgc0 := bg.cell 0
      have bgc1 := bg.cell 1
      have bgc2 := bg.cell 2
      have bwlt := bw.lt
      have bglt := bg.lt
      go_wp2_with fail
      clear bwc0 bwc1 bwc2 bgc0 bgc1 bgc2 bwlt bglt
      refine (cocycleW_eq _ _ _ y0 y0 (cocycleW_rd Eg) (cocycleW_keep Rw (Below.refl _ _) Zt3) SY).mono ?_
      rintro e t16 ⟨rfl, hb⟩
      simp only [beq_self_eq_true]
      replace kw := kw.trans (hb.mono kw.size)
      replace bw := bw.all hb
      replace bg := bg.all hb
      replace Eg := cocycleW_below Eg hb
      replace Rw := cocycleW_keep Rw (hb.mono Zt3) (Nat.le_refl _)
      replace Zt3 := Nat.le_trans Zt3 hb.size
      replace Zt4 := Nat.le_trans Zt4 hb.size
      replace Zt5 := Nat.le_trans Zt5 hb.size
      replace Zt6 := Nat.le_trans Zt6 hb.size
      replace Zt7 := Nat.le_trans Zt7 hb.size
      replace Zt8 := Nat.le_trans Zt8 hb.size
      clear hb
      have bwc0 := bw.cell 0
      have bwc1 := bw.cell 1
      have bwc2 := bw.cell 2
      have bgc0 := bg.cell 0
      have bgc1 := bg.cell 1
      have bgc2 := bg.cell 2
      have bwlt := bw.lt
      have bglt := bg.lt
      go_wp2_with fail
      clear bwc0 bwc1 bwc2 bgc0 bgc1 bgc2 bwlt bglt
      refine (cocycleW_mark _ _ y0 _ 1 Eg (by omega) (by omega) (by omega)).mono ?_
      rintro e t17 ⟨rfl, he, hw⟩
      have hbb := hw.below (B := t6.heap.size) (fun b hf => hf.1) Zt6
      replace kw := kw.trans (hbb.mono Kt6)
      replace bw := hw.blk bw (fun hf => by have a1 := hf.1; have a2 := hf.2; omega)
      replace bg := hw.blk bg (fun hf => by have a1 := hf.1; have a2 := hf.2; omega)
      replace Rw := cocycleW_keep Rw (hbb.mono (by omega)) (Nat.le_refl _)
      replace Zt3 := Nat.le_trans Zt3 hw.size
      replace Zt4 := Nat.le_trans Zt4 hw.size
      replace Zt5 := Nat.le_trans Zt5 hw.size
      replace Zt6 := Nat.le_trans Zt6 hw.size
      replace Zt7 := Nat.le_trans Zt7 hw.size
      replace Zt8 := Nat.le_trans Zt8 hw.size
      replace Eg := he
      clear hbb hw he
      obtain ⟨mm, hmm, hmma, hmmb⟩ : ∃ z : Int, 1 + (cocycleW_sum y0 : Int) = z ∧ 0 ≤ z ∧ z ≤ 4000000 := ⟨_, rfl, by omega, by omega⟩
      rw [hmm]
      have Hmm := hide hmm
      clear hmm
      have bwc0 := bw.cell 0
      have bwc1 := bw.cell 1
      have bwc2 := bw.cell 2
      have bgc0 := bg.cell 0
      have bgc1 := bg.cell 1
      have bgc2 := bg.cell 2
      have bwlt := bw.lt
      have bglt := bg.lt
      go_wp2_with fail
      clear bwc0 bwc1 bwc2 bgc0 bgc1 bgc2 bwlt bglt
      refine (cocycleW_heldc _ _ _ 1 (cocycleW_rd Eg) (cocycleW_shmk SY) (by omega) (by omega)).mono ?_
      rw [cocycleW_heldmk1, Hmm.out]
      rintro e t18 ⟨rfl, hb⟩
      replace kw := kw.trans (hb.mono kw.size)
      replace bw := bw.all hb
      replace bg := bg.all hb
      replace Eg := cocycleW_below Eg hb
      replace Rw := cocycleW_keep Rw (hb.mono Zt3) (Nat.le_refl _)
      replace Zt3 := Nat.le_trans Zt3 hb.size
      replace Zt4 := Nat.le_trans Zt4 hb.size
      replace Zt5 := Nat.le_trans Zt5 hb.size
      replace Zt6 := Nat.le_trans Zt6 hb.size
      replace Zt7 := Nat.le_trans Zt7 hb.size
      replace Zt8 := Nat.le_trans Zt8 hb.size
      clear hb
      have bwc0 := bw.cell 0
      have bwc1 := bw.cell 1
      have bwc2 := bw.cell 2
      have bgc0 := bg.cell 0
      have bgc1 := bg.cell 1
      have bgc2 := bg.cell 2
      have bwlt := bw.lt
      have bglt := bg.lt
      go_wp2_with fail
      clear bwc0 bwc1 bwc2 bgc0 bgc1 bgc2 bwlt bglt
      refine (ints_to _ _ x0 (ints_keep HA0 kw kw.size) SH0).mono ?_
      rintro e t19 ⟨u, rfl, he, hb⟩
      obtain ⟨Ah0, nh0, ch0, rfl, hf⟩ := ints_form (ints_rd he)
      clear hf
      have hbs := hb.size
      replace kw := kw.trans (hb.mono kw.size)
      replace bw := bw.all hb
      replace bg := bg.all hb
      replace Eg := cocycleW_below Eg hb
      replace Rw := cocycleW_keep Rw (hb.mono Zt3) (Nat.le_refl _)
      replace Zt3 := Nat.le_trans Zt3 hb.size
      replace Zt4 := Nat.le_trans Zt4 hb.size
      replace Zt5 := Nat.le_trans Zt5 hb.size
      replace Zt6 := Nat.le_trans Zt6 hb.size
      replace Zt7 := Nat.le_trans Zt7 hb.size
      replace Zt8 := Nat.le_trans Zt8 hb.size
      clear hb
      clear hbs
      have Eh0 := he
      clear he
      have bwc0 := bw.cell 0
      have bwc1 := bw.cell 1
      have bwc2 := bw.cell 2
      have bgc0 := bg.cell 0
      have bgc1 := bg.cell 1
      have bgc2 := bg.cell 2
      have bwlt := bw.lt
      have bglt := bg.lt
      go_wp2_with fail
      clear bwc0 bwc1 bwc2 bgc0 bgc1 bgc2 bwlt bglt
      refine (rows_to _ _ x2 (rows_keep HA2 kw kw.size) SH2).mono ?_
      rintro e t20 ⟨u, rfl, he, hb⟩
      obtain ⟨Ah2, nh2, ch2, rfl, hf⟩ := rows_form (rows_rd he)
      clear hf
      have hbs := hb.size
      replace kw := kw.trans (hb.mono kw.size)
      replace bw := bw.all hb
      replace bg := bg.all hb
      replace Eg := cocycleW_below Eg hb
      replace Eh0 := ints_below Eh0 hb
      replace Rw := cocycleW_keep Rw (hb.mono Zt3) (Nat.le_refl _)
      replace Zt3 := Nat.le_trans Zt3 hb.size
      replace Zt4 := Nat.le_trans Zt4 hb.size
      replace Zt5 := Nat.le_trans Zt5 hb.size
      replace Zt6 := Nat.le_trans Zt6 hb.size
      replace Zt7 := Nat.le_trans Zt7 hb.size
      replace Zt8 := Nat.le_trans Zt8 hb.size
      clear hb
      clear hbs
      have Eh2 := he
      clear he
      have bwc0 := bw.cell 0
      have bwc1 := bw.cell 1
      have bwc2 := bw.cell 2
      have bgc0 := bg.cell 0
      have bgc1 := bg.cell 1
      have bgc2 := bg.cell 2
      have bwlt := bw.lt
      have bglt := bg.lt
      go_wp2_with fail
      clear bwc0 bwc1 bwc2 bgc0 bgc1 bgc2 bwlt bglt
      have hcl := (implCob_c t20 _ x0 (ints_rd Eh0) SH0 a1 wa1 _ x2 (rows_rd Eh2) SH2)
      rw [HY0.out, HY1.out] at hcl
      have HCL := hide hcl
      clear hcl
      refine HCL.out.mono ?_
      rintro e t21 ⟨u, rfl, he, hb⟩
      clear HCL
      obtain ⟨Ah, nh, ch, zh, Dh, mh, eh, rfl, hf⟩ := cocycleW_form (cocycleW_rd he)
      clear hf
      replace kw := kw.trans (hb.mono kw.size)
      replace bw := bw.all hb
      replace bg := bg.all hb
      replace Eg := cocycleW_below Eg hb
      replace Eh0 := ints_below Eh0 hb
      replace Eh2 := rows_below Eh2 hb
      replace Rw := cocycleW_keep Rw (hb.mono Zt3) (Nat.le_refl _)
      replace Zt3 := Nat.le_trans Zt3 hb.size
      replace Zt4 := Nat.le_trans Zt4 hb.size
      replace Zt5 := Nat.le_trans Zt5 hb.size
      replace Zt6 := Nat.le_trans Zt6 hb.size
      replace Zt7 := Nat.le_trans Zt7 hb.size
      replace Zt8 := Nat.le_trans Zt8 hb.size
      clear hb
      have Eh := he
      clear he
      obtain ⟨Xh, hXh⟩ : ∃ X, t21.heap.size = X := ⟨_, rfl⟩
      have Ot3t21 := Zt3
      have Ot4t21 := Zt4
      have Ot5t21 := Zt5
      have Ot6t21 := Zt6
      have Ot7t21 := Zt7
      have Ot8t21 := Zt8
      have Gbwt21 := bw.lt
      have Gbgt21 := bg.lt
      have Kt21 := kw.size
      have Zt21 := Nat.le_refl t21.heap.size
      have bwl2 : Xw < Xh := by have := bw.lt; omega
      have bgl2 : Xg < Xh := by have := bg.lt; omega
      have bwc0 := bw.cell 0
      have bwc1 := bw.cell 1
      have bwc2 := bw.cell 2
      have bgc0 := bg.cell 0
      have bgc1 := bg.cell 1
      have bgc2 := bg.cell 2
      have bwlt := bw.lt
      have bglt := bg.lt
      go_wp2_with fail
      clear bwc0 bwc1 bwc2 bgc0 bgc1 bgc2 bwlt bglt
      clear bwl2 bgl2
      obtain ⟨t22, ht22⟩ : ∃ w5, t21.alloc (.cells #[.slice Ah nh ch, .int .i64 zh, .slice Dh mh eh] 25) = w5 := ⟨_, rfl⟩
      have hb : Below t21.heap.size t21 t22 := by rw [← ht22]; exact (Below.refl _ _).alloc (Nat.le_refl _) _
      have bh : Blk t22 Xh 25 #[.slice Ah nh ch, .int .i64 zh, .slice Dh mh eh] := by rw [← ht22]; exact Blk.new' _ _ _ _ hXh
      rw [ht22]
      clear ht22
      replace kw := kw.trans (hb.mono kw.size)
      replace bw := bw.all hb
      replace bg := bg.all hb
      replace Eg := cocycleW_below Eg hb
      replace Eh0 := ints_below Eh0 hb
      replace Eh2 := rows_below Eh2 hb
      replace Eh := cocycleW_below Eh hb
      replace Rw := cocycleW_keep Rw (hb.mono Zt3) (Nat.le_refl _)
      replace Zt3 := Nat.le_trans Zt3 hb.size
      replace Zt4 := Nat.le_trans Zt4 hb.size
      replace Zt5 := Nat.le_trans Zt5 hb.size
      replace Zt6 := Nat.le_trans Zt6 hb.size
      replace Zt7 := Nat.le_trans Zt7 hb.size
      replace Zt8 := Nat.le_trans Zt8 hb.size
      replace Zt21 := Nat.le_trans Zt21 hb.size
      clear hb
      have Ot3t22 := Zt3
      have Ot4t22 := Zt4
      have Ot5t22 := Zt5
      have Ot6t22 := Zt6
      have Ot7t22 := Zt7
      have Ot8t22 := Zt8
      have Ot21t22 := Zt21
      have Gbwt22 := bw.lt
      have Gbgt22 := bg.lt
      have Gbht22 := bh.lt
      have Kt22 := kw.size
      have Zt22 := Nat.le_refl t22.heap.size
      refine (cocycleW_eq _ _ _ y0 y0 (cocycleW_rd Eh) (cocycleW_keep Rw (Below.refl _ _) Zt3) SY).mono ?_
      rintro e t23 ⟨rfl, hb⟩
      simp only [beq_self_eq_true]
      replace kw := kw.trans (hb.mono kw.size)
      replace bw := bw.all hb
      replace bg := bg.all hb
      replace bh := bh.all hb
      replace Eg := cocycleW_below Eg hb
      replace Eh0 := ints_below Eh0 hb
      replace Eh2 := rows_below Eh2 hb
      replace Eh := cocycleW_below Eh hb
      replace Rw := cocycleW_keep Rw (hb.mono Zt3) (Nat.le_refl _)
      replace Zt3 := Nat.le_trans Zt3 hb.size
      replace Zt4 := Nat.le_trans Zt4 hb.size
      replace Zt5 := Nat.le_trans Zt5 hb.size
      replace Zt6 := Nat.le_trans Zt6 hb.size
      replace Zt7 := Nat.le_trans Zt7 hb.size
      replace Zt8 := Nat.le_trans Zt8 hb.size
      replace Zt21 := Nat.le_trans Zt21 hb.size
      replace Zt22 := Nat.le_trans Zt22 hb.size
      clear hb
      have bwc0 := bw.cell 0
      have bwc1 := bw.cell 1
      have bwc2 := bw.cell 2
      have bgc0 := bg.cell 0
      have bgc1 := bg.cell 1
      have bgc2 := bg.cell 2
      have bhc0 := bh.cell 0
      have bhc1 := bh.cell 1
      have bhc2 := bh.cell 2
      have bwlt := bw.lt
      have bglt := bg.lt
      have bhlt := bh.lt
      go_wp2_with fail
      clear bwc0 bwc1 bwc2 bgc0 bgc1 bgc2 bhc0 bhc1 bhc2 bwlt bglt bhlt
      refine (cocycleW_heldc _ _ _ 1 (cocycleW_rd Eg) (cocycleW_shmk SY) (by omega) (by omega)).mono ?_
      rw [cocycleW_heldmk1, Hmm.out]
      rintro e t24 ⟨rfl, hb⟩
      replace kw := kw.trans (hb.mono kw.size)
      replace bw := bw.all hb
      replace bg := bg.all hb
      replace bh := bh.all hb
      replace Eg := cocycleW_below Eg hb
      replace Eh0 := ints_below Eh0 hb
      replace Eh2 := rows_below Eh2 hb
      replace Eh := cocycleW_below Eh hb
      replace Rw := cocycleW_keep Rw (hb.mono Zt3) (Nat.le_refl _)
      replace Zt3 := Nat.le_trans Zt3 hb.size
      replace Zt4 := Nat.le_trans Zt4 hb.size
      replace Zt5 := Nat.le_trans Zt5 hb.size
      replace Zt6 := Nat.le_trans Zt6 hb.size
      replace Zt7 := Nat.le_trans Zt7 hb.size
      replace Zt8 := Nat.le_trans Zt8 hb.size
      replace Zt21 := Nat.le_trans Zt21 hb.size
      replace Zt22 := Nat.le_trans Zt22 hb.size
      clear hb
      go_wp2_with fail
      go_ret
      exact ⟨rfl, kw⟩
end Go.Proofs.Ythjlpgaoemdmkaa
