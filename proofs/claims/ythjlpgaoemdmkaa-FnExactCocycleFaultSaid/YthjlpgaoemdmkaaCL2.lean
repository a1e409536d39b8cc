
/- The walks of the laws IsCocycle, CocycleFault. -/
import Derived.Test.YthjlpgaoemdmkaaCL1
namespace Go.Proofs.Ythjlpgaoemdmkaa
open Go Go.RowKit Grp
set_option linter.unusedSimpArgs false
set_option linter.unusedVariables false
set_option maxHeartbeats 8000000 in
set_option maxRecDepth 100000 in
theorem law_IsCocycle {w : World} (v0 : Value) (x0 : cocycle_T) (HA0 : cocycle_R w w.heap.size v0 x0) (HB0 : cocycle_Big x0) : Calls Try.prog 8 #[v0] w (Re w (.bool true)) := by
  obtain ⟨A0, n0, c0, z0, D0, m0, e0, rfl, hf⟩ := cocycle_form HA0
  clear hf
  by_cases q0 : (1048576 : Int) - (cocycle_tot x0 : Int) < 0
  · have HZ0 := hide (fun (W : World) (h : Below w.heap.size w W) => cocycle_sz W _ x0 1048576 (cocycle_keep HA0 h h.size) HB0 (by omega) (by omega))
    rw [szI_no q0] at HZ0
    go_enter Try.func8, Try.ntmps8
    go_wp2_with fail
    obtain ⟨W, hW⟩ : ∃ W, w.alloc (.cells #[.slice A0 n0 c0, .int .i64 z0, .slice D0 m0 e0] 47) = W := ⟨_, rfl⟩
    have kw : Below w.heap.size w W := by rw [← hW]; exact (by repeat (first | assumption | exact Below.refl _ _ | apply below_drewN | apply Below.drew | apply Below.alloc | apply Below.setCell | omega | (focus (simp; done)) | (focus (simp; omega))))
    have bA0 : Blk W (w.heap.size) 47 #[.slice A0 n0 c0, .int .i64 z0, .slice D0 m0 e0] := by rw [← hW]; exact (Blk.new' _ _ _ _ (by simp))
    have sA0 : w.heap.size < W.heap.size := bA0.lt
    rw [hW]
    clear hW
    refine (HZ0.out _ kw).mono ?_
    rintro e ws0 ⟨rfl, hb⟩
    replace kw := kw.trans (hb.mono kw.size)
    replace bA0 := bA0.all hb
    replace sA0 := Nat.lt_of_lt_of_le sA0 hb.size
    clear hb
    have bA0c0 := bA0.cell 0
    have bA0c1 := bA0.cell 1
    have bA0c2 := bA0.cell 2
    go_wp2_with fail
    clear bA0c0 bA0c1 bA0c2
    go_ret
    exact ⟨rfl, kw⟩
  · have HZ0 := hide (fun (W : World) (h : Below w.heap.size w W) => cocycle_sz W _ x0 1048576 (cocycle_keep HA0 h h.size) HB0 (by omega) (by omega))
    rw [szI_ok q0] at HZ0
    have HS0 : cocycle_tot x0 ≤ 1048576 := by omega
    obtain ⟨l1, el1⟩ : ∃ l, (1048576 : Int) - (cocycle_tot x0 : Int) = l := ⟨_, rfl⟩
    have bl1a : 0 ≤ l1 := by omega
    have bl1b : l1 ≤ 1048576 := by omega
    rw [el1] at HZ0
    clear el1 q0
    have SH0 := cocycle_sh HS0
    have SL0 := cocycle_sumle x0
    obtain ⟨y0, hy0⟩ : ∃ y : Bool, ccB x0.1 x0.2.1 x0.2.2 = y := ⟨_, rfl⟩
    have HY0 := hide hy0
    clear hy0
    go_enter Try.func8, Try.ntmps8
    go_wp2_with fail
    obtain ⟨W, hW⟩ : ∃ W, w.alloc (.cells #[.slice A0 n0 c0, .int .i64 z0, .slice D0 m0 e0] 47) = W := ⟨_, rfl⟩
    have kw : Below w.heap.size w W := by rw [← hW]; exact (by repeat (first | assumption | exact Below.refl _ _ | apply below_drewN | apply Below.drew | apply Below.alloc | apply Below.setCell | omega | (focus (simp; done)) | (focus (simp; omega))))
    have bA0 : Blk W (w.heap.size) 47 #[.slice A0 n0 c0, .int .i64 z0, .slice D0 m0 e0] := by rw [← hW]; exact (Blk.new' _ _ _ _ (by simp))
    have sA0 : w.heap.size < W.heap.size := bA0.lt
    rw [hW]
    clear hW
    refine (HZ0.out _ kw).mono ?_
    rintro e ws0 ⟨rfl, hb⟩
    replace kw := kw.trans (hb.mono kw.size)
    replace bA0 := bA0.all hb
    replace sA0 := Nat.lt_of_lt_of_le sA0 hb.size
    clear hb
    have bA0c0 := bA0.cell 0
    have bA0c1 := bA0.cell 1
    have bA0c2 := bA0.cell 2
    go_wp2_with fail
    clear bA0c0 bA0c1 bA0c2
    refine (cocycle_to _ _ x0 (cocycle_keep HA0 kw kw.size) SH0).mono ?_
    rintro e t1 ⟨u, rfl, he, hb⟩
    obtain ⟨As0, ns0, cs0, zs0, Ds0, ms0, es0, rfl, hf⟩ := cocycle_form (cocycle_rd he)
    clear hf
    have hbs := hb.size
    replace kw := kw.trans (hb.mono kw.size)
    replace bA0 := bA0.all hb
    replace sA0 := Nat.lt_of_lt_of_le sA0 hb.size
    clear hb
    clear hbs
    have Es0 := he
    clear he
    have bA0c0 := bA0.cell 0
    have bA0c1 := bA0.cell 1
    have bA0c2 := bA0.cell 2
    go_wp2_with fail
    clear bA0c0 bA0c1 bA0c2
    have hcl := (specIsC_c _ _ x0 (cocycle_rd Es0) SH0)
    rw [HY0.out] at hcl
    have HCL := hide hcl
    clear hcl
    refine HCL.out.mono ?_
    rintro e t2 ⟨rfl, hb⟩
    clear HCL
    replace kw := kw.trans (hb.mono kw.size)
    replace bA0 := bA0.all hb
    replace sA0 := Nat.lt_of_lt_of_le sA0 hb.size
    replace Es0 := cocycle_below Es0 hb
    clear hb
    clear Es0
    have SA0t2 := sA0
    have Kt2 := kw.size
    have Zt2 := Nat.le_refl t2.heap.size
    have bA0c0 := bA0.cell 0
    have bA0c1 := bA0.cell 1
    have bA0c2 := bA0.cell 2
    go_wp2_with fail
    clear bA0c0 bA0c1 bA0c2
    refine (cocycle_to _ _ x0 (cocycle_keep HA0 kw kw.size) SH0).mono ?_
    rintro e t3 ⟨u, rfl, he, hb⟩
    obtain ⟨Ax0, nx0, cx0, zx0, Dx0, mx0, ex0, rfl, hf⟩ := cocycle_form (cocycle_rd he)
    clear hf
    have hbs := hb.size
    replace kw := kw.trans (hb.mono kw.size)
    replace bA0 := bA0.all hb
    replace sA0 := Nat.lt_of_lt_of_le sA0 hb.size
    replace Zt2 := Nat.le_trans Zt2 hb.size
    clear hb
    clear hbs
    have EX0 := he
    clear he
    have Ot2t3 := Zt2
    have SA0t3 := sA0
    have Kt3 := kw.size
    have Zt3 := Nat.le_refl t3.heap.size
    obtain ⟨X0, hX0⟩ : ∃ X, t3.heap.size = X := ⟨_, rfl⟩
    have bA0c0 := bA0.cell 0
    have bA0c1 := bA0.cell 1
    have bA0c2 := bA0.cell 2
    go_wp2_with fail
    clear bA0c0 bA0c1 bA0c2
    obtain ⟨t4, ht4⟩ : ∃ w5, t3.alloc (.cells #[.slice Ax0 nx0 cx0, .int .i64 zx0, .slice Dx0 mx0 ex0] 25) = w5 := ⟨_, rfl⟩
    have hb : Below t3.heap.size t3 t4 := by rw [← ht4]; exact (Below.refl _ _).alloc (Nat.le_refl _) _
    have bX0 : Blk t4 X0 25 #[.slice Ax0 nx0 cx0, .int .i64 zx0, .slice Dx0 mx0 ex0] := by rw [← ht4]; exact Blk.new' _ _ _ _ hX0
    rw [ht4]
    clear ht4
    replace kw := kw.trans (hb.mono kw.size)
    replace bA0 := bA0.all hb
    replace sA0 := Nat.lt_of_lt_of_le sA0 hb.size
    replace EX0 := cocycle_below EX0 hb
    replace Zt2 := Nat.le_trans Zt2 hb.size
    replace Zt3 := Nat.le_trans Zt3 hb.size
    clear hb
    have gX0 := bX0.lt
    have Ot2t4 := Zt2
    have Ot3t4 := Zt3
    have SA0t4 := sA0
    have GbX0t4 := bX0.lt
    have Kt4 := kw.size
    have Zt4 := Nat.le_refl t4.heap.size
    clear gX0
    have hcl := (implIsC_c _ _ x0 (cocycle_rd EX0) SH0)
    rw [HY0.out] at hcl
    have HCL := hide hcl
    clear hcl
    refine HCL.out.mono ?_
    rintro e t5 ⟨rfl, hb⟩
    clear HCL
    replace kw := kw.trans (hb.mono kw.size)
    replace bA0 := bA0.all hb
    replace sA0 := Nat.lt_of_lt_of_le sA0 hb.size
    replace bX0 := bX0.all hb
    replace EX0 := cocycle_below EX0 hb
    replace Zt2 := Nat.le_trans Zt2 hb.size
    replace Zt3 := Nat.le_trans Zt3 hb.size
    replace Zt4 := Nat.le_trans Zt4 hb.size
    clear hb
    have Ot2t5 := Zt2
    have Ot3t5 := Zt3
    have Ot4t5 := Zt4
    have SA0t5 := sA0
    have GbX0t5 := bX0.lt
    have Kt5 := kw.size
    have Zt5 := Nat.le_refl t5.heap.size
    have bA0c0 := bA0.cell 0
    have bA0c1 := bA0.cell 1
    have bA0c2 := bA0.cell 2
    have bX0c0 := bX0.cell 0
    have bX0c1 := bX0.cell 1
    have bX0c2 := bX0.cell 2
    go_wp2_with fail
    clear bA0c0 bA0c1 bA0c2 bX0c0 bX0c1 bX0c2
    have HXl := bX0.lt
    have HAl := bA0.lt
    have rA0 := bA0.cell 0
    have rX0 := bX0.cell 0
    have rA1 := bA0.cell 1
    have rX1 := bX0.cell 1
    have rA2 := bA0.cell 2
    have rX2 := bX0.cell 2
    refine wp_region_be [0, 1, 2, 3, 4] 5 t5.heap.size t5 (by kernel_rfl) (by kernel_rfl) (by kernel_rfl) (fun _ _ _ _ _ h => h) (Below.refl _ _) (fun wd hBe => ?_)
    repeat (first | (apply ord_tk rfl (by rfl) (by rfl) (by rfl); (focus (intro wx hSw; have r0 := (hSw.cell (p := ⟨w.heap.size, 0, none⟩) HAl).trans rA0; have r1 := (hSw.cell (p := ⟨w.heap.size, 1, none⟩) HAl).trans rA1; have r2 := (hSw.cell (p := ⟨w.heap.size, 2, none⟩) HAl).trans rA2; have s0 := (hSw.cell (p := ⟨X0, 0, none⟩) HXl).trans rX0; have s1 := (hSw.cell (p := ⟨X0, 1, none⟩) HXl).trans rX1; have s2 := (hSw.cell (p := ⟨X0, 2, none⟩) HXl).trans rX2; go_simp; (try with_reducible rfl))); (try simp only [Act.put, List.setIfInBounds_toArray, List.set_cons_zero, List.set_cons_succ])) | (apply ord_skip rfl (by rfl) (by rfl) (fun _ => hBe); (try simp only [Act.put, List.setIfInBounds_toArray, List.set_cons_zero, List.set_cons_succ])))
    refine ord_do rfl (by rfl) (by rfl) (fun K hK => ?_)
    go_simp
    have kq := kw.trans (hBe.mono kw.size)
    refine (cocycle_to _ _ x0 (cocycle_keep HA0 kq kq.size) SH0).mono ?_
    rintro e wq ⟨u, rfl, he, hb⟩
    obtain ⟨Ar0, nr0, cr0, zr0, Dr0, mr0, er0, rfl, hf⟩ := cocycle_form (cocycle_rd he)
    clear hf
    replace hBe := hBe.trans (hb.mono hBe.size)
    clear hb kq
    refine hK.out _ _ (fun _ => hBe) ?_
    (try simp only [Act.put, List.setIfInBounds_toArray, List.set_cons_zero, List.set_cons_succ])
    clear hK K
    repeat (first | (apply ord_tk rfl (by rfl) (by rfl) (by rfl); (focus (intro wx hSw; have r0 := (hSw.cell (p := ⟨w.heap.size, 0, none⟩) HAl).trans rA0; have r1 := (hSw.cell (p := ⟨w.heap.size, 1, none⟩) HAl).trans rA1; have r2 := (hSw.cell (p := ⟨w.heap.size, 2, none⟩) HAl).trans rA2; have s0 := (hSw.cell (p := ⟨X0, 0, none⟩) HXl).trans rX0; have s1 := (hSw.cell (p := ⟨X0, 1, none⟩) HXl).trans rX1; have s2 := (hSw.cell (p := ⟨X0, 2, none⟩) HXl).trans rX2; go_simp; (try with_reducible rfl))); (try simp only [Act.put, List.setIfInBounds_toArray, List.set_cons_zero, List.set_cons_succ])) | (apply ord_skip rfl (by rfl) (by rfl) (fun _ => hBe); (try simp only [Act.put, List.setIfInBounds_toArray, List.set_cons_zero, List.set_cons_succ])))
    refine ord_do rfl (by rfl) (by rfl) (fun K hK => ?_)
    go_simp
    refine (cocycle_eq _ _ _ x0 x0 (cocycle_rd (cocycle_below EX0 hBe)) (cocycle_rd he) SH0).mono ?_
    rintro e wd' ⟨rfl, hwd⟩
    replace hBe := hBe.trans (hwd.mono hBe.size)
    clear hwd
    refine hK.out _ _ (fun _ => hBe) ?_
    (try simp only [Act.put, List.setIfInBounds_toArray, List.set_cons_zero, List.set_cons_succ])
    clear hK K
    simp only [beq_self_eq_true]
    repeat (first | (apply ord_tk rfl (by rfl) (by rfl) (by rfl); (focus (intro wx hSw; have r0 := (hSw.cell (p := ⟨w.heap.size, 0, none⟩) HAl).trans rA0; have r1 := (hSw.cell (p := ⟨w.heap.size, 1, none⟩) HAl).trans rA1; have r2 := (hSw.cell (p := ⟨w.heap.size, 2, none⟩) HAl).trans rA2; have s0 := (hSw.cell (p := ⟨X0, 0, none⟩) HXl).trans rX0; have s1 := (hSw.cell (p := ⟨X0, 1, none⟩) HXl).trans rX1; have s2 := (hSw.cell (p := ⟨X0, 2, none⟩) HXl).trans rX2; go_simp; (try with_reducible rfl))); (try simp only [Act.put, List.setIfInBounds_toArray, List.set_cons_zero, List.set_cons_succ])) | (apply ord_skip rfl (by rfl) (by rfl) (fun _ => hBe); (try simp only [Act.put, List.setIfInBounds_toArray, List.set_cons_zero, List.set_cons_succ])))
    refine ord_nil ?_
    clear he HXl HAl rA0 rX0 rA1 rX1 rA2 rX2
    obtain ⟨t6, hnz⟩ : ∃ x, x = wd' := ⟨_, rfl⟩
    subst hnz
    have hb := hBe
    clear hBe
    replace kw := kw.trans (hb.mono kw.size)
    replace bA0 := bA0.all hb
    replace sA0 := Nat.lt_of_lt_of_le sA0 hb.size
    replace bX0 := bX0.all hb
    replace EX0 := cocycle_below EX0 hb
    replace Zt2 := Nat.le_trans Zt2 hb.size
    replace Zt3 := Nat.le_trans Zt3 hb.size
    replace Zt4 := Nat.le_trans Zt4 hb.size
    replace Zt5 := Nat.le_trans Zt5 hb.size
    clear hb
    go_wp2_with fail
    go_ret
    exact ⟨rfl, kw⟩
set_option maxHeartbeats 8000000 in
set_option maxRecDepth 100000 in
theorem law_CocycleFault {w : World} (v0 : Value) (x0 : cocycle_T) (HA0 : cocycle_R w w.heap.size v0 x0) (HB0 : cocycle_Big x0) : Calls Try.prog 11 #[v0] w (Re w (.bool true)) := by
  obtain ⟨A0, n0, c0, z0, D0, m0, e0, rfl, hf⟩ := cocycle_form HA0
  clear hf
  by_cases q0 : (1048576 : Int) - (cocycle_tot x0 : Int) < 0
  · have HZ0 := hide (fun (W : World) (h : Below w.heap.size w W) => cocycle_sz W _ x0 1048576 (cocycle_keep HA0 h h.size) HB0 (by omega) (by omega))
    rw [szI_no q0] at HZ0
    go_enter Try.func11, Try.ntmps11
    go_wp2_with fail
    obtain ⟨W, hW⟩ : ∃ W, w.alloc (.cells #[.slice A0 n0 c0, .int .i64 z0, .slice D0 m0 e0] 47) = W := ⟨_, rfl⟩
    have kw : Below w.heap.size w W := by rw [← hW]; exact (by repeat (first | assumption | exact Below.refl _ _ | apply below_drewN | apply Below.drew | apply Below.alloc | apply Below.setCell | omega | (focus (simp; done)) | (focus (simp; omega))))
    have bA0 : Blk W (w.heap.size) 47 #[.slice A0 n0 c0, .int .i64 z0, .slice D0 m0 e0] := by rw [← hW]; exact (Blk.new' _ _ _ _ (by simp))
    have sA0 : w.heap.size < W.heap.size := bA0.lt
    rw [hW]
    clear hW
    refine (HZ0.out _ kw).mono ?_
    rintro e ws0 ⟨rfl, hb⟩
    replace kw := kw.trans (hb.mono kw.size)
    replace bA0 := bA0.all hb
    replace sA0 := Nat.lt_of_lt_of_le sA0 hb.size
    clear hb
    have bA0c0 := bA0.cell 0
    have bA0c1 := bA0.cell 1
    have bA0c2 := bA0.cell 2
    go_wp2_with fail
    clear bA0c0 bA0c1 bA0c2
    go_ret
    exact ⟨rfl, kw⟩
  · have HZ0 := hide (fun (W : World) (h : Below w.heap.size w W) => cocycle_sz W _ x0 1048576 (cocycle_keep HA0 h h.size) HB0 (by omega) (by omega))
    rw [szI_ok q0] at HZ0
    have HS0 : cocycle_tot x0 ≤ 1048576 := by omega
    obtain ⟨l1, el1⟩ : ∃ l, (1048576 : Int) - (cocycle_tot x0 : Int) = l := ⟨_, rfl⟩
    have bl1a : 0 ≤ l1 := by omega
    have bl1b : l1 ≤ 1048576 := by omega
    rw [el1] at HZ0
    clear el1 q0
    have SH0 := cocycle_sh HS0
    have SL0 := cocycle_sumle x0
    obtain ⟨y0, hy0⟩ : ∃ y : List Int, cfC x0 = y := ⟨_, rfl⟩
    have HY0 := hide hy0
    clear hy0
    obtain ⟨y1, hy1⟩ : ∃ y : Int, cfK x0 = y := ⟨_, rfl⟩
    have HY1 := hide hy1
    clear hy1
    have SY0 : ints_tot y0 ≤ 1048576 := by rw [← HY0.out]; exact cfC_tot x0
    have SY := ints_sh SY0
    have SY2 := ints_sumle y0
    go_enter Try.func11, Try.ntmps11
    go_wp2_with fail
    obtain ⟨W, hW⟩ : ∃ W, w.alloc (.cells #[.slice A0 n0 c0, .int .i64 z0, .slice D0 m0 e0] 47) = W := ⟨_, rfl⟩
    have kw : Below w.heap.size w W := by rw [← hW]; exact (by repeat (first | assumption | exact Below.refl _ _ | apply below_drewN | apply Below.drew | apply Below.alloc | apply Below.setCell | omega | (focus (simp; done)) | (focus (simp; omega))))
    have bA0 : Blk W (w.heap.size) 47 #[.slice A0 n0 c0, .int .i64 z0, .slice D0 m0 e0] := by rw [← hW]; exact (Blk.new' _ _ _ _ (by simp))
    have sA0 : w.heap.size < W.heap.size := bA0.lt
    rw [hW]
    clear hW
    refine (HZ0.out _ kw).mono ?_
    rintro e ws0 ⟨rfl, hb⟩
    replace kw := kw.trans (hb.mono kw.size)
    replace bA0 := bA0.all hb
    replace sA0 := Nat.lt_of_lt_of_le sA0 hb.size
    clear hb
    have bA0c0 := bA0.cell 0
    have bA0c1 := bA0.cell 1
    have bA0c2 := bA0.cell 2
    go_wp2_with fail
    clear bA0c0 bA0c1 bA0c2
    refine (cocycle_to _ _ x0 (cocycle_keep HA0 kw kw.size) SH0).mono ?_
    rintro e t1 ⟨u, rfl, he, hb⟩
    obtain ⟨As0, ns0, cs0, zs0, Ds0, ms0, es0, rfl, hf⟩ := cocycle_form (cocycle_rd he)
    clear hf
    have hbs := hb.size
    replace kw := kw.trans (hb.mono kw.size)
    replace bA0 := bA0.all hb
    replace sA0 := Nat.lt_of_lt_of_le sA0 hb.size
    clear hb
    clear hbs
    have Es0 := he
    clear he
    have bA0c0 := bA0.cell 0
    have bA0c1 := bA0.cell 1
    have bA0c2 := bA0.cell 2
    go_wp2_with fail
    clear bA0c0 bA0c1 bA0c2
    have hcl := (specCF_c _ _ x0 (cocycle_rd Es0) SH0)
    rw [HY0.out, HY1.out] at hcl
    have HCL := hide hcl
    clear hcl
    refine HCL.out.mono ?_
    rintro e t2 ⟨u, rfl, he, hb⟩
    clear HCL
    obtain ⟨Aw, nw, cw, rfl, hf⟩ := ints_form (ints_rd he)
    clear hf
    replace kw := kw.trans (hb.mono kw.size)
    replace bA0 := bA0.all hb
    replace sA0 := Nat.lt_of_lt_of_le sA0 hb.size
    replace Es0 := cocycle_below Es0 hb
    clear hb
    clear Es0
    have SA0t2 := sA0
    have Kt2 := kw.size
    have Zt2 := Nat.le_refl t2.heap.size
    have Rw := ints_rd he
    clear he
    have bA0c0 := bA0.cell 0
    have bA0c1 := bA0.cell 1
    have bA0c2 := bA0.cell 2
    go_wp2_with fail
    clear bA0c0 bA0c1 bA0c2
    refine (cocycle_to _ _ x0 (cocycle_keep HA0 kw kw.size) SH0).mono ?_
    rintro e t3 ⟨u, rfl, he, hb⟩
    obtain ⟨Ax0, nx0, cx0, zx0, Dx0, mx0, ex0, rfl, hf⟩ := cocycle_form (cocycle_rd he)
    clear hf
    have hbs := hb.size
    replace kw := kw.trans (hb.mono kw.size)
    replace bA0 := bA0.all hb
    replace sA0 := Nat.lt_of_lt_of_le sA0 hb.size
    replace Rw := ints_keep Rw (hb.mono Zt2) (Nat.le_refl _)
    replace Zt2 := Nat.le_trans Zt2 hb.size
    clear hb
    clear hbs
    have EX0 := he
    clear he
    have Ot2t3 := Zt2
    have SA0t3 := sA0
    have Kt3 := kw.size
    have Zt3 := Nat.le_refl t3.heap.size
    obtain ⟨X0, hX0⟩ : ∃ X, t3.heap.size = X := ⟨_, rfl⟩
    have bA0c0 := bA0.cell 0
    have bA0c1 := bA0.cell 1
    have bA0c2 := bA0.cell 2
    go_wp2_with fail
    clear bA0c0 bA0c1 bA0c2
    obtain ⟨t4, ht4⟩ : ∃ w5, t3.alloc (.cells #[.slice Ax0 nx0 cx0, .int .i64 zx0, .slice Dx0 mx0 ex0] 25) = w5 := ⟨_, rfl⟩
    have hb : Below t3.heap.size t3 t4 := by rw [← ht4]; exact (Below.refl _ _).alloc (Nat.le_refl _) _
    have bX0 : Blk t4 X0 25 #[.slice Ax0 nx0 cx0, .int .i64 zx0, .slice Dx0 mx0 ex0] := by rw [← ht4]; exact Blk.new' _ _ _ _ hX0
    rw [ht4]
    clear ht4
    replace kw := kw.trans (hb.mono kw.size)
    replace bA0 := bA0.all hb
    replace sA0 := Nat.lt_of_lt_of_le sA0 hb.size
    replace EX0 := cocycle_below EX0 hb
    replace Rw := ints_keep Rw (hb.mono Zt2) (Nat.le_refl _)
    replace Zt2 := Nat.le_trans Zt2 hb.size
    replace Zt3 := Nat.le_trans Zt3 hb.size
    clear hb
    have gX0 := bX0.lt
    have Ot2t4 := Zt2
    have Ot3t4 := Zt3
    have SA0t4 := sA0
    have GbX0t4 := bX0.lt
    have Kt4 := kw.size
    have Zt4 := Nat.le_refl t4.heap.size
    clear gX0
    have hcl := (implCF_c _ _ x0 (cocycle_rd EX0) SH0)
    rw [HY0.out, HY1.out] at hcl
    have HCL := hide hcl
    clear hcl
    refine HCL.out.mono ?_
    rintro e t5 ⟨u, rfl, he, hb⟩
    clear HCL
    obtain ⟨Ag, ng, cg, rfl, hf⟩ := ints_form (ints_rd he)
    clear hf
    replace kw := kw.trans (hb.mono kw.size)
    replace bA0 := bA0.all hb
    replace sA0 := Nat.lt_of_lt_of_le sA0 hb.size
    replace bX0 := bX0.all hb
    replace EX0 := cocycle_below EX0 hb
    replace Rw := ints_keep Rw (hb.mono Zt2) (Nat.le_refl _)
    replace Zt2 := Nat.le_trans Zt2 hb.size
    replace Zt3 := Nat.le_trans Zt3 hb.size
    replace Zt4 := Nat.le_trans Zt4 hb.size
    clear hb
    have Eg := he
    clear he
    have Ot2t5 := Zt2
    have Ot3t5 := Zt3
    have Ot4t5 := Zt4
    have SA0t5 := sA0
    have GbX0t5 := bX0.lt
    have Kt5 := kw.size
    have Zt5 := Nat.le_refl t5.heap.size
    have bA0c0 := bA0.cell 0
    have bA0c1 := bA0.cell 1
    have bA0c2 := bA0.cell 2
    have bX0c0 := bX0.cell 0
    have bX0c1 := bX0.cell 1
    have bX0c2 := bX0.cell 2
    go_wp2_with fail
    clear bA0c0 bA0c1 bA0c2 bX0c0 bX0c1 bX0c2
    refine (ints_eq _ _ _ y0 y0 (ints_rd Eg) (ints_keep Rw (Below.refl _ _) Zt2) SY).mono ?_
    rintro e t6 ⟨rfl, hb⟩
    simp only [beq_self_eq_true]
    replace kw := kw.trans (hb.mono kw.size)
    replace bA0 := bA0.all hb
    replace sA0 := Nat.lt_of_lt_of_le sA0 hb.size
    replace bX0 := bX0.all hb
    replace EX0 := cocycle_below EX0 hb
    replace Eg := ints_below Eg hb
    replace Rw := ints_keep Rw (hb.mono Zt2) (Nat.le_refl _)
    replace Zt2 := Nat.le_trans Zt2 hb.size
    replace Zt3 := Nat.le_trans Zt3 hb.size
    replace Zt4 := Nat.le_trans Zt4 hb.size
    replace Zt5 := Nat.le_trans Zt5 hb.size
    clear hb
    have bA0c0 := bA0.cell 0
    have bA0c1 := bA0.cell 1
    have bA0c2 := bA0.cell 2
    have bX0c0 := bX0.cell 0
    have bX0c1 := bX0.cell 1
    have bX0c2 := bX0.cell 2
    go_wp2_with fail
    clear bA0c0 bA0c1 bA0c2 bX0c0 bX0c1 bX0c2
    have HXl := bX0.lt
    have HAl := bA0.lt
    have rA0 := bA0.cell 0
    have rX0 := bX0.cell 0
    have rA1 := bA0.cell 1
    have rX1 := bX0.cell 1
    have rA2 := bA0.cell 2
    have rX2 := bX0.cell 2
    refine wp_region_be [0, 1, 2, 3, 4] 5 t6.heap.size t6 (by kernel_rfl) (by kernel_rfl) (by kernel_rfl) (fun _ _ _ _ _ h => h) (Below.refl _ _) (fun wd hBe => ?_)
    repeat (first | (apply ord_tk rfl (by rfl) (by rfl) (by rfl); (focus (intro wx hSw; have r0 := (hSw.cell (p := ⟨w.heap.size, 0, none⟩) HAl).trans rA0; have r1 := (hSw.cell (p := ⟨w.heap.size, 1, none⟩) HAl).trans rA1; have r2 := (hSw.cell (p := ⟨w.heap.size, 2, none⟩) HAl).trans rA2; have s0 := (hSw.cell (p := ⟨X0, 0, none⟩) HXl).trans rX0; have s1 := (hSw.cell (p := ⟨X0, 1, none⟩) HXl).trans rX1; have s2 := (hSw.cell (p := ⟨X0, 2, none⟩) HXl).trans rX2; go_simp; (try with_reducible rfl))); (try simp only [Act.put, List.setIfInBounds_toArray, List.set_cons_zero, List.set_cons_succ])) | (apply ord_skip rfl (by rfl) (by rfl) (fun _ => hBe); (try simp only [Act.put, List.setIfInBounds_toArray, List.set_cons_zero, List.set_cons_succ])))
    refine ord_do rfl (by rfl) (by rfl) (fun K hK => ?_)
    go_simp
    have kq := kw.trans (hBe.mono kw.size)
    refine (cocycle_to _ _ x0 (cocycle_keep HA0 kq kq.size) SH0).mono ?_
    rintro e wq ⟨u, rfl, he, hb⟩
    obtain ⟨Ar0, nr0, cr0, zr0, Dr0, mr0, er0, rfl, hf⟩ := cocycle_form (cocycle_rd he)
    clear hf
    replace hBe := hBe.trans (hb.mono hBe.size)
    clear hb kq
    refine hK.out _ _ (fun _ => hBe) ?_
    (try simp only [Act.put, List.setIfInBounds_toArray, List.set_cons_zero, List.set_cons_succ])
    clear hK K
    repeat (first | (apply ord_tk rfl (by rfl) (by rfl) (by rfl); (focus (intro wx hSw; have r0 := (hSw.cell (p := ⟨w.heap.size, 0, none⟩) HAl).trans rA0; have r1 := (hSw.cell (p := ⟨w.heap.size, 1, none⟩) HAl).trans rA1; have r2 := (hSw.cell (p := ⟨w.heap.size, 2, none⟩) HAl).trans rA2; have s0 := (hSw.cell (p := ⟨X0, 0, none⟩) HXl).trans rX0; have s1 := (hSw.cell (p := ⟨X0, 1, none⟩) HXl).trans rX1; have s2 := (hSw.cell (p := ⟨X0, 2, none⟩) HXl).trans rX2; go_simp; (try with_reducible rfl))); (try simp only [Act.put, List.setIfInBounds_toArray, List.set_cons_zero, List.set_cons_succ])) | (apply ord_skip rfl (by rfl) (by rfl) (fun _ => hBe); (try simp only [Act.put, List.setIfInBounds_toArray, List.set_cons_zero, List.set_cons_succ])))
    refine ord_do rfl (by rfl) (by rfl) (fun K hK => ?_)
    go_simp
    refine (cocycle_eq _ _ _ x0 x0 (cocycle_rd (cocycle_below EX0 hBe)) (cocycle_rd he) SH0).mono ?_
    rintro e wd' ⟨rfl, hwd⟩
    replace hBe := hBe.trans (hwd.mono hBe.size)
    clear hwd
    refine hK.out _ _ (fun _ => hBe) ?_
    (try simp only [Act.put, List.setIfInBounds_toArray, List.set_cons_zero, List.set_cons_succ])
    clear hK K
    simp only [beq_self_eq_true]
    repeat (first | (apply ord_tk rfl (by rfl) (by rfl) (by rfl); (focus (intro wx hSw; have r0 := (hSw.cell (p := ⟨w.heap.size, 0, none⟩) HAl).trans rA0; have r1 := (hSw.cell (p := ⟨w.heap.size, 1, none⟩) HAl).trans rA1; have r2 := (hSw.cell (p := ⟨w.heap.size, 2, none⟩) HAl).trans rA2; have s0 := (hSw.cell (p := ⟨X0, 0, none⟩) HXl).trans rX0; have s1 := (hSw.cell (p := ⟨X0, 1, none⟩) HXl).trans rX1; have s2 := (hSw.cell (p := ⟨X0, 2, none⟩) HXl).trans rX2; go_simp; (try with_reducible rfl))); (try simp only [Act.put, List.setIfInBounds_toArray, List.set_cons_zero, List.set_cons_succ])) | (apply ord_skip rfl (by rfl) (by rfl) (fun _ => hBe); (try simp only [Act.put, List.setIfInBounds_toArray, List.set_cons_zero, List.set_cons_succ])))
    refine ord_nil ?_
    clear he HXl HAl rA0 rX0 rA1 rX1 rA2 rX2
    obtain ⟨t7, hnz⟩ : ∃ x, x = wd' := ⟨_, rfl⟩
    subst hnz
    have hb := hBe
    clear hBe
    replace kw := kw.trans (hb.mono kw.size)
    replace bA0 := bA0.all hb
    replace sA0 := Nat.lt_of_lt_of_le sA0 hb.size
    replace bX0 := bX0.all hb
    replace EX0 := cocycle_below EX0 hb
    replace Eg := ints_below Eg hb
    replace Rw := ints_keep Rw (hb.mono Zt2) (Nat.le_refl _)
    replace Zt2 := Nat.le_trans Zt2 hb.size
    replace Zt3 := Nat.le_trans Zt3 hb.size
    replace Zt4 := Nat.le_trans Zt4 hb.size
    replace Zt5 := Nat.le_trans Zt5 hb.size
    clear hb
    have bA0c0 := bA0.cell 0
    have bA0c1 := bA0.cell 1
    have bA0c2 := bA0.cell 2
    have bX0c0 := bX0.cell 0
    have bX0c1 := bX0.cell 1
    have bX0c2 := bX0.cell 2
    go_wp2_with fail
    clear bA0c0 bA0c1 bA0c2 bX0c0 bX0c1 bX0c2
    refine (cocycle_mark _ _ x0 _ 1 EX0 (by omega) (by omega) (by omega)).mono ?_
    rintro e t8 ⟨rfl, he, hw⟩
    have hbb := hw.below (B := t2.heap.size) (fun b hf => hf.1) Zt2
    replace kw := kw.trans (hbb.mono Kt2)
    replace bA0 := bA0.below hbb (by omega)
    replace sA0 := Nat.lt_of_lt_of_le sA0 hw.size
    replace bX0 := hw.blk bX0 (fun hf => by have a1 := hf.1; have a2 := hf.2; omega)
    replace Eg := ints_wr Eg hw (fun b h1 h2 => by have a1 := h1.1; have a2 := h1.2; have a3 := h2.1; have a4 := h2.2; omega)
    replace Rw := ints_keep Rw (hbb.mono (by omega)) (Nat.le_refl _)
    replace Zt2 := Nat.le_trans Zt2 hw.size
    replace Zt3 := Nat.le_trans Zt3 hw.size
    replace Zt4 := Nat.le_trans Zt4 hw.size
    replace Zt5 := Nat.le_trans Zt5 hw.size
    replace EX0 := he
    clear hbb hw he
    obtain ⟨kk0, hkk0, hkk0a, hkk0b⟩ : ∃ z : Int, 1 + (cocycle_sum x0 : Int) = z ∧ 0 ≤ z ∧ z ≤ 4000000 := ⟨_, rfl, by omega, by omega⟩
    rw [hkk0]
    have Hkk0 := hide hkk0
    clear hkk0
    clear EX0
    have bA0c0 := bA0.cell 0
    have bA0c1 := bA0.cell 1
    have bA0c2 := bA0.cell 2
    have bX0c0 := bX0.cell 0
    have bX0c1 := bX0.cell 1
    have bX0c2 := bX0.cell 2
    go_wp2_with fail
    clear bA0c0 bA0c1 bA0c2 bX0c0 bX0c1 bX0c2
    refine (ints_eq _ _ _ y0 y0 (ints_rd Eg) (ints_keep Rw (Below.refl _ _) Zt2) SY).mono ?_
    rintro e t9 ⟨rfl, hb⟩
    simp only [beq_self_eq_true]
    replace kw := kw.trans (hb.mono kw.size)
    replace bA0 := bA0.all hb
    replace sA0 := Nat.lt_of_lt_of_le sA0 hb.size
    replace bX0 := bX0.all hb
    replace Eg := ints_below Eg hb
    replace Rw := ints_keep Rw (hb.mono Zt2) (Nat.le_refl _)
    replace Zt2 := Nat.le_trans Zt2 hb.size
    replace Zt3 := Nat.le_trans Zt3 hb.size
    replace Zt4 := Nat.le_trans Zt4 hb.size
    replace Zt5 := Nat.le_trans Zt5 hb.size
    clear hb
    have bA0c0 := bA0.cell 0
    have bA0c1 := bA0.cell 1
    have bA0c2 := bA0.cell 2
    have bX0c0 := bX0.cell 0
    have bX0c1 := bX0.cell 1
    have bX0c2 := bX0.cell 2
    go_wp2_with fail
    clear bA0c0 bA0c1 bA0c2 bX0c0 bX0c1 bX0c2
    refine (ints_mark _ _ y0 _ 1 Eg (by omega) (by omega) (by omega)).mono ?_
    rintro e t10 ⟨rfl, he, hw⟩
    have hbb := hw.below (B := t4.heap.size) (fun b hf => hf.1) Zt4
    replace kw := kw.trans (hbb.mono Kt4)
    replace bA0 := bA0.below hbb (by omega)
    replace sA0 := Nat.lt_of_lt_of_le sA0 hw.size
    replace bX0 := hw.blk bX0 (fun hf => by have a1 := hf.1; have a2 := hf.2; omega)
    replace Rw := ints_keep Rw (hbb.mono (by omega)) (Nat.le_refl _)
    replace Zt2 := Nat.le_trans Zt2 hw.size
    replace Zt3 := Nat.le_trans Zt3 hw.size
    replace Zt4 := Nat.le_trans Zt4 hw.size
    replace Zt5 := Nat.le_trans Zt5 hw.size
    replace Eg := he
    clear hbb hw he
    obtain ⟨mm, hmm, hmma, hmmb⟩ : ∃ z : Int, 1 + (ints_sum y0 : Int) = z ∧ 0 ≤ z ∧ z ≤ 4000000 := ⟨_, rfl, by omega, by omega⟩
    rw [hmm]
    have Hmm := hide hmm
    clear hmm
    have bA0c0 := bA0.cell 0
    have bA0c1 := bA0.cell 1
    have bA0c2 := bA0.cell 2
    have bX0c0 := bX0.cell 0
    have bX0c1 := bX0.cell 1
    have bX0c2 := bX0.cell 2
    go_wp2_with fail
    clear bA0c0 bA0c1 bA0c2 bX0c0 bX0c1 bX0c2
    refine (ints_heldc _ _ _ 1 (ints_rd Eg) (ints_shmk SY) (by omega) (by omega)).mono ?_
    rw [ints_heldmk1, Hmm.out]
    rintro e t11 ⟨rfl, hb⟩
    replace kw := kw.trans (hb.mono kw.size)
    replace bA0 := bA0.all hb
    replace sA0 := Nat.lt_of_lt_of_le sA0 hb.size
    replace bX0 := bX0.all hb
    replace Eg := ints_below Eg hb
    replace Rw := ints_keep Rw (hb.mono Zt2) (Nat.le_refl _)
    replace Zt2 := Nat.le_trans Zt2 hb.size
    replace Zt3 := Nat.le_trans Zt3 hb.size
    replace Zt4 := Nat.le_trans Zt4 hb.size
    replace Zt5 := Nat.le_trans Zt5 hb.size
    clear hb
    have bA0c0 := bA0.cell 0
    have bA0c1 := bA0.cell 1
    have bA0c2 := bA0.cell 2
    have bX0c0 := bX0.cell 0
    have bX0c1 := bX0.cell 1
    have bX0c2 := bX0.cell 2
    go_wp2_with fail
    clear bA0c0 bA0c1 bA0c2 bX0c0 bX0c1 bX0c2
    refine (cocycle_to _ _ x0 (cocycle_keep HA0 kw kw.size) SH0).mono ?_
    rintro e t12 ⟨u, rfl, he, hb⟩
    obtain ⟨Ah0, nh0, ch0, zh0, Dh0, mh0, eh0, rfl, hf⟩ := cocycle_form (cocycle_rd he)
    clear hf
    have hbs := hb.size
    replace kw := kw.trans (hb.mono kw.size)
    replace bA0 := bA0.all hb
    replace sA0 := Nat.lt_of_lt_of_le sA0 hb.size
    replace bX0 := bX0.all hb
    replace Eg := ints_below Eg hb
    replace Rw := ints_keep Rw (hb.mono Zt2) (Nat.le_refl _)
    replace Zt2 := Nat.le_trans Zt2 hb.size
    replace Zt3 := Nat.le_trans Zt3 hb.size
    replace Zt4 := Nat.le_trans Zt4 hb.size
    replace Zt5 := Nat.le_trans Zt5 hb.size
    clear hb
    clear hbs
    have Eh0 := he
    clear he
    have bA0c0 := bA0.cell 0
    have bA0c1 := bA0.cell 1
    have bA0c2 := bA0.cell 2
    have bX0c0 := bX0.cell 0
    have bX0c1 := bX0.cell 1
    have bX0c2 := bX0.cell 2
    go_wp2_with fail
    clear bA0c0 bA0c1 bA0c2 bX0c0 bX0c1 bX0c2
    have hcl := (implCF_c _ _ x0 (cocycle_rd Eh0) SH0)
    rw [HY0.out, HY1.out] at hcl
    have HCL := hide hcl
    clear hcl
    refine HCL.out.mono ?_
    rintro e t13 ⟨u, rfl, he, hb⟩
    clear HCL
    obtain ⟨Ah, nh, ch, rfl, hf⟩ := ints_form (ints_rd he)
    clear hf
    replace kw := kw.trans (hb.mono kw.size)
    replace bA0 := bA0.all hb
    replace sA0 := Nat.lt_of_lt_of_le sA0 hb.size
    replace bX0 := bX0.all hb
    replace Eg := ints_below Eg hb
    replace Eh0 := cocycle_below Eh0 hb
    replace Rw := ints_keep Rw (hb.mono Zt2) (Nat.le_refl _)
    replace Zt2 := Nat.le_trans Zt2 hb.size
    replace Zt3 := Nat.le_trans Zt3 hb.size
    replace Zt4 := Nat.le_trans Zt4 hb.size
    replace Zt5 := Nat.le_trans Zt5 hb.size
    clear hb
    have Eh := he
    clear he
    have bA0c0 := bA0.cell 0
    have bA0c1 := bA0.cell 1
    have bA0c2 := bA0.cell 2
    have bX0c0 := bX0.cell 0
    have bX0c1 := bX0.cell 1
    have bX0c2 := bX0.cell 2
    go_wp2_with fail
    clear bA0c0 bA0c1 bA0c2 bX0c0 bX0c1 bX0c2
    refine (ints_eq _ _ _ y0 y0 (ints_rd Eh) (ints_keep Rw (Below.refl _ _) Zt2) SY).mono ?_
    rintro e t14 ⟨rfl, hb⟩
    simp only [beq_self_eq_true]
    replace kw := kw.trans (hb.mono kw.size)
    replace bA0 := bA0.all hb
    replace sA0 := Nat.lt_of_lt_of_le sA0 hb.size
    replace bX0 := bX0.all hb
    replace Eg := ints_below Eg hb
    replace Eh0 := cocycle_below Eh0 hb
    replace Eh := ints_below Eh hb
    replace Rw := ints_keep Rw (hb.mono Zt2) (Nat.le_refl _)
    replace Zt2 := Nat.le_trans Zt2 hb.size
    replace Zt3 := Nat.le_trans Zt3 hb.size
    replace Zt4 := Nat.le_trans Zt4 hb.size
    replace Zt5 := Nat.le_trans Zt5 hb.size
    clear hb
    have bA0c0 := bA0.cell 0
    have bA0c1 := bA0.cell 1
    have bA0c2 := bA0.cell 2
    have bX0c0 := bX0.cell 0
    have bX0c1 := bX0.cell 1
    have bX0c2 := bX0.cell 2
    go_wp2_with fail
    clear bA0c0 bA0c1 bA0c2 bX0c0 bX0c1 bX0c2
    refine (ints_heldc _ _ _ 1 (ints_rd Eg) (ints_shmk SY) (by omega) (by omega)).mono ?_
    rw [ints_heldmk1, Hmm.out]
    rintro e t15 ⟨rfl, hb⟩
    replace kw := kw.trans (hb.mono kw.size)
    replace bA0 := bA0.all hb
    replace sA0 := Nat.lt_of_lt_of_le sA0 hb.size
    replace bX0 := bX0.all hb
    replace Eg := ints_below Eg hb
    replace Eh0 := cocycle_below Eh0 hb
    replace Eh := ints_below Eh hb
    replace Rw := ints_keep Rw (hb.mono Zt2) (Nat.le_refl _)
    replace Zt2 := Nat.le_trans Zt2 hb.size
    replace Zt3 := Nat.le_trans Zt3 hb.size
    replace Zt4 := Nat.le_trans Zt4 hb.size
    replace Zt5 := Nat.le_trans Zt5 hb.size
    clear hb
    go_wp2_with fail
    go_ret
    exact ⟨rfl, kw⟩
end Go.Proofs.Ythjlpgaoemdmkaa
