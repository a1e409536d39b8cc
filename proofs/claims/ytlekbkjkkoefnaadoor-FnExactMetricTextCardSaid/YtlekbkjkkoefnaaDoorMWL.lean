
/- The walks of the laws on masks of subgroups. -/
import Derived.Test.YtlekbkjkkoefnaaDoorMW7
import Derived.Test.YtlekbkjkkoefnaaDoorKM
namespace Go.Proofs.YtlekbkjkkoefnaaDoor
open Go Go.RowKit Grp
set_option linter.unusedSimpArgs false
set_option linter.unusedVariables false
set_option maxRecDepth 100000
noncomputable def ifMX (f : List Int → Int → List Int → List Int) (x : metric_T) : List Int := ifM x.1 x.2.1 x.2.2 (f x.1 x.2.1 x.2.2)
noncomputable def mK (x : metric_T) : Int := codeM x.1 x.2.1 x.2.2
noncomputable def smX (x : metric_T) : List Int := ifM x.1 x.2.1 x.2.2 (sgK x.1 x.2.2.length)
noncomputable def imX (x : metric_T) : List Int := ifM x.1 x.2.1 x.2.2 (isoK x.1 x.2.2)
noncomputable def lmX (x : metric_T) : List Int := ifM x.1 x.2.1 x.2.2 (lagK x.1 x.2.1 x.2.2)
theorem ifM_all {os vs xs : List Int} {D : Int} (hs : IsM os D vs → ∀ x ∈ xs, x ∈ sgK os vs.length) : ∀ v ∈ ifM os D vs xs, i64ok v := by
  intro v hv
  unfold ifM at hv
  split at hv
  · rename_i hm
    have hM := isM_iff.1 hm
    have := sgK_rng hM.ok.lt v (hs hM v hv)
    exact ⟨by omega, by omega⟩
  · simp at hv
theorem ifM_tot {os vs xs : List Int} {D : Int} (hs : xs.length ≤ (sgK os vs.length).length) : ints_tot (ifM os D vs xs) ≤ 1048576 := by
  unfold ints_tot ifM
  split
  · rename_i hm
    have := sgK_len (os := os) (isM_iff.1 hm).ok.lt
    omega
  · simp
theorem mkEC_own {w : World} {xs : List Int} {code : Int} {e : Ending} {w' : World} (h : MkC w xs code e w') (hr : ∀ v ∈ xs, i64ok v) : MkEC ints_E w xs code e w' := by
  obtain ⟨v, h1, h2, h3⟩ := h
  exact ⟨v, h1, E1.of_ow h2 hr, h3⟩
theorem specSM_c (w : World) (v : Value) (x : metric_T) (h : metric_R w w.heap.size v x) (hs : metric_Sh x) :
    Calls Tryd.prog 11 #[v] w (MkEC ints_E w (smX x) (mK x)) := by
  obtain ⟨A, n, c, D, m, e, rfl, h1, h2, h3⟩ := h
  have hs2 : x.1.length + x.2.2.length ≤ 1048576 := hs
  have l1 := h1.len
  have l2 := h2.len
  exact (spec_SM_any w A n c x.1 x.2.1 D m e x.2.2 h1 h2 (by omega) (by omega)).mono fun _ _ h => mkEC_own h (ifM_all fun _ => fun _ h => h)
theorem implSM_c (w : World) (v : Value) (x : metric_T) (h : metric_R w w.heap.size v x) (hs : metric_Sh x) (hT : Tb w) :
    Calls Tryd.prog 13 #[v] w (MkEC ints_E w (smX x) (mK x)) := by
  obtain ⟨A, n, c, D, m, e, rfl, h1, h2, h3⟩ := h
  have hs2 : x.1.length + x.2.2.length ≤ 1048576 := hs
  have l1 := h1.len
  have l2 := h2.len
  exact (impl_SM_any w A n c x.1 x.2.1 D m e x.2.2 h1 h2 (by omega) (by omega) hT).mono fun _ _ h => mkEC_own h (ifM_all fun _ => fun _ h => h)
set_option maxHeartbeats 8000000 in
set_option maxRecDepth 100000 in
theorem law_SubgroupMasks {w : World} (hT : Tb w) (v0 : Value) (x0 : metric_T) (HA0 : metric_R w w.heap.size v0 x0) (HB0 : metric_Big x0) : Calls Tryd.prog 3 #[v0] w (Re w (.bool true)) := by
  obtain ⟨A0, n0, c0, z0, D0, m0, e0, rfl, hf⟩ := metric_form HA0
  clear hf
  by_cases q0 : (1048576 : Int) - (metric_tot x0 : Int) < 0
  · have HZ0 := hide (fun (W : World) (h : Below w.heap.size w W) => metric_sz W _ x0 1048576 (metric_keep HA0 h h.size) HB0 (by omega) (by omega))
    rw [szI_no q0] at HZ0
    go_enter Tryd.func3, Tryd.ntmps3
    go_wp2_with fail
    obtain ⟨W, hW⟩ : ∃ W, w.alloc (.cells #[.slice A0 n0 c0, .int .i64 z0, .slice D0 m0 e0] 24) = W := ⟨_, rfl⟩
    have kw : Below w.heap.size w W := by rw [← hW]; exact (by repeat (first | assumption | exact Below.refl _ _ | apply below_drewN | apply Below.drew | apply Below.alloc | apply Below.setCell | omega | (focus (simp; done)) | (focus (simp; omega))))
    have bA0 : Blk W (w.heap.size) 24 #[.slice A0 n0 c0, .int .i64 z0, .slice D0 m0 e0] := by rw [← hW]; exact (Blk.new' _ _ _ _ (by simp))
    have sA0 : w.heap.size < W.heap.size := bA0.lt
    rw [hW]
    clear hW
    refine (HZ0.out _ kw).mono ?_
    rintro e ws0 ⟨rfl, hb⟩
    replace kw := kw.trans (hb.mono kw.size)
    replace bA0 := bA0.all hb
    replace sA0 := Nat.lt_of_lt_of_le sA0 hb.size
    clear hb
    have bA0c0 := bA0.cell 0
    have bA0c1 := bA0.cell 1
    have bA0c2 := bA0.cell 2
    go_wp2_with fail
    clear bA0c0 bA0c1 bA0c2
    go_ret
    exact ⟨rfl, kw⟩
  · have HZ0 := hide (fun (W : World) (h : Below w.heap.size w W) => metric_sz W _ x0 1048576 (metric_keep HA0 h h.size) HB0 (by omega) (by omega))
    rw [szI_ok q0] at HZ0
    have HS0 : metric_tot x0 ≤ 1048576 := by omega
    obtain ⟨l1, el1⟩ : ∃ l, (1048576 : Int) - (metric_tot x0 : Int) = l := ⟨_, rfl⟩
    have bl1a : 0 ≤ l1 := by omega
    have bl1b : l1 ≤ 1048576 := by omega
    rw [el1] at HZ0
    clear el1 q0
    have SH0 := metric_sh HS0
    have SL0 := metric_sumle x0
    obtain ⟨y0, hy0⟩ : ∃ y : List Int, smX x0 = y := ⟨_, rfl⟩
    have HY0 := hide hy0
    clear hy0
    obtain ⟨y1, hy1⟩ : ∃ y : Int, mK x0 = y := ⟨_, rfl⟩
    have HY1 := hide hy1
    clear hy1
    have SY0 : ints_tot y0 ≤ 1048576 := by rw [← HY0.out]; exact ifM_tot (Nat.le_refl _)
    have SY := ints_sh SY0
    have SY2 := ints_sumle y0
    go_enter Tryd.func3, Tryd.ntmps3
    go_wp2_with fail
    obtain ⟨W, hW⟩ : ∃ W, w.alloc (.cells #[.slice A0 n0 c0, .int .i64 z0, .slice D0 m0 e0] 24) = W := ⟨_, rfl⟩
    have kw : Below w.heap.size w W := by rw [← hW]; exact (by repeat (first | assumption | exact Below.refl _ _ | apply below_drewN | apply Below.drew | apply Below.alloc | apply Below.setCell | omega | (focus (simp; done)) | (focus (simp; omega))))
    have bA0 : Blk W (w.heap.size) 24 #[.slice A0 n0 c0, .int .i64 z0, .slice D0 m0 e0] := by rw [← hW]; exact (Blk.new' _ _ _ _ (by simp))
    have sA0 : w.heap.size < W.heap.size := bA0.lt
    rw [hW]
    clear hW
    refine (HZ0.out _ kw).mono ?_
    rintro e ws0 ⟨rfl, hb⟩
    replace kw := kw.trans (hb.mono kw.size)
    replace bA0 := bA0.all hb
    replace sA0 := Nat.lt_of_lt_of_le sA0 hb.size
    clear hb
    have bA0c0 := bA0.cell 0
    have bA0c1 := bA0.cell 1
    have bA0c2 := bA0.cell 2
    go_wp2_with fail
    clear bA0c0 bA0c1 bA0c2
    refine (metric_to _ _ x0 (metric_keep HA0 kw kw.size) SH0).mono ?_
    rintro e t1 ⟨u, rfl, he, hb⟩
    obtain ⟨As0, ns0, cs0, zs0, Ds0, ms0, es0, rfl, hf⟩ := metric_form (metric_rd he)
    clear hf
    have hbs := hb.size
    replace kw := kw.trans (hb.mono kw.size)
    replace bA0 := bA0.all hb
    replace sA0 := Nat.lt_of_lt_of_le sA0 hb.size
    clear hb
    clear hbs
    have Es0 := he
    clear he
    have bA0c0 := bA0.cell 0
    have bA0c1 := bA0.cell 1
    have bA0c2 := bA0.cell 2
    go_wp2_with fail
    clear bA0c0 bA0c1 bA0c2
    have hcl := (specSM_c t1 _ x0 (metric_rd Es0) SH0)
    rw [HY0.out, HY1.out] at hcl
    have HCL := hide hcl
    clear hcl
    refine HCL.out.mono ?_
    rintro e t2 ⟨u, rfl, he, hb⟩
    clear HCL
    obtain ⟨Aw, nw, cw, rfl, hf⟩ := ints_form (ints_rd he)
    clear hf
    replace kw := kw.trans (hb.mono kw.size)
    replace bA0 := bA0.all hb
    replace sA0 := Nat.lt_of_lt_of_le sA0 hb.size
    replace Es0 := metric_below Es0 hb
    clear hb
    clear Es0
    have SA0t2 := sA0
    have Kt2 := kw.size
    have Zt2 := Nat.le_refl t2.heap.size
    have Rw := ints_rd he
    clear he
    have bA0c0 := bA0.cell 0
    have bA0c1 := bA0.cell 1
    have bA0c2 := bA0.cell 2
    go_wp2_with fail
    clear bA0c0 bA0c1 bA0c2
    refine (metric_to _ _ x0 (metric_keep HA0 kw kw.size) SH0).mono ?_
    rintro e t3 ⟨u, rfl, he, hb⟩
    obtain ⟨Ax0, nx0, cx0, zx0, Dx0, mx0, ex0, rfl, hf⟩ := metric_form (metric_rd he)
    clear hf
    have hbs := hb.size
    replace kw := kw.trans (hb.mono kw.size)
    replace bA0 := bA0.all hb
    replace sA0 := Nat.lt_of_lt_of_le sA0 hb.size
    replace Rw := ints_keep Rw (hb.mono Zt2) (Nat.le_refl _)
    replace Zt2 := Nat.le_trans Zt2 hb.size
    clear hb
    clear hbs
    have EX0 := he
    clear he
    have Ot2t3 := Zt2
    have SA0t3 := sA0
    have Kt3 := kw.size
    have Zt3 := Nat.le_refl t3.heap.size
    obtain ⟨X0, hX0⟩ : ∃ X, t3.heap.size = X := ⟨_, rfl⟩
    have sA0l2 : w.heap.size < X0 := by omega
    have bA0c0 := bA0.cell 0
    have bA0c1 := bA0.cell 1
    have bA0c2 := bA0.cell 2
    go_wp2_with fail
    clear bA0c0 bA0c1 bA0c2
    clear sA0l2
    obtain ⟨t4, ht4⟩ : ∃ w5, t3.alloc (.cells #[.slice Ax0 nx0 cx0, .int .i64 zx0, .slice Dx0 mx0 ex0] 28) = w5 := ⟨_, rfl⟩
    have hb : Below t3.heap.size t3 t4 := by rw [← ht4]; exact (Below.refl _ _).alloc (Nat.le_refl _) _
    have bX0 : Blk t4 X0 28 #[.slice Ax0 nx0 cx0, .int .i64 zx0, .slice Dx0 mx0 ex0] := by rw [← ht4]; exact Blk.new' _ _ _ _ hX0
    rw [ht4]
    clear ht4
    replace kw := kw.trans (hb.mono kw.size)
    replace bA0 := bA0.all hb
    replace sA0 := Nat.lt_of_lt_of_le sA0 hb.size
    replace EX0 := metric_below EX0 hb
    replace Rw := ints_keep Rw (hb.mono Zt2) (Nat.le_refl _)
    replace Zt2 := Nat.le_trans Zt2 hb.size
    replace Zt3 := Nat.le_trans Zt3 hb.size
    clear hb
    have gX0 := bX0.lt
    have Ot2t4 := Zt2
    have Ot3t4 := Zt3
    have SA0t4 := sA0
    have GbX0t4 := bX0.lt
    have Kt4 := kw.size
    have Zt4 := Nat.le_refl t4.heap.size
    clear gX0
    have hcl := (implSM_c t4 _ x0 (metric_rd EX0) SH0 (hT.bel kw))
    rw [HY0.out, HY1.out] at hcl
    have HCL := hide hcl
    clear hcl
    refine HCL.out.mono ?_
    rintro e t5 ⟨u, rfl, he, hb⟩
    clear HCL
    obtain ⟨Ag, ng, cg, rfl, hf⟩ := ints_form (ints_rd he)
    clear hf
    replace kw := kw.trans (hb.mono kw.size)
    replace bA0 := bA0.all hb
    replace sA0 := Nat.lt_of_lt_of_le sA0 hb.size
    replace bX0 := bX0.all hb
    replace EX0 := metric_below EX0 hb
    replace Rw := ints_keep Rw (hb.mono Zt2) (Nat.le_refl _)
    replace Zt2 := Nat.le_trans Zt2 hb.size
    replace Zt3 := Nat.le_trans Zt3 hb.size
    replace Zt4 := Nat.le_trans Zt4 hb.size
    clear hb
    have Eg := he
    clear he
    have Ot2t5 := Zt2
    have Ot3t5 := Zt3
    have Ot4t5 := Zt4
    have SA0t5 := sA0
    have GbX0t5 := bX0.lt
    have Kt5 := kw.size
    have Zt5 := Nat.le_refl t5.heap.size
    have bA0c0 := bA0.cell 0
    have bA0c1 := bA0.cell 1
    have bA0c2 := bA0.cell 2
    have bX0c0 := bX0.cell 0
    have bX0c1 := bX0.cell 1
    have bX0c2 := bX0.cell 2
    have bX0lt := bX0.lt
    go_wp2_with fail
    clear bA0c0 bA0c1 bA0c2 bX0c0 bX0c1 bX0c2 bX0lt
    refine (ints_eq _ _ _ y0 y0 (ints_rd Eg) (ints_keep Rw (Below.refl _ _) Zt2) SY).mono ?_
    rintro e t6 ⟨rfl, hb⟩
    simp only [beq_self_eq_true]
    replace kw := kw.trans (hb.mono kw.size)
    replace bA0 := bA0.all hb
    replace sA0 := Nat.lt_of_lt_of_le sA0 hb.size
    replace bX0 := bX0.all hb
    replace EX0 := metric_below EX0 hb
    replace Eg := ints_below Eg hb
    replace Rw := ints_keep Rw (hb.mono Zt2) (Nat.le_refl _)
    replace Zt2 := Nat.le_trans Zt2 hb.size
    replace Zt3 := Nat.le_trans Zt3 hb.size
    replace Zt4 := Nat.le_trans Zt4 hb.size
    replace Zt5 := Nat.le_trans Zt5 hb.size
    clear hb
    have bA0c0 := bA0.cell 0
    have bA0c1 := bA0.cell 1
    have bA0c2 := bA0.cell 2
    have bX0c0 := bX0.cell 0
    have bX0c1 := bX0.cell 1
    have bX0c2 := bX0.cell 2
    have bX0lt := bX0.lt
    go_wp2_with fail
    clear bA0c0 bA0c1 bA0c2 bX0c0 bX0c1 bX0c2 bX0lt
    have HXl := bX0.lt
    have HAl := bA0.lt
    have rA0 := bA0.cell 0
    have rX0 := bX0.cell 0
    have rA1 := bA0.cell 1
    have rX1 := bX0.cell 1
    have rA2 := bA0.cell 2
    have rX2 := bX0.cell 2
    refine wp_region_be [0, 1, 2, 3, 4] 5 t6.heap.size t6 (by kernel_rfl) (by kernel_rfl) (by kernel_rfl) (fun _ _ _ _ _ h => h) (Below.refl _ _) (fun wd hBe => ?_)
    repeat (first | (apply ord_tk rfl (by rfl) (by rfl) (by rfl); (focus (intro wx hSw; have r0 := (hSw.cell (p := ⟨w.heap.size, 0, none⟩) HAl).trans rA0; have r1 := (hSw.cell (p := ⟨w.heap.size, 1, none⟩) HAl).trans rA1; have r2 := (hSw.cell (p := ⟨w.heap.size, 2, none⟩) HAl).trans rA2; have s0 := (hSw.cell (p := ⟨X0, 0, none⟩) HXl).trans rX0; have s1 := (hSw.cell (p := ⟨X0, 1, none⟩) HXl).trans rX1; have s2 := (hSw.cell (p := ⟨X0, 2, none⟩) HXl).trans rX2; go_simp; (try with_reducible rfl))); (try simp only [Act.put, List.setIfInBounds_toArray, List.set_cons_zero, List.set_cons_succ])) | (apply ord_skip rfl (by rfl) (by rfl) (fun _ => hBe); (try simp only [Act.put, List.setIfInBounds_toArray, List.set_cons_zero, List.set_cons_succ])))
    refine ord_do rfl (by rfl) (by rfl) (fun K hK => ?_)
    go_simp
    have kq := kw.trans (hBe.mono kw.size)
    refine (metric_to _ _ x0 (metric_keep HA0 kq kq.size) SH0).mono ?_
    rintro e wq ⟨u, rfl, he, hb⟩
    obtain ⟨Ar0, nr0, cr0, zr0, Dr0, mr0, er0, rfl, hf⟩ := metric_form (metric_rd he)
    clear hf
    replace hBe := hBe.trans (hb.mono hBe.size)
    clear hb kq
    refine hK.out _ _ (fun _ => hBe) ?_
    (try simp only [Act.put, List.setIfInBounds_toArray, List.set_cons_zero, List.set_cons_succ])
    clear hK K
    repeat (first | (apply ord_tk rfl (by rfl) (by rfl) (by rfl); (focus (intro wx hSw; have r0 := (hSw.cell (p := ⟨w.heap.size, 0, none⟩) HAl).trans rA0; have r1 := (hSw.cell (p := ⟨w.heap.size, 1, none⟩) HAl).trans rA1; have r2 := (hSw.cell (p := ⟨w.heap.size, 2, none⟩) HAl).trans rA2; have s0 := (hSw.cell (p := ⟨X0, 0, none⟩) HXl).trans rX0; have s1 := (hSw.cell (p := ⟨X0, 1, none⟩) HXl).trans rX1; have s2 := (hSw.cell (p := ⟨X0, 2, none⟩) HXl).trans rX2; go_simp; (try with_reducible rfl))); (try simp only [Act.put, List.setIfInBounds_toArray, List.set_cons_zero, List.set_cons_succ])) | (apply ord_skip rfl (by rfl) (by rfl) (fun _ => hBe); (try simp only [Act.put, List.setIfInBounds_toArray, List.set_cons_zero, List.set_cons_succ])))
    refine ord_do rfl (by rfl) (by rfl) (fun K hK => ?_)
    go_simp
    refine (metric_eq _ _ _ x0 x0 (metric_rd (metric_below EX0 hBe)) (metric_rd he) SH0).mono ?_
    rintro e wd' ⟨rfl, hwd⟩
    replace hBe := hBe.trans (hwd.mono hBe.size)
    clear hwd
    refine hK.out _ _ (fun _ => hBe) ?_
    (try simp only [Act.put, List.setIfInBounds_toArray, List.set_cons_zero, List.set_cons_succ])
    clear hK K
    simp only [beq_self_eq_true]
    repeat (first | (apply ord_tk rfl (by rfl) (by rfl) (by rfl); (focus (intro wx hSw; have r0 := (hSw.cell (p := ⟨w.heap.size, 0, none⟩) HAl).trans rA0; have r1 := (hSw.cell (p := ⟨w.heap.size, 1, none⟩) HAl).trans rA1; have r2 := (hSw.cell (p := ⟨w.heap.size, 2, none⟩) HAl).trans rA2; have s0 := (hSw.cell (p := ⟨X0, 0, none⟩) HXl).trans rX0; have s1 := (hSw.cell (p := ⟨X0, 1, none⟩) HXl).trans rX1; have s2 := (hSw.cell (p := ⟨X0, 2, none⟩) HXl).trans rX2; go_simp; (try with_reducible rfl))); (try simp only [Act.put, List.setIfInBounds_toArray, List.set_cons_zero, List.set_cons_succ])) | (apply ord_skip rfl (by rfl) (by rfl) (fun _ => hBe); (try simp only [Act.put, List.setIfInBounds_toArray, List.set_cons_zero, List.set_cons_succ])))
    refine ord_nil ?_
    clear he HXl HAl rA0 rX0 rA1 rX1 rA2 rX2
    obtain ⟨t7, hnz⟩ : ∃ x, x = wd' := ⟨_, rfl⟩
    subst hnz
    have hb := hBe
    clear hBe
    replace kw := kw.trans (hb.mono kw.size)
    replace bA0 := bA0.all hb
    replace sA0 := Nat.lt_of_lt_of_le sA0 hb.size
    replace bX0 := bX0.all hb
    replace EX0 := metric_below EX0 hb
    replace Eg := ints_below Eg hb
    replace Rw := ints_keep Rw (hb.mono Zt2) (Nat.le_refl _)
    replace Zt2 := Nat.le_trans Zt2 hb.size
    replace Zt3 := Nat.le_trans Zt3 hb.size
    replace Zt4 := Nat.le_trans Zt4 hb.size
    replace Zt5 := Nat.le_trans Zt5 hb.size
    clear hb
    have bA0c0 := bA0.cell 0
    have bA0c1 := bA0.cell 1
    have bA0c2 := bA0.cell 2
    have bX0c0 := bX0.cell 0
    have bX0c1 := bX0.cell 1
    have bX0c2 := bX0.cell 2
    have bX0lt := bX0.lt
    go_wp2_with fail
    clear bA0c0 bA0c1 bA0c2 bX0c0 bX0c1 bX0c2 bX0lt
    refine (metric_mark _ _ x0 _ 1 EX0 (by omega) (by omega) (by omega)).mono ?_
    rintro e t8 ⟨rfl, he, hw⟩
    have hbb := hw.below (B := t2.heap.size) (fun b hf => hf.1) Zt2
    replace kw := kw.trans (hbb.mono Kt2)
    replace bA0 := bA0.below hbb (by omega)
    replace sA0 := Nat.lt_of_lt_of_le sA0 hw.size
    replace bX0 := hw.blk bX0 (fun hf => by have a1 := hf.1; have a2 := hf.2; omega)
    replace Eg := ints_wr Eg hw (fun b h1 h2 => by have a1 := h1.1; have a2 := h1.2; have a3 := h2.1; have a4 := h2.2; omega)
    replace Rw := ints_keep Rw (hbb.mono (by omega)) (Nat.le_refl _)
    replace Zt2 := Nat.le_trans Zt2 hw.size
    replace Zt3 := Nat.le_trans Zt3 hw.size
    replace Zt4 := Nat.le_trans Zt4 hw.size
    replace Zt5 := Nat.le_trans Zt5 hw.size
    replace EX0 := he
    clear hbb hw he
    obtain ⟨kk0, hkk0, hkk0a, hkk0b⟩ : ∃ z : Int, 1 + (metric_sum x0 : Int) = z ∧ 0 ≤ z ∧ z ≤ 4000000 := ⟨_, rfl, by omega, by omega⟩
    rw [hkk0]
    have Hkk0 := hide hkk0
    clear hkk0
    clear EX0
    have bA0c0 := bA0.cell 0
    have bA0c1 := bA0.cell 1
    have bA0c2 := bA0.cell 2
    have bX0c0 := bX0.cell 0
    have bX0c1 := bX0.cell 1
    have bX0c2 := bX0.cell 2
    have bX0lt := bX0.lt
    go_wp2_with fail
    clear bA0c0 bA0c1 bA0c2 bX0c0 bX0c1 bX0c2 bX0lt
    refine (ints_eq _ _ _ y0 y0 (ints_rd Eg) (ints_keep Rw (Below.refl _ _) Zt2) SY).mono ?_
    rintro e t9 ⟨rfl, hb⟩
    simp only [beq_self_eq_true]
    replace kw := kw.trans (hb.mono kw.size)
    replace bA0 := bA0.all hb
    replace sA0 := Nat.lt_of_lt_of_le sA0 hb.size
    replace bX0 := bX0.all hb
    replace Eg := ints_below Eg hb
    replace Rw := ints_keep Rw (hb.mono Zt2) (Nat.le_refl _)
    replace Zt2 := Nat.le_trans Zt2 hb.size
    replace Zt3 := Nat.le_trans Zt3 hb.size
    replace Zt4 := Nat.le_trans Zt4 hb.size
    replace Zt5 := Nat.le_trans Zt5 hb.size
    clear hb
    have bA0c0 := bA0.cell 0
    have bA0c1 := bA0.cell 1
    have bA0c2 := bA0.cell 2
    have bX0c0 := bX0.cell 0
    have bX0c1 := bX0.cell 1
    have bX0c2 := bX0.cell 2
    have bX0lt := bX0.lt
    go_wp2_with fail
    clear bA0c0 bA0c1 bA0c2 bX0c0 bX0c1 bX0c2 bX0lt
    refine (ints_mark _ _ y0 _ 1 Eg (by omega) (by omega) (by omega)).mono ?_
    rintro e t10 ⟨rfl, he, hw⟩
    have hbb := hw.below (B := t4.heap.size) (fun b hf => hf.1) Zt4
    replace kw := kw.trans (hbb.mono Kt4)
    replace bA0 := bA0.below hbb (by omega)
    replace sA0 := Nat.lt_of_lt_of_le sA0 hw.size
    replace bX0 := hw.blk bX0 (fun hf => by have a1 := hf.1; have a2 := hf.2; omega)
    replace Rw := ints_keep Rw (hbb.mono (by omega)) (Nat.le_refl _)
    replace Zt2 := Nat.le_trans Zt2 hw.size
    replace Zt3 := Nat.le_trans Zt3 hw.size
    replace Zt4 := Nat.le_trans Zt4 hw.size
    replace Zt5 := Nat.le_trans Zt5 hw.size
    replace Eg := he
    clear hbb hw he
    obtain ⟨mm, hmm, hmma, hmmb⟩ : ∃ z : Int, 1 + (ints_sum y0 : Int) = z ∧ 0 ≤ z ∧ z ≤ 4000000 := ⟨_, rfl, by omega, by omega⟩
    rw [hmm]
    have Hmm := hide hmm
    clear hmm
    have bA0c0 := bA0.cell 0
    have bA0c1 := bA0.cell 1
    have bA0c2 := bA0.cell 2
    have bX0c0 := bX0.cell 0
    have bX0c1 := bX0.cell 1
    have bX0c2 := bX0.cell 2
    have bX0lt := bX0.lt
    go_wp2_with fail
    clear bA0c0 bA0c1 bA0c2 bX0c0 bX0c1 bX0c2 bX0lt
    refine (ints_heldc _ _ _ 1 (ints_rd Eg) (ints_shmk SY) (by omega) (by omega)).mono ?_
    rw [ints_heldmk1, Hmm.out]
    rintro e t11 ⟨rfl, hb⟩
    replace kw := kw.trans (hb.mono kw.size)
    replace bA0 := bA0.all hb
    replace sA0 := Nat.lt_of_lt_of_le sA0 hb.size
    replace bX0 := bX0.all hb
    replace Eg := ints_below Eg hb
    replace Rw := ints_keep Rw (hb.mono Zt2) (Nat.le_refl _)
    replace Zt2 := Nat.le_trans Zt2 hb.size
    replace Zt3 := Nat.le_trans Zt3 hb.size
    replace Zt4 := Nat.le_trans Zt4 hb.size
    replace Zt5 := Nat.le_trans Zt5 hb.size
    clear hb
    have bA0c0 := bA0.cell 0
    have bA0c1 := bA0.cell 1
    have bA0c2 := bA0.cell 2
    have bX0c0 := bX0.cell 0
    have bX0c1 := bX0.cell 1
    have bX0c2 := bX0.cell 2
    have bX0lt := bX0.lt
    go_wp2_with fail
    clear bA0c0 bA0c1 bA0c2 bX0c0 bX0c1 bX0c2 bX0lt
    refine (metric_to _ _ x0 (metric_keep HA0 kw kw.size) SH0).mono ?_
    rintro e t12 ⟨u, rfl, he, hb⟩
    obtain ⟨Ah0, nh0, ch0, zh0, Dh0, mh0, eh0, rfl, hf⟩ := metric_form (metric_rd he)
    clear hf
    have hbs := hb.size
    replace kw := kw.trans (hb.mono kw.size)
    replace bA0 := bA0.all hb
    replace sA0 := Nat.lt_of_lt_of_le sA0 hb.size
    replace bX0 := bX0.all hb
    replace Eg := ints_below Eg hb
    replace Rw := ints_keep Rw (hb.mono Zt2) (Nat.le_refl _)
    replace Zt2 := Nat.le_trans Zt2 hb.size
    replace Zt3 := Nat.le_trans Zt3 hb.size
    replace Zt4 := Nat.le_trans Zt4 hb.size
    replace Zt5 := Nat.le_trans Zt5 hb.size
    clear hb
    clear hbs
    have Eh0 := he
    clear he
    have bA0c0 := bA0.cell 0
    have bA0c1 := bA0.cell 1
    have bA0c2 := bA0.cell 2
    have bX0c0 := bX0.cell 0
    have bX0c1 := bX0.cell 1
    have bX0c2 := bX0.cell 2
    have bX0lt := bX0.lt
    go_wp2_with fail
    clear bA0c0 bA0c1 bA0c2 bX0c0 bX0c1 bX0c2 bX0lt
    have hcl := (implSM_c t12 _ x0 (metric_rd Eh0) SH0 (hT.bel kw))
    rw [HY0.out, HY1.out] at hcl
    have HCL := hide hcl
    clear hcl
    refine HCL.out.mono ?_
    rintro e t13 ⟨u, rfl, he, hb⟩
    clear HCL
    obtain ⟨Ah, nh, ch, rfl, hf⟩ := ints_form (ints_rd he)
    clear hf
    replace kw := kw.trans (hb.mono kw.size)
    replace bA0 := bA0.all hb
    replace sA0 := Nat.lt_of_lt_of_le sA0 hb.size
    replace bX0 := bX0.all hb
    replace Eg := ints_below Eg hb
    replace Eh0 := metric_below Eh0 hb
    replace Rw := ints_keep Rw (hb.mono Zt2) (Nat.le_refl _)
    replace Zt2 := Nat.le_trans Zt2 hb.size
    replace Zt3 := Nat.le_trans Zt3 hb.size
    replace Zt4 := Nat.le_trans Zt4 hb.size
    replace Zt5 := Nat.le_trans Zt5 hb.size
    clear hb
    have Eh := he
    clear he
    have bA0c0 := bA0.cell 0
    have bA0c1 := bA0.cell 1
    have bA0c2 := bA0.cell 2
    have bX0c0 := bX0.cell 0
    have bX0c1 := bX0.cell 1
    have bX0c2 := bX0.cell 2
    have bX0lt := bX0.lt
    go_wp2_with fail
    clear bA0c0 bA0c1 bA0c2 bX0c0 bX0c1 bX0c2 bX0lt
    refine (ints_eq _ _ _ y0 y0 (ints_rd Eh) (ints_keep Rw (Below.refl _ _) Zt2) SY).mono ?_
    rintro e t14 ⟨rfl, hb⟩
    simp only [beq_self_eq_true]
    replace kw := kw.trans (hb.mono kw.size)
    replace bA0 := bA0.all hb
    replace sA0 := Nat.lt_of_lt_of_le sA0 hb.size
    replace bX0 := bX0.all hb
    replace Eg := ints_below Eg hb
    replace Eh0 := metric_below Eh0 hb
    replace Eh := ints_below Eh hb
    replace Rw := ints_keep Rw (hb.mono Zt2) (Nat.le_refl _)
    replace Zt2 := Nat.le_trans Zt2 hb.size
    replace Zt3 := Nat.le_trans Zt3 hb.size
    replace Zt4 := Nat.le_trans Zt4 hb.size
    replace Zt5 := Nat.le_trans Zt5 hb.size
    clear hb
    have bA0c0 := bA0.cell 0
    have bA0c1 := bA0.cell 1
    have bA0c2 := bA0.cell 2
    have bX0c0 := bX0.cell 0
    have bX0c1 := bX0.cell 1
    have bX0c2 := bX0.cell 2
    have bX0lt := bX0.lt
    go_wp2_with fail
    clear bA0c0 bA0c1 bA0c2 bX0c0 bX0c1 bX0c2 bX0lt
    refine (ints_heldc _ _ _ 1 (ints_rd Eg) (ints_shmk SY) (by omega) (by omega)).mono ?_
    rw [ints_heldmk1, Hmm.out]
    rintro e t15 ⟨rfl, hb⟩
    replace kw := kw.trans (hb.mono kw.size)
    replace bA0 := bA0.all hb
    replace sA0 := Nat.lt_of_lt_of_le sA0 hb.size
    replace bX0 := bX0.all hb
    replace Eg := ints_below Eg hb
    replace Eh0 := metric_below Eh0 hb
    replace Eh := ints_below Eh hb
    replace Rw := ints_keep Rw (hb.mono Zt2) (Nat.le_refl _)
    replace Zt2 := Nat.le_trans Zt2 hb.size
    replace Zt3 := Nat.le_trans Zt3 hb.size
    replace Zt4 := Nat.le_trans Zt4 hb.size
    replace Zt5 := Nat.le_trans Zt5 hb.size
    clear hb
    go_wp2_with fail
    go_ret
    exact ⟨rfl, kw⟩
theorem specIM_c (w : World) (v : Value) (x : metric_T) (h : metric_R w w.heap.size v x) (hs : metric_Sh x) :
    Calls Tryd.prog 19 #[v] w (MkEC ints_E w (imX x) (mK x)) := by
  obtain ⟨A, n, c, D, m, e, rfl, h1, h2, h3⟩ := h
  have hs2 : x.1.length + x.2.2.length ≤ 1048576 := hs
  have l1 := h1.len
  have l2 := h2.len
  exact (spec_IM_any w A n c x.1 x.2.1 D m e x.2.2 h1 h2 (by omega) (by omega)).mono fun _ _ h => mkEC_own h (ifM_all fun _ => fun _ h => isoK_sub _ h)
theorem implIM_c (w : World) (v : Value) (x : metric_T) (h : metric_R w w.heap.size v x) (hs : metric_Sh x) (hT : Tb w) :
    Calls Tryd.prog 20 #[v] w (MkEC ints_E w (imX x) (mK x)) := by
  obtain ⟨A, n, c, D, m, e, rfl, h1, h2, h3⟩ := h
  have hs2 : x.1.length + x.2.2.length ≤ 1048576 := hs
  have l1 := h1.len
  have l2 := h2.len
  exact (impl_IM_any w A n c x.1 x.2.1 D m e x.2.2 h1 h2 (by omega) (by omega) hT).mono fun _ _ h => mkEC_own h (ifM_all fun _ => fun _ h => isoK_sub _ h)
set_option maxHeartbeats 8000000 in
set_option maxRecDepth 100000 in
theorem law_IsotropicMasks {w : World} (hT : Tb w) (v0 : Value) (x0 : metric_T) (HA0 : metric_R w w.heap.size v0 x0) (HB0 : metric_Big x0) : Calls Tryd.prog 4 #[v0] w (Re w (.bool true)) := by
  obtain ⟨A0, n0, c0, z0, D0, m0, e0, rfl, hf⟩ := metric_form HA0
  clear hf
  by_cases q0 : (1048576 : Int) - (metric_tot x0 : Int) < 0
  · have HZ0 := hide (fun (W : World) (h : Below w.heap.size w W) => metric_sz W _ x0 1048576 (metric_keep HA0 h h.size) HB0 (by omega) (by omega))
    rw [szI_no q0] at HZ0
    go_enter Tryd.func4, Tryd.ntmps4
    go_wp2_with fail
    obtain ⟨W, hW⟩ : ∃ W, w.alloc (.cells #[.slice A0 n0 c0, .int .i64 z0, .slice D0 m0 e0] 24) = W := ⟨_, rfl⟩
    have kw : Below w.heap.size w W := by rw [← hW]; exact (by repeat (first | assumption | exact Below.refl _ _ | apply below_drewN | apply Below.drew | apply Below.alloc | apply Below.setCell | omega | (focus (simp; done)) | (focus (simp; omega))))
    have bA0 : Blk W (w.heap.size) 24 #[.slice A0 n0 c0, .int .i64 z0, .slice D0 m0 e0] := by rw [← hW]; exact (Blk.new' _ _ _ _ (by simp))
    have sA0 : w.heap.size < W.heap.size := bA0.lt
    rw [hW]
    clear hW
    refine (HZ0.out _ kw).mono ?_
    rintro e ws0 ⟨rfl, hb⟩
    replace kw := kw.trans (hb.mono kw.size)
    replace bA0 := bA0.all hb
    replace sA0 := Nat.lt_of_lt_of_le sA0 hb.size
    clear hb
    have bA0c0 := bA0.cell 0
    have bA0c1 := bA0.cell 1
    have bA0c2 := bA0.cell 2
    go_wp2_with fail
    clear bA0c0 bA0c1 bA0c2
    go_ret
    exact ⟨rfl, kw⟩
  · have HZ0 := hide (fun (W : World) (h : Below w.heap.size w W) => metric_sz W _ x0 1048576 (metric_keep HA0 h h.size) HB0 (by omega) (by omega))
    rw [szI_ok q0] at HZ0
    have HS0 : metric_tot x0 ≤ 1048576 := by omega
    obtain ⟨l1, el1⟩ : ∃ l, (1048576 : Int) - (metric_tot x0 : Int) = l := ⟨_, rfl⟩
    have bl1a : 0 ≤ l1 := by omega
    have bl1b : l1 ≤ 1048576 := by omega
    rw [el1] at HZ0
    clear el1 q0
    have SH0 := metric_sh HS0
    have SL0 := metric_sumle x0
    obtain ⟨y0, hy0⟩ : ∃ y : List Int, imX x0 = y := ⟨_, rfl⟩
    have HY0 := hide hy0
    clear hy0
    obtain ⟨y1, hy1⟩ : ∃ y : Int, mK x0 = y := ⟨_, rfl⟩
    have HY1 := hide hy1
    clear hy1
    have SY0 : ints_tot y0 ≤ 1048576 := by rw [← HY0.out]; exact ifM_tot (isoK_len _ _)
    have SY := ints_sh SY0
    have SY2 := ints_sumle y0
    go_enter Tryd.func4, Tryd.ntmps4
    go_wp2_with fail
    obtain ⟨W, hW⟩ : ∃ W, w.alloc (.cells #[.slice A0 n0 c0, .int .i64 z0, .slice D0 m0 e0] 24) = W := ⟨_, rfl⟩
    have kw : Below w.heap.size w W := by rw [← hW]; exact (by repeat (first | assumption | exact Below.refl _ _ | apply below_drewN | apply Below.drew | apply Below.alloc | apply Below.setCell | omega | (focus (simp; done)) | (focus (simp; omega))))
    have bA0 : Blk W (w.heap.size) 24 #[.slice A0 n0 c0, .int .i64 z0, .slice D0 m0 e0] := by rw [← hW]; exact (Blk.new' _ _ _ _ (by simp))
    have sA0 : w.heap.size < W.heap.size := bA0.lt
    rw [hW]
    clear hW
    refine (HZ0.out _ kw).mono ?_
    rintro e ws0 ⟨rfl, hb⟩
    replace kw := kw.trans (hb.mono kw.size)
    replace bA0 := bA0.all hb
    replace sA0 := Nat.lt_of_lt_of_le sA0 hb.size
    clear hb
    have bA0c0 := bA0.cell 0
    have bA0c1 := bA0.cell 1
    have bA0c2 := bA0.cell 2
    go_wp2_with fail
    clear bA0c0 bA0c1 bA0c2
    refine (metric_to _ _ x0 (metric_keep HA0 kw kw.size) SH0).mono ?_
    rintro e t1 ⟨u, rfl, he, hb⟩
    obtain ⟨As0, ns0, cs0, zs0, Ds0, ms0, es0, rfl, hf⟩ := metric_form (metric_rd he)
    clear hf
    have hbs := hb.size
    replace kw := kw.trans (hb.mono kw.size)
    replace bA0 := bA0.all hb
    replace sA0 := Nat.lt_of_lt_of_le sA0 hb.size
    clear hb
    clear hbs
    have Es0 := he
    clear he
    have bA0c0 := bA0.cell 0
    have bA0c1 := bA0.cell 1
    have bA0c2 := bA0.cell 2
    go_wp2_with fail
    clear bA0c0 bA0c1 bA0c2
    have hcl := (specIM_c t1 _ x0 (metric_rd Es0) SH0)
    rw [HY0.out, HY1.out] at hcl
    have HCL := hide hcl
    clear hcl
    refine HCL.out.mono ?_
    rintro e t2 ⟨u, rfl, he, hb⟩
    clear HCL
    obtain ⟨Aw, nw, cw, rfl, hf⟩ := ints_form (ints_rd he)
    clear hf
    replace kw := kw.trans (hb.mono kw.size)
    replace bA0 := bA0.all hb
    replace sA0 := Nat.lt_of_lt_of_le sA0 hb.size
    replace Es0 := metric_below Es0 hb
    clear hb
    clear Es0
    have SA0t2 := sA0
    have Kt2 := kw.size
    have Zt2 := Nat.le_refl t2.heap.size
    have Rw := ints_rd he
    clear he
    have bA0c0 := bA0.cell 0
    have bA0c1 := bA0.cell 1
    have bA0c2 := bA0.cell 2
    go_wp2_with fail
    clear bA0c0 bA0c1 bA0c2
    refine (metric_to _ _ x0 (metric_keep HA0 kw kw.size) SH0).mono ?_
    rintro e t3 ⟨u, rfl, he, hb⟩
    obtain ⟨Ax0, nx0, cx0, zx0, Dx0, mx0, ex0, rfl, hf⟩ := metric_form (metric_rd he)
    clear hf
    have hbs := hb.size
    replace kw := kw.trans (hb.mono kw.size)
    replace bA0 := bA0.all hb
    replace sA0 := Nat.lt_of_lt_of_le sA0 hb.size
    replace Rw := ints_keep Rw (hb.mono Zt2) (Nat.le_refl _)
    replace Zt2 := Nat.le_trans Zt2 hb.size
    clear hb
    clear hbs
    have EX0 := he
    clear he
    have Ot2t3 := Zt2
    have SA0t3 := sA0
    have Kt3 := kw.size
    have Zt3 := Nat.le_refl t3.heap.size
    obtain ⟨X0, hX0⟩ : ∃ X, t3.heap.size = X := ⟨_, rfl⟩
    have sA0l2 : w.heap.size < X0 := by omega
    have bA0c0 := bA0.cell 0
    have bA0c1 := bA0.cell 1
    have bA0c2 := bA0.cell 2
    go_wp2_with fail
    clear bA0c0 bA0c1 bA0c2
    clear sA0l2
    obtain ⟨t4, ht4⟩ : ∃ w5, t3.alloc (.cells #[.slice Ax0 nx0 cx0, .int .i64 zx0, .slice Dx0 mx0 ex0] 28) = w5 := ⟨_, rfl⟩
    have hb : Below t3.heap.size t3 t4 := by rw [← ht4]; exact (Below.refl _ _).alloc (Nat.le_refl _) _
    have bX0 : Blk t4 X0 28 #[.slice Ax0 nx0 cx0, .int .i64 zx0, .slice Dx0 mx0 ex0] := by rw [← ht4]; exact Blk.new' _ _ _ _ hX0
    rw [ht4]
    clear ht4
    replace kw := kw.trans (hb.mono kw.size)
    replace bA0 := bA0.all hb
    replace sA0 := Nat.lt_of_lt_of_le sA0 hb.size
    replace EX0 := metric_below EX0 hb
    replace Rw := ints_keep Rw (hb.mono Zt2) (Nat.le_refl _)
    replace Zt2 := Nat.le_trans Zt2 hb.size
    replace Zt3 := Nat.le_trans Zt3 hb.size
    clear hb
    have gX0 := bX0.lt
    have Ot2t4 := Zt2
    have Ot3t4 := Zt3
    have SA0t4 := sA0
    have GbX0t4 := bX0.lt
    have Kt4 := kw.size
    have Zt4 := Nat.le_refl t4.heap.size
    clear gX0
    have hcl := (implIM_c t4 _ x0 (metric_rd EX0) SH0 (hT.bel kw))
    rw [HY0.out, HY1.out] at hcl
    have HCL := hide hcl
    clear hcl
    refine HCL.out.mono ?_
    rintro e t5 ⟨u, rfl, he, hb⟩
    clear HCL
    obtain ⟨Ag, ng, cg, rfl, hf⟩ := ints_form (ints_rd he)
    clear hf
    replace kw := kw.trans (hb.mono kw.size)
    replace bA0 := bA0.all hb
    replace sA0 := Nat.lt_of_lt_of_le sA0 hb.size
    replace bX0 := bX0.all hb
    replace EX0 := metric_below EX0 hb
    replace Rw := ints_keep Rw (hb.mono Zt2) (Nat.le_refl _)
    replace Zt2 := Nat.le_trans Zt2 hb.size
    replace Zt3 := Nat.le_trans Zt3 hb.size
    replace Zt4 := Nat.le_trans Zt4 hb.size
    clear hb
    have Eg := he
    clear he
    have Ot2t5 := Zt2
    have Ot3t5 := Zt3
    have Ot4t5 := Zt4
    have SA0t5 := sA0
    have GbX0t5 := bX0.lt
    have Kt5 := kw.size
    have Zt5 := Nat.le_refl t5.heap.size
    have bA0c0 := bA0.cell 0
    have bA0c1 := bA0.cell 1
    have bA0c2 := bA0.cell 2
    have bX0c0 := bX0.cell 0
    have bX0c1 := bX0.cell 1
    have bX0c2 := bX0.cell 2
    have bX0lt := bX0.lt
    go_wp2_with fail
    clear bA0c0 bA0c1 bA0c2 bX0c0 bX0c1 bX0c2 bX0lt
    refine (ints_eq _ _ _ y0 y0 (ints_rd Eg) (ints_keep Rw (Below.refl _ _) Zt2) SY).mono ?_
    rintro e t6 ⟨rfl, hb⟩
    simp only [beq_self_eq_true]
    replace kw := kw.trans (hb.mono kw.size)
    replace bA0 := bA0.all hb
    replace sA0 := Nat.lt_of_lt_of_le sA0 hb.size
    replace bX0 := bX0.all hb
    replace EX0 := metric_below EX0 hb
    replace Eg := ints_below Eg hb
    replace Rw := ints_keep Rw (hb.mono Zt2) (Nat.le_refl _)
    replace Zt2 := Nat.le_trans Zt2 hb.size
    replace Zt3 := Nat.le_trans Zt3 hb.size
    replace Zt4 := Nat.le_trans Zt4 hb.size
    replace Zt5 := Nat.le_trans Zt5 hb.size
    clear hb
    have bA0c0 := bA0.cell 0
    have bA0c1 := bA0.cell 1
    have bA0c2 := bA0.cell 2
    have bX0c0 := bX0.cell 0
    have bX0c1 := bX0.cell 1
    have bX0c2 := bX0.cell 2
    have bX0lt := bX0.lt
    go_wp2_with fail
    clear bA0c0 bA0c1 bA0c2 bX0c0 bX0c1 bX0c2 bX0lt
    have HXl := bX0.lt
    have HAl := bA0.lt
    have rA0 := bA0.cell 0
    have rX0 := bX0.cell 0
    have rA1 := bA0.cell 1
    have rX1 := bX0.cell 1
    have rA2 := bA0.cell 2
    have rX2 := bX0.cell 2
    refine wp_region_be [0, 1, 2, 3, 4] 5 t6.heap.size t6 (by kernel_rfl) (by kernel_rfl) (by kernel_rfl) (fun _ _ _ _ _ h => h) (Below.refl _ _) (fun wd hBe => ?_)
    repeat (first | (apply ord_tk rfl (by rfl) (by rfl) (by rfl); (focus (intro wx hSw; have r0 := (hSw.cell (p := ⟨w.heap.size, 0, none⟩) HAl).trans rA0; have r1 := (hSw.cell (p := ⟨w.heap.size, 1, none⟩) HAl).trans rA1; have r2 := (hSw.cell (p := ⟨w.heap.size, 2, none⟩) HAl).trans rA2; have s0 := (hSw.cell (p := ⟨X0, 0, none⟩) HXl).trans rX0; have s1 := (hSw.cell (p := ⟨X0, 1, none⟩) HXl).trans rX1; have s2 := (hSw.cell (p := ⟨X0, 2, none⟩) HXl).trans rX2; go_simp; (try with_reducible rfl))); (try simp only [Act.put, List.setIfInBounds_toArray, List.set_cons_zero, List.set_cons_succ])) | (apply ord_skip rfl (by rfl) (by rfl) (fun _ => hBe); (try simp only [Act.put, List.setIfInBounds_toArray, List.set_cons_zero, List.set_cons_succ])))
    refine ord_do rfl (by rfl) (by rfl) (fun K hK => ?_)
    go_simp
    have kq := kw.trans (hBe.mono kw.size)
    refine (metric_to _ _ x0 (metric_keep HA0 kq kq.size) SH0).mono ?_
    rintro e wq ⟨u, rfl, he, hb⟩
    obtain ⟨Ar0, nr0, cr0, zr0, Dr0, mr0, er0, rfl, hf⟩ := metric_form (metric_rd he)
    clear hf
    replace hBe := hBe.trans (hb.mono hBe.size)
    clear hb kq
    refine hK.out _ _ (fun _ => hBe) ?_
    (try simp only [Act.put, List.setIfInBounds_toArray, List.set_cons_zero, List.set_cons_succ])
    clear hK K
    repeat (first | (apply ord_tk rfl (by rfl) (by rfl) (by rfl); (focus (intro wx hSw; have r0 := (hSw.cell (p := ⟨w.heap.size, 0, none⟩) HAl).trans rA0; have r1 := (hSw.cell (p := ⟨w.heap.size, 1, none⟩) HAl).trans rA1; have r2 := (hSw.cell (p := ⟨w.heap.size, 2, none⟩) HAl).trans rA2; have s0 := (hSw.cell (p := ⟨X0, 0, none⟩) HXl).trans rX0; have s1 := (hSw.cell (p := ⟨X0, 1, none⟩) HXl).trans rX1; have s2 := (hSw.cell (p := ⟨X0, 2, none⟩) HXl).trans rX2; go_simp; (try with_reducible rfl))); (try simp only [Act.put, List.setIfInBounds_toArray, List.set_cons_zero, List.set_cons_succ])) | (apply ord_skip rfl (by rfl) (by rfl) (fun _ => hBe); (try simp only [Act.put, List.setIfInBounds_toArray, List.set_cons_zero, List.set_cons_succ])))
    refine ord_do rfl (by rfl) (by rfl) (fun K hK => ?_)
    go_simp
    refine (metric_eq _ _ _ x0 x0 (metric_rd (metric_below EX0 hBe)) (metric_rd he) SH0).mono ?_
    rintro e wd' ⟨rfl, hwd⟩
    replace hBe := hBe.trans (hwd.mono hBe.size)
    clear hwd
    refine hK.out _ _ (fun _ => hBe) ?_
    (try simp only [Act.put, List.setIfInBounds_toArray, List.set_cons_zero, List.set_cons_succ])
    clear hK K
    simp only [beq_self_eq_true]
    repeat (first | (apply ord_tk rfl (by rfl) (by rfl) (by rfl); (focus (intro wx hSw; have r0 := (hSw.cell (p := ⟨w.heap.size, 0, none⟩) HAl).trans rA0; have r1 := (hSw.cell (p := ⟨w.heap.size, 1, none⟩) HAl).trans rA1; have r2 := (hSw.cell (p := ⟨w.heap.size, 2, none⟩) HAl).trans rA2; have s0 := (hSw.cell (p := ⟨X0, 0, none⟩) HXl).trans rX0; have s1 := (hSw.cell (p := ⟨X0, 1, none⟩) HXl).trans rX1; have s2 := (hSw.cell (p := ⟨X0, 2, none⟩) HXl).trans rX2; go_simp; (try with_reducible rfl))); (try simp only [Act.put, List.setIfInBounds_toArray, List.set_cons_zero, List.set_cons_succ])) | (apply ord_skip rfl (by rfl) (by rfl) (fun _ => hBe); (try simp only [Act.put, List.setIfInBounds_toArray, List.set_cons_zero, List.set_cons_succ])))
    refine ord_nil ?_
    clear he HXl HAl rA0 rX0 rA1 rX1 rA2 rX2
    obtain ⟨t7, hnz⟩ : ∃ x, x = wd' := ⟨_, rfl⟩
    subst hnz
    have hb := hBe
    clear hBe
    replace kw := kw.trans (hb.mono kw.size)
    replace bA0 := bA0.all hb
    replace sA0 := Nat.lt_of_lt_of_le sA0 hb.size
    replace bX0 := bX0.all hb
    replace EX0 := metric_below EX0 hb
    replace Eg := ints_below Eg hb
    replace Rw := ints_keep Rw (hb.mono Zt2) (Nat.le_refl _)
    replace Zt2 := Nat.le_trans Zt2 hb.size
    replace Zt3 := Nat.le_trans Zt3 hb.size
    replace Zt4 := Nat.le_trans Zt4 hb.size
    replace Zt5 := Nat.le_trans Zt5 hb.size
    clear hb
    have bA0c0 := bA0.cell 0
    have bA0c1 := bA0.cell 1
    have bA0c2 := bA0.cell 2
    have bX0c0 := bX0.cell 0
    have bX0c1 := bX0.cell 1
    have bX0c2 := bX0.cell 2
    have bX0lt := bX0.lt
    go_wp2_with fail
    clear bA0c0 bA0c1 bA0c2 bX0c0 bX0c1 bX0c2 bX0lt
    refine (metric_mark _ _ x0 _ 1 EX0 (by omega) (by omega) (by omega)).mono ?_
    rintro e t8 ⟨rfl, he, hw⟩
    have hbb := hw.below (B := t2.heap.size) (fun b hf => hf.1) Zt2
    replace kw := kw.trans (hbb.mono Kt2)
    replace bA0 := bA0.below hbb (by omega)
    replace sA0 := Nat.lt_of_lt_of_le sA0 hw.size
    replace bX0 := hw.blk bX0 (fun hf => by have a1 := hf.1; have a2 := hf.2; omega)
    replace Eg := ints_wr Eg hw (fun b h1 h2 => by have a1 := h1.1; have a2 := h1.2; have a3 := h2.1; have a4 := h2.2; omega)
    replace Rw := ints_keep Rw (hbb.mono (by omega)) (Nat.le_refl _)
    replace Zt2 := Nat.le_trans Zt2 hw.size
    replace Zt3 := Nat.le_trans Zt3 hw.size
    replace Zt4 := Nat.le_trans Zt4 hw.size
    replace Zt5 := Nat.le_trans Zt5 hw.size
    replace EX0 := he
    clear hbb hw he
    obtain ⟨kk0, hkk0, hkk0a, hkk0b⟩ : ∃ z : Int, 1 + (metric_sum x0 : Int) = z ∧ 0 ≤ z ∧ z ≤ 4000000 := ⟨_, rfl, by omega, by omega⟩
    rw [hkk0]
    have Hkk0 := hide hkk0
    clear hkk0
    clear EX0
    have bA0c0 := bA0.cell 0
    have bA0c1 := bA0.cell 1
    have bA0c2 := bA0.cell 2
    have bX0c0 := bX0.cell 0
    have bX0c1 := bX0.cell 1
    have bX0c2 := bX0.cell 2
    have bX0lt := bX0.lt
    go_wp2_with fail
    clear bA0c0 bA0c1 bA0c2 bX0c0 bX0c1 bX0c2 bX0lt
    refine (ints_eq _ _ _ y0 y0 (ints_rd Eg) (ints_keep Rw (Below.refl _ _) Zt2) SY).mono ?_
    rintro e t9 ⟨rfl, hb⟩
    simp only [beq_self_eq_true]
    replace kw := kw.trans (hb.mono kw.size)
    replace bA0 := bA0.all hb
    replace sA0 := Nat.lt_of_lt_of_le sA0 hb.size
    replace bX0 := bX0.all hb
    replace Eg := ints_below Eg hb
    replace Rw := ints_keep Rw (hb.mono Zt2) (Nat.le_refl _)
    replace Zt2 := Nat.le_trans Zt2 hb.size
    replace Zt3 := Nat.le_trans Zt3 hb.size
    replace Zt4 := Nat.le_trans Zt4 hb.size
    replace Zt5 := Nat.le_trans Zt5 hb.size
    clear hb
    have bA0c0 := bA0.cell 0
    have bA0c1 := bA0.cell 1
    have bA0c2 := bA0.cell 2
    have bX0c0 := bX0.cell 0
    have bX0c1 := bX0.cell 1
    have bX0c2 := bX0.cell 2
    have bX0lt := bX0.lt
    go_wp2_with fail
    clear bA0c0 bA0c1 bA0c2 bX0c0 bX0c1 bX0c2 bX0lt
    refine (ints_mark _ _ y0 _ 1 Eg (by omega) (by omega) (by omega)).mono ?_
    rintro e t10 ⟨rfl, he, hw⟩
    have hbb := hw.below (B := t4.heap.size) (fun b hf => hf.1) Zt4
    replace kw := kw.trans (hbb.mono Kt4)
    replace bA0 := bA0.below hbb (by omega)
    replace sA0 := Nat.lt_of_lt_of_le sA0 hw.size
    replace bX0 := hw.blk bX0 (fun hf => by have a1 := hf.1; have a2 := hf.2; omega)
    replace Rw := ints_keep Rw (hbb.mono (by omega)) (Nat.le_refl _)
    replace Zt2 := Nat.le_trans Zt2 hw.size
    replace Zt3 := Nat.le_trans Zt3 hw.size
    replace Zt4 := Nat.le_trans Zt4 hw.size
    replace Zt5 := Nat.le_trans Zt5 hw.size
    replace Eg := he
    clear hbb hw he
    obtain ⟨mm, hmm, hmma, hmmb⟩ : ∃ z : Int, 1 + (ints_sum y0 : Int) = z ∧ 0 ≤ z ∧ z ≤ 4000000 := ⟨_, rfl, by omega, by omega⟩
    rw [hmm]
    have Hmm := hide hmm
    clear hmm
    have bA0c0 := bA0.cell 0
    have bA0c1 := bA0.cell 1
    have bA0c2 := bA0.cell 2
    have bX0c0 := bX0.cell 0
    have bX0c1 := bX0.cell 1
    have bX0c2 := bX0.cell 2
    have bX0lt := bX0.lt
    go_wp2_with fail
    clear bA0c0 bA0c1 bA0c2 bX0c0 bX0c1 bX0c2 bX0lt
    refine (ints_heldc _ _ _ 1 (ints_rd Eg) (ints_shmk SY) (by omega) (by omega)).mono ?_
    rw [ints_heldmk1, Hmm.out]
    rintro e t11 ⟨rfl, hb⟩
    replace kw := kw.trans (hb.mono kw.size)
    replace bA0 := bA0.all hb
    replace sA0 := Nat.lt_of_lt_of_le sA0 hb.size
    replace bX0 := bX0.all hb
    replace Eg := ints_below Eg hb
    replace Rw := ints_keep Rw (hb.mono Zt2) (Nat.le_refl _)
    replace Zt2 := Nat.le_trans Zt2 hb.size
    replace Zt3 := Nat.le_trans Zt3 hb.size
    replace Zt4 := Nat.le_trans Zt4 hb.size
    replace Zt5 := Nat.le_trans Zt5 hb.size
    clear hb
    have bA0c0 := bA0.cell 0
    have bA0c1 := bA0.cell 1
    have bA0c2 := bA0.cell 2
    have bX0c0 := bX0.cell 0
    have bX0c1 := bX0.cell 1
    have bX0c2 := bX0.cell 2
    have bX0lt := bX0.lt
    go_wp2_with fail
    clear bA0c0 bA0c1 bA0c2 bX0c0 bX0c1 bX0c2 bX0lt
    refine (metric_to _ _ x0 (metric_keep HA0 kw kw.size) SH0).mono ?_
    rintro e t12 ⟨u, rfl, he, hb⟩
    obtain ⟨Ah0, nh0, ch0, zh0, Dh0, mh0, eh0, rfl, hf⟩ := metric_form (metric_rd he)
    clear hf
    have hbs := hb.size
    replace kw := kw.trans (hb.mono kw.size)
    replace bA0 := bA0.all hb
    replace sA0 := Nat.lt_of_lt_of_le sA0 hb.size
    replace bX0 := bX0.all hb
    replace Eg := ints_below Eg hb
    replace Rw := ints_keep Rw (hb.mono Zt2) (Nat.le_refl _)
    replace Zt2 := Nat.le_trans Zt2 hb.size
    replace Zt3 := Nat.le_trans Zt3 hb.size
    replace Zt4 := Nat.le_trans Zt4 hb.size
    replace Zt5 := Nat.le_trans Zt5 hb.size
    clear hb
    clear hbs
    have Eh0 := he
    clear he
    have bA0c0 := bA0.cell 0
    have bA0c1 := bA0.cell 1
    have bA0c2 := bA0.cell 2
    have bX0c0 := bX0.cell 0
    have bX0c1 := bX0.cell 1
    have bX0c2 := bX0.cell 2
    have bX0lt := bX0.lt
    go_wp2_with fail
    clear bA0c0 bA0c1 bA0c2 bX0c0 bX0c1 bX0c2 bX0lt
    have hcl := (implIM_c t12 _ x0 (metric_rd Eh0) SH0 (hT.bel kw))
    rw [HY0.out, HY1.out] at hcl
    have HCL := hide hcl
    clear hcl
    refine HCL.out.mono ?_
    rintro e t13 ⟨u, rfl, he, hb⟩
    clear HCL
    obtain ⟨Ah, nh, ch, rfl, hf⟩ := ints_form (ints_rd he)
    clear hf
    replace kw := kw.trans (hb.mono kw.size)
    replace bA0 := bA0.all hb
    replace sA0 := Nat.lt_of_lt_of_le sA0 hb.size
    replace bX0 := bX0.all hb
    replace Eg := ints_below Eg hb
    replace Eh0 := metric_below Eh0 hb
    replace Rw := ints_keep Rw (hb.mono Zt2) (Nat.le_refl _)
    replace Zt2 := Nat.le_trans Zt2 hb.size
    replace Zt3 := Nat.le_trans Zt3 hb.size
    replace Zt4 := Nat.le_trans Zt4 hb.size
    replace Zt5 := Nat.le_trans Zt5 hb.size
    clear hb
    have Eh := he
    clear he
    have bA0c0 := bA0.cell 0
    have bA0c1 := bA0.cell 1
    have bA0c2 := bA0.cell 2
    have bX0c0 := bX0.cell 0
    have bX0c1 := bX0.cell 1
    have bX0c2 := bX0.cell 2
    have bX0lt := bX0.lt
    go_wp2_with fail
    clear bA0c0 bA0c1 bA0c2 bX0c0 bX0c1 bX0c2 bX0lt
    refine (ints_eq _ _ _ y0 y0 (ints_rd Eh) (ints_keep Rw (Below.refl _ _) Zt2) SY).mono ?_
    rintro e t14 ⟨rfl, hb⟩
    simp only [beq_self_eq_true]
    replace kw := kw.trans (hb.mono kw.size)
    replace bA0 := bA0.all hb
    replace sA0 := Nat.lt_of_lt_of_le sA0 hb.size
    replace bX0 := bX0.all hb
    replace Eg := ints_below Eg hb
    replace Eh0 := metric_below Eh0 hb
    replace Eh := ints_below Eh hb
    replace Rw := ints_keep Rw (hb.mono Zt2) (Nat.le_refl _)
    replace Zt2 := Nat.le_trans Zt2 hb.size
    replace Zt3 := Nat.le_trans Zt3 hb.size
    replace Zt4 := Nat.le_trans Zt4 hb.size
    replace Zt5 := Nat.le_trans Zt5 hb.size
    clear hb
    have bA0c0 := bA0.cell 0
    have bA0c1 := bA0.cell 1
    have bA0c2 := bA0.cell 2
    have bX0c0 := bX0.cell 0
    have bX0c1 := bX0.cell 1
    have bX0c2 := bX0.cell 2
    have bX0lt := bX0.lt
    go_wp2_with fail
    clear bA0c0 bA0c1 bA0c2 bX0c0 bX0c1 bX0c2 bX0lt
    refine (ints_heldc _ _ _ 1 (ints_rd Eg) (ints_shmk SY) (by omega) (by omega)).mono ?_
    rw [ints_heldmk1, Hmm.out]
    rintro e t15 ⟨rfl, hb⟩
    replace kw := kw.trans (hb.mono kw.size)
    replace bA0 := bA0.all hb
    replace sA0 := Nat.lt_of_lt_of_le sA0 hb.size
    replace bX0 := bX0.all hb
    replace Eg := ints_below Eg hb
    replace Eh0 := metric_below Eh0 hb
    replace Eh := ints_below Eh hb
    replace Rw := ints_keep Rw (hb.mono Zt2) (Nat.le_refl _)
    replace Zt2 := Nat.le_trans Zt2 hb.size
    replace Zt3 := Nat.le_trans Zt3 hb.size
    replace Zt4 := Nat.le_trans Zt4 hb.size
    replace Zt5 := Nat.le_trans Zt5 hb.size
    clear hb
    go_wp2_with fail
    go_ret
    exact ⟨rfl, kw⟩
theorem specLM_c (w : World) (v : Value) (x : metric_T) (h : metric_R w w.heap.size v x) (hs : metric_Sh x) :
    Calls Tryd.prog 23 #[v] w (MkEC ints_E w (lmX x) (mK x)) := by
  obtain ⟨A, n, c, D, m, e, rfl, h1, h2, h3⟩ := h
  have hs2 : x.1.length + x.2.2.length ≤ 1048576 := hs
  have l1 := h1.len
  have l2 := h2.len
  exact (spec_LgM_any w A n c x.1 x.2.1 D m e x.2.2 h1 h2 (by omega) (by omega)).mono fun _ _ h => mkEC_own h (ifM_all fun _ => fun _ h => lagK_sub _ h)
theorem implLM_c (w : World) (v : Value) (x : metric_T) (h : metric_R w w.heap.size v x) (hs : metric_Sh x) (hT : Tb w) :
    Calls Tryd.prog 24 #[v] w (MkEC ints_E w (lmX x) (mK x)) := by
  obtain ⟨A, n, c, D, m, e, rfl, h1, h2, h3⟩ := h
  have hs2 : x.1.length + x.2.2.length ≤ 1048576 := hs
  have l1 := h1.len
  have l2 := h2.len
  exact (impl_LgM_any w A n c x.1 x.2.1 D m e x.2.2 h1 h2 (by omega) (by omega) hT).mono fun _ _ h => mkEC_own h (ifM_all fun _ => fun _ h => lagK_sub _ h)
set_option maxHeartbeats 8000000 in
set_option maxRecDepth 100000 in
theorem law_LagrangianMasks {w : World} (hT : Tb w) (v0 : Value) (x0 : metric_T) (HA0 : metric_R w w.heap.size v0 x0) (HB0 : metric_Big x0) : Calls Tryd.prog 6 #[v0] w (Re w (.bool true)) := by
  obtain ⟨A0, n0, c0, z0, D0, m0, e0, rfl, hf⟩ := metric_form HA0
  clear hf
  by_cases q0 : (1048576 : Int) - (metric_tot x0 : Int) < 0
  · have HZ0 := hide (fun (W : World) (h : Below w.heap.size w W) => metric_sz W _ x0 1048576 (metric_keep HA0 h h.size) HB0 (by omega) (by omega))
    rw [szI_no q0] at HZ0
    go_enter Tryd.func6, Tryd.ntmps6
    go_wp2_with fail
    obtain ⟨W, hW⟩ : ∃ W, w.alloc (.cells #[.slice A0 n0 c0, .int .i64 z0, .slice D0 m0 e0] 24) = W := ⟨_, rfl⟩
    have kw : Below w.heap.size w W := by rw [← hW]; exact (by repeat (first | assumption | exact Below.refl _ _ | apply below_drewN | apply Below.drew | apply Below.alloc | apply Below.setCell | omega | (focus (simp; done)) | (focus (simp; omega))))
    have bA0 : Blk W (w.heap.size) 24 #[.slice A0 n0 c0, .int .i64 z0, .slice D0 m0 e0] := by rw [← hW]; exact (Blk.new' _ _ _ _ (by simp))
    have sA0 : w.heap.size < W.heap.size := bA0.lt
    rw [hW]
    clear hW
    refine (HZ0.out _ kw).mono ?_
    rintro e ws0 ⟨rfl, hb⟩
    replace kw := kw.trans (hb.mono kw.size)
    replace bA0 := bA0.all hb
    replace sA0 := Nat.lt_of_lt_of_le sA0 hb.size
    clear hb
    have bA0c0 := bA0.cell 0
    have bA0c1 := bA0.cell 1
    have bA0c2 := bA0.cell 2
    go_wp2_with fail
    clear bA0c0 bA0c1 bA0c2
    go_ret
    exact ⟨rfl, kw⟩
  · have HZ0 := hide (fun (W : World) (h : Below w.heap.size w W) => metric_sz W _ x0 1048576 (metric_keep HA0 h h.size) HB0 (by omega) (by omega))
    rw [szI_ok q0] at HZ0
    have HS0 : metric_tot x0 ≤ 1048576 := by omega
    obtain ⟨l1, el1⟩ : ∃ l, (1048576 : Int) - (metric_tot x0 : Int) = l := ⟨_, rfl⟩
    have bl1a : 0 ≤ l1 := by omega
    have bl1b : l1 ≤ 1048576 := by omega
    rw [el1] at HZ0
    clear el1 q0
    have SH0 := metric_sh HS0
    have SL0 := metric_sumle x0
    obtain ⟨y0, hy0⟩ : ∃ y : List Int, lmX x0 = y := ⟨_, rfl⟩
    have HY0 := hide hy0
    clear hy0
    obtain ⟨y1, hy1⟩ : ∃ y : Int, mK x0 = y := ⟨_, rfl⟩
    have HY1 := hide hy1
    clear hy1
    have SY0 : ints_tot y0 ≤ 1048576 := by rw [← HY0.out]; exact ifM_tot (Nat.le_trans (List.length_filter_le _ _) (isoK_len _ _))
    have SY := ints_sh SY0
    have SY2 := ints_sumle y0
    go_enter Tryd.func6, Tryd.ntmps6
    go_wp2_with fail
    obtain ⟨W, hW⟩ : ∃ W, w.alloc (.cells #[.slice A0 n0 c0, .int .i64 z0, .slice D0 m0 e0] 24) = W := ⟨_, rfl⟩
    have kw : Below w.heap.size w W := by rw [← hW]; exact (by repeat (first | assumption | exact Below.refl _ _ | apply below_drewN | apply Below.drew | apply Below.alloc | apply Below.setCell | omega | (focus (simp; done)) | (focus (simp; omega))))
    have bA0 : Blk W (w.heap.size) 24 #[.slice A0 n0 c0, .int .i64 z0, .slice D0 m0 e0] := by rw [← hW]; exact (Blk.new' _ _ _ _ (by simp))
    have sA0 : w.heap.size < W.heap.size := bA0.lt
    rw [hW]
    clear hW
    refine (HZ0.out _ kw).mono ?_
    rintro e ws0 ⟨rfl, hb⟩
    replace kw := kw.trans (hb.mono kw.size)
    replace bA0 := bA0.all hb
    replace sA0 := Nat.lt_of_lt_of_le sA0 hb.size
    clear hb
    have bA0c0 := bA0.cell 0
    have bA0c1 := bA0.cell 1
    have bA0c2 := bA0.cell 2
    go_wp2_with fail
    clear bA0c0 bA0c1 bA0c2
    refine (metric_to _ _ x0 (metric_keep HA0 kw kw.size) SH0).mono ?_
    rintro e t1 ⟨u, rfl, he, hb⟩
    obtain ⟨As0, ns0, cs0, zs0, Ds0, ms0, es0, rfl, hf⟩ := metric_form (metric_rd he)
    clear hf
    have hbs := hb.size
    replace kw := kw.trans (hb.mono kw.size)
    replace bA0 := bA0.all hb
    replace sA0 := Nat.lt_of_lt_of_le sA0 hb.size
    clear hb
    clear hbs
    have Es0 := he
    clear he
    have bA0c0 := bA0.cell 0
    have bA0c1 := bA0.cell 1
    have bA0c2 := bA0.cell 2
    go_wp2_with fail
    clear bA0c0 bA0c1 bA0c2
    have hcl := (specLM_c t1 _ x0 (metric_rd Es0) SH0)
    rw [HY0.out, HY1.out] at hcl
    have HCL := hide hcl
    clear hcl
    refine HCL.out.mono ?_
    rintro e t2 ⟨u, rfl, he, hb⟩
    clear HCL
    obtain ⟨Aw, nw, cw, rfl, hf⟩ := ints_form (ints_rd he)
    clear hf
    replace kw := kw.trans (hb.mono kw.size)
    replace bA0 := bA0.all hb
    replace sA0 := Nat.lt_of_lt_of_le sA0 hb.size
    replace Es0 := metric_below Es0 hb
    clear hb
    clear Es0
    have SA0t2 := sA0
    have Kt2 := kw.size
    have Zt2 := Nat.le_refl t2.heap.size
    have Rw := ints_rd he
    clear he
    have bA0c0 := bA0.cell 0
    have bA0c1 := bA0.cell 1
    have bA0c2 := bA0.cell 2
    go_wp2_with fail
    clear bA0c0 bA0c1 bA0c2
    refine (metric_to _ _ x0 (metric_keep HA0 kw kw.size) SH0).mono ?_
    rintro e t3 ⟨u, rfl, he, hb⟩
    obtain ⟨Ax0, nx0, cx0, zx0, Dx0, mx0, ex0, rfl, hf⟩ := metric_form (metric_rd he)
    clear hf
    have hbs := hb.size
    replace kw := kw.trans (hb.mono kw.size)
    replace bA0 := bA0.all hb
    replace sA0 := Nat.lt_of_lt_of_le sA0 hb.size
    replace Rw := ints_keep Rw (hb.mono Zt2) (Nat.le_refl _)
    replace Zt2 := Nat.le_trans Zt2 hb.size
    clear hb
    clear hbs
    have EX0 := he
    clear he
    have Ot2t3 := Zt2
    have SA0t3 := sA0
    have Kt3 := kw.size
    have Zt3 := Nat.le_refl t3.heap.size
    obtain ⟨X0, hX0⟩ : ∃ X, t3.heap.size = X := ⟨_, rfl⟩
    have sA0l2 : w.heap.size < X0 := by omega
    have bA0c0 := bA0.cell 0
    have bA0c1 := bA0.cell 1
    have bA0c2 := bA0.cell 2
    go_wp2_with fail
    clear bA0c0 bA0c1 bA0c2
    clear sA0l2
    obtain ⟨t4, ht4⟩ : ∃ w5, t3.alloc (.cells #[.slice Ax0 nx0 cx0, .int .i64 zx0, .slice Dx0 mx0 ex0] 28) = w5 := ⟨_, rfl⟩
    have hb : Below t3.heap.size t3 t4 := by rw [← ht4]; exact (Below.refl _ _).alloc (Nat.le_refl _) _
    have bX0 : Blk t4 X0 28 #[.slice Ax0 nx0 cx0, .int .i64 zx0, .slice Dx0 mx0 ex0] := by rw [← ht4]; exact Blk.new' _ _ _ _ hX0
    rw [ht4]
    clear ht4
    replace kw := kw.trans (hb.mono kw.size)
    replace bA0 := bA0.all hb
    replace sA0 := Nat.lt_of_lt_of_le sA0 hb.size
    replace EX0 := metric_below EX0 hb
    replace Rw := ints_keep Rw (hb.mono Zt2) (Nat.le_refl _)
    replace Zt2 := Nat.le_trans Zt2 hb.size
    replace Zt3 := Nat.le_trans Zt3 hb.size
    clear hb
    have gX0 := bX0.lt
    have Ot2t4 := Zt2
    have Ot3t4 := Zt3
    have SA0t4 := sA0
    have GbX0t4 := bX0.lt
    have Kt4 := kw.size
    have Zt4 := Nat.le_refl t4.heap.size
    clear gX0
    have hcl := (implLM_c t4 _ x0 (metric_rd EX0) SH0 (hT.bel kw))
    rw [HY0.out, HY1.out] at hcl
    have HCL := hide hcl
    clear hcl
    refine HCL.out.mono ?_
    rintro e t5 ⟨u, rfl, he, hb⟩
    clear HCL
    obtain ⟨Ag, ng, cg, rfl, hf⟩ := ints_form (ints_rd he)
    clear hf
    replace kw := kw.trans (hb.mono kw.size)
    replace bA0 := bA0.all hb
    replace sA0 := Nat.lt_of_lt_of_le sA0 hb.size
    replace bX0 := bX0.all hb
    replace EX0 := metric_below EX0 hb
    replace Rw := ints_keep Rw (hb.mono Zt2) (Nat.le_refl _)
    replace Zt2 := Nat.le_trans Zt2 hb.size
    replace Zt3 := Nat.le_trans Zt3 hb.size
    replace Zt4 := Nat.le_trans Zt4 hb.size
    clear hb
    have Eg := he
    clear he
    have Ot2t5 := Zt2
    have Ot3t5 := Zt3
    have Ot4t5 := Zt4
    have SA0t5 := sA0
    have GbX0t5 := bX0.lt
    have Kt5 := kw.size
    have Zt5 := Nat.le_refl t5.heap.size
    have bA0c0 := bA0.cell 0
    have bA0c1 := bA0.cell 1
    have bA0c2 := bA0.cell 2
    have bX0c0 := bX0.cell 0
    have bX0c1 := bX0.cell 1
    have bX0c2 := bX0.cell 2
    have bX0lt := bX0.lt
    go_wp2_with fail
    clear bA0c0 bA0c1 bA0c2 bX0c0 bX0c1 bX0c2 bX0lt
    refine (ints_eq _ _ _ y0 y0 (ints_rd Eg) (ints_keep Rw (Below.refl _ _) Zt2) SY).mono ?_
    rintro e t6 ⟨rfl, hb⟩
    simp only [beq_self_eq_true]
    replace kw := kw.trans (hb.mono kw.size)
    replace bA0 := bA0.all hb
    replace sA0 := Nat.lt_of_lt_of_le sA0 hb.size
    replace bX0 := bX0.all hb
    replace EX0 := metric_below EX0 hb
    replace Eg := ints_below Eg hb
    replace Rw := ints_keep Rw (hb.mono Zt2) (Nat.le_refl _)
    replace Zt2 := Nat.le_trans Zt2 hb.size
    replace Zt3 := Nat.le_trans Zt3 hb.size
    replace Zt4 := Nat.le_trans Zt4 hb.size
    replace Zt5 := Nat.le_trans Zt5 hb.size
    clear hb
    have bA0c0 := bA0.cell 0
    have bA0c1 := bA0.cell 1
    have bA0c2 := bA0.cell 2
    have bX0c0 := bX0.cell 0
    have bX0c1 := bX0.cell 1
    have bX0c2 := bX0.cell 2
    have bX0lt := bX0.lt
    go_wp2_with fail
    clear bA0c0 bA0c1 bA0c2 bX0c0 bX0c1 bX0c2 bX0lt
    have HXl := bX0.lt
    have HAl := bA0.lt
    have rA0 := bA0.cell 0
    have rX0 := bX0.cell 0
    have rA1 := bA0.cell 1
    have rX1 := bX0.cell 1
    have rA2 := bA0.cell 2
    have rX2 := bX0.cell 2
    refine wp_region_be [0, 1, 2, 3, 4] 5 t6.heap.size t6 (by kernel_rfl) (by kernel_rfl) (by kernel_rfl) (fun _ _ _ _ _ h => h) (Below.refl _ _) (fun wd hBe => ?_)
    repeat (first | (apply ord_tk rfl (by rfl) (by rfl) (by rfl); (focus (intro wx hSw; have r0 := (hSw.cell (p := ⟨w.heap.size, 0, none⟩) HAl).trans rA0; have r1 := (hSw.cell (p := ⟨w.heap.size, 1, none⟩) HAl).trans rA1; have r2 := (hSw.cell (p := ⟨w.heap.size, 2, none⟩) HAl).trans rA2; have s0 := (hSw.cell (p := ⟨X0, 0, none⟩) HXl).trans rX0; have s1 := (hSw.cell (p := ⟨X0, 1, none⟩) HXl).trans rX1; have s2 := (hSw.cell (p := ⟨X0, 2, none⟩) HXl).trans rX2; go_simp; (try with_reducible rfl))); (try simp only [Act.put, List.setIfInBounds_toArray, List.set_cons_zero, List.set_cons_succ])) | (apply ord_skip rfl (by rfl) (by rfl) (fun _ => hBe); (try simp only [Act.put, List.setIfInBounds_toArray, List.set_cons_zero, List.set_cons_succ])))
    refine ord_do rfl (by rfl) (by rfl) (fun K hK => ?_)
    go_simp
    have kq := kw.trans (hBe.mono kw.size)
    refine (metric_to _ _ x0 (metric_keep HA0 kq kq.size) SH0).mono ?_
    rintro e wq ⟨u, rfl, he, hb⟩
    obtain ⟨Ar0, nr0, cr0, zr0, Dr0, mr0, er0, rfl, hf⟩ := metric_form (metric_rd he)
    clear hf
    replace hBe := hBe.trans (hb.mono hBe.size)
    clear hb kq
    refine hK.out _ _ (fun _ => hBe) ?_
    (try simp only [Act.put, List.setIfInBounds_toArray, List.set_cons_zero, List.set_cons_succ])
    clear hK K
    repeat (first | (apply ord_tk rfl (by rfl) (by rfl) (by rfl); (focus (intro wx hSw; have r0 := (hSw.cell (p := ⟨w.heap.size, 0, none⟩) HAl).trans rA0; have r1 := (hSw.cell (p := ⟨w.heap.size, 1, none⟩) HAl).trans rA1; have r2 := (hSw.cell (p := ⟨w.heap.size, 2, none⟩) HAl).trans rA2; have s0 := (hSw.cell (p := ⟨X0, 0, none⟩) HXl).trans rX0; have s1 := (hSw.cell (p := ⟨X0, 1, none⟩) HXl).trans rX1; have s2 := (hSw.cell (p := ⟨X0, 2, none⟩) HXl).trans rX2; go_simp; (try with_reducible rfl))); (try simp only [Act.put, List.setIfInBounds_toArray, List.set_cons_zero, List.set_cons_succ])) | (apply ord_skip rfl (by rfl) (by rfl) (fun _ => hBe); (try simp only [Act.put, List.setIfInBounds_toArray, List.set_cons_zero, List.set_cons_succ])))
    refine ord_do rfl (by rfl) (by rfl) (fun K hK => ?_)
    go_simp
    refine (metric_eq _ _ _ x0 x0 (metric_rd (metric_below EX0 hBe)) (metric_rd he) SH0).mono ?_
    rintro e wd' ⟨rfl, hwd⟩
    replace hBe := hBe.trans (hwd.mono hBe.size)
    clear hwd
    refine hK.out _ _ (fun _ => hBe) ?_
    (try simp only [Act.put, List.setIfInBounds_toArray, List.set_cons_zero, List.set_cons_succ])
    clear hK K
    simp only [beq_self_eq_true]
    repeat (first | (apply ord_tk rfl (by rfl) (by rfl) (by rfl); (focus (intro wx hSw; have r0 := (hSw.cell (p := ⟨w.heap.size, 0, none⟩) HAl).trans rA0; have r1 := (hSw.cell (p := ⟨w.heap.size, 1, none⟩) HAl).trans rA1; have r2 := (hSw.cell (p := ⟨w.heap.size, 2, none⟩) HAl).trans rA2; have s0 := (hSw.cell (p := ⟨X0, 0, none⟩) HXl).trans rX0; have s1 := (hSw.cell (p := ⟨X0, 1, none⟩) HXl).trans rX1; have s2 := (hSw.cell (p := ⟨X0, 2, none⟩) HXl).trans rX2; go_simp; (try with_reducible rfl))); (try simp only [Act.put, List.setIfInBounds_toArray, List.set_cons_zero, List.set_cons_succ])) | (apply ord_skip rfl (by rfl) (by rfl) (fun _ => hBe); (try simp only [Act.put, List.setIfInBounds_toArray, List.set_cons_zero, List.set_cons_succ])))
    refine ord_nil ?_
    clear he HXl HAl rA0 rX0 rA1 rX1 rA2 rX2
    obtain ⟨t7, hnz⟩ : ∃ x, x = wd' := ⟨_, rfl⟩
    subst hnz
    have hb := hBe
    clear hBe
    replace kw := kw.trans (hb.mono kw.size)
    replace bA0 := bA0.all hb
    replace sA0 := Nat.lt_of_lt_of_le sA0 hb.size
    replace bX0 := bX0.all hb
    replace EX0 := metric_below EX0 hb
    replace Eg := ints_below Eg hb
    replace Rw := ints_keep Rw (hb.mono Zt2) (Nat.le_refl _)
    replace Zt2 := Nat.le_trans Zt2 hb.size
    replace Zt3 := Nat.le_trans Zt3 hb.size
    replace Zt4 := Nat.le_trans Zt4 hb.size
    replace Zt5 := Nat.le_trans Zt5 hb.size
    clear hb
    have bA0c0 := bA0.cell 0
    have bA0c1 := bA0.cell 1
    have bA0c2 := bA0.cell 2
    have bX0c0 := bX0.cell 0
    have bX0c1 := bX0.cell 1
    have bX0c2 := bX0.cell 2
    have bX0lt := bX0.lt
    go_wp2_with fail
    clear bA0c0 bA0c1 bA0c2 bX0c0 bX0c1 bX0c2 bX0lt
    refine (metric_mark _ _ x0 _ 1 EX0 (by omega) (by omega) (by omega)).mono ?_
    rintro e t8 ⟨rfl, he, hw⟩
    have hbb := hw.below (B := t2.heap.size) (fun b hf => hf.1) Zt2
    replace kw := kw.trans (hbb.mono Kt2)
    replace bA0 := bA0.below hbb (by omega)
    replace sA0 := Nat.lt_of_lt_of_le sA0 hw.size
    replace bX0 := hw.blk bX0 (fun hf => by have a1 := hf.1; have a2 := hf.2; omega)
    replace Eg := ints_wr Eg hw (fun b h1 h2 => by have a1 := h1.1; have a2 := h1.2; have a3 := h2.1; have a4 := h2.2; omega)
    replace Rw := ints_keep Rw (hbb.mono (by omega)) (Nat.le_refl _)
    replace Zt2 := Nat.le_trans Zt2 hw.size
    replace Zt3 := Nat.le_trans Zt3 hw.size
    replace Zt4 := Nat.le_trans Zt4 hw.size
    replace Zt5 := Nat.le_trans Zt5 hw.size
    replace EX0 := he
    clear hbb hw he
    obtain ⟨kk0, hkk0, hkk0a, hkk0b⟩ : ∃ z : Int, 1 + (metric_sum x0 : Int) = z ∧ 0 ≤ z ∧ z ≤ 4000000 := ⟨_, rfl, by omega, by omega⟩
    rw [hkk0]
    have Hkk0 := hide hkk0
    clear hkk0
    clear EX0
    have bA0c0 := bA0.cell 0
    have bA0c1 := bA0.cell 1
    have bA0c2 := bA0.cell 2
    have bX0c0 := bX0.cell 0
    have bX0c1 := bX0.cell 1
    have bX0c2 := bX0.cell 2
    have bX0lt := bX0.lt
    go_wp2_with fail
    clear bA0c0 bA0c1 bA0c2 bX0c0 bX0c1 bX0c2 bX0lt
    refine (ints_eq _ _ _ y0 y0 (ints_rd Eg) (ints_keep Rw (Below.refl _ _) Zt2) SY).mono ?_
    rintro e t9 ⟨rfl, hb⟩
    simp only [beq_self_eq_true]
    replace kw := kw.trans (hb.mono kw.size)
    replace bA0 := bA0.all hb
    replace sA0 := Nat.lt_of_lt_of_le sA0 hb.size
    replace bX0 := bX0.all hb
    replace Eg := ints_below Eg hb
    replace Rw := ints_keep Rw (hb.mono Zt2) (Nat.le_refl _)
    replace Zt2 := Nat.le_trans Zt2 hb.size
    replace Zt3 := Nat.le_trans Zt3 hb.size
    replace Zt4 := Nat.le_trans Zt4 hb.size
    replace Zt5 := Nat.le_trans Zt5 hb.size
    clear hb
    have bA0c0 := bA0.cell 0
    have bA0c1 := bA0.cell 1
    have bA0c2 := bA0.cell 2
    have bX0c0 := bX0.cell 0
    have bX0c1 := bX0.cell 1
    have bX0c2 := bX0.cell 2
    have bX0lt := bX0.lt
    go_wp2_with fail
    clear bA0c0 bA0c1 bA0c2 bX0c0 bX0c1 bX0c2 bX0lt
    refine (ints_mark _ _ y0 _ 1 Eg (by omega) (by omega) (by omega)).mono ?_
    rintro e t10 ⟨rfl, he, hw⟩
    have hbb := hw.below (B := t4.heap.size) (fun b hf => hf.1) Zt4
    replace kw := kw.trans (hbb.mono Kt4)
    replace bA0 := bA0.below hbb (by omega)
    replace sA0 := Nat.lt_of_lt_of_le sA0 hw.size
    replace bX0 := hw.blk bX0 (fun hf => by have a1 := hf.1; have a2 := hf.2; omega)
    replace Rw := ints_keep Rw (hbb.mono (by omega)) (Nat.le_refl _)
    replace Zt2 := Nat.le_trans Zt2 hw.size
    replace Zt3 := Nat.le_trans Zt3 hw.size
    replace Zt4 := Nat.le_trans Zt4 hw.size
    replace Zt5 := Nat.le_trans Zt5 hw.size
    replace Eg := he
    clear hbb hw he
    obtain ⟨mm, hmm, hmma, hmmb⟩ : ∃ z : Int, 1 + (ints_sum y0 : Int) = z ∧ 0 ≤ z ∧ z ≤ 4000000 := ⟨_, rfl, by omega, by omega⟩
    rw [hmm]
    have Hmm := hide hmm
    clear hmm
    have bA0c0 := bA0.cell 0
    have bA0c1 := bA0.cell 1
    have bA0c2 := bA0.cell 2
    have bX0c0 := bX0.cell 0
    have bX0c1 := bX0.cell 1
    have bX0c2 := bX0.cell 2
    have bX0lt := bX0.lt
    go_wp2_with fail
    clear bA0c0 bA0c1 bA0c2 bX0c0 bX0c1 bX0c2 bX0lt
    refine (ints_heldc _ _ _ 1 (ints_rd Eg) (ints_shmk SY) (by omega) (by omega)).mono ?_
    rw [ints_heldmk1, Hmm.out]
    rintro e t11 ⟨rfl, hb⟩
    replace kw := kw.trans (hb.mono kw.size)
    replace bA0 := bA0.all hb
    replace sA0 := Nat.lt_of_lt_of_le sA0 hb.size
    replace bX0 := bX0.all hb
    replace Eg := ints_below Eg hb
    replace Rw := ints_keep Rw (hb.mono Zt2) (Nat.le_refl _)
    replace Zt2 := Nat.le_trans Zt2 hb.size
    replace Zt3 := Nat.le_trans Zt3 hb.size
    replace Zt4 := Nat.le_trans Zt4 hb.size
    replace Zt5 := Nat.le_trans Zt5 hb.size
    clear hb
    have bA0c0 := bA0.cell 0
    have bA0c1 := bA0.cell 1
    have bA0c2 := bA0.cell 2
    have bX0c0 := bX0.cell 0
    have bX0c1 := bX0.cell 1
    have bX0c2 := bX0.cell 2
    have bX0lt := bX0.lt
    go_wp2_with fail
    clear bA0c0 bA0c1 bA0c2 bX0c0 bX0c1 bX0c2 bX0lt
    refine (metric_to _ _ x0 (metric_keep HA0 kw kw.size) SH0).mono ?_
    rintro e t12 ⟨u, rfl, he, hb⟩
    obtain ⟨Ah0, nh0, ch0, zh0, Dh0, mh0, eh0, rfl, hf⟩ := metric_form (metric_rd he)
    clear hf
    have hbs := hb.size
    replace kw := kw.trans (hb.mono kw.size)
    replace bA0 := bA0.all hb
    replace sA0 := Nat.lt_of_lt_of_le sA0 hb.size
    replace bX0 := bX0.all hb
    replace Eg := ints_below Eg hb
    replace Rw := ints_keep Rw (hb.mono Zt2) (Nat.le_refl _)
    replace Zt2 := Nat.le_trans Zt2 hb.size
    replace Zt3 := Nat.le_trans Zt3 hb.size
    replace Zt4 := Nat.le_trans Zt4 hb.size
    replace Zt5 := Nat.le_trans Zt5 hb.size
    clear hb
    clear hbs
    have Eh0 := he
    clear he
    have bA0c0 := bA0.cell 0
    have bA0c1 := bA0.cell 1
    have bA0c2 := bA0.cell 2
    have bX0c0 := bX0.cell 0
    have bX0c1 := bX0.cell 1
    have bX0c2 := bX0.cell 2
    have bX0lt := bX0.lt
    go_wp2_with fail
    clear bA0c0 bA0c1 bA0c2 bX0c0 bX0c1 bX0c2 bX0lt
    have hcl := (implLM_c t12 _ x0 (metric_rd Eh0) SH0 (hT.bel kw))
    rw [HY0.out, HY1.out] at hcl
    have HCL := hide hcl
    clear hcl
    refine HCL.out.mono ?_
    rintro e t13 ⟨u, rfl, he, hb⟩
    clear HCL
    obtain ⟨Ah, nh, ch, rfl, hf⟩ := ints_form (ints_rd he)
    clear hf
    replace kw := kw.trans (hb.mono kw.size)
    replace bA0 := bA0.all hb
    replace sA0 := Nat.lt_of_lt_of_le sA0 hb.size
    replace bX0 := bX0.all hb
    replace Eg := ints_below Eg hb
    replace Eh0 := metric_below Eh0 hb
    replace Rw := ints_keep Rw (hb.mono Zt2) (Nat.le_refl _)
    replace Zt2 := Nat.le_trans Zt2 hb.size
    replace Zt3 := Nat.le_trans Zt3 hb.size
    replace Zt4 := Nat.le_trans Zt4 hb.size
    replace Zt5 := Nat.le_trans Zt5 hb.size
    clear hb
    have Eh := he
    clear he
    have bA0c0 := bA0.cell 0
    have bA0c1 := bA0.cell 1
    have bA0c2 := bA0.cell 2
    have bX0c0 := bX0.cell 0
    have bX0c1 := bX0.cell 1
    have bX0c2 := bX0.cell 2
    have bX0lt := bX0.lt
    go_wp2_with fail
    clear bA0c0 bA0c1 bA0c2 bX0c0 bX0c1 bX0c2 bX0lt
    refine (ints_eq _ _ _ y0 y0 (ints_rd Eh) (ints_keep Rw (Below.refl _ _) Zt2) SY).mono ?_
    rintro e t14 ⟨rfl, hb⟩
    simp only [beq_self_eq_true]
    replace kw := kw.trans (hb.mono kw.size)
    replace bA0 := bA0.all hb
    replace sA0 := Nat.lt_of_lt_of_le sA0 hb.size
    replace bX0 := bX0.all hb
    replace Eg := ints_below Eg hb
    replace Eh0 := metric_below Eh0 hb
    replace Eh := ints_below Eh hb
    replace Rw := ints_keep Rw (hb.mono Zt2) (Nat.le_refl _)
    replace Zt2 := Nat.le_trans Zt2 hb.size
    replace Zt3 := Nat.le_trans Zt3 hb.size
    replace Zt4 := Nat.le_trans Zt4 hb.size
    replace Zt5 := Nat.le_trans Zt5 hb.size
    clear hb
    have bA0c0 := bA0.cell 0
    have bA0c1 := bA0.cell 1
    have bA0c2 := bA0.cell 2
    have bX0c0 := bX0.cell 0
    have bX0c1 := bX0.cell 1
    have bX0c2 := bX0.cell 2
    have bX0lt := bX0.lt
    go_wp2_with fail
    clear bA0c0 bA0c1 bA0c2 bX0c0 bX0c1 bX0c2 bX0lt
    refine (ints_heldc _ _ _ 1 (ints_rd Eg) (ints_shmk SY) (by omega) (by omega)).mono ?_
    rw [ints_heldmk1, Hmm.out]
    rintro e t15 ⟨rfl, hb⟩
    replace kw := kw.trans (hb.mono kw.size)
    replace bA0 := bA0.all hb
    replace sA0 := Nat.lt_of_lt_of_le sA0 hb.size
    replace bX0 := bX0.all hb
    replace Eg := ints_below Eg hb
    replace Eh0 := metric_below Eh0 hb
    replace Eh := ints_below Eh hb
    replace Rw := ints_keep Rw (hb.mono Zt2) (Nat.le_refl _)
    replace Zt2 := Nat.le_trans Zt2 hb.size
    replace Zt3 := Nat.le_trans Zt3 hb.size
    replace Zt4 := Nat.le_trans Zt4 hb.size
    replace Zt5 := Nat.le_trans Zt5 hb.size
    clear hb
    go_wp2_with fail
    go_ret
    exact ⟨rfl, kw⟩
end Go.Proofs.YtlekbkjkkoefnaaDoor
