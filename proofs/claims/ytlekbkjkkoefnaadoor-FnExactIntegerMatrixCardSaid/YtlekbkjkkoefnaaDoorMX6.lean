
/- The law of IntegerMatrix. -/
import Derived.Test.YtlekbkjkkoefnaaDoorMX5
namespace Go.Proofs.YtlekbkjkkoefnaaDoor
open Go Go.RowKit
set_option linter.unusedSimpArgs false
set_option linter.unusedVariables false
theorem imR_sh (s : ByteArray) : rows_tot (imR s) ≤ 1048576 := by
  unfold imR
  split
  · cases h : wordM s s.size with
    | none => decide
    | some m =>
      obtain ⟨a, b, c, d, rfl, -⟩ := wordM_two h
      simp [rows_tot, tot2, totL, mt2]
  · decide
theorem spec_IM_any (w : World) (s : ByteArray) (hs : s.size ≤ 1048576) : Calls Tryd.prog 29 #[.string s] w (MkEC rows_E w (imR s) (imK s)) := spec_IM2_any w s hs
theorem impl_IM_any (w : World) (s : ByteArray) (hs : s.size ≤ 1048576) : Calls Tryd.prog 30 #[.string s] w (MkEC rows_E w (imR s) (imK s)) := impl_IM2_any w s hs
set_option maxHeartbeats 8000000 in
set_option maxRecDepth 100000 in
theorem law_IntegerMatrix {w : World} (s0 : ByteArray) (ws0 : s0.size ≤ maxLen) : Calls Tryd.prog 9 #[.string s0] w (Re w (.bool true)) := by
  by_cases hq0 : (1048576 : Int) < ((s0.size : Nat) : Int)
  · skip
    go_enter Tryd.func9, Tryd.ntmps9
    go_wp2_with fail
    have kw := Below.refl w.heap.size w
    go_ret
    exact ⟨rfl, kw⟩
  · skip
    have hs0 : s0.size ≤ 1048576 := by omega
    obtain ⟨y0, hy0⟩ : ∃ y : rows_T, imR s0 = y := ⟨_, rfl⟩
    have HY0 := hide hy0
    clear hy0
    obtain ⟨y1, hy1⟩ : ∃ y : Int, imK s0 = y := ⟨_, rfl⟩
    have HY1 := hide hy1
    clear hy1
    have SY0 : rows_tot y0 ≤ 1048576 := by rw [← HY0.out]; exact imR_sh s0
    have SY := rows_sh SY0
    have SY2 := rows_sumle y0
    go_enter Tryd.func9, Tryd.ntmps9
    go_wp2_with fail
    have kw := Below.refl w.heap.size w
    have hcl := (spec_IM_any w s0 hs0)
    rw [HY0.out, HY1.out] at hcl
    have HCL := hide hcl
    clear hcl
    refine HCL.out.mono ?_
    rintro e t1 ⟨u, rfl, he, hb⟩
    clear HCL
    obtain ⟨Aw, nw, cw, rfl, hf⟩ := rows_form (rows_rd he)
    clear hf
    replace kw := kw.trans (hb.mono kw.size)
    clear hb
    have Kt1 := kw.size
    have Zt1 := Nat.le_refl t1.heap.size
    have Rw := rows_rd he
    clear he
    go_wp2_with fail
    have hcl := (impl_IM_any t1 s0 hs0)
    rw [HY0.out, HY1.out] at hcl
    have HCL := hide hcl
    clear hcl
    refine HCL.out.mono ?_
    rintro e t2 ⟨u, rfl, he, hb⟩
    clear HCL
    obtain ⟨Ag, ng, cg, rfl, hf⟩ := rows_form (rows_rd he)
    clear hf
    replace kw := kw.trans (hb.mono kw.size)
    replace Rw := rows_keep Rw (hb.mono Zt1) (Nat.le_refl _)
    replace Zt1 := Nat.le_trans Zt1 hb.size
    clear hb
    have Eg := he
    clear he
    have Ot1t2 := Zt1
    have Kt2 := kw.size
    have Zt2 := Nat.le_refl t2.heap.size
    go_wp2_with fail
    refine (rows_eq _ _ _ y0 y0 (rows_rd Eg) (rows_keep Rw (Below.refl _ _) Zt1) SY).mono ?_
    rintro e t3 ⟨rfl, hb⟩
    simp only [beq_self_eq_true]
    replace kw := kw.trans (hb.mono kw.size)
    replace Eg := rows_below Eg hb
    replace Rw := rows_keep Rw (hb.mono Zt1) (Nat.le_refl _)
    replace Zt1 := Nat.le_trans Zt1 hb.size
    replace Zt2 := Nat.le_trans Zt2 hb.size
    clear hb
    go_wp2_with fail
    refine (rows_mark _ _ y0 _ 1 Eg (by omega) (by omega) (by omega)).mono ?_
    rintro e t4 ⟨rfl, he, hw⟩
    have hbb := hw.below (B := t1.heap.size) (fun b hf => hf.1) Zt1
    replace kw := kw.trans (hbb.mono Kt1)
    replace Rw := rows_keep Rw (hbb.mono (by omega)) (Nat.le_refl _)
    replace Zt1 := Nat.le_trans Zt1 hw.size
    replace Zt2 := Nat.le_trans Zt2 hw.size
    replace Eg := he
    clear hbb hw he
    obtain ⟨mm, hmm, hmma, hmmb⟩ : ∃ z : Int, 1 + (rows_sum y0 : Int) = z ∧ 0 ≤ z ∧ z ≤ 4000000 := ⟨_, rfl, by omega, by omega⟩
    rw [hmm]
    have Hmm := hide hmm
    clear hmm
    go_wp2_with fail
    refine (rows_heldc _ _ _ 1 (rows_rd Eg) (rows_shmk SY) (by omega) (by omega)).mono ?_
    rw [rows_heldmk1, Hmm.out]
    rintro e t5 ⟨rfl, hb⟩
    replace kw := kw.trans (hb.mono kw.size)
    replace Eg := rows_below Eg hb
    replace Rw := rows_keep Rw (hb.mono Zt1) (Nat.le_refl _)
    replace Zt1 := Nat.le_trans Zt1 hb.size
    replace Zt2 := Nat.le_trans Zt2 hb.size
    clear hb
    go_wp2_with fail
    have hcl := (impl_IM_any t5 s0 hs0)
    rw [HY0.out, HY1.out] at hcl
    have HCL := hide hcl
    clear hcl
    refine HCL.out.mono ?_
    rintro e t6 ⟨u, rfl, he, hb⟩
    clear HCL
    obtain ⟨Ah, nh, ch, rfl, hf⟩ := rows_form (rows_rd he)
    clear hf
    replace kw := kw.trans (hb.mono kw.size)
    replace Eg := rows_below Eg hb
    replace Rw := rows_keep Rw (hb.mono Zt1) (Nat.le_refl _)
    replace Zt1 := Nat.le_trans Zt1 hb.size
    replace Zt2 := Nat.le_trans Zt2 hb.size
    clear hb
    have Eh := he
    clear he
    go_wp2_with fail
    refine (rows_eq _ _ _ y0 y0 (rows_rd Eh) (rows_keep Rw (Below.refl _ _) Zt1) SY).mono ?_
    rintro e t7 ⟨rfl, hb⟩
    simp only [beq_self_eq_true]
    replace kw := kw.trans (hb.mono kw.size)
    replace Eg := rows_below Eg hb
    replace Eh := rows_below Eh hb
    replace Rw := rows_keep Rw (hb.mono Zt1) (Nat.le_refl _)
    replace Zt1 := Nat.le_trans Zt1 hb.size
    replace Zt2 := Nat.le_trans Zt2 hb.size
    clear hb
    go_wp2_with fail
    refine (rows_heldc _ _ _ 1 (rows_rd Eg) (rows_shmk SY) (by omega) (by omega)).mono ?_
    rw [rows_heldmk1, Hmm.out]
    rintro e t8 ⟨rfl, hb⟩
    replace kw := kw.trans (hb.mono kw.size)
    replace Eg := rows_below Eg hb
    replace Eh := rows_below Eh hb
    replace Rw := rows_keep Rw (hb.mono Zt1) (Nat.le_refl _)
    replace Zt1 := Nat.le_trans Zt1 hb.size
    replace Zt2 := Nat.le_trans Zt2 hb.size
    clear hb
    go_wp2_with fail
    go_ret
    exact ⟨rfl, kw⟩
end Go.Proofs.YtlekbkjkkoefnaaDoor
