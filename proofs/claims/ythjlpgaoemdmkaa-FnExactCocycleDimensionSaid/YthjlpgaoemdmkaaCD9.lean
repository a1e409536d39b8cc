
/- The walk of the law of CocycleDimension. -/
import Derived.Test.YthjlpgaoemdmkaaCD6
import Derived.Test.YthjlpgaoemdmkaaCD8
import Derived.Test.YthjlpgaoemdmkaaOpN
namespace Go.Proofs.Ythjlpgaoemdmkaa
open Go Go.RowKit Grp
set_option linter.unusedSimpArgs false
set_option linter.unusedVariables false
set_option maxRecDepth 100000
set_option maxHeartbeats 8000000 in
set_option maxRecDepth 100000 in
theorem law_CocycleDimension {w : World} (v0 : Value) (x0 : ints_T) (HA0 : ints_R w w.heap.size v0 x0) (HB0 : ints_Big x0) (a1 : Int) (wa1 : i64ok a1) : Calls Try.prog 7 #[v0, .int .i64 a1] w (Re w (.bool true)) := by
  obtain ⟨A0, n0, c0, rfl, hf⟩ := ints_form HA0
  have hL0 := hf.len
  clear hf
  by_cases hq0 : (1048576 : Int) < (n0 : Int)
  · skip
    go_enter Try.func7, Try.ntmps7
    go_wp2_with fail
    have kw := Below.refl w.heap.size w
    go_ret
    exact ⟨rfl, kw⟩
  · skip
    have HS0 : ints_tot x0 ≤ 1048576 := by unfold ints_tot; omega
    have SH0 := ints_sh HS0
    have SL0 := ints_sumle x0
    obtain ⟨y0, hy0⟩ : ∃ y : Int, cdR x0 a1 = y := ⟨_, rfl⟩
    have HY0 := hide hy0
    clear hy0
    obtain ⟨y1, hy1⟩ : ∃ y : Int, spK x0 a1 = y := ⟨_, rfl⟩
    have HY1 := hide hy1
    clear hy1
    go_enter Try.func7, Try.ntmps7
    go_wp2_with fail
    have kw := Below.refl w.heap.size w
    refine (ints_to _ _ x0 (ints_keep HA0 kw kw.size) SH0).mono ?_
    rintro e t1 ⟨u, rfl, he, hb⟩
    obtain ⟨As0, ns0, cs0, rfl, hf⟩ := ints_form (ints_rd he)
    clear hf
    have hbs := hb.size
    replace kw := kw.trans (hb.mono kw.size)
    clear hb
    clear hbs
    have Es0 := he
    clear he
    go_wp2_with fail
    have hcl := (specCD_c t1 _ x0 (ints_rd Es0) SH0 a1 wa1)
    rw [HY0.out, HY1.out] at hcl
    have HCL := hide hcl
    clear hcl
    refine HCL.out.mono ?_
    rintro e t2 ⟨rfl, hb⟩
    clear HCL
    replace kw := kw.trans (hb.mono kw.size)
    replace Es0 := ints_below Es0 hb
    clear hb
    clear Es0
    have Kt2 := kw.size
    have Zt2 := Nat.le_refl t2.heap.size
    go_wp2_with fail
    refine (ints_to _ _ x0 (ints_keep HA0 kw kw.size) SH0).mono ?_
    rintro e t3 ⟨u, rfl, he, hb⟩
    obtain ⟨Ax0, nx0, cx0, rfl, hf⟩ := ints_form (ints_rd he)
    clear hf
    have hbs := hb.size
    replace kw := kw.trans (hb.mono kw.size)
    replace Zt2 := Nat.le_trans Zt2 hb.size
    clear hb
    clear hbs
    have EX0 := he
    clear he
    have Ot2t3 := Zt2
    have Kt3 := kw.size
    have Zt3 := Nat.le_refl t3.heap.size
    go_wp2_with fail
    have hcl := (implCD_c t3 _ x0 (ints_rd EX0) SH0 a1 wa1)
    rw [HY0.out, HY1.out] at hcl
    have HCL := hide hcl
    clear hcl
    refine HCL.out.mono ?_
    rintro e t4 ⟨rfl, hb⟩
    clear HCL
    replace kw := kw.trans (hb.mono kw.size)
    replace EX0 := ints_below EX0 hb
    replace Zt2 := Nat.le_trans Zt2 hb.size
    replace Zt3 := Nat.le_trans Zt3 hb.size
    clear hb
    have Ot2t4 := Zt2
    have Ot3t4 := Zt3
    have Kt4 := kw.size
    have Zt4 := Nat.le_refl t4.heap.size
    go_wp2_with fail
    refine (ints_to _ _ x0 (ints_keep HA0 kw kw.size) SH0).mono ?_
    rintro e t5 ⟨u, rfl, he, hb⟩
    obtain ⟨Ar0, nr0, cr0, rfl, hf⟩ := ints_form (ints_rd he)
    clear hf
    have hbs := hb.size
    replace kw := kw.trans (hb.mono kw.size)
    replace EX0 := ints_below EX0 hb
    replace Zt2 := Nat.le_trans Zt2 hb.size
    replace Zt3 := Nat.le_trans Zt3 hb.size
    replace Zt4 := Nat.le_trans Zt4 hb.size
    clear hb
    clear hbs
    have Er0 := he
    clear he
    go_wp2_with fail
    refine (ints_eq _ _ _ x0 x0 (ints_rd EX0) (ints_rd Er0) SH0).mono ?_
    rintro e t6 ⟨rfl, hb⟩
    simp only [beq_self_eq_true]
    replace kw := kw.trans (hb.mono kw.size)
    replace EX0 := ints_below EX0 hb
    replace Er0 := ints_below Er0 hb
    replace Zt2 := Nat.le_trans Zt2 hb.size
    replace Zt3 := Nat.le_trans Zt3 hb.size
    replace Zt4 := Nat.le_trans Zt4 hb.size
    clear hb
    clear Er0
    go_wp2_with fail
    go_ret
    exact ⟨rfl, kw⟩
end Go.Proofs.Ythjlpgaoemdmkaa
