
/- The walk of the law FnGaussSums. -/
import Derived.Test.YtnoemhmmaicakaaDva
import Derived.Test.YtnoemhmmaicakaaD5a
import Derived.Test.YtnoemhmmaicakaaGz
import Derived.Test.YtnoemhmmaicakaaPe
import Derived.Test.YtnoemhmmaicakaaR2
import Derived.Test.YtnoemhmmaicakaaMa
import Derived.Test.YtnoemhmmaicakaaX3a
import Derived.WalkLawsBesides
import Derived.Deep.DeepCutAuto
namespace Go.Proofs.Ytnoemhmmaicakaa
open Go Go.RowKit Grp
set_option linter.unusedSimpArgs false
set_option linter.unusedVariables false

/-- A metric lies in block M; what lay before the law lies as it lay. -/
structure GM (w : World) (M : Nat) (A1 : Option Addr) (c1 : Nat) (A2 : Option Addr) (c2 : Nat) (os : List Int) (q : Int) (vs : List Int) (wx : World) : Prop where
  b : Blk wx M 26 #[.slice A1 os.length c1, .int .i64 q, .slice A2 vs.length c2]
  s1 : Sl wx wx.heap.size A1 os.length c1 os
  s2 : Sl wx wx.heap.size A2 vs.length c2 vs
  kk : Below w.heap.size w wx
section
variable {w wx wy : World} {M : Nat} {A1 A2 : Option Addr} {c1 c2 : Nat} {os vs : List Int} {q : Int}
theorem GM.all (h : GM w M A1 c1 A2 c2 os q vs wx) (hb : Below wx.heap.size wx wy) : GM w M A1 c1 A2 c2 os q vs wy :=
  ⟨h.b.all hb, (h.s1.below hb).more hb.size, (h.s2.below hb).more hb.size, h.kk.trans (hb.mono h.kk.size)⟩
theorem GM.new {A1 A2 : Option Addr} (s1 : Sl wx wx.heap.size A1 os.length c1 os) (s2 : Sl wx wx.heap.size A2 vs.length c2 vs) (kk : Below w.heap.size w wx) :
    GM w wx.heap.size A1 c1 A2 c2 os q vs (wx.alloc (.cells #[.slice A1 os.length c1, .int .i64 q, .slice A2 vs.length c2] 26)) :=
  have hb : Below wx.heap.size wx (wx.alloc (.cells #[.slice A1 os.length c1, .int .i64 q, .slice A2 vs.length c2] 26)) := (Below.refl _ _).alloc (Nat.le_refl _) _
  ⟨Blk.new _ _ _, (s1.below hb).more hb.size, (s2.below hb).more hb.size, kk.trans (hb.mono kk.size)⟩
end
theorem radL_mem {os vs : List Int} {D : Int} {k : Nat} {x : Int} (h : x ∈ radL os D vs k) : 0 ≤ x ∧ x < k := by
  unfold radL at h
  obtain ⟨y, hy, rfl⟩ := List.mem_map.1 h
  have := List.mem_range.1 (List.mem_filter.1 hy).1
  omega
theorem radM_rng (os : List Int) (D : Int) (vs : List Int) (hv : vs.length ≤ 64) : ∀ x ∈ radM os D vs, i64ok x := by
  intro x hx
  unfold radM at hx
  split at hx
  · have := radL_mem hx
    exact ⟨by omega, by omega⟩
  · cases hx
theorem radM_len (os : List Int) (D : Int) (vs : List Int) (hv : vs.length ≤ 64) : (radM os D vs).length ≤ 64 := by
  unfold radM
  split
  · unfold radL
    rw [List.length_map]
    have := List.length_filter_le (fun x => radB os D vs x) (List.range vs.length)
    rw [List.length_range] at this
    omega
  · simp
set_option maxRecDepth 100000 in
set_option maxHeartbeats 8000000 in
theorem law_GaussSums {w : World} (A : Option Addr) (n c : Nat) (bs : List Int) (h : BlIn w A n c bs) : Calls Try.prog 4 #[.slice A n c] w (Re w (.bool true)) := by
  by_cases hn0 : 4096 < n
  · have hd : decide (4096 < (n : Int)) = true := decide_eq_true (by omega)
    have Hd := hide hd
    clear hd
    go_enter Try.func4, Try.ntmps4
    go_wp2_with fail
    refine (big_any _ A n c).mono ?_
    rintro e w1 ⟨rfl, m, rfl⟩
    rw [Hd.out]
    go_wp2
    go_ret
    exact ⟨rfl, (by repeat (first | assumption | exact Below.refl _ _ | apply below_drewN | apply Below.drew | apply Below.alloc | apply Below.setCell | omega | (focus (simp; done)) | (focus (simp; omega))))⟩
  · have hn : n ≤ 4096 := by omega
    have hd : decide (4096 < (n : Int)) = false := decide_eq_false (by omega)
    have Hd := hide hd
    clear hd
    have hS := h.sl
    go_enter Try.func4, Try.ntmps4
    go_wp2_with fail
    refine (big_any _ A n c).mono ?_
    rintro e w1 ⟨rfl, m, rfl⟩
    rw [Hd.out]
    have kk : Below w.heap.size w (w.drewN m) := below_drewN (Below.refl _ _) _
    obtain ⟨w1, hw1⟩ : ∃ w1, w.drewN m = w1 := ⟨_, rfl⟩
    rw [hw1] at kk ⊢
    clear hw1
    have hsz := kk.size
    have hb1 : SlB w1 w1.heap.size A n c bs := ⟨hS.len, hS.cap, hS.rng, fun h0 => by
      obtain ⟨b, off, e, hlt, hc⟩ := hS.at_ h0
      exact ⟨b, off, e, by omega, fun k hk => (kk.cell (p := ⟨b, off + k, none⟩) hlt).trans (hc k hk)⟩⟩
    go_wp2_with fail
    refine (drawGauss_any w1 A n c bs hb1 hn).mono ?_
    rintro e w2 ⟨A1, c1, A2, c2, os, q, vs, k, rfl, hG, hk, s1, s2, hb2⟩
    have kk2 := kk.trans (hb2.mono hsz)
    have hM := GM.new (q := q) s1 s2 kk2
    have lo := hG.o
    have lv := hG.v
    obtain ⟨w3, hw3⟩ : ∃ w3, w2.alloc (.cells #[.slice A1 os.length c1, .int .i64 q, .slice A2 vs.length c2] 26) = w3 := ⟨_, rfl⟩
    rw [hw3] at hM
    have hRr := hide (radM_rng os q vs lv)
    have hRl := hide (radM_len os q vs lv)
    have hMb := hM.b
    have x0 := hMb.cell 0
    have x1 := hMb.cell 1
    have x2 := hMb.cell 2
    go_wp2_with fail
    clear hMb x0 x1 x2
    refine (impl_Gauss_any _ _ _ _ os q _ _ _ vs k hM.s1 hM.s2 (by omega) (by omega)).mono ?_
    rintro e wn ⟨rfl, hbn⟩
    (try replace hM := hM.all hbn)
    clear hw3 hbn
    have hMb := hM.b
    have x0 := hMb.cell 0
    have x1 := hMb.cell 1
    have x2 := hMb.cell 2
    go_wp2_with fail
    clear hMb x0 x1 x2
    refine (spec_Gauss_any _ _ _ _ os q _ _ _ vs k hM.s1 hM.s2 (by omega) (by omega)).mono ?_
    rintro e wn ⟨rfl, hbn⟩
    (try replace hM := hM.all hbn)
    clear hbn
    have hMb := hM.b
    have x0 := hMb.cell 0
    have x1 := hMb.cell 1
    have x2 := hMb.cell 2
    go_wp2_with fail
    clear hMb x0 x1 x2
    refine (impl_Rad_any _ _ _ _ os q _ _ _ vs hM.s1 hM.s2 (by omega) (by omega)).mono ?_
    rintro e wn ⟨v1, rfl, o1, hbn⟩
    (try replace hM := hM.all hbn)
    obtain ⟨R1, d1, rfl, sR⟩ := o1.sl hRr.out
    clear o1 hbn
    have hMb := hM.b
    have x0 := hMb.cell 0
    have x1 := hMb.cell 1
    have x2 := hMb.cell 2
    go_wp2_with fail
    clear hMb x0 x1 x2
    refine (spec_Rad_any _ _ _ _ os q _ _ _ vs hM.s1 hM.s2 (by omega) (by omega)).mono ?_
    rintro e wn ⟨v2, rfl, o2, hbn⟩
    (try replace hM := hM.all hbn)
    replace sR := (sR.below hbn).more hbn.size
    obtain ⟨R2, d2, rfl, sT⟩ := o2.sl hRr.out
    clear o2 hbn
    have hMb := hM.b
    have x0 := hMb.cell 0
    have x1 := hMb.cell 1
    have x2 := hMb.cell 2
    go_wp2_with fail
    clear hMb x0 x1 x2
    refine (impl_Ndg_any _ _ _ _ os q _ _ _ vs hM.s1 hM.s2 (by omega) (by omega)).mono ?_
    rintro e wn ⟨rfl, hbn⟩
    (try replace hM := hM.all hbn)
    replace sR := (sR.below hbn).more hbn.size
    replace sT := (sT.below hbn).more hbn.size
    clear hbn
    have lr : (radM os q vs).length ≤ 64 := hRl.out
    obtain ⟨cM, hcM⟩ : ∃ cM, codeM os q vs = cM := ⟨_, rfl⟩
    obtain ⟨rs, hrs⟩ : ∃ rs, radM os q vs = rs := ⟨_, rfl⟩
    obtain ⟨cG, hcG⟩ : ∃ cG, codeG os q vs k = cG := ⟨_, rfl⟩
    obtain ⟨gG, hgG⟩ : ∃ gG, gaG os q vs k = gG := ⟨_, rfl⟩
    obtain ⟨bN, hbN⟩ : ∃ bN, ndgM os q vs = bN := ⟨_, rfl⟩
    rw [hcM, hrs, hcG, hgG, hbN]
    rw [hrs] at sR sT lr
    have HcM := hide hcM
    have Hrs := hide hrs
    have HbN := hide hbN
    clear hcM hrs hcG hgG hbN
    go_wp2_with fail
    refine (likeInts_any _ _ _ _ _ _ _ _ _ _ _ sR sT (by omega)).mono ?_
    rintro e wl ⟨rfl, dm, hdm⟩
    have hbl : Below wn.heap.size wn wl := hdm ▸ below_drewN (Below.refl _ _) _
    replace hM := hM.all hbl
    replace sR := (sR.below hbl).more hbl.size
    clear hdm hbl sT
    simp only [beq_self_eq_true]
    go_upto_if 100 with fail
    go_cut [] (fun wx => Below w.heap.size w wx)
    case first =>
      by_cases hism : isM os q vs = true
      · obtain rfl : cM = 0 := by rw [← HcM.out]; exact codeM_t hism
        have hq1 : bN = ((rs.length : Int) == 1) := by
          have e1 : bN = decide (rs.length = 1) := by
            rw [← HbN.out, ← Hrs.out]
            unfold ndgM radM
            rw [if_pos hism, hism, Bool.true_and]
          rw [e1]
          by_cases h1 : rs.length = 1
          · simp [h1]
          · simp [h1]; omega
        subst hq1
        have HIM := hide hism
        have IM := hide (isM_iff.1 hism)
        clear hism
        have hn1 := hide (show ∀ x ∈ negL q vs, i64ok x by
          intro x hx
          unfold negL at hx
          obtain ⟨v, _, rfl⟩ := List.mem_map.1 hx
          have d1 := IM.out.ok.d1
          have d2 := IM.out.ok.d2
          have a := Int.emod_nonneg (-v) (show q ≠ 0 by omega)
          have b := Int.emod_lt_of_pos (-v) (show 0 < q by omega)
          exact ⟨by omega, by omega⟩)
        have hNeg := hide (fun W A n c A' n' c' h h' hn hn' => show Calls Try.prog 31 #[.agg #[.slice A n c, .int .i64 q, .slice A' n' c']] W (MkM W os q (negL q vs) 0) by
          have := impl_Negm_any W A n c os q A' n' c' vs h h' hn hn'
          rw [gIf_t HIM.out, gIf_t HIM.out, gIfI_t HIM.out, codeM_t HIM.out] at this
          exact this)
        have hMb := hM.b
        have x0 := hMb.cell 0
        have x1 := hMb.cell 1
        have x2 := hMb.cell 2
        go_wp2_with fail
        clear hMb x0 x1 x2
        refine (hNeg.out _ _ _ _ _ _ _ hM.s1 hM.s2 (by omega) (by omega)).mono ?_
        rintro e wn ⟨v1, v2, rfl, o1, o2, -, hbn⟩
        have hrO := hM.s1.rng
        obtain ⟨C1, f1, rfl, sN1⟩ := o1.sl hrO
        obtain ⟨C2, f2, rfl, sN2⟩ := o2.sl hn1.out
        replace hM := hM.all hbn
        replace sR := (sR.below hbn).more hbn.size
        clear o1 o2 hbn
        have hN := GM.new (q := q) sN1 sN2 hM.kk
        have ln : (negL q vs).length ≤ 64 := by rw [negL_len]; exact lv
        have hbx : Below wn.heap.size wn (wn.alloc (.cells #[.slice C1 os.length f1, .int .i64 q, .slice C2 (negL q vs).length f2] 26)) := (Below.refl _ _).alloc (Nat.le_refl _) _
        replace hM := hM.all hbx
        replace sR := (sR.below hbx).more hbx.size
        obtain ⟨wm, hwm⟩ : ∃ w', wn.alloc (.cells #[.slice C1 os.length f1, .int .i64 q, .slice C2 (negL q vs).length f2] 26) = w' := ⟨_, rfl⟩
        rw [hwm] at hM hN sR
        clear hbx sN1 sN2
        obtain ⟨g1, eg1⟩ : ∃ g, gaG os q vs 1 = g := ⟨_, rfl⟩
        obtain ⟨g2, eg2⟩ : ∃ g, gaG os q vs (-1) = g := ⟨_, rfl⟩
        have Hp := hide (gauss_v IM.out (k := 1) (by decide))
        have Hq := hide (gauss_v (neg_isM IM.out) (k := 1) (by decide))
        have Hr := hide (gauss_v IM.out (k := -1) (by decide))
        rw [eg1] at Hp
        rw [gaG_neg IM.out, eg2] at Hq
        rw [eg2] at Hr
        have HPR := hide (gaG_prod (IM.out))
        have hb1 := gaG_rng IM.out (k := 1) (by decide)
        have hb2 := gaG_rng IM.out (k := -1) (by decide)
        rw [gaG_neg IM.out, eg1, eg2] at HPR
        rw [eg1] at hb1
        rw [eg2] at hb2
        have hPair := hide (pair_rad IM.out)
        rw [Hrs.out] at hPair
        clear eg1 eg2
        have hMb := hM.b
        have x0 := hMb.cell 0
        have x1 := hMb.cell 1
        have x2 := hMb.cell 2
        go_wp2_with fail
        clear hMb x0 x1 x2
        refine (Hp.out _ _ _ _ _ _ _ hM.s1 hM.s2 (by omega) (by omega)).mono ?_
        rintro e wn ⟨rfl, hbn⟩
        (try replace hM := hM.all hbn)
        replace hN := hN.all hbn
        replace sR := (sR.below hbn).more hbn.size
        clear hwm hbn Hp
        have hNb := hN.b
        have x0 := hNb.cell 0
        have x1 := hNb.cell 1
        have x2 := hNb.cell 2
        go_wp2_with fail
        clear hNb x0 x1 x2
        refine (Hq.out _ _ _ _ _ _ _ hN.s1 hN.s2 (by omega) (by omega)).mono ?_
        rintro e wn2 ⟨rfl, hbn⟩
        replace hM := hM.all hbn
        replace hN := hN.all hbn
        replace sR := (sR.below hbn).more hbn.size
        clear hbn Hq
        have hMb := hM.b
        have x0 := hMb.cell 0
        have x1 := hMb.cell 1
        have x2 := hMb.cell 2
        go_wp2_with fail
        clear hMb x0 x1 x2
        refine (Hr.out _ _ _ _ _ _ _ hM.s1 hM.s2 (by omega) (by omega)).mono ?_
        rintro e wn ⟨rfl, hbn⟩
        (try replace hM := hM.all hbn)
        replace sR := (sR.below hbn).more hbn.size
        clear hbn Hr hN
        have lM := hM.b.lt
        generalize hbb : ((rs.length : Int) == 1) = bN at *
        have HQ1 := hide hbb
        clear hbb
        cases bN with
        | true =>
          have hnd : Ndg os q vs := (ndg_iff IM.out).1 (by
            have := Hrs.out
            unfold radM at this
            rw [if_pos HIM.out] at this
            rw [this]
            have := HQ1.out
            simp at this
            omega)
          have hpr := HPR.out hnd
          have hpr0 : g1 * g2 % 55441 = vs.length := hpr
          have HM5 := hide (fun wd (h : Dr wn wd) => mod5_any wd (g1 * g2) (by have := Int.mul_nonneg hb1.1 hb2.1; omega) (mul_cap hb1.1 hb1.2 hb2.1 hb2.2))
          rw [hpr0] at HM5
          have hMb := hM.b
          have c2 := hMb.cell 2
          clear hMb hpr
          have w64 : IntKind.i64.wrap (g1 * g2) = g1 * g2 := wr64 _ ⟨by have := Int.mul_nonneg hb1.1 hb2.1; omega, by have := mul_cap hb1.1 hb1.2 hb2.1 hb2.2; omega⟩
          clear hpr0
          go_wp2_with fail
          refine wp_region_dr [0, 1, 2, 3, 4, 5, 6, 7, 8, 9, 10, 11, 12, 13, 14, 15, 16, 17, 18, 19, 20, 21, 22, 23, 24, 26, 27, 28, 25, 29, 30, 31] 32 wn (by kernel_rfl) (by kernel_rfl) (by kernel_rfl) (fun _ _ _ _ _ h => h) (Dr.refl _) (fun wd hDr => ?_)
          repeat (first | (apply ord_tk rfl (by rfl) (by rfl) (by rfl); (focus (rintro w ⟨dm, rfl⟩; go_simp; (try with_reducible rfl))); (try simp only [Act.put, List.setIfInBounds_toArray, List.set_cons_zero, List.set_cons_succ])) | (apply ord_skip rfl (by rfl) (by rfl) (fun _ => hDr); (try simp only [Act.put, List.setIfInBounds_toArray, List.set_cons_zero, List.set_cons_succ])))
          refine ord_do rfl (by rfl) (by rfl) (fun K hK => ?_)
          go_simp
          refine (HM5.out _ hDr).mono ?_
          rintro e wd' ⟨rfl, dm, hwd⟩
          replace hDr := hDr.step hwd
          clear hwd
          refine hK.out _ _ (fun _ => hDr) ?_
          (try simp only [Act.put, List.setIfInBounds_toArray, List.set_cons_zero, List.set_cons_succ])
          clear hK K
          repeat (first | (apply ord_tk rfl (by rfl) (by rfl) (by rfl); (focus (rintro w ⟨dm, rfl⟩; go_simp; (try with_reducible rfl))); (try simp only [Act.put, List.setIfInBounds_toArray, List.set_cons_zero, List.set_cons_succ])) | (apply ord_skip rfl (by rfl) (by rfl) (fun _ => hDr); (try simp only [Act.put, List.setIfInBounds_toArray, List.set_cons_zero, List.set_cons_succ])))
          refine ord_nil ?_
          obtain ⟨dm5, rfl⟩ := hDr
          replace hM := hM.all (below_drewN (Below.refl _ _) dm5)
          replace sR : Sl (wn.drewN dm5) (wn.drewN dm5).heap.size R1 rs.length d1 rs := sR.below (below_drewN (Below.refl _ _) dm5)
          obtain ⟨w8, hw8⟩ : ∃ w8, wn.drewN dm5 = w8 := ⟨_, rfl⟩
          rw [hw8] at hM sR ⊢
          clear hw8 w64 c2
          go_wp2_with fail
          go_loopw [23] (fun i wr => ∃ a : Nat, a ≤ rs.length ∧ i = .int .i64 a ∧ GM w w2.heap.size A1 c1 A2 c2 os q vs wr ∧ Sl wr wr.heap.size R1 rs.length d1 rs) (fun i _ => rs.length - (intOf i).toNat)
          case atStart => exact ⟨0, by omega, rfl, hM, sR⟩
          case round =>
            clear hM sR
            obtain ⟨a, ha, rfl, hM, sR⟩ := hrel
            by_cases hlt : a < rs.length
            · go_wp2_with fail
              go_loopw [24] (fun i wq => ∃ y : Nat, y ≤ vs.length ∧ i = .int .i64 y ∧ GM w w2.heap.size A1 c1 A2 c2 os q vs wq ∧ Sl wq wq.heap.size R1 rs.length d1 rs) (fun i _ => vs.length - (intOf i).toNat)
              case atStart => exact ⟨0, by omega, rfl, hM, sR⟩
              case round =>
                clear hM sR
                obtain ⟨y, hy, rfl, hM, sR⟩ := hrel
                have hMb := hM.b
                have x0 := hMb.cell 0
                have x1 := hMb.cell 1
                have x2 := hMb.cell 2
                have hMl := hMb.lt
                by_cases hly : y < vs.length
                · obtain ⟨br, orr, rfl, hbr, hcr⟩ := sR.at_ (by omega)
                  have cx := hcr a hlt
                  have hin := hide (gi_mem hlt)
                  have hcap := sR.cap
                  obtain ⟨xr, hxr⟩ : ∃ xr, gi rs a = xr := ⟨_, rfl⟩
                  rw [hxr] at cx hin
                  have hs1 := hM.s1
                  have hs2 := hM.s2
                  have HP := hide (fun wd (h : Below wr.heap.size wr wd) => hPair.out wd _ _ _ _ _ _ xr y ((hs1.below h).more h.size) ((hs2.below h).more h.size) (by omega) (by omega) hin.out (by omega) (by omega))
                  clear hcr hxr hs1 hs2
                  go_wp2_with fail
                  refine wp_region_be [0, 1, 2, 3, 4, 5, 6, 7, 8, 9, 10, 11] 11 wr.heap.size wr (by kernel_rfl) (by kernel_rfl) (by kernel_rfl) (fun _ _ _ _ _ h => h) (Below.refl _ _) (fun wd hBe => ?_)
                  repeat (first | (apply ord_tk rfl (by rfl) (by rfl) (by rfl); (focus (intro wx hSw; have r0 := (hSw.cell (p := ⟨w2.heap.size, 0, none⟩) hMl).trans x0; have r1 := (hSw.cell (p := ⟨w2.heap.size, 1, none⟩) hMl).trans x1; have r2 := (hSw.cell (p := ⟨w2.heap.size, 2, none⟩) hMl).trans x2; have r3 := (hSw.cell (p := ⟨br, orr + a, none⟩) hbr).trans cx; go_simp; (try with_reducible rfl))); (try simp only [Act.put, List.setIfInBounds_toArray, List.set_cons_zero, List.set_cons_succ])) | (apply ord_skip rfl (by rfl) (by rfl) (fun _ => hBe); (try simp only [Act.put, List.setIfInBounds_toArray, List.set_cons_zero, List.set_cons_succ])))
                  refine ord_do rfl (by rfl) (by rfl) (fun K hK => ?_)
                  go_simp
                  refine (HP.out _ hBe).mono ?_
                  rintro e wd' ⟨rfl, hwd⟩
                  replace hBe := hBe.trans (hwd.mono hBe.size)
                  clear hwd
                  refine hK.out _ _ (fun _ => hBe) ?_
                  (try simp only [Act.put, List.setIfInBounds_toArray, List.set_cons_zero, List.set_cons_succ])
                  clear hK K
                  repeat (first | (apply ord_tk rfl (by rfl) (by rfl) (by rfl); (focus (intro wx hSw; skip; go_simp; (try with_reducible rfl))); (try simp only [Act.put, List.setIfInBounds_toArray, List.set_cons_zero, List.set_cons_succ])) | (apply ord_skip rfl (by rfl) (by rfl) (fun _ => hBe); (try simp only [Act.put, List.setIfInBounds_toArray, List.set_cons_zero, List.set_cons_succ])))
                  refine ord_do rfl (by rfl) (by rfl) (fun K hK => ?_)
                  go_simp
                  refine hK.out _ _ (fun h => absurd h (by omega)) ?_
                  (try simp only [Act.put, List.setIfInBounds_toArray, List.set_cons_zero, List.set_cons_succ])
                  clear hK K
                  refine ord_nil ?_
                  replace hM := hM.all hBe
                  replace sR := (sR.below hBe).more hBe.size
                  clear x0 x1 x2 hMb cx HP hBe hbr hMl
                  go_wp2_with fail
                  go_roundw
                  case rel => exact ⟨y + 1, by omega, by go_num, hM, sR⟩
                  case measure => simp [intOf] <;> omega
                · clear hMl
                  go_wp2_with fail
                  clear x0 x1 x2 hMb
                  go_roundw
                  case rel => exact ⟨a + 1, by omega, by go_num, hM, sR⟩
                  case measure => simp [intOf] <;> omega
            · go_wp2_with fail
              go_meet
              exact hM.kk
        | false =>
          go_wp2_with fail
          refine wp_region_dr [0, 1, 2, 3, 4, 5, 6, 7, 8, 9, 10, 11, 12, 13, 14, 15, 16, 17, 18, 19, 20, 21, 22, 23, 24, 26, 27, 28, 25, 29, 30, 31] 32 wn (by kernel_rfl) (by kernel_rfl) (by kernel_rfl) (fun _ _ _ _ _ h => h) (Dr.refl _) (fun wd hDr => ?_)
          repeat (first | (apply ord_tk rfl (by rfl) (by rfl) (by rfl); (focus (rintro w ⟨dm, rfl⟩; go_simp; (try with_reducible rfl))); (try simp only [Act.put, List.setIfInBounds_toArray, List.set_cons_zero, List.set_cons_succ])) | (apply ord_skip rfl (by rfl) (by rfl) (fun _ => hDr); (try simp only [Act.put, List.setIfInBounds_toArray, List.set_cons_zero, List.set_cons_succ])))
          refine ord_nil ?_
          obtain ⟨dm5, rfl⟩ := hDr
          replace hM := hM.all (below_drewN (Below.refl _ _) dm5)
          replace sR : Sl (wn.drewN dm5) (wn.drewN dm5).heap.size R1 rs.length d1 rs := sR.below (below_drewN (Below.refl _ _) dm5)
          obtain ⟨w8, hw8⟩ : ∃ w8, wn.drewN dm5 = w8 := ⟨_, rfl⟩
          rw [hw8] at hM sR ⊢
          clear hw8
          go_wp2_with fail
          go_loopw [23] (fun i wr => ∃ a : Nat, a ≤ rs.length ∧ i = .int .i64 a ∧ GM w w2.heap.size A1 c1 A2 c2 os q vs wr ∧ Sl wr wr.heap.size R1 rs.length d1 rs) (fun i _ => rs.length - (intOf i).toNat)
          case atStart => exact ⟨0, by omega, rfl, hM, sR⟩
          case round =>
            clear hM sR
            obtain ⟨a, ha, rfl, hM, sR⟩ := hrel
            by_cases hlt : a < rs.length
            · go_wp2_with fail
              go_loopw [24] (fun i wq => ∃ y : Nat, y ≤ vs.length ∧ i = .int .i64 y ∧ GM w w2.heap.size A1 c1 A2 c2 os q vs wq ∧ Sl wq wq.heap.size R1 rs.length d1 rs) (fun i _ => vs.length - (intOf i).toNat)
              case atStart => exact ⟨0, by omega, rfl, hM, sR⟩
              case round =>
                clear hM sR
                obtain ⟨y, hy, rfl, hM, sR⟩ := hrel
                have hMb := hM.b
                have x0 := hMb.cell 0
                have x1 := hMb.cell 1
                have x2 := hMb.cell 2
                have hMl := hMb.lt
                by_cases hly : y < vs.length
                · obtain ⟨br, orr, rfl, hbr, hcr⟩ := sR.at_ (by omega)
                  have cx := hcr a hlt
                  have hin := hide (gi_mem hlt)
                  have hcap := sR.cap
                  obtain ⟨xr, hxr⟩ : ∃ xr, gi rs a = xr := ⟨_, rfl⟩
                  rw [hxr] at cx hin
                  have hs1 := hM.s1
                  have hs2 := hM.s2
                  have HP := hide (fun wd (h : Below wr.heap.size wr wd) => hPair.out wd _ _ _ _ _ _ xr y ((hs1.below h).more h.size) ((hs2.below h).more h.size) (by omega) (by omega) hin.out (by omega) (by omega))
                  clear hcr hxr hs1 hs2
                  go_wp2_with fail
                  refine wp_region_be [0, 1, 2, 3, 4, 5, 6, 7, 8, 9, 10, 11] 11 wr.heap.size wr (by kernel_rfl) (by kernel_rfl) (by kernel_rfl) (fun _ _ _ _ _ h => h) (Below.refl _ _) (fun wd hBe => ?_)
                  repeat (first | (apply ord_tk rfl (by rfl) (by rfl) (by rfl); (focus (intro wx hSw; have r0 := (hSw.cell (p := ⟨w2.heap.size, 0, none⟩) hMl).trans x0; have r1 := (hSw.cell (p := ⟨w2.heap.size, 1, none⟩) hMl).trans x1; have r2 := (hSw.cell (p := ⟨w2.heap.size, 2, none⟩) hMl).trans x2; have r3 := (hSw.cell (p := ⟨br, orr + a, none⟩) hbr).trans cx; go_simp; (try with_reducible rfl))); (try simp only [Act.put, List.setIfInBounds_toArray, List.set_cons_zero, List.set_cons_succ])) | (apply ord_skip rfl (by rfl) (by rfl) (fun _ => hBe); (try simp only [Act.put, List.setIfInBounds_toArray, List.set_cons_zero, List.set_cons_succ])))
                  refine ord_do rfl (by rfl) (by rfl) (fun K hK => ?_)
                  go_simp
                  refine (HP.out _ hBe).mono ?_
                  rintro e wd' ⟨rfl, hwd⟩
                  replace hBe := hBe.trans (hwd.mono hBe.size)
                  clear hwd
                  refine hK.out _ _ (fun _ => hBe) ?_
                  (try simp only [Act.put, List.setIfInBounds_toArray, List.set_cons_zero, List.set_cons_succ])
                  clear hK K
                  repeat (first | (apply ord_tk rfl (by rfl) (by rfl) (by rfl); (focus (intro wx hSw; skip; go_simp; (try with_reducible rfl))); (try simp only [Act.put, List.setIfInBounds_toArray, List.set_cons_zero, List.set_cons_succ])) | (apply ord_skip rfl (by rfl) (by rfl) (fun _ => hBe); (try simp only [Act.put, List.setIfInBounds_toArray, List.set_cons_zero, List.set_cons_succ])))
                  refine ord_do rfl (by rfl) (by rfl) (fun K hK => ?_)
                  go_simp
                  refine hK.out _ _ (fun h => absurd h (by omega)) ?_
                  (try simp only [Act.put, List.setIfInBounds_toArray, List.set_cons_zero, List.set_cons_succ])
                  clear hK K
                  refine ord_nil ?_
                  replace hM := hM.all hBe
                  replace sR := (sR.below hBe).more hBe.size
                  clear x0 x1 x2 hMb cx HP hBe hbr hMl
                  go_wp2_with fail
                  go_roundw
                  case rel => exact ⟨y + 1, by omega, by go_num, hM, sR⟩
                  case measure => simp [intOf] <;> omega
                · clear hMl
                  go_wp2_with fail
                  clear x0 x1 x2 hMb
                  go_roundw
                  case rel => exact ⟨a + 1, by omega, by go_num, hM, sR⟩
                  case measure => simp [intOf] <;> omega
            · go_wp2_with fail
              go_meet
              exact hM.kk
      · have hc1 : cM = 1 := by rw [← HcM.out]; unfold codeM; rw [if_neg hism]
        subst hc1
        go_wp2_with fail
        go_meet
        exact hM.kk
    case rest =>
      clear hM sR lr
      have kx := hcut
      have hb9 : SlB wc wc.heap.size A n c bs := ⟨hS.len, hS.cap, hS.rng, fun h0 => by
        obtain ⟨b, off, e, hlt, hc⟩ := hS.at_ h0
        exact ⟨b, off, e, by have := kx.size; omega, fun k hk => (kx.cell (p := ⟨b, off + k, none⟩) hlt).trans (hc k hk)⟩⟩
      go_wp2_with fail
      refine (drawSum_any wc A n c bs hb9 hn).mono ?_
      rintro e w9 ⟨A1, c1, A2, c2, os, q, vs, E1, d1, E2, d2, ps, y, us, rfl, hG, hG2, s1, s2, t1, t2, hb9⟩
      have kk9 := kx.trans (hb9.mono kx.size)
      clear hb9 kx hcut
      have lo1 := hG.o
      have lv1 := hG.v
      have lo2 := hG2.o
      have lv2 := hG2.v
      obtain ⟨ro, rq, rv, code, hSC⟩ := sum_cases os q vs ps y us s1.rng t1.rng
      go_wp2_with fail
      obtain ⟨wa, hwa⟩ : ∃ wa, w9.alloc (.cells #[.slice A1 os.length c1, .int .i64 q, .slice A2 vs.length c2] 26) = wa := ⟨_, rfl⟩
      have hM1 := GM.new (q := q) s1 s2 kk9
      have hba : Below w9.heap.size w9 wa := by rw [← hwa]; exact (Below.refl _ _).alloc (Nat.le_refl _) _
      have hza : wa.heap.size = w9.heap.size + 1 := by rw [← hwa]; simp
      rw [hwa] at hM1
      have hN1 := GM.new (q := y) ((t1.below hba).more hba.size) ((t2.below hba).more hba.size) (kk9.trans (hba.mono kk9.size))
      obtain ⟨wb, hwb⟩ : ∃ wb, wa.alloc (.cells #[.slice E1 ps.length d1, .int .i64 y, .slice E2 us.length d2] 26) = wb := ⟨_, rfl⟩
      have hbb : Below wa.heap.size wa wb := by rw [← hwb]; exact (Below.refl _ _).alloc (Nat.le_refl _) _
      rw [hwb] at hN1
      rw [hza] at hN1
      replace hM1 := hM1.all hbb
      clear s1 s2 t1 t2 hba hza hbb hb9 kk9
      rw [hwa, hwb]
      clear hwa hwb
      refine (hSC.im _ _ _ _ _ _ _ _ _ _ _ _ _ hM1.s1 hM1.s2 hN1.s1 hN1.s2 (by omega) (by omega) (by omega) (by omega)).mono ?_
      rintro e wd ⟨v1, v2, rfl, o1, o2, -, hbn⟩
      obtain ⟨B1, f1, rfl, r1⟩ := o1.sl hSC.r1
      obtain ⟨B2, f2, rfl, r2⟩ := o2.sl hSC.r2
      replace hM1 := hM1.all hbn
      replace hN1 := hN1.all hbn
      clear o1 o2 hbn
      have hR1 := GM.new (q := rq) r1 r2 hM1.kk
      obtain ⟨we, hwe⟩ : ∃ we, wd.alloc (.cells #[.slice B1 ro.length f1, .int .i64 rq, .slice B2 rv.length f2] 26) = we := ⟨_, rfl⟩
      have hbn : Below wd.heap.size wd we := by rw [← hwe]; exact (Below.refl _ _).alloc (Nat.le_refl _) _
      rw [hwe] at hR1
      replace hM1 := hM1.all hbn
      replace hN1 := hN1.all hbn
      clear hbn r1 r2
      have hMb := hM1.b
      have hNb := hN1.b
      have x0 := hMb.cell 0
      have x1 := hMb.cell 1
      have x2 := hMb.cell 2
      have z0 := hNb.cell 0
      have z1 := hNb.cell 1
      have z2 := hNb.cell 2
      go_wp2_with fail
      clear x0 x1 x2 z0 z1 z2 hMb hNb hwe
      refine (hSC.sp _ _ _ _ _ _ _ _ _ _ _ _ _ hM1.s1 hM1.s2 hN1.s1 hN1.s2 (by omega) (by omega) (by omega) (by omega)).mono ?_
      rintro e wf ⟨v1, v2, rfl, o1, o2, -, hbn⟩
      obtain ⟨F1, g1, rfl, r1⟩ := o1.sl hSC.r1
      obtain ⟨F2, g2, rfl, r2⟩ := o2.sl hSC.r2
      replace hM1 := hM1.all hbn
      replace hN1 := hN1.all hbn
      replace hR1 := hR1.all hbn
      clear o1 o2 hbn
      have hR2 := GM.new (q := rq) r1 r2 hM1.kk
      obtain ⟨wg, hwg⟩ : ∃ wg, wf.alloc (.cells #[.slice F1 ro.length g1, .int .i64 rq, .slice F2 rv.length g2] 26) = wg := ⟨_, rfl⟩
      have hbn : Below wf.heap.size wf wg := by rw [← hwg]; exact (Below.refl _ _).alloc (Nat.le_refl _) _
      rw [hwg] at hR2
      replace hM1 := hM1.all hbn
      replace hN1 := hN1.all hbn
      replace hR1 := hR1.all hbn
      clear hbn r1 r2
      have hMb := hR1.b
      have hNb := hR2.b
      have x0 := hMb.cell 0
      have x1 := hMb.cell 1
      have x2 := hMb.cell 2
      have z0 := hNb.cell 0
      have z1 := hNb.cell 1
      have z2 := hNb.cell 2
      have hcc : (code != code) = false := by simp
      go_wp2_with fail
      clear x0 x1 x2 z0 z1 z2 hMb hNb hwg hcc
      refine (likeM_any _ _ _ _ _ _ _ _ _ _ _ _ _ _ _ _ _ _ _ _ hR1.s1 hR1.s2 hR2.s1 hR2.s2 (Nat.le_refl _) hSC.l1 hSC.l2).mono ?_
      rintro e wh ⟨rfl, hbn⟩
      replace hM1 := hM1.all hbn
      replace hN1 := hN1.all hbn
      replace hR1 := hR1.all hbn
      clear hbn hR2
      have heq : (ro == ro && (rq == rq && rv == rv)) = true := by simp
      rw [heq]
      clear heq
      by_cases hc0 : code = 0
      · subst hc0
        have hOk := hSC.ok rfl
        have hl1 := hOk.m.ok.g.l4
        have hl2 := hOk.m.ok.lt
        have HOK := hide hOk
        clear hOk hSC
        have hbS : SlB wh wh.heap.size A n c bs := ⟨hS.len, hS.cap, hS.rng, fun h0 => by
          obtain ⟨b, off, e, hlt, hc⟩ := hS.at_ h0
          exact ⟨b, off, e, by have := hM1.kk.size; omega, fun k hk => (hM1.kk.cell (p := ⟨b, off + k, none⟩) hlt).trans (hc k hk)⟩⟩
        go_wp2_with fail
        refine (roll_any wh A n c bs hbS hn _).mono ?_
        rintro e wi ⟨S, rfl, hD⟩
        go_wp2_with fail
        refine (dice_any wh wi _ S A n c bs hbS (by omega) hD 40 ⟨by omega, by omega⟩).mono ?_
        rintro e wj ⟨x, rfl, ⟨x0, x1, -⟩, hD2, -⟩
        have x1 := x1 (by omega)
        have hbn := hD2.below
        replace hM1 := hM1.all hbn
        replace hN1 := hN1.all hbn
        replace hR1 := hR1.all hbn
        clear hbn hD hD2 hbS
        have hx : IntKind.i64.wrap (x - 20) = x - 20 := wr64 _ ⟨by omega, by omega⟩
        have hk : inB (x - 20) (-100000) 100000 = true := by unfold inB; simp; omega
        have Hp := hide (gauss_v HOK.out.m1 hk)
        have Hq := hide (gauss_v HOK.out.m2 hk)
        have Hr := hide (gauss_v HOK.out.m hk)
        have hga := HOK.out.ga _ hk
        have hb1 := gaG_rng HOK.out.m1 hk
        have hb2 := gaG_rng HOK.out.m2 hk
        obtain ⟨g1', e1⟩ : ∃ g, gaG os q vs (x - 20) = g := ⟨_, rfl⟩
        obtain ⟨g2', e2⟩ : ∃ g, gaG ps y us (x - 20) = g := ⟨_, rfl⟩
        obtain ⟨g3', e3⟩ : ∃ g, gaG ro rq rv (x - 20) = g := ⟨_, rfl⟩
        rw [e1] at Hp hb1 hga
        rw [e2] at Hq hb2 hga
        rw [e3] at Hr hga
        obtain ⟨k9, hk9⟩ : ∃ k9, x - 20 = k9 := ⟨_, rfl⟩
        rw [hk9] at Hp Hq Hr
        replace hx : IntKind.i64.wrap (x - 20) = k9 := by rw [hx]; exact hk9
        clear e1 e2 e3 hk hk9 x1 x0
        have hMb := hM1.b
        have x0 := hMb.cell 0
        have x1 := hMb.cell 1
        have x2 := hMb.cell 2
        go_wp2_with fail
        clear x0 x1 x2 hMb
        refine (Hp.out _ _ _ _ _ _ _ hM1.s1 hM1.s2 (by omega) (by omega)).mono ?_
        rintro e wk ⟨rfl, hbn⟩
        replace hN1 := hN1.all hbn
        replace hR1 := hR1.all hbn
        clear hbn hM1
        have hMb := hN1.b
        have x0 := hMb.cell 0
        have x1 := hMb.cell 1
        have x2 := hMb.cell 2
        go_wp2_with fail
        clear x0 x1 x2 hMb
        refine (Hq.out _ _ _ _ _ _ _ hN1.s1 hN1.s2 (by omega) (by omega)).mono ?_
        rintro e wl2 ⟨rfl, hbn⟩
        replace hR1 := hR1.all hbn
        clear hbn hN1
        have hMb := hR1.b
        have x0 := hMb.cell 0
        have x1 := hMb.cell 1
        have x2 := hMb.cell 2
        go_wp2_with fail
        clear x0 x1 x2 hMb
        refine (Hr.out _ _ _ _ _ _ _ hR1.s1 hR1.s2 (by omega) (by omega)).mono ?_
        rintro e wm2 ⟨rfl, hbn⟩
        replace hR1 := hR1.all hbn
        clear hbn
        have hMb := hR1.b
        have x0 := hMb.cell 0
        have x1 := hMb.cell 1
        have x2 := hMb.cell 2
        have m0 := Int.mul_nonneg hb1.1 hb2.1
        have m1 := mul_cap hb1.1 hb1.2 hb2.1 hb2.2
        have w64 : IntKind.i64.wrap (g1' * g2') = g1' * g2' := wr64 _ ⟨by omega, by omega⟩
        go_wp2_with fail
        clear x0 x1 x2 hMb
        refine (implIs_v true _ _ _ _ _ _ _ _ _ _ hR1.s1 hR1.s2 (by omega) (by omega) (isM_t HOK.out.m)).mono ?_
        rintro e wn2 ⟨rfl, hbn⟩
        replace hR1 := hR1.all hbn
        clear hbn
        go_wp2_with fail
        refine (mod5_any _ _ (by omega) m1).mono ?_
        rintro e wo2 ⟨rfl, m9, rfl⟩
        rw [hga]
        have hgg : (g3' == g3') = true := by simp
        have hfin := below_drewN hR1.kk m9
        go_wp2_with fail
        go_ret
        exact ⟨by simp, hfin⟩
      · have hcn : (code != 0) = true := by simp [hc0]
        clear hc0
        go_wp2_with fail
        go_ret
        exact ⟨rfl, hM1.kk⟩
end Go.Proofs.Ytnoemhmmaicakaa
